import Derived.Test.YtpkpfgpfkajkpaaGCoQ7
import Derived.Test.YtpkpfgpfkajkpaaGCoS1
import Derived.Test.YtpkpfgpfkajkpaaGCoP3
namespace Go.Proofs.Ytpkpfgpfkajkpaa
open Go.Av Go.Proofs
set_option maxRecDepth 20000
inductive Ch (ks : List Int) (bs : Nat) : List Nat → List Nat → Prop
 | last (l d : List Nat) : l.length ≤ bs → d.Perm l → d.Pairwise (ltK ks) → Ch ks bs l d
 | cons (l d L D : List Nat) : l.length = bs → d.Perm l → d.Pairwise (ltK ks) → Ch ks bs L D → Ch ks bs (l ++ L) (d ++ D)
theorem Ch.len {ks : List Int} {bs : Nat} {L D : List Nat} (h : Ch ks bs L D) : D.length = L.length := by
 induction h with
 | last l d _ hp _ => exact hp.length_eq
 | cons l d L D _ hp _ _ ih => rw [List.length_append, List.length_append, hp.length_eq, ih]
theorem Ch.one {ks : List Int} {bs : Nat} {L D : List Nat} (h : Ch ks bs L D) (hl : L.length ≤ bs) : D.Perm L ∧ D.Pairwise (ltK ks) := by
 cases h with
 | last l d _ hp hs => exact ⟨hp, hs⟩
 | cons l d L D h1 hp hs h2 =>
  rw [List.length_append] at hl
  have e1 : L = [] := List.length_eq_zero_iff.1 (by omega)
  subst e1
  have e2 : D = [] := List.length_eq_zero_iff.1 (by rw [h2.len]; rfl)
  subst e2
  rw [List.append_nil, List.append_nil]
  exact ⟨hp, hs⟩
theorem Ch.head {ks : List Int} {bs : Nat} {L D : List Nat} (h : Ch ks bs L D) (hl : bs < L.length) : ∃ l d L1 D1, L = l ++ L1 ∧ D = d ++ D1 ∧ l.length = bs ∧ d.Perm l ∧ d.Pairwise (ltK ks) ∧ Ch ks bs L1 D1 := by
 cases h with
 | last l d h1 hp hs => exact absurd hl (by omega)
 | cons l d L D h1 hp hs h2 => exact ⟨l, d, L, D, rfl, rfl, h1, hp, hs, h2⟩
theorem Ch.headE {ks : List Int} {bs : Nat} {L D : List Nat} (h : Ch ks bs L D) (hl : bs ≤ L.length) : ∃ l d L1 D1, L = l ++ L1 ∧ D = d ++ D1 ∧ l.length = bs ∧ d.Perm l ∧ d.Pairwise (ltK ks) ∧ Ch ks bs L1 D1 := by
 by_cases h2 : bs < L.length
 ·exact h.head h2
 ·obtain ⟨q1, q2⟩ := h.one (by omega)
  exact ⟨L, D, [], [], (List.append_nil _).symm, (List.append_nil _).symm, by omega, q1, q2, .last [] [] (Nat.zero_le _) (.refl _) .nil⟩
theorem twoK_of {ks : List Int} {P0 l1 l2 R0 d1 d2 : List Nat} (hL : (P0 ++ (l1 ++ (l2 ++ R0))).Pairwise (· < ·)) (hk : ∀ x ∈ P0 ++ (l1 ++ (l2 ++ R0)), x < ks.length) (p1 : d1.Perm l1) (s1 : d1.Pairwise (ltK ks)) (p2 : d2.Perm l2) (s2 : d2.Pairwise (ltK ks)) : TwoK ks d1 d2 := by
 obtain ⟨_, q, _⟩ := List.pairwise_append.1 hL
 obtain ⟨_, _, q3⟩ := List.pairwise_append.1 q
 refine ⟨s1, s2, fun a ha b hb => q3 a (p1.mem_iff.1 ha) b (List.mem_append_left _ (p2.mem_iff.1 hb)), fun a ha => hk a ?_, fun a ha => hk a ?_⟩
 ·have := p1.mem_iff.1 ha
  simp [this]
 ·have := p2.mem_iff.1 ha
  simp [this]
theorem insert_at {ks : List Int} {A S B L : List Nat} {a b N : Nat} (hS : S.Pairwise (· < ·)) (hk : ∀ x ∈ S, x < ks.length) (hl : L.length ≤ 1000000) (ha : a = A.length) (hb : b = A.length + S.length) (hN : N = L.length) (hL : L = A ++ (S ++ B)) :
  CallOK Try.prog 117 [.hsl 0 0 0 N, .sc (.int .i64 (a : Int)), .sc (.int .i64 (b : Int)), .clo (.func 71) [] [.cptr [.list 1 (intsR ks)]]] [[.cells 1 (natsR L)]]
   fun res H' => res = .tup [] ∧ ∃ S', S'.Perm S ∧ S'.Pairwise (ltK ks) ∧ H' = [[.cells 1 (natsR (A ++ (S' ++ B)))]] := by
 subst ha; subst hb; subst hN; subst hL
 exact insert_ok ks A S B hS hk hl
set_option maxHeartbeats 16000000 in
theorem stable_ok (ks : List Int) (L : List Nat) (hL : L.Pairwise (· < ·)) (hk : ∀ x ∈ L, x < ks.length) (hl : L.length ≤ 64) :
  CallOK Try.prog 106 [.hsl 0 0 0 L.length, .sc (.int .i64 (L.length : Int)), cmpV ks] [[.cells 1 (natsR L)]] fun res H' => res = .tup [] ∧ ∃ D, D.Perm L ∧ D.Pairwise (ltK ks) ∧ H' = [[.cells 1 (natsR D)]] := by
 unfold cmpV
 refine CallOK.of cF106 ?_ (Nat.le_of_ble_eq_true rfl)
 have hpv : PV (AV.clo (.func 71) [] [.cptr [.list 1 (intsR ks)]]) := ⟨cmpV_pure ks⟩
 generalize hN : L.length = N at *
 refine walkX ?_
 refine AWP.loop (σ := List Nat × List Nat × List Nat) (fun s => [(0, .hsl 0 0 0 N), (1, .sc (.int .i64 (N : Int))), (2, .clo (.func 71) [] [.cptr [.list 1 (intsR ks)]]), (6, .sc (.int .i64 20)), (7, .sc (.int .i64 (s.1.length : Int))), (8, .sc (.int .i64 ((s.1.length + 20 : Nat) : Int)))])
  (fun s => [[.cells 1 (natsR (s.2.1 ++ s.2.2))]]) (fun s => L = s.1 ++ s.2.2 ∧ s.2.1.length = s.1.length ∧ ∀ Q', Ch ks 20 s.2.2 Q' → Ch ks 20 L (s.2.1 ++ Q')) (fun s => s.2.2.length) ([], [], L) ⟨rfl, rfl, fun _ h => h⟩ ?_ ?_
 ·exact Sub.wx [] [[(0,0)]]
 rintro ⟨P0, P, Q⟩ ⟨hLe, hPl, hQ⟩
 dsimp only at hLe hPl hQ ⊢
 have hNl : N = P0.length + Q.length := by rw [← hN, hLe, List.length_append]
 have hLp : (P0 ++ Q).Pairwise (· < ·) := hLe ▸ hL
 have hLk : ∀ x ∈ P0 ++ Q, x < ks.length := hLe ▸ hk
 refine walkX0 ?_
 refine AWP.condD rfl (fun h => ?_) (fun h => ?_)
 ·have hQ2 : Q = Q.take 20 ++ Q.drop 20 := (List.take_append_drop _ _).symm
  have hq : (Q.take 20).length = 20 := by rw [List.length_take]; omega
  generalize Q.take 20 = q at *
  generalize Q.drop 20 = Q1 at *
  subst hQ2
  rw [List.length_append] at hNl
  have hqs : q.Pairwise (· < ·) := (List.pairwise_append.1 (List.pairwise_append.1 hLp).2.1).1
  refine walkX ?_
  refine Reg.c (Nat.le_refl _) rfl ((insert_at (A := P) (S := q) (B := Q1) (ks := ks) (L := P ++ (q ++ Q1)) hqs (fun x hx => hLk x (by simp [hx])) (by simp only [List.length_append]; omega) hPl.symm (by omega) (by simp only [List.length_append]; omega) rfl).mono ?_)
  rintro res H' ⟨rfl, S', h1, h2, rfl⟩
  have hSl := h1.length_eq
  refine walkX ?_
  refine ⟨(P0 ++ q, P ++ S', Q1), ⟨by rw [hLe]; simp, by simp only [List.length_append]; omega, fun Q' hQ' => ?_⟩, by dsimp only; rw [List.length_append]; omega, ?_⟩
  ·dsimp only at hQ' ⊢
   rw [List.append_assoc]
   exact hQ _ (.cons q S' Q1 Q' hq h1 h2 hQ')
  dsimp only
  rw [List.length_append, hq, ← List.append_assoc P S' Q1]
  exact Sub.wx [] [[(0,0)]]
 refine walkX ?_
 refine Reg.c (Nat.le_refl _) rfl ((insert_at (A := P) (S := Q) (B := []) (ks := ks) (L := P ++ Q) (List.pairwise_append.1 hLp).2.1 (fun x hx => hLk x (by simp [hx])) (by rw [List.length_append]; omega) hPl.symm (by omega) (by rw [List.length_append]; omega) (by simp)).mono ?_)
 rintro res H' ⟨rfl, S', h1, h2, rfl⟩
 have hSl := h1.length_eq
 have hch : Ch ks 20 L (P ++ (S' ++ [])) := by
  rw [List.append_nil]
  exact hQ _ (.last Q S' (by omega) h1 h2)
 clear hQ h1 h2 hSl hPl hLe hLp hLk hNl h
 generalize P ++ (S' ++ []) = D at *
 refine walkX ?_
 refine AWP.loop (σ := Nat × List Nat) (fun s => [(0, .hsl 0 0 0 N), (1, .sc (.int .i64 (N : Int))), (2, .clo (.func 71) [] [.cptr [.list 1 (intsR ks)]]), (6, .sc (.int .i64 (s.1 : Int)))])
  (fun s => [[.cells 1 (natsR s.2)]]) (fun s => 0 < s.1 ∧ s.1 ≤ 128 ∧ Ch ks s.1 L s.2) (fun s => N - s.1) (20, D) ⟨by dsimp only; omega, by dsimp only; omega, hch⟩ ?_ ?_
 ·exact Sub.wx [] [[(0,0)]]
 clear hch
 rintro ⟨bs, D⟩ ⟨hb0, hb1, hch⟩
 dsimp only at hb0 hb1 hch ⊢
 refine walkX0 ?_
 refine AWP.condD rfl (fun h => ?_) (fun h => ?_)
 ·refine walkX ?_
  refine AWP.loop (σ := List Nat × List Nat × List Nat × List Nat) (fun s => [(0, .hsl 0 0 0 N), (1, .sc (.int .i64 (N : Int))), (2, .clo (.func 71) [] [.cptr [.list 1 (intsR ks)]]), (6, .sc (.int .i64 (bs : Int))), (7, .sc (.int .i64 (s.1.length : Int))), (8, .sc (.int .i64 ((s.1.length + 2 * bs : Nat) : Int)))])
   (fun s => [[.cells 1 (natsR (s.2.1 ++ s.2.2.2))]]) (fun s => L = s.1 ++ s.2.2.1 ∧ s.2.1.length = s.1.length ∧ Ch ks bs s.2.2.1 s.2.2.2 ∧ ∀ Q', Ch ks (2 * bs) s.2.2.1 Q' → Ch ks (2 * bs) L (s.2.1 ++ Q')) (fun s => s.2.2.1.length) ([], [], L, D) ⟨rfl, rfl, hch, fun _ h => h⟩ ?_ ?_
  ·exact Sub.wx [] [[(0,0)]]
  rintro ⟨P0, P, Q0, Q⟩ ⟨hLe, hPl, hcQ, hQ⟩
  dsimp only at hLe hPl hcQ hQ ⊢
  have hNl : N = P0.length + Q0.length := by rw [← hN, hLe, List.length_append]
  have hQl := hcQ.len
  have hLp : (P0 ++ Q0).Pairwise (· < ·) := hLe ▸ hL
  have hLk : ∀ x ∈ P0 ++ Q0, x < ks.length := hLe ▸ hk
  refine walkX0 ?_
  refine AWP.condD rfl (fun g => ?_) (fun g => ?_)
  ·obtain ⟨l1, d1, L1, D1, rfl, rfl, e1, p1, s1, c1⟩ := hcQ.headE (by omega)
   rw [List.length_append] at hNl
   obtain ⟨l2, d2, L2, D2, rfl, rfl, e2, p2, s2, c2⟩ := c1.headE (by omega)
   rw [List.length_append] at hNl
   have q1 := p1.length_eq
   have q2 := p2.length_eq
   have q3 := c2.len
   have ht := twoK_of hLp hLk p1 s1 p2 s2
   have hsy := sym_ok ks _ P d1 d2 D2 (Nat.le_refl _) (by omega) (by omega) ht (by simp only [List.length_append]; omega)
   refine walkX ?_
   refine Reg.c (Nat.le_refl _) rfl ((sym_at (L := P ++ (d1 ++ (d2 ++ D2))) hsy hPl.symm (by omega) (by omega) (by simp only [List.length_append]; omega) rfl).mono ?_)
   rintro res H' ⟨rfl, Z, hZ, rfl⟩
   have hZl := hZ.1.length_eq
   rw [List.length_append] at hZl
   refine walkX ?_
   refine ⟨(P0 ++ (l1 ++ l2), P ++ Z, L2, D2), ⟨by rw [hLe]; simp, by simp only [List.length_append]; omega, c2, fun Q' hQ' => ?_⟩, by simp only [List.length_append]; omega, ?_⟩
   ·dsimp only at hQ' ⊢
    rw [List.append_assoc]
    have := hQ (Z ++ Q')
    rw [← List.append_assoc l1 l2] at this
    exact this (.cons (l1 ++ l2) Z L2 Q' (by rw [List.length_append]; omega) (hZ.1.trans (List.Perm.append p1 p2)) hZ.2 hQ')
   dsimp only
   rw [show (P0 ++ (l1 ++ l2)).length = P0.length + 2 * bs by simp only [List.length_append]; omega, ← List.append_assoc P Z D2]
   exact Sub.wx [] [[(0,0)]]
  refine walkX ?_
  by_cases hm : bs < Q0.length
  ·rw [decide_eq_true (show P0.length + bs < N by omega)]
   obtain ⟨l1, d1, L1, D1, rfl, rfl, e1, p1, s1, c1⟩ := hcQ.head hm
   rw [List.length_append] at hNl hm
   have q1 := p1.length_eq
   have q3 := c1.len
   obtain ⟨p2, s2⟩ := c1.one (by omega)
   rw [← List.append_nil L1] at hLp hLk
   have ht := twoK_of hLp hLk p1 s1 p2 s2
   have hsy := sym_ok ks _ P d1 D1 [] (Nat.le_refl _) (by omega) (by omega) ht (by simp only [List.length_append, List.length_nil]; omega)
   refine walkX ?_
   refine Reg.c (Nat.le_refl _) rfl ((sym_at (L := P ++ (d1 ++ D1)) hsy hPl.symm (by omega) (by omega) (by simp only [List.length_append]; omega) (by simp)).mono ?_)
   rintro res H' ⟨rfl, Z, hZ, rfl⟩
   have hZl := hZ.1.length_eq
   rw [List.length_append] at hZl
   refine walkX ?_
   refine ⟨(bs * 2, P ++ (Z ++ [])), ⟨by dsimp only; omega, by dsimp only; omega, ?_⟩, by dsimp only; omega, ?_⟩
   ·dsimp only
    rw [List.append_nil, Nat.mul_comm]
    exact hQ _ (.last _ Z (by rw [List.length_append]; omega) (hZ.1.trans (List.Perm.append p1 p2)) hZ.2)
   exact Sub.wx [] [[(0,0)]]
  ·rw [decide_eq_false (show ¬ P0.length + bs < N by omega)]
   obtain ⟨p1, s1⟩ := hcQ.one (by omega)
   refine walkX ?_
   refine ⟨(bs * 2, P ++ Q), ⟨by dsimp only; omega, by dsimp only; omega, ?_⟩, by dsimp only; omega, ?_⟩
   ·dsimp only
    rw [Nat.mul_comm]
    exact hQ _ (.last _ Q (by omega) p1 s1)
   exact Sub.wx [] [[(0,0)]]
 refine walkX ?_
 obtain ⟨q1, q2⟩ := hch.one (by omega)
 refine endH (res' := .tup []) [[(0,0)]] (by first | exact .inl rfl | exact .inr rfl) rfl ⟨rfl, D, q1, q2, rfl⟩ ?_ ?_ rfl rfl rfl
 (all_goals (repeat' (first | exact ToAll.nil | exact famsTo.nil | exact famTo.nil | exact ToL.nil | exact ToR.nil | refine ToAll.cons ?_ ?_ | refine famsTo.cons ?_ ?_ | refine wt10 ?_ ?_ | exact To.undef _ | exact To.sc _ | exact To.hslL rfl rfl | exact To.ptrO rfl rfl rfl | exact To.mrefO rfl | exact To.nil rfl rfl rfl | exact wt1 | exact To.nilL | refine To.int ?_ | refine To.bool ?_ | refine To.hslL rfl ?_ | refine wt2 rfl ?_ ?_ ?_ | refine To.tupL ?_ | refine To.aggL ?_ | refine To.cptrL ?_ | refine wt3 ?_ | refine wt4 ?_ | refine To.cloL ?_ ?_ | exact wt5 | refine wt6 ?_ | refine ToB.one ?_ | exact wt7 | ((with_reducible apply ToL.consE); case e9 => rfl) | refine wt8 ?_ | refine ToL.cons ?_ ?_ | exact wt11 | refine wt9 ?_ ?_ | refine wt12 ?_ | (with_reducible rfl) | assumption)); all_goals (first | rfl | assumption | (simp; done) | (simp; omega) | (rw [wrap_small (by omega) (by omega)]; done) | (rw [wrap_small (by omega) (by omega)]; omega) | (refine congrArg Nat.cast ?_; assumption) | skip))
end Go.Proofs.Ytpkpfgpfkajkpaa
namespace Go.Proofs.Ytpkpfgpfkajkpaa
open Go.Av Go.Proofs
set_option maxRecDepth 20000
set_option maxHeartbeats 4000000 in
theorem mul116_ok (n : Nat) (hn : n ≤ 64) : PureRun Try.prog 116 [.sc (.int .u64 (1 : Nat)), .sc (.int .u64 (n : Int))] (.tup [.sc (.int .u64 (0 : Nat)), .sc (.int .u64 (n : Int))]) := by
 refine PureRun.mkI cF116 (Nat.le_of_ble_eq_true rfl) ?_
 have h1 : n &&& 4294967295 = n := by
  rw [show 4294967295 = 2 ^ 32 - 1 from rfl, Nat.and_two_pow_sub_one_eq_mod]
  omega
 have h2 : n / 2 ^ 32 = 0 := by omega
 have h3 : n % 18446744073709551616 = n := by omega
 refine walkX ?_
 simp only [h1, h2, h3, Nat.one_mul, Nat.mul_zero, Nat.zero_mul, Nat.add_zero, Nat.zero_and, show 1 / 2 ^ 32 = 0 from rfl, show 1 &&& 4294967295 = 1 from rfl, Nat.zero_mod]
 exact EndP.w
set_option maxHeartbeats 4000000 in
theorem mul105_ok (n : Nat) (hn : n ≤ 64) : PureRun Try.prog 105 [.sc (.int .u64 (1 : Nat)), .sc (.int .u64 (n : Int))] (.tup [.sc (.int .u64 (0 : Nat)), .sc (.int .u64 (n : Int))]) := by
 refine PureRun.mkI cF105 (Nat.le_of_ble_eq_true rfl) ?_
 have h := mul116_ok n hn
 refine walkX ?_
 exact EndP.w
theorem dstep_copyH {g i : Nat} {fr : Fr} {H : Heap} {x y : Operand} {g' i' st L : Nat} {rows1 rows2 : List (List AV)} (hL : 0 < L) (hx : ev fr x = .hsl g' i' st L) (hy : rowsX 1 H (ev fr y) = some (1, rows2)) (hh : hget H g' i' = some (.cells 1 rows1)) (h1 : st + L ≤ rows1.length) :
  dstep g i (.mop (.copy 1) [x, y]) fr H = some (.sc (.int .i64 ((min rows2.length L : Nat) : Int)), hset H g' i' (.cells 1 (rows1.take st ++ (rows2.take (min rows2.length L) ++ rows1.drop (st + min rows2.length L))))) := by
 obtain ⟨len, rfl⟩ : ∃ len, L = len + 1 := ⟨L - 1, by omega⟩
 have e1 : ((Nat.beq 1 1 && Nat.beq 1 1) && Nat.ble (st + (len + 1)) rows1.length) = true := by simpa using h1
 simp only [dstep, avals, List.map_cons, List.map_nil, mstep, hx, hy, hh, e1]
theorem dstep_from {g i : Nat} {fr : Fr} {H : Heap} {x y : Operand} {g' i' st L l : Nat} {rows : List (List AV)} (hx : ev fr x = .hsl g' i' st L) (hy : ev fr y = .sc (.int .i64 (l : Int))) (hh : hget H g' i' = some (.cells 1 rows)) (h0 : 0 < l) (h1 : l < L) :
  dstep g i (.slice 1 x (some y) none none) fr H = some (.hsl g' i' (st + l) (L - l), H) := by
 have e1 : sbounds fr L (some y) none none = some (l, L) := by
  have b1 : Nat.ble l L = true := by simpa using Nat.le_of_lt h1
  have b2 : Nat.ble L L = true := by simp
  show (match sbnd fr 0 (some y), sbnd fr L none, sbnd fr L none with
   | some l, some h, some m => match Nat.ble l h && (Nat.ble h m && Nat.ble m L) && ((none : Option Operand).isNone || (none : Option Operand).isSome) with
    | true => some (l, h)
    | false => none
   | _, _, _ => none) = _
  have b3 : sbnd fr 0 (some y) = some l := by simp only [sbnd, hy]
  rw [b3]
  show (match Nat.ble l L && (Nat.ble L L && Nat.ble L L) && true with
    | true => some (l, L)
    | false => none) = _
  rw [b1, b2]
  rfl
 have e2 : Nat.beq 1 1 = true := rfl
 have e3 : Nat.beq l 0 = false := Bool.eq_false_iff.2 fun h => by have := Nat.eq_of_beq_eq_true h; omega
 have e4 : Nat.beq l L = false := Bool.eq_false_iff.2 fun h => by have := Nat.eq_of_beq_eq_true h; omega
 simp only [dstep, hx, hh, e1, e3, e4]
theorem dstep_upto {g i : Nat} {fr : Fr} {H : Heap} {x y : Operand} {g' i' st L l : Nat} {rows : List (List AV)} (hx : ev fr x = .hsl g' i' st L) (hy : ev fr y = .sc (.int .i64 (l : Int))) (hh : hget H g' i' = some (.cells 1 rows)) (h1 : l ≤ L) :
  dstep g i (.slice 1 x none (some y) none) fr H = some (.hsl g' i' st l, H) := by
 have e1 : sbounds fr L none (some y) none = some (0, l) := by
  have b1 : Nat.ble l L = true := by simpa using h1
  have b2 : Nat.ble L L = true := by simp
  have b0 : Nat.ble 0 l = true := by simp
  have b3 : sbnd fr L (some y) = some l := by simp only [sbnd, hy]
  have b4 : sbnd fr 0 none = some 0 := rfl
  have b5 : sbnd fr L none = some L := rfl
  simp only [sbounds, b3, b4, b5, b0, b1, b2]
  rfl
 have e2 : Nat.beq 1 1 = true := rfl
 have e3 : Nat.beq 0 0 = true := rfl
 simp only [dstep, hx, hh, e1]
theorem rowsX_upto {H : Heap} {g i l : Nat} {R : List (List AV)} (hh : hget H g i = some (.cells 1 R)) (h1 : l ≤ R.length) : rowsX 1 H (.hsl g i 0 l) = some (1, R.take l) := by
 have b1 : Nat.ble (0 + l) R.length = true := by simpa using h1
 simp only [rowsX, rowsOf, hh, b1]
 rfl
def outs (n : Nat) : List Int := List.replicate n (-2)
def outP (l m : Nat) : List (List AV) := List.replicate l [.sc (.int .i64 (-2))] ++ List.replicate m [.sc (.int .i64 0)]
theorem outP_len (l m : Nat) : (outP l m).length = l + m := by simp [outP]
theorem outP_full (n : Nat) : outP n 0 = intsR (outs n) := by simp [outP, intsR, outs]
instance (l m : Nat) : PRs (outP l m) := ⟨fun r hr => by
 rcases List.mem_append.1 hr with h | h
 ·rw [(List.mem_replicate.1 h).2]
  exact allPure_cons (.sc _) allPure_nil
 ·rw [(List.mem_replicate.1 h).2]
  exact allPure_cons (.sc _) allPure_nil⟩
theorem outP_zero (m : Nat) : List.replicate m (zrow [(1, Value.int .i64 0)]) = outP 0 m := rfl
theorem outP_first (m : Nat) : (outP 0 (m + 1)).take 0 ++ ((intsR [-2]).take (min (intsR [-2]).length (m + 1)) ++ (outP 0 (m + 1)).drop (0 + min (intsR [-2]).length (m + 1))) = outP 1 m := by
 have e : min (intsR [-2]).length (m + 1) = 1 := by
  rw [show (intsR [-2]).length = 1 from rfl]
  omega
 rw [e]
 rfl
theorem outP_step {l m : Nat} : (outP l m).take l ++ (((outP l m).take l).take (min l m) ++ (outP l m).drop (l + min l m)) = outP (l + min l m) (m - min l m) := by
 have e1 : (outP l m).take l = List.replicate l [.sc (.int .i64 (-2))] := List.take_left' (by simp)
 have e2 : (outP l m).drop (l + min l m) = List.replicate (m - min l m) [.sc (.int .i64 0)] := by
  unfold outP
  rw [← List.drop_drop, List.drop_left' (by simp), List.drop_replicate]
 rw [e1, e2, List.take_replicate, ← List.append_assoc]
 unfold outP
 rw [show List.replicate l [AV.sc (Value.int .i64 (-2))] ++ List.replicate (min (min l m) l) [AV.sc (Value.int .i64 (-2))] = List.replicate (l + min l m) [AV.sc (Value.int .i64 (-2))] by rw [List.replicate_append_replicate]; congr 1; omega]
set_option maxHeartbeats 4000000 in
theorem repeat_ok (n : Nat) (h0 : 0 < n) (hn : n ≤ 64) : CallOK Try.prog 69 [.list 1 (intsR [-2]), .sc (.int .i64 (n : Int))] [] fun res H' => res = .hsl 0 0 0 n ∧ H' = [[.cells 1 (intsR (outs n))]] := by
 refine CallOK.of cF69 ?_ (Nat.le_of_ble_eq_true rfl)
 have hm := mul105_ok n hn
 have hi : (intsR [-2]).length = 1 := rfl
 obtain ⟨m, rfl⟩ : ∃ m, n = m + 1 := ⟨n - 1, by omega⟩
 have hf := outP_first m
 refine walkX ?_
 rw [decide_eq_false (show ¬ 9223372036854775807 < m + 1 by omega)]
 refine walkX ?_
 refine Reg.o rfl (dstep_mk (n := m + 1) rfl (by omega) (by omega)) ?_
 rw [outP_zero]
 refine walkX ?_
 refine Reg.o rfl (dstep_copyH (L := m + 1) (rows1 := outP 0 (m + 1)) (rows2 := intsR [-2]) (by omega) rfl rfl rfl (by rw [outP_len]; omega)) ?_
 rw [hf, hi, show min 1 (m + 1) = 1 by omega]
 refine walkX ?_
 refine AWP.loop (σ := Nat) (fun l => [(7, .hsl 0 0 0 (m + 1)), (8, .sc (.int .i64 (l : Int)))]) (fun l => [[.cells 1 (outP l (m + 1 - l))]]) (fun l => 0 < l ∧ l ≤ m + 1) (fun l => m + 1 - l) 1 ⟨by omega, by omega⟩ ?_ ?_
 ·rw [show m + 1 - 1 = m by omega]
  exact Sub.wx [] [[(0,0)]]
 rintro l ⟨hl0, hl⟩
 refine walkX0 ?_
 refine AWP.condD rfl (fun h => ?_) (fun h => ?_)
 ·have hol := outP_len l (m + 1 - l)
  rw [show l + (m + 1 - l) = m + 1 by omega] at hol
  have hst := @outP_step l (m + 1 - l)
  have hp : PRs (outP l (m + 1 - l)) := inferInstance
  generalize hR : outP l (m + 1 - l) = R at *
  refine walkX0 ?_
  refine AWP.dk mixed ?_
  (first | refine wr13 ?_ | refine wd13 ?_ | refine wr14 ?_ | refine wv1 ?_ | refine wv2 ?_ | refine wv3 ?_ | refine wv4 ?_ | refine wv5 ?_ | refine wv6 ?_ | refine wv7 ?_ | refine wv8 ?_ | refine wv9 ?_ | refine wv10 ?_ | refine wr1 ?_ | refine wr2 ?_ | refine wr3 ?_ | refine wr4 ?_ | refine Reg.nil ?_ | refine wd1 ?_ | refine wd2 ?_ | refine wd3 ?_ | refine wd4 ?_ | refine wr5 ?_ | refine wr6 ?_ | refine wr7 ?_ | refine wr8 ?_ | refine wr9 ?_ | refine wr10 ?_ | refine wd5 ?_ | refine wd6 ?_ | refine wd7 ?_ | refine wd8 ?_ | refine wd9 ?_ | refine wd10 ?_ | refine wr11 ?_ | refine wr12 ?_ | refine wd11 ?_ | refine wd12 ?_ )
  (first | refine wr13 ?_ | refine wd13 ?_ | refine wr14 ?_ | refine wv1 ?_ | refine wv2 ?_ | refine wv3 ?_ | refine wv4 ?_ | refine wv5 ?_ | refine wv6 ?_ | refine wv7 ?_ | refine wv8 ?_ | refine wv9 ?_ | refine wv10 ?_ | refine wr1 ?_ | refine wr2 ?_ | refine wr3 ?_ | refine wr4 ?_ | refine Reg.nil ?_ | refine wd1 ?_ | refine wd2 ?_ | refine wd3 ?_ | refine wd4 ?_ | refine wr5 ?_ | refine wr6 ?_ | refine wr7 ?_ | refine wr8 ?_ | refine wr9 ?_ | refine wr10 ?_ | refine wd5 ?_ | refine wd6 ?_ | refine wd7 ?_ | refine wd8 ?_ | refine wd9 ?_ | refine wd10 ?_ | refine wr11 ?_ | refine wr12 ?_ | refine wd11 ?_ | refine wd12 ?_ )
  (first | refine wr13 ?_ | refine wd13 ?_ | refine wr14 ?_ | refine wv1 ?_ | refine wv2 ?_ | refine wv3 ?_ | refine wv4 ?_ | refine wv5 ?_ | refine wv6 ?_ | refine wv7 ?_ | refine wv8 ?_ | refine wv9 ?_ | refine wv10 ?_ | refine wr1 ?_ | refine wr2 ?_ | refine wr3 ?_ | refine wr4 ?_ | refine Reg.nil ?_ | refine wd1 ?_ | refine wd2 ?_ | refine wd3 ?_ | refine wd4 ?_ | refine wr5 ?_ | refine wr6 ?_ | refine wr7 ?_ | refine wr8 ?_ | refine wr9 ?_ | refine wr10 ?_ | refine wd5 ?_ | refine wd6 ?_ | refine wd7 ?_ | refine wd8 ?_ | refine wd9 ?_ | refine wd10 ?_ | refine wr11 ?_ | refine wr12 ?_ | refine wd11 ?_ | refine wd12 ?_ )
  refine DK.o rfl (dstep_from (rows := R) rfl rfl rfl hl0 h) ?_
  (first | refine wr13 ?_ | refine wd13 ?_ | refine wr14 ?_ | refine wv1 ?_ | refine wv2 ?_ | refine wv3 ?_ | refine wv4 ?_ | refine wv5 ?_ | refine wv6 ?_ | refine wv7 ?_ | refine wv8 ?_ | refine wv9 ?_ | refine wv10 ?_ | refine wr1 ?_ | refine wr2 ?_ | refine wr3 ?_ | refine wr4 ?_ | refine Reg.nil ?_ | refine wd1 ?_ | refine wd2 ?_ | refine wd3 ?_ | refine wd4 ?_ | refine wr5 ?_ | refine wr6 ?_ | refine wr7 ?_ | refine wr8 ?_ | refine wr9 ?_ | refine wr10 ?_ | refine wd5 ?_ | refine wd6 ?_ | refine wd7 ?_ | refine wd8 ?_ | refine wd9 ?_ | refine wd10 ?_ | refine wr11 ?_ | refine wr12 ?_ | refine wd11 ?_ | refine wd12 ?_ )
  (first | refine wr13 ?_ | refine wd13 ?_ | refine wr14 ?_ | refine wv1 ?_ | refine wv2 ?_ | refine wv3 ?_ | refine wv4 ?_ | refine wv5 ?_ | refine wv6 ?_ | refine wv7 ?_ | refine wv8 ?_ | refine wv9 ?_ | refine wv10 ?_ | refine wr1 ?_ | refine wr2 ?_ | refine wr3 ?_ | refine wr4 ?_ | refine Reg.nil ?_ | refine wd1 ?_ | refine wd2 ?_ | refine wd3 ?_ | refine wd4 ?_ | refine wr5 ?_ | refine wr6 ?_ | refine wr7 ?_ | refine wr8 ?_ | refine wr9 ?_ | refine wr10 ?_ | refine wd5 ?_ | refine wd6 ?_ | refine wd7 ?_ | refine wd8 ?_ | refine wd9 ?_ | refine wd10 ?_ | refine wr11 ?_ | refine wr12 ?_ | refine wd11 ?_ | refine wd12 ?_ )
  refine DK.o rfl (dstep_upto (rows := R) rfl rfl rfl hl) ?_
  refine DK.o rfl (dstep_copyH (L := m + 1 - l) (rows1 := R) (rows2 := R.take l) (by omega) rfl (rowsX_upto (R := R) rfl (by omega)) rfl (by omega)) ?_
  have hmin : min (R.take l).length (m + 1 - l) = min l (m + 1 - l) := by rw [List.length_take]; omega
  rw [hmin, show (0 : Nat) + l = l from Nat.zero_add l, hst]
  have hk : m + 1 - (l + min l (m + 1 - l)) = m + 1 - l - min l (m + 1 - l) := by omega
  generalize hmm : min l (m + 1 - l) = k at *
  refine walkX ?_
  refine DK.nil ⟨by kernel_rfl, ?_⟩
  refine walkX ?_
  refine ⟨l + k, ⟨by omega, by omega⟩, by omega, ?_⟩
  rw [hk]
  exact Sub.wx [] [[(0,0)]]
 have hl2 : l = m + 1 := by omega
 subst hl2
 rw [Nat.sub_self, outP_full]
 refine walkX ?_
 exact endW [[(0,0)]] (⟨rfl, rfl⟩)
theorem clone_ok (R : List (List AV)) (hp : PRs R) (h0 : 0 < R.length) (hl : R.length ≤ 1000000) : CallOK Try.prog 72 [.list 1 R] [] fun res H' => res = .hsl 0 0 0 R.length ∧ H' = [[.cells 1 R]] := by
 refine CallOK.of cF72 ?_ (Nat.le_of_ble_eq_true rfl)
 obtain ⟨r, R, rfl⟩ : ∃ r R2, R = r :: R2 := by
  cases R with
  | nil => simp at h0
  | cons r R => exact ⟨r, R, rfl⟩
 refine walkX ?_
 rw [show (0 : Nat) + (r :: R).length = (r :: R).length from Nat.zero_add _]
 exact endW [[(1,0)]] (⟨rfl, rfl⟩)
theorem out68_ok (x : Int) (h : ¬ (x < 0 ∧ x ≠ -2)) : PureRun Try.prog 68 [.sc (.int .i64 x)] (.sc (.bool false)) := by
 refine PureRun.mkI cF68 (Nat.le_of_ble_eq_true rfl) ?_
 by_cases h1 : x < 0
 ·have h2 : x = -2 := by omega
  subst h2
  refine walkX ?_
  exact EndP.w
 ·refine walkX ?_
  rw [decide_eq_false h1]
  refine walkX ?_
  exact EndP.w
set_option maxHeartbeats 4000000 in
theorem index104_ok (l : List Int) (hl : l.length ≤ 1000000) (h : ∀ x ∈ l, ¬ (x < 0 ∧ x ≠ -2)) : PureRun Try.prog 104 [.list 1 (intsR l), .clo (.func 68) [] []] (.sc (.int .i64 (-1))) := by
 refine PureRun.of (allPure_cons (.list _ _ (prs _)) (allPure_cons (.clo _ _ _ (fun _ h => by cases h) allPure_nil) allPure_nil)) (.sc _) (CallOK.mono (R := fun res H' => res = .sc (.int .i64 (-1)) ∧ H' = []) ?_ fun _ _ h => h.1)
 refine CallOK.of cF104 ?_ (Nat.le_of_ble_eq_true rfl)
 have e0 := intsR_len l
 refine walkX ?_
 rw [e0]
 refine AWP.loop (fun k : Nat => [(0, .list 1 (intsR l)), (1, .clo (.func 68) [] []), (7, .sc (.int .i64 (l.length : Int))), (8, .sc (.int .i64 (k : Int)))])
  (fun k => []) (fun k => k ≤ l.length) (fun k => l.length - k) 0 (Nat.zero_le _) ?_ ?_
 ·exact Sub.w [] []
 rintro k hk
 refine walkX ?_
 refine AWP.condD rfl (fun q => ?_) (fun q => ?_)
 ·have hr := intsR_ix l k q
  have h6 := out68_ok l[k] (h _ (List.getElem_mem q))
  generalize l[k] = y at *
  refine walkX ?_
  refine ⟨k + 1, by omega, by omega, ?_⟩
  exact Sub.w [] []
 refine walkX ?_
 exact endW [] (⟨rfl, rfl⟩)
end Go.Proofs.Ytpkpfgpfkajkpaa
namespace Go.Proofs.Ytpkpfgpfkajkpaa
open Go.Av Go.Proofs
set_option maxRecDepth 20000
def docE : Nat → List (List Nat) → List (Int × AV)
 | _, [] => []
 | k, c :: cs => ((k : Int), natsV c) :: docE (k + 1) cs
def docM (cs : List (List Nat)) : List (Value × AV) := keyM (docE 0 cs)
def worldH (cs : List (List Nat)) : Heap := [[.cells 1 [[.mref 1 0]]], [.map (docM cs)]]
theorem docE_len : ∀ (k : Nat) (cs : List (List Nat)), (docE k cs).length = cs.length
 | _, [] => rfl
 | k, _ :: cs => by show (docE (k + 1) cs).length + 1 = cs.length + 1; rw [docE_len (k + 1) cs]
theorem docM_len (cs : List (List Nat)) : (docM cs).length = cs.length := by unfold docM keyM; rw [List.length_map, docE_len]
theorem docE_app : ∀ (k : Nat) (cs : List (List Nat)) (c : List Nat), docE k (cs ++ [c]) = docE k cs ++ [(((k + cs.length : Nat) : Int), natsV c)]
 | k, [], c => rfl
 | k, d :: cs, c => by
  show _ :: docE (k + 1) (cs ++ [c]) = _ :: (docE (k + 1) cs ++ _)
  rw [docE_app (k + 1) cs c, show k + 1 + cs.length = k + (d :: cs).length by rw [List.length_cons]; omega]
theorem docM_app (cs : List (List Nat)) (c : List Nat) : docM (cs ++ [c]) = docM cs ++ [(.int .i64 (cs.length : Int), natsV c)] := by
 unfold docM keyM
 rw [docE_app, List.map_append, Nat.zero_add]
 rfl
theorem docE_pure : ∀ (k : Nat) (cs : List (List Nat)), ∀ x ∈ docE k cs, Pure x.2
 | k, c :: cs, x, h => by
  rcases List.mem_cons.1 h with rfl | h
  ·exact pv _
  ·exact docE_pure (k + 1) cs x h
instance (cs : List (List Nat)) : PM (docM cs) := ⟨keyM_pure (docE_pure 0 cs)⟩
theorem docE_keys : ∀ (k : Nat) (cs : List (List Nat)), (docE k cs).map (·.1) = (List.range' k cs.length).map fun n : Nat => (n : Int)
 | _, [] => rfl
 | k, _ :: cs => by
  show (k : Int) :: (docE (k + 1) cs).map (·.1) = _
  rw [docE_keys (k + 1) cs]
  rfl
theorem docE_find : ∀ (k : Nat) (cs : List (List Nat)) (n : Nat), mfind .i64 (n : Int) (keyM (docE k cs)) = some (if k ≤ n then (cs[n - k]?).map natsV else none)
 | k, [], n => by
  show some none = _
  simp
 | k, c :: cs, n => by
  show (match decide (IntKind.i64 = IntKind.i64) with
   | true => match decide ((n : Int) = (k : Int)) with
    | true => some (some (natsV c))
    | false => mfind .i64 (n : Int) (keyM (docE (k + 1) cs))
   | false => none) = _
  rw [decide_eq_true (rfl : IntKind.i64 = IntKind.i64)]
  by_cases h : (n : Int) = (k : Int)
  ·rw [decide_eq_true h]
   have : n = k := by omega
   subst this
   simp
  ·rw [decide_eq_false h]
   show mfind .i64 (n : Int) (keyM (docE (k + 1) cs)) = _
   rw [docE_find (k + 1) cs n]
   by_cases h2 : k + 1 ≤ n
   ·rw [if_pos h2, if_pos (by omega), show n - k = (n - (k + 1)) + 1 by omega]
    simp
   ·rw [if_neg h2, if_neg (by omega)]
theorem docM_find (cs : List (List Nat)) (n : Nat) : mfind .i64 (n : Int) (docM cs) = some ((cs[n]?).map natsV) := by
 have := docE_find 0 cs n
 unfold docM
 simpa using this
def idD (g i : Nat) : Option (Nat × Nat) := if (g = 0 ∨ g = 1) ∧ i = 0 then some (g, i) else none
theorem idD_spec {g i : Nat} {p : Nat × Nat} (h : idD g i = some p) : (g = 0 ∨ g = 1) ∧ i = 0 ∧ p = (g, i) := by
 unfold idD at h
 split at h
 ·rename_i e
  injection h with h
  exact ⟨e.1, e.2, h.symm⟩
 ·cases h
theorem worldH_get (cs : List (List Nat)) (G : Heap) {g i : Nat} (h : (g = 0 ∨ g = 1) ∧ i = 0) : hget (worldH cs ++ G) g i = hget (worldH cs) g i := by
 obtain ⟨h | h, rfl⟩ := h <;> subst h <;> rfl
theorem worldH_dom {cs : List (List Nat)} {g i : Nat} {x : Blk} (h : hget (worldH cs) g i = some x) : ((g = 0 ∨ g = 1) ∧ i = 0) ∧ x.live = true ∧ RenB idD x x := by
 unfold worldH hget at h
 match g, i, h with
 | 0, 0, h =>
  simp at h
  subst h
  refine ⟨⟨.inl rfl, rfl⟩, rfl, .cells _ _ _ rfl (fun i r r' a b => by cases eq_of_get a b; rfl) fun i r r' j x y a b c d => ?_⟩
  cases eq_of_get a b
  cases eq_of_get c d
  have := List.mem_of_getElem? a
  rw [List.mem_singleton.1 this] at c
  have := List.mem_of_getElem? c
  rw [List.mem_singleton.1 this]
  exact .mref _ _ _ _ rfl
 | 1, 0, h =>
  simp at h
  subst h
  exact ⟨⟨.inr rfl, rfl⟩, rfl, .pureMap _ (PM.out)⟩
 | 0, i + 1, h => simp at h
 | 1, i + 1, h => simp at h
 | g + 2, i, h => simp at h
theorem CallOK.doc {P : Program} {f : FuncId} {args : List AV} {cs : List (List Nat)} {R : AV → List (List Nat) → Prop} (G : Heap) (h : CallOK P f args (worldH cs) fun res H' => ∃ cs', H' = worldH cs' ∧ Pure res ∧ R res cs') (ha : ∀ a ∈ args, a = .ptr 0 0 0 0 ∨ Pure a) :
  CallOK P f args (worldH cs ++ G) fun res H' => ∃ cs', H' = worldH cs' ++ G ∧ R res cs' := by
 refine CallOK.via idD idD h rfl (fun j a b e1 e2 => ?_) (fun a b p e => ?_) (fun a b q e => ?_) (fun a b y e => ?_) (fun a b p e => ?_) fun res H' hr => ?_
 ·cases eq_of_get e1 e2
  rcases ha a (List.mem_of_getElem? e1) with rfl | hp
  ·exact .ptr _ _ _ _ _ _ rfl
  ·exact .pure hp
 ·obtain ⟨h1, h2, rfl⟩ := idD_spec e
  exact if_pos ⟨h1, h2⟩
 ·obtain ⟨h1, h2, rfl⟩ := idD_spec e
  exact if_pos ⟨h1, h2⟩
 ·obtain ⟨h1, h2, h3⟩ := worldH_dom e
  exact ⟨h2, (a, b), y, if_pos h1, by rw [worldH_get _ _ h1]; exact e, h3⟩
 ·obtain ⟨h1, h2, rfl⟩ := idD_spec e
  subst h2
  rcases h1 with rfl | rfl <;> rfl
 ·obtain ⟨cs', rfl, hres, hR⟩ := hr
  refine ⟨fun a b e => ?_, res, worldH cs' ++ G, .pure hres, fun a b z hz hzl => ?_, fun a b e => ?_, cs', rfl, hR⟩
  ·obtain ⟨z, hz⟩ := Option.isSome_iff_exists.1 e
   obtain ⟨⟨h1, h2⟩, _, _⟩ := worldH_dom hz
   subst h2
   rcases h1 with rfl | rfl <;> rfl
  ·by_cases hd : (a = 0 ∨ a = 1) ∧ b = 0
   ·rw [worldH_get _ _ hd] at hz
    obtain ⟨_, _, h3⟩ := worldH_dom hz
    exact .inl ⟨(a, b), z, if_pos hd, hz, h3⟩
   ·refine .inr ⟨if_neg hd, ?_⟩
    match a, b, hz, hd with
    | 0, 0, _, hd => exact absurd ⟨.inl rfl, rfl⟩ hd
    | 1, 0, _, hd => exact absurd ⟨.inr rfl, rfl⟩ hd
    | 0, i + 1, hz, _ => exact hz
    | 1, i + 1, hz, _ => exact hz
    | g + 2, i, hz, _ => exact hz
  ·match a, b, e with
   | 0, 0, _ => rfl
   | 1, 0, _ => rfl
   | 0, i + 1, hz => exact hz
   | 1, i + 1, hz => exact hz
   | g + 2, i, hz => exact hz
end Go.Proofs.Ytpkpfgpfkajkpaa
namespace Go.Proofs.Ytpkpfgpfkajkpaa
open Go.Av Go.Proofs
set_option maxRecDepth 20000
theorem mfind_at {cs : List (List Nat)} {n : Nat} (h : n < cs.length) : mfind .i64 (n : Int) (docM cs) = some (some (natsV cs[n])) := by
 rw [docM_find, List.getElem?_eq_getElem h]
 rfl
theorem mfind_no {cs : List (List Nat)} {n : Nat} (h : cs.length ≤ n) : mfind .i64 (n : Int) (docM cs) = some none := by
 rw [docM_find, List.getElem?_eq_none h]
 rfl
theorem dstep_lookD {g i : Nat} {fr : Fr} {H : Heap} {z : AV} {x ix : Operand} {g' i' : Nat} {n : Int} {es : List (Value × AV)} {ok : Bool} {r : Option AV} (hx : ev fr x = .mref g' i') (hi : ev fr ix = .sc (.int .i64 n)) (hh : hget H g' i' = some (.map es)) (hm : mfind .i64 n es = some r) :
  dstep g i (.lookup z .i64 x ix ok) fr H = lres z ok H (some r) := by
 simp only [dstep, hi, hx, mlook, hh, hm, decide_true]
theorem natsR_sc (l : List Nat) : ∀ r ∈ natsR l, ∀ c ∈ r, ∃ v, c = .sc v := fun r hr c hc => by
 obtain ⟨n, _, rfl⟩ := List.mem_map.1 hr
 exact ⟨_, List.mem_singleton.1 hc⟩
theorem clone_at (l : List Nat) (H : Heap) (h0 : 0 < l.length) (hl : l.length ≤ 1000000) : CallOK Try.prog 72 [natsV l] H fun res H' => res = .hsl H.length 0 0 l.length ∧ H' = H ++ [[.cells 1 (natsR l)]] := by
 have h := clone_ok (natsR l) inferInstance (by rw [natsR_len]; exact h0) (by rw [natsR_len]; exact hl)
 rw [natsR_len] at h
 exact CallOK.viewL (natsR_sc l) h (ToL.cons (To.pure (pv (natsV l))) ToL.nil)
set_option maxHeartbeats 4000000 in
theorem valid_ok (cs : List (List Nat)) : CallOK Try.prog 64 [.ptr 0 0 0 0] (worldH cs) fun res H' => res = .sc (.bool true) ∧ H' = worldH cs := by
 refine CallOK.of cF64 ?_ (Nat.le_of_ble_eq_true rfl)
 unfold worldH
 have hp : PM (docM cs) := inferInstance
 generalize docM cs = es at *
 refine walkX ?_
 exact endW [[(0,0)],[(1,0)]] (⟨rfl, rfl⟩)
set_option maxHeartbeats 4000000 in
theorem group_ok (cs : List (List Nat)) (n : Nat) (h : n < cs.length) (h0 : ∀ c ∈ cs, 0 < c.length ∧ c.length ≤ 64) : CallOK Try.prog 24 [.ptr 0 0 0 0, .sc (.int .i64 (n : Int))] (worldH cs) fun res H' => res = .tup [natsV cs[n], .sc (.int .i64 0)] ∧ H' = worldH cs := by
 refine CallOK.of cF24 ?_ (Nat.le_of_ble_eq_true rfl)
 have hv := valid_ok cs
 have hf := mfind_at h
 have hc := h0 _ (List.getElem_mem h)
 have hcl := clone_at cs[n] (worldH cs) (by omega) (by omega)
 have hp : PM (docM cs) := inferInstance
 unfold worldH natsV at *
 generalize hes : docM cs = es at *
 generalize cs[n] = c at *
 have e0 := natsR_len c
 refine walkX ?_
 refine Reg.c (Nat.le_refl _) rfl (hv.mono ?_)
 rintro res H' ⟨rfl, rfl⟩
 refine walkX ?_
 refine Reg.o rfl (dstep_lookD (es := es) rfl rfl rfl hf) ?_
 refine walkX ?_
 refine Reg.c (Nat.le_refl _) rfl (hcl.mono ?_)
 rintro res H' ⟨rfl, rfl⟩
 refine walkX ?_
 exact endW [[(0,0)],[(1,0)]] (⟨rfl, rfl⟩)
theorem sortI_range (n : Nat) : sortI ((List.range n).map fun j : Nat => (j : Int)) = (List.range n).map fun j : Nat => (j : Int) := by
 refine (sorted_eq (.refl _) fun p q hpq hq => ?_).symm
 rw [List.length_map, List.length_range] at hq
 simp [List.getD_eq_getElem?_getD, List.getElem?_map, List.getElem?_range hq, List.getElem?_range (show p < n by omega)]
 omega
theorem intsR_nats (l : List Nat) : intsR (l.map fun j : Nat => (j : Int)) = natsR l := by
 unfold intsR natsR
 rw [List.map_map]
 rfl
theorem docE_keys0 (cs : List (List Nat)) : (docE 0 cs).map (·.1) = (List.range cs.length).map fun j : Nat => (j : Int) := by
 rw [docE_keys, List.range_eq_range']
set_option maxHeartbeats 4000000 in
theorem keys_world (cs : List (List Nat)) : CallOK Try.prog 66 [.mref 1 0] (worldH cs) fun res H' => res = .clo (.func 103) [] [.ptr 2 0 0 0] ∧ H' = worldH cs ++ [[.cells 1 [[.mref 1 0]]]] := by
 refine CallOK.of cF66 ?_ (Nat.le_of_ble_eq_true rfl)
 unfold worldH
 have hp : PM (docM cs) := inferInstance
 generalize docM cs = es at *
 refine walkX ?_
 exact endW [[(0,0)],[(1,0)],[(2,0)]] (⟨rfl, rfl⟩)
set_option maxHeartbeats 4000000 in
theorem contexts_ok (cs : List (List Nat)) (hl : cs.length ≤ 12) : CallOK Try.prog 21 [.ptr 0 0 0 0] (worldH cs) fun res H' => res = natsV (List.range cs.length) ∧ H' = worldH cs := by
 refine CallOK.of cF21 ?_ (Nat.le_of_ble_eq_true rfl)
 have hv := valid_ok cs
 have hk := keys_world cs
 have hs := sorted_at (H := worldH cs ++ [[.cells 1 [[.mref 1 0]]]]) (g := 2) (i := 0) (g' := 1) (i' := 0) (docE 0 cs) rfl rfl (by rw [docE_len]; exact hl)
 rw [docE_len, docE_keys0, sortI_range, intsR_nats] at hs
 have hp : PM (docM cs) := inferInstance
 have e0 := natsR_len (List.range cs.length)
 rw [List.length_range] at e0
 have hpr : PRs (natsR (List.range cs.length)) := inferInstance
 unfold natsV worldH at *
 generalize natsR (List.range cs.length) = R at *
 generalize docM cs = es at *
 refine walkX ?_
 refine Reg.c (Nat.le_refl _) rfl (hv.mono ?_)
 rintro res H' ⟨rfl, rfl⟩
 refine walkX ?_
 refine Reg.c (Nat.le_refl _) rfl (hk.mono ?_)
 rintro res H' ⟨rfl, rfl⟩
 refine Reg.c (Nat.le_succ _) rfl (hs.mono ?_)
 rintro res H' ⟨rfl, rfl⟩
 refine walkX ?_
 exact endW [[(0,0)],[(1,0)]] (⟨rfl, rfl⟩)
set_option maxHeartbeats 4000000 in
theorem clone_pure (l : List Nat) (h0 : 0 < l.length) (hl : l.length ≤ 1000000) : PureRun Try.prog 72 [natsV l] (natsV l) := by
 refine PureRun.of (allPure_cons (pv _) allPure_nil) (pv _) (CallOK.mono (R := fun res H' => res = natsV l ∧ H' = []) ?_ fun _ _ h => h.1)
 refine CallOK.of cF72 ?_ (Nat.le_of_ble_eq_true rfl)
 have e0 := natsR_len l
 have hp : PRs (natsR l) := inferInstance
 unfold natsV
 generalize natsR l = R at *
 obtain ⟨r, R, rfl⟩ : ∃ r R2, R = r :: R2 := by
  cases R with
  | nil => simp at e0; omega
  | cons r R => exact ⟨r, R, rfl⟩
 refine walkX ?_
 have e1 : (0 : Nat) + (r :: R).length = (r :: R).length := Nat.zero_add _
 rw [e1]
 have e2 : List.replicate 0 (zrow [(1, Value.int IntKind.i64 0)]) ++ r :: R = r :: R := rfl
 rw [e2]
 exact endW [] (⟨rfl, rfl⟩)
set_option maxHeartbeats 8000000 in

theorem add_ok (cs : List (List Nat)) (c : List Nat) (hl1 : 0 < cs.length) (hl2 : cs.length < 64) (h0 : ∀ c ∈ cs, 0 < c.length ∧ c.length ≤ 64) (hc : 0 < c.length ∧ c.length ≤ 64) : CallOK Try.prog 63 [.ptr 0 0 0 0, natsV c] (worldH cs) fun res H' => res = .tup [.sc (.int .i64 (cs.length : Int)), .sc (.int .i64 0)] ∧ H' = worldH (cs ++ [c]) := by
 refine CallOK.of cF63 ?_ (Nat.le_of_ble_eq_true rfl)
 have hcl := clone_pure c hc.1 (by omega)
 have e0 := natsR_len c
 have el := docM_len cs
 have ha := docM_app cs c
 have hp : PM (docM cs) := inferInstance
 have hno := mfind_no (Nat.le_refl cs.length)
 have hat := fun n (h : n < cs.length) => mfind_at h
 have hne : ∀ n (h : n < cs.length), (natsR cs[n]).length ≠ 0 := fun n h => by rw [natsR_len]; have := h0 _ (List.getElem_mem h); omega
 unfold natsV worldH at *
 rw [ha]
 clear ha
 refine walkX ?_
 rw [el, decide_eq_false (show ¬ 64 ≤ cs.length by omega)]
 refine walkX ?_
 refine AWP.loop (fun k : Nat => [(0, .ptr 0 0 0 0), (1, .list 1 (natsR c)), (6, .sc (.int .i64 (k : Int)))]) (fun _ => [[.cells 1 [[.mref 1 0]]], [.map (docM cs)]]) (fun k => 1 ≤ k ∧ k ≤ cs.length) (fun k => cs.length - k) 1 ⟨Nat.le_refl _, hl1⟩ ?_ ?_
 ·exact Sub.wx [] [[(0,0)],[(1,0)]]
 rintro k ⟨hk1, hk2⟩
 by_cases hk : k < cs.length
 ·have hf := hat k hk
  obtain ⟨r, R, hr⟩ : ∃ r R, natsR cs[k] = r :: R := by
   have := hne k hk
   cases hq : natsR cs[k] with
   | nil => rw [hq] at this; exact absurd rfl this
   | cons r R => exact ⟨r, R, rfl⟩
  have hpr : PRs (natsR cs[k]) := inferInstance
  rw [hr] at hf hpr
  generalize docM cs = es at *
  refine walkX ?_
  refine Reg.o rfl (dstep_lookD (es := es) rfl rfl rfl hf) ?_
  refine walkX ?_
  refine ⟨k + 1, ⟨by omega, by omega⟩, by omega, ?_⟩
  exact Sub.wx [] [[(0,0)],[(1,0)]]
 have hk3 : k = cs.length := by omega
 subst hk3
 clear hat hne
 generalize docM cs = es at *
 refine walkX ?_
 refine Reg.o rfl (dstep_lookD (es := es) rfl rfl rfl hno) ?_
 refine walkX ?_
 refine DK.on rfl (dstep_mapNew (es := es) rfl rfl rfl hno) ?_
 have hp2 : PM (es ++ [(.int .i64 (cs.length : Int), .list 1 (natsR c))]) := ⟨fun x hx => by
  rcases List.mem_append.1 hx with h | h
  ·exact hp.out x h
  ·rw [List.mem_singleton.1 h]
   exact .list _ _ (prs _)⟩
 refine DK.nil ⟨by kernel_rfl, ?_⟩
 refine walkX ?_
 exact endW [[(0,0)],[(1,0)]] (⟨rfl, rfl⟩)
set_option maxHeartbeats 8000000 in

theorem dup_ok (cs : List (List Nat)) (n : Nat) (hn : n < cs.length) (hl2 : cs.length < 64) (h0 : ∀ c ∈ cs, 0 < c.length ∧ c.length ≤ 64) : CallOK Try.prog 20 [.ptr 0 0 0 0, .sc (.int .i64 (n : Int))] (worldH cs) fun res H' => res = .tup [.sc (.int .i64 (cs.length : Int)), .sc (.int .i64 0)] ∧ H' = worldH (cs ++ [cs[n]]) := by
 refine CallOK.of cF20 ?_ (Nat.le_of_ble_eq_true rfl)
 have hg := group_ok cs n hn h0
 have ha := add_ok cs cs[n] (by omega) hl2 h0 (h0 _ (List.getElem_mem hn))
 have hp : PM (docM cs) := inferInstance
 have hp2 : PM (docM (cs ++ [cs[n]])) := inferInstance
 unfold worldH natsV at *
 generalize docM (cs ++ [cs[n]]) = es2 at *
 generalize docM cs = es at *
 generalize cs[n] = c at *
 refine walkX ?_
 refine Reg.c (Nat.le_refl _) rfl (hg.mono ?_)
 rintro res H' ⟨rfl, rfl⟩
 refine walkX ?_
 refine Reg.c (Nat.le_refl _) rfl (ha.mono ?_)
 rintro res H' ⟨rfl, rfl⟩
 refine walkX ?_
 exact endW [[(0,0)],[(1,0)]] (⟨rfl, rfl⟩)
def rampS (n k : Nat) : List Nat := List.range k ++ List.replicate (n - k) 0
theorem rampS_len {n k : Nat} (h : k ≤ n) : (rampS n k).length = n := by simp [rampS]; omega
theorem rampS_zero (n : Nat) : List.replicate n (zrow [(1, Value.int .i64 0)]) = natsR (rampS n 0) := by
 unfold rampS natsR
 rw [List.range_zero, List.nil_append, Nat.sub_zero, List.map_replicate]
 rfl
theorem rampS_full (n : Nat) : rampS n n = List.range n := by simp [rampS]
theorem rampS_set {n k : Nat} (h : k < n) : (rampS n k).set k k = rampS n (k + 1) := by
 unfold rampS
 rw [List.set_append_right _ _ (by simp), List.length_range, Nat.sub_self, List.range_succ, List.append_assoc, show n - k = (n - (k + 1)) + 1 by omega, List.replicate_succ]
 rfl
theorem mapTo1 {T : AV → AV → Prop} {ρ : Nat → Nat → Option (Nat × Nat)} {v : Value} {x y : AV} (h : To T ρ x y) : ToB T ρ (.map [(v, x)]) (.map [(v, y)]) :=
 .map _ _ rfl (fun j x y a b => by match j with | 0 => (simp at a b; rw [← a, ← b]) | j + 1 => simp at a) fun j x y a b => by
  match j with
  | 0 => simp at a b; rw [← a, ← b]; exact h
  | j + 1 => simp at a
set_option maxHeartbeats 8000000 in

theorem new_ok (n : Nat) (h0 : 0 < n) (hn : n ≤ 64) : CallOK Try.prog 19 [.sc (.int .i64 (n : Int))] [] fun res H' => res = .tup [.ptr 0 0 0 0, .sc (.int .i64 0)] ∧ H' = worldH [List.range n] := by
 refine CallOK.of cF19 ?_ (Nat.le_of_ble_eq_true rfl)
 refine walkX ?_
 rw [decide_eq_false (show ¬ n < 1 by omega)]
 refine walkX ?_
 rw [decide_eq_false (show ¬ 64 < n by omega)]
 refine walkX ?_
 refine Reg.o rfl (dstep_mk (n := n) rfl (by omega) (by omega)) ?_
 rw [rampS_zero]
 refine walkX ?_
 refine AWP.loop (fun k : Nat => [(4, .hsl 0 0 0 n), (15, .sc (.int .i64 (n : Int))), (16, .sc (.int .i64 (k : Int)))]) (fun k => [[.cells 1 (natsR (rampS n k))]]) (fun k => k ≤ n) (fun k => n - k) 0 (Nat.zero_le _) ?_ ?_
 ·exact Sub.wx [] [[(0,0)]]
 rintro k hk
 have e0 := natsR_len (rampS n k)
 rw [rampS_len hk] at e0
 refine walkX0 ?_
 refine AWP.condD rfl (fun h => ?_) (fun h => ?_)
 ·have g1 := natsR_ix (rampS n k) k (by rw [rampS_len hk]; exact h)
  rw [rowIx_nat] at g1
  have g2 := natsR_set (rampS n k) k k
  rw [rampS_set h] at g2
  have hp : PRs (natsR (rampS n k)) := inferInstance
  generalize (rampS n k)[k]'(by rw [rampS_len hk]; exact h) = z at *
  generalize natsR (rampS n k) = R at *
  refine walkX ?_
  refine ⟨k + 1, by omega, by omega, ?_⟩
  rw [← g2]
  exact Sub.wx [] [[(0,0)]]
 have hk2 : k = n := by omega
 subst hk2
 rw [rampS_full] at *
 have hw : worldH [List.range k] = [[.cells 1 [[.mref 1 0]]], [.map [(.int .i64 ((0 : Nat) : Int), .list 1 (natsR (List.range k)))]]] := rfl
 rw [hw]
 clear hw
 have hp : PRs (natsR (List.range k)) := inferInstance
 generalize natsR (List.range k) = R at *
 refine walkX ?_
 refine endH (res' := .tup [.ptr 0 0 0 0, .sc (.int .i64 0)]) [[(2,0)],[(1,0)]] (by first | exact .inl rfl | exact .inr rfl) rfl ⟨rfl, rfl⟩ ?_ ?_ rfl rfl rfl
 (all_goals (repeat' (first | exact ToAll.nil | exact famsTo.nil | exact famTo.nil | exact ToL.nil | exact ToR.nil | refine ToAll.cons ?_ ?_ | refine famsTo.cons ?_ ?_ | refine wt10 ?_ ?_ | exact To.undef _ | exact To.sc _ | exact To.hslL rfl rfl | exact To.ptrO rfl rfl rfl | exact To.mrefO rfl | exact To.nil rfl rfl rfl | exact wt1 | exact To.nilL | refine To.int ?_ | refine To.bool ?_ | refine To.hslL rfl ?_ | refine wt2 rfl ?_ ?_ ?_ | refine To.tupL ?_ | refine To.aggL ?_ | refine To.cptrL ?_ | refine wt3 ?_ | refine wt4 ?_ | refine To.cloL ?_ ?_ | exact wt5 | refine wt6 ?_ | refine ToB.one ?_ | exact wt7 | ((with_reducible apply ToL.consE); case e9 => rfl) | refine wt8 ?_ | refine ToL.cons ?_ ?_ | exact wt11 | refine wt9 ?_ ?_ | refine wt12 ?_ | (with_reducible rfl) | assumption)); all_goals (first | rfl | assumption | (simp; done) | (simp; omega) | (rw [wrap_small (by omega) (by omega)]; done) | (rw [wrap_small (by omega) (by omega)]; omega) | (refine congrArg Nat.cast ?_; assumption) | skip))
 refine mapTo1 ?_
 (all_goals (repeat' (first | exact ToAll.nil | exact famsTo.nil | exact famTo.nil | exact ToL.nil | exact ToR.nil | refine ToAll.cons ?_ ?_ | refine famsTo.cons ?_ ?_ | refine wt10 ?_ ?_ | exact To.undef _ | exact To.sc _ | exact To.hslL rfl rfl | exact To.ptrO rfl rfl rfl | exact To.mrefO rfl | exact To.nil rfl rfl rfl | exact wt1 | exact To.nilL | refine To.int ?_ | refine To.bool ?_ | refine To.hslL rfl ?_ | refine wt2 rfl ?_ ?_ ?_ | refine To.tupL ?_ | refine To.aggL ?_ | refine To.cptrL ?_ | refine wt3 ?_ | refine wt4 ?_ | refine To.cloL ?_ ?_ | exact wt5 | refine wt6 ?_ | refine ToB.one ?_ | exact wt7 | ((with_reducible apply ToL.consE); case e9 => rfl) | refine wt8 ?_ | refine ToL.cons ?_ ?_ | exact wt11 | refine wt9 ?_ ?_ | refine wt12 ?_ | (with_reducible rfl) | assumption)); all_goals (first | rfl | assumption | (simp; done) | (simp; omega) | (rw [wrap_small (by omega) (by omega)]; done) | (rw [wrap_small (by omega) (by omega)]; omega) | (refine congrArg Nat.cast ?_; assumption) | skip))
end Go.Proofs.Ytpkpfgpfkajkpaa
namespace Go.Proofs.Ytpkpfgpfkajkpaa
open Go.Av Go.Proofs
set_option maxRecDepth 20000
theorem index104_fn (l : List Int) (hl : l.length ≤ 1000000) (h : ∀ x ∈ l, ¬ (x < 0 ∧ x ≠ -2)) : PureRun Try.prog 104 [.list 1 (intsR l), .sc (.func (.func 68) #[] #[])] (.sc (.int .i64 (-1))) :=
 (index104_ok l hl h).args rfl fun j a b ha hb => by
  match j with
  | 0 => simp at ha hb; rw [← ha, ← hb]; exact Le.refl _
  | 1 => simp at ha hb; rw [← ha, ← hb]; exact Le.func 68
  | j + 2 => simp at ha
set_option maxHeartbeats 4000000 in
theorem contains_ok (l : List Int) (hl : l.length ≤ 1000000) (h : ∀ x ∈ l, ¬ (x < 0 ∧ x ≠ -2)) : PureRun Try.prog 67 [.list 1 (intsR l), .sc (.func (.func 68) #[] #[])] (.sc (.bool false)) := by
 refine PureRun.mkI cF67 (Nat.le_of_ble_eq_true rfl) ?_
 have h1 := index104_fn l hl h
 refine walkX ?_
 exact EndP.w
set_option maxHeartbeats 4000000 in
theorem stable70_ok (ks : List Int) (L : List Nat) (hL : L.Pairwise (· < ·)) (hk : ∀ x ∈ L, x < ks.length) (hl : L.length ≤ 64) :
  CallOK Try.prog 70 [.hsl 0 0 0 L.length, cmpV ks] [[.cells 1 (natsR L)]] fun res H' => res = .tup [] ∧ ∃ D, D.Perm L ∧ D.Pairwise (ltK ks) ∧ H' = [[.cells 1 (natsR D)]] := by
 have hs := stable_ok ks L hL hk hl
 unfold cmpV at *
 refine CallOK.of cF70 ?_ (Nat.le_of_ble_eq_true rfl)
 have hpv : PV (AV.clo (.func 71) [] [.cptr [.list 1 (intsR ks)]]) := ⟨cmpV_pure ks⟩
 refine walkX ?_
 refine Reg.c (Nat.le_refl _) rfl (hs.mono ?_)
 rintro res H' ⟨rfl, D, h1, h2, rfl⟩
 refine walkX ?_
 refine endH (res' := .tup []) [[(0,0)]] (by first | exact .inl rfl | exact .inr rfl) rfl ⟨rfl, D, h1, h2, rfl⟩ ?_ ?_ rfl rfl rfl
 (all_goals (repeat' (first | exact ToAll.nil | exact famsTo.nil | exact famTo.nil | exact ToL.nil | exact ToR.nil | refine ToAll.cons ?_ ?_ | refine famsTo.cons ?_ ?_ | refine wt10 ?_ ?_ | exact To.undef _ | exact To.sc _ | exact To.hslL rfl rfl | exact To.ptrO rfl rfl rfl | exact To.mrefO rfl | exact To.nil rfl rfl rfl | exact wt1 | exact To.nilL | refine To.int ?_ | refine To.bool ?_ | refine To.hslL rfl ?_ | refine wt2 rfl ?_ ?_ ?_ | refine To.tupL ?_ | refine To.aggL ?_ | refine To.cptrL ?_ | refine wt3 ?_ | refine wt4 ?_ | refine To.cloL ?_ ?_ | exact wt5 | refine wt6 ?_ | refine ToB.one ?_ | exact wt7 | ((with_reducible apply ToL.consE); case e9 => rfl) | refine wt8 ?_ | refine ToL.cons ?_ ?_ | exact wt11 | refine wt9 ?_ ?_ | refine wt12 ?_ | (with_reducible rfl) | assumption)); all_goals (first | rfl | assumption | (simp; done) | (simp; omega) | (rw [wrap_small (by omega) (by omega)]; done) | (rw [wrap_small (by omega) (by omega)]; omega) | (refine congrArg Nat.cast ?_; assumption) | skip))
theorem stable_at {H : Heap} {g i n : Nat} (ks : List Int) (L : List Nat) (hL : L.Pairwise (· < ·)) (hk : ∀ x ∈ L, x < ks.length) (hl : L.length ≤ 64) (hn : n = L.length) (hx : hget H g i = some (.cells 1 (natsR L))) :
  CallOK Try.prog 70 [.hsl g i 0 n, cmpV ks] H fun res H' => res = .tup [] ∧ ∃ D, D.Perm L ∧ D.Pairwise (ltK ks) ∧ H' = hset H g i (.cells 1 (natsR D)) := by
 subst hn
 refine (CallOK.via1 (args := [.hsl g i 0 L.length, cmpV ks]) (args' := [.hsl 0 0 0 L.length, cmpV ks]) (R := fun res y => res = .tup [] ∧ ∃ D, D.Perm L ∧ D.Pairwise (ltK ks) ∧ y = .cells 1 (natsR D)) g i ((stable70_ok ks L hL hk hl).mono ?_) hx (prs (natsR L)) ⟨.hsl _ _ _ _ _ _ rfl, .pure (cmpV_pure ks), trivial⟩).mono ?_
 ·rintro res H' ⟨rfl, D, h1, h2, rfl⟩
  exact ⟨_, rfl, .tup _ allPure_nil, prs (natsR D), rfl, D, h1, h2, rfl⟩
 ·rintro res H' ⟨y, rfl, rfl, D, h1, h2, rfl⟩
  exact ⟨rfl, D, h1, h2, rfl⟩
end Go.Proofs.Ytpkpfgpfkajkpaa
namespace Go.Proofs.Ytpkpfgpfkajkpaa
open Go.Av Go.Proofs
set_option maxRecDepth 20000
def colV (c : Nat) : Int := if c = 0 then -2 else (c : Int)
def memC (cl : List Nat) (c k : Nat) : List Nat := (List.range k).filter fun j => cl.getD j 0 = c
theorem memC_succ (cl : List Nat) (c k : Nat) : memC cl c (k + 1) = memC cl c k ++ (if cl.getD k 0 = c then [k] else []) := by
 unfold memC
 rw [List.range_succ, List.filter_append]
 congr 1
 by_cases h : cl.getD k 0 = c
 ·rw [if_pos h, List.filter_cons, if_pos (decide_eq_true h)]
  rfl
 ·rw [if_neg h, List.filter_cons, if_neg (by simpa using h)]
  rfl
theorem memC_lt {cl : List Nat} {c k x : Nat} (h : x ∈ memC cl c k) : x < k ∧ cl.getD x 0 = c := by
 obtain ⟨h1, h2⟩ := List.mem_filter.1 h
 exact ⟨List.mem_range.1 h1, by simpa using h2⟩
theorem memC_asc (cl : List Nat) (c k : Nat) : (memC cl c k).Pairwise (· < ·) := List.Pairwise.filter _ List.pairwise_lt_range
theorem memC_len (cl : List Nat) (c k : Nat) : (memC cl c k).length ≤ k := by
 have := List.length_filter_le (fun j => decide (cl.getD j 0 = c)) (List.range k)
 rw [List.length_range] at this
 exact this
def seenC (cl : List Nat) : Nat → List Nat
 | 0 => []
 | k + 1 => if cl.getD k 0 = 0 ∨ cl.getD k 0 ∈ seenC cl k then seenC cl k else seenC cl k ++ [cl.getD k 0]
theorem mem_seen {cl : List Nat} {c : Nat} : ∀ {k : Nat}, c ∈ seenC cl k ↔ c ≠ 0 ∧ ∃ j, j < k ∧ cl.getD j 0 = c
 | 0 => by simp [seenC]
 | k + 1 => by
  have ih := mem_seen (cl := cl) (c := c) (k := k)
  unfold seenC
  constructor
  ·intro h
   split at h
   ·obtain ⟨h1, j, h2, h3⟩ := ih.1 h
    exact ⟨h1, j, by omega, h3⟩
   ·rename_i hn
    rcases List.mem_append.1 h with h | h
    ·obtain ⟨h1, j, h2, h3⟩ := ih.1 h
     exact ⟨h1, j, by omega, h3⟩
    ·rw [List.mem_singleton.1 h]
     exact ⟨fun e => hn (.inl e), k, by omega, rfl⟩
  ·rintro ⟨h1, j, h2, h3⟩
   by_cases hj : j < k
   ·have := ih.2 ⟨h1, j, hj, h3⟩
    split
    ·exact this
    ·exact List.mem_append_left _ this
   ·have e : j = k := by omega
    subst e
    split
    ·rename_i hn
     rcases hn with hn | hn
     ·exact absurd (h3.symm.trans hn) h1
     ·rwa [h3] at hn
    ·rw [h3]
     exact List.mem_append_right _ (List.mem_singleton.2 rfl)
theorem seen_nodup (cl : List Nat) : ∀ k, (seenC cl k).Nodup
 | 0 => List.nodup_nil
 | k + 1 => by
  unfold seenC
  split
  ·exact seen_nodup cl k
  ·rename_i hn
   refine List.nodup_append.2 ⟨seen_nodup cl k, List.pairwise_singleton _ _, fun a ha b hb e => ?_⟩
   rw [List.mem_singleton.1 hb] at e
   exact hn (.inr (e ▸ ha))
def colG (sn : List Nat) (v : Nat → AV) : List (Value × AV) := sn.map fun c : Nat => (Value.int .i64 (c : Int), v c)
def slotV (f : Nat → Nat) (c : Nat) : AV := .hsl (2 + c) 0 0 (f c)
theorem colG_find (v : Nat → AV) (c : Nat) : ∀ sn : List Nat, mfind .i64 (c : Int) (colG sn v) = some (if c ∈ sn then some (v c) else none)
 | [] => by
  show some none = _
  simp
 | d :: sn => by
  show (match decide (IntKind.i64 = IntKind.i64) with
   | true => match decide ((c : Int) = (d : Int)) with
    | true => some (some (v d))
    | false => mfind .i64 (c : Int) (colG sn v)
   | false => none) = _
  rw [decide_eq_true (rfl : IntKind.i64 = IntKind.i64)]
  by_cases h : (c : Int) = (d : Int)
  ·rw [decide_eq_true h]
   have : c = d := by omega
   subst this
   simp
  ·rw [decide_eq_false h]
   show mfind .i64 (c : Int) (colG sn v) = _
   rw [colG_find v c sn]
   have hne : c ≠ d := fun e => h (by rw [e])
   simp [hne]
def updV (v : Nat → AV) (c : Nat) (x : AV) (d : Nat) : AV := if d = c then x else v d
theorem updV_ne {v : Nat → AV} {c d : Nat} {x : AV} (h : d ≠ c) : updV v c x d = v d := if_neg h
theorem updV_eq {v : Nat → AV} {c : Nat} {x : AV} : updV v c x c = x := if_pos rfl
theorem colG_congr {v w : Nat → AV} {sn : List Nat} (h : ∀ c ∈ sn, v c = w c) : colG sn v = colG sn w := by
 unfold colG
 exact List.map_congr_left fun c hc => by rw [h c hc]
theorem colG_put (v : Nat → AV) (c : Nat) (x : AV) : ∀ sn : List Nat, sn.Nodup → mput (c : Int) x (colG sn v) = colG sn (updV v c x)
 | [], _ => rfl
 | d :: sn, hn => by
  obtain ⟨h1, h2⟩ := List.nodup_cons.1 hn
  show (match decide ((c : Int) = (d : Int)) with
   | true => (Value.int .i64 (d : Int), x) :: colG sn v
   | false => (Value.int .i64 (d : Int), v d) :: mput (c : Int) x (colG sn v)) = _
  by_cases h : (c : Int) = (d : Int)
  ·rw [decide_eq_true h]
   have : c = d := by omega
   subst this
   show (Value.int .i64 (c : Int), x) :: colG sn v = (Value.int .i64 (c : Int), updV v c x c) :: colG sn (updV v c x)
   rw [updV_eq, colG_congr (w := updV v c x) fun e he => (updV_ne fun q => h1 (by rw [← q]; exact he)).symm]
  ·rw [decide_eq_false h]
   show _ = (Value.int .i64 (d : Int), updV v c x d) :: colG sn (updV v c x)
   rw [updV_ne fun q => h (by rw [q])]
   show (Value.int .i64 (d : Int), v d) :: mput (c : Int) x (colG sn v) = _
   rw [colG_put v c x sn h2]
theorem colG_snoc (v : Nat → AV) (c : Nat) (x : AV) (sn : List Nat) (h : c ∉ sn) : colG sn v ++ [(.int .i64 (c : Int), x)] = colG (sn ++ [c]) (updV v c x) := by
 rw [colG_congr (w := updV v c x) fun e he => (updV_ne fun q => h (by rw [← q]; exact he)).symm]
 unfold colG
 rw [List.map_append]
 show _ = _ ++ [(Value.int .i64 (c : Int), updV v c x c)]
 rw [updV_eq]
theorem colG_to {T : AV → AV → Prop} {ρ : Nat → Nat → Option (Nat × Nat)} {sn : List Nat} {v w : Nat → AV} (h : ∀ c ∈ sn, To T ρ (v c) (w c)) : ToB T ρ (.map (colG sn v)) (.map (colG sn w)) := by
 refine .map _ _ (by simp [colG]) (fun j x y a b => ?_) fun j x y a b => ?_
 ·unfold colG at a b
  rw [List.getElem?_map] at a b
  cases hq : sn[j]? with
  | none => rw [hq] at a; cases a
  | some c =>
   rw [hq] at a b
   simp only [Option.map_some, Option.some.injEq] at a b
   subst a; subst b
   rfl
 ·unfold colG at a b
  rw [List.getElem?_map] at a b
  cases hq : sn[j]? with
  | none => rw [hq] at a; cases a
  | some c =>
   rw [hq] at a b
   simp only [Option.map_some, Option.some.injEq] at a b
   subst a; subst b
   exact h c (List.mem_of_getElem? hq)
theorem colG_keyM (sn : List Nat) (v : Nat → AV) : colG sn v = keyM (sn.map fun c : Nat => ((c : Int), v c)) := by
 unfold colG keyM
 rw [List.map_map]
 rfl
def presC (cl : List Nat) : List Nat := [1, 2, 3, 4].filter fun c => decide (c ∈ cl)
end Go.Proofs.Ytpkpfgpfkajkpaa
namespace Go.Proofs.Ytpkpfgpfkajkpaa
open Go.Av Go.Proofs
set_option maxRecDepth 20000
def pickI : List Nat → ICode → ICode
 | [], c => c
 | 0 :: l, .seq a _ => pickI l a
 | _ :: l, .seq _ b => pickI l b
 | 0 :: l, .cond _ a _ => pickI l a
 | _ :: l, .cond _ _ b => pickI l b
 | _ :: l, .block _ a => pickI l a
 | _ :: l, .loop a => pickI l a
 | _ :: _, c => c
theorem colG_at {T : AV → AV → Prop} {ρ : Nat → Nat → Option (Nat × Nat)} {sn : List Nat} {f : Nat → Nat} (hcb : ∀ c ∈ sn, c = 1 ∨ c = 2 ∨ c = 3 ∨ c = 4) (h1 : ρ 3 0 = some (3, 0)) (h2 : ρ 4 0 = some (4, 0)) (h3 : ρ 5 0 = some (5, 0)) (h4 : ρ 6 0 = some (6, 0)) :
  ToB T ρ (.map (colG sn (slotV f))) (.map (colG sn (slotV f))) := colG_to fun c hc => by
 rcases hcb c hc with rfl | rfl | rfl | rfl
 ·exact .ren (.hsl _ _ _ _ _ _ h1)
 ·exact .ren (.hsl _ _ _ _ _ _ h2)
 ·exact .ren (.hsl _ _ _ _ _ _ h3)
 ·exact .ren (.hsl _ _ _ _ _ _ h4)
theorem sub_wm {k N : Nat} {fr fr' : Fr} {H H' : Heap} (szs : List Nat) (ids : List (List (Nat × Nat))) (h4 : famsTo (ToB (ToT (H ++ gh szs) H.length (notIn ids)) (rho ids)) (H ++ gh szs) ids H' := by (repeat' (first | exact colG_at (by assumption) rfl rfl rfl rfl | exact ToAll.nil | exact famsTo.nil | exact famTo.nil | exact ToL.nil | exact ToR.nil | refine ToAll.cons ?_ ?_ | refine famsTo.cons ?_ ?_ | refine wt10 ?_ ?_ | exact To.undef _ | exact To.sc _ | exact To.hslL rfl rfl | exact To.ptrO rfl rfl rfl | exact To.mrefO rfl | exact To.nil rfl rfl rfl | exact wt1 | exact To.nilL | refine To.int ?_ | refine To.bool ?_ | refine To.hslL rfl ?_ | refine wt2 rfl ?_ ?_ ?_ | refine To.tupL ?_ | refine To.aggL ?_ | refine To.cptrL ?_ | refine wt3 ?_ | refine wt4 ?_ | refine To.cloL ?_ ?_ | refine ToB.one ?_ | exact wt5 | refine wt6 ?_ | ((with_reducible apply ToL.consE); case e9 => rfl) | refine ToL.cons ?_ ?_ | exact wt7 | refine wt8 ?_ | exact wt11 | refine wt9 ?_ ?_ | refine wt12 ?_ | (with_reducible rfl) | assumption)); all_goals (first | rfl | assumption | (simp; done) | (simp; omega) | (rw [wrap_small (by omega) (by omega)]; done) | (rw [wrap_small (by omega) (by omega)]; omega) | (refine congrArg Nat.cast ?_; assumption)))
  (h5 : ToAll (ToT (H ++ gh szs) H.length (notIn ids)) (rho ids) fr fr' := by (repeat' (first | exact ToAll.nil | exact famsTo.nil | exact famTo.nil | exact ToL.nil | exact ToR.nil | refine ToAll.cons ?_ ?_ | refine famsTo.cons ?_ ?_ | refine wt10 ?_ ?_ | exact To.undef _ | exact To.sc _ | exact To.hslL rfl rfl | exact To.ptrO rfl rfl rfl | exact To.mrefO rfl | exact To.nil rfl rfl rfl | exact wt1 | exact To.nilL | refine To.int ?_ | refine To.bool ?_ | refine To.hslL rfl ?_ | refine wt2 rfl ?_ ?_ ?_ | refine To.tupL ?_ | refine To.aggL ?_ | refine To.cptrL ?_ | refine wt3 ?_ | refine wt4 ?_ | refine To.cloL ?_ ?_ | refine ToB.one ?_ | exact wt5 | refine wt6 ?_ | ((with_reducible apply ToL.consE); case e9 => rfl) | refine ToL.cons ?_ ?_ | exact wt7 | refine wt8 ?_ | exact wt11 | refine wt9 ?_ ?_ | refine wt12 ?_ | (with_reducible rfl) | assumption)); all_goals (first | rfl | assumption | (simp; done) | (simp; omega) | (rw [wrap_small (by omega) (by omega)]; done) | (rw [wrap_small (by omega) (by omega)]; omega) | (refine congrArg Nat.cast ?_; assumption))) (h1 : lowOK 0 k ids = true := by rfl) (h2 : lens k ids (H ++ gh szs) = true := by rfl) (h3 : ndup ids.flatten = true := by rfl) : Sub k N fr H fr' H' := .to szs ids h5 h4 h1 h2 h3
end Go.Proofs.Ytpkpfgpfkajkpaa
namespace Go.Proofs.Ytpkpfgpfkajkpaa
open Go.Av Go.Proofs
set_option maxRecDepth 20000
theorem dist0_of {n : Int} : ∀ {l s : List Int}, (∀ x ∈ l, 0 ≤ x ∧ x < n) → (∀ x ∈ l, x ∉ s) → l.Nodup → distE n s l = 0
 | [], _, _, _, _ => rfl
 | x :: l, s, h1, h2, h3 => by
  obtain ⟨q1, q2⟩ := h1 x (List.mem_cons_self ..)
  obtain ⟨n1, n2⟩ := List.nodup_cons.1 h3
  unfold distE
  rw [if_neg (by omega), if_neg (h2 x (List.mem_cons_self ..))]
  refine dist0_of (fun y hy => h1 y (List.mem_cons_of_mem _ hy)) (fun y hy hm => ?_) n2
  rcases List.mem_append.1 hm with hm | hm
  ·exact h2 y (List.mem_cons_of_mem _ hy) hm
  ·rw [List.mem_singleton.1 hm] at hy
   exact n1 hy
def castL (l : List Nat) : List Int := l.map fun j : Nat => (j : Int)
theorem castL_len (l : List Nat) : (castL l).length = l.length := List.length_map ..
theorem castL_nodup {l : List Nat} (h : l.Nodup) : (castL l).Nodup := by
 unfold castL
 rw [List.Nodup, List.pairwise_map]
 exact h.imp fun h e => h (by omega)
theorem castL_mem {l : List Nat} {x : Int} (h : x ∈ castL l) : ∃ j ∈ l, x = (j : Int) := by
 obtain ⟨j, h1, h2⟩ := List.mem_map.1 h
 exact ⟨j, h1, h2.symm⟩
theorem rk_range {n : Nat} {D : List Nat} (hn : n ≤ 64) (hD : D.Nodup) (hlt : ∀ x ∈ D, x < n) : rkE (castL (List.range n)) (castL D) = 0 := by
 have hc : checkE (castL (List.range n)) = 0 := by
  unfold checkE
  rw [if_neg (by rw [castL_len, List.length_range]; omega)]
  refine dist0_of (fun x hx => ?_) (fun x _ h => by cases h) (castL_nodup List.nodup_range)
  obtain ⟨j, h1, rfl⟩ := castL_mem hx
  have := List.mem_range.1 h1
  omega
 unfold rkE
 rw [if_pos hc]
 refine dist0_of (fun x hx => ?_) (fun x _ h => by cases h) (castL_nodup hD)
 obtain ⟨j, h1, rfl⟩ := castL_mem hx
 have := hlt j h1
 rw [castL_len, List.length_range]
 omega
theorem sel_range {n : Nat} {D : List Nat} (hlt : ∀ x ∈ D, x < n) : selE (castL (List.range n)) (castL D) = castL D := by
 unfold selE castL
 rw [List.map_map]
 refine List.map_congr_left fun x hx => ?_
 have := hlt x hx
 show (List.map (fun j : Nat => (j : Int)) (List.range n)).getD ((x : Int)).toNat 0 = (x : Int)
 rw [Int.toNat_natCast, List.getD_eq_getElem?_getD, List.getElem?_map, List.getElem?_range this]
 rfl
theorem incl_at {H : Heap} {g i m n : Nat} {D : List Nat} (hn : n ≤ 64) (hD : D.Nodup) (hlt : ∀ x ∈ D, x < n) (hl : D.length ≤ 64) (hm : m = D.length) (hx : hget H g i = some (.cells 1 (natsR D))) :
  CallOK Try.prog 41 [.list 1 (natsR (List.range n)), .hsl g i 0 m] H fun res H' => res = .tup [.hsl H.length 0 0 m, .sc (.int .i64 0)] ∧ H' = H ++ [[.cells 1 (natsR D)]] := by
 subst hm
 have hi := incl_ok (castL (List.range n)) (castL D) (by rw [castL_len, List.length_range]; omega) (by rw [castL_len]; omega)
 rw [rk_range hn hD hlt, sel_range hlt] at hi
 have e1 : intsR (castL (List.range n)) = natsR (List.range n) := intsR_nats _
 have e2 : intsR (castL D) = natsR D := intsR_nats _
 rw [e1, e2] at hi
 have hi2 : CallOK Try.prog 41 [.list 1 (natsR (List.range n)), .list 1 (natsR D)] [] fun res H' => res = .tup [.hsl 0 0 0 D.length, .sc (.int .i64 0)] ∧ H' = [[.cells 1 (natsR D)]] := by
  refine hi.mono ?_
  rintro res H' ⟨rfl, rfl⟩
  refine ⟨?_, ?_⟩
  ·show AV.tup [.hsl 0 0 0 (castL D).length, _] = _
   rw [castL_len]
   rfl
  ·show [[Blk.cells 1 (intsR (castL D))]] = _
   rw [e2]
 have hx' : hget (H ++ gh []) g i = some (.cells 1 (natsR D)) := by rw [show H ++ gh [] = H from List.append_nil H]; exact hx
 exact CallOK.viewT (natsR_sc _) hi2 (ToL.cons (.pure (.list _ _ (prs _))) (ToL.cons (To.fz hx' rfl (natsR_len D) rfl (prs _)) ToL.nil))
theorem repeat_at (H : Heap) (n : Nat) (h0 : 0 < n) (hn : n ≤ 64) : CallOK Try.prog 69 [.list 1 (intsR [-2]), .sc (.int .i64 (n : Int))] H fun res H' => res = .hsl H.length 0 0 n ∧ H' = H ++ [[.cells 1 (intsR (outs n))]] :=
 CallOK.viewL (fun r hr c hc => by
  obtain ⟨x, _, rfl⟩ := List.mem_map.1 hr
  exact ⟨_, List.mem_singleton.1 hc⟩) (repeat_ok n h0 hn) (ToL.cons (.pure (.list _ _ (prs _))) (ToL.cons (.sc _) ToL.nil))
theorem pres_perm {cl : List Nat} {n : Nat} (hn : cl.length = n) (h4 : ∀ c ∈ cl, c ≤ 4) : (seenC cl n).Perm (presC cl) := by
 refine (List.perm_ext_iff_of_nodup (seen_nodup cl n) (List.Pairwise.filter _ (by decide))).2 fun c => ?_
 rw [mem_seen, List.mem_filter]
 constructor
 ·rintro ⟨h1, j, h2, h3⟩
  have hm : c ∈ cl := by
   rw [← h3, List.getD_eq_getElem?_getD, List.getElem?_eq_getElem (by omega)]
   exact List.getElem_mem _
  have := h4 c hm
  refine ⟨?_, by simpa using hm⟩
  have : c = 1 ∨ c = 2 ∨ c = 3 ∨ c = 4 := by omega
  rcases this with rfl | rfl | rfl | rfl <;> decide
 ·rintro ⟨h1, h2⟩
  have hm : c ∈ cl := by simpa using h2
  obtain ⟨j, hj, e⟩ := List.getElem_of_mem hm
  refine ⟨fun e => (by subst e; exact absurd h1 (by decide)), j, by omega, ?_⟩
  rw [List.getD_eq_getElem?_getD, List.getElem?_eq_getElem hj]
  exact e
theorem pres_sort {cl : List Nat} {n : Nat} (hn : cl.length = n) (h4 : ∀ c ∈ cl, c ≤ 4) : sortI ((seenC cl n).map fun j : Nat => (j : Int)) = (presC cl).map fun j : Nat => (j : Int) := by
 refine (sorted_eq ((pres_perm hn h4).symm.map _) fun p q hpq hq => ?_).symm
 have hs : (presC cl).Pairwise (· < ·) := List.Pairwise.filter _ (by decide)
 have hs2 := List.pairwise_iff_getElem.1 hs
 rw [List.length_map] at hq
 have := hs2 p q (by omega) hq hpq
 simp only [List.getD_eq_getElem?_getD, List.getElem?_map, List.getElem?_eq_getElem hq, List.getElem?_eq_getElem (show p < (presC cl).length by omega), Option.map_some, Option.getD_some]
 omega
theorem pres_mem {cl : List Nat} {c : Nat} (h : c ∈ presC cl) : (c = 1 ∨ c = 2 ∨ c = 3 ∨ c = 4) ∧ c ∈ cl := by
 obtain ⟨h1, h2⟩ := List.mem_filter.1 h
 refine ⟨?_, by simpa using h2⟩
 simpa using h1
theorem pres_len (cl : List Nat) : (presC cl).length ≤ 4 := List.length_filter_le _ [1, 2, 3, 4]
theorem pres_nodup (cl : List Nat) : (presC cl).Nodup := List.Pairwise.filter _ (by decide)
theorem mem_memC {cl : List Nat} {c n j : Nat} : j ∈ memC cl c n ↔ j < n ∧ cl.getD j 0 = c := by
 unfold memC
 rw [List.mem_filter, List.mem_range]
 simp
def fnR (n : Nat) (W : Nat → Int) : List (List AV) := intsR ((List.range n).map W)
instance (n : Nat) (W : Nat → Int) : PRs (fnR n W) := inferInstanceAs (PRs (intsR _))
theorem fnR_len (n : Nat) (W : Nat → Int) : (fnR n W).length = n := by simp [fnR, intsR]
theorem fnR_ix {n : Nat} (W : Nat → Int) {k : Nat} (h : k < n) : rowIx (fnR n W) (k : Int) = some [.sc (.int .i64 (W k))] := by
 unfold fnR
 rw [intsR_ix _ k (by simpa using h)]
 simp
theorem fnR_congr {n : Nat} {V W : Nat → Int} (h : ∀ j, j < n → V j = W j) : fnR n V = fnR n W := by
 unfold fnR
 rw [List.map_congr_left fun j hj => h j (List.mem_range.1 hj)]
theorem fnR_set {n : Nat} (W : Nat → Int) {k : Nat} (x : Int) : (fnR n W).set k [.sc (.int .i64 x)] = fnR n (fun j => if j = k then x else W j) := by
 unfold fnR
 rw [intsR_set]
 congr 1
 refine List.ext_getElem (by simp) fun j h1 h2 => ?_
 rw [List.getElem_set]
 simp only [List.getElem_map, List.getElem_range]
 by_cases h : k = j
 ·rw [if_pos h, if_pos h.symm]
 ·rw [if_neg h, if_neg (fun e => h e.symm)]
theorem fnR_outs (n : Nat) : intsR (outs n) = fnR n fun _ => -2 := by
 unfold fnR
 congr 1
 refine List.ext_getElem (by simp [outs]) fun j h1 h2 => ?_
 simp [outs]
def outI (cl : List Nat) (N : Nat) (done : List Nat) (j : Nat) : Int := if cl.getD j 0 ∈ done then ((N + done.idxOf (cl.getD j 0) : Nat) : Int) else -2
theorem outI_snoc {cl : List Nat} {N c : Nat} {done D : List Nat} {n j : Nat} (hc : c ∉ done) (hD : D.Perm (memC cl c n)) (hj : j < n) : outI cl N (done ++ [c]) j = if j ∈ D then ((N + done.length : Nat) : Int) else outI cl N done j := by
 have hm : j ∈ D ↔ cl.getD j 0 = c := by rw [hD.mem_iff, mem_memC]; exact ⟨fun h => h.2, fun h => ⟨hj, h⟩⟩
 unfold outI
 by_cases h : cl.getD j 0 = c
 ·rw [if_pos (hm.2 h), if_pos (by rw [h]; simp), h, List.idxOf_append, if_neg hc]
  simp
 ·rw [if_neg (fun e => h (hm.1 e))]
  by_cases h2 : cl.getD j 0 ∈ done
  ·rw [if_pos h2, if_pos (List.mem_append_left _ h2), List.idxOf_append, if_pos h2]
  ·rw [if_neg h2, if_neg]
   intro e
   rcases List.mem_append.1 e with e | e
   ·exact h2 e
   ·exact h (List.mem_singleton.1 e)
end Go.Proofs.Ytpkpfgpfkajkpaa
