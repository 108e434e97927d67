import Derived.Test.YtpkpfgpfkajkpaaGCoD3
import Derived.Test.YtpkpfgpfkajkpaaGAvK4
import Derived.Test.YtpkpfgpfkajkpaaGCoB1
namespace Go.Proofs.Ytpkpfgpfkajkpaa
open Go.Av Go.Proofs
set_option maxRecDepth 20000
def insK (x : Int) : List Int → List Int
  | [] => [x]
  | y :: l => match ltK y x with
    | true => y :: insK x l
    | false => x :: y :: l
def isK : List Int → List Int
  | [] => []
  | x :: l => insK x (isK l)
theorem insK_perm (x : Int) : ∀ l, (insK x l).Perm (x :: l)
  | [] => .refl _
  | y :: l => by
    unfold insK
    split
    · exact ((insK_perm x l).cons y).trans (.swap x y l)
    · exact .refl _
theorem isK_perm : ∀ l, (isK l).Perm l
  | [] => .refl _
  | x :: l => (insK_perm x _).trans ((isK_perm l).cons x)
theorem ltK_iff (a b : Int) : ltK a b = true ↔ a < b := by rw [ltK_eq, decide_eq_true_eq]
theorem insK_sorted (x : Int) : ∀ l : List Int, l.Pairwise (· ≤ ·) → (insK x l).Pairwise (· ≤ ·)
  | [], _ => List.pairwise_singleton _ _
  | y :: l, h => by
    obtain ⟨h1, h2⟩ := List.pairwise_cons.1 h
    unfold insK
    split
    · rename_i e
      have e := (ltK_iff y x).1 e
      refine List.pairwise_cons.2 ⟨fun z hz => ?_, insK_sorted x l h2⟩
      rcases List.mem_cons.1 ((insK_perm x l).subset hz) with rfl | hz
      · omega
      · exact h1 z hz
    · rename_i e
      have e : ¬ y < x := fun h => by rw [(ltK_iff y x).2 h] at e; cases e
      refine List.pairwise_cons.2 ⟨fun z hz => ?_, h⟩
      rcases List.mem_cons.1 hz with rfl | hz
      · omega
      · have := h1 z hz; omega
theorem isK_sorted : ∀ l : List Int, (isK l).Pairwise (· ≤ ·)
  | [] => .nil
  | x :: l => insK_sorted x _ (isK_sorted l)
theorem isK_eq (l : List Int) : isK l = sortI l := by
  refine sorted_eq (isK_perm l) fun p q h1 h2 => ?_
  have := List.pairwise_iff_getElem.1 (isK_sorted l) p q (by omega) h2 h1
  simp only [List.getD_eq_getElem?_getD, List.getElem?_eq_getElem h2, List.getElem?_eq_getElem (show p < (isK l).length by omega), Option.getD_some]
  exact this
def keysK : List (Value × AV) → Option (List (Int × AV))
  | [] => some []
  | (.int .i64 n, a) :: r => match keysK r with
    | some l => some ((n, a) :: l)
    | none => none
  | _ :: _ => none
theorem keysK_eq : ∀ (es : List (Value × AV)) (l : List (Int × AV)), keysK es = some l → es = keyM l
  | [], l, h => by injection h with h; subst h; rfl
  | (k, a) :: r, l, h => by
    unfold keysK at h
    split at h
    · rename_i e
      cases e
    · rename_i n a' r' e
      injection e with e1 e2
      injection e1 with e3 e4
      subst e2; subst e3; subst e4
      split at h
      · rename_i l' e
        injection h with h
        subst h
        rw [keysK_eq _ _ e]
        rfl
      · cases h
    · cases h
def sum65 (args : List AV) (H : Heap) : Option (AV × Heap) :=
  match args with
  | [.clo (.func 103) [] [.ptr g i 0 0]] => match hget H g i with
    | some (.cells 1 [[.mref g' i']]) => match hget H g' i' with
      | some (.map es) => match keysK es with
        | some l => match Nat.ble l.length 12 with
          | true => some (.hsl H.length 0 0 l.length, H ++ [[.cells 1 (intsR (isK (l.map (·.1))))]])
          | false => none
        | none => none
      | _ => none
    | _ => none
  | _ => none
theorem sum65_ok (args : List AV) (H : Heap) (v : AV) (H' : Heap) (h : sum65 args H = some (v, H')) : CallOK Try.prog 65 args H fun r H2 => r = v ∧ H2 = H' := by
  unfold sum65 at h
  split at h
  · split at h
    · rename_i g i g' i' h1
      split at h
      · rename_i es h2
        split at h
        · rename_i l h3
          split at h
          · rename_i h4
            simp only [Option.some.injEq, Prod.mk.injEq] at h
            obtain ⟨rfl, rfl⟩ := h
            rw [keysK_eq _ _ h3] at h2
            rw [isK_eq]
            exact sorted_at l h1 h2 (Nat.le_of_ble_eq_true h4)
          · cases h
        · cases h
      · cases h
    · cases h
  · cases h
def natsK : List (List AV) → Option (List Nat)
  | [] => some []
  | [.sc (.int .i64 (.ofNat n))] :: r => match natsK r with
    | some l => some (n :: l)
    | none => none
  | _ :: _ => none
theorem natsK_eq : ∀ (es : List (List AV)) (l : List Nat), natsK es = some l → es = natsR l
  | [], l, h => by injection h with h; subst h; rfl
  | x :: r, l, h => by
    unfold natsK at h
    split at h
    · rename_i e
      cases e
    · rename_i n r' e
      injection e with e1 e2
      subst e1; subst e2
      split at h
      · rename_i l' e
        injection h with h
        subst h
        rw [natsK_eq _ _ e]
        rfl
      · cases h
    · cases h
def intsK : List (List AV) → Option (List Int)
  | [] => some []
  | [.sc (.int .i64 n)] :: r => match intsK r with
    | some l => some (n :: l)
    | none => none
  | _ :: _ => none
theorem intsK_eq : ∀ (es : List (List AV)) (l : List Int), intsK es = some l → es = intsR l
  | [], l, h => by injection h with h; subst h; rfl
  | x :: r, l, h => by
    unfold intsK at h
    split at h
    · rename_i e
      cases e
    · rename_i n r' e
      injection e with e1 e2
      subst e1; subst e2
      split at h
      · rename_i l' e
        injection h with h
        subst h
        rw [intsK_eq _ _ e]
        rfl
      · cases h
    · cases h
def scK : List (List AV) → Bool
  | [] => true
  | [.sc _] :: r => scK r
  | _ :: _ => false
theorem scK_pure : ∀ (es : List (List AV)), scK es = true → ∀ r ∈ es, ∀ c ∈ r, Pure c
  | [], _, r, hr, _, _ => by cases hr
  | x :: es, h, r, hr, c, hc => by
    unfold scK at h
    split at h
    · rename_i e
      cases e
    · rename_i v r' e
      injection e with e1 e2
      subst e1; subst e2
      rcases List.mem_cons.1 hr with rfl | hr
      · rw [List.mem_singleton.1 hc]
        exact .sc _
      · exact scK_pure _ h r hr c hc
    · cases h
def okS : List Nat → Bool
  | [] => true
  | a :: l => (Nat.blt 0 a && Nat.ble a 1000) && okS l
theorem okS_spec : ∀ (l : List Nat), okS l = true → ∀ a ∈ l, 0 < a ∧ a ≤ 1000
  | [], _, a, ha => by cases ha
  | x :: l, h, a, ha => by
    simp only [okS, Bool.and_eq_true] at h
    rcases List.mem_cons.1 ha with rfl | ha
    · exact ⟨Nat.le_of_ble_eq_true h.1.1, Nat.le_of_ble_eq_true h.1.2⟩
    · exact okS_spec l h.2 a ha
def sum74 (args : List AV) (H : Heap) : Option (AV × Heap) :=
  match args with
  | [.agg [.hsl g i 0 n, .hsl g' i' 0 m], .sc (.int .i64 (.ofNat r))] => match hget H g i, hget H g' i' with
    | some (.cells 1 rows), some (.cells 1 W) => match natsK rows with
      | some s => match (Nat.beq rows.length n && Nat.beq W.length m) && (scK W && okS s) && (Nat.ble s.length 1000 && Nat.ble r 1000000) with
        | true => some (.hsl H.length 0 0 s.length, H ++ [[.cells 1 (natsR (coordN s r))]])
        | false => none
      | none => none
    | _, _ => none
  | _ => none
theorem sum74_ok (args : List AV) (H : Heap) (v : AV) (H' : Heap) (h : sum74 args H = some (v, H')) : CallOK Try.prog 74 args H fun r H2 => r = v ∧ H2 = H' := by
  unfold sum74 at h
  split at h
  · rename_i g i n g' i' m r
    split at h
    · rename_i rows W h1 h2
      split at h
      · rename_i s h3
        split at h
        · rename_i h4
          simp only [Bool.and_eq_true] at h4
          obtain ⟨⟨⟨a1, a2⟩, a3, a4⟩, a5, a6⟩ := h4
          have a1 := Nat.eq_of_beq_eq_true a1
          have a2 := Nat.eq_of_beq_eq_true a2
          simp only [Option.some.injEq, Prod.mk.injEq] at h
          obtain ⟨rfl, rfl⟩ := h
          have := natsK_eq _ _ h3
          subst this
          have hW : PRs W := ⟨scK_pure W a3⟩
          have hc := coords_ok s W r (Nat.le_of_ble_eq_true a5) (okS_spec s a4) (Nat.le_of_ble_eq_true a6)
          have h1' : hget (H ++ gh []) g i = some (.cells 1 (natsR s)) := by rw [show H ++ gh [] = H from List.append_nil H]; exact h1
          have h2' : hget (H ++ gh []) g' i' = some (.cells 1 W) := by rw [show H ++ gh [] = H from List.append_nil H]; exact h2
          refine CallOK.viewL (fun r hr c hc => ?_) hc (ToL.cons (To.aggL (ToL.cons (wt2 h1' rfl a1 rfl) (ToL.cons (wt2 h2' rfl a2 rfl) ToL.nil))) (ToL.cons (To.sc _) ToL.nil))
          obtain ⟨n, _, rfl⟩ := List.mem_map.1 hr
          exact ⟨_, List.mem_singleton.1 hc⟩
        · cases h
      · cases h
    · cases h
  · cases h
def oneK (H : Heap) (a : AV) : Option (List Int) :=
  match a with
  | .hsl g i 0 n => match hget H g i with
    | some (.cells 1 rows) => match Nat.beq rows.length n with
      | true => intsK rows
      | false => none
    | _ => none
  | .sc (.slice none 0 0) => some []
  | .list 1 rows => intsK rows
  | _ => none
theorem oneK_to {H : Heap} {a : AV} {l : List Int} (h : oneK H a = some l) : To (ToT (H ++ gh []) H.length (notIn [])) (rho []) a (.list 1 (intsR l)) := by
  unfold oneK at h
  split at h
  · rename_i g i n
    split at h
    · rename_i rows h1
      split at h
      · rename_i h2
        have := intsK_eq _ _ h
        subst this
        exact wt2 (by rw [show H ++ gh [] = H from List.append_nil H]; exact h1) rfl (Nat.eq_of_beq_eq_true h2) rfl
      · cases h
    · cases h
  · injection h with h
    subst h
    exact To.nilL
  · have := intsK_eq _ _ h
    subst this
    exact To.pure (.list _ _ (prs _))
  · cases h
def sum80 (args : List AV) (H : Heap) : Option (AV × Heap) :=
  match args with
  | [.hsl g i 0 2] => match hget H g i with
    | some (.cells 1 [[a], [b]]) => match oneK H a, oneK H b with
      | some l, some m => match Nat.ble (l.length + m.length) 1000000 with
        | true => some (.hsl H.length 0 0 (l.length + m.length), H ++ [[.cells 1 (intsR (l ++ m))]])
        | false => none
      | _, _ => none
    | _ => none
  | _ => none
theorem sum80_ok (args : List AV) (H : Heap) (v : AV) (H' : Heap) (h : sum80 args H = some (v, H')) : CallOK Try.prog 80 args H fun r H2 => r = v ∧ H2 = H' := by
  unfold sum80 at h
  split at h
  · rename_i g i
    split at h
    · rename_i a b h1
      split at h
      · rename_i l m h2 h3
        split at h
        · rename_i h4
          simp only [Option.some.injEq, Prod.mk.injEq] at h
          obtain ⟨rfl, rfl⟩ := h
          have e1 : sumLen [l, m] = l.length + m.length := by simp [sumLen]
          have e2 : [l, m].flatten = l ++ m := by simp
          have hc := concat_ok [l, m] (by simp) (by rw [e1]; exact Nat.le_of_ble_eq_true h4)
          rw [e1, e2] at hc
          have h1' : hget (H ++ gh []) g i = some (.cells 1 [[a], [b]]) := by rw [show H ++ gh [] = H from List.append_nil H]; exact h1
          refine CallOK.viewL (fun r hr c hc => ?_) hc (ToL.cons (To.base (.fz (.hsl g i 0 2 1 [[a], [b]] rfl h1' (Nat.le_refl _))) ?_) ToL.nil)
          · obtain ⟨n, _, rfl⟩ := List.mem_map.1 hr
            exact ⟨_, List.mem_singleton.1 hc⟩
          · refine .list 1 _ _ rfl (fun i r r' a b => ?_) fun i r r' j x y a b c d => ?_
            · match i with
              | 0 => simp [listsR] at a b; subst a; subst b; rfl
              | 1 => simp [listsR] at a b; subst a; subst b; rfl
              | i + 2 => simp at a
            · match i with
              | 0 =>
                simp [listsR] at a b; subst a; subst b
                cases j with
                | zero => simp at c d; subst c; subst d; exact oneK_to h2
                | succ j => simp at c
              | 1 =>
                simp [listsR] at a b; subst a; subst b
                cases j with
                | zero => simp at c d; subst c; subst d; exact oneK_to h3
                | succ j => simp at c
              | i + 2 => simp at a
        · cases h
      · cases h
    · cases h
  · cases h
def trisK : List (List AV) → Option (List (Int × Int × Int))
  | [] => some []
  | [.sc (.int .i64 a), .sc (.int .i64 b), .sc (.int .i64 c)] :: r => match trisK r with
    | some l => some ((a, b, c) :: l)
    | none => none
  | _ :: _ => none
theorem trisK_eq : ∀ (es : List (List AV)) (l : List (Int × Int × Int)), trisK es = some l → es = triR l
  | [], l, h => by injection h with h; subst h; rfl
  | x :: r, l, h => by
    unfold trisK at h
    split at h
    · rename_i e
      cases e
    · rename_i a b c r' e
      injection e with e1 e2
      subst e1; subst e2
      split at h
      · rename_i l' e
        injection h with h
        subst h
        rw [trisK_eq _ _ e]
        rfl
      · cases h
    · cases h
def i64K (x : Int) : Bool := decide (-9223372036854775808 ≤ x) && decide (x ≤ 9223372036854775807)
def tri64 : List (Int × Int × Int) → Bool
  | [] => true
  | (a, b, c) :: l => (i64K a && (i64K b && i64K c)) && tri64 l
theorem tri64_spec : ∀ (l : List (Int × Int × Int)), tri64 l = true → ∀ t ∈ l, I64 t.1 ∧ I64 t.2.1 ∧ I64 t.2.2
  | [], _, t, ht => by cases ht
  | (a, b, c) :: l, h, t, ht => by
    simp only [tri64, i64K, Bool.and_eq_true, decide_eq_true_eq] at h
    rcases List.mem_cons.1 ht with rfl | ht
    · exact ⟨h.1.1, h.1.2.1, h.1.2.2⟩
    · exact tri64_spec l h.2 t ht
def sum14 (args : List AV) (H : Heap) : Option (AV × Heap) :=
  match args with
  | [.sc (.int .i64 (.ofNat n)), .hsl g i 0 m] => match hget H g i with
    | some (.cells 3 rows) => match trisK rows with
      | some ts => match (Nat.beq rows.length m && Nat.ble n 64) && (Nat.ble ts.length 1000000 && tri64 ts) with
        | true => some (.tup [.hsl H.length 0 0 (rangE n ts []).2.length, .sc (.int .i64 (rangE n ts []).1)], H ++ [[.cells 1 (intsR (rangE n ts []).2)]])
        | false => none
      | none => none
    | _ => none
  | _ => none
theorem sum14_ok (args : List AV) (H : Heap) (v : AV) (H' : Heap) (h : sum14 args H = some (v, H')) : CallOK Try.prog 14 args H fun r H2 => r = v ∧ H2 = H' := by
  unfold sum14 at h
  split at h
  · rename_i n g i m
    split at h
    · rename_i rows h1
      split at h
      · rename_i ts h3
        split at h
        · rename_i h4
          simp only [Bool.and_eq_true] at h4
          obtain ⟨⟨a1, a2⟩, a3, a4⟩ := h4
          have a1 := Nat.eq_of_beq_eq_true a1
          simp only [Option.some.injEq, Prod.mk.injEq] at h
          obtain ⟨rfl, rfl⟩ := h
          have := trisK_eq _ _ h3
          subst this
          have hc := ranges_ok n (Nat.le_of_ble_eq_true a2) ts (Nat.le_of_ble_eq_true a3) (tri64_spec ts a4)
          have h1' : hget (H ++ gh []) g i = some (.cells 3 (triR ts)) := by rw [show H ++ gh [] = H from List.append_nil H]; exact h1
          refine CallOK.viewT (fun r hr c hc => ?_) hc (ToL.cons (To.sc _) (ToL.cons (wt2 h1' rfl a1 rfl) ToL.nil))
          obtain ⟨n, _, rfl⟩ := List.mem_map.1 hr
          exact ⟨_, List.mem_singleton.1 hc⟩
        · cases h
      · cases h
    · cases h
  · cases h
def sumC : Caller := fun f args H =>
  match Nat.beq f 65 with
  | true => sum65 args H
  | false => match Nat.beq f 74 with
    | true => sum74 args H
    | false => match Nat.beq f 80 with
      | true => sum80 args H
      | false => match Nat.beq f 14 with
        | true => sum14 args H
        | false => none
theorem sumC_ok : CallerOK Try.prog sumC := by
  intro f args H v H' h
  unfold sumC at h
  split at h
  · rename_i e
    have := Nat.eq_of_beq_eq_true e
    subst this
    exact sum65_ok args H v H' h
  · split at h
    · rename_i e
      have := Nat.eq_of_beq_eq_true e
      subst this
      exact sum74_ok args H v H' h
    · split at h
      · rename_i e
        have := Nat.eq_of_beq_eq_true e
        subst this
        exact sum80_ok args H v H' h
      · split at h
        · rename_i e
          have := Nat.eq_of_beq_eq_true e
          subst this
          exact sum14_ok args H v H' h
        · cases h
end Go.Proofs.Ytpkpfgpfkajkpaa
namespace Go.Proofs.Ytpkpfgpfkajkpaa
open Go.Av Go.Proofs
set_option maxRecDepth 1000000
set_option maxHeartbeats 0
def tabC : List (Nat × IFun) := [(13, F13), (16, F16), (17, F17), (19, F19), (20, F20), (22, F22), (24, F24), (27, F27), (28, F28), (31, F31), (33, F33), (35, F35), (37, F37), (41, F41), (48, F48), (58, F58), (59, F59), (61, F61), (63, F63), (64, F64), (66, F66), (67, F67), (68, F68), (69, F69), (70, F70), (71, F71), (72, F72), (73, F73), (75, F75), (76, F76), (77, F77), (78, F78), (79, F79), (81, F81), (82, F82), (86, F86), (87, F87), (89, F89), (104, F104), (105, F105), (106, F106), (108, F108), (116, F116), (117, F117)]
theorem tabC_ok : TabOK Try.prog tabC :=
  ⟨cF13, cF16, cF17, cF19, cF20, cF22, cF24, cF27, cF28, cF31, cF33, cF35, cF37, cF41, cF48, cF58, cF59, cF61, cF63, cF64, cF66, cF67, cF68, cF69, cF70, cF71, cF72, cF73, cF75, cF76, cF77, cF78, cF79, cF81, cF82, cF86, cF87, cF89, cF104, cF105, cF106, cF108, cF116, cF117, trivial⟩
theorem works_run : runL sumC (tabL tabC) 1000 20 13 [] [] = some (.sc (.bool true), []) := by kernel_rfl
theorem works_call : CallOK Try.prog 13 [] [] fun res _ => res = .sc (.bool true) :=
  (runL_sound mixed sumC_ok (tabL_ok tabC_ok) 20 13 [] [] _ _ works_run).mono fun _ _ h => h.1
theorem works_ok : PureRun Try.prog 13 [] (.sc (.bool true)) := PureRun.of (fun _ h => by cases h) (.sc _) works_call
end Go.Proofs.Ytpkpfgpfkajkpaa
namespace Go.Proofs.Ytpkpfgpfkajkpaa
open Go.Av Go.Proofs
set_option maxRecDepth 20000
def boolsR (w : List Bool) : List (List AV) := w.map fun b => [.sc (.bool b)]
theorem boolsR_len (w : List Bool) : (boolsR w).length = w.length := by simp [boolsR]
instance (w : List Bool) : PRs (boolsR w) := ⟨fun r hr => by
  obtain ⟨a, _, rfl⟩ := List.mem_map.1 hr
  exact allPure_cons (.sc _) allPure_nil⟩
theorem boolsR_ix (w : List Bool) (k : Nat) (h : k < w.length) : rowIx (boolsR w) (k : Int) = some [.sc (.bool w[k])] := rowIx_map (fun b : Bool => [.sc (.bool b)]) w k h
def gridV (s : List Int) (w : List Bool) : AV := .agg [.list 1 (intsR s), .list 1 (boolsR w)]
theorem grid_pure (s : List Int) (w : List Bool) : Pure (gridV s w) := .agg _ (allPure_cons (.list _ _ (prs _)) (allPure_cons (.list _ _ (prs _)) allPure_nil))
instance (s : List Int) (w : List Bool) : PV (gridV s w) := ⟨grid_pure s w⟩
def cntG (n : Nat) : List Int → Nat
  | [] => n
  | x :: l => if x < 1 ∨ 64 < x ∨ 64 < (n : Int) * x then 0 else cntG (n * x.toNat) l
def cntE (s : List Int) (w : List Bool) : Nat := if s.length < 1 ∨ 4 < s.length ∨ w.length ≠ s.length then 0 else cntG 1 s
set_option maxHeartbeats 4000000 in
theorem count_ok (s : List Int) (w : List Bool) : PureRun Try.prog 75 [gridV s w] (.sc (.int .i64 (cntE s w : Nat))) := by
  refine PureRun.of (allPure_cons (grid_pure s w) allPure_nil) (.sc _) (CallOK.mono (R := fun res H' => res = .sc (.int .i64 (cntE s w : Nat)) ∧ H' = []) ?_ fun _ _ h => h.1)
  unfold gridV
  refine CallOK.of cF75 ?_ (Nat.le_of_ble_eq_true rfl)
  have e0 := intsR_len s
  have ew := boolsR_len w
  by_cases h1 : s.length < 1
  · have hres : AV.sc (Value.int .i64 0) = .sc (.int .i64 (cntE s w : Nat)) := by unfold cntE; rw [if_pos (.inl h1)]; rfl
    refine walkX ?_
    rw [e0, decide_eq_true h1]
    refine walkX ?_
    exact endW [] (⟨hres, rfl⟩)
  by_cases h2 : 4 < s.length
  · have hres : AV.sc (Value.int .i64 0) = .sc (.int .i64 (cntE s w : Nat)) := by unfold cntE; rw [if_pos (.inr (.inl h2))]; rfl
    refine walkX ?_
    rw [e0, decide_eq_false h1]
    refine walkX ?_
    rw [e0, decide_eq_true h2]
    refine walkX ?_
    exact endW [] (⟨hres, rfl⟩)
  by_cases h3 : w.length = s.length
  case neg =>
    have hres : AV.sc (Value.int .i64 0) = .sc (.int .i64 (cntE s w : Nat)) := by unfold cntE; rw [if_pos (.inr (.inr h3))]; rfl
    refine walkX ?_
    rw [e0, decide_eq_false h1]
    refine walkX ?_
    rw [e0, decide_eq_false h2]
    refine walkX ?_
    rw [ew, e0, decide_eq_false h3]
    refine walkX ?_
    exact endW [] (⟨hres, rfl⟩)
  have hc : cntE s w = cntG 1 s := if_neg (by omega)
  refine walkX ?_
  rw [e0, decide_eq_false h1]
  refine walkX ?_
  rw [e0, decide_eq_false h2]
  refine walkX ?_
  rw [ew, e0, decide_eq_true h3]
  refine walkX ?_
  rw [e0]
  refine AWP.loop (fun q : Nat × Nat => [(3, .sc (.int .i64 (q.2 : Int))), (26, .list 1 (intsR s)), (27, .sc (.int .i64 (s.length : Int))), (28, .sc (.int .i64 (q.1 : Int)))])
    (fun _ => []) (fun q => q.1 ≤ s.length ∧ q.2 ≤ 64 ∧ cntE s w = cntG q.2 (s.drop q.1)) (fun q => s.length - q.1) (0, 1) ⟨Nat.zero_le _, by omega, hc⟩ ?_ ?_
  · exact Sub.w [] []
  rintro ⟨k, n⟩ ⟨hk, hn, hcn⟩
  dsimp only at hk hn hcn ⊢
  refine walkX ?_
  refine AWP.condD rfl (fun h => ?_) (fun h => ?_)
  · have hr := intsR_ix s k h
    have hd : cntG n (s.drop k) = if s[k] < 1 ∨ 64 < s[k] ∨ 64 < (n : Int) * s[k] then 0 else cntG (n * s[k].toNat) (s.drop (k + 1)) := by
      rw [List.drop_eq_getElem_cons h]
      rfl
    rw [hd] at hcn
    generalize s[k] = x at *
    by_cases x1 : x < 1
    · rw [if_pos (.inl x1)] at hcn
      have hres : AV.sc (Value.int .i64 0) = .sc (.int .i64 (cntE s w : Nat)) := by rw [hcn]; rfl
      refine walkX ?_
      rw [decide_eq_true x1]
      refine walkX ?_
      exact endW [] (⟨hres, rfl⟩)
    by_cases x2 : 64 < x
    · rw [if_pos (.inr (.inl x2))] at hcn
      have hres : AV.sc (Value.int .i64 0) = .sc (.int .i64 (cntE s w : Nat)) := by rw [hcn]; rfl
      refine walkX ?_
      rw [decide_eq_false x1]
      refine walkX ?_
      rw [decide_eq_true x2]
      refine walkX ?_
      exact endW [] (⟨hres, rfl⟩)
    obtain ⟨q, rfl⟩ : ∃ q : Nat, x = q := ⟨x.toNat, by omega⟩
    have hq : q ≤ 64 := by omega
    have hnq : n * q ≤ 64 * 64 := Nat.mul_le_mul hn hq
    by_cases x3 : 64 < n * q
    · have x3' : 64 < (n : Int) * (q : Int) := by rw [← Int.natCast_mul]; omega
      rw [if_pos (.inr (.inr x3'))] at hcn
      have hres : AV.sc (Value.int .i64 0) = .sc (.int .i64 (cntE s w : Nat)) := by rw [hcn]; rfl
      refine walkX ?_
      rw [decide_eq_false (show ¬ q < 1 by omega)]
      refine walkX ?_
      rw [decide_eq_false (show ¬ 64 < q by omega)]
      refine walkX ?_
      rw [decide_eq_true x3]
      refine walkX ?_
      exact endW [] (⟨hres, rfl⟩)
    · have x3' : ¬ 64 < (n : Int) * (q : Int) := by rw [← Int.natCast_mul]; omega
      rw [if_neg (by omega), Int.toNat_natCast] at hcn
      refine walkX ?_
      rw [decide_eq_false (show ¬ q < 1 by omega)]
      refine walkX ?_
      rw [decide_eq_false (show ¬ 64 < q by omega)]
      refine walkX ?_
      rw [decide_eq_false x3]
      refine walkX ?_
      refine ⟨(k + 1, n * q), ⟨by dsimp only; omega, by dsimp only; omega, hcn⟩, by dsimp only; omega, ?_⟩
      exact Sub.w [] []
  have hk : k = s.length := by omega
  subst hk
  rw [List.drop_length] at hcn
  have hres : AV.sc (Value.int .i64 (n : Int)) = .sc (.int .i64 (cntE s w : Nat)) := by rw [hcn]; rfl
  refine walkX ?_
  exact endW [] (⟨hres, rfl⟩)
def natI (s : List Nat) : List Int := s.map fun n : Nat => (n : Int)
theorem natsR_I (s : List Nat) : natsR s = intsR (natI s) := by simp [natsR, intsR, natI]
theorem natI_len (s : List Nat) : (natI s).length = s.length := by simp [natI]
theorem cnt_good : ∀ {s : List Int} {n m : Nat}, cntG n s = m → 0 < m → ∃ t : List Nat, s = natI t ∧ (∀ a ∈ t, 1 ≤ a ∧ a ≤ 64) ∧ m = n * prodN t
  | [], n, m, h, _ => ⟨[], rfl, fun _ h => (by cases h), (by simp only [cntG] at h; rw [← h]; exact (Nat.mul_one n).symm)⟩
  | x :: s, n, m, h, hm => by
    unfold cntG at h
    split at h
    · omega
    · rename_i hx
      obtain ⟨t, rfl, h1, h2⟩ := cnt_good h hm
      refine ⟨x.toNat :: t, ?_, fun a ha => ?_, ?_⟩
      · show x :: natI t = (x.toNat : Int) :: natI t
        rw [Int.toNat_of_nonneg (by omega)]
      · rcases List.mem_cons.1 ha with rfl | ha
        · omega
        · exact h1 a ha
      · rw [h2, Nat.mul_assoc]
        rfl
theorem cnt_le : ∀ {s : List Int} {n : Nat}, n ≤ 64 → cntG n s ≤ 64
  | [], n, h => h
  | x :: s, n, h => by
    unfold cntG
    split
    · omega
    · rename_i hx
      refine cnt_le ?_
      obtain ⟨q, rfl⟩ : ∃ q : Nat, x = q := ⟨x.toNat, by omega⟩
      have : ¬ 64 < (n : Int) * (q : Int) := fun h => hx (.inr (.inr h))
      rw [← Int.natCast_mul] at this
      rw [Int.toNat_natCast]
      omega
theorem cntE_good {s : List Int} {w : List Bool} (h : 0 < cntE s w) : ∃ t : List Nat, s = natI t ∧ w.length = t.length ∧ 1 ≤ t.length ∧ t.length ≤ 4 ∧ (∀ a ∈ t, 1 ≤ a ∧ a ≤ 64) ∧ cntE s w = prodN t ∧ prodN t ≤ 64 := by
  unfold cntE at h ⊢
  split at h
  · omega
  · rename_i hs
    rw [if_neg hs]
    obtain ⟨t, rfl, h1, h2⟩ := cnt_good rfl h
    rw [natI_len] at hs
    have := @cnt_le (natI t) 1 (by omega)
    exact ⟨t, rfl, by omega, by omega, by omega, h1, by rw [h2, Nat.one_mul], by omega⟩
theorem tmod_emod {x : Int} {n : Nat} (h : 0 < n) : (x.tmod n + n).tmod n = x % n := by
  have h0 : (0 : Int) ≤ x % n := Int.emod_nonneg _ (by omega)
  have h1 : x % n < n := Int.emod_lt_of_pos _ (by omega)
  rw [Int.tmod_eq_emod_of_nonneg (by rw [Int.tmod_eq_emod]; split <;> omega), Int.tmod_eq_emod]
  split
  · rw [show x % (n : Int) - ((0 : Nat) : Int) + n = x % n + n by omega, Int.add_emod_right, Int.emod_emod]
  · rw [show x % (n : Int) - ((n : Int).natAbs : Int) + n = x % n by omega, Int.emod_emod]
theorem tmod_emod2 {x : Int} {n : Nat} (h : 0 < n) : (if x.tmod n < 0 then x.tmod n + n else x.tmod n) = x % n := by
  have h0 : (0 : Int) ≤ x % n := Int.emod_nonneg _ (by omega)
  have h1 : x % n < n := Int.emod_lt_of_pos _ (by omega)
  rw [Int.tmod_eq_emod]
  split <;> split <;> omega
theorem tmod_rng (x : Int) {n : Nat} (h : 0 < n) : -(n : Int) < x.tmod n ∧ x.tmod n < n := by
  have h0 : (0 : Int) ≤ x % n := Int.emod_nonneg _ (by omega)
  have h1 : x % n < n := Int.emod_lt_of_pos _ (by omega)
  rw [Int.tmod_eq_emod]
  split <;> rename_i hh
  · omega
  · have : x % (n : Int) ≠ 0 := fun e => hh (.inr (Int.dvd_of_emod_eq_zero e))
    omega
theorem dstep_remI {g i : Nat} {fr : Fr} {H : Heap} {t : TypeId} {x y : Operand} {a b : Int} (hx : ev fr x = .sc (.int .i64 a)) (hy : ev fr y = .sc (.int .i64 b)) (hb : b ≠ 0) :
    dstep g i (.bin .rem t x y) fr H = some (.sc (.int .i64 (a.tmod b)), H) := by
  simp only [dstep, hx, hy]
  have e0 : (do eqGuard .rem t x y (.int .i64 a) (.int .i64 b); binOp .rem t (.int .i64 a) (.int .i64 b) : Sem Value) = binOp .rem t (.int .i64 a) (.int .i64 b) := rfl
  have e : binOp .rem t (.int .i64 a) (.int .i64 b) = Op.intDiv .rem .i64 a b := rfl
  have e2 : Sem.pure? (Op.intDiv .rem .i64 a b) = some (.int .i64 (a.tmod b)) := by
    unfold Op.intDiv
    rw [if_neg hb]
    rfl
  rw [e0, e, e2]
theorem dstep_addI {g i : Nat} {fr : Fr} {H : Heap} {t : TypeId} {x y : Operand} {a b : Int} (hx : ev fr x = .sc (.int .i64 a)) (hy : ev fr y = .sc (.int .i64 b)) (h1 : -9223372036854775808 ≤ a + b) (h2 : a + b ≤ 9223372036854775807) :
    dstep g i (.bin .add t x y) fr H = some (.sc (.int .i64 (a + b)), H) := by
  simp only [dstep, hx, hy]
  show some (AV.sc (.int .i64 (IntKind.i64.wrap (a + b))), H) = _
  rw [wrap_small h1 h2]
set_option maxHeartbeats 4000000 in
theorem wrapped_ok (x : Int) (n : Nat) (h : 0 < n) (hn : n ≤ 1000) : PureRun Try.prog 108 [.sc (.int .i64 x), .sc (.int .i64 (n : Int))] (.sc (.int .i64 (x % n))) := by
  refine PureRun.of (allPure_cons (.sc _) (allPure_cons (.sc _) allPure_nil)) (.sc _) (CallOK.mono (R := fun res H' => res = .sc (.int .i64 (x % n)) ∧ H' = []) ?_ fun _ _ h => h.1)
  refine CallOK.of cF108 ?_ (Nat.le_of_ble_eq_true rfl)
  have hr := tmod_rng x h
  have he := @tmod_emod x n h
  refine walkX ?_
  refine Reg.o rfl (dstep_remI rfl rfl (by omega)) ?_
  (first | refine wr13 ?_ | refine wd13 ?_ | refine wr14 ?_ | refine wv1 ?_ | refine wv2 ?_ | refine wv3 ?_ | refine wv4 ?_ | refine wv5 ?_ | refine wv6 ?_ | refine wv7 ?_ | refine wv8 ?_ | refine wv9 ?_ | refine wv10 ?_ | refine wr1 ?_ | refine wr2 ?_ | refine wr3 ?_ | refine wr4 ?_ | refine Reg.nil ?_ | refine wd1 ?_ | refine wd2 ?_ | refine wd3 ?_ | refine wd4 ?_ | refine AWP.seq ?_ | refine AWP.region ?_ | refine AWP.dk mixed ?_ | refine AWP.condT rfl ?_ | refine AWP.condF rfl ?_ | refine AWP.skip ?_ | refine AWP.ret ?_ | refine AWP.exit ?_ | refine AWP.block ?_ | refine wr5 ?_ | refine wr6 ?_ | refine wr7 ?_ | refine wr8 ?_ | refine wr9 ?_ | refine wr10 ?_ | refine wd5 ?_ | refine wd6 ?_ | refine wd7 ?_ | refine wd8 ?_ | refine wd9 ?_ | refine wd10 ?_ | refine wr11 ?_ | refine wr12 ?_ | refine wd11 ?_ | refine wd12 ?_ )
  refine Reg.o rfl (dstep_addI rfl rfl (by omega) (by omega)) ?_
  (first | refine wr13 ?_ | refine wd13 ?_ | refine wr14 ?_ | refine wv1 ?_ | refine wv2 ?_ | refine wv3 ?_ | refine wv4 ?_ | refine wv5 ?_ | refine wv6 ?_ | refine wv7 ?_ | refine wv8 ?_ | refine wv9 ?_ | refine wv10 ?_ | refine wr1 ?_ | refine wr2 ?_ | refine wr3 ?_ | refine wr4 ?_ | refine Reg.nil ?_ | refine wd1 ?_ | refine wd2 ?_ | refine wd3 ?_ | refine wd4 ?_ | refine AWP.seq ?_ | refine AWP.region ?_ | refine AWP.dk mixed ?_ | refine AWP.condT rfl ?_ | refine AWP.condF rfl ?_ | refine AWP.skip ?_ | refine AWP.ret ?_ | refine AWP.exit ?_ | refine AWP.block ?_ | refine wr5 ?_ | refine wr6 ?_ | refine wr7 ?_ | refine wr8 ?_ | refine wr9 ?_ | refine wr10 ?_ | refine wd5 ?_ | refine wd6 ?_ | refine wd7 ?_ | refine wd8 ?_ | refine wd9 ?_ | refine wd10 ?_ | refine wr11 ?_ | refine wr12 ?_ | refine wd11 ?_ | refine wd12 ?_ )
  refine Reg.o rfl (dstep_remI rfl rfl (by omega)) ?_
  rw [he]
  refine walkX ?_
  exact endW [] (⟨rfl, rfl⟩)
set_option maxHeartbeats 4000000 in
theorem modulo_ok (x : Int) (n : Nat) (h : 0 < n) (hn : n ≤ 1000) : PureRun Try.prog 111 [.sc (.int .i64 x), .sc (.int .i64 (n : Int))] (.sc (.int .i64 (x % n))) := by
  refine PureRun.of (allPure_cons (.sc _) (allPure_cons (.sc _) allPure_nil)) (.sc _) (CallOK.mono (R := fun res H' => res = .sc (.int .i64 (x % n)) ∧ H' = []) ?_ fun _ _ h => h.1)
  refine CallOK.of cF111 ?_ (Nat.le_of_ble_eq_true rfl)
  have hr := tmod_rng x h
  have he := @tmod_emod2 x n h
  refine walkX ?_
  refine Reg.o rfl (dstep_remI rfl rfl (by omega)) ?_
  generalize x.tmod n = y at *
  by_cases hy : y < 0
  · rw [if_pos hy] at he
    refine walkX ?_
    rw [decide_eq_true hy]
    refine walkX ?_
    rw [wrap_small (by omega) (by omega), he]
    exact endW [] (⟨rfl, rfl⟩)
  · rw [if_neg hy] at he
    rw [he] at *
    refine walkX ?_
    rw [decide_eq_false hy]
    refine walkX ?_
    exact endW [] (⟨rfl, rfl⟩)
def wrapI (b : Bool) (x : Int) (a : Nat) : Int := if b then x % a else x
def rkG : Nat → List Nat → List Bool → List Int → Int
  | n, a :: s, b :: w, x :: c => if wrapI b x a < 0 ∨ (a : Int) ≤ wrapI b x a then -2 else rkG (n * a + (wrapI b x a).toNat) s w c
  | n, _, _, _ => n
theorem rkG_drop {n : Nat} {s : List Nat} {w : List Bool} {c : List Int} {k : Nat} (h1 : k < s.length) (h2 : k < w.length) (h3 : k < c.length) :
    rkG n (s.drop k) (w.drop k) (c.drop k) = if wrapI w[k] c[k] s[k] < 0 ∨ (s[k] : Int) ≤ wrapI w[k] c[k] s[k] then -2 else rkG (n * s[k] + (wrapI w[k] c[k] s[k]).toNat) (s.drop (k + 1)) (w.drop (k + 1)) (c.drop (k + 1)) := by
  rw [List.drop_eq_getElem_cons h1, List.drop_eq_getElem_cons h2, List.drop_eq_getElem_cons h3]
  rfl
theorem lt_pow {n a y k : Nat} (h : n < 64 ^ k) (ha : a ≤ 64) (hy : y < a) : n * a + y < 64 ^ (k + 1) := by
  have h1 : (n + 1) * a ≤ 64 ^ k * 64 := Nat.mul_le_mul (by omega) ha
  rw [Nat.pow_succ]
  rw [Nat.add_mul] at h1
  omega
theorem pow_le {n k m : Nat} (h : n < 64 ^ k) (hk : k ≤ m) (hm : m ≤ 4) : n < 16777216 := by
  have : (64 : Nat) ^ k ≤ 64 ^ 4 := Nat.pow_le_pow_right (by omega) (by omega)
  have e : (64 : Nat) ^ 4 = 16777216 := by decide
  omega
set_option maxHeartbeats 8000000 in
theorem rank_ok (s : List Nat) (w : List Bool) (c : List Int) (hw : w.length = s.length) (hc : c.length = s.length) (h4 : s.length ≤ 4) (hs : ∀ a ∈ s, 1 ≤ a ∧ a ≤ 64) : PureRun Try.prog 76 [gridV (natI s) w, .list 1 (intsR c)] (.sc (.int .i64 (rkG 0 s w c))) := by
  refine PureRun.of (allPure_cons (grid_pure _ _) (allPure_cons (.list _ _ (prs _)) allPure_nil)) (.sc _) (CallOK.mono (R := fun res H' => res = .sc (.int .i64 (rkG 0 s w c)) ∧ H' = []) ?_ fun _ _ h => h.1)
  unfold gridV
  rw [← natsR_I]
  refine CallOK.of cF76 ?_ (Nat.le_of_ble_eq_true rfl)
  have e0 := natsR_len s
  have ew := boolsR_len w
  have ec := intsR_len c
  refine walkX ?_
  rw [ec]
  refine AWP.loop (fun q : Nat × Nat => [(2, .ptr 0 0 0 0), (5, .sc (.int .i64 (q.2 : Int))), (8, .list 1 (intsR c)), (9, .sc (.int .i64 (c.length : Int))), (10, .sc (.int .i64 (q.1 : Int)))])
    (fun _ => [[.cells 2 [[.list 1 (natsR s), .list 1 (boolsR w)]]]]) (fun q => q.1 ≤ s.length ∧ q.2 < 64 ^ q.1 ∧ rkG 0 s w c = rkG q.2 (s.drop q.1) (w.drop q.1) (c.drop q.1)) (fun q => s.length - q.1) (0, 0) ⟨Nat.zero_le _, by decide, rfl⟩ ?_ ?_
  · exact Sub.w [] [[(0,0)]]
  rintro ⟨k, n⟩ ⟨hk, hn, hcn⟩
  dsimp only at hk hn hcn ⊢
  refine walkX ?_
  refine AWP.condD rfl (fun h => ?_) (fun h => ?_)
  · have h1 : k < s.length := by omega
    have hrs := natsR_ix s k h1
    have hrw := boolsR_ix w k (by omega)
    have hrc := intsR_ix c k h
    rw [rkG_drop h1 (by omega) h] at hcn
    have ha := hs _ (List.getElem_mem h1)
    have hn2 := @lt_pow n s[k] (wrapI w[k] c[k] s[k]).toNat k hn ha.2
    have hn3 := pow_le hn hk h4
    generalize s[k] = a at *
    generalize c[k] = x at *
    have hwr := wrapped_ok x a (by omega) (by omega)
    cases hb : w[k] with
    | true =>
      rw [hb] at hrw hcn hn2
      have e9 : wrapI true x a = x % (a : Int) := rfl
      rw [e9] at hcn hn2
      have h0 : 0 ≤ x % (a : Int) := Int.emod_nonneg _ (by omega)
      have h9 : x % (a : Int) < a := Int.emod_lt_of_pos _ (by omega)
      rw [if_neg (by omega)] at hcn
      obtain ⟨y, hy⟩ : ∃ y : Nat, x % (a : Int) = y := ⟨(x % (a : Int)).toNat, by omega⟩
      rw [hy] at hwr hcn hn2 h9
      rw [Int.toNat_natCast] at hcn hn2
      have hn4 : n * a ≤ 16777216 * 64 := Nat.mul_le_mul (by omega) ha.2
      refine walkX ?_
      rw [decide_eq_false (show ¬ a ≤ y by omega)]
      refine walkX ?_
      refine ⟨(k + 1, n * a + y), ⟨by dsimp only; omega, hn2 (by omega), hcn⟩, by dsimp only; omega, ?_⟩
      exact Sub.w [] [[(0,0)]]
    | false =>
      rw [hb] at hrw hcn hn2
      have e9 : wrapI false x a = x := rfl
      rw [e9] at hcn hn2
      by_cases x0 : x < 0
      · rw [if_pos (.inl x0)] at hcn
        have hres : AV.sc (Value.int .i64 (-2)) = .sc (.int .i64 (rkG 0 s w c)) := by rw [hcn]
        refine walkX ?_
        rw [decide_eq_true x0]
        refine walkX ?_
        exact endW [] (⟨hres, rfl⟩)
      obtain ⟨y, rfl⟩ : ∃ y : Nat, x = y := ⟨x.toNat, by omega⟩
      rw [Int.toNat_natCast] at hcn hn2
      by_cases x1 : a ≤ y
      · rw [if_pos (.inr (by omega))] at hcn
        have hres : AV.sc (Value.int .i64 (-2)) = .sc (.int .i64 (rkG 0 s w c)) := by rw [hcn]
        refine walkX ?_
        rw [decide_eq_true x1]
        refine walkX ?_
        exact endW [] (⟨hres, rfl⟩)
      rw [if_neg (by omega)] at hcn
      have hn4 : n * a ≤ 16777216 * 64 := Nat.mul_le_mul (by omega) ha.2
      refine walkX ?_
      rw [decide_eq_false x1]
      refine walkX ?_
      refine ⟨(k + 1, n * a + y), ⟨by dsimp only; omega, hn2 (by omega), hcn⟩, by dsimp only; omega, ?_⟩
      exact Sub.w [] [[(0,0)]]
  have hk : k = s.length := by omega
  subst hk
  rw [List.drop_length] at hcn
  have hres : AV.sc (Value.int .i64 (n : Int)) = .sc (.int .i64 (rkG 0 s w c)) := by rw [hcn]; rfl
  refine walkX ?_
  exact endW [] (⟨hres, rfl⟩)
end Go.Proofs.Ytpkpfgpfkajkpaa
namespace Go.Proofs.Ytpkpfgpfkajkpaa
open Go.Av Go.Proofs
set_option maxRecDepth 20000
theorem coord_rng : ∀ (s : List Nat) (r : Nat), (∀ a ∈ s, 1 ≤ a ∧ a ≤ 64) → ∀ (k : Nat) (h : k < (coordN s r).length) (h2 : k < s.length), (coordN s r)[k] < s[k]
  | a :: s, r, hs, 0, _, _ => Nat.mod_lt _ (by have := hs a (by simp); omega)
  | a :: s, r, hs, k + 1, h, h2 => by
    simpa [coordN] using coord_rng s r (fun b hb => hs b (by simp [hb])) k (by simpa [coordN] using h) (by simpa using h2)
theorem coords_at (s : List Nat) (w : List Bool) (r : Nat) (h4 : s.length ≤ 4) (hs : ∀ a ∈ s, 1 ≤ a ∧ a ≤ 64) (hr : r ≤ 1000000) (H : Heap) :
    CallOK Try.prog 74 [gridV (natI s) w, .sc (.int .i64 (r : Int))] H fun res H' => res = .hsl H.length 0 0 s.length ∧ H' = H ++ [[.cells 1 (natsR (coordN s r))]] := by
  have h := coords_ok s (boolsR w) r (by omega) (fun a ha => by have := hs a ha; omega) hr
  unfold natsV at h
  rw [natsR_I] at h
  refine CallOK.viewL (fun q hq c hc => ?_) h (ToL.cons (To.pure (grid_pure _ _)) (ToL.cons (To.sc _) ToL.nil))
  obtain ⟨n, _, rfl⟩ := List.mem_map.1 hq
  exact ⟨_, List.mem_singleton.1 hc⟩
def movedE (s : List Nat) (w : List Bool) (r d : Nat) (y : Int) : Int := rkG 0 s w ((natI (coordN s r)).set d (((coordN s r).getD d 0 : Nat) + y))
def shiftE (s : List Nat) (w : List Bool) (r d : Nat) (b : Int) : Int × Int :=
  if wrapI (w.getD d false) b (s.getD d 0) ≤ -(s.getD d 0 : Int) ∨ (s.getD d 0 : Int) ≤ wrapI (w.getD d false) b (s.getD d 0) then (-2, -2)
  else (movedE s w r d (-wrapI (w.getD d false) b (s.getD d 0)), movedE s w r d (wrapI (w.getD d false) b (s.getD d 0)))
set_option maxHeartbeats 8000000 in
theorem shift_ok (s : List Nat) (w : List Bool) (r d : Nat) (b : Int) (hw : w.length = s.length) (h4 : s.length ≤ 4) (hs : ∀ a ∈ s, 1 ≤ a ∧ a ≤ 64) (hr : r ≤ 1000) (hd : d < s.length) (hb : -9223372036854775808 ≤ b ∧ b ≤ 9223372036854775807) :
    PureRun Try.prog 77 [gridV (natI s) w, .sc (.int .i64 (r : Int)), .sc (.int .i64 (d : Int)), .sc (.int .i64 b)] (.tup [.sc (.int .i64 (shiftE s w r d b).1), .sc (.int .i64 (shiftE s w r d b).2)]) := by
  refine PureRun.of (allPure_cons (grid_pure _ _) (allPure_cons (.sc _) (allPure_cons (.sc _) (allPure_cons (.sc _) allPure_nil)))) (.tup _ (allPure_cons (.sc _) (allPure_cons (.sc _) allPure_nil))) (CallOK.mono (R := fun res H' => res = .tup [.sc (.int .i64 (shiftE s w r d b).1), .sc (.int .i64 (shiftE s w r d b).2)] ∧ H' = []) ?_ fun _ _ h => h.1)
  have hco := fun H => coords_at s w r h4 hs (by omega) H
  have hrk := fun c hc => rank_ok s w c hw hc h4 hs
  unfold gridV at hco hrk ⊢
  rw [← natsR_I] at hco hrk ⊢
  have hds := natsR_ix s d hd
  have hdw := boolsR_ix w d (by omega)
  have g1 : s.getD d 0 = s[d] := by simp [hd]
  have g2 : w.getD d false = w[d]'(by omega) := by simp [hw, hd]
  have ha := hs _ (List.getElem_mem hd)
  have hcl := coordN_len s r
  have hcd := natsR_ix (coordN s r) d (by omega)
  have hcr := coord_rng s r hs d (by omega) hd
  have g3 : (coordN s r).getD d 0 = (coordN s r)[d]'(by omega) := by simp [hcl, hd]
  have hsh : shiftE s w r d b = (if wrapI (w[d]'(by omega)) b s[d] ≤ -(s[d] : Int) ∨ (s[d] : Int) ≤ wrapI (w[d]'(by omega)) b s[d] then (-2, -2) else (movedE s w r d (-wrapI (w[d]'(by omega)) b s[d]), movedE s w r d (wrapI (w[d]'(by omega)) b s[d]))) := by
    unfold shiftE
    rw [g1, g2]
  have hmv : ∀ y, movedE s w r d y = rkG 0 s w ((natI (coordN s r)).set d (((coordN s r)[d]'(by omega) : Nat) + y)) := fun y => by unfold movedE; rw [g3]
  have hset : ∀ y : Int, (natsR (coordN s r)).set d [.sc (.int .i64 y)] = intsR ((natI (coordN s r)).set d y) := fun y => by rw [natsR_I, intsR_set]
  have hwr := wrapped_ok b s[d] (by omega) (by omega)
  have hcl2 := natsR_len (coordN s r)
  have hcl3 : ∀ y, ((natI (coordN s r)).set d y).length = s.length := fun y => by rw [List.length_set, natI_len, hcl]
  generalize (coordN s r)[d]'(by omega) = cd at *
  generalize w[d]'(by omega) = wd at *
  generalize s[d] = a at *
  clear g1 g2 g3
  refine CallOK.of cF77 ?_ (Nat.le_of_ble_eq_true rfl)
  have hwi : wrapI wd b a = if wd then b % (a : Int) else b := rfl
  have hem : (0 : Int) ≤ b % (a : Int) := Int.emod_nonneg _ (by omega)
  have hem2 : b % (a : Int) < a := Int.emod_lt_of_pos _ (by omega)
  have hy0 : -9223372036854775808 ≤ wrapI wd b a ∧ wrapI wd b a ≤ 9223372036854775807 := by rw [hwi]; split <;> omega
  refine walkX ?_
  refine AWP.joinT0 [(1, .sc (.int .i64 (r : Int))), (2, .sc (.int .i64 (d : Int))), (3, .sc (.int .i64 (wrapI wd b a))), (4, .ptr 0 0 0 0), (10, .sc (.int .i64 (a : Int)))] [[.cells 2 [[.list 1 (natsR s), .list 1 (boolsR w)]]]] ?_ ?_
  · cases wd with
    | true =>
      have e9 : wrapI true b a = b % (a : Int) := rfl
      rw [e9]
      refine walkX ?_
      exact Sub.w [] [[(0,0)]]
    | false =>
      have e9 : wrapI false b a = b := rfl
      rw [e9]
      refine walkX ?_
      exact Sub.w [] [[(0,0)]]
  clear hwi hwr
  generalize wrapI wd b a = y at *
  by_cases y1 : y ≤ -(a : Int)
  · rw [if_pos (.inl y1)] at hsh
    rw [hsh]
    refine walkX ?_
    rw [wrap_small (by omega) (by omega), Int.zero_sub, decide_eq_true y1]
    refine walkX ?_
    exact endW [] (⟨rfl, rfl⟩)
  by_cases y2 : (a : Int) ≤ y
  · rw [if_pos (.inr y2)] at hsh
    rw [hsh]
    refine walkX ?_
    rw [wrap_small (by omega) (by omega), Int.zero_sub, decide_eq_false y1]
    refine walkX ?_
    rw [decide_eq_true y2]
    refine walkX ?_
    exact endW [] (⟨rfl, rfl⟩)
  rw [if_neg (by omega)] at hsh
  rw [hsh, hmv, hmv]
  have hr1 := hrk _ (hcl3 (cd + -y))
  have hr2 := hrk _ (hcl3 (cd + y))
  refine walkX ?_
  rw [wrap_small (by omega) (by omega), Int.zero_sub, decide_eq_false y1]
  refine walkX ?_
  rw [decide_eq_false y2]
  refine walkX0 ?_
  refine AWP.lin [(true, 0), (true, 1), (true, 3), (true, 4), (false, 2), (true, 6), (false, 5), (true, 7)] mixed (by kernel_rfl) (by kernel_rfl) ?_
  refine walkL ?_
  refine RT.cc (Nat.zero_le _) rfl (hco _) ?_
  rintro res H' ⟨rfl, rfl⟩
  refine ⟨(by repeat (first | exact trivial | exact Keeps.refl _ _ | refine And.intro rfl ?_)), ?_⟩
  refine walkL ?_
  refine RT.cc (Nat.zero_le _) rfl (hco _) ?_
  rintro res H' ⟨rfl, rfl⟩
  refine ⟨(by repeat (first | exact trivial | exact Keeps.refl _ _ | refine And.intro rfl ?_)), ?_⟩
  refine walkL ?_
  refine walkX0 ?_
  rw [wrap_small (n := (cd : Int) - y) (by omega) (by omega), wrap_small (n := (cd : Int) + y) (by omega) (by omega), Int.sub_eq_add_neg]
  have k1 := hset (cd - y)
  rw [Int.sub_eq_add_neg] at k1
  have k2 := hset (cd + y)
  refine AWP.sub (fr' := [(4, .ptr 0 0 0 0), (11, .list 1 (intsR ((natI (coordN s r)).set d (cd + -y)))), (12, .list 1 (intsR ((natI (coordN s r)).set d (cd + y))))]) (H' := [[.cells 2 [[.list 1 (natsR s), .list 1 (boolsR w)]]]]) ?_ ?_
  · have q1 : (intsR ((natI (coordN s r)).set d (cd + -y))).length = s.length := by rw [intsR_len, hcl3]
    have q2 : (intsR ((natI (coordN s r)).set d (cd + y))).length = s.length := by rw [intsR_len, hcl3]
    exact Sub.w [] [[(0,0)]]
  refine walkX ?_
  refine DK.nil ⟨by kernel_rfl, ?_⟩
  refine walkX ?_
  exact endW [] (⟨rfl, rfl⟩)
end Go.Proofs.Ytpkpfgpfkajkpaa
namespace Go.Proofs.Ytpkpfgpfkajkpaa
open Go.Av Go.Proofs
set_option maxRecDepth 20000
def nats (s : List Int) : List Nat := s.map Int.toNat
theorem nats_I (t : List Nat) : nats (natI t) = t := by
  simp only [nats, natI, List.map_map]
  exact (List.map_congr_left fun n _ => Int.toNat_natCast n).trans (List.map_id' t)
def chkE (s : List Int) (w : List Bool) (r : Int) : Int := if cntE s w = 0 then 2 else if r < 0 ∨ (cntE s w : Int) ≤ r then 11 else 0
theorem chk0 {s : List Int} {w : List Bool} {r : Int} (h : chkE s w r = 0) : ∃ (t : List Nat) (q : Nat), s = natI t ∧ nats s = t ∧ r = q ∧ q < 64 ∧ w.length = t.length ∧ 1 ≤ t.length ∧ t.length ≤ 4 ∧ (∀ a ∈ t, 1 ≤ a ∧ a ≤ 64) ∧ cntE s w = prodN t ∧ q < prodN t := by
  unfold chkE at h
  split at h
  · cases h
  · split at h
    · cases h
    · rename_i h1 h2
      obtain ⟨t, rfl, a1, a2, a3, a4, a5, a6⟩ := cntE_good (s := s) (w := w) (by omega)
      exact ⟨t, r.toNat, rfl, nats_I t, by omega, by omega, a1, a2, a3, a4, a5, by omega⟩
set_option maxHeartbeats 4000000 in
theorem chk_ok (s : List Int) (w : List Bool) (r : Int) : PureRun Try.prog 73 [gridV s w, .sc (.int .i64 r)] (.sc (.int .i64 (chkE s w r))) := by
  refine PureRun.of (allPure_cons (grid_pure _ _) (allPure_cons (.sc _) allPure_nil)) (.sc _) (CallOK.mono (R := fun res H' => res = .sc (.int .i64 (chkE s w r)) ∧ H' = []) ?_ fun _ _ h => h.1)
  have hc := count_ok s w
  unfold gridV at hc ⊢
  refine CallOK.of cF73 ?_ (Nat.le_of_ble_eq_true rfl)
  unfold chkE
  generalize cntE s w = n at *
  by_cases h1 : n = 0
  · subst h1
    refine walkX ?_
    exact endW [] (⟨rfl, rfl⟩)
  rw [if_neg h1]
  by_cases h2 : r < 0
  · rw [if_pos (.inl h2)]
    refine walkX ?_
    rw [decide_eq_false h1]
    refine walkX ?_
    rw [decide_eq_true h2]
    refine walkX ?_
    exact endW [] (⟨rfl, rfl⟩)
  obtain ⟨q, rfl⟩ : ∃ q : Nat, r = q := ⟨r.toNat, by omega⟩
  by_cases h3 : n ≤ q
  · rw [if_pos (.inr (by omega))]
    refine walkX ?_
    rw [decide_eq_false h1]
    refine walkX ?_
    rw [decide_eq_true h3]
    refine walkX ?_
    exact endW [] (⟨rfl, rfl⟩)
  · rw [if_neg (by omega)]
    refine walkX ?_
    rw [decide_eq_false h1]
    refine walkX ?_
    rw [decide_eq_false h3]
    refine walkX ?_
    exact endW [] (⟨rfl, rfl⟩)
def gA (e : Int) (o : List Int) : Int × List Int := if e = 0 then (0, o) else (e, [])
def coordsA (s : List Int) (w : List Bool) (r : Int) : Int × List Int := gA (chkE s w r) (natI (coordN (nats s) r.toNat))
set_option maxHeartbeats 4000000 in
theorem coordsX_ok (s : List Int) (w : List Bool) (r : Int) : PureRun Try.prog 25 [gridV s w, .sc (.int .i64 r)] (.tup [.list 1 (intsR (coordsA s w r).2), .sc (.int .i64 (coordsA s w r).1)]) := by
  refine PureRun.of (allPure_cons (grid_pure _ _) (allPure_cons (.sc _) allPure_nil)) (.tup _ (allPure_cons (.list _ _ (prs _)) (allPure_cons (.sc _) allPure_nil))) (CallOK.mono (R := fun res H' => res = .tup [.list 1 (intsR (coordsA s w r).2), .sc (.int .i64 (coordsA s w r).1)] ∧ H' = []) ?_ fun _ _ h => h.1)
  refine CallOK.of cF25 ?_ (Nat.le_of_ble_eq_true rfl)
  have hc := chk_ok s w r
  unfold coordsA
  by_cases h : chkE s w r = 0
  · rw [h] at hc
    obtain ⟨t, q, rfl, e1, rfl, hq, hw, h1, h4, hs, _⟩ := chk0 h
    rw [e1, Int.toNat_natCast]
    have hco := coords_at t w q h4 hs (by omega)
    have e2 : gA (chkE (natI t) w q) (natI (coordN t q)) = (0, natI (coordN t q)) := if_pos h
    rw [e2, ← natsR_I]
    unfold gridV at hc hco ⊢
    refine walkX ?_
    refine Reg.c (Nat.zero_le _) rfl ((hco _).mono ?_)
    rintro res H' ⟨rfl, rfl⟩
    refine walkX ?_
    have e4 : (natsR (coordN t q)).length = t.length := by rw [natsR_len, coordN_len]
    exact endW [] (⟨rfl, rfl⟩)
  · have e2 : gA (chkE s w r) (natI (coordN (nats s) r.toNat)) = (chkE s w r, []) := if_neg h
    rw [e2]
    unfold gridV at hc ⊢
    refine walkX ?_
    rw [show (chkE s w r != 0) = true from by simpa using h]
    refine walkX ?_
    exact endW [] (⟨rfl, rfl⟩)
def rankA (s : List Int) (w : List Bool) (c : List Int) : Int × Int := if cntE s w = 0 then (0, 2) else if c.length ≠ s.length then (0, 26) else if rkG 0 (nats s) w c = -2 then (0, 3) else (rkG 0 (nats s) w c, 0)
set_option maxHeartbeats 4000000 in
theorem rankX_ok (s : List Int) (w : List Bool) (c : List Int) : PureRun Try.prog 26 [gridV s w, .list 1 (intsR c)] (.tup [.sc (.int .i64 (rankA s w c).1), .sc (.int .i64 (rankA s w c).2)]) := by
  refine PureRun.of (allPure_cons (grid_pure _ _) (allPure_cons (.list _ _ (prs _)) allPure_nil)) (.tup _ (allPure_cons (.sc _) (allPure_cons (.sc _) allPure_nil))) (CallOK.mono (R := fun res H' => res = .tup [.sc (.int .i64 (rankA s w c).1), .sc (.int .i64 (rankA s w c).2)] ∧ H' = []) ?_ fun _ _ h => h.1)
  refine CallOK.of cF26 ?_ (Nat.le_of_ble_eq_true rfl)
  have hc := count_ok s w
  have l1 := intsR_len s
  have l2 := intsR_len c
  by_cases h : cntE s w = 0
  · have e : rankA s w c = (0, 2) := if_pos h
    rw [h] at hc
    rw [e]
    unfold gridV at hc ⊢
    refine walkX ?_
    exact endW [] (⟨rfl, rfl⟩)
  obtain ⟨t, rfl, hw, h1, h4, hs, _, _⟩ := cntE_good (s := s) (w := w) (by omega)
  rw [natI_len] at l1
  have e0 : rankA (natI t) w c = (if c.length ≠ (natI t).length then (0, 26) else if rkG 0 (nats (natI t)) w c = -2 then (0, 3) else (rkG 0 (nats (natI t)) w c, 0)) := if_neg h
  rw [natI_len, nats_I] at e0
  generalize cntE (natI t) w = n at *
  by_cases hl : c.length = t.length
  case neg =>
    rw [if_pos hl] at e0
    rw [e0]
    unfold gridV at hc ⊢
    refine walkX ?_
    rw [decide_eq_false h]
    refine walkX ?_
    rw [l1, l2, decide_eq_false hl]
    refine walkX ?_
    exact endW [] (⟨rfl, rfl⟩)
  have hrk := rank_ok t w c hw hl h4 hs
  rw [if_neg (by omega)] at e0
  generalize rkG 0 t w c = k at *
  unfold gridV at hc hrk ⊢
  by_cases hk : k = -2
  · subst hk
    rw [if_pos rfl] at e0
    rw [e0]
    refine walkX ?_
    rw [decide_eq_false h]
    refine walkX ?_
    rw [l1, l2, decide_eq_true hl]
    refine walkX ?_
    exact endW [] (⟨rfl, rfl⟩)
  · rw [if_neg hk] at e0
    rw [e0]
    refine walkX ?_
    rw [decide_eq_false h]
    refine walkX ?_
    rw [l1, l2, decide_eq_true hl]
    refine walkX ?_
    rw [beq_false_of_ne hk]
    refine walkX ?_
    exact endW [] (⟨rfl, rfl⟩)
def shiftA (s : List Int) (w : List Bool) (r d b : Int) : (Int × Int) × Int := if chkE s w r = 0 then (if d < 0 ∨ (s.length : Int) ≤ d then ((0, 0), 3) else (shiftE (nats s) w r.toNat d.toNat b, 0)) else ((0, 0), chkE s w r)
set_option maxHeartbeats 4000000 in
theorem shiftX_ok (s : List Int) (w : List Bool) (r d b : Int) (hb : -9223372036854775808 ≤ b ∧ b ≤ 9223372036854775807) :
    PureRun Try.prog 28 [gridV s w, .sc (.int .i64 r), .sc (.int .i64 d), .sc (.int .i64 b)] (.tup [.sc (.int .i64 (shiftA s w r d b).1.1), .sc (.int .i64 (shiftA s w r d b).1.2), .sc (.int .i64 (shiftA s w r d b).2)]) := by
  refine PureRun.of (allPure_cons (grid_pure _ _) (allPure_cons (.sc _) (allPure_cons (.sc _) (allPure_cons (.sc _) allPure_nil)))) (.tup _ (allPure_cons (.sc _) (allPure_cons (.sc _) (allPure_cons (.sc _) allPure_nil)))) (CallOK.mono (R := fun res H' => res = .tup [.sc (.int .i64 (shiftA s w r d b).1.1), .sc (.int .i64 (shiftA s w r d b).1.2), .sc (.int .i64 (shiftA s w r d b).2)] ∧ H' = []) ?_ fun _ _ h => h.1)
  refine CallOK.of cF28 ?_ (Nat.le_of_ble_eq_true rfl)
  have hc := chk_ok s w r
  have l1 := intsR_len s
  by_cases h : chkE s w r = 0
  case neg =>
    have e : shiftA s w r d b = ((0, 0), chkE s w r) := if_neg h
    rw [e]
    unfold gridV at hc ⊢
    refine walkX ?_
    rw [show (chkE s w r != 0) = true from by simpa using h]
    refine walkX ?_
    exact endW [] (⟨rfl, rfl⟩)
  have e : shiftA s w r d b = (if d < 0 ∨ (s.length : Int) ≤ d then ((0, 0), 3) else (shiftE (nats s) w r.toNat d.toNat b, 0)) := if_pos h
  obtain ⟨t, q, rfl, e1, rfl, hq, hw, h1, h4, hs, _⟩ := chk0 h
  rw [h] at hc
  rw [e1, Int.toNat_natCast, natI_len] at e
  rw [natI_len] at l1
  by_cases d1 : d < 0
  · rw [if_pos (.inl d1)] at e
    rw [e]
    unfold gridV at hc ⊢
    refine walkX ?_
    rw [decide_eq_true d1]
    refine walkX ?_
    exact endW [] (⟨rfl, rfl⟩)
  obtain ⟨k, rfl⟩ : ∃ k : Nat, d = k := ⟨d.toNat, by omega⟩
  by_cases d2 : t.length ≤ k
  · rw [if_pos (.inr (by omega))] at e
    rw [e]
    unfold gridV at hc ⊢
    refine walkX ?_
    rw [l1, decide_eq_true d2]
    refine walkX ?_
    exact endW [] (⟨rfl, rfl⟩)
  rw [if_neg (by omega), Int.toNat_natCast] at e
  rw [e]
  have hsh := shift_ok t w q k b hw h4 hs (by omega) (by omega) hb
  generalize shiftE t w q k b = p at *
  unfold gridV at hc hsh ⊢
  refine walkX ?_
  rw [l1, decide_eq_false d2]
  refine walkX ?_
  exact endW [] (⟨rfl, rfl⟩)
def nearN (t : List Nat) (w : List Bool) (r k : Nat) : List Int := (List.range k).flatMap fun i => [(shiftE t w r i 1).1, (shiftE t w r i 1).2]
theorem nearN_len (t : List Nat) (w : List Bool) (r k : Nat) : (nearN t w r k).length = 2 * k := by
  induction k with
  | zero => rfl
  | succ k ih => unfold nearN at *; rw [List.range_succ, List.flatMap_append, List.length_append, ih]; simp; omega
theorem nearN_succ (t : List Nat) (w : List Bool) (r k : Nat) : nearN t w r (k + 1) = nearN t w r k ++ [(shiftE t w r k 1).1, (shiftE t w r k 1).2] := by
  unfold nearN
  rw [List.range_succ, List.flatMap_append]
  simp
def nearA (s : List Int) (w : List Bool) (r : Int) : Int × List Int := gA (chkE s w r) (nearN (nats s) w r.toNat s.length)
set_option maxHeartbeats 4000000 in
theorem nearX_ok (s : List Int) (w : List Bool) (r : Int) : PureRun Try.prog 27 [gridV s w, .sc (.int .i64 r)] (.tup [.list 1 (intsR (nearA s w r).2), .sc (.int .i64 (nearA s w r).1)]) := by
  refine PureRun.of (allPure_cons (grid_pure _ _) (allPure_cons (.sc _) allPure_nil)) (.tup _ (allPure_cons (.list _ _ (prs _)) (allPure_cons (.sc _) allPure_nil))) (CallOK.mono (R := fun res H' => res = .tup [.list 1 (intsR (nearA s w r).2), .sc (.int .i64 (nearA s w r).1)] ∧ H' = []) ?_ fun _ _ h => h.1)
  refine CallOK.of cF27 ?_ (Nat.le_of_ble_eq_true rfl)
  have hc := chk_ok s w r
  have l1 := intsR_len s
  unfold nearA
  by_cases h : chkE s w r = 0
  case neg =>
    have e2 : gA (chkE s w r) (nearN (nats s) w r.toNat s.length) = (chkE s w r, []) := if_neg h
    rw [e2]
    unfold gridV at hc ⊢
    refine walkX ?_
    rw [show (chkE s w r != 0) = true from by simpa using h]
    refine walkX ?_
    exact endW [] (⟨rfl, rfl⟩)
  rw [h] at hc
  obtain ⟨t, q, rfl, e1, rfl, hq, hw, h1, h4, hs, _⟩ := chk0 h
  rw [natI_len] at l1
  rw [e1, Int.toNat_natCast, natI_len]
  have e2 : gA (chkE (natI t) w q) (nearN t w q t.length) = (0, nearN t w q t.length) := if_pos h
  rw [e2]
  have hsh := fun d hd => shift_ok t w q d 1 hw h4 hs (by omega) hd (by omega)
  unfold gridV at hc hsh ⊢
  refine walkX ?_
  rw [l1]
  refine AWP.loop (fun k : Nat => [(1, .sc (.int .i64 (q : Int))), (2, .ptr 0 0 0 0), (7, .hsl 1 0 0 (nearN t w q k).length), (19, .sc (.int .i64 (t.length : Int))), (20, .sc (.int .i64 (k : Int)))])
    (fun k => [[.cells 2 [[.list 1 (intsR (natI t)), .list 1 (boolsR w)]]], [.cells 1 (intsR (nearN t w q k))]]) (fun k => k ≤ t.length) (fun k => t.length - k) 0 (Nat.zero_le _) ?_ ?_
  · (apply Sub.to [1] [[(0,0)],[(1,0)]]; all_goals (repeat' (first | exact ToAll.nil | exact famsTo.nil | exact famTo.nil | exact ToL.nil | exact ToR.nil | refine ToAll.cons ?_ ?_ | refine famsTo.cons ?_ ?_ | refine wt10 ?_ ?_ | exact To.undef _ | exact To.sc _ | exact To.hslL rfl rfl | exact To.ptrO rfl rfl rfl | exact To.mrefO rfl | exact To.nil rfl rfl rfl | exact wt1 | exact To.nilL | refine To.int ?_ | refine To.bool ?_ | refine To.hslL rfl ?_ | refine wt2 rfl ?_ ?_ ?_ | refine To.tupL ?_ | refine To.aggL ?_ | refine To.cptrL ?_ | refine wt3 ?_ | refine wt4 ?_ | refine To.cloL ?_ ?_ | exact wt5 | refine wt6 ?_ | refine ToB.one ?_ | exact wt7 | ((with_reducible apply ToL.consE); case e9 => rfl) | refine wt8 ?_ | refine ToL.cons ?_ ?_ | exact wt11 | refine wt9 ?_ ?_ | refine wt12 ?_ | (with_reducible rfl) | assumption)); all_goals (first | rfl | assumption | (simp; done) | (simp; omega) | (rw [wrap_small (by omega) (by omega)]; done) | (rw [wrap_small (by omega) (by omega)]; omega) | (refine congrArg Nat.cast ?_; assumption) | skip))
  rintro k hk
  refine walkX ?_
  refine AWP.condD rfl (fun h => ?_) (fun h => ?_)
  · have hv := hsh k h
    have e3 := nearN_succ t w q k
    have e4 := nearN_len t w q k
    generalize shiftE t w q k 1 = p at *
    generalize nearN t w q k = o at *
    have e5 := intsR_len o
    have e6 : intsR (o ++ [p.1, p.2]) = intsR o ++ [[.sc (.int .i64 p.1)], [.sc (.int .i64 p.2)]] := by simp [intsR]
    have e7 : (o ++ [p.1, p.2]).length = o.length + 2 := by simp
    refine walkX ?_
    refine ⟨k + 1, by omega, by omega, ?_⟩
    rw [e3, e6, e7]
    (apply Sub.to [] [[(0,0)],[(3,0)]]; all_goals (repeat' (first | exact ToAll.nil | exact famsTo.nil | exact famTo.nil | exact ToL.nil | exact ToR.nil | refine ToAll.cons ?_ ?_ | refine famsTo.cons ?_ ?_ | refine wt10 ?_ ?_ | exact To.undef _ | exact To.sc _ | exact To.hslL rfl rfl | exact To.ptrO rfl rfl rfl | exact To.mrefO rfl | exact To.nil rfl rfl rfl | exact wt1 | exact To.nilL | refine To.int ?_ | refine To.bool ?_ | refine To.hslL rfl ?_ | refine wt2 rfl ?_ ?_ ?_ | refine To.tupL ?_ | refine To.aggL ?_ | refine To.cptrL ?_ | refine wt3 ?_ | refine wt4 ?_ | refine To.cloL ?_ ?_ | exact wt5 | refine wt6 ?_ | refine ToB.one ?_ | exact wt7 | ((with_reducible apply ToL.consE); case e9 => rfl) | refine wt8 ?_ | refine ToL.cons ?_ ?_ | exact wt11 | refine wt9 ?_ ?_ | refine wt12 ?_ | (with_reducible rfl) | assumption)); all_goals (first | rfl | assumption | (simp; done) | (simp; omega) | (rw [wrap_small (by omega) (by omega)]; done) | (rw [wrap_small (by omega) (by omega)]; omega) | (refine congrArg Nat.cast ?_; assumption) | skip))
  have hk : k = t.length := by omega
  subst hk
  refine walkX ?_
  have e4 := intsR_len (nearN t w q t.length)
  exact endW [] (⟨rfl, rfl⟩)
end Go.Proofs.Ytpkpfgpfkajkpaa
namespace Go.Proofs.Ytpkpfgpfkajkpaa
open Go.Av Go.Proofs
set_option maxRecDepth 20000
def alG (t c : List Nat) (n : Nat) : List Nat → Nat
  | [] => n
  | i :: l => alG t c (n * t.getD i 0 + c.getD i 0) l
set_option maxHeartbeats 8000000 in
theorem along_ok (t : List Nat) (w : List Bool) (l c : List Nat) (h4 : l.length ≤ 4) (hs : ∀ a ∈ t, 1 ≤ a ∧ a ≤ 64) (hc : c.length = t.length) (hcr : ∀ (k : Nat) (h : k < c.length) (h2 : k < t.length), c[k] < t[k]) (hl : ∀ i ∈ l, i < t.length) :
    PureRun Try.prog 93 [gridV (natI t) w, .list 1 (natsR l), .list 1 (natsR c)] (.sc (.int .i64 (alG t c 0 l : Nat))) := by
  refine PureRun.of (allPure_cons (grid_pure _ _) (allPure_cons (.list _ _ (prs _)) (allPure_cons (.list _ _ (prs _)) allPure_nil))) (.sc _) (CallOK.mono (R := fun res H' => res = .sc (.int .i64 (alG t c 0 l : Nat)) ∧ H' = []) ?_ fun _ _ h => h.1)
  unfold gridV
  rw [← natsR_I]
  refine CallOK.of cF93 ?_ (Nat.le_of_ble_eq_true rfl)
  have e0 := natsR_len l
  have e1 := natsR_len t
  have e2 := natsR_len c
  refine walkX ?_
  rw [e0]
  refine AWP.loop (fun q : Nat × Nat => [(2, .list 1 (natsR c)), (3, .ptr 0 0 0 0), (7, .sc (.int .i64 (q.2 : Int))), (10, .list 1 (natsR l)), (11, .sc (.int .i64 (l.length : Int))), (12, .sc (.int .i64 (q.1 : Int)))])
    (fun _ => [[.cells 2 [[.list 1 (natsR t), .list 1 (boolsR w)]]]]) (fun q => q.1 ≤ l.length ∧ q.2 < 64 ^ q.1 ∧ alG t c 0 l = alG t c q.2 (l.drop q.1)) (fun q => l.length - q.1) (0, 0) ⟨Nat.zero_le _, by decide, rfl⟩ ?_ ?_
  · exact Sub.w [] [[(0,0)]]
  rintro ⟨k, n⟩ ⟨hk, hn, hcn⟩
  dsimp only at hk hn hcn ⊢
  refine walkX0 ?_
  refine AWP.condD rfl (fun h => ?_) (fun h => ?_)
  · have hr := natsR_ix l k h
    have hi := hl _ (List.getElem_mem h)
    have hd : alG t c n (l.drop k) = alG t c (n * t.getD l[k] 0 + c.getD l[k] 0) (l.drop (k + 1)) := by
      rw [List.drop_eq_getElem_cons h]
      rfl
    rw [hd] at hcn
    generalize l[k] = i at *
    have g1 : t.getD i 0 = t[i] := by simp [hi]
    have g2 : c.getD i 0 = c[i]'(by omega) := by simp [hi, hc]
    rw [g1, g2] at hcn
    have hrt := natsR_ix t i hi
    have hrc := natsR_ix c i (by omega)
    have ha := hs _ (List.getElem_mem hi)
    have hlt := hcr i (by omega) hi
    generalize c[i]'(by omega) = y at *
    generalize t[i] = a at *
    have hn2 := @lt_pow n a y k hn ha.2 hlt
    have hn3 := pow_le hn hk h4
    have hn4 : n * a ≤ 16777216 * 64 := Nat.mul_le_mul (by omega) ha.2
    refine walkX ?_
    refine DK.nil ⟨by kernel_rfl, ?_⟩
    refine walkX ?_
    refine ⟨(k + 1, n * a + y), ⟨by dsimp only; omega, hn2, hcn⟩, by dsimp only; omega, ?_⟩
    exact Sub.w [] [[(0,0)]]
  have hk : k = l.length := by omega
  subst hk
  rw [List.drop_length] at hcn
  have hres : AV.sc (Value.int .i64 (n : Int)) = .sc (.int .i64 (alG t c 0 l : Nat)) := by rw [hcn]; rfl
  refine walkX ?_
  exact endW [] (⟨hres, rfl⟩)
def someS (t : List Nat) (l : List Nat) : List Int := if l = [] then [1] else natI (l.map fun i => t.getD i 0)
def someW (w : List Bool) (l : List Nat) : List Bool := if l = [] then [false] else l.map fun i => w.getD i false
set_option maxHeartbeats 8000000 in
theorem some_ok (t : List Nat) (w : List Bool) (l : List Nat) (h4 : l.length ≤ 4) (hw : w.length = t.length) (hl : ∀ i ∈ l, i < t.length) :
    PureRun Try.prog 94 [gridV (natI t) w, .list 1 (natsR l)] (gridV (someS t l) (someW w l)) := by
  refine PureRun.of (allPure_cons (grid_pure _ _) (allPure_cons (.list _ _ (prs _)) allPure_nil)) (grid_pure _ _) (CallOK.mono (R := fun res H' => res = gridV (someS t l) (someW w l) ∧ H' = []) ?_ fun _ _ h => h.1)
  unfold gridV
  rw [← natsR_I]
  refine CallOK.of cF94 ?_ (Nat.le_of_ble_eq_true rfl)
  have e0 := natsR_len l
  have e1 := natsR_len t
  have e2 := boolsR_len w
  by_cases hnil : l = []
  · subst hnil
    have q1 : someS t [] = [1] := rfl
    have q2 : someW w [] = [false] := rfl
    rw [q1, q2]
    refine walkX ?_
    exact endW [] (⟨rfl, rfl⟩)
  have hl0 : l.length ≠ 0 := fun e => hnil (List.length_eq_zero_iff.1 e)
  have q1 : someS t l = natI (l.map fun i => t.getD i 0) := if_neg hnil
  have q2 : someW w l = l.map fun i => w.getD i false := if_neg hnil
  rw [q1, q2, ← natsR_I]
  refine walkX ?_
  rw [e0, decide_eq_false hl0]
  refine walkX ?_
  rw [e0]
  refine AWP.loop (fun k : Nat => [(2, .ptr 0 0 0 0), (4, .ptr 1 0 0 0), (5, .ptr 2 0 0 0), (14, .list 1 (natsR l)), (15, .sc (.int .i64 (l.length : Int))), (16, .sc (.int .i64 (k : Int)))])
    (fun k => [[.cells 2 [[.list 1 (natsR t), .list 1 (boolsR w)]]], [.cells 2 [[.sc (.slice none 0 0), .sc (.slice none 0 0)]]], [.cells 2 [[.hsl 3 0 0 k, .hsl 4 0 0 k]]], [.cells 1 (natsR ((l.take k).map fun i => t.getD i 0))], [.cells 1 (boolsR ((l.take k).map fun i => w.getD i false))]])
    (fun k => k ≤ l.length) (fun k => l.length - k) 0 (Nat.zero_le _) ?_ ?_
  · (apply Sub.to [1,1] [[(0,0)],[(1,0)],[(2,0)],[(3,0)],[(4,0)]]; all_goals (repeat' (first | exact ToAll.nil | exact famsTo.nil | exact famTo.nil | exact ToL.nil | exact ToR.nil | refine ToAll.cons ?_ ?_ | refine famsTo.cons ?_ ?_ | refine wt10 ?_ ?_ | exact To.undef _ | exact To.sc _ | exact To.hslL rfl rfl | exact To.ptrO rfl rfl rfl | exact To.mrefO rfl | exact To.nil rfl rfl rfl | exact wt1 | exact To.nilL | refine To.int ?_ | refine To.bool ?_ | refine To.hslL rfl ?_ | refine wt2 rfl ?_ ?_ ?_ | refine To.tupL ?_ | refine To.aggL ?_ | refine To.cptrL ?_ | refine wt3 ?_ | refine wt4 ?_ | refine To.cloL ?_ ?_ | refine ToB.one ?_ | exact wt5 | refine wt6 ?_ | ((with_reducible apply ToL.consE); case e9 => rfl) | refine ToL.cons ?_ ?_ | exact wt7 | refine wt8 ?_ | exact wt11 | refine wt9 ?_ ?_ | refine wt12 ?_ | (with_reducible rfl) | assumption)); all_goals (first | rfl | assumption | (simp; done) | (simp; omega) | (rw [wrap_small (by omega) (by omega)]; done) | (rw [wrap_small (by omega) (by omega)]; omega) | (refine congrArg Nat.cast ?_; assumption) | skip))
  rintro k hk
  refine walkX0 ?_
  refine AWP.condD rfl (fun h => ?_) (fun h => ?_)
  · have hr := natsR_ix l k h
    have hi := hl _ (List.getElem_mem h)
    have ht := List.take_succ_eq_append_getElem h
    have m1 : (l.take (k + 1)).map (fun i => t.getD i 0) = (l.take k).map (fun i => t.getD i 0) ++ [t.getD l[k] 0] := by rw [ht, List.map_append]; rfl
    have m2 : (l.take (k + 1)).map (fun i => w.getD i false) = (l.take k).map (fun i => w.getD i false) ++ [w.getD l[k] false] := by rw [ht, List.map_append]; rfl
    have n1 : (natsR ((l.take k).map fun i => t.getD i 0)).length = k := by rw [natsR_len, List.length_map, List.length_take]; omega
    have n2 : (boolsR ((l.take k).map fun i => w.getD i false)).length = k := by rw [boolsR_len, List.length_map, List.length_take]; omega
    generalize (l.take k).map (fun i => t.getD i 0) = o1 at *
    generalize (l.take k).map (fun i => w.getD i false) = o2 at *
    generalize l[k] = i at *
    have g1 : t.getD i 0 = t[i] := by simp [hi]
    have g2 : w.getD i false = w[i]'(by omega) := by simp [hi, hw]
    rw [g1] at m1
    rw [g2] at m2
    have hrt := natsR_ix t i hi
    have hrw := boolsR_ix w i (by omega)
    generalize w[i]'(by omega) = y at *
    generalize t[i] = a at *
    have e6 : natsR (o1 ++ [a]) = natsR o1 ++ [[.sc (.int .i64 (a : Int))]] := by simp [natsR]
    have e7 : boolsR (o2 ++ [y]) = boolsR o2 ++ [[.sc (.bool y)]] := by simp [boolsR]
    refine walkX ?_
    refine DK.nil ⟨by kernel_rfl, ?_⟩
    refine walkX ?_
    refine ⟨k + 1, by omega, by omega, ?_⟩
    rw [m1, m2, e6, e7]
    (apply Sub.to [] [[(0,0)],[(1,0)],[(2,0)],[(5,8)],[(5,17)]]; all_goals (repeat' (first | exact ToAll.nil | exact famsTo.nil | exact famTo.nil | exact ToL.nil | exact ToR.nil | refine ToAll.cons ?_ ?_ | refine famsTo.cons ?_ ?_ | refine wt10 ?_ ?_ | exact To.undef _ | exact To.sc _ | exact To.hslL rfl rfl | exact To.ptrO rfl rfl rfl | exact To.mrefO rfl | exact To.nil rfl rfl rfl | exact wt1 | exact To.nilL | refine To.int ?_ | refine To.bool ?_ | refine To.hslL rfl ?_ | refine wt2 rfl ?_ ?_ ?_ | refine To.tupL ?_ | refine To.aggL ?_ | refine To.cptrL ?_ | refine wt3 ?_ | refine wt4 ?_ | refine To.cloL ?_ ?_ | refine ToB.one ?_ | exact wt5 | refine wt6 ?_ | ((with_reducible apply ToL.consE); case e9 => rfl) | refine ToL.cons ?_ ?_ | exact wt7 | refine wt8 ?_ | exact wt11 | refine wt9 ?_ ?_ | refine wt12 ?_ | (with_reducible rfl) | assumption)); all_goals (first | rfl | assumption | (simp; done) | (simp; omega) | (rw [wrap_small (by omega) (by omega)]; done) | (rw [wrap_small (by omega) (by omega)]; omega) | (refine congrArg Nat.cast ?_; assumption) | skip))
  have hk : k = l.length := by omega
  subst hk
  rw [List.take_of_length_le (Nat.le_refl _)]
  have n1 : (natsR (l.map fun i => t.getD i 0)).length = l.length := by rw [natsR_len, List.length_map]
  have n2 : (boolsR (l.map fun i => w.getD i false)).length = l.length := by rw [boolsR_len, List.length_map]
  refine walkX ?_
  exact endW [] (⟨rfl, rfl⟩)
end Go.Proofs.Ytpkpfgpfkajkpaa
