import Derived.Test.YtbpmbofinoinmaaGAvK2
import Derived.Below
import Derived.ChangeSame
import Derived.ProofKit
import Derived.OpenShut
import Derived.ReadAgain
import Derived.JoinedOf
import Derived.ChangeCalls
import Derived.Test.YtbpmbofinoinmaaGAvK
namespace Go.Av
mutual
theorem lowV_ren {k : Nat} : ∀ (a : AV), lowV k a = true → Ren (low k) a a
 | .undef, _ => .undef _
 | .sc v, _ => .sc v
 | .agg c, h => .agg _ _ rfl fun j x y a b => by cases eq_of_get a b; exact lowL_ren c h x (List.mem_of_getElem? a)
 | .tup c, h => .tup _ _ rfl fun j x y a b => by cases eq_of_get a b; exact lowL_ren c h x (List.mem_of_getElem? a)
 | .list sz r, h => .list _ _ _ rfl (fun i r r' a b => by cases eq_of_get a b; rfl) fun i q q' j x y a b c d => by
   cases eq_of_get a b
   cases eq_of_get c d
   exact lowR_ren r h q (List.mem_of_getElem? a) x (List.mem_of_getElem? c)
 | .cptr c, h => .cptr _ _ rfl fun j x y a b => by cases eq_of_get a b; exact lowL_ren c h x (List.mem_of_getElem? a)
 | .tmap e, h => .tmap _ _ rfl (fun j x y a b => by cases eq_of_get a b; rfl) fun j x y a b => by cases eq_of_get a b; exact lowM_ren e h x (List.mem_of_getElem? a)
 | .ptr g i r o, h => .ptr g i g i r o (low_lt (Nat.le_of_ble_eq_true h))
 | .hsl g i s l, h => .hsl g i g i s l (low_lt (Nat.le_of_ble_eq_true h))
 | .mref g i, h => .mref g i g i (low_lt (Nat.le_of_ble_eq_true h))
 | .yld g i, h => .yld g i g i (low_lt (Nat.le_of_ble_eq_true h))
 | .clo f a b, h => by
   simp only [lowV, Bool.and_eq_true] at h
   exact .clo _ _ _ _ _ rfl rfl (fun j x y p q => by cases eq_of_get p q; exact lowL_ren a h.1 x (List.mem_of_getElem? p)) fun j x y p q => by cases eq_of_get p q; exact lowL_ren b h.2 x (List.mem_of_getElem? p)
theorem lowL_ren {k : Nat} : ∀ (l : List AV), lowL k l = true → ∀ a ∈ l, Ren (low k) a a
 | [], _, a, ha => by cases ha
 | x :: l, h, a, ha => by
  simp only [lowL, Bool.and_eq_true] at h
  rcases List.mem_cons.1 ha with e | e
  ·rw [e]; exact lowV_ren x h.1
  ·exact lowL_ren l h.2 a e
theorem lowR_ren {k : Nat} : ∀ (l : List (List AV)), lowR k l = true → ∀ r ∈ l, ∀ a ∈ r, Ren (low k) a a
 | [], _, a, ha => by cases ha
 | x :: l, h, r, hr => by
  simp only [lowR, Bool.and_eq_true] at h
  rcases List.mem_cons.1 hr with e | e
  ·rw [e]; exact lowL_ren x h.1
  ·exact lowR_ren l h.2 r e
theorem lowM_ren {k : Nat} : ∀ (l : List (Value × AV)), lowM k l = true → ∀ x ∈ l, Ren (low k) x.2 x.2
 | [], _, a, ha => by cases ha
 | (u, v) :: l, h, x, hx => by
  simp only [lowM, Bool.and_eq_true] at h
  rcases List.mem_cons.1 hx with e | e
  ·rw [e]; exact lowV_ren v h.1
  ·exact lowM_ren l h.2 x e
end
mutual
theorem lowV_pure : ∀ (a : AV), lowV 0 a = true → Pure a
 | .undef, _ => .undef
 | .sc v, _ => .sc v
 | .agg c, h => .agg _ (lowL_pure c h)
 | .tup c, h => .tup _ (lowL_pure c h)
 | .list sz r, h => .list _ _ (lowR_pure r h)
 | .cptr c, h => .cptr _ (lowL_pure c h)
 | .tmap e, h => .tmap _ (lowM_pure e h)
 | .ptr g i r o, h => by simp [lowV, Nat.blt] at h
 | .hsl g i s l, h => by simp [lowV, Nat.blt] at h
 | .mref g i, h => by simp [lowV, Nat.blt] at h
 | .yld g i, h => by simp [lowV, Nat.blt] at h
 | .clo f a b, h => by
   simp only [lowV, Bool.and_eq_true] at h
   exact .clo _ _ _ (lowL_pure a h.1) (lowL_pure b h.2)
theorem lowL_pure : ∀ (l : List AV), lowL 0 l = true → ∀ a ∈ l, Pure a
 | [], _, a, ha => by cases ha
 | x :: l, h, a, ha => by
  simp only [lowL, Bool.and_eq_true] at h
  rcases List.mem_cons.1 ha with e | e
  ·rw [e]; exact lowV_pure x h.1
  ·exact lowL_pure l h.2 a e
theorem lowR_pure : ∀ (l : List (List AV)), lowR 0 l = true → ∀ r ∈ l, ∀ a ∈ r, Pure a
 | [], _, a, ha => by cases ha
 | x :: l, h, r, hr => by
  simp only [lowR, Bool.and_eq_true] at h
  rcases List.mem_cons.1 hr with e | e
  ·rw [e]; exact lowL_pure x h.1
  ·exact lowR_pure l h.2 r e
theorem lowM_pure : ∀ (l : List (Value × AV)), lowM 0 l = true → ∀ x ∈ l, Pure x.2
 | [], _, a, ha => by cases ha
 | (u, v) :: l, h, x, hx => by
  simp only [lowM, Bool.and_eq_true] at h
  rcases List.mem_cons.1 hx with e | e
  ·rw [e]; exact lowV_pure v h.1
  ·exact lowM_pure l h.2 x e
end
theorem lowF_get {k : Nat} : ∀ (f : List Blk), lowF k f = true → ∀ (i : Nat) x, f[i]? = some x → lowB' k x = true
 | [], _, i, x, h => by simp at h
 | y :: f, h, i, x, hx => by
  simp only [lowF, Bool.and_eq_true] at h
  cases i with
  | zero => simp at hx; subst hx; exact h.1
  | succ i => exact lowF_get f h.2 i x (by simpa using hx)
theorem lowH_get {k : Nat} : ∀ (n : Nat) (H : Heap), lowH k n H = true → ∀ g i x, g < n → hget H g i = some x → lowB' k x = true
 | 0, _, _, g, _, _, hg, _ => by omega
 | n + 1, [], _, g, i, x, _, hx => by simp [hget] at hx
 | n + 1, f :: r, h, g, i, x, hg, hx => by
  simp only [lowH, Bool.and_eq_true] at h
  cases g with
  | zero => exact lowF_get f h.1 i x (by simpa [hget] using hx)
  | succ g => exact lowH_get n r h.2 g i x (by omega) (by simpa [hget] using hx)
theorem hget_take {H : Heap} {k g i : Nat} {x : Blk} (h : hget (H.take k) g i = some x) : g < k ∧ hget H g i = some x := by
 unfold hget at h ⊢
 rw [List.getElem?_take] at h
 split at h
 ·rename_i f e
  split at e
  ·rename_i hg
   exact ⟨hg, by rw [e]; exact h⟩
  ·cases e
 ·cases h
theorem lowB_ren {k : Nat} {x : Blk} (h : lowB' k x = true) : RenB (low k) x x := by
 cases x with
 | lp => cases h
 | umap => cases h
 | it => cases h
 | dead => exact .dead _
 | cells sz rows =>
  exact .cells _ _ _ rfl (fun i r r' a b => by cases eq_of_get a b; rfl) fun i q q' j x y a b c d => by
   cases eq_of_get a b
   cases eq_of_get c d
   exact lowR_ren rows h q (List.mem_of_getElem? a) x (List.mem_of_getElem? c)
 | map es => exact .map _ _ rfl (fun j x y a b => by cases eq_of_get a b; rfl) fun j x y a b => by cases eq_of_get a b; exact lowM_ren es h x (List.mem_of_getElem? a)
theorem SubV.cut {k : Nat} {res : AV} {H : Heap} (h1 : lowV k res = true) (h2 : lowH k k H = true) : SubV k H res (H.take k) res := by
 refine SubV.ren (low k) ⟨fun g i hg hi => low_lt hg, fun g i g' i' p hp hp' => ?_, fun g i x hx hl => ?_, fun g i p hp hi => ?_⟩ (lowV_ren res h1)
 ·obtain ⟨_, rfl⟩ := low_spec hp
  obtain ⟨_, e⟩ := low_spec hp'
  injection e with e1 e2
  exact ⟨e1, e2⟩
 ·obtain ⟨hg, hx'⟩ := hget_take hx
  exact ⟨g, i, x, low_lt hg, hx', lowB_ren (lowH_get k H h2 g i x hg hx')⟩
 ·obtain ⟨hg, rfl⟩ := low_spec hp
  obtain ⟨x, hx⟩ := Option.isSome_iff_exists.1 hi
  simp only at hx
  have : hget (H.take k) g i = some x := by
   unfold hget at hx ⊢
   rw [List.getElem?_take, if_pos hg]
   exact hx
  rw [this]; rfl
noncomputable def endK (k : Nat) (res : AV) (H : Heap) : AV × Heap :=
 Bool.rec (motive := fun _ => AV × Heap) (Bool.rec (motive := fun _ => AV × Heap) (res, H) (res, H.take k) (lowV k res && lowH k k H)) (res, H) (Nat.beq (lenK H) k)
theorem endK_sub (k : Nat) (res : AV) (H : Heap) : SubV k H res (endK k res H).2 (endK k res H).1 := by
 unfold endK
 cases Nat.beq (lenK H) k with
 | true => exact .refl k H res
 | false =>
  cases e : lowV k res && lowH k k H with
  | false => exact .refl k H res
  | true =>
   simp only [Bool.and_eq_true] at e
   exact .cut e.1 e.2
noncomputable def dPut (x : IOper) (d : Option Nat) (id : Nat × Nat) (v : AV) (rd wr : List (Nat × Nat)) (T : FT) (H : Heap) (ih : FT → Heap → DR) : DR :=
 match d with
 | none => (ih T H).cons ⟨x, id, v, rd, wr⟩
 | some t => match T.putK t v with
  | some T' => (ih T' H).cons ⟨x, id, v, rd, wr⟩
  | none => .stuck
noncomputable def dOp (x : IOper) (d : Option Nat) (id : Nat × Nat) (rd wr : List (Nat × Nat)) (T : FT) (ih : FT → Heap → DR) : SR → DR
 | .yes v H => dPut x d id v rd wr T H ih
 | .no => .stuck
noncomputable def dFz (x : IOper) (d : Option Nat) (id : Nat × Nat) (T : FT) (H : Heap) (ih : FT → Heap → DR) : Option AV → DR
 | some v => Bool.rec (motive := fun _ => DR) .stuck (dPut x d id v [] [] T H ih) (lowV 0 v)
 | none => .stuck
noncomputable def dCall (x : IOper) (d : Option Nat) (id : Nat × Nat) (T : FT) (H : Heap) (ih : FT → Heap → DR) : Option (AV × Heap) → DR
 | some (v, H0) => dFz x d id T H ih (fzV H0 v)
 | none => .stuck
mutual
theorem fzV_fz {H : Heap} : ∀ (a b : AV), fzV H a = some b → FzA H a b
 | .hsl g i s l, b, h => by
  simp only [fzV] at h
  split at h
  ·rename_i sz rows e
   split at h
   ·rename_i e2
    injection h with h
    subst h
    exact FzA.hsl e (Nat.le_of_ble_eq_true e2) rfl
   ·cases h
  ·cases h
 | .ptr g i row off, b, h => by
  cases off with
  | zero =>
   simp only [fzV] at h
   split at h
   ·rename_i sz rows e
    split at h
    ·rename_i r e2
     injection h with h
     subst h
     exact FzA.ptr e e2
    ·cases h
   ·cases h
  | succ n =>
   injection h with h
   subst h
   exact FzA.refl _ _
 | .mref g i, b, h => by
  simp only [fzV] at h
  split at h
  ·rename_i es e
   injection h with h
   subst h
   exact FzA.mref e
  ·cases h
 | .yld g i, b, h => by
  injection h with h
  subst h
  exact FzA.refl _ _
 | .tup vs, b, h => by
  simp only [fzV] at h
  split at h
  ·rename_i us e
   injection h with h
   subst h
   exact Cong.tupL (fzVs_fz vs us e)
  ·cases h
 | .agg vs, b, h => by
  simp only [fzV] at h
  split at h
  ·rename_i us e
   injection h with h
   subst h
   exact Cong.aggL (fzVs_fz vs us e)
  ·cases h
 | .undef, b, h => by injection h with h; subst h; exact FzA.refl _ _
 | .sc v, b, h => by injection h with h; subst h; exact FzA.refl _ _
 | .list _ _, b, h => by injection h with h; subst h; exact FzA.refl _ _
 | .cptr _, b, h => by injection h with h; subst h; exact FzA.refl _ _
 | .tmap _, b, h => by injection h with h; subst h; exact FzA.refl _ _
 | .clo _ _ _, b, h => by injection h with h; subst h; exact FzA.refl _ _
theorem fzVs_fz {H : Heap} : ∀ (a b : List AV), fzVs H a = some b → CongL (FzT H allS) a b
 | [], b, h => by injection h with h; subst h; exact trivial
 | a :: l, b, h => by
  simp only [fzVs] at h
  split at h
  ·rename_i u q e1 e2
   injection h with h
   subst h
   exact ⟨fzV_fz a u e1, fzVs_fz l q e2⟩
  ·cases h
end
theorem CallOK.sub {P : Program} {f : FuncId} {args : List AV} {H : Heap} {R R' : AV → Heap → Prop} (h : CallOK P f args H R) (hs : ∀ res H', R res H' → ∃ res' H2, SubV H.length H' res H2 res' ∧ R' res' H2) : CallOK P f args H R' := by
 refine ⟨h.1, fun M J w cargs a b c d => (h.2 M J w cargs a b c d).mono ?_⟩
 rintro e w' ⟨v, M', J', res, H', rfl, hst, hrep, hr⟩
 obtain ⟨res', H2, h1, h2⟩ := hs res H' hr
 obtain ⟨M2, J2, h3, h4⟩ := h1 M' J' v w' hrep hst.hrep hst.mrep
 exact ⟨v, M2, J2, res', H2, rfl, hst.trans h3, h4, h2⟩
noncomputable def dAct (call : Caller) (base j : Nat) (d : Option Nat) (gd : Option (Nat × Bool)) (ih : FT → Heap → DR) (a : IAct) : FT → Heap → DR :=
 match a with
 | .op o => fun T H => dOp ⟨d, gd, .op o⟩ d (base, j) (drdE T.evK o) (dwrE T.evK base j o) T ih (dstepK o T.evK base j H)
 | .call f args => fun T H => Bool.rec (motive := fun _ => DR) .stuck (dCall ⟨d, gd, .call f args⟩ d (base, j) T H ih (call f (mapK T args) [])) (lowL 0 (mapK T args))
 | .callV _ _ => fun _ _ => .stuck
noncomputable def dSel (b : Bool) (yes no : DR) (v : AV) : DR :=
 match v with
 | .sc (.bool true) => Bool.rec (motive := fun _ => DR) no yes b
 | .sc (.bool false) => Bool.rec (motive := fun _ => DR) yes no b
 | .sc (.tuple _) => no
 | _ => .stuck
noncomputable def dGd (call : Caller) (base j : Nat) (d : Option Nat) (a : IAct) (ih : FT → Heap → DR) (gd : Option (Nat × Bool)) : FT → Heap → DR :=
 match gd with
 | none => dAct call base j d none ih a
 | some (t, b) => fun T H => dSel b (dAct call base j d (some (t, b)) ih a T H) (dPut ⟨d, some (t, b), a⟩ d (base, j) (.sc Go.undef) [] [] T H ih) (T.getK t)
noncomputable def dStep (call : Caller) (base j : Nat) (ih : FT → Heap → DR) (x : IOper) : FT → Heap → DR :=
 match x with
 | ⟨d, gd, a⟩ => dGd call base j d a ih gd
noncomputable def drawK (call : Caller) (base : Nat) (xs : List IOper) : Nat → FT → Heap → DR :=
 List.rec (motive := fun _ => Nat → FT → Heap → DR) (fun _ T H => .out [] T H) (fun x _ ih j => dStep call base j (ih (Nat.succ j)) x) xs
theorem DR.cons_out {r : RRec} {s : DR} {R : List RRec} {T : FT} {H : Heap} (h : s.cons r = .out R T H) : ∃ R', s = .out R' T H ∧ R = r :: R' := by
 cases s with
 | stuck => cases h
 | out R' T' H' => injection h with h1 h2 h3; subst h2; subst h3; exact ⟨R', rfl, h1.symm⟩
theorem dPut_out {x : IOper} {d : Option Nat} {id : Nat × Nat} {v : AV} {rd wr : List (Nat × Nat)} {T : FT} {H : Heap} {ih : FT → Heap → DR} {R : List RRec} {T' : FT} {H' : Heap} (h : dPut x d id v rd wr T H ih = .out R T' H') {fr : Fr} (ha : AgT fr T) :
  ∃ T1 R', AgT (fr.put d v) T1 ∧ ih T1 H = .out R' T' H' ∧ R = ⟨x, id, v, rd, wr⟩ :: R' := by
 cases d with
 | none =>
  obtain ⟨R', h1, h2⟩ := DR.cons_out h
  exact ⟨T, R', ha, h1, h2⟩
 | some d =>
  simp only [dPut] at h
  split at h
  ·rename_i T1 e
   obtain ⟨R', h1, h2⟩ := DR.cons_out h
   exact ⟨T1, R', ha.putK e, h1, h2⟩
  ·cases h
def QuietR (R : List RRec) : Prop := ∀ r ∈ R, wrAct r.x.act = false → r.wr = []
theorem QuietR.cons {r : RRec} {R : List RRec} (h1 : wrAct r.x.act = false → r.wr = []) (h2 : QuietR R) : QuietR (r :: R) := by
 intro q hq
 rcases List.mem_cons.1 hq with e | e
 ·subst e; exact h1
 ·exact h2 q e
section
variable {P : Program} {call : Caller} {base : Nat}
theorem dAct_sound (hcall : CallerOK P call) {xs : List IOper} {j : Nat} {d : Option Nat} {gd : Option (Nat × Bool)} {a : IAct} {ih : FT → Heap → DR} {T' : FT} {H' : Heap}
  (hih : ∀ T H fr R, ih T H = .out R T' H' → AgT fr T → ∃ fr', DRun P base (j + 1) xs fr H R fr' H' ∧ AgT fr' T' ∧ QuietR R) {T : FT} {H : Heap} {fr : Fr} {R : List RRec} (hg : gok fr gd = some true) (ha : AgT fr T)
  (h : dAct call base j d gd ih a T H = .out R T' H') : ∃ fr', DRun P base j (⟨d, gd, a⟩ :: xs) fr H R fr' H' ∧ AgT fr' T' ∧ QuietR R := by
 cases a with
 | op o =>
  simp only [dAct] at h
  unfold dOp at h
  split at h
  ·rename_i v H1 e
   rw [← ha.evK] at e
   obtain ⟨T1, R', h1, h2, h3⟩ := dPut_out h ha
   obtain ⟨fr', h4, h5, h6⟩ := hih T1 H1 _ R' h2 h1
   subst h3
   refine ⟨fr', ?_, h5, h6.cons fun hw => wrOp_dwr hw _ _ _⟩
   have := DRun.op (x := ⟨d, gd, .op o⟩) hg rfl (dstepK_sound e) h4
   rw [drdE_eq, dwrE_eq, ha.evK] at this
   exact this
  ·cases h
 | call f args =>
  simp only [dAct] at h
  cases hl : lowL 0 (mapK T args) with
  | false => rw [hl] at h; cases h
  | true =>
   rw [hl] at h
   replace h : dCall ⟨d, gd, .call f args⟩ d (base, j) T H ih (call f (mapK T args) []) = .out R T' H' := h
   unfold dCall at h
   split at h
   ·rename_i v0 H1 e
    unfold dFz at h
    split at h
    ·rename_i v ef
     cases hv : lowV 0 v with
     | false => rw [hv] at h; cases h
     | true =>
      rw [hv] at h
      obtain ⟨T1, R', h1, h2, h3⟩ := dPut_out h ha
      obtain ⟨fr', h4, h5, h6⟩ := hih T1 H _ R' h2 h1
      subst h3
      refine ⟨fr', ?_, h5, h6.cons fun _ => rfl⟩
      refine DRun.call (x := ⟨d, gd, .call f args⟩) hg rfl (PureRun.of (fun a haa => ?_) (lowV_pure v hv) ?_) h4
      ·rw [ha.mapK] at haa
       exact lowL_pure _ hl a haa
      ·rw [ha.mapK]
       refine (hcall f _ [] v0 H1 e).sub ?_
       rintro res H' ⟨rfl, rfl⟩
       exact ⟨v, [], SubV.frzAll (fzV_fz _ _ ef) (lowV_pure v hv), rfl⟩
    ·cases h
   ·cases h
 | callV f args => cases h
theorem drawK_sound (hcall : CallerOK P call) : ∀ (xs : List IOper) (j : Nat) (T : FT) (H : Heap) (fr : Fr) (R : List RRec) (T' : FT) (H' : Heap), drawK call base xs j T H = .out R T' H' → AgT fr T →
  ∃ fr', DRun P base j xs fr H R fr' H' ∧ AgT fr' T' ∧ QuietR R := by
 intro xs
 induction xs with
 | nil =>
  intro j T H fr R T' H' h ha
  injection h with h1 h2 h3
  subst h1; subst h2; subst h3
  exact ⟨fr, .nil _ _ _, ha, fun r hr => by cases hr⟩
 | cons x xs ih =>
  intro j T H fr R T' H' h ha
  obtain ⟨d, gd, a⟩ := x
  replace h : dGd call base j d a (drawK call base xs (Nat.succ j)) gd T H = .out R T' H' := h
  have hih : ∀ T H fr R, drawK call base xs (Nat.succ j) T H = .out R T' H' → AgT fr T → ∃ fr', DRun P base (j + 1) xs fr H R fr' H' ∧ AgT fr' T' ∧ QuietR R :=
   fun T H fr R h ha => ih (j + 1) T H fr R T' H' h ha
  cases gd with
  | none => exact dAct_sound hcall (ih := drawK call base xs (Nat.succ j)) hih rfl ha h
  | some p =>
   obtain ⟨t, b⟩ := p
   have hsel : (gok fr (some (t, b)) = some true ∧ dAct call base j d (some (t, b)) (drawK call base xs (Nat.succ j)) a T H = .out R T' H') ∨
     (gok fr (some (t, b)) = some false ∧ dPut ⟨d, some (t, b), a⟩ d (base, j) (.sc Go.undef) [] [] T H (drawK call base xs (Nat.succ j)) = .out R T' H') := by
    have e : T.getK t = fr.get t := (T.getK_eq t).trans (ha t).symm
    simp only [dGd] at h
    rw [e] at h
    unfold dSel at h
    simp only [gok]
    split at h
    ·rename_i e1
     rw [e1]
     cases b with
     | true => exact .inl ⟨rfl, h⟩
     | false => exact .inr ⟨rfl, h⟩
    ·rename_i e1
     rw [e1]
     cases b with
     | true => exact .inr ⟨rfl, h⟩
     | false => exact .inl ⟨rfl, h⟩
    ·rename_i e1
     rw [e1]
     exact .inr ⟨rfl, h⟩
    ·cases h
   rcases hsel with ⟨h1, h2⟩ | ⟨h1, h2⟩
   ·exact dAct_sound hcall (ih := drawK call base xs (Nat.succ j)) hih h1 ha h2
   ·obtain ⟨T1, R', h3, h4, h5⟩ := dPut_out h2 ha
    obtain ⟨fr', h6, h7, h8⟩ := hih T1 H _ R' h4 h3
    subst h5
    exact ⟨fr', DRun.skip (x := ⟨d, some (t, b), a⟩) h1 h6, h7, h8.cons fun _ => rfl⟩
end
noncomputable def drawTail (af : List (List Nat)) (s : Nat) (ys : List IOper) : DR → XR
 | .out R T H => Bool.rec (motive := fun _ => XR) .stuck (.out .normal T H) (chkK af s ys R)
 | .stuck => .stuck
noncomputable def drawCall (call : Caller) (af : List (List Nat)) (s : Nat) (ys : List IOper) : RR → XR
 | .out T H => drawTail af s ys (drawK call (lenK H) ys 0 T (H ++ [List.replicate ys.length .dead]))
 | .stuck => .stuck
noncomputable def drawMid (call : Caller) (k : Nat) (af : List (List Nat)) (xs : List IOper) (y : IOper) (ys : List IOper) : DR → XR
 | .out R T H => Bool.rec (motive := fun _ => XR) .stuck (drawCall call af (Nat.succ (lenK xs)) ys (regK call k [y] T H)) (midS af (lenK xs) (lenK ys) && chkK af 0 xs R)
 | .stuck => .stuck
noncomputable def drawEnd (af : List (List Nat)) (xs : List IOper) (other : XR) : DR → XR
 | .out R T H => Bool.rec (motive := fun _ => XR) other (.out .normal T H) (lowB 0 af && chkK af 0 xs R)
 | .stuck => other
noncomputable def drawOther (call : Caller) (k : Nat) (af : List (List Nat)) (T : FT) (H : Heap) : Option (List IOper × IOper × List IOper) → XR
 | some (xs, y, ys) => drawMid call k af xs y ys (drawK call (lenK H) xs 0 T (H ++ [List.replicate xs.length .dead]))
 | none => .stuck
noncomputable def drawX (call : Caller) (k : Nat) (xs : List IOper) (af : List (List Nat)) (T : FT) (H : Heap) : XR :=
 drawEnd af xs (drawOther call k af T H (splitCall xs)) (drawK call (lenK H) xs 0 T (H ++ [List.replicate xs.length .dead]))
noncomputable def seqK (b : FT → Heap → XR) : XR → XR
 | .out e T H => match e with
  | .normal => b T H
  | e => .out e T H
 | .stuck => .stuck
noncomputable def condK (a b : XR) (v : AV) : XR :=
 match v with
 | .sc (.bool true) => a
 | .sc (.bool false) => b
 | _ => .stuck
noncomputable def blockK (id : Nat) : XR → XR
 | .out e T H => match e with
  | .exit id' => Bool.rec (motive := fun _ => XR) (.out (.exit id') T H) (.out .normal T H) (Nat.beq id' id)
  | e => .out e T H
 | .stuck => .stuck
noncomputable def iterK (f : FT → Heap → XR) (n : Nat) : FT → Heap → XR := Nat.rec (motive := fun _ => FT → Heap → XR) (fun _ _ => .stuck) (fun _ ih T H => seqK ih (f T H)) n
noncomputable def execK (call : Caller) (k fuel : Nat) (c : ICode) : FT → Heap → XR :=
 ICode.rec (motive := fun _ => FT → Heap → XR)
  (fun T H => .out .normal T H)
  (fun xs T H => (regK call k xs T H).x)
  (fun xs af T H => drawX call k xs af T H)
  (fun _ _ a b T H => seqK b (a T H))
  (fun c _ _ a b T H => condK (a T H) (b T H) (T.evK c))
  (fun id _ a T H => blockK id (a T H))
  (fun _ a T H => iterK a fuel T H)
  (fun _ _ _ _ _ _ _ _ => .stuck)
  (fun id T H => .out (.exit id) T H)
  (fun T H => .out .ret T H)
  (fun _ _ => .stuck) c
theorem RR.x_out {r : RR} {e : Exit} {T : FT} {H : Heap} (h : r.x = .out e T H) : e = .normal ∧ r = .out T H := by
 cases r with
 | stuck => cases h
 | out T' H' => injection h with h1 h2 h3; subst h1; subst h2; subst h3; exact ⟨rfl, rfl⟩
theorem seqK_out {b : FT → Heap → XR} {r : XR} {e : Exit} {T : FT} {H : Heap} (h : seqK b r = .out e T H) : (∃ T1 H1, r = .out .normal T1 H1 ∧ b T1 H1 = .out e T H) ∨ (e ≠ .normal ∧ r = .out e T H) := by
 unfold seqK at h
 split at h
 ·split at h
  ·exact .inl ⟨_, _, rfl, h⟩
  ·rename_i hne
   injection h with h1 h2 h3
   subst h1; subst h2; subst h3
   exact .inr ⟨hne, rfl⟩
 ·cases h
section
variable {P : Program} {N k fuel : Nat} {call : Caller}
theorem drawX_sound (hp : P.follows .mixedOrders = true) (hcall : CallerOK P call) {zs : List IOper} {af : List (List Nat)} {T : FT} {H : Heap} {e : Exit} {T' : FT} {H' : Heap} (h : drawX call k zs af T H = .out e T' H') {fr : Fr} (ha : AgT fr T)
  {Q : Exit → Fr → Heap → Prop} (hQ : ∀ fr', AgT fr' T' → Q e fr' H') : AWP P N k (.draw zs af) Q fr H := by
 unfold drawX at h
 rw [lenK_eq] at h
 have other : ∀ e T' H', drawOther call k af T H (splitCall zs) = .out e T' H' → (∀ fr', AgT fr' T' → Q e fr' H') → AWP P N k (.draw zs af) Q fr H := by
  intro e T' H' h hQ
  unfold drawOther at h
  split at h
  ·rename_i xs y ys hs
   unfold drawMid at h
   split at h
   ·rename_i R T1 H1 hd
    rw [lenK_eq] at hd
    obtain ⟨fr1, h1, h2, h3⟩ := drawK_sound hcall xs 0 T _ fr R T1 H1 hd ha
    cases hc : midS af (lenK xs) (lenK ys) && chkK af 0 xs R with
    | false => rw [hc] at h; cases h
    | true =>
     rw [hc] at h
     simp only [Bool.and_eq_true] at hc
     replace h : drawCall call af (Nat.succ (lenK xs)) ys (regK call k [y] T1 H1) = .out e T' H' := h
     obtain ⟨c0, c1⟩ := hc
     simp only [midS, lenK_eq, Bool.and_eq_true, List.all_eq_true, List.mem_range] at c0
     have c2 := chkK_sound c1 h1.recs.1 h3
     refine AWP.drawMid (splitCall_eq hs) hp c0.1 c0.2.1 c0.2.2 h1 c2 ?_
     unfold drawCall at h
     split at h
     ·rename_i T2 H2 hr
      refine regK_sound hcall (fun fr2 ha2 => ?_) [y] T1 H1 fr1 hr h2
      unfold drawTail at h
      split at h
      ·rename_i R2 T3 H3 hd2
       rw [lenK_eq] at hd2
       obtain ⟨fr3, k1, k2, k3⟩ := drawK_sound hcall ys 0 T2 _ fr2 R2 T3 H3 hd2 ha2
       cases hc2 : chkK af (Nat.succ (lenK xs)) ys R2 with
       | false => rw [hc2] at h; cases h
       | true =>
        rw [hc2] at h
        injection h with h4 h5 h6
        subst h4; subst h5; subst h6
        have c3 := chkK_sound hc2 k1.recs.1 k3
        rw [lenK_eq] at c3
        exact ⟨R2, fr3, _, k1, c3, hQ fr3 k2⟩
      ·cases h
     ·cases h
   ·cases h
  ·cases h
 unfold drawEnd at h
 split at h
 ·rename_i R T1 H1 hd
  cases hc : lowB 0 af && chkK af 0 zs R with
  | false =>
   rw [hc] at h
   exact other _ _ _ h hQ
  | true =>
   rw [hc] at h
   simp only [Bool.and_eq_true] at hc
   injection h with h1 h2 h3
   subst h1; subst h2; subst h3
   obtain ⟨fr1, h1, h2, h3⟩ := drawK_sound hcall zs 0 T _ fr R _ _ hd ha
   have c2 := chkK_sound hc.2 h1.recs.1 h3
   exact AWP.draw hp h1 (by simp only [chk, hc.1, c2.all, Bool.and_self]) (hQ fr1 h2)
 ·exact other _ _ _ h hQ
theorem execK_sound (hp : P.follows .mixedOrders = true) (hcall : CallerOK P call) : ∀ (c : ICode) (T : FT) (H : Heap) (e : Exit) (T' : FT) (H' : Heap), execK call k fuel c T H = .out e T' H' → ∀ fr, AgT fr T →
  ∀ (Q : Exit → Fr → Heap → Prop), (∀ fr', AgT fr' T' → Q e fr' H') → AWP P N k c Q fr H := by
 intro c
 induction c with
 | skip =>
  intro T H e T' H' h fr ha Q hQ
  injection h with h1 h2 h3
  subst h1; subst h2; subst h3
  exact AWP.skip (hQ fr ha)
 | region xs =>
  intro T H e T' H' h fr ha Q hQ
  obtain ⟨rfl, hr⟩ := RR.x_out h
  exact AWP.region (regK_sound hcall hQ xs T H fr hr ha)
 | draw xs af =>
  intro T H e T' H' h fr ha Q hQ
  exact drawX_sound hp hcall h ha hQ
 | seq a b iha ihb =>
  intro T H e T' H' h fr ha Q hQ
  rcases seqK_out (b := execK call k fuel b) (r := execK call k fuel a T H) h with ⟨T1, H1, h1, h2⟩ | ⟨h1, h2⟩
  ·exact AWP.seq (iha T H _ T1 H1 h1 fr ha _ fun fr1 ha1 => ihb T1 H1 e T' H' h2 fr1 ha1 Q hQ)
  ·refine AWP.seq (iha T H _ T' H' h2 fr ha _ fun fr1 ha1 => ?_)
   cases e with
   | normal => exact absurd rfl h1
   | _ => exact hQ fr1 ha1
 | cond c a b iha ihb =>
  intro T H e T' H' h fr ha Q hQ
  replace h : condK (execK call k fuel a T H) (execK call k fuel b T H) (T.evK c) = .out e T' H' := h
  unfold condK at h
  split at h
  ·rename_i e1
   rw [← ha.evK] at e1
   exact AWP.condT e1 (iha T H e T' H' h fr ha Q hQ)
  ·rename_i e1
   rw [← ha.evK] at e1
   exact AWP.condF e1 (ihb T H e T' H' h fr ha Q hQ)
  ·cases h
 | block id a iha =>
  intro T H e T' H' h fr ha Q hQ
  replace h : blockK id (execK call k fuel a T H) = .out e T' H' := h
  cases hr : execK call k fuel a T H with
  | stuck => rw [hr] at h; cases h
  | out e1 T1 H1 =>
   rw [hr] at h
   refine AWP.block (iha T H e1 T1 H1 hr fr ha _ fun fr1 ha1 => ?_)
   cases e1 with
   | exit id' =>
    replace h : Bool.rec (motive := fun _ => XR) (.out (.exit id') T1 H1) (.out .normal T1 H1) (Nat.beq id' id) = .out e T' H' := h
    show (match Nat.beq id' id with | true => Q .normal | false => Q (.exit id')) fr1 H1
    cases hb : Nat.beq id' id with
    | true =>
     rw [hb] at h
     injection h with h1 h2 h3
     subst h1; subst h2; subst h3
     exact hQ fr1 ha1
    | false =>
     rw [hb] at h
     injection h with h1 h2 h3
     subst h1; subst h2; subst h3
     exact hQ fr1 ha1
   | _ =>
    injection h with h1 h2 h3
    subst h1; subst h2; subst h3
    exact hQ fr1 ha1
 | loop a iha =>
  intro T H e T' H' h fr ha Q hQ
  replace h : iterK (execK call k fuel a) fuel T H = .out e T' H' := h
  refine AWP.loop (σ := Nat × FT × Heap × Fr) (fun s => s.2.2.2) (fun s => s.2.2.1) (fun s => AgT s.2.2.2 s.2.1 ∧ iterK (execK call k fuel a) s.1 s.2.1 s.2.2.1 = .out e T' H') (fun s => s.1) (fuel, T, H, fr) ⟨ha, h⟩ (Sub.refl _ _ _ _) ?_
  rintro ⟨n, T1, H1, fr1⟩ ⟨ha1, h1⟩
  simp only at ha1 h1 ⊢
  cases n with
  | zero => cases h1
  | succ n =>
   replace h1 : seqK (iterK (execK call k fuel a) n) (execK call k fuel a T1 H1) = .out e T' H' := h1
   rcases seqK_out h1 with ⟨T2, H2, h2, h3⟩ | ⟨h2, h3⟩
   ·refine iha T1 H1 _ T2 H2 h2 fr1 ha1 _ fun fr2 ha2 => ?_
    exact ⟨(n, T2, H2, fr2), ⟨ha2, h3⟩, Nat.lt_succ_self n, Sub.refl _ _ _ _⟩
   ·refine iha T1 H1 _ T' H' h3 fr1 ha1 _ fun fr2 ha2 => ?_
    cases e with
    | normal => exact absurd rfl h2
    | _ => exact hQ fr2 ha2
 | exit id =>
  intro T H e T' H' h fr ha Q hQ
  injection h with h1 h2 h3
  subst h1; subst h2; subst h3
  exact AWP.exit (hQ fr ha)
 | ret =>
  intro T H e T' H' h fr ha Q hQ
  injection h with h1 h2 h3
  subst h1; subst h2; subst h3
  exact AWP.ret (hQ fr ha)
 | rangeF =>
  intro T H e T' H' h
  cases h
 | bad =>
  intro T H e T' H' h
  cases h
end
noncomputable def resOneK (T : FT) (H : Heap) (r : IRes) : Option AV :=
 match r with
 | .tmp t => match kFz (T.getK t) [] with
  | .yes v _ => some v
  | .no => none
 | .cell a sz agg => match kLoad sz agg (T.getK a) H with
  | .yes v _ => some v
  | .no => none
noncomputable def resConsK (x : Option AV) (l : Option (List AV)) : Option (List AV) :=
 match x with
 | some v => match l with
  | some q => some (v :: q)
  | none => none
 | none => none
noncomputable def resAllK (T : FT) (H : Heap) (rs : List IRes) : Option (List AV) := List.rec (motive := fun _ => Option (List AV)) (some []) (fun r _ ih => resConsK (resOneK T H r) ih) rs
noncomputable def resOfK (l : Option (List AV)) : Option AV :=
 match l with
 | some [x] => some x
 | some xs => some (.tup xs)
 | none => none
theorem resOneK_eq {fr : Fr} {T : FT} (ha : AgT fr T) {H : Heap} {r : IRes} {v : AV} (h : resOneK T H r = some v) : (∃ sz agg a, r = .cell a sz agg ∧ ∀ cells, fr.get a ≠ .cptr cells) ∨ (∃ t, r = .tmp t) → resOne fr H r = some v := by
 intro hr
 cases r with
 | tmp t =>
  simp only [resOneK] at h
  split at h
  ·rename_i u H1 e
   injection h with h
   subst h
   obtain ⟨h1, _⟩ := kFz_eq e
   subst h1
   simp only [resOne, fz_eq, FT.getK_eq, ha t]
  ·cases h
 | cell a sz agg =>
  rcases hr with ⟨_, _, _, e, hr⟩ | ⟨_, e⟩
  ·injection e with e1 e2 e3
   subst e1; subst e2; subst e3
   simp only [resOneK] at h
   split at h
   ·rename_i u H1 e
    injection h with h
    subst h
    rw [FT.getK_eq, ← ha a] at e
    simp only [kLoad] at e
    simp only [resOne]
    split at e
    ·rename_i cells e1
     exact absurd e1 (hr cells)
    ·rename_i g' i' row off e1
     rw [hgetK_eq] at e
     split at e
     ·rename_i s rows e2
      rw [lgetK_eq] at e
      split at e
      ·rename_i q e3
       obtain ⟨h1, h2⟩ := kLd_eq e
       simp only [e1, e2, e3, h1]
      ·cases e
     ·cases e
    ·cases e
   ·cases h
  ·cases e
noncomputable def isPtr (v : AV) : Bool :=
 match v with
 | .ptr _ _ _ _ => true
 | _ => false
noncomputable def resPtr (T : FT) (rs : List IRes) : Bool := List.rec (motive := fun _ => Bool) true (fun r _ ih => match r with
 | .tmp _ => ih
 | .cell a _ _ => Bool.rec (motive := fun _ => Bool) false ih (isPtr (T.getK a))) rs
theorem resAllK_eq {fr : Fr} {T : FT} (ha : AgT fr T) {H : Heap} : ∀ (rs : List IRes) (vs : List AV), resPtr T rs = true → resAllK T H rs = some vs → resAll fr H rs = some vs := by
 intro rs
 induction rs with
 | nil => intro vs _ h; exact h
 | cons r rs ih =>
  intro vs hp h
  replace h : resConsK (resOneK T H r) (resAllK T H rs) = some vs := h
  unfold resConsK at h
  split at h
  ·rename_i v e1
   split at h
   ·rename_i q e2
    injection h with h
    subst h
    have hp' : resPtr T rs = true ∧ ((∃ sz agg a, r = .cell a sz agg ∧ ∀ cells, fr.get a ≠ .cptr cells) ∨ (∃ t, r = .tmp t)) := by
     cases r with
     | tmp t => exact ⟨hp, .inr ⟨t, rfl⟩⟩
     | cell a sz agg =>
      replace hp : Bool.rec (motive := fun _ => Bool) false (resPtr T rs) (isPtr (T.getK a)) = true := hp
      cases e : isPtr (T.getK a) with
      | false => rw [e] at hp; cases hp
      | true =>
       rw [e] at hp
       refine ⟨hp, .inl ⟨sz, agg, a, rfl, fun cells hc => ?_⟩⟩
       rw [FT.getK_eq, ← ha a, hc] at e
       cases e
    simp only [resAll, resOneK_eq ha e1 hp'.2, ih q hp'.1 e2]
   ·cases h
  ·cases h
noncomputable def argsK (l : List AV) : Nat → FT → Option FT :=
 List.rec (motive := fun _ => Nat → FT → Option FT) (fun _ T => some T) (fun a _ ih i T => match T.putK i a with
  | some T' => ih (Nat.succ i) T'
  | none => none) l
noncomputable def retK (k : Nat) (H : Heap) (r : Option AV) : Option (AV × Heap) :=
 match r with
 | some v => some (endK k v H)
 | none => none
noncomputable def finK (k : Nat) (rs : List IRes) (x : XR) : Option (AV × Heap) :=
 match x with
 | .out e T H => match e with
  | .normal => Bool.rec (motive := fun _ => Option (AV × Heap)) none (retK k H (resOfK (resAllK T H rs))) (resPtr T rs)
  | .ret => Bool.rec (motive := fun _ => Option (AV × Heap)) none (retK k H (resOfK (resAllK T H rs))) (resPtr T rs)
  | _ => none
 | .stuck => none
noncomputable def bodyK (call : Caller) (fuel : Nat) (args : List AV) (H : Heap) (F : IFun) : Option (AV × Heap) :=
 match F with
 | ⟨n, code, res⟩ => match Nat.ble (lenK args) n with
  | true => match argsK args 0 (FT.full 12) with
   | some T => finK (lenK H) res (execK call (lenK H) fuel code T H)
   | none => none
  | false => none
noncomputable def callK (tab : FuncId → Option IFun) (call : Caller) (fuel : Nat) (f : FuncId) (args : List AV) (H : Heap) (s : Option (AV × Heap)) : Option (AV × Heap) :=
 match s with
 | some r => some r
 | none => match tab f with
  | some F => bodyK call fuel args H F
  | none => none
noncomputable def runK (sum : Caller) (tab : FuncId → Option IFun) (fuel : Nat) (d : Nat) : Caller :=
 Nat.rec (motive := fun _ => Caller) (fun _ _ _ => none) (fun _ ih f args H => callK tab ih fuel f args H (sum f args H)) d
theorem FT.get_full (d : Nat) : ∀ t, (FT.full d).get t = .undef := by
 induction d with
 | zero => intro t; cases t <;> rfl
 | succ d ih =>
  intro t
  cases t with
  | zero => rfl
  | succ t =>
   show (match Nat.beq (Nat.mod t 2) 0 with | true => (FT.full d).get (Nat.div t 2) | false => (FT.full d).get (Nat.div t 2)) = _
   split <;> exact ih _
theorem argsK_spec : ∀ (l : List AV) (i : Nat) (T T' : FT), argsK l i T = some T' → ∀ fr, AgT fr T → (∀ t, i ≤ t → fr.get t = .undef) → ∀ t, T'.get t = match Fr.get (argsFr i l) t with | .undef => fr.get t | v => v := by
 intro l
 induction l with
 | nil =>
  intro i T T' h fr ha _ t
  injection h with h
  subst h
  exact (ha t).symm
 | cons a l ih =>
  intro i T T' h fr ha hu t
  replace h : (match T.putK i a with | some T' => argsK l (Nat.succ i) T' | none => none) = some T' := h
  split at h
  ·rename_i T1 e
   have ha1 := ha.putK e
   have hu1 : ∀ t, Nat.succ i ≤ t → (Fr.put fr (some i) a).get t = .undef := by
    intro t ht
    show (match Nat.beq i t with | true => a | false => Fr.get fr t) = .undef
    have : Nat.beq i t = false := by
     rw [Bool.eq_false_iff]
     intro he
     have := Nat.eq_of_beq_eq_true he
     omega
    rw [this]
    exact hu t (by omega)
   rw [ih (i + 1) T1 T' h _ ha1 hu1 t]
   show (match Fr.get (argsFr (i + 1) l) t with | .undef => (match Nat.beq i t with | true => a | false => Fr.get fr t) | v => v) = match (match Nat.beq i t with | true => a | false => Fr.get (argsFr (i + 1) l) t) with | .undef => fr.get t | v => v
   cases hb : Nat.beq i t with
   | true =>
    have := Nat.eq_of_beq_eq_true hb
    subst this
    have : Fr.get (argsFr (i + 1) l) i = .undef := by
     rw [argsFr_get, if_neg (by omega)]
    rw [this]
    simp only
    cases a <;> first | rfl | exact (hu i (Nat.le_refl _)).symm
   | false => rfl
  ·cases h
theorem bodyK_sound {P : Program} (hp : P.follows .mixedOrders = true) {call : Caller} (hcall : CallerOK P call) {fuel : Nat} {f : FuncId} {F : IFun} (hf : cfun P f = some F) {args : List AV} {H : Heap} {v : AV} {H' : Heap} (h : bodyK call fuel args H F = some (v, H')) :
  CallOK P f args H fun r H2 => r = v ∧ H2 = H' := by
 obtain ⟨n, code, res⟩ := F
 simp only [bodyK] at h
 split at h
 ·rename_i hn
  split at h
  ·rename_i T hT
   rw [lenK_eq] at hn h
   have ha : AgT (argsFr 0 args) T := by
    intro t
    rw [argsK_spec args 0 _ T hT [] (fun t => (FT.get_full 12 t).symm) (fun t _ => rfl) t]
    cases Fr.get (argsFr 0 args) t <;> rfl
   refine CallOK.of hf ?_ (Nat.le_of_ble_eq_true hn)
   unfold finK at h
   split at h
   ·rename_i e T1 H1 hx
    have key : Bool.rec (motive := fun _ => Option (AV × Heap)) none (retK H.length H1 (resOfK (resAllK T1 H1 res))) (resPtr T1 res) = some (v, H') → (e = .normal ∨ e = .ret) →
      AWP P n H.length code (fun e fr' Hx => (e = .normal ∨ e = .ret) ∧ ∃ r r' H2, resOf fr' Hx res = some r ∧ SubV H.length Hx r H2 r' ∧ r' = v ∧ H2 = H') (argsFr 0 args) H := by
     intro h he
     cases hpt : resPtr T1 res with
     | false => rw [hpt] at h; cases h
     | true =>
      rw [hpt] at h
      replace h : retK H.length H1 (resOfK (resAllK T1 H1 res)) = some (v, H') := h
      unfold retK at h
      split at h
      ·rename_i u hu
       injection h with h
       have hs := endK_sub H.length u H1
       rw [h] at hs
       refine execK_sound hp hcall code T H e T1 H1 hx _ ha _ fun fr' ha' => ⟨he, u, v, H', ?_, hs, rfl, rfl⟩
       unfold resOfK at hu
       unfold resOf
       split at hu
       ·rename_i x hx'
        rw [resAllK_eq ha' res _ hpt hx']
        exact hu
       ·rename_i xs hne hx'
        rw [resAllK_eq ha' res _ hpt hx']
        injection hu with hu
        subst hu
        split
        ·rename_i e1
         injection e1 with e1
         exact absurd e1 (hne _)
        ·rename_i e1
         injection e1 with e1
         rw [e1]
        ·rename_i e1
         cases e1
       ·cases hu
      ·cases h
    split at h
    ·exact key h (.inl rfl)
    ·exact key h (.inr rfl)
    ·cases h
   ·cases h
  ·cases h
 ·cases h
theorem runK_sound {P : Program} (hp : P.follows .mixedOrders = true) {sum : Caller} (hsum : CallerOK P sum) {tab : FuncId → Option IFun} (htab : ∀ f F, tab f = some F → cfun P f = some F) {fuel : Nat} : ∀ (d : Nat), CallerOK P (runK sum tab fuel d) := by
 intro d
 induction d with
 | zero => intro f args H v H' h; cases h
 | succ d ih =>
  intro f args H v H' h
  replace h : callK tab (runK sum tab fuel d) fuel f args H (sum f args H) = some (v, H') := h
  unfold callK at h
  split at h
  ·rename_i r e
   rw [h] at e
   exact hsum f args H v H' e
  ·split at h
   ·rename_i F e
    exact bodyK_sound hp ih (htab f F e) h
   ·cases h
def TabOK (P : Program) : List (Nat × IFun) → Prop
 | [] => True
 | (n, F) :: l => cfun P n = some F ∧ TabOK P l
theorem tabL_ok {P : Program} : ∀ {l : List (Nat × IFun)}, TabOK P l → ∀ f F, tabL l f = some F → cfun P f = some F
 | [], _, f, F, h => by cases h
 | (n, G) :: l, ⟨h1, h2⟩, f, F, h => by
  simp only [tabL] at h
  split at h
  ·rename_i e
   have := Nat.eq_of_beq_eq_true e
   subst this
   injection h with h
   subst h
   exact h1
  ·exact tabL_ok h2 f F h
end Go.Av
namespace Go.Av
open Go.RowKit Go.WideShapes Go.ChangeShapes Go.ChangeAt
inductive Sh where
 | int (k : IntKind)
 | bool
 | str
 | float (k : FloatKind)
 | slice (row : List Sh)
inductive Fit : Sh → AV → Prop
 | int (k : IntKind) (n : Int) (h : (Lit.int k n).wf = true) : Fit (.int k) (.sc (.int k n))
 | bool (b : Bool) : Fit .bool (.sc (.bool b))
 | str (s : ByteArray) (h : s.size ≤ maxLen) : Fit .str (.sc (.string s))
 | float (k : FloatKind) (b : Nat) (h : (Lit.float k b).wf = true) : Fit (.float k) (.sc (.float k b))
 | slice (row : List Sh) (rows : List (List AV)) (hl : rows.length ≤ maxLen) (hr : ∀ r ∈ rows, r.length = row.length) (h : ∀ r ∈ rows, ∀ (j : Nat) s c, row[j]? = some s → r[j]? = some c → Fit s c) : Fit (.slice row) (.list row.length rows)
theorem Fit.pure {s : Sh} {a : AV} (h : Fit s a) : Pure a := by
 induction h with
 | int => exact .sc _
 | bool => exact .sc _
 | str => exact .sc _
 | float => exact .sc _
 | slice row rows hl hr _ ih =>
  refine .list _ _ fun r hrm c hc => ?_
  obtain ⟨j, hj⟩ := List.getElem?_of_mem hc
  have hlt := (List.getElem?_eq_some_iff.1 hj).1
  have : j < row.length := by rw [← hr r hrm]; exact hlt
  exact ih r hrm j row[j] c (List.getElem?_eq_getElem this) hj
def repL (r : List Sh) : Nat → List Sh
 | 0 => []
 | n + 1 => r ++ repL r n
mutual

def shp (P : Program) : Nat → TypeId → Option (List Sh)
 | 0, _ => none
 | d + 1, t => match P.underlying t with
  | some .bool => some [.bool]
  | some (.int k) => some [.int k]
  | some .string => some [.str]
  | some (.float k) => some [.float k]
  | some (.slice e) => match shp P d e with
   | some (s :: r) => match Nat.beq (P.cellsOf e) (s :: r).length with
    | true => some [.slice (s :: r)]
    | false => none
   | _ => none
  | some (.struct fs) => match shpF P d 0 fs.toList with
   | some r => match Nat.beq (P.cellsOf t) r.length with
    | true => some r
    | false => none
   | none => none
  | some (.array n e) => match shp P d e with
   | some r => match Nat.beq (P.cellsOf e) r.length && Nat.beq (P.cellsOf t) (n * r.length) with
    | true => some (repL r n)
    | false => none
   | none => none
  | _ => none
def shpF (P : Program) : Nat → Nat → List Field → Option (List Sh)
 | 0, _, _ => none
 | _ + 1, _, [] => some []
 | d + 1, off, f :: fs => match shp P d f.type, shpF P d (off + P.cellsOf f.type) fs with
  | some r, some q => match Nat.beq f.offset off && Nat.beq (P.cellsOf f.type) r.length with
   | true => some (r ++ q)
   | false => none
  | _, _ => none
end
def memOf (w : World) : Mem := fun β => w.heap[β]?
def noJ : Inj := fun _ _ => none
theorem memOf_rep (w : World) : MRep (memOf w) w.heap := fun _ _ h => h
theorem noJ_rep (M : Mem) (h : Array Obj) : HRep M noJ [] h :=
 ⟨fun g i x hx => (by simp [hget] at hx), fun g i g' i' l l' β _ _ hJ => (by cases hJ), fun g i l β _ hJ => (by cases hJ), fun g i l hJ => (by cases hJ)⟩
theorem exists_list {α : Type} (p : Nat → α → Prop) : ∀ (n : Nat), (∀ i, i < n → ∃ a, p i a) → ∃ l : List α, l.length = n ∧ ∀ (i : Nat) a, l[i]? = some a → p i a
 | 0, _ => ⟨[], rfl, fun i a h => by simp at h⟩
 | n + 1, h => by
  obtain ⟨l, h1, h2⟩ := exists_list p n fun i hi => h i (by omega)
  obtain ⟨a, ha⟩ := h n (by omega)
  refine ⟨l ++ [a], by simp [h1], fun i b hb => ?_⟩
  rw [List.getElem?_append] at hb
  split at hb
  ·exact h2 i b hb
  ·have : i = n := by
    have := (List.getElem?_eq_some_iff.1 hb).1
    simp at this
    omega
   subst this
   rw [h1, Nat.sub_self] at hb
   simp at hb
   subst hb
   exact ha
section
variable {H : Type} {enc : TypeId × Value → H} {P : Program} {w : World}
def CellsOK (w : World) (row : List Sh) (cs : List Value) : Prop :=
 cs.length = row.length ∧ ∃ avs : List AV, avs.length = row.length ∧ (∀ (j : Nat) s c, row[j]? = some s → avs[j]? = some c → Fit s c) ∧ ∀ (j : Nat) c v, avs[j]? = some c → cs[j]? = some v → Rep (memOf w) noJ c v ∧ v.oneCell' = true
theorem CellsOK.one {s : Sh} {v : Value} {a : AV} (hf : Fit s a) (hr : Rep (memOf w) noJ a v) (h1 : v.oneCell' = true) : CellsOK w [s] [v] := by
 refine ⟨rfl, [a], rfl, fun j s' c h h' => ?_, fun j c u h h' => ?_⟩
 ·cases j with
  | zero => simp at h h'; subst h; subst h'; exact hf
  | succ j => simp at h
 ·cases j with
  | zero => simp at h h'; subst h; subst h'; exact ⟨hr, h1⟩
  | succ j => simp at h
theorem CellsOK.append {r q : List Sh} {a b : List Value} (h1 : CellsOK w r a) (h2 : CellsOK w q b) : CellsOK w (r ++ q) (a ++ b) := by
 obtain ⟨l1, x, e1, f1, g1⟩ := h1
 obtain ⟨l2, y, e2, f2, g2⟩ := h2
 refine ⟨by simp [l1, l2], x ++ y, by simp [e1, e2], fun j s c h h' => ?_, fun j c v h h' => ?_⟩
 ·rw [List.getElem?_append] at h h'
  rw [e1] at h'
  split at h
  ·rename_i hj; rw [if_pos hj] at h'; exact f1 j s c h h'
  ·rename_i hj; rw [if_neg hj] at h'; exact f2 _ s c h h'
 ·rw [List.getElem?_append] at h h'
  rw [e1, ← l1] at h
  split at h
  ·rename_i hj; rw [if_pos hj] at h'; exact g1 j c v h h'
  ·rename_i hj; rw [if_neg hj] at h'; exact g2 _ c v h h'
theorem cell_of_block {a : Addr} {v : Value} (h : w.cell? a = some v) : ∃ cs e fr, w.heap[a.block]? = some (.cells cs e fr) ∧ a.spot = none ∧ cs[a.off]? = some v := by
 unfold World.cell? at h
 split at h
 ·rename_i c e fr hb
  split at h
  ·cases h
  ·rename_i hs
   exact ⟨c, e, fr, hb, by simpa using hs, h⟩
 ·cases h
theorem trod_arr {base : Nat} {spare : Nat → Bool} {held : Bool} {fuel : Nat} {t : TypeId} {cs : List Value} {x : DataW H × List MemPlace} {n : Nat} {e : TypeId} (ht : P.underlying t = some (.array n e)) (h : DataW.trod enc P w base spare held fuel t cs = some x) :
  ∃ (m : Nat), cs.length = P.cellsOf t ∧ ∀ (i : Nat), i < n → ∃ y, DataW.trod enc P w base spare held m e ((cs.drop (i * P.cellsOf e)).take (P.cellsOf e)) = some y := by
 obtain ⟨xs, m, _, _, hl, hlen, hel⟩ := DataW.trod_array ht h
 refine ⟨m, hl, fun i hi => ?_⟩
 rw [hel i hi, List.getElem?_eq_getElem (by omega)]
 exact ⟨_, rfl⟩
theorem CellsOK.rep {r : List Sh} : ∀ (n off : Nat) (cs : List Value), cs.length = off + n * r.length → (∀ i, i < n → CellsOK w r ((cs.drop (off + i * r.length)).take r.length)) → CellsOK w (repL r n) (cs.drop off)
 | 0, off, cs, hl, _ => ⟨by simp at hl ⊢; simp [repL]; omega, [], rfl, fun j s c h => by simp [repL] at h, fun j c v h => by simp at h⟩
 | n + 1, off, cs, hl, h => by
  have h0 := h 0 (by omega)
  rw [Nat.zero_mul, Nat.add_zero] at h0
  have h1 := CellsOK.rep (r := r) n (off + r.length) cs (by rw [hl, Nat.succ_mul]; omega) fun i hi => by
   have := h (i + 1) (by omega)
   rwa [Nat.succ_mul, Nat.add_comm (i * r.length) r.length, ← Nat.add_assoc] at this
  have := h0.append h1
  rw [← List.drop_drop, List.take_append_drop] at this
  exact this
mutual
theorem trod_ok : ∀ (d fuel : Nat) (t : TypeId) (cs : List Value) (x : DataW H × List MemPlace) (row : List Sh), DataW.trod enc P w 0 (fun _ => true) true fuel t cs = some x → shp P d t = some row → CellsOK w row cs
 | 0, _, _, _, _, _, _, hs => by simp [shp] at hs
 | d + 1, fuel, t, cs, x, row, h, hs => by
  simp only [shp] at hs
  split at hs
  ·rename_i ht
   injection hs with hs; subst hs
   obtain ⟨b, rfl, _⟩ := DataW.trod_bool ht h
   exact .one (.bool b) (.sc _) rfl
  ·rename_i k ht
   injection hs with hs; subst hs
   obtain ⟨n, rfl, _, hw⟩ := DataW.trod_int ht h
   exact .one (.int k n hw) (.sc _) rfl
  ·rename_i ht
   injection hs with hs; subst hs
   obtain ⟨s, rfl, _, hw⟩ := DataW.trod_string ht h
   exact .one (.str s hw) (.sc _) rfl
  ·rename_i k ht
   injection hs with hs; subst hs
   cases fuel with
   | zero => simp [DataW.trod] at h
   | succ n =>
    unfold DataW.trod at h
    rw [ht] at h
    split at h <;> simp_all
    exact .one (.float _ _ h.1.2) (.sc _) rfl
  ·rename_i e ht
   split at hs
   ·rename_i s r he
    split at hs
    ·rename_i hce
     have hsz : P.cellsOf e = (s :: r).length := Nat.eq_of_beq_eq_true hce
     injection hs with hs; subst hs
     rcases DataW.trod_slice ht h with ⟨rfl, _⟩ | ⟨a, len, cap, elems, rest, n, _, rfl, _, _, hlc, hcm, hel, hread, _, _⟩
     ·exact .one (.slice (s :: r) [] (by simp) (fun q hq => by cases hq) (fun q hq => by cases hq)) (.nilList _ _ _) rfl
     ·have each : ∀ i, i < len → ∃ avs : List AV, avs.length = (s :: r).length ∧ (∀ (j : Nat) s' c, (s :: r)[j]? = some s' → avs[j]? = some c → Fit s' c) ∧
        ∀ (j : Nat) c, avs[j]? = some c → ∃ v, w.cell? ((a.add (i * (s :: r).length)).add j) = some v ∧ Rep (memOf w) noJ c v ∧ v.oneCell' = true := by
       intro i hi
       have h1 := hread i hi
       rw [List.getElem?_eq_getElem (by omega), Option.bind_eq_some_iff] at h1
       obtain ⟨cells, hc, hy⟩ := h1
       obtain ⟨_, hcl, hcell⟩ := World.cells?_some hc
       obtain ⟨hl, avs, e1, e2, e3⟩ := trod_ok d n e cells _ _ hy he
       refine ⟨avs, e1, e2, fun j c hj => ?_⟩
       have hjl := (List.getElem?_eq_some_iff.1 hj).1
       have hv : cells[j]? = some (cells[j]'(by omega)) := List.getElem?_eq_getElem (by omega)
       refine ⟨cells[j]'(by omega), ?_, e3 j c _ hj hv⟩
       rw [← hsz, hcell j (by omega), hv]
      obtain ⟨rows, hrl, hrows⟩ := exists_list _ len each
      have hfit : Fit (.slice (s :: r)) (.list (s :: r).length rows) := by
       refine .slice _ _ (by rw [hrl]; omega) (fun q hq => ?_) (fun q hq => ?_)
       ·obtain ⟨i, hi⟩ := List.getElem?_of_mem hq
        exact (hrows i q hi).1
       ·obtain ⟨i, hi⟩ := List.getElem?_of_mem hq
        exact (hrows i q hi).2.1
      by_cases hlen : len = 0
      ·subst hlen
       have : rows = [] := by simpa using hrl
       subst this
       exact .one hfit (.nilList _ _ _) rfl
      ·have getR : ∀ i, i < len → ∃ q, rows[i]? = some q := fun i hi => ⟨rows[i], List.getElem?_eq_getElem (by omega)⟩
       have cellAt : ∀ i j, i < len → j < (s :: r).length → ∃ c v, (∃ q, rows[i]? = some q ∧ q[j]? = some c) ∧ w.cell? ((a.add (i * (s :: r).length)).add j) = some v ∧ Rep (memOf w) noJ c v ∧ v.oneCell' = true := by
        intro i j hi hj
        obtain ⟨q, hq⟩ := getR i hi
        obtain ⟨h1, _, h3⟩ := hrows i q hq
        have hqj : q[j]? = some (q[j]'(by omega)) := List.getElem?_eq_getElem (by omega)
        obtain ⟨v, hv1, hv2⟩ := h3 j _ hqj
        exact ⟨_, v, ⟨q, hq, hqj⟩, hv1, hv2⟩
       obtain ⟨c0, v0, _, hv0, _, _⟩ := cellAt 0 0 (by omega) (by simp)
       have ha0 : (a.add (0 * (s :: r).length)).add 0 = a := by simp [Addr.add]
       rw [ha0] at hv0
       obtain ⟨csb, eb, frb, hb, hsp, _⟩ := cell_of_block hv0
       have ha : a = ⟨a.block, a.off, none⟩ := by cases a; simp_all
       have hadd : ∀ k j, (a.add k).add j = ⟨a.block, a.off + (k + j), none⟩ := by
        intro k j
        rw [ha, addr_add, addr_add, Nat.add_assoc]
       have hcell : ∀ i j, i < len → j < (s :: r).length → ∃ c v, (∃ q, rows[i]? = some q ∧ q[j]? = some c) ∧ csb[a.off + (i * (s :: r).length + j)]? = some v ∧ Rep (memOf w) noJ c v ∧ v.oneCell' = true := by
        intro i j hi hj
        obtain ⟨c, v, h1, h2, h3⟩ := cellAt i j hi hj
        rw [hadd] at h2
        refine ⟨c, v, h1, ?_, h3⟩
        rw [cell_block hb] at h2
        exact h2
       have hsz0 : 0 < (s :: r).length := by simp
       rw [ha]
       refine .one hfit (.list (s :: r).length rows a.block a.off cap len csb eb frb ⟨hrl.symm, hlc⟩ hb (fun i q hq => (hrows i q hq).1) ?_ (fun j v hj hv => ?_) (fun i q j c v hq hc hv => ?_)) rfl
       ·obtain ⟨_, v, _, hv, _⟩ := hcell (len - 1) ((s :: r).length - 1) (by omega) (by omega)
        have := (Array.getElem?_eq_some_iff.1 hv).1
        have e1 : (len - 1) * (s :: r).length + (s :: r).length = len * (s :: r).length := by
         rw [← Nat.succ_mul]; congr 1; omega
        rw [hrl]
        omega
       ·rw [hrl] at hj
        have hi : j / (s :: r).length < len := (Nat.div_lt_iff_lt_mul hsz0).2 hj
        have hm : j % (s :: r).length < (s :: r).length := Nat.mod_lt _ hsz0
        obtain ⟨c, v', _, h2, _, h4⟩ := hcell _ _ hi hm
        have e1 : j / (s :: r).length * (s :: r).length + j % (s :: r).length = j := by rw [Nat.mul_comm]; exact Nat.div_add_mod _ _
        rw [e1, hv] at h2
        injection h2 with h2
        subst h2
        exact h4
       ·have hi := (List.getElem?_eq_some_iff.1 hq).1
        have hj := (List.getElem?_eq_some_iff.1 hc).1
        rw [(hrows i q hq).1] at hj
        obtain ⟨c', v', ⟨q', h1, h1'⟩, h2, h3, _⟩ := hcell i j (by omega) hj
        rw [hq] at h1
        injection h1 with h1
        subst h1
        rw [hc] at h1'
        injection h1' with h1'
        subst h1'
        rw [← Nat.add_assoc, hv] at h2
        injection h2 with h2
        subst h2
        exact h3
    ·cases hs
   ·cases hs
  ·rename_i fs ht
   split at hs
   ·rename_i q hq
    split at hs
    ·rename_i hce
     have hsz : P.cellsOf t = q.length := Nat.eq_of_beq_eq_true hce
     injection hs with hs; subst hs
     obtain ⟨xs, n, _, _, hl, hlen, hf⟩ := DataW.trod_struct ht h
     have := trod_okF d n fs.toList 0 cs q hq (by omega) (fun i f hi => by
      have h1 := hf i f (by simpa using hi)
      have hi' := (Array.getElem?_eq_some_iff.1 (show fs[i]? = some f by simpa using hi)).1
      have : xs[i]? = some (xs[i]'(by omega)) := List.getElem?_eq_getElem (by omega)
      exact ⟨_, h1.trans this⟩)
     rwa [List.drop_zero] at this
    ·cases hs
   ·cases hs
  ·rename_i n e ht
   split at hs
   ·rename_i r hr
    split at hs
    ·rename_i hce
     simp only [Bool.and_eq_true] at hce
     have hsz : P.cellsOf e = r.length := Nat.eq_of_beq_eq_true hce.1
     have hst : P.cellsOf t = n * r.length := Nat.eq_of_beq_eq_true hce.2
     injection hs with hs; subst hs
     obtain ⟨m, hl, hel⟩ := trod_arr ht h
     have := CellsOK.rep (w := w) (r := r) n 0 cs (by rw [hl, hst, Nat.zero_add]) fun i hi => by
      obtain ⟨y, hy⟩ := hel i hi
      rw [Nat.zero_add, ← hsz]
      exact trod_ok d m e _ y r hy hr
     rwa [List.drop_zero] at this
    ·cases hs
   ·cases hs
  ·cases hs
theorem trod_okF : ∀ (d n : Nat) (fs : List Field) (off : Nat) (cs : List Value) (q : List Sh), shpF P d off fs = some q → cs.length = off + q.length →
  (∀ (i : Nat) f, fs[i]? = some f → ∃ y, DataW.trod enc P w 0 (fun _ => true) true n f.type ((cs.drop f.offset).take (P.cellsOf f.type)) = some y) → CellsOK w q (cs.drop off)
 | 0, _, _, _, _, _, hs, _, _ => by simp [shpF] at hs
 | d + 1, n, [], off, cs, q, hs, hl, _ => by
  simp only [shpF, Option.some.injEq] at hs
  subst hs
  refine ⟨by simp at hl ⊢; omega, [], rfl, fun j s c h => by simp at h, fun j c v h => by simp at h⟩
 | d + 1, n, f :: fs, off, cs, q, hs, hl, hf => by
  simp only [shpF] at hs
  split at hs
  ·rename_i r q' h1 h2
   split at hs
   ·rename_i hb
    simp only [Bool.and_eq_true] at hb
    have e1 : f.offset = off := Nat.eq_of_beq_eq_true hb.1
    have e2 : P.cellsOf f.type = r.length := Nat.eq_of_beq_eq_true hb.2
    injection hs with hs; subst hs
    obtain ⟨y, hy⟩ := hf 0 f rfl
    rw [e1] at hy
    have k1 := trod_ok d n f.type _ y r hy h1
    have k2 := trod_okF d n fs (off + P.cellsOf f.type) cs q' h2 (by rw [e2]; simp at hl; omega) (fun i g hi => hf (i + 1) g (by simpa using hi))
    have := k1.append k2
    have e3 : (cs.drop off).take (P.cellsOf f.type) ++ cs.drop (off + P.cellsOf f.type) = cs.drop off := by
     rw [← List.drop_drop, List.take_append_drop]
    rwa [e3] at this
   ·cases hs
  ·cases hs
end
def shpArgs (P : Program) (d : Nat) : List TypeId → Option (List Sh)
 | [] => some []
 | t :: ts => match shp P d t, shpArgs P d ts with
  | some [s], some r => match P.underlying t with
   | some (.struct _) => none
   | some (.array _ _) => none
   | _ => some (s :: r)
  | _, _ => none
theorem trodAll_ok {d : Nat} : ∀ (ts : List TypeId) (row : List Sh) (vs : List Value) (ds : List (DataW H)) (ps : List MemPlace), DataW.TrodAll enc P w 0 (fun _ => true) true ts vs ds ps → shpArgs P d ts = some row →
  (∀ v ∈ vs, v.cells.toList = [v]) → CellsOK w row vs
 | [], row, [], _, _, _, hs, _ => by
  simp only [shpArgs, Option.some.injEq] at hs
  subst hs
  exact ⟨rfl, [], rfl, fun j s c h => by simp at h, fun j c v h => by simp at h⟩
 | t :: ts, row, v :: vs, d0 :: ds, ps, h, hs, hc => by
  obtain ⟨p, q, ⟨fuel, h1⟩, h2, _⟩ := h
  simp only [shpArgs] at hs
  split at hs
  ·rename_i s r e1 e2
   split at hs
   ·cases hs
   ·cases hs
   ·injection hs with hs; subst hs
    have k1 := trod_ok d fuel t _ _ _ h1 e1
    rw [hc v (List.mem_cons_self ..)] at k1
    have k2 := trodAll_ok ts r vs ds q h2 e2 fun u hu => hc u (List.mem_cons_of_mem _ hu)
    exact CellsOK.append k1 k2
  ·cases hs
theorem Below.same {W W' : World} (h : ∀ (β : Nat) o, W.heap[β]? = some o → W'.heap[β]? = some o) (ho : W'.os = W.os) (ht : W'.tape = W.tape) (hu : W'.output = W.output) (hz : W.heap.size ≤ W'.heap.size) : Below W.heap.size W W' :=
 ⟨ho, ht, hu, hz, fun k hk => by rw [Array.getElem?_eq_getElem hk]; exact h k _ (Array.getElem?_eq_getElem hk)⟩
end
end Go.Av
namespace Go.Av
open Go.RowKit Go.WideShapes Go.ChangeShapes Go.ChangeAt
section
variable {H : Type} {enc : TypeId × Value → H} {P : Program}
theorem arg_one {w : World} {base : Nat} {t : TypeId} {v : Value} {d : Nat} {s : Sh} (hs : shp P d t = some [s]) (hn : ∀ fs, P.underlying t ≠ some (.struct fs)) (hn2 : ∀ n e, P.underlying t ≠ some (.array n e)) (h : Value.okWide P w .any base t v) : v.cells.toList = [v] := by
 cases v with
 | agg cs =>
  exfalso
  cases d with
  | zero => simp [shp] at hs
  | succ d =>
   simp only [shp] at hs
   split at hs
   ·rename_i ht; simp [Value.okWide, ht, Cell.okWide, Cell.ok] at h
   ·rename_i k ht; simp [Value.okWide, ht, Cell.okWide, Cell.ok] at h
   ·rename_i ht; simp [Value.okWide, ht, Cell.okWide, Cell.ok] at h
   ·rename_i k ht; simp [Value.okWide, ht, Cell.okWide, Cell.ok] at h
   ·rename_i e ht; simp [Value.okWide, ht, Cell.okWide, Cell.ok] at h
   ·rename_i fs ht; exact hn fs ht
   ·rename_i n e ht; exact hn2 n e ht
   ·cases hs
 | _ => rfl
theorem args_one {w : World} {base d : Nat} : ∀ (ts : List TypeId) (row : List Sh) (vs : List Value), shpArgs P d ts = some row → (∀ (j : Nat) t v, ts[j]? = some t → vs[j]? = some v → Value.okWide P w .any base t v) → vs.length ≤ ts.length → ∀ v ∈ vs, v.cells.toList = [v]
 | [], _, [], _, _, _, v, hv => by cases hv
 | [], _, _ :: _, _, _, hl, _, _ => by simp at hl
 | t :: ts, row, [], _, _, _, v, hv => by cases hv
 | t :: ts, row, u :: vs, hs, h, hl, v, hv => by
  simp only [shpArgs] at hs
  split at hs
  ·rename_i s r e1 e2
   split at hs
   ·cases hs
   ·cases hs
   ·rename_i hne hne2
    rcases List.mem_cons.1 hv with e | e
    ·subst e
     exact arg_one e1 (fun fs hf => hne fs hf) (fun n e hf => hne2 n e hf) (h 0 t v rfl rfl)
    ·exact args_one ts r vs e2 (fun j t v a b => h (j + 1) t v (by simpa using a) (by simpa using b)) (by simpa using hl) v e
  ·cases hs
theorem trodAll_carry {w w' : World} : ∀ {ts : List TypeId} {vs : List Value} {ds : List (DataW H)} {ps : List MemPlace}, DataW.TrodAll enc P w 0 (fun _ => true) true ts vs ds ps → (∀ p ∈ ps, w.sameAt w' p) → DataW.TrodAll enc P w' 0 (fun _ => true) true ts vs ds ps
 | [], [], [], _, h, _ => h
 | t :: ts, v :: vs, d :: ds, ps, ⟨p, q, ⟨fuel, h1⟩, h2, e⟩, hs => by
  subst e
  exact ⟨p, q, ⟨fuel, DataW.trod_carry fuel t _ _ h1 fun x hx => hs x (List.mem_append_left _ hx)⟩, trodAll_carry h2 fun x hx => hs x (List.mem_append_right _ hx), rfl⟩
theorem post_of_grown {f : Func} {s : ChangeSpec} {W W' : World} {args : Array Value} {ds gs : List (DataW H)} {before : List MemPlace} {tb : TypeId}
  (hW : DataW.Whole enc P f.params.toList s.vars false W args.toList ds gs before) (hvars : s.vars = [])
  (hl : laidOutB P = true) (hm : mapsRowed P = true) (hz : ∀ t e, t < P.types.size → P.underlying t = some (.slice e) → 0 < P.cellsOf e) (hts : ∀ t ∈ f.params.toList, t < P.types.size)
  (hr : f.resultTypes = #[tb]) (htb : P.underlying tb = some .bool) (hres : (s.fn H (ds ++ gs)).results = [.lit (.bool true)]) (hargs : (s.fn H (ds ++ gs)).args = ds) (hv : (s.fn H (ds ++ gs)).vars = []) (hb : Below W.heap.size W W') :
  s.post enc P f false true false false W args (.bool true) W' := by
 have hlt : ∀ p ∈ before, p.block < W.heap.size := fun p hp => hW.lt p hp
 have hold : ∀ p ∈ before, (fun b => decide (b < W.heap.size)) p.block = true := fun p hp => by simpa using hlt p hp
 obtain ⟨p, q, h1, h2, e, hzf, hn⟩ := hW
 have hq : gs = [] ∧ q = [] := by
  rw [hvars] at h2
  cases gs with
  | nil => exact ⟨rfl, h2⟩
  | cons => exact h2.elim
 obtain ⟨rfl, rfl⟩ := hq
 rw [List.append_nil] at e
 subst e
 have hsame : ∀ p ∈ before, W.sameAt W' p := fun p hp => by
  cases p with
  | cell b off => exact hb.cell (p := ⟨b, off, none⟩) (hlt _ hp)
  | map b => exact hb.block b (hlt _ hp)
 have hc := trodAll_carry h1 hsame
 have hcs : ∀ sp : Nat → Bool, (∀ p ∈ before, sp p.block = true) → DataW.TrodAll enc P W' 0 sp true f.params.toList args.toList (s.fn H (ds ++ [])).args before := fun sp hsp => by
  rw [hargs]
  exact DataW.TrodAll.respare (kids_rows hl hm) hz hts hc hsp
 have hvs : ∀ sp : Nat → Bool, DataW.TrodVars enc P W' sp s.vars (s.fn H (ds ++ [])).vars [] := fun sp => by
  rw [hvars, hv]
  rfl
 have hrs : ∀ (b : Nat) (sp : Nat → Bool) (hd : Bool), DataW.TrodAll enc P W' b sp hd f.resultTypes.toList ((Value.bool true).resultList f.resultTypes.size) (s.fn H (ds ++ [])).results [] := fun b sp hd => by
  rw [hres, hr]
  exact trodAll_mk1 (shut_bool htb true)
 refine ⟨ds, [], before, [], before, [], ⟨before, [], h1, h2, by simp, hzf, hn⟩, hrs _ _ _, hcs _ hold, hvs _, World.keptBut_mono (fun p hp => ⟨hp, .inr (.inl hp)⟩) (hb.frame (· ∈ before)), fun _ => ?_⟩
 refine ⟨ok_one hr rfl (okWide_bool_mk htb true), _, _, ([] ++ before) ++ [], ⟨[] ++ before, [], trodAll_append (hcs _ (fun _ _ => rfl)) (hrs _ _ _), hvs _, rfl, ?_, ?_⟩, ?_⟩
 ·intro b off hp
  have hin : MemPlace.cell b off ∈ before := by simpa using hp
  rw [hb.frozen (hlt _ hin)]
  exact hzf b off hin
 ·intro ha
  cases ha
 ·intro p hp _
  simpa using hp
theorem law_calls {f : FuncId} {fn : Func} {s : ChangeSpec} {row : List Sh} {d : Nat} {tb : TypeId} (hs : shpArgs P d fn.params.toList = some row) (hvars : s.vars = [])
  (hl : laidOutB P = true) (hm : mapsRowed P = true) (hz : ∀ t e, t < P.types.size → P.underlying t = some (.slice e) → 0 < P.cellsOf e) (hts : ∀ t ∈ fn.params.toList, t < P.types.size)
  (hr : fn.resultTypes = #[tb]) (htb : P.underlying tb = some .bool)
  (hspec : ∀ ds : List (DataW H), ds.length = fn.params.size → (s.fn H ds).results = [.lit (.bool true)] ∧ (s.fn H ds).args = ds ∧ (s.fn H ds).vars = [])
  (hc : ∀ avs : List AV, avs.length = row.length → (∀ (j : Nat) t c, row[j]? = some t → avs[j]? = some c → Fit t c) → CallOK P f avs [] fun res _ => res = .sc (.bool true))
  {W : World} {base : Nat} {args : Array Value} {ds gs : List (DataW H)} {before : List MemPlace}
  (hval : ∀ (j : Nat) t v, fn.params[j]? = some t → args[j]? = some v → Value.okWide P W .any base t v) (hW : DataW.Whole enc P fn.params.toList s.vars false W args.toList ds gs before) :
  Calls P f args W fun e W' => ∃ v, e = .returned v ∧ s.post enc P fn false true false false W args v W' := by
 have hW0 := hW
 obtain ⟨p, q, h1, h2, e, hzf, hn⟩ := hW
 obtain ⟨l1, l2⟩ := trodAll_length h1
 have hgs : gs = [] := by
  rw [hvars] at h2
  cases gs with
  | nil => rfl
  | cons => exact h2.elim
 subst hgs
 have hone := args_one fn.params.toList row args.toList hs (fun j t v a b => hval j t v (by simpa using a) (by simpa using b)) (by omega)
 obtain ⟨hlen, avs, e1, e2, e3⟩ := trodAll_ok fn.params.toList row args.toList ds p h1 hs hone
 refine ((hc avs e1 e2).2 (memOf W) noJ W args (by simp at hlen; omega) (fun j c v a b => (e3 j c v a (by simpa using b)).1) (noJ_rep _ _) (memOf_rep W)).mono ?_
 rintro e W' ⟨v, M', J', res, H', rfl, hst, hrep, rfl⟩
 cases hrep
 obtain ⟨r1, r2, r3⟩ := hspec ds (by simp at l1 l2 ⊢; omega)
 refine ⟨.bool true, rfl, post_of_grown hW0 hvars hl hm hz hts hr htb (by rw [List.append_nil]; exact r1) (by rw [List.append_nil]; exact r2) (by rw [List.append_nil]; exact r3) ?_⟩
 exact Below.same (fun β o h => hst.mrep β o (hst.m β o h)) hst.os hst.tape hst.output hst.size
end
end Go.Av
namespace Go.Av
theorem open_u8 {a : AV} (h : Fit (.int .u8) a) : ∃ n : Nat, a = .sc (.int .u8 n) ∧ n ≤ 255 := by
 cases h with
 | int k n h =>
  have e1 : IntKind.u8.min = 0 := rfl
  have e2 : IntKind.u8.max = 255 := rfl
  simp only [Lit.wf, Bool.and_eq_true, decide_eq_true_eq, e1, e2] at h
  obtain ⟨m, rfl⟩ := Int.eq_ofNat_of_zero_le h.1
  exact ⟨m, rfl, by omega⟩
theorem open_rows {α : Type} {row : List Sh} {a : AV} (h : Fit (.slice row) a) (f : α → List AV) (ok : α → Prop) (each : ∀ r : List AV, r.length = row.length → (∀ (j : Nat) s c, row[j]? = some s → r[j]? = some c → Fit s c) → ∃ x, r = f x ∧ ok x) :
  ∃ l : List α, a = .list row.length (l.map f) ∧ l.length ≤ maxLen ∧ ∀ x ∈ l, ok x := by
 cases h with
 | slice _ rows hl hr h =>
  have key : ∀ rows : List (List AV), (∀ r ∈ rows, r.length = row.length) → (∀ r ∈ rows, ∀ (j : Nat) s c, row[j]? = some s → r[j]? = some c → Fit s c) → ∃ l : List α, rows = l.map f ∧ ∀ x ∈ l, ok x := by
   intro rows
   induction rows with
   | nil => exact fun _ _ => ⟨[], rfl, fun x hx => by cases hx⟩
   | cons r rows ih =>
    intro hr h
    obtain ⟨x, hx, hok⟩ := each r (hr r (List.mem_cons_self ..)) (h r (List.mem_cons_self ..))
    obtain ⟨l, hl, hoks⟩ := ih (fun q hq => hr q (List.mem_cons_of_mem _ hq)) (fun q hq => h q (List.mem_cons_of_mem _ hq))
    refine ⟨x :: l, by rw [hx, hl]; rfl, fun y hy => ?_⟩
    rcases List.mem_cons.1 hy with e | e
    ·subst e; exact hok
    ·exact hoks y e
  obtain ⟨l, e, hok⟩ := key rows hr h
  subst e
  exact ⟨l, rfl, by simpa using hl, hok⟩
end Go.Av
namespace Go.Av
def lowS (k g i : Nat) : Option (Nat × Nat) := match Nat.blt g k && Nat.beq i 0 with
 | true => some (g, i)
 | false => none
theorem lowS_spec {k g i : Nat} {p : Nat × Nat} (h : lowS k g i = some p) : g < k ∧ i = 0 ∧ p = (g, i) := by
 unfold lowS at h
 split at h
 ·rename_i e
  simp only [Bool.and_eq_true] at e
  injection h with h
  exact ⟨Nat.le_of_ble_eq_true e.1, Nat.eq_of_beq_eq_true e.2, h.symm⟩
 ·cases h
theorem lowS_lt {k g : Nat} (h : g < k) : lowS k g 0 = some (g, 0) := by
 unfold lowS
 have : Nat.blt g k = true := by simpa [Nat.blt_eq] using h
 rw [this]
 rfl
def heap1 (xs : List Blk) : Heap := xs.map fun x => [x]
def LoB (k : Nat) (x : Blk) : Prop := x.live = true ∧ RenB (lowS k) x x
theorem LoB.pure {k : Nat} {x : Blk} (h : PureB x) : LoB k x := ⟨h.live, h.ren⟩
theorem hget_heap1 {xs : List Blk} {X : Heap} {g i : Nat} (hg : g < xs.length) : hget (heap1 xs ++ X) g i = if i = 0 then xs[g]? else none := by
 unfold hget heap1
 rw [List.getElem?_append_left (by simpa using hg), List.getElem?_map, List.getElem?_eq_getElem hg]
 simp only [Option.map_some]
 cases i with
 | zero => rfl
 | succ i => simp
theorem hget_heap1_ge {xs : List Blk} {X : Heap} {g i : Nat} (hg : xs.length ≤ g) : hget (heap1 xs ++ X) g i = hget X (g - xs.length) i := by
 unfold hget heap1
 rw [List.getElem?_append_right (by simpa using hg)]
 simp
theorem CallOK.heads {P : Program} {f : FuncId} {args : List AV} {xs : List Blk} {X : Heap} {k : Nat} (hk : xs.length = k) {R : AV → List Blk → Prop}
  (h : CallOK P f args (heap1 xs) fun res H' => ∃ ys, ys.length = k ∧ H' = heap1 ys ∧ Ren (lowS k) res res ∧ (∀ y ∈ ys, LoB k y) ∧ R res ys) (hx : ∀ x ∈ xs, LoB k x) (hargs : RenArgs (lowS k) args args) :
  CallOK P f args (heap1 xs ++ X) fun res H' => ∃ ys, ys.length = k ∧ H' = heap1 ys ++ X ∧ (∀ y ∈ ys, LoB k y) ∧ R res ys := by
 have hh : ∀ (zs : List Blk) g i x, zs.length = k → hget (heap1 zs) g i = some x → g < k ∧ i = 0 ∧ zs[g]? = some x := by
  intro zs g i x hz e
  have e' : hget (heap1 zs ++ []) g i = some x := by rw [List.append_nil]; exact e
  rcases Nat.lt_or_ge g k with hg | hg
  ·rw [hget_heap1 (by omega)] at e'
   split at e'
   ·rename_i hi; exact ⟨hg, hi, e'⟩
   ·cases e'
  ·rw [hget_heap1_ge (by omega)] at e'
   simp [hget] at e'
 have hh2 : ∀ (zs : List Blk) g, zs.length = k → g < k → hget (heap1 zs) g 0 = zs[g]? := by
  intro zs g hz hg
  have := hget_heap1 (X := []) (i := 0) (show g < zs.length by omega)
  rw [List.append_nil, if_pos rfl] at this
  exact this
 refine CallOK.via (lowS k) (lowS k) h rfl hargs.spec.2 (fun g i p e => ?_) (fun g i p e => ?_) (fun g i x e => ?_) (fun g i p e => ?_) fun res H' hr => ?_
 ·obtain ⟨h1, h2, rfl⟩ := lowS_spec e
  exact e
 ·obtain ⟨h1, h2, rfl⟩ := lowS_spec e
  exact e
 ·obtain ⟨h1, rfl, h3⟩ := hh xs g i x hk e
  obtain ⟨q1, q2⟩ := hx x (List.mem_of_getElem? h3)
  exact ⟨q1, (g, 0), x, lowS_lt h1, by rw [hget_heap1 (by omega), if_pos rfl, h3], q2⟩
 ·obtain ⟨h1, rfl, rfl⟩ := lowS_spec e
  rw [hh2 xs g hk h1, List.getElem?_eq_getElem (by omega)]
  rfl
 ·obtain ⟨ys, hy, rfl, h1, h2, h3⟩ := hr
  refine ⟨fun g i e => ?_, res, heap1 ys ++ X, h1, fun g i x hx' hxl => ?_, fun g i e => ?_, ys, hy, rfl, h2, h3⟩
  ·obtain ⟨x, hx'⟩ := Option.isSome_iff_exists.1 e
   obtain ⟨p1, rfl, _⟩ := hh ys g i x hy hx'
   rw [hh2 xs g hk p1, List.getElem?_eq_getElem (by omega)]
   rfl
  ·rcases Nat.lt_or_ge g k with hg | hg
   ·rw [hget_heap1 (by omega)] at hx'
    split at hx'
    ·rename_i hi
     subst hi
     left
     exact ⟨(g, 0), x, lowS_lt hg, by rw [hh2 ys g hy hg, hx'], (h2 x (List.mem_of_getElem? hx')).2⟩
    ·cases hx'
   ·right
    refine ⟨?_, ?_⟩
    ·cases e : lowS k g i with
     | none => rfl
     | some p => exact absurd (lowS_spec e).1 (by omega)
    ·rw [hget_heap1_ge (by omega)] at hx' ⊢
     rw [hk, ← hy]
     exact hx'
  ·rcases Nat.lt_or_ge g k with hg | hg
   ·rw [hget_heap1 (by omega)] at e ⊢
    split at e
    ·rename_i hi
     rw [if_pos hi, List.getElem?_eq_getElem (by omega)]
     rfl
    ·cases e
   ·rw [hget_heap1_ge (by omega)] at e ⊢
    rw [hy, ← hk]
    exact e
end Go.Av
