import Derived.Test.YtbpmbofinoinmaaAvK
import Derived.Test.YtbpmbofinoinmaaAvM
namespace Go.Av

/-! The layer run: regions, code, calls. -/

noncomputable def FT.getK (T : FT) : Nat → AV :=
  FT.rec (motive := fun _ => Nat → AV) (fun _ => .undef)
    (fun v _ _ gl gr n => Nat.rec (motive := fun _ => AV) v (fun m _ => Bool.rec (motive := fun _ => AV) (gr (Nat.div m 2)) (gl (Nat.div m 2)) (Nat.beq (Nat.mod m 2) 0)) n) T

theorem FT.getK_eq (T : FT) : ∀ n, T.getK n = T.get n := by
  induction T with
  | leaf => intro n; cases n <;> rfl
  | node v l r ihl ihr =>
    intro n
    cases n with
    | zero => rfl
    | succ m =>
      show Bool.rec (motive := fun _ => AV) (r.getK (Nat.div m 2)) (l.getK (Nat.div m 2)) (Nat.beq (Nat.mod m 2) 0) = match Nat.beq (Nat.mod m 2) 0 with | true => l.get (Nat.div m 2) | false => r.get (Nat.div m 2)
      cases Nat.beq (Nat.mod m 2) 0 with
      | true => exact ihl _
      | false => exact ihr _

def FT.lO (v : AV) (r : FT) : Option FT → Option FT
  | some l => some (.node v l r)
  | none => none
def FT.rO (v : AV) (l : FT) : Option FT → Option FT
  | some r => some (.node v l r)
  | none => none

noncomputable def FT.putK (T : FT) : Nat → AV → Option FT :=
  FT.rec (motive := fun _ => Nat → AV → Option FT) (fun _ _ => none)
    (fun v l r pl pr n x => Nat.rec (motive := fun _ => Option FT) (some (.node x l r)) (fun m _ => Bool.rec (motive := fun _ => Option FT) (FT.rO v l (pr (Nat.div m 2) x)) (FT.lO v r (pl (Nat.div m 2) x)) (Nat.beq (Nat.mod m 2) 0)) n) T

theorem FT.putK_eq (T : FT) : ∀ n x, T.putK n x = T.put n x := by
  induction T with
  | leaf => intro n x; rfl
  | node v l r ihl ihr =>
    intro n x
    cases n with
    | zero => rfl
    | succ m =>
      show Bool.rec (motive := fun _ => Option FT) (FT.rO v l (r.putK (Nat.div m 2) x)) (FT.lO v r (l.putK (Nat.div m 2) x)) (Nat.beq (Nat.mod m 2) 0) = _
      simp only [FT.put]
      cases Nat.beq (Nat.mod m 2) 0 with
      | true =>
        show FT.lO v r (l.putK (Nat.div m 2) x) = _
        rw [ihl]
        simp only
        cases l.put (Nat.div m 2) x <;> rfl
      | false =>
        show FT.rO v l (r.putK (Nat.div m 2) x) = _
        rw [ihr]
        simp only
        cases r.put (Nat.div m 2) x <;> rfl

noncomputable def FT.evK (T : FT) (x : Operand) : AV :=
  match x with
  | .tmp t => T.getK t
  | .const v => .sc v
  | .global g => .sc (.pointer (some ⟨g, 0, none⟩))
  | .func f => .sc (.func (.func f) #[] #[])

theorem AgT.evK {fr : Fr} {T : FT} (h : AgT fr T) : Av.ev fr = T.evK := by
  funext x
  cases x with
  | tmp t => exact (h t).trans (T.getK_eq t).symm
  | _ => rfl

noncomputable def mapK (T : FT) (l : List Operand) : List AV := List.rec (motive := fun _ => List AV) [] (fun x _ ih => T.evK x :: ih) l

theorem AgT.mapK {fr : Fr} {T : FT} (h : AgT fr T) (l : List Operand) : Av.avals fr l = Av.mapK T l := by
  unfold Av.avals
  induction l with
  | nil => rfl
  | cons x l ih =>
    show Av.ev fr x :: List.map (Av.ev fr) l = T.evK x :: Av.mapK T l
    rw [ih, h.evK]

/-! What only reads hangs on no order. -/

def wrOp : IOp → Bool
  | .alloc _ => true
  | .box _ => true
  | .buildSlice _ _ _ _ => true
  | .makeMap => true
  | .makeSlice _ _ _ _ => true
  | .store _ _ _ => true
  | .mapUpdate _ _ _ _ => true
  | .append _ _ _ _ => true
  | _ => false

def wrAct : IAct → Bool
  | .op o => wrOp o
  | _ => false

theorem wrOp_dwr {o : IOp} (h : wrOp o = false) (e : Operand → AV) (g i : Nat) : dwrE e g i o = [] := by
  cases o <;> first | rfl | cases h

def statI (a b : IOper) : Bool := dstOut a.dst b.tmps && (dstOut b.dst a.tmps && dstDiff a.dst b.dst)

def pairsB (af : List (List Nat)) (n s b : Nat) (y : IOper) : Nat → List IOper → Option (List (Nat × Nat))
  | _, [] => some []
  | a, x :: l => match pairsB af n s b y (a + 1) l with
    | some ps => match Nat.ble b a || befB af n (s + a) (s + b) with
      | true => some ps
      | false => match statI x y with
        | true => match wrAct x.act || wrAct y.act with
          | true => some ((a, b) :: ps)
          | false => some ps
        | false => none
    | none => none

def pairsAll (af : List (List Nat)) (n s : Nat) (xs : List IOper) : Nat → List IOper → Option (List (Nat × Nat))
  | _, [] => some []
  | b, y :: l => match pairsB af n s b y 0 xs, pairsAll af n s xs (b + 1) l with
    | some ps, some qs => some (ps ++ qs)
    | _, _ => none

/-- The pairs of operations that no edge orders and of which one may write; none: their slots clash. The stretch begins with the operation s. -/
def dynP (af : List (List Nat)) (s : Nat) (xs : List IOper) : Option (List (Nat × Nat)) := pairsAll af af.length s xs 0 xs

noncomputable def apart (ra rb : RRec) : Bool := disj ra.wr (rb.rd ++ rb.wr) && disj rb.wr ra.rd

noncomputable def pairOK (R : List RRec) (p : Nat × Nat) : Bool :=
  match lgetK R p.1 with
  | some ra => match lgetK R p.2 with
    | some rb => apart ra rb
    | none => false
  | none => false

noncomputable def allK (f : Nat × Nat → Bool) (l : List (Nat × Nat)) : Bool := List.rec (motive := fun _ => Bool) true (fun p _ ih => Bool.rec (motive := fun _ => Bool) false ih (f p)) l

theorem allK_eq (f : Nat × Nat → Bool) (l : List (Nat × Nat)) (h : allK f l = true) : ∀ p ∈ l, f p = true := by
  induction l with
  | nil => intro p hp; cases hp
  | cons q l ih =>
    replace h : Bool.rec (motive := fun _ => Bool) false (allK f l) (f q) = true := h
    cases e : f q with
    | false => rw [e] at h; cases h
    | true =>
      rw [e] at h
      intro p hp
      cases hp with
      | head => exact e
      | tail _ hp => exact ih h p hp

noncomputable def chkO (R : List RRec) : Option (List (Nat × Nat)) → Bool
  | some ps => allK (pairOK R) ps
  | none => false

noncomputable def chkK (af : List (List Nat)) (s : Nat) (xs : List IOper) (R : List RRec) : Bool := chkO R (dynP af s xs)

theorem pairsB_spec {af : List (List Nat)} {n s b : Nat} {y : IOper} : ∀ (l : List IOper) (a0 : Nat) ps, pairsB af n s b y a0 l = some ps → ∀ (j : Nat) x, l[j]? = some x →
    b ≤ a0 + j ∨ befB af n (s + (a0 + j)) (s + b) = true ∨ (statI x y = true ∧ ((wrAct x.act || wrAct y.act) = false ∨ (a0 + j, b) ∈ ps))
  | [], _, ps, _, j, x, hx => by simp at hx
  | z :: l, a0, ps, h, j, x, hx => by
    simp only [pairsB] at h
    split at h
    · rename_i qs hq
      have ih := pairsB_spec l (a0 + 1) qs hq
      have hsub : ∀ p ∈ qs, p ∈ ps := by
        split at h
        · injection h with h; subst h; exact fun p hp => hp
        · split at h
          · split at h
            · injection h with h; subst h; exact fun p hp => List.mem_cons_of_mem _ hp
            · injection h with h; subst h; exact fun p hp => hp
          · cases h
      cases j with
      | zero =>
        simp at hx
        subst hx
        rw [Nat.add_zero]
        split at h
        · rename_i e
          simp only [Bool.or_eq_true] at e
          rcases e with e | e
          · exact .inl (Nat.le_of_ble_eq_true e)
          · exact .inr (.inl e)
        · split at h
          · rename_i e
            refine .inr (.inr ⟨e, ?_⟩)
            split at h
            · injection h with h; subst h; exact .inr (List.mem_cons_self ..)
            · rename_i e2; exact .inl e2
          · cases h
      | succ j =>
        have := ih j x (by simpa using hx)
        rw [show a0 + 1 + j = a0 + (j + 1) by omega] at this
        rcases this with h1 | h1 | ⟨h1, h2 | h2⟩
        · exact .inl h1
        · exact .inr (.inl h1)
        · exact .inr (.inr ⟨h1, .inl h2⟩)
        · exact .inr (.inr ⟨h1, .inr (hsub _ h2)⟩)
    · cases h

theorem pairsAll_spec {af : List (List Nat)} {n s : Nat} {xs : List IOper} : ∀ (l : List IOper) (b0 : Nat) ps, pairsAll af n s xs b0 l = some ps → ∀ (j : Nat) y, l[j]? = some y →
    ∃ qs, pairsB af n s (b0 + j) y 0 xs = some qs ∧ ∀ p ∈ qs, p ∈ ps
  | [], _, ps, _, j, x, hx => by simp at hx
  | z :: l, b0, ps, h, j, y, hy => by
    simp only [pairsAll] at h
    split at h
    · rename_i p1 p2 h1 h2
      injection h with h
      subst h
      cases j with
      | zero =>
        simp at hy
        subst hy
        exact ⟨p1, h1, fun p hp => List.mem_append_left _ hp⟩
      | succ j =>
        obtain ⟨qs, h3, h4⟩ := pairsAll_spec l (b0 + 1) p2 h2 j y (by simpa using hy)
        rw [show b0 + 1 + j = b0 + (j + 1) by omega] at h3
        exact ⟨qs, h3, fun p hp => List.mem_append_right _ (h4 p hp)⟩
    · cases h

theorem chkB_of {af : List (List Nat)} {R : List RRec} {b : Nat} {rb : RRec} : ∀ (l : List RRec) (a0 : Nat), (∀ (j : Nat) ra, l[j]? = some ra → b ≤ a0 + j ∨ befB af af.length (a0 + j) b = true ∨ indep ra rb = true) → chkB af R b rb a0 l = true
  | [], _, _ => rfl
  | r :: l, a0, h => by
    simp only [chkB, Bool.and_eq_true, Bool.or_eq_true]
    refine ⟨?_, chkB_of l (a0 + 1) fun j ra hj => ?_⟩
    · rcases h 0 r rfl with h1 | h1 | h1
      · exact .inl (by simpa using h1)
      · exact .inr (.inl h1)
      · exact .inr (.inr h1)
    · have := h (j + 1) ra (by simpa using hj)
      rwa [show a0 + (j + 1) = a0 + 1 + j by omega] at this

theorem chkAll_of {af : List (List Nat)} {R : List RRec} : ∀ (l : List RRec) (b0 : Nat), (∀ (j : Nat) rb, l[j]? = some rb → chkB af R (b0 + j) rb 0 R = true) → chkAll af R b0 l = true
  | [], _, _ => rfl
  | r :: l, b0, h => by
    simp only [chkAll, Bool.and_eq_true]
    refine ⟨h 0 r rfl, chkAll_of l (b0 + 1) fun j rb hj => ?_⟩
    have := h (j + 1) rb (by simpa using hj)
    rwa [show b0 + (j + 1) = b0 + 1 + j by omega] at this

theorem chkK_sound {af : List (List Nat)} {s : Nat} {xs : List IOper} {R : List RRec} (h : chkK af s xs R = true) (hx : R.map (·.x) = xs) (hw : ∀ r ∈ R, wrAct r.x.act = false → r.wr = []) : SegOK af s R := by
  unfold chkK chkO at h
  split at h
  · rename_i ps hps
    intro a b ra rb hab ha hb
    have hyb : xs[b]? = some rb.x := by rw [← hx, List.getElem?_map, hb]; rfl
    have hya : xs[a]? = some ra.x := by rw [← hx, List.getElem?_map, ha]; rfl
    obtain ⟨qs, h1, h2⟩ := pairsAll_spec xs 0 ps hps b _ hyb
    rw [Nat.zero_add] at h1
    have h3 := pairsB_spec xs 0 qs h1 a _ hya
    rw [Nat.zero_add] at h3
    rcases h3 with h3 | h3 | ⟨h3, h4⟩
    · omega
    · exact .inl h3
    · refine .inr ?_
      simp only [statI, Bool.and_eq_true] at h3
      have hd : disj ra.wr (rb.rd ++ rb.wr) = true ∧ disj rb.wr ra.rd = true := by
        rcases h4 with h4 | h4
        · simp only [Bool.or_eq_false_iff] at h4
          rw [hw ra (List.mem_of_getElem? ha) h4.1, hw rb (List.mem_of_getElem? hb) h4.2]
          exact ⟨rfl, rfl⟩
        · have := allK_eq _ _ h _ (h2 _ h4)
          unfold pairOK at this
          simp only [lgetK_eq, ha, hb, apart, Bool.and_eq_true] at this
          exact this
      simp only [indep, h3.1, h3.2.1, h3.2.2, hd.1, hd.2, Bool.and_self]
  · cases h

theorem SegOK.all {af : List (List Nat)} {R : List RRec} (h : SegOK af 0 R) : chkAll af R 0 R = true := by
  refine chkAll_of R 0 fun b rb hb => ?_
  rw [Nat.zero_add]
  refine chkB_of R 0 fun a ra ha => ?_
  rw [Nat.zero_add]
  rcases Nat.lt_or_ge a b with hab | hab
  · have := h a b ra rb hab ha hb
    rw [Nat.zero_add, Nat.zero_add] at this
    exact .inr this
  · exact .inl hab

def isCall : IAct → Bool
  | .op _ => false
  | _ => true

/-- The first call, and what stands ahead of it and behind it. -/
def splitCall : List IOper → Option (List IOper × IOper × List IOper)
  | [] => none
  | x :: l => match isCall x.act with
    | true => some ([], x, l)
    | false => match splitCall l with
      | some (a, y, b) => some (x :: a, y, b)
      | none => none

theorem splitCall_eq : ∀ {zs xs ys : List IOper} {y : IOper}, splitCall zs = some (xs, y, ys) → zs = xs ++ y :: ys
  | [], _, _, _, h => by cases h
  | x :: l, xs, ys, y, h => by
    simp only [splitCall] at h
    split at h
    · injection h with h
      injection h with h1 h2
      injection h2 with h2 h3
      subst h1; subst h2; subst h3
      rfl
    · split at h
      · rename_i a y' b e
        injection h with h
        injection h with h1 h2
        injection h2 with h2 h3
        subst h1; subst h2; subst h3
        rw [splitCall_eq e]
        rfl
      · cases h

/-- Do all others stand before or behind the operation q? -/
def midS (af : List (List Nat)) (q n : Nat) : Bool := lowB 0 af && ((List.range q).all (fun j => befB af af.length j q) && (List.range n).all fun j => befB af af.length q (q + 1 + j))

/-! Regions. -/

noncomputable def putThen (d : Option Nat) (v : AV) (T : FT) (H : Heap) (ih : FT → Heap → RR) : RR :=
  match d with
  | none => ih T H
  | some d => match T.putK d v with
    | some T' => ih T' H
    | none => .stuck

noncomputable def opThen (d : Option Nat) (T : FT) (ih : FT → Heap → RR) : SR → RR
  | .yes v H => putThen d v T H ih
  | .no => .stuck

noncomputable def callThen (d : Option Nat) (T : FT) (ih : FT → Heap → RR) : Option (AV × Heap) → RR
  | some (v, H) => putThen d v T H ih
  | none => .stuck

noncomputable def cloThen (call : Caller) (d : Option Nat) (args : List AV) (T : FT) (H : Heap) (ih : FT → Heap → RR) (f : AV) : RR :=
  match f with
  | .clo (.func g) fs cs => callThen d T ih (call g (fs ++ args ++ cs) H)
  | _ => .stuck

noncomputable def regAct (call : Caller) (k : Nat) (d : Option Nat) (ih : FT → Heap → RR) (a : IAct) : FT → Heap → RR :=
  match a with
  | .op o => fun T H => opThen d T ih (dstepK o T.evK (lenK H) 0 H)
  | .call f args => fun T H => Bool.rec (motive := fun _ => RR) .stuck (callThen d T ih (call f (mapK T args) H)) (Nat.ble k (lenK H))
  | .callV f args => fun T H => Bool.rec (motive := fun _ => RR) .stuck (cloThen call d (mapK T args) T H ih (T.evK f)) (Nat.ble k (lenK H))

noncomputable def gdSel (b : Bool) (yes no bad : RR) (v : AV) : RR :=
  match v with
  | .sc (.bool true) => Bool.rec (motive := fun _ => RR) no yes b
  | .sc (.bool false) => Bool.rec (motive := fun _ => RR) yes no b
  | .sc (.tuple _) => no
  | _ => bad

noncomputable def regGd (call : Caller) (k : Nat) (d : Option Nat) (a : IAct) (ih : FT → Heap → RR) (gd : Option (Nat × Bool)) : FT → Heap → RR :=
  match gd with
  | none => regAct call k d ih a
  | some (t, b) => fun T H => gdSel b (regAct call k d ih a T H) (putThen d (.sc Go.undef) T H ih) .stuck (T.getK t)

noncomputable def regStep (call : Caller) (k : Nat) (ih : FT → Heap → RR) (x : IOper) : FT → Heap → RR :=
  match x with
  | ⟨d, gd, a⟩ => regGd call k d a ih gd

noncomputable def regK (call : Caller) (k : Nat) (xs : List IOper) : FT → Heap → RR :=
  List.rec (motive := fun _ => FT → Heap → RR) (fun T H => .out T H) (fun x _ ih => regStep call k ih x) xs

/-- A caller whose answers hold. -/
def CallerOK (P : Program) (call : Caller) : Prop := ∀ f args H v H', call f args H = some (v, H') → CallOK P f args H fun r H2 => r = v ∧ H2 = H'

theorem AgT.putK {fr : Fr} {T T' : FT} {d : Nat} {v : AV} (h : AgT fr T) (hp : T.putK d v = some T') : AgT (fr.put (some d) v) T' := by
  rw [FT.putK_eq] at hp
  exact AgT.put (d := some d) h hp

theorem putThen_out {d : Option Nat} {v : AV} {T : FT} {H : Heap} {ih : FT → Heap → RR} {T' : FT} {H' : Heap} (h : putThen d v T H ih = .out T' H') {fr : Fr} (ha : AgT fr T) : ∃ T1, AgT (fr.put d v) T1 ∧ ih T1 H = .out T' H' := by
  cases d with
  | none => exact ⟨T, ha, h⟩
  | some d =>
    simp only [putThen] at h
    split at h
    · rename_i T1 e
      exact ⟨T1, ha.putK e, h⟩
    · cases h

theorem gok_evK {fr : Fr} {T : FT} (h : AgT fr T) {t : Nat} {b : Bool} {yes no : RR} {T' : FT} {H' : Heap} (hs : gdSel b yes no .stuck (T.getK t) = .out T' H') :
    (gok fr (some (t, b)) = some true ∧ yes = .out T' H') ∨ (gok fr (some (t, b)) = some false ∧ no = .out T' H') := by
  have e : T.getK t = fr.get t := (T.getK_eq t).trans (h t).symm
  rw [e] at hs
  unfold gdSel at hs
  simp only [gok]
  split at hs
  · rename_i e1
    rw [e1]
    cases b with
    | true => exact .inl ⟨rfl, hs⟩
    | false => exact .inr ⟨rfl, hs⟩
  · rename_i e1
    rw [e1]
    cases b with
    | true => exact .inr ⟨rfl, hs⟩
    | false => exact .inl ⟨rfl, hs⟩
  · rename_i e1
    rw [e1]
    exact .inr ⟨rfl, hs⟩
  · cases hs

section
variable {P : Program} {N k : Nat} {call : Caller}

theorem regAct_sound (hcall : CallerOK P call) {xs : List IOper} {d : Option Nat} {gd : Option (Nat × Bool)} {a : IAct} {ih : FT → Heap → RR} {K : Fr → Heap → Prop} {T' : FT} {H' : Heap}
    (hih : ∀ T H fr, ih T H = .out T' H' → AgT fr T → Reg P N k xs fr H K) {T : FT} {H : Heap} {fr : Fr} (hg : gok fr gd = some true) (ha : AgT fr T) (h : regAct call k d ih a T H = .out T' H') : Reg P N k (⟨d, gd, a⟩ :: xs) fr H K := by
  cases a with
  | op o =>
    simp only [regAct] at h
    unfold opThen at h
    split at h
    · rename_i v H1 e
      rw [← ha.evK, lenK_eq] at e
      obtain ⟨T1, h1, h2⟩ := putThen_out h ha
      exact Reg.op (x := ⟨d, gd, .op o⟩) hg rfl (dstepK_sound e) (hih T1 H1 _ h2 h1)
    · cases h
  | call f args =>
    simp only [regAct] at h
    cases hb : Nat.ble k (lenK H) with
    | false => rw [hb] at h; cases h
    | true =>
      rw [hb] at h
      have hk : k ≤ H.length := by rw [← lenK_eq]; exact Nat.le_of_ble_eq_true hb
      replace h : callThen d T ih (call f (mapK T args) H) = .out T' H' := h
      unfold callThen at h
      split at h
      · rename_i v H1 e
        obtain ⟨T1, h1, h2⟩ := putThen_out h ha
        refine Reg.call (x := ⟨d, gd, .call f args⟩) hk hg rfl ?_
        rw [ha.mapK]
        refine (hcall f _ H v H1 e).mono ?_
        rintro res H2 ⟨rfl, rfl⟩
        exact hih T1 _ _ h2 h1
      · cases h
  | callV f args =>
    simp only [regAct] at h
    cases hb : Nat.ble k (lenK H) with
    | false => rw [hb] at h; cases h
    | true =>
      rw [hb] at h
      have hk : k ≤ H.length := by rw [← lenK_eq]; exact Nat.le_of_ble_eq_true hb
      replace h : cloThen call d (mapK T args) T H ih (T.evK f) = .out T' H' := h
      unfold cloThen at h
      split at h
      · rename_i g fs cs ef
        unfold callThen at h
        split at h
        · rename_i v H1 e
          obtain ⟨T1, h1, h2⟩ := putThen_out h ha
          refine Reg.callV (x := ⟨d, gd, .callV f args⟩) (f := f) (g := g) (fs := fs) (cs := cs) hk hg rfl (by rw [ha.evK]; exact ef) ?_
          rw [ha.mapK]
          refine (hcall g _ H v H1 e).mono ?_
          rintro res H2 ⟨rfl, rfl⟩
          exact hih T1 _ _ h2 h1
        · cases h
      · cases h

theorem regK_sound (hcall : CallerOK P call) {K : Fr → Heap → Prop} {T' : FT} {H' : Heap} (hK : ∀ fr', AgT fr' T' → K fr' H') : ∀ (xs : List IOper) (T : FT) (H : Heap) (fr : Fr), regK call k xs T H = .out T' H' → AgT fr T → Reg P N k xs fr H K := by
  intro xs
  induction xs with
  | nil =>
    intro T H fr h ha
    injection h with h1 h2
    subst h1; subst h2
    exact Reg.nil (hK fr ha)
  | cons x xs ih =>
    intro T H fr h ha
    obtain ⟨d, gd, a⟩ := x
    replace h : regGd call k d a (regK call k xs) gd T H = .out T' H' := h
    cases gd with
    | none => exact regAct_sound hcall (ih := regK call k xs) ih rfl ha h
    | some p =>
      obtain ⟨t, b⟩ := p
      rcases gok_evK ha h with ⟨h1, h2⟩ | ⟨h1, h2⟩
      · exact regAct_sound hcall (ih := regK call k xs) ih h1 ha h2
      · obtain ⟨T1, h3, h4⟩ := putThen_out h2 ha
        exact Reg.skip (x := ⟨d, some (t, b), a⟩) h1 (ih T1 H _ h4 h3)

end

end Go.Av
