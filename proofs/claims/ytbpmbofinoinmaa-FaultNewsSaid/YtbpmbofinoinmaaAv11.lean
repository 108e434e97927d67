import Derived.Test.YtbpmbofinoinmaaAv10
namespace Go.Av
section
variable {P : Program} {M : Mem} {J : Inj} {H : Heap} {w : World} {g i : Nat}
variable {N : Nat} {fr : Fr} {tmps : Array Value} {ds : List Deferred} {o : Oper} {v : AV} {H' : Heap}

theorem cop_sound {io : IOp} (hc : cop P o.op = some io) (hF : FRep N M J fr tmps) (hH : HRep M J H w.heap) (hM : MRep M w.heap) (hn : hok H g i) (hJ : J g i = none)
    (hs : dstep g i io fr H = some (v, H')) : OpOK P M J H w g i (execOp (Act.eval ⟨tmps, ds⟩) o) v H' := by
  cases h : o.op with
  | move x => rw [h] at hc; injection hc with hc; subst hc; exact ok_move hF hH hM (.inl h) hs
  | assign x => rw [h] at hc; injection hc with hc; subst hc; exact ok_move hF hH hM (.inr h) hs
  | pick c a b => rw [h] at hc; injection hc with hc; subst hc; exact ok_pick hF hH hM h hs
  | alloc t =>
    rw [h] at hc
    simp only [cop, Option.map_eq_some_iff] at hc
    obtain ⟨z, hz, rfl⟩ := hc
    exact ok_alloc hH hM hn hJ hz h hs
  | box t x => rw [h] at hc; injection hc with hc; subst hc; exact ok_box hF hH hM hn hJ h hs
  | build t parts =>
    rw [h] at hc
    simp only [cop] at hc
    split at hc
    · rename_i fs z h1 h2
      split at hc
      · rename_i hall
        simp only [Option.map_eq_some_iff] at hc
        obtain ⟨lp, hlp, rfl⟩ := hc
        exact ok_build hF hH hM h1 h2 hall hlp h hs
      · cases hc
    · cases hc
  | buildSlice t n parts =>
    rw [h] at hc
    simp only [cop] at hc
    split at hc
    · rename_i e h1
      split at hc
      · rename_i sz z h2 h3
        split at hc
        · rename_i hb
          simp only [Bool.and_eq_true] at hb
          injection hc with hc
          subst hc
          exact ok_buildSlice hF hH hM hn hJ h1 h2 h3 (Nat.le_of_ble_eq_true hb.1) (Nat.le_of_ble_eq_true hb.2) h hs
        · cases hc
      · cases hc
    · cases hc
  | load t a =>
    rw [h] at hc
    simp only [cop, Option.map_eq_some_iff] at hc
    obtain ⟨⟨sz, agg⟩, hv, rfl⟩ := hc
    exact ok_load hF hH hM hv h hs
  | store t a x =>
    rw [h] at hc
    simp only [cop, Option.map_eq_some_iff] at hc
    obtain ⟨n, hv, rfl⟩ := hc
    exact ok_store hF hH hM hv h hs
  | nilCheck x => rw [h] at hc; injection hc with hc; subst hc; exact ok_nilCheck hF hH hM h hs
  | binOp op t x y u =>
    rw [h] at hc
    simp only [cop] at hc
    split at hc
    · rename_i h1
      injection hc with hc
      subst hc
      exact ok_eqBool hF hH hM (neg := false) h1 h hs
    · rename_i h1
      injection hc with hc
      subst hc
      exact ok_eqBool hF hH hM (neg := true) h1 h hs
    · rename_i e h1
      split at hc
      · injection hc with hc
        subst hc
        exact ok_eqNil hF hH hM (neg := false) h1 h hs
      · cases hc
    · rename_i e h1
      split at hc
      · injection hc with hc
        subst hc
        exact ok_eqNil hF hH hM (neg := true) h1 h hs
      · cases hc
    · rename_i k e h1
      split at hc
      · injection hc with hc
        subst hc
        exact ok_eqNilM hF hH hM (neg := false) h1 h hs
      · cases hc
    · rename_i k e h1
      split at hc
      · injection hc with hc
        subst hc
        exact ok_eqNilM hF hH hM (neg := true) h1 h hs
      · cases hc
    · rename_i e h1
      split at hc
      · injection hc with hc
        subst hc
        exact ok_eqNilS hF hH hM (neg := false) h1 h hs
      · cases hc
    · rename_i e h1
      split at hc
      · injection hc with hc
        subst hc
        exact ok_eqNilS hF hH hM (neg := true) h1 h hs
      · cases hc
    · rename_i n e h1
      split at hc
      · rename_i h2 h3 h4
        injection hc with hc
        subst hc
        exact ok_eqArr hF hH hM (neg := false) h1 h2 h3 h4 h hs
      · cases hc
    · rename_i n e h1
      split at hc
      · rename_i h2 h3 h4
        injection hc with hc
        subst hc
        exact ok_eqArr hF hH hM (neg := true) h1 h2 h3 h4 h hs
      · cases hc
    · injection hc with hc
      subst hc
      exact ok_bin hF hH hM h hs
  | unOp op t x => rw [h] at hc; injection hc with hc; subst hc; exact ok_un hF hH hM h hs
  | convert src dst x =>
    rw [h] at hc
    simp only [cop] at hc
    split at hc
    · rename_i h1 h2
      injection hc with hc
      subst hc
      exact ok_conv hF hH hM h1 h2 h hs
    · cases hc
  | makeFunc fn a b => rw [h] at hc; injection hc with hc; subst hc; exact ok_makeFunc hF hH hM h hs
  | makeMap t r =>
    rw [h] at hc
    cases r with
    | some r => cases hc
    | none => injection hc with hc; subst hc; exact ok_makeMap hH hM hn hJ h hs
  | makeSlice t l c =>
    rw [h] at hc
    simp only [cop] at hc
    split at hc
    · rename_i e h1
      split at hc
      · rename_i inf z h2 h3
        split at hc
        · rename_i a b
          split at hc
          · rename_i hb
            simp only [Bool.and_eq_true] at hb
            have hab : a = b := Nat.eq_of_beq_eq_true hb.1
            subst hab
            injection hc with hc
            subst hc
            exact ok_makeSlice hF hH hM hn hJ h1 h2 h3 (Nat.le_of_ble_eq_true hb.2) h hs
          · cases hc
        · rename_i a b
          split at hc
          · rename_i hb
            simp only [Bool.and_eq_true] at hb
            have hab : a = b := of_decide_eq_true hb.1
            subst hab
            injection hc with hc
            subst hc
            exact ok_makeSlice hF hH hM hn hJ h1 h2 h3 (Nat.le_of_ble_eq_true hb.2) h hs
          · cases hc
        · cases hc
      · cases hc
    · cases hc
  | slice t x lo hi mx =>
    rw [h] at hc
    simp only [cop] at hc
    split at hc
    · rename_i e h1
      simp only [Option.map_eq_some_iff] at hc
      obtain ⟨n, hv, rfl⟩ := hc
      exact ok_slice hF hH hM h1 hv h hs
    · cases hc
  | fieldAddr t x f =>
    rw [h] at hc
    simp only [cop] at hc
    split at hc
    · rename_i fs h1
      split at hc
      · rename_i fd h2
        split at hc
        · rename_i n h3
          injection hc with hc
          subst hc
          exact ok_fieldAddr hF hH hM h1 h2 h3 h hs
        · cases hc
      · cases hc
    · cases hc
  | field t x f =>
    rw [h] at hc
    simp only [cop] at hc
    split at hc
    · rename_i fs h1
      split at hc
      · rename_i fd h2
        simp only [Option.map_eq_some_iff] at hc
        obtain ⟨⟨sz, agg⟩, hv, rfl⟩ := hc
        exact ok_field hF hH hM h1 h2 hv h hs
      · cases hc
    · cases hc
  | indexAddr t x ix =>
    rw [h] at hc
    simp only [cop] at hc
    split at hc
    · rename_i e h1
      simp only [Option.map_eq_some_iff] at hc
      obtain ⟨n, hv, rfl⟩ := hc
      exact ok_idxSl hF hH hM h1 hv h hs
    · rename_i n e h1
      simp only [Option.map_eq_some_iff] at hc
      obtain ⟨sz, hv, rfl⟩ := hc
      exact ok_idxArr hF hH hM h1 hv h hs
    · cases hc
  | index t x ix =>
    rw [h] at hc
    simp only [cop] at hc
    split at hc
    · rename_i n e h1
      simp only [Option.map_eq_some_iff] at hc
      obtain ⟨⟨sz, agg⟩, hv, rfl⟩ := hc
      exact ok_idxVal hF hH hM h1 hv h hs
    · cases hc
  | lookup t x ix ok =>
    rw [h] at hc
    simp only [cop] at hc
    split at hc
    · rename_i kt e h1
      split at hc
      · rename_i k z h2 h3
        injection hc with hc
        subst hc
        exact ok_lookup hF hH hM h1 h2 h3 h hs
      · cases hc
    · cases hc
  | mapUpdate t m ix x =>
    rw [h] at hc
    simp only [cop] at hc
    split at hc
    · rename_i kt e h1
      split at hc
      · rename_i k h2
        injection hc with hc
        subst hc
        exact ok_mapUpdate hF hH hM h1 h2 h hs
      · cases hc
    · cases hc
  | insert t m ix x =>
    rw [h] at hc
    simp only [cop] at hc
    split at hc
    · rename_i kt e h1
      split at hc
      · rename_i k h2
        injection hc with hc
        subst hc
        exact ok_insert hF hH hM h1 h2 h hs
      · cases hc
    · cases hc
  | extract x ix => rw [h] at hc; injection hc with hc; subst hc; exact ok_extract hF hH hM h hs
  | call c =>
    rw [h] at hc
    obtain ⟨callee, args, ts⟩ := c
    cases callee with
    | builtin b =>
      cases b <;> try (cases hc; done)
      case len =>
        simp only [cop] at hc
        split at hc
        · rename_i x t ha ht
          split at hc
          · rename_i e h1
            injection hc with hc
            subst hc
            exact ok_len hF hH hM ha ht h1 h hs
          · rename_i k e h1
            injection hc with hc
            subst hc
            exact ok_lenM hF hH hM ha ht h1 h hs
          · cases hc
        · cases hc
      case append =>
        simp only [cop] at hc
        split at hc
        · rename_i s x t u ha ht
          split at hc
          · rename_i e h1
            split at hc
            · rename_i inf z h2 h3
              split at hc
              · rename_i hb
                simp only [Bool.and_eq_true] at hb
                have htu : t = u := of_decide_eq_true hb.1
                subst htu
                injection hc with hc
                subst hc
                exact ok_append hF hH hM hn hJ ha ht h1 h2 h3 (Nat.le_of_ble_eq_true hb.2) h hs
              · cases hc
            · cases hc
          · cases hc
        · cases hc
      case max => injection hc with hc; subst hc; exact ok_max hF hH hM h hs
      case min => injection hc with hc; subst hc; exact ok_min hF hH hM h hs
    | value f => cases hc
    | invoke r n => cases hc
  | _ => rw [h] at hc; cases hc

end

/-! Regions. -/

inductive IAct where
  | op (o : IOp)
  | call (f : FuncId) (args : List Operand)
  | callV (f : Operand) (args : List Operand)

structure IOper where
  dst : Option Nat
  guard : Option (Nat × Bool)
  act : IAct

def cact (P : Program) : Op → Option IAct
  | .call ⟨.value (.func f), args, _⟩ => some (.call f args.toList)
  | .call ⟨.value (.tmp t), args, _⟩ => some (.callV (.tmp t) args.toList)
  | op => (cop P op).map .op

def cdst (N : Nat) : Option Nat → Option (Option Nat)
  | none => some none
  | some d => match Nat.blt d N with
    | true => some (some d)
    | false => none

def cguard (ops : Array Oper) : Option (Nat × Bool) → Option (Option (Nat × Bool))
  | none => some none
  | some (j, b) => match ops[j]? with
    | some o => match o.dst with
      | some t => some (some (t, b))
      | none => none
    | none => none

def coper (P : Program) (N : Nat) (ops : Array Oper) (o : Oper) : Option IOper :=
  match cdst N o.dst, cguard ops o.guard, cact P o.op with
  | some d, some gd, some a => some ⟨d, gd, a⟩
  | _, _, _ => none

/-- Does a guard let its operation by? none: it is not known. -/
def gok (fr : Fr) : Option (Nat × Bool) → Option Bool
  | none => some true
  | some (t, b) => match fr.get t with
    | .sc (.bool c) => match b with
      | true => some c
      | false => some (!c)
    | .sc (.tuple _) => some false
    | _ => none

theorem gok_sound {N M J} {fr : Fr} {tmps : Array Value} (hF : FRep N M J fr tmps) {ops : Array Oper} {o : Oper} {gd : Option (Nat × Bool)} (hg : cguard ops o.guard = some gd) {r : Bool} (h : gok fr gd = some r) :
    Region.wanted o (yielded ops tmps) = r := by
  unfold cguard at hg
  split at hg
  · rename_i e
    injection hg with hg
    subst hg
    simp only [gok, Option.some.injEq] at h
    subst h
    simp [Region.wanted, e]
  · rename_i j b e
    split at hg
    · rename_i oj hoj
      split at hg
      · rename_i t ht
        injection hg with hg
        subst hg
        have hrep := hF.2 t
        simp only [gok] at h
        have hy : ∀ cv, tmps.getD t Go.undef = cv → yielded ops tmps j = match cv with | .bool b => some b | _ => none := by
          intro cv hcv
          unfold yielded
          rw [hoj]
          simp only [Option.bind_some, ht]
          by_cases hlt : t < tmps.size
          · simp only [Array.getD, hlt, dif_pos] at hcv
            rw [Array.getElem?_eq_getElem hlt]
            simp only [Array.getInternal_eq_getElem] at hcv
            rw [hcv]
            cases cv <;> rfl
          · simp only [Array.getD, hlt, dif_neg, not_false_eq_true] at hcv
            rw [Array.getElem?_eq_none (Nat.le_of_not_lt hlt)]
            subst hcv
            rfl
        simp only [Region.wanted, e]
        split at h
        · rename_i c ec
          rw [ec] at hrep
          rw [hy _ hrep.sc_inv]
          cases b <;> cases c <;> simp_all
        · rename_i q ec
          rw [ec] at hrep
          rw [hy _ hrep.sc_inv]
          simp_all
        · cases h
      · cases hg
    · cases hg

end Go.Av
