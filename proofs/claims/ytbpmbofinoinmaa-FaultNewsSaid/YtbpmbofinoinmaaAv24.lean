import Derived.Test.YtbpmbofinoinmaaAv23
namespace Go.Av

/-! More of what a walk uses. -/

theorem Ghost.push (H : Heap) (sz : Nat) : Ghost H (H ++ [[.cells sz []]]) := by
  refine ⟨fun g i x' hx hl => ?_, fun g i h => ?_⟩
  · rw [hget_append] at hx
    split at hx
    · rename_i e
      subst e
      right
      refine ⟨by simp [hget], sz, ?_⟩
      cases i with
      | zero => simpa using hx.symm
      | succ i => simp at hx
    · exact .inl ⟨x', hx, .refl _⟩
  · rw [hget_append]
    split
    · rename_i e
      subst e
      simp [hget] at h
    · exact h

theorem GhT.push (H : Heap) (sz : Nat) : GhT H (H ++ [[.cells sz []]]) (.sc (.slice none 0 0)) (.hsl H.length 0 0 0) :=
  .mk H.length 0 sz (by simp [hget]) (by rw [hget_append, if_pos rfl]; rfl)

def CongAll (T : AV → AV → Prop) (fr : Fr) : Fr → Prop
  | [] => True
  | x :: r => Cong T (fr.get x.1) x.2 ∧ CongAll T fr r

theorem CongAll.mem {T fr} : ∀ {fr' : Fr}, CongAll T fr fr' → ∀ x ∈ fr', Cong T (fr.get x.1) x.2
  | [], _, x, h => by cases h
  | _ :: _, ⟨h1, h2⟩, x, h => by
    cases h with
    | head => exact h1
    | tail _ h => exact CongAll.mem h2 x h

/-- A nil slice becomes a block. -/
theorem Sub.nilBlk {k N : Nat} {fr fr' : Fr} {H : Heap} (sz : Nat) (h : CongAll (GhT H (H ++ [[.cells sz []]])) fr fr') : Sub k N fr H fr' (H ++ [[.cells sz []]]) := Sub.ghost (Ghost.push H sz) h.mem

def allS (_ _ : Nat) : Bool := true
def deadH (H : Heap) : Heap := H.map fun f => f.map fun _ => .dead

theorem hget_dead {H : Heap} {g i : Nat} : (hget (deadH H) g i).isSome = (hget H g i).isSome ∧ ∀ x, hget (deadH H) g i = some x → x = .dead := by
  unfold hget deadH
  rw [List.getElem?_map]
  cases H[g]? with
  | none => exact ⟨rfl, fun x h => by cases h⟩
  | some f =>
    simp only [Option.map_some, List.getElem?_map]
    cases f[i]? with
    | none => exact ⟨rfl, fun x h => by cases h⟩
    | some y => exact ⟨rfl, fun x h => by simpa using h.symm⟩

theorem Frozen.all (H : Heap) : Frozen H allS (deadH H) := by
  refine ⟨fun g i x' hx hl => ?_, fun g i h => by rw [hget_dead.1]; exact h⟩
  have := hget_dead.2 x' hx
  subst this
  cases hl

def FzA (H : Heap) : AV → AV → Prop := Cong (FzT H allS)

def FzAll (H : Heap) (fr : Fr) : Fr → Prop
  | [] => True
  | x :: r => (FzA H (fr.get x.1) x.2 ∧ Pure x.2) ∧ FzAll H fr r

theorem FzAll.mem {H fr} : ∀ {fr' : Fr}, FzAll H fr fr' → ∀ x ∈ fr', FzA H (fr.get x.1) x.2 ∧ Pure x.2
  | [], _, x, h => by cases h
  | _ :: _, ⟨h1, h2⟩, x, h => by
    cases h with
    | head => exact h1
    | tail _ h => exact FzAll.mem h2 x h

theorem pure_get {fr : Fr} (h : ∀ y ∈ fr, Pure y.2) (t : Nat) : Pure (fr.get t) := by
  induction fr with
  | nil => exact .undef
  | cons p l ih =>
    obtain ⟨d, v⟩ := p
    show Pure (match Nat.beq d t with | true => v | false => Fr.get l t)
    split
    · exact h (d, v) (List.mem_cons_self ..)
    · exact ih fun y hy => h y (List.mem_cons_of_mem _ hy)

/-- All blocks are frozen. -/
theorem Sub.frzAll {N : Nat} {fr fr' : Fr} {H : Heap} (h : FzAll H fr fr') : Sub 0 N fr H fr' [] := by
  intro M J tmps w hF hH hM
  obtain ⟨h1, h2, h3⟩ := Step.frz (k := 0) hH hM (Frozen.all H)
  have hF' := hF.cong h2 h3 fun x hx => (h.mem x hx).1
  refine ⟨_, _, h1.ren (ρ := rho []) (H'' := []) (Numb.list rfl rfl rfl trivial), hF'.1, fun t => (hF'.2 t).anyJ (pure_get (fun y hy => (h.mem y hy).2) t) _⟩

theorem SubV.frzAll {H : Heap} {a b : AV} (h : FzA H a b) (hp : Pure b) : SubV 0 H a [] b :=
  (SubV.frz allS (Frozen.all H) h).trans (SubV.ren (rho []) (Numb.list rfl rfl rfl trivial) (.pure hp))

/-- The end of a function whose result's blocks are its own. -/
theorem fin_frz {e : Exit} (he : e = .normal ∨ e = .ret) {rs : List IRes} {fr : Fr} {H : Heap} {res res' : AV} {R : AV → Heap → Prop} (hres : resOf fr H rs = some res) (hz : FzA H res res') (hp : Pure res') (hR : R res' []) :
    (e = .normal ∨ e = .ret) ∧ ∃ res res' H2, resOf fr H rs = some res ∧ SubV 0 H res H2 res' ∧ R res' H2 := ⟨he, res, res', [], hres, .frzAll hz hp, hR⟩

theorem FzA.hsl {H : Heap} {g i start len sz : Nat} {rows rows' : List (List AV)} (h : hget H g i = some (.cells sz rows)) (hl : start + len ≤ rows.length) (e : (rows.drop start).take len = rows') : FzA H (.hsl g i start len) (.list sz rows') := by
  subst e
  exact .base (.hsl g i start len sz rows rfl h hl)
theorem FzA.all {H : Heap} {g i len sz : Nat} {rows : List (List AV)} (h : hget H g i = some (.cells sz rows)) (hl : rows.length = len) : FzA H (.hsl g i 0 len) (.list sz rows) :=
  .hsl h (by omega) (by rw [List.drop_zero, List.take_of_length_le (by omega)])
theorem FzA.ptr {H : Heap} {g i row sz : Nat} {rows : List (List AV)} {r : List AV} (h : hget H g i = some (.cells sz rows)) (hr : rows[row]? = some r) : FzA H (.ptr g i row 0) (.cptr r) :=
  .base (.ptr g i row 0 sz rows r rfl h hr)
theorem FzA.mref {H : Heap} {g i : Nat} {es : List (Value × AV)} (h : hget H g i = some (.map es)) : FzA H (.mref g i) (.tmap es) := .base (.mref g i es rfl h)
theorem FzA.refl (H : Heap) (a : AV) : FzA H a a := Cong.refl a

def CongL (T : AV → AV → Prop) : List AV → List AV → Prop
  | [], [] => True
  | a :: l, b :: m => Cong T a b ∧ CongL T l m
  | _, _ => False

theorem CongL.spec {T} : ∀ {l m : List AV}, CongL T l m → l.length = m.length ∧ ∀ (j : Nat) a b, l[j]? = some a → m[j]? = some b → Cong T a b
  | [], [], _ => ⟨rfl, fun j a b h => by simp at h⟩
  | [], _ :: _, h => h.elim
  | _ :: _, [], h => h.elim
  | x :: l, y :: m, ⟨h1, h2⟩ => by
    obtain ⟨h3, h4⟩ := CongL.spec h2
    refine ⟨by simp [h3], fun j a b ha hb => ?_⟩
    cases j with
    | zero => simp at ha hb; subst ha; subst hb; exact h1
    | succ j => exact h4 j a b (by simpa using ha) (by simpa using hb)

theorem Cong.tupL {T} {l m : List AV} (h : CongL T l m) : Cong T (.tup l) (.tup m) := .tup l m h.spec.1 h.spec.2
theorem Cong.aggL {T} {l m : List AV} (h : CongL T l m) : Cong T (.agg l) (.agg m) := .agg l m h.spec.1 h.spec.2

theorem dstep_app {g i : Nat} {fr : Fr} {H : Heap} {sz bytes : Nat} {s x : Operand} {g' i' len : Nat} {rows1 rows2 : List (List AV)} (hs : ev fr s = .hsl g' i' 0 len) (hx : rowsX sz H (ev fr x) = some (sz, rows2)) (hh : hget H g' i' = some (.cells sz rows1))
    (hl : rows1.length = len) (hb : (len + rows2.length) * (bytes + 1) ≤ 70368744177664) (e3 : (Nat.beq g g' && Nat.beq i i') = false) :
    dstep g i (.append sz bytes s x) fr H = some (.hsl g i 0 (len + rows2.length), hset (hset H g' i' .dead) g i (.cells sz (rows1 ++ rows2))) := by
  have e2 : Nat.ble ((len + rows2.length) * (bytes + 1)) 70368744177664 = true := by simpa using hb
  simp only [dstep, hx, hs, hh]
  have e4 : Nat.beq sz sz = true := by simp
  have e5 : Nat.beq rows1.length len = true := by simp [hl]
  simp only [e4, e5, e2, e3, Bool.and_self]

/-- A walk's ways come together. -/
theorem Reg.join {P : Program} {N k : Nat} {xs : List IOper} {fr : Fr} {H : Heap} {c : ICode} {Q : Exit → Fr → Heap → Prop} (F' : Fr) (H' : Heap) (h1 : Reg P N k xs fr H fun fr2 H2 => Sub k N fr2 H2 F' H') (h2 : AWP P N k c Q F' H') :
    Reg P N k xs fr H (AWP P N k c Q) := h1.mono fun _ _ hs => AWP.sub hs h2

/-- .. behind a piece of code. -/
theorem AWP.join {P : Program} {N k : Nat} {a b : ICode} {fr : Fr} {H : Heap} {Q : Exit → Fr → Heap → Prop} (F' : Fr) (H' : Heap) (h1 : AWP P N k a (thenQ (fun fr2 H2 => Sub k N fr2 H2 F' H') Q) fr H) (h2 : AWP P N k b Q F' H') : AWP P N k (.seq a b) Q fr H :=
  AWP.seq (AWP.mono h1 fun e fr H h => by
    cases e <;> first | exact AWP.sub h h2 | exact h)

end Go.Av
