import Derived.Test.YtbpmbofinoinmaaAv19
namespace Go.Av

/-- A region whose order is open, as a walk goes through it: what has been done so far stands in acc. -/
def DK (P : Program) (base j : Nat) (xs : List IOper) (fr : Fr) (H : Heap) (acc : List RRec) (K : List RRec → Fr → Heap → Prop) : Prop :=
  ∃ R fr' H', DRun P base j xs fr H R fr' H' ∧ K (acc.reverse ++ R) fr' H'

section
variable {P : Program} {base j : Nat} {xs : List IOper} {fr : Fr} {H : Heap} {v : AV} {H1 : Heap} {acc : List RRec} {K : List RRec → Fr → Heap → Prop} {d : Nat} {gd : Option (Nat × Bool)}

theorem DK.nil (h : K acc.reverse fr H) : DK P base j [] fr H acc K := ⟨[], fr, H, .nil _ _ _, by rw [List.append_nil]; exact h⟩
theorem DK.o {o : IOp} (hg : gok fr gd = some true) (hs : dstep base j o fr H = some (v, H1)) (h : DK P base (j + 1) xs ((d, v) :: fr) H1 (⟨⟨some d, gd, .op o⟩, (base, j), v, drd fr o, dwr base j fr o⟩ :: acc) K) :
    DK P base j (⟨some d, gd, .op o⟩ :: xs) fr H acc K := by
  obtain ⟨R, fr', H', h1, h2⟩ := h
  exact ⟨_, fr', H', DRun.op (x := ⟨some d, gd, .op o⟩) hg rfl hs h1, by simpa using h2⟩
theorem DK.on {o : IOp} (hg : gok fr gd = some true) (hs : dstep base j o fr H = some (v, H1)) (h : DK P base (j + 1) xs fr H1 (⟨⟨none, gd, .op o⟩, (base, j), v, drd fr o, dwr base j fr o⟩ :: acc) K) :
    DK P base j (⟨none, gd, .op o⟩ :: xs) fr H acc K := by
  obtain ⟨R, fr', H', h1, h2⟩ := h
  exact ⟨_, fr', H', DRun.op (x := ⟨none, gd, .op o⟩) hg rfl hs h1, by simpa using h2⟩
theorem DK.c {f : FuncId} {args : List Operand} (hg : gok fr gd = some true) (hc : PureRun P f (avals fr args) v) (h : DK P base (j + 1) xs ((d, v) :: fr) H (⟨⟨some d, gd, .call f args⟩, (base, j), v, [], []⟩ :: acc) K) :
    DK P base j (⟨some d, gd, .call f args⟩ :: xs) fr H acc K := by
  obtain ⟨R, fr', H', h1, h2⟩ := h
  exact ⟨_, fr', H', DRun.call (x := ⟨some d, gd, .call f args⟩) hg rfl hc h1, by simpa using h2⟩
theorem DK.s {a : IAct} (hg : gok fr gd = some false) (h : DK P base (j + 1) xs ((d, .sc Go.undef) :: fr) H (⟨⟨some d, gd, a⟩, (base, j), .sc Go.undef, [], []⟩ :: acc) K) :
    DK P base j (⟨some d, gd, a⟩ :: xs) fr H acc K := by
  obtain ⟨R, fr', H', h1, h2⟩ := h
  exact ⟨_, fr', H', DRun.skip (x := ⟨some d, gd, a⟩) hg h1, by simpa using h2⟩
theorem DK.sn {a : IAct} (hg : gok fr gd = some false) (h : DK P base (j + 1) xs fr H (⟨⟨none, gd, a⟩, (base, j), .sc Go.undef, [], []⟩ :: acc) K) :
    DK P base j (⟨none, gd, a⟩ :: xs) fr H acc K := by
  obtain ⟨R, fr', H', h1, h2⟩ := h
  exact ⟨_, fr', H', DRun.skip (x := ⟨none, gd, a⟩) hg h1, by simpa using h2⟩
end

theorem AWP.dk {P : Program} {N k : Nat} {fr : Fr} {H : Heap} {Q : Exit → Fr → Heap → Prop} {xs : List IOper} {af : List (List Nat)} (hp : P.follows .mixedOrders = true)
    (h : DK P H.length 0 xs fr (H ++ [List.replicate xs.length .dead]) [] fun R fr' H' => chk af R = true ∧ Q .normal fr' H') : AWP P N k (.draw xs af) Q fr H := by
  obtain ⟨R, fr', H', h1, h2, h3⟩ := h
  exact AWP.draw hp h1 h2 h3

theorem rowIx_map {α : Type} (f : α → List AV) (l : List α) (k : Nat) (h : k < l.length) : rowIx (l.map f) (k : Int) = some (f l[k]) := by
  rw [rowIx_nat, List.getElem?_map, List.getElem?_eq_getElem h]; rfl

theorem dstep_idxSl {g i : Nat} {fr : Fr} {H : Heap} {sz : Nat} {x ix : Operand} {k : IntKind} {n : Int} {rows : List (List AV)} {r : List AV} (hx : ev fr x = .list sz rows) (hi : ev fr ix = .sc (.int k n)) (hr : rowIx rows n = some r) :
    dstep g i (.idxSl sz x ix) fr H = some (.cptr r, H) := by simp [dstep, hx, hi, hr]

theorem dstep_idxH {g i : Nat} {fr : Fr} {H : Heap} {sz : Nat} {x ix : Operand} {k : IntKind} {q : Nat} {g' i' start len : Nat} {rows : List (List AV)} (hx : ev fr x = .hsl g' i' start len) (hi : ev fr ix = .sc (.int k (q : Int)))
    (hh : hget H g' i' = some (.cells sz rows)) (h1 : q < len) (h2 : start + len ≤ rows.length) :
    dstep g i (.idxSl sz x ix) fr H = some (.ptr g' i' (start + q) 0, H) := by
  have e1 : Nat.blt q len = true := by simpa [Nat.blt_eq] using h1
  have e2 : Nat.ble (start + len) rows.length = true := by simpa using h2
  simp only [dstep, hi, hx]
  show (match hget H g' i' with
    | some (.cells s rows) => match Nat.beq s sz && (Nat.blt q len && Nat.ble (start + len) rows.length) with
      | true => some (AV.ptr g' i' (start + q) 0, H)
      | false => none
    | _ => none) = _
  rw [hh]
  simp [e1, e2]

theorem Sub.leGet {k N : Nat} {fr fr' : Fr} {H : Heap} (h : ∀ t, Le (fr.get t) (fr'.get t)) : Sub k N fr H fr' H :=
  fun M J _ _ hF hH hM => ⟨M, J, .refl k hH hM, hF.1, fun t => h t M J _ (hF.2 t)⟩

theorem shadow {fr : Fr} {t : Nat} {v : AV} (h : fr.get t = v) (u : Nat) : Fr.get ((t, v) :: fr) u = fr.get u := by
  show (match Nat.beq t u with | true => v | false => Fr.get fr u) = _
  split
  · rename_i e
    have := Nat.eq_of_beq_eq_true e
    subst this
    exact h.symm
  · rfl

/-- The two ways of a guard. -/
theorem Reg.gs {P : Program} {N k : Nat} {xs : List IOper} {fr : Fr} {H : Heap} {K : Fr → Heap → Prop} {d : Option Nat} {t : Nat} {w : Bool} {a : IAct} {c : Bool} (hg : fr.get t = .sc (.bool c))
    (h1 : c = true → Reg P N k (⟨d, some (t, w), a⟩ :: xs) ((t, .sc (.bool true)) :: fr) H K) (h2 : c = false → Reg P N k (⟨d, some (t, w), a⟩ :: xs) ((t, .sc (.bool false)) :: fr) H K) :
    Reg P N k (⟨d, some (t, w), a⟩ :: xs) fr H K := by
  cases c with
  | true => exact Reg.sub (Sub.leGet fun u => by rw [shadow hg u]; exact Le.refl _) (h1 rfl)
  | false => exact Reg.sub (Sub.leGet fun u => by rw [shadow hg u]; exact Le.refl _) (h2 rfl)

/-- Arguments told otherwise. -/
theorem CallOK.args {P : Program} {f : FuncId} {args args' : List AV} {H : Heap} {R : AV → Heap → Prop} (h : CallOK P f args' H R) (hl : args.length = args'.length) (hle : ∀ (j : Nat) a b, args[j]? = some a → args'[j]? = some b → Le a b) :
    CallOK P f args H R := by
  refine ⟨h.1, fun M J w cargs h1 h2 h3 h4 => h.2 M J w cargs (by omega) (fun j c v hc hv => ?_) h3 h4⟩
  have hj := (List.getElem?_eq_some_iff.1 hc).1
  have e : args[j]? = some args[j] := List.getElem?_eq_getElem (by omega)
  exact hle j _ c e hc M J v (h2 j _ v e hv)

end Go.Av
