import Derived.Test.YtbpmbofinoinmaaFaA6
import Derived.Test.YtbpmbofinoinmaaFaA7
import Derived.Test.YtbpmbofinoinmaaFaN2
import Derived.Test.YtbpmbofinoinmaaFaS1
namespace Go.Proofs.Ytbpmbofinoinmaa
open Go.Av Go.Proofs

/-! Agree, walked. -/

abbrev AgR := List Rp × Int × Int
def badX (n x : Int) : Bool := decide (x < 0) || decide (x ≥ n)
def badK (n : Int) (L : List (List Int)) : Bool := L.any fun ks => ks.any (badX n)
def rpOf (fl : List Int) (L : List (List Int)) (p : Pr) : Rp := if p.dec > 0 then agreedS p fl L else ⟨false, 0, 0, []⟩
def agreeR (fl : List Int) (L : List (List Int)) (l : List C) : AgR :=
  if checkS fl.length l ≠ 0 then ([], 0, checkS fl.length l) else if L.length ≠ fl.length then ([], 0, 26) else if badK fl.length L = true then ([], 0, 11) else
  ((List.range fl.length).map fun i => rpOf fl L (prAt (agreeGo fl.length l (l.length + 2) 0 (init0 fl.length)).1 i), (agreeGo fl.length l (l.length + 2) 0 (init0 fl.length)).2, 0)
def rpsV (rs : List Rp) : AV := .list 4 (rs.map rpRow)
theorem pure_rps (rs : List Rp) : Pure (rpsV rs) := .list _ _ (allPure_map pure_rpRow rs)
def agreeV (p : AgR) : AV := .tup [rpsV p.1, .sc (.int .i64 p.2.1), .sc (.int .i64 p.2.2)]
theorem pure_agreeV (p : AgR) : Pure (agreeV p) := .tup _ (allPure_cons (pure_rps _) (allPure_cons (.sc _) (allPure_cons (.sc _) allPure_nil)))

theorem le_tup3' {a a' b c : AV} (h : Le a a') : Le (.tup [a, b, c]) (.tup [a', b, c]) := by
  intro M J v hv
  cases hv with
  | tup _ cvs hl hr =>
    refine .tup _ cvs hl fun j x v hx hv => ?_
    match j, hx with
    | 0, hx => simp at hx; subst hx; exact h M J v (hr 0 a v rfl hv)
    | 1, hx => exact hr 1 x v hx hv
    | 2, hx => exact hr 2 x v hx hv
    | j + 3, hx => simp at hx
theorem fin_nilA {e : Exit} (he : e = .normal ∨ e = .ret) {rs : List IRes} {fr : Fr} {H : Heap} {b c : AV} {R : AV → Heap → Prop} (hres : resOf fr H rs = some (.tup [.sc (.slice none 0 0), b, c])) (sz : Nat) (hp : Pure (.tup [.list sz [], b, c])) (hR : R (.tup [.list sz [], b, c]) []) :
    (e = .normal ∨ e = .ret) ∧ ∃ res res' H2, resOf fr H rs = some res ∧ SubV 0 H res H2 res' ∧ R res' H2 :=
  ⟨he, _, _, [], hres, (SubV.le (le_tup3' (Le.nil sz))).trans (.pure hp), hR⟩
theorem pure_nilA (n e : Int) : Pure (.tup [.list 4 [], .sc (.int .i64 n), .sc (.int .i64 e)]) := .tup _ (allPure_cons (.list _ _ (fun r hr => by cases hr)) (allPure_cons (.sc _) (allPure_cons (.sc _) allPure_nil)))

theorem flc_pure (fl : List Int) (L : List (List Int)) (l : List C) : ∀ a ∈ [intsV fl, knownV L, crV l], Pure a := allPure_cons (pure_ints fl) (allPure_cons (pure_knownV L) (allPure_cons (pure_cr l) allPure_nil))

theorem Le.rows {sz : Nat} {rows rows' : List (List AV)} (hl : rows.length = rows'.length) (hr : ∀ (i : Nat) r r', rows[i]? = some r → rows'[i]? = some r' → r.length = r'.length ∧ ∀ (j : Nat) a b, r[j]? = some a → r'[j]? = some b → Le a b) : Le (.list sz rows) (.list sz rows') := by
  intro M J v hv
  have hget : ∀ (i : Nat) r', rows'[i]? = some r' → ∃ r, rows[i]? = some r := by
    intro i r' h
    have := (List.getElem?_eq_some_iff.1 h).1
    exact ⟨rows[i]'(by omega), List.getElem?_eq_getElem (by omega)⟩
  cases hv with
  | nilList _ a cap =>
    cases rows' with
    | nil => exact .nilList sz a cap
    | cons x l => simp at hl
  | list _ _ β off cap n cs e fr hn hM hsz hle h1 h =>
    refine .list sz rows' β off cap n cs e fr (by omega) hM (fun i r' h' => ?_) (by rw [← hl]; exact hle) (by rw [← hl]; exact h1) fun i r' j c v h2 h3 h4 => ?_
    · obtain ⟨r, hg⟩ := hget i r' h'
      rw [← (hr i r r' hg h').1]
      exact hsz i r hg
    · obtain ⟨r, hg⟩ := hget i r' h2
      obtain ⟨e1, e2⟩ := hr i r r' hg h2
      have hj := (List.getElem?_eq_some_iff.1 h3).1
      have h5 : r[j]? = some (r[j]'(by omega)) := List.getElem?_eq_getElem (by omega)
      exact e2 j _ c h5 h3 M J v (h i r j _ v hg h5 h4)

theorem Ren.cloOf {ρ : Nat → Nat → Option (Nat × Nat)} {f : FuncId} {cs cs' : List AV} (h : RenArgs ρ cs cs') : Ren ρ (.clo (.func f) [] cs) (.clo (.func f) [] cs') :=
  .clo _ _ _ _ _ rfl h.spec.1 (fun j x y h => (by simp at h)) fun j x y => h.spec.2 j x y

theorem good_lenA {n : Nat} {l : List C} (h : checkS n l = 0) : l.length ≤ 64 := by
  obtain ⟨⟨h1, h2⟩, hg, hd⟩ := check_zero h
  have := pigeon l.length (List.range n) (fun k => ((l[k]?).map fun c => c.rank.toNat).getD 0) (fun u hu => ?_) (fun a b ha hb hab => ?_)
  · rw [List.length_range] at this; omega
  · have h3 := hg l[u] (List.getElem_mem hu)
    have h4 := h3.r0
    have h5 := h3.r1
    rw [List.getElem?_eq_getElem hu]
    exact List.mem_range.2 (by show l[u].rank.toNat < n; omega)
  · rw [List.getElem?_eq_getElem ha, List.getElem?_eq_getElem hb] at hab
    have hab : l[a].rank.toNat = l[b].rank.toNat := hab
    have ra := (hg l[a] (List.getElem_mem ha)).r0
    have rb := (hg l[b] (List.getElem_mem hb)).r0
    have key : ∀ x y : Nat, (hx : x < l.length) → (hy : y < l.length) → l[x].rank = l[y].rank → ¬ x < y := by
      intro x y hx hy e hlt
      have h6 := hd y l[y] (List.getElem?_eq_getElem hy)
      unfold findC at h6
      rw [List.find?_eq_none] at h6
      refine h6 l[x] (List.mem_iff_getElem?.2 ⟨x, ?_⟩) (by simp [e])
      rw [List.getElem?_take, if_pos hlt, List.getElem?_eq_getElem hx]
    have e : l[a].rank = l[b].rank := by omega
    have k1 := key a b ha hb e
    have k2 := key b a hb ha e.symm
    omega

def rpCells (fl : List Int) (L : List (List Int)) (p : Pr) : List AV := if p.dec > 0 then rpRow (agreedS p fl L) else z4
theorem rpCells_len (fl : List Int) (L : List (List Int)) (p : Pr) : (rpCells fl L p).length = 4 := by unfold rpCells; split <;> rfl
theorem pure_rpCells (fl : List Int) (L : List (List Int)) (p : Pr) : ∀ c ∈ rpCells fl L p, Pure c := by
  unfold rpCells
  split
  · exact pure_rpRow _
  · exact pure_z4
def outR (fl : List Int) (L : List (List Int)) (ps : List Pr) (n i : Nat) : List (List AV) := (List.range n).map fun j => if j < i then rpCells fl L (prAt ps j) else z4
theorem outR_len (fl : List Int) (L : List (List Int)) (ps : List Pr) (n i : Nat) : (outR fl L ps n i).length = n := by simp [outR]
theorem outR_get {fl : List Int} {L : List (List Int)} {ps : List Pr} {n i j : Nat} (h : j < n) : (outR fl L ps n i)[j]? = some (if j < i then rpCells fl L (prAt ps j) else z4) := by simp [outR, h]
theorem pure_outR (fl : List Int) (L : List (List Int)) (ps : List Pr) (n i : Nat) : ∀ r ∈ outR fl L ps n i, ∀ c ∈ r, Pure c := by
  intro r hr
  obtain ⟨j, _, rfl⟩ := List.mem_map.1 hr
  show ∀ c ∈ (if j < i then rpCells fl L (prAt ps j) else z4), Pure c
  split
  · exact pure_rpCells _ _ _
  · exact pure_z4
theorem outR_set {fl : List Int} {L : List (List Int)} {ps : List Pr} {n i : Nat} (h : i < n) : (outR fl L ps n i).set i (rpCells fl L (prAt ps i)) = outR fl L ps n (i + 1) := by
  apply List.ext_getElem? fun j => ?_
  rw [List.getElem?_set]
  by_cases e : i = j
  · subst e
    rw [if_pos rfl, if_pos (by rw [outR_len]; exact h), outR_get h, if_pos (by omega)]
  · rw [if_neg e]
    by_cases hj : j < n
    · rw [outR_get hj, outR_get hj]
      have : (j < i + 1) ↔ (j < i) := by omega
      simp only [this]
    · rw [List.getElem?_eq_none (by rw [outR_len]; omega), List.getElem?_eq_none (by rw [outR_len]; omega)]
theorem outR_skip {fl : List Int} {L : List (List Int)} {ps : List Pr} {n i : Nat} (h : i < n) (hd : ¬ (prAt ps i).dec > 0) : outR fl L ps n (i + 1) = outR fl L ps n i := by
  rw [← outR_set h]
  have e : rpCells fl L (prAt ps i) = z4 := if_neg hd
  rw [e]
  apply List.ext_getElem? fun j => ?_
  rw [List.getElem?_set]
  by_cases e : i = j
  · subst e
    rw [if_pos rfl, if_pos (by rw [outR_len]; exact h), outR_get h, if_neg (by omega)]
  · rw [if_neg e]
theorem le_outR (fl : List Int) (L : List (List Int)) (ps : List Pr) (n : Nat) : Le (.list 4 (outR fl L ps n n)) (rpsV ((List.range n).map fun i => rpOf fl L (prAt ps i))) := by
  refine Le.rows (by simp [outR]) fun i r r' h1 h2 => ?_
  have hi : i < n := by
    have := (List.getElem?_eq_some_iff.1 h1).1
    rw [outR_len] at this
    exact this
  rw [outR_get hi, if_pos hi] at h1
  have h2 : some (rpRow (rpOf fl L (prAt ps i))) = some r' := by rw [← h2]; simp [hi]
  injection h1 with h1
  injection h2 with h2
  subst h1
  subst h2
  unfold rpCells rpOf
  by_cases hd : (prAt ps i).dec > 0
  · rw [if_pos hd, if_pos hd]
    exact ⟨rfl, fun j a b ha hb => by rw [ha] at hb; injection hb with hb; subst hb; exact .refl _⟩
  · rw [if_neg hd, if_neg hd]
    refine ⟨rfl, fun j a b ha hb => ?_⟩
    match j, ha, hb with
    | 0, ha, hb => cases ha; cases hb; exact .refl _
    | 1, ha, hb => cases ha; cases hb; exact .refl _
    | 2, ha, hb => cases ha; cases hb; exact .refl _
    | 3, ha, hb => cases ha; cases hb; exact Le.nil 1
    | j + 4, ha, hb => simp [z4] at ha

def noPr2 : Pr := ⟨fun _ => false, fun _ => false, 0, false⟩
def initK (n k : Nat) : List Pr := (List.range n).map fun i => if i < k then pr0 n i else noPr2
theorem initK_len (n k : Nat) : (initK n k).length = n := by simp [initK]
theorem initK_get {n k i : Nat} (h : i < n) : (initK n k)[i]? = some (if i < k then pr0 n i else noPr2) := by simp [initK, h]
theorem initK_end (n : Nat) : initK n n = init0 n := List.map_congr_left fun _ hi => if_pos (List.mem_range.1 hi)
theorem initK_set {n k : Nat} (h : k < n) : (initK n k).set k (pr0 n k) = initK n (k + 1) := by
  apply List.ext_getElem? fun j => ?_
  rw [List.getElem?_set]
  by_cases e : k = j
  · subst e
    rw [if_pos rfl, if_pos (by rw [initK_len]; exact h), initK_get h, if_pos (by omega)]
  · rw [if_neg e]
    by_cases hj : j < n
    · rw [initK_get hj, initK_get hj]
      have : (j < k + 1) ↔ (j < k) := by omega
      simp only [this]
    · rw [List.getElem?_eq_none (by rw [initK_len]; omega), List.getElem?_eq_none (by rw [initK_len]; omega)]
theorem pr_wset (p : Pr) {q : Nat} (h : q < 64) (b : Bool) : lsplice (prRow p) q [.sc (.bool b)] = prRow { p with w := fun i => if i = q then b else p.w i } := by
  rw [lsplice_one]
  unfold prRow
  rw [List.set_append_left _ _ (by rw [bset_len]; exact h), bset_set]
theorem row_pr0 {n k : Nat} : prRow { w := fun i => if i = k then true else noPr2.w i, h := fun j => decide (j < n), dec := 0, done := false } = prRow (pr0 n k) := by
  unfold prRow pr0
  have : bset 64 (fun i => if i = k then true else noPr2.w i) = bset 64 (fun i => decide (i = k)) := bset_congr fun i _hi => by
    by_cases e : i = k
    · simp [e]
    · simp [e, noPr2]
  rw [this]

set_option maxHeartbeats 2000000 in
theorem agree_ok (fl : List Int) (L : List (List Int)) (l : List C) (hfl : fl.length ≤ 4000000) (_hLl : L.length ≤ 4000000) (hks : ∀ ks ∈ L, ks.length ≤ 1000000) (hl : l.length ≤ 4000000) :
    CallOK Try.prog 16 [intsV fl, knownV L, crV l] [] (fun res _ => res = agreeV (agreeR fl L l)) := by
  have e0 : (intsR fl).length = fl.length := by simp [intsR]
  have eL : (L.map fun ks => [intsV ks]).length = L.length := by simp
  refine CallOK.of cF16 ?_ (by simp [F16])
  repeat (first | refine Reg.o rfl rfl ?_ | refine Reg.on rfl rfl ?_ | refine Reg.s rfl ?_ | refine Reg.sn rfl ?_ | refine Reg.nil ?_ | refine DK.o rfl rfl ?_ | refine DK.on rfl rfl ?_ | refine DK.s rfl ?_ | refine DK.sn rfl ?_ | refine AWP.seq ?_ | refine AWP.region ?_ | refine AWP.dk mixed ?_ | refine AWP.condT rfl ?_ | refine AWP.condF rfl ?_ | refine AWP.skip ?_ | refine AWP.ret ?_ | refine AWP.exit ?_ | refine AWP.block ?_ )
  rw [e0]
  refine Reg.c (Nat.le_refl _) rfl (CallOK.ofPure (PureRun.of (allPure_cons (.sc _) (allPure_cons (pure_cr l) allPure_nil)) (.sc _) (check_ok fl.length l hl)) _ ?_)
  repeat (first | refine Reg.o rfl rfl ?_ | refine Reg.on rfl rfl ?_ | refine Reg.s rfl ?_ | refine Reg.sn rfl ?_ | refine Reg.nil ?_ | refine DK.o rfl rfl ?_ | refine DK.on rfl rfl ?_ | refine DK.s rfl ?_ | refine DK.sn rfl ?_ | refine AWP.seq ?_ | refine AWP.region ?_ | refine AWP.dk mixed ?_ | refine AWP.condT rfl ?_ | refine AWP.condF rfl ?_ | refine AWP.skip ?_ | refine AWP.ret ?_ | refine AWP.exit ?_ | refine AWP.block ?_ )
  refine AWP.cond rfl (fun hc => ?_) (fun hc => ?_)
  · have hc' : checkS fl.length l ≠ 0 := by simpa using hc
    repeat (first | refine Reg.o rfl rfl ?_ | refine Reg.on rfl rfl ?_ | refine Reg.s rfl ?_ | refine Reg.sn rfl ?_ | refine Reg.nil ?_ | refine DK.o rfl rfl ?_ | refine DK.on rfl rfl ?_ | refine DK.s rfl ?_ | refine DK.sn rfl ?_ | refine AWP.seq ?_ | refine AWP.region ?_ | refine AWP.dk mixed ?_ | refine AWP.condT rfl ?_ | refine AWP.condF rfl ?_ | refine AWP.skip ?_ | refine AWP.ret ?_ | refine AWP.exit ?_ | refine AWP.block ?_ )
    refine fin_nilA (.inr rfl) rfl 4 (pure_nilA _ _) ?_
    unfold agreeR
    rw [if_pos hc']
    rfl
  have hc' : checkS fl.length l = 0 := by simpa using hc
  obtain ⟨⟨hn1, hn64⟩, hg, hd⟩ := check_zero hc'
  have hq1 : ¬ checkS fl.length l ≠ 0 := fun h => h hc'
  repeat (first | refine Reg.o rfl rfl ?_ | refine Reg.on rfl rfl ?_ | refine Reg.s rfl ?_ | refine Reg.sn rfl ?_ | refine Reg.nil ?_ | refine DK.o rfl rfl ?_ | refine DK.on rfl rfl ?_ | refine DK.s rfl ?_ | refine DK.sn rfl ?_ | refine AWP.seq ?_ | refine AWP.region ?_ | refine AWP.dk mixed ?_ | refine AWP.condT rfl ?_ | refine AWP.condF rfl ?_ | refine AWP.skip ?_ | refine AWP.ret ?_ | refine AWP.exit ?_ | refine AWP.block ?_ )
  rw [eL]
  refine AWP.cond rfl (fun hn => ?_) (fun hn => ?_)
  · have hn' : L.length ≠ fl.length := by simp at hn; omega
    repeat (first | refine Reg.o rfl rfl ?_ | refine Reg.on rfl rfl ?_ | refine Reg.s rfl ?_ | refine Reg.sn rfl ?_ | refine Reg.nil ?_ | refine DK.o rfl rfl ?_ | refine DK.on rfl rfl ?_ | refine DK.s rfl ?_ | refine DK.sn rfl ?_ | refine AWP.seq ?_ | refine AWP.region ?_ | refine AWP.dk mixed ?_ | refine AWP.condT rfl ?_ | refine AWP.condF rfl ?_ | refine AWP.skip ?_ | refine AWP.ret ?_ | refine AWP.exit ?_ | refine AWP.block ?_ )
    refine fin_nilA (.inr rfl) rfl 4 (pure_nilA _ _) ?_
    unfold agreeR
    rw [if_neg hq1, if_pos hn']
    rfl
  have hn' : L.length = fl.length := by simp at hn; omega
  have hq2 : ¬ L.length ≠ fl.length := fun h => h hn'
  repeat (first | refine Reg.o rfl rfl ?_ | refine Reg.on rfl rfl ?_ | refine Reg.s rfl ?_ | refine Reg.sn rfl ?_ | refine Reg.nil ?_ | refine DK.o rfl rfl ?_ | refine DK.on rfl rfl ?_ | refine DK.s rfl ?_ | refine DK.sn rfl ?_ | refine AWP.seq ?_ | refine AWP.region ?_ | refine AWP.dk mixed ?_ | refine AWP.condT rfl ?_ | refine AWP.condF rfl ?_ | refine AWP.skip ?_ | refine AWP.ret ?_ | refine AWP.exit ?_ | refine AWP.block ?_ )
  rw [eL]
  refine AWP.loop (fun a : Nat => [(0, intsV fl), (1, knownV L), (2, crV l), (9, .sc (.int .i64 fl.length)), (34, knownV L), (35, .sc (.int .i64 L.length)), (36, .sc (.int .i64 a))]) (fun _ => []) (fun a => a ≤ L.length ∧ badK fl.length (L.take a) = false) (fun a => L.length - a) 0 ⟨Nat.zero_le _, rfl⟩ ?_ ?_
  · exact Sub.none ⟨.pure (pure_ints fl), .pure (pure_knownV L), .pure (pure_cr l), .int rfl, .pure (pure_knownV L), .int rfl, .int rfl, trivial⟩
  rintro a ⟨ha, hba⟩
  have ha1 : IntKind.i64.wrap ((a : Int) + 1) = ((a + 1 : Nat) : Int) := by rw [wrap_small (by omega) (by omega)]; omega
  repeat (first | refine Reg.o rfl rfl ?_ | refine Reg.on rfl rfl ?_ | refine Reg.s rfl ?_ | refine Reg.sn rfl ?_ | refine Reg.nil ?_ | refine DK.o rfl rfl ?_ | refine DK.on rfl rfl ?_ | refine DK.s rfl ?_ | refine DK.sn rfl ?_ | refine AWP.seq ?_ | refine AWP.region ?_ | refine AWP.dk mixed ?_ | refine AWP.condT rfl ?_ | refine AWP.condF rfl ?_ | refine AWP.skip ?_ | refine AWP.ret ?_ | refine AWP.exit ?_ | refine AWP.block ?_ )
  refine AWP.cond rfl (fun h => ?_) (fun h => ?_)
  · have hal : a < L.length := by simpa using h
    have hra : rowIx (L.map fun ks => [intsV ks]) (a : Int) = some [intsV L[a]] := rowIx_map _ L a hal
    have h1 := hks L[a] (List.getElem_mem hal)
    have hmem := List.getElem_mem hal
    have hbs : badK fl.length (L.take (a + 1)) = (badK fl.length (L.take a) || L[a].any (badX fl.length)) := by
      unfold badK
      rw [List.take_succ_eq_append_getElem hal, List.any_append]
      simp
    generalize L[a] = ks at hra h1 hbs hmem
    have eK : (intsR ks).length = ks.length := by simp [intsR]
    repeat (first | refine Reg.o rfl rfl ?_ | refine Reg.on rfl rfl ?_ | refine Reg.s rfl ?_ | refine Reg.sn rfl ?_ | refine Reg.nil ?_ | refine DK.o rfl rfl ?_ | refine DK.on rfl rfl ?_ | refine DK.s rfl ?_ | refine DK.sn rfl ?_ | refine AWP.seq ?_ | refine AWP.region ?_ | refine AWP.dk mixed ?_ | refine AWP.condT rfl ?_ | refine AWP.condF rfl ?_ | refine AWP.skip ?_ | refine AWP.ret ?_ | refine AWP.exit ?_ | refine AWP.block ?_ )
    refine Reg.o rfl (dstep_idxSl rfl rfl hra) ?_
    repeat (first | refine Reg.o rfl rfl ?_ | refine Reg.on rfl rfl ?_ | refine Reg.s rfl ?_ | refine Reg.sn rfl ?_ | refine Reg.nil ?_ | refine DK.o rfl rfl ?_ | refine DK.on rfl rfl ?_ | refine DK.s rfl ?_ | refine DK.sn rfl ?_ | refine AWP.seq ?_ | refine AWP.region ?_ | refine AWP.dk mixed ?_ | refine AWP.condT rfl ?_ | refine AWP.condF rfl ?_ | refine AWP.skip ?_ | refine AWP.ret ?_ | refine AWP.exit ?_ | refine AWP.block ?_ )
    rw [eK]
    refine AWP.loop (fun b : Nat => [(0, intsV fl), (1, knownV L), (2, crV l), (9, .sc (.int .i64 fl.length)), (34, knownV L), (35, .sc (.int .i64 L.length)), (36, .sc (.int .i64 a)), (40, intsV ks), (41, .sc (.int .i64 ks.length)), (42, .sc (.int .i64 b))]) (fun _ => []) (fun b => b ≤ ks.length ∧ (ks.take b).any (badX fl.length) = false) (fun b => ks.length - b) 0 ⟨Nat.zero_le _, rfl⟩ ?_ ?_
    · exact Sub.none ⟨.pure (pure_ints fl), .pure (pure_knownV L), .pure (pure_cr l), .int rfl, .pure (pure_knownV L), .int rfl, .int rfl, .pure (pure_ints ks), .int rfl, .int rfl, trivial⟩
    rintro b ⟨hb, hbb⟩
    have hb1 : IntKind.i64.wrap ((b : Int) + 1) = ((b + 1 : Nat) : Int) := by rw [wrap_small (by omega) (by omega)]; omega
    repeat (first | refine Reg.o rfl rfl ?_ | refine Reg.on rfl rfl ?_ | refine Reg.s rfl ?_ | refine Reg.sn rfl ?_ | refine Reg.nil ?_ | refine DK.o rfl rfl ?_ | refine DK.on rfl rfl ?_ | refine DK.s rfl ?_ | refine DK.sn rfl ?_ | refine AWP.seq ?_ | refine AWP.region ?_ | refine AWP.dk mixed ?_ | refine AWP.condT rfl ?_ | refine AWP.condF rfl ?_ | refine AWP.skip ?_ | refine AWP.ret ?_ | refine AWP.exit ?_ | refine AWP.block ?_ )
    refine AWP.cond rfl (fun h => ?_) (fun h => ?_)
    · have hbl : b < ks.length := by simpa using h
      have hrb : rowIx (intsR ks) (b : Int) = some [.sc (.int .i64 ks[b])] := rowIx_map _ ks b hbl
      have hxm := List.getElem_mem hbl
      have hbs2 : (ks.take (b + 1)).any (badX fl.length) = ((ks.take b).any (badX fl.length) || badX fl.length ks[b]) := by
        rw [List.take_succ_eq_append_getElem hbl, List.any_append]
        simp
      generalize ks[b] = x at hrb hbs2 hxm
      have hbad : badX fl.length x = true → agreeR fl L l = ([], 0, 11) := by
        intro hx
        have : badK fl.length L = true := by
          unfold badK
          rw [List.any_eq_true]
          exact ⟨ks, hmem, by rw [List.any_eq_true]; exact ⟨x, hxm, hx⟩⟩
        unfold agreeR
        rw [if_neg hq1, if_neg hq2, if_pos this]
      repeat (first | refine Reg.o rfl rfl ?_ | refine Reg.on rfl rfl ?_ | refine Reg.s rfl ?_ | refine Reg.sn rfl ?_ | refine Reg.nil ?_ | refine DK.o rfl rfl ?_ | refine DK.on rfl rfl ?_ | refine DK.s rfl ?_ | refine DK.sn rfl ?_ | refine AWP.seq ?_ | refine AWP.region ?_ | refine AWP.dk mixed ?_ | refine AWP.condT rfl ?_ | refine AWP.condF rfl ?_ | refine AWP.skip ?_ | refine AWP.ret ?_ | refine AWP.exit ?_ | refine AWP.block ?_ )
      refine Reg.o rfl (dstep_idxSl rfl rfl hrb) ?_
      repeat (first | refine Reg.o rfl rfl ?_ | refine Reg.on rfl rfl ?_ | refine Reg.s rfl ?_ | refine Reg.sn rfl ?_ | refine Reg.nil ?_ | refine DK.o rfl rfl ?_ | refine DK.on rfl rfl ?_ | refine DK.s rfl ?_ | refine DK.sn rfl ?_ | refine AWP.seq ?_ | refine AWP.region ?_ | refine AWP.dk mixed ?_ | refine AWP.condT rfl ?_ | refine AWP.condF rfl ?_ | refine AWP.skip ?_ | refine AWP.ret ?_ | refine AWP.exit ?_ | refine AWP.block ?_ )
      refine Reg.gs rfl (fun g => ?_) (fun g => ?_)
      · repeat (first | refine Reg.o rfl rfl ?_ | refine Reg.on rfl rfl ?_ | refine Reg.s rfl ?_ | refine Reg.sn rfl ?_ | refine Reg.nil ?_ | refine DK.o rfl rfl ?_ | refine DK.on rfl rfl ?_ | refine DK.s rfl ?_ | refine DK.sn rfl ?_ | refine AWP.seq ?_ | refine AWP.region ?_ | refine AWP.dk mixed ?_ | refine AWP.condT rfl ?_ | refine AWP.condF rfl ?_ | refine AWP.skip ?_ | refine AWP.ret ?_ | refine AWP.exit ?_ | refine AWP.block ?_ )
        refine fin_nilA (.inr rfl) rfl 4 (pure_nilA _ _) ?_
        rw [hbad (by unfold badX; rw [g]; rfl)]
        rfl
      · repeat (first | refine Reg.o rfl rfl ?_ | refine Reg.on rfl rfl ?_ | refine Reg.s rfl ?_ | refine Reg.sn rfl ?_ | refine Reg.nil ?_ | refine DK.o rfl rfl ?_ | refine DK.on rfl rfl ?_ | refine DK.s rfl ?_ | refine DK.sn rfl ?_ | refine AWP.seq ?_ | refine AWP.region ?_ | refine AWP.dk mixed ?_ | refine AWP.condT rfl ?_ | refine AWP.condF rfl ?_ | refine AWP.skip ?_ | refine AWP.ret ?_ | refine AWP.exit ?_ | refine AWP.block ?_ )
        refine AWP.cond rfl (fun g2 => ?_) (fun g2 => ?_)
        · repeat (first | refine Reg.o rfl rfl ?_ | refine Reg.on rfl rfl ?_ | refine Reg.s rfl ?_ | refine Reg.sn rfl ?_ | refine Reg.nil ?_ | refine DK.o rfl rfl ?_ | refine DK.on rfl rfl ?_ | refine DK.s rfl ?_ | refine DK.sn rfl ?_ | refine AWP.seq ?_ | refine AWP.region ?_ | refine AWP.dk mixed ?_ | refine AWP.condT rfl ?_ | refine AWP.condF rfl ?_ | refine AWP.skip ?_ | refine AWP.ret ?_ | refine AWP.exit ?_ | refine AWP.block ?_ )
          refine fin_nilA (.inr rfl) rfl 4 (pure_nilA _ _) ?_
          rw [hbad (by unfold badX; rw [g2, Bool.or_true])]
          rfl
        · repeat (first | refine Reg.o rfl rfl ?_ | refine Reg.on rfl rfl ?_ | refine Reg.s rfl ?_ | refine Reg.sn rfl ?_ | refine Reg.nil ?_ | refine DK.o rfl rfl ?_ | refine DK.on rfl rfl ?_ | refine DK.s rfl ?_ | refine DK.sn rfl ?_ | refine AWP.seq ?_ | refine AWP.region ?_ | refine AWP.dk mixed ?_ | refine AWP.condT rfl ?_ | refine AWP.condF rfl ?_ | refine AWP.skip ?_ | refine AWP.ret ?_ | refine AWP.exit ?_ | refine AWP.block ?_ )
          exact ⟨b + 1, ⟨by omega, by rw [hbs2, hbb]; unfold badX; rw [g, g2]; rfl⟩, by omega, Sub.none ⟨.pure (pure_ints fl), .pure (pure_knownV L), .pure (pure_cr l), .int rfl, .pure (pure_knownV L), .int rfl, .int rfl, .pure (pure_ints ks), .int rfl, .int hb1, trivial⟩⟩
    · have hbk : b = ks.length := by
        have : ¬ b < ks.length := by simpa using h
        omega
      rw [hbk, List.take_of_length_le (Nat.le_refl _)] at hbb
      repeat (first | refine Reg.o rfl rfl ?_ | refine Reg.on rfl rfl ?_ | refine Reg.s rfl ?_ | refine Reg.sn rfl ?_ | refine Reg.nil ?_ | refine DK.o rfl rfl ?_ | refine DK.on rfl rfl ?_ | refine DK.s rfl ?_ | refine DK.sn rfl ?_ | refine AWP.seq ?_ | refine AWP.region ?_ | refine AWP.dk mixed ?_ | refine AWP.condT rfl ?_ | refine AWP.condF rfl ?_ | refine AWP.skip ?_ | refine AWP.ret ?_ | refine AWP.exit ?_ | refine AWP.block ?_ )
      exact ⟨a + 1, ⟨by omega, by rw [hbs, hba, hbb]; rfl⟩, by omega, Sub.none ⟨.pure (pure_ints fl), .pure (pure_knownV L), .pure (pure_cr l), .int rfl, .pure (pure_knownV L), .int rfl, .int ha1, trivial⟩⟩
  · have haL : a = L.length := by
      have : ¬ a < L.length := by simpa using h
      omega
    rw [haL, List.take_of_length_le (Nat.le_refl _)] at hba
    have hq3 : ¬ badK fl.length L = true := by rw [hba]; decide
    have hAR : agreeR fl L l = ((List.range fl.length).map fun i => rpOf fl L (prAt (agreeGo fl.length l (l.length + 2) 0 (init0 fl.length)).1 i), (agreeGo fl.length l (l.length + 2) 0 (init0 fl.length)).2, 0) := by
      unfold agreeR
      rw [if_neg hq1, if_neg hq2, if_neg hq3]
    rw [hAR]
    have hflE : ∃ n, n = fl.length := ⟨_, rfl⟩
    obtain ⟨n, hnE⟩ := hflE
    have hn1' : 1 ≤ n := by omega
    have hn64' : n ≤ 64 := by omega
    repeat (first | refine Reg.o rfl rfl ?_ | refine Reg.on rfl rfl ?_ | refine Reg.s rfl ?_ | refine Reg.sn rfl ?_ | refine Reg.nil ?_ | refine DK.o rfl rfl ?_ | refine DK.on rfl rfl ?_ | refine DK.s rfl ?_ | refine DK.sn rfl ?_ | refine AWP.seq ?_ | refine AWP.region ?_ | refine AWP.dk mixed ?_ | refine AWP.condT rfl ?_ | refine AWP.condF rfl ?_ | refine AWP.skip ?_ | refine AWP.ret ?_ | refine AWP.exit ?_ | refine AWP.block ?_ )
    rw [← hnE] at hg ⊢
    refine Reg.c (Nat.le_refl _) rfl (CallOK.ofPure (PureRun.of (allPure_cons (.sc _) (allPure_cons (pure_cr l) allPure_nil)) (pure_sch n l) (scheduled_ok n l hl hd)) _ ?_)
    repeat (first | refine Reg.o rfl rfl ?_ | refine Reg.on rfl rfl ?_ | refine Reg.s rfl ?_ | refine Reg.sn rfl ?_ | refine Reg.nil ?_ | refine DK.o rfl rfl ?_ | refine DK.on rfl rfl ?_ | refine DK.s rfl ?_ | refine DK.sn rfl ?_ | refine AWP.seq ?_ | refine AWP.region ?_ | refine AWP.dk mixed ?_ | refine AWP.condT rfl ?_ | refine AWP.condF rfl ?_ | refine AWP.skip ?_ | refine AWP.ret ?_ | refine AWP.exit ?_ | refine AWP.block ?_ )
    refine Reg.o rfl (dstep_mk (n := n) rfl (by omega) (by omega)) ?_
    repeat (first | refine Reg.o rfl rfl ?_ | refine Reg.on rfl rfl ?_ | refine Reg.s rfl ?_ | refine Reg.sn rfl ?_ | refine Reg.nil ?_ | refine DK.o rfl rfl ?_ | refine DK.on rfl rfl ?_ | refine DK.s rfl ?_ | refine DK.sn rfl ?_ | refine AWP.seq ?_ | refine AWP.region ?_ | refine AWP.dk mixed ?_ | refine AWP.condT rfl ?_ | refine AWP.condF rfl ?_ | refine AWP.skip ?_ | refine AWP.ret ?_ | refine AWP.exit ?_ | refine AWP.block ?_ )
    refine AWP.loop (fun k : Nat => [(0, intsV fl), (1, knownV L), (9, .sc (.int .i64 n)), (15, .ptr 2 0 0 0), (16, .ptr 0 0 0 0), (61, .sc (.int .i64 n)), (62, .sc (.int .i64 k))]) (fun k => [[boxB n], [procsB (initK n k)], [X42.schB n l]]) (fun k => k ≤ n) (fun k => n - k) 0 (Nat.zero_le _) ?_ ?_
    · refine Sub.re [[(2, 0)], [(1, 0)], [(0, 0)]] rfl rfl rfl ⟨⟨⟨_, rfl, RenB.one (sz := 1) (xs := [.hsl 1 0 0 n]) ⟨.hsl _ _ _ _ _ _ rfl, trivial⟩⟩, trivial⟩, ⟨⟨_, rfl, RenB.rows (rows := List.replicate n (zrow [(128, .bool false), (1, .int .i64 0), (1, .bool false)])) ?_ (pure_procs _)⟩, trivial⟩,
        ⟨⟨_, rfl, RenB.pure 2 _ (pure_schA n l)⟩, trivial⟩, trivial⟩ ⟨.pure (pure_ints fl), .pure (pure_knownV L), .int rfl, .ptr _ _ _ _ _ _ rfl, .ptr _ _ _ _ _ _ rfl, .int rfl, .int rfl, trivial⟩
      have e1 : zrow [(128, .bool false), (1, .int .i64 0), (1, .bool false)] = prRow noPr2 := rfl
      rw [e1]
      unfold initK
      rw [List.map_map]
      refine List.ext_getElem? fun j => ?_
      by_cases hj : j < n
      · simp [hj]
      · rw [List.getElem?_eq_none (by simp; omega), List.getElem?_eq_none (by simp; omega)]
    intro k hk
    have hk1 : IntKind.i64.wrap ((k : Int) + 1) = ((k + 1 : Nat) : Int) := by rw [wrap_small (by omega) (by omega)]; omega
    repeat (first | refine Reg.o rfl rfl ?_ | refine Reg.on rfl rfl ?_ | refine Reg.s rfl ?_ | refine Reg.sn rfl ?_ | refine Reg.nil ?_ | refine DK.o rfl rfl ?_ | refine DK.on rfl rfl ?_ | refine DK.s rfl ?_ | refine DK.sn rfl ?_ | refine AWP.seq ?_ | refine AWP.region ?_ | refine AWP.dk mixed ?_ | refine AWP.condT rfl ?_ | refine AWP.condF rfl ?_ | refine AWP.skip ?_ | refine AWP.ret ?_ | refine AWP.exit ?_ | refine AWP.block ?_ )
    refine AWP.cond rfl (fun h => ?_) (fun h => ?_)
    · have hkn : k < n := by simpa using h
      have hk64 : k < 64 := by omega
      have hg0 : (initK n k)[k]? = some noPr2 := by rw [initK_get hkn, if_neg (Nat.lt_irrefl k)]
      have hrow0 : ((initK n k).map prRow)[0 + k]? = some (prRow noPr2) := by rw [Nat.zero_add]; exact procs_get hg0
      repeat (first | refine Reg.o rfl rfl ?_ | refine Reg.on rfl rfl ?_ | refine Reg.s rfl ?_ | refine Reg.sn rfl ?_ | refine Reg.nil ?_ | refine DK.o rfl rfl ?_ | refine DK.on rfl rfl ?_ | refine DK.s rfl ?_ | refine DK.sn rfl ?_ | refine AWP.seq ?_ | refine AWP.region ?_ | refine AWP.dk mixed ?_ | refine AWP.condT rfl ?_ | refine AWP.condF rfl ?_ | refine AWP.skip ?_ | refine AWP.ret ?_ | refine AWP.exit ?_ | refine AWP.block ?_ )
      refine DK.c rfl (PureRun.of (allPure_cons (.sc _) allPure_nil) (.agg _ (pure_bset _ _)) (first_ok n hn64')) ?_
      repeat (first | refine Reg.o rfl rfl ?_ | refine Reg.on rfl rfl ?_ | refine Reg.s rfl ?_ | refine Reg.sn rfl ?_ | refine Reg.nil ?_ | refine DK.o rfl rfl ?_ | refine DK.on rfl rfl ?_ | refine DK.s rfl ?_ | refine DK.sn rfl ?_ | refine AWP.seq ?_ | refine AWP.region ?_ | refine AWP.dk mixed ?_ | refine AWP.condT rfl ?_ | refine AWP.condF rfl ?_ | refine AWP.skip ?_ | refine AWP.ret ?_ | refine AWP.exit ?_ | refine AWP.block ?_ )
      refine DK.o rfl (dstep_idxH (q := k) rfl rfl rfl hkn (by simp [initK_len])) ?_
      repeat (first | refine Reg.o rfl rfl ?_ | refine Reg.on rfl rfl ?_ | refine Reg.s rfl ?_ | refine Reg.sn rfl ?_ | refine Reg.nil ?_ | refine DK.o rfl rfl ?_ | refine DK.on rfl rfl ?_ | refine DK.s rfl ?_ | refine DK.sn rfl ?_ | refine AWP.seq ?_ | refine AWP.region ?_ | refine AWP.dk mixed ?_ | refine AWP.condT rfl ?_ | refine AWP.condF rfl ?_ | refine AWP.skip ?_ | refine AWP.ret ?_ | refine AWP.exit ?_ | refine AWP.block ?_ )
      refine DK.o rfl (dstep_idxArr (q := k) rfl rfl rfl hk64) ?_
      refine DK.on rfl (dstep_stN rfl rfl rfl hrow0 rfl (by rw [pr_len]; omega) rfl) ?_
      have e3 : ((initK n k).map prRow).set (0 + k) (lsplice (prRow noPr2) (0 + 0 + k * 1) [AV.sc (.bool true)]) = ((initK n k).set k { noPr2 with w := fun i => if i = k then true else noPr2.w i }).map prRow := by
        rw [← procs_set, Nat.zero_add, Nat.zero_add, Nat.mul_one, pr_wset noPr2 hk64]
      have hrow1 : (((initK n k).set k { noPr2 with w := fun i => if i = k then true else noPr2.w i }).map prRow)[0 + k]? = some (prRow { noPr2 with w := fun i => if i = k then true else noPr2.w i }) := by
        rw [Nat.zero_add]
        exact procs_get (List.getElem?_set_self (by rw [initK_len]; exact hkn))
      rw [e3]
      refine DK.o rfl (dstep_idxH (q := k) rfl rfl rfl hkn (by simp [initK_len])) ?_
      repeat (first | refine Reg.o rfl rfl ?_ | refine Reg.on rfl rfl ?_ | refine Reg.s rfl ?_ | refine Reg.sn rfl ?_ | refine Reg.nil ?_ | refine DK.o rfl rfl ?_ | refine DK.on rfl rfl ?_ | refine DK.s rfl ?_ | refine DK.sn rfl ?_ | refine AWP.seq ?_ | refine AWP.region ?_ | refine AWP.dk mixed ?_ | refine AWP.condT rfl ?_ | refine AWP.condF rfl ?_ | refine AWP.skip ?_ | refine AWP.ret ?_ | refine AWP.exit ?_ | refine AWP.block ?_ )
      refine DK.on rfl (dstep_stN (cs := bset 64 fun i => decide (i < n)) rfl rfl rfl hrow1 (bset_len _ _) (by rw [pr_len]; omega) (bset_cell1 _ _)) ?_
      refine DK.nil ⟨by kernel_rfl, ?_⟩
      repeat (first | refine Reg.o rfl rfl ?_ | refine Reg.on rfl rfl ?_ | refine Reg.s rfl ?_ | refine Reg.sn rfl ?_ | refine Reg.nil ?_ | refine DK.o rfl rfl ?_ | refine DK.on rfl rfl ?_ | refine DK.s rfl ?_ | refine DK.sn rfl ?_ | refine AWP.seq ?_ | refine AWP.region ?_ | refine AWP.dk mixed ?_ | refine AWP.condT rfl ?_ | refine AWP.condF rfl ?_ | refine AWP.skip ?_ | refine AWP.ret ?_ | refine AWP.exit ?_ | refine AWP.block ?_ )
      refine ⟨k + 1, by omega, by omega, Sub.re [[(0, 0)], [(1, 0)], [(2, 0)]] rfl rfl rfl ⟨⟨⟨_, rfl, RenB.one (sz := 1) (xs := [.hsl 1 0 0 n]) ⟨.hsl _ _ _ _ _ _ rfl, trivial⟩⟩, trivial⟩, ⟨⟨_, rfl, RenB.rows (rows := (((initK n k).set k { noPr2 with w := fun i => if i = k then true else noPr2.w i }).map prRow).set (0 + k) (lsplice (prRow { noPr2 with w := fun i => if i = k then true else noPr2.w i }) (0 + 64) (bset 64 fun i => decide (i < n)))) ?_ (pure_procs _)⟩, trivial⟩,
        ⟨⟨_, rfl, RenB.pure 2 _ (pure_schA n l)⟩, trivial⟩, trivial⟩ ⟨.pure (pure_ints fl), .pure (pure_knownV L), .int rfl, .ptr _ _ _ _ _ _ rfl, .ptr _ _ _ _ _ _ rfl, .int rfl, .int hk1, trivial⟩⟩
      rw [Nat.zero_add, Nat.zero_add, pr_seth]
      have e4 : prRow { w := fun i => if i = k then true else noPr2.w i, h := fun j => decide (j < n), dec := noPr2.dec, done := noPr2.done } = prRow (pr0 n k) := row_pr0
      rw [e4, procs_set, List.set_set, initK_set hkn]
    · have hkn : k = n := by
        have : ¬ k < n := by simpa using h
        omega
      subst hkn
      rw [initK_end]
      have hI0 := AInv.init k l
      repeat (first | refine Reg.o rfl rfl ?_ | refine Reg.on rfl rfl ?_ | refine Reg.s rfl ?_ | refine Reg.sn rfl ?_ | refine Reg.nil ?_ | refine DK.o rfl rfl ?_ | refine DK.on rfl rfl ?_ | refine DK.s rfl ?_ | refine DK.sn rfl ?_ | refine AWP.seq ?_ | refine AWP.region ?_ | refine AWP.dk mixed ?_ | refine AWP.condT rfl ?_ | refine AWP.condF rfl ?_ | refine AWP.skip ?_ | refine AWP.ret ?_ | refine AWP.exit ?_ | refine AWP.block ?_ )
      refine AWP.loop (σ := Nat × Nat × List Pr) (fun s => [(0, intsV fl), (1, knownV L), (9, .sc (.int .i64 k)), (15, .ptr 3 0 0 0), (16, .ptr 0 0 0 0), (18, .ptr 2 0 0 0), (19, .clo (.func 40) [] [.ptr 0 0 0 0, .ptr 3 0 0 0, .ptr 2 0 0 0])]) (fun s => hp4 k l s.2.1 s.2.2)
        (fun s => s.2.1 + s.1 = l.length + 2 ∧ AInv k l s.2.1 s.2.2 ∧ agreeGo k l (l.length + 2) 0 (init0 k) = agreeGo k l s.1 s.2.1 s.2.2) (fun s => s.1) (l.length + 2, 0, init0 k) ⟨by simp, hI0, rfl⟩ ?_ ?_
      · exact Sub.re [[(0, 0)], [(1, 0)], [(3, 0)], [(2, 0)]] rfl rfl rfl ⟨⟨⟨_, rfl, RenB.one (sz := 1) (xs := [.hsl 1 0 0 k]) ⟨.hsl _ _ _ _ _ _ rfl, trivial⟩⟩, trivial⟩, ⟨⟨_, rfl, RenB.rows (rows := (init0 k).map prRow) rfl (pure_procs _)⟩, trivial⟩,
          ⟨⟨_, rfl, RenB.one (sz := 1) (xs := [.sc (.int .i64 0)]) ⟨.sc _, trivial⟩⟩, trivial⟩, ⟨⟨_, rfl, RenB.pure 2 _ (pure_schA k l)⟩, trivial⟩, trivial⟩
          ⟨.pure (pure_ints fl), .pure (pure_knownV L), .int rfl, .ptr _ _ _ _ _ _ rfl, .ptr _ _ _ _ _ _ rfl, .ptr _ _ _ _ _ _ rfl, Ren.cloOf ⟨.ptr _ _ _ _ _ _ rfl, .ptr _ _ _ _ _ _ rfl, .ptr _ _ _ _ _ _ rfl, trivial⟩, trivial⟩
      rintro ⟨f, r, ps⟩ ⟨hrf, hI, hgo⟩
      simp only at hrf hI hgo
      have hlen := hI.len
      repeat (first | refine Reg.o rfl rfl ?_ | refine Reg.on rfl rfl ?_ | refine Reg.s rfl ?_ | refine Reg.sn rfl ?_ | refine Reg.nil ?_ | refine DK.o rfl rfl ?_ | refine DK.on rfl rfl ?_ | refine DK.s rfl ?_ | refine DK.sn rfl ?_ | refine AWP.seq ?_ | refine AWP.region ?_ | refine AWP.dk mixed ?_ | refine AWP.condT rfl ?_ | refine AWP.condF rfl ?_ | refine AWP.skip ?_ | refine AWP.ret ?_ | refine AWP.exit ?_ | refine AWP.block ?_ )
      refine Reg.cv (Nat.zero_le _) rfl rfl ((busy_ok (l := l) (r := r) hn64' hlen).mono ?_)
      rintro res H' ⟨rfl, rfl⟩
      repeat (first | refine Reg.o rfl rfl ?_ | refine Reg.on rfl rfl ?_ | refine Reg.s rfl ?_ | refine Reg.sn rfl ?_ | refine Reg.nil ?_ | refine DK.o rfl rfl ?_ | refine DK.on rfl rfl ?_ | refine DK.s rfl ?_ | refine DK.sn rfl ?_ | refine AWP.seq ?_ | refine AWP.region ?_ | refine AWP.dk mixed ?_ | refine AWP.condT rfl ?_ | refine AWP.condF rfl ?_ | refine AWP.skip ?_ | refine AWP.ret ?_ | refine AWP.exit ?_ | refine AWP.block ?_ )
      refine AWP.cond rfl (fun hb => ?_) (fun hb => ?_)
      · have hbd := hI.busy hb
        obtain ⟨f', rfl⟩ : ∃ f', f = f' + 1 := ⟨f - 1, by omega⟩
        unfold hp4
        repeat (first | refine Reg.o rfl rfl ?_ | refine Reg.on rfl rfl ?_ | refine Reg.s rfl ?_ | refine Reg.sn rfl ?_ | refine Reg.nil ?_ | refine DK.o rfl rfl ?_ | refine DK.on rfl rfl ?_ | refine DK.s rfl ?_ | refine DK.sn rfl ?_ | refine AWP.seq ?_ | refine AWP.region ?_ | refine AWP.dk mixed ?_ | refine AWP.condT rfl ?_ | refine AWP.condF rfl ?_ | refine AWP.skip ?_ | refine AWP.ret ?_ | refine AWP.exit ?_ | refine AWP.block ?_ )
        have hr1 : IntKind.i64.wrap ((r : Int) + 1) = ((r + 1 : Nat) : Int) := by rw [wrap_small (by omega) (by omega)]; omega
        have hl64 := good_lenA (n := k) (l := l) (by rw [hnE]; exact hc')
        rw [hr1]
        refine Reg.c (Nat.zero_le _) rfl ((roundA_ok (X := [[X42.schB k l]]) hn1' hn64' ⟨by omega, by omega⟩ (fun i hi => by have := reach_bounds hg hn1' i ((r + 1 : Nat) : Int); omega) hlen).mono ?_)
        rintro res H' ⟨rfl, rfl⟩
        have hst := hI.step (by omega)
        rw [show (r : Int) + 1 = ((r + 1 : Nat) : Int) by omega] at hst
        repeat (first | refine Reg.o rfl rfl ?_ | refine Reg.on rfl rfl ?_ | refine Reg.s rfl ?_ | refine Reg.sn rfl ?_ | refine Reg.nil ?_ | refine DK.o rfl rfl ?_ | refine DK.on rfl rfl ?_ | refine DK.s rfl ?_ | refine DK.sn rfl ?_ | refine AWP.seq ?_ | refine AWP.region ?_ | refine AWP.dk mixed ?_ | refine AWP.condT rfl ?_ | refine AWP.condF rfl ?_ | refine AWP.skip ?_ | refine AWP.ret ?_ | refine AWP.exit ?_ | refine AWP.block ?_ )
        refine ⟨(f', r + 1, stepA k l ((r + 1 : Nat) : Int) ps), ⟨by simp only; omega, hst, ?_⟩, Nat.lt_succ_self _, ?_⟩
        · rw [hgo]
          conv => lhs; unfold agreeGo
          rw [if_pos hb]
          rfl
        · exact Sub.re [[(0, 0)], [(1, 0)], [(2, 0)], [(3, 0)]] rfl rfl rfl ⟨⟨⟨_, rfl, RenB.one (sz := 1) (xs := [.hsl 1 0 0 k]) ⟨.hsl _ _ _ _ _ _ rfl, trivial⟩⟩, trivial⟩, ⟨⟨_, rfl, RenB.rows (rows := (stepA k l ((r + 1 : Nat) : Int) ps).map prRow) rfl (pure_procs _)⟩, trivial⟩,
            ⟨⟨_, rfl, RenB.one (sz := 1) (xs := [.sc (.int .i64 ((r + 1 : Nat) : Int))]) ⟨.sc _, trivial⟩⟩, trivial⟩, ⟨⟨_, rfl, RenB.pure 2 _ (pure_schA k l)⟩, trivial⟩, trivial⟩
            ⟨.pure (pure_ints fl), .pure (pure_knownV L), .int rfl, .ptr _ _ _ _ _ _ rfl, .ptr _ _ _ _ _ _ rfl, .ptr _ _ _ _ _ _ rfl, Ren.cloOf ⟨.ptr _ _ _ _ _ _ rfl, .ptr _ _ _ _ _ _ rfl, .ptr _ _ _ _ _ _ rfl, trivial⟩, trivial⟩
      · have hend : agreeGo k l f r ps = (ps, (r : Int)) := by
          cases f with
          | zero => rfl
          | succ f =>
            unfold agreeGo
            rw [if_neg (by rw [hb]; decide)]
        rw [hend] at hgo
        unfold hp4
        repeat (first | refine Reg.o rfl rfl ?_ | refine Reg.on rfl rfl ?_ | refine Reg.s rfl ?_ | refine Reg.sn rfl ?_ | refine Reg.nil ?_ | refine DK.o rfl rfl ?_ | refine DK.on rfl rfl ?_ | refine DK.s rfl ?_ | refine DK.sn rfl ?_ | refine AWP.seq ?_ | refine AWP.region ?_ | refine AWP.dk mixed ?_ | refine AWP.condT rfl ?_ | refine AWP.condF rfl ?_ | refine AWP.skip ?_ | refine AWP.ret ?_ | refine AWP.exit ?_ | refine AWP.block ?_ )
        refine Reg.o rfl (dstep_mk (n := k) rfl (by omega) (by omega)) ?_
        repeat (first | refine Reg.o rfl rfl ?_ | refine Reg.on rfl rfl ?_ | refine Reg.s rfl ?_ | refine Reg.sn rfl ?_ | refine Reg.nil ?_ | refine DK.o rfl rfl ?_ | refine DK.on rfl rfl ?_ | refine DK.s rfl ?_ | refine DK.sn rfl ?_ | refine AWP.seq ?_ | refine AWP.region ?_ | refine AWP.dk mixed ?_ | refine AWP.condT rfl ?_ | refine AWP.condF rfl ?_ | refine AWP.skip ?_ | refine AWP.ret ?_ | refine AWP.exit ?_ | refine AWP.block ?_ )
        have hbx : ∀ ks ∈ L, ∀ x ∈ ks, 0 ≤ x ∧ x < 64 := by
          intro ks h1 x h2
          have h3 : badX fl.length x = false := by
            cases e : badX fl.length x with
            | false => rfl
            | true =>
              exfalso
              refine hq3 ?_
              unfold badK
              rw [List.any_eq_true]
              exact ⟨ks, h1, by rw [List.any_eq_true]; exact ⟨x, h2, e⟩⟩
          unfold badX at h3
          simp at h3
          omega
        refine AWP.loop (fun i : Nat => [(0, intsV fl), (1, knownV L), (16, .ptr 0 0 0 0), (18, .ptr 2 0 0 0), (20, .hsl 3 0 0 k), (91, .sc (.int .i64 k)), (92, .sc (.int .i64 i))]) (fun i => [[boxB k], [procsB ps], [oneB (.int .i64 r)], [.cells 4 (outR fl L ps k i)]]) (fun i => i ≤ k) (fun i => k - i) 0 (Nat.zero_le _) ?_ ?_
        · refine Sub.re [[(0, 0)], [(1, 0)], [(2, 0)], [(4, 0)]] rfl rfl rfl ⟨⟨⟨_, rfl, RenB.one (sz := 1) (xs := [.hsl 1 0 0 k]) ⟨.hsl _ _ _ _ _ _ rfl, trivial⟩⟩, trivial⟩, ⟨⟨_, rfl, RenB.rows (rows := ps.map prRow) rfl (pure_procs _)⟩, trivial⟩,
            ⟨⟨_, rfl, RenB.one (sz := 1) (xs := [.sc (.int .i64 r)]) ⟨.sc _, trivial⟩⟩, trivial⟩, ⟨⟨_, rfl, RenB.rows (rows := List.replicate k z4) ?_ (pure_outR fl L ps k 0)⟩, trivial⟩, trivial⟩
            ⟨.pure (pure_ints fl), .pure (pure_knownV L), .ptr _ _ _ _ _ _ rfl, .ptr _ _ _ _ _ _ rfl, .hsl _ _ _ _ _ _ rfl, .int rfl, .int rfl, trivial⟩
          simp [outR, List.map_const']
        intro i hi
        have hi1 : IntKind.i64.wrap ((i : Int) + 1) = ((i + 1 : Nat) : Int) := by rw [wrap_small (by omega) (by omega)]; omega
        repeat (first | refine Reg.o rfl rfl ?_ | refine Reg.on rfl rfl ?_ | refine Reg.s rfl ?_ | refine Reg.sn rfl ?_ | refine Reg.nil ?_ | refine DK.o rfl rfl ?_ | refine DK.on rfl rfl ?_ | refine DK.s rfl ?_ | refine DK.sn rfl ?_ | refine AWP.seq ?_ | refine AWP.region ?_ | refine AWP.dk mixed ?_ | refine AWP.condT rfl ?_ | refine AWP.condF rfl ?_ | refine AWP.skip ?_ | refine AWP.ret ?_ | refine AWP.exit ?_ | refine AWP.block ?_ )
        refine AWP.cond rfl (fun h => ?_) (fun h => ?_)
        · have hik : i < k := by simpa using h
          obtain ⟨p, hp⟩ : ∃ p, ps[i]? = some p := ⟨_, List.getElem?_eq_getElem (by omega)⟩
          have hat : prAt ps i = p := by unfold prAt; rw [hp]; rfl
          have hrow0 : (ps.map prRow)[0 + i]? = some (prRow p) := by rw [Nat.zero_add]; exact procs_get hp
          repeat (first | refine Reg.o rfl rfl ?_ | refine Reg.on rfl rfl ?_ | refine Reg.s rfl ?_ | refine Reg.sn rfl ?_ | refine Reg.nil ?_ | refine DK.o rfl rfl ?_ | refine DK.on rfl rfl ?_ | refine DK.s rfl ?_ | refine DK.sn rfl ?_ | refine AWP.seq ?_ | refine AWP.region ?_ | refine AWP.dk mixed ?_ | refine AWP.condT rfl ?_ | refine AWP.condF rfl ?_ | refine AWP.skip ?_ | refine AWP.ret ?_ | refine AWP.exit ?_ | refine AWP.block ?_ )
          refine Reg.o rfl (dstep_idxH (q := i) rfl rfl rfl hik (by simp [hlen])) ?_
          repeat (first | refine Reg.o rfl rfl ?_ | refine Reg.on rfl rfl ?_ | refine Reg.s rfl ?_ | refine Reg.sn rfl ?_ | refine Reg.nil ?_ | refine DK.o rfl rfl ?_ | refine DK.on rfl rfl ?_ | refine DK.s rfl ?_ | refine DK.sn rfl ?_ | refine AWP.seq ?_ | refine AWP.region ?_ | refine AWP.dk mixed ?_ | refine AWP.condT rfl ?_ | refine AWP.condF rfl ?_ | refine AWP.skip ?_ | refine AWP.ret ?_ | refine AWP.exit ?_ | refine AWP.block ?_ )
          refine Reg.o rfl (dstep_ld1 rfl rfl hrow0 (by exact pr_d p)) ?_
          repeat (first | refine Reg.o rfl rfl ?_ | refine Reg.on rfl rfl ?_ | refine Reg.s rfl ?_ | refine Reg.sn rfl ?_ | refine Reg.nil ?_ | refine DK.o rfl rfl ?_ | refine DK.on rfl rfl ?_ | refine DK.s rfl ?_ | refine DK.sn rfl ?_ | refine AWP.seq ?_ | refine AWP.region ?_ | refine AWP.dk mixed ?_ | refine AWP.condT rfl ?_ | refine AWP.condF rfl ?_ | refine AWP.skip ?_ | refine AWP.ret ?_ | refine AWP.exit ?_ | refine AWP.block ?_ )
          refine AWP.cond rfl (fun hdc => ?_) (fun hdc => ?_)
          · have hd' : p.dec > 0 := of_decide_eq_true hdc
            have hrc : rpCells fl L (prAt ps i) = rpRow (agreedS p fl L) := by rw [hat]; exact if_pos hd'
            repeat (first | refine Reg.o rfl rfl ?_ | refine Reg.on rfl rfl ?_ | refine Reg.s rfl ?_ | refine Reg.sn rfl ?_ | refine Reg.nil ?_ | refine DK.o rfl rfl ?_ | refine DK.on rfl rfl ?_ | refine DK.s rfl ?_ | refine DK.sn rfl ?_ | refine AWP.seq ?_ | refine AWP.region ?_ | refine AWP.dk mixed ?_ | refine AWP.condT rfl ?_ | refine AWP.condF rfl ?_ | refine AWP.skip ?_ | refine AWP.ret ?_ | refine AWP.exit ?_ | refine AWP.block ?_ )
            refine Reg.o rfl (dstep_idxH (q := i) rfl rfl rfl hik (by simp [hlen])) ?_
            repeat (first | refine Reg.o rfl rfl ?_ | refine Reg.on rfl rfl ?_ | refine Reg.s rfl ?_ | refine Reg.sn rfl ?_ | refine Reg.nil ?_ | refine DK.o rfl rfl ?_ | refine DK.on rfl rfl ?_ | refine DK.s rfl ?_ | refine DK.sn rfl ?_ | refine AWP.seq ?_ | refine AWP.region ?_ | refine AWP.dk mixed ?_ | refine AWP.condT rfl ?_ | refine AWP.condF rfl ?_ | refine AWP.skip ?_ | refine AWP.ret ?_ | refine AWP.exit ?_ | refine AWP.block ?_ )
            rw [Nat.zero_add i]
            refine Reg.c (Nat.zero_le _) rfl ((CallOK.via1 (args' := [.ptr 0 0 i 0, intsV fl, knownV L]) (R := fun res y => y = procsB ps ∧ res = .agg (rpRow (agreedS p fl L))) 1 0 ((agreed1_ok ps i p hp fl (by omega) L (by omega) hks hbx).mono ?_) rfl (pureB_procs ps) ?_).mono ?_)
            · rintro res H' ⟨h1, rfl, h2⟩
              exact ⟨_, rfl, h1, pureB_procs _, rfl, h2⟩
            · exact ⟨.ptr _ _ _ _ _ _ rfl, .pure (pure_ints fl), .pure (pure_knownV L), trivial⟩
            rintro res H' ⟨y, rfl, rfl, rfl⟩
            repeat (first | refine Reg.o rfl rfl ?_ | refine Reg.on rfl rfl ?_ | refine Reg.s rfl ?_ | refine Reg.sn rfl ?_ | refine Reg.nil ?_ | refine DK.o rfl rfl ?_ | refine DK.on rfl rfl ?_ | refine DK.s rfl ?_ | refine DK.sn rfl ?_ | refine AWP.seq ?_ | refine AWP.region ?_ | refine AWP.dk mixed ?_ | refine AWP.condT rfl ?_ | refine AWP.condF rfl ?_ | refine AWP.skip ?_ | refine AWP.ret ?_ | refine AWP.exit ?_ | refine AWP.block ?_ )
            refine Reg.o rfl (dstep_idxH (q := i) rfl rfl rfl hik (by simp [outR_len])) ?_
            refine Reg.on rfl (dstep_stN (cs := rpRow (agreedS p fl L)) rfl rfl rfl (by rw [Nat.zero_add]; exact (outR_get hik).trans (by rw [if_neg (Nat.lt_irrefl i)])) rfl (Nat.le_refl _) rfl) ?_
            repeat (first | refine Reg.o rfl rfl ?_ | refine Reg.on rfl rfl ?_ | refine Reg.s rfl ?_ | refine Reg.sn rfl ?_ | refine Reg.nil ?_ | refine DK.o rfl rfl ?_ | refine DK.on rfl rfl ?_ | refine DK.s rfl ?_ | refine DK.sn rfl ?_ | refine AWP.seq ?_ | refine AWP.region ?_ | refine AWP.dk mixed ?_ | refine AWP.condT rfl ?_ | refine AWP.condF rfl ?_ | refine AWP.skip ?_ | refine AWP.ret ?_ | refine AWP.exit ?_ | refine AWP.block ?_ )
            refine ⟨i + 1, by omega, by omega, Sub.re [[(0, 0)], [(1, 0)], [(2, 0)], [(3, 0)]] rfl rfl rfl ⟨⟨⟨_, rfl, RenB.one (sz := 1) (xs := [.hsl 1 0 0 k]) ⟨.hsl _ _ _ _ _ _ rfl, trivial⟩⟩, trivial⟩, ⟨⟨_, rfl, RenB.rows (rows := ps.map prRow) rfl (pure_procs _)⟩, trivial⟩,
              ⟨⟨_, rfl, RenB.one (sz := 1) (xs := [.sc (.int .i64 r)]) ⟨.sc _, trivial⟩⟩, trivial⟩, ⟨⟨_, rfl, RenB.rows (rows := (outR fl L ps k i).set (0 + i) (lsplice z4 0 (rpRow (agreedS p fl L)))) ?_ (pure_outR fl L ps k (i + 1))⟩, trivial⟩, trivial⟩
              ⟨.pure (pure_ints fl), .pure (pure_knownV L), .ptr _ _ _ _ _ _ rfl, .ptr _ _ _ _ _ _ rfl, .hsl _ _ _ _ _ _ rfl, .int rfl, .int hi1, trivial⟩⟩
            rw [Nat.zero_add, lsplice_all z4 (rpRow (agreedS p fl L)) rfl, ← hrc, outR_set hik]
          · have hd' : ¬ (prAt ps i).dec > 0 := by rw [hat]; exact of_decide_eq_false hdc
            repeat (first | refine Reg.o rfl rfl ?_ | refine Reg.on rfl rfl ?_ | refine Reg.s rfl ?_ | refine Reg.sn rfl ?_ | refine Reg.nil ?_ | refine DK.o rfl rfl ?_ | refine DK.on rfl rfl ?_ | refine DK.s rfl ?_ | refine DK.sn rfl ?_ | refine AWP.seq ?_ | refine AWP.region ?_ | refine AWP.dk mixed ?_ | refine AWP.condT rfl ?_ | refine AWP.condF rfl ?_ | refine AWP.skip ?_ | refine AWP.ret ?_ | refine AWP.exit ?_ | refine AWP.block ?_ )
            refine ⟨i + 1, by omega, by omega, Sub.re [[(0, 0)], [(1, 0)], [(2, 0)], [(3, 0)]] rfl rfl rfl ⟨⟨⟨_, rfl, RenB.one (sz := 1) (xs := [.hsl 1 0 0 k]) ⟨.hsl _ _ _ _ _ _ rfl, trivial⟩⟩, trivial⟩, ⟨⟨_, rfl, RenB.rows (rows := ps.map prRow) rfl (pure_procs _)⟩, trivial⟩,
              ⟨⟨_, rfl, RenB.one (sz := 1) (xs := [.sc (.int .i64 r)]) ⟨.sc _, trivial⟩⟩, trivial⟩, ⟨⟨_, rfl, RenB.rows (rows := outR fl L ps k i) ?_ (pure_outR fl L ps k (i + 1))⟩, trivial⟩, trivial⟩
              ⟨.pure (pure_ints fl), .pure (pure_knownV L), .ptr _ _ _ _ _ _ rfl, .ptr _ _ _ _ _ _ rfl, .hsl _ _ _ _ _ _ rfl, .int rfl, .int hi1, trivial⟩⟩
            rw [outR_skip hik hd']
        · have hik : i = k := by
            have : ¬ i < k := by simpa using h
            omega
          subst hik
          repeat (first | refine Reg.o rfl rfl ?_ | refine Reg.on rfl rfl ?_ | refine Reg.s rfl ?_ | refine Reg.sn rfl ?_ | refine Reg.nil ?_ | refine DK.o rfl rfl ?_ | refine DK.on rfl rfl ?_ | refine DK.s rfl ?_ | refine DK.sn rfl ?_ | refine AWP.seq ?_ | refine AWP.region ?_ | refine AWP.dk mixed ?_ | refine AWP.condT rfl ?_ | refine AWP.condF rfl ?_ | refine AWP.skip ?_ | refine AWP.ret ?_ | refine AWP.exit ?_ | refine AWP.block ?_ )
          refine DK.nil ⟨by kernel_rfl, ?_⟩
          repeat (first | refine Reg.o rfl rfl ?_ | refine Reg.on rfl rfl ?_ | refine Reg.s rfl ?_ | refine Reg.sn rfl ?_ | refine Reg.nil ?_ | refine DK.o rfl rfl ?_ | refine DK.on rfl rfl ?_ | refine DK.s rfl ?_ | refine DK.sn rfl ?_ | refine AWP.seq ?_ | refine AWP.region ?_ | refine AWP.dk mixed ?_ | refine AWP.condT rfl ?_ | refine AWP.condF rfl ?_ | refine AWP.skip ?_ | refine AWP.ret ?_ | refine AWP.exit ?_ | refine AWP.block ?_ )
          refine ⟨.inr rfl, .tup [.hsl 3 0 0 i, .sc (.int .i64 r), .sc (.int .i64 0)], agreeV (((List.range i).map fun j => rpOf fl L (prAt ps j)), (r : Int), 0), [], rfl, ?_, ?_⟩
          · refine (SubV.frzAll (b := .tup [.list 4 (outR fl L ps i i), .sc (.int .i64 r), .sc (.int .i64 0)]) ?_ ?_).trans ((SubV.le (le_tup3' (le_outR fl L ps i))).trans (.pure (pure_agreeV (((List.range i).map fun j => rpOf fl L (prAt ps j)), (r : Int), 0))))
            · exact Cong.tupL (l := [.hsl 3 0 0 i, .sc (.int .i64 r), .sc (.int .i64 0)]) (m := [.list 4 (outR fl L ps i i), .sc (.int .i64 r), .sc (.int .i64 0)]) ⟨FzA.all rfl (outR_len fl L ps i i), .refl _, .refl _, trivial⟩
            · exact .tup _ (allPure_cons (.list _ _ (pure_outR fl L ps i i)) (allPure_cons (.sc _) (allPure_cons (.sc _) allPure_nil)))
          · rw [hgo]

end Go.Proofs.Ytbpmbofinoinmaa
