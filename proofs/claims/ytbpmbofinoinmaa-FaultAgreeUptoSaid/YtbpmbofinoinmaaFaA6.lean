import Derived.Test.YtbpmbofinoinmaaFaA5
namespace Go.Proofs.Ytbpmbofinoinmaa
open Go.Av Go.Proofs

/-! What a process agreed on. -/

def knownV (L : List (List Int)) : AV := .list 1 (L.map fun ks => [intsV ks])
theorem pure_knownV (L : List (List Int)) : Pure (knownV L) := .list _ _ (allPure_map (f := fun ks => [intsV ks]) (fun ks => allPure_cons (pure_ints ks) allPure_nil) L)

def andI (a b : Int) : Int := IntKind.i64.wrap ((BitVec.ofInt IntKind.i64.bits a &&& BitVec.ofInt IntKind.i64.bits b).toNat : Int)
def flagK (w : Nat → Bool) (fl : List Int) : Nat → Int
  | 0 => -1
  | k + 1 => if w k = true then andI (flagK w fl k) ((fl[k]?).getD 0) else flagK w fl k
def fail1 (w : Nat → Bool) (n k i : Nat) : Bool := decide (i < n) && !(decide (i < k) && w i)
def orW (s : Nat → Bool) (x : Nat) (b : Bool) (i : Nat) : Bool := if i = x then (s x || b) else s i
def knownGo (b : Bool) : List Int → (Nat → Bool) → (Nat → Bool)
  | [], s => s
  | x :: r, s => knownGo b r (orW s x.toNat b)
def knownAll (w : Nat → Bool) : Nat → List (List Int) → (Nat → Bool) → (Nat → Bool)
  | _, [], s => s
  | i, ks :: r, s => knownAll w (i + 1) r (knownGo (w i) ks s)

structure Rp where
  dec : Bool
  round : Int
  flag : Int
  failed : List Int
def rpRow (p : Rp) : List AV := [.sc (.bool p.dec), .sc (.int .i64 p.round), .sc (.int .i64 p.flag), intsV p.failed]
theorem pure_rpRow (p : Rp) : ∀ c ∈ rpRow p, Pure c := allPure_cons (.sc _) (allPure_cons (.sc _) (allPure_cons (.sc _) (allPure_cons (pure_ints _) allPure_nil)))
def agreedS (p : Pr) (fl : List Int) (L : List (List Int)) : Rp := ⟨true, p.dec, flagK p.w fl fl.length, elems 64 (knownAll p.w 0 L (fail1 p.w fl.length fl.length))⟩

theorem fin_procsP {e : Exit} (he : e = .normal ∨ e = .ret) {rs : List IRes} {fr : Fr} {X : Heap} {ps : List Pr} {res res' : AV} (hres : resOf fr ([procsB ps] :: X) rs = some res) (hp : Pure res) (hr : res = res') :
    (e = .normal ∨ e = .ret) ∧ ∃ res res'' H2, resOf fr ([procsB ps] :: X) rs = some res ∧ SubV 1 ([procsB ps] :: X) res H2 res'' ∧ (Pure res'' ∧ H2 = [[procsB ps]] ∧ res'' = res') :=
  ⟨he, res, res, [[procsB ps]], hres, SubV.ren (rho [[(0, 0)]]) (Numb.list rfl rfl rfl ⟨⟨⟨_, rfl, RenB.rows (rows := ps.map prRow) rfl (pure_procs ps)⟩, trivial⟩, trivial⟩) (.pure hp), hp, rfl, hr⟩

def z4 : List AV := [.sc (.bool false), .sc (.int .i64 0), .sc (.int .i64 0), .sc (.slice none 0 0)]
def rp4 (d f : Int) : List AV := [.sc (.bool true), .sc (.int .i64 d), .sc (.int .i64 f), .sc (.slice none 0 0)]
theorem pure_z4 : ∀ c ∈ z4, Pure c := allPure_cons (.sc _) (allPure_cons (.sc _) (allPure_cons (.sc _) (allPure_cons (.sc _) allPure_nil)))
theorem pure_rp4 (d f : Int) : ∀ c ∈ rp4 d f, Pure c := allPure_cons (.sc _) (allPure_cons (.sc _) (allPure_cons (.sc _) (allPure_cons (.sc _) allPure_nil)))

set_option maxHeartbeats 2000000 in
theorem agreed1_ok (ps : List Pr) (i : Nat) (p : Pr) (hp : ps[i]? = some p) (fl : List Int) (hfl : fl.length ≤ 64) (L : List (List Int)) (hL : L.length ≤ 64) (hl1 : ∀ ks ∈ L, ks.length ≤ 1000000) (hl2 : ∀ ks ∈ L, ∀ x ∈ ks, 0 ≤ x ∧ x < 64) :
    CallOK Try.prog 46 [.ptr 0 0 i 0, intsV fl, knownV L] [[procsB ps]] (fun res H' => Pure res ∧ H' = [[procsB ps]] ∧ res = .agg (rpRow (agreedS p fl L))) := by
  have hrow := procs_get hp
  have hlen := pr_len p
  refine CallOK.of cF46 ?_ (by simp [F46])
  repeat (first | refine Reg.o rfl rfl ?_ | refine Reg.on rfl rfl ?_ | refine Reg.s rfl ?_ | refine Reg.sn rfl ?_ | refine Reg.nil ?_ | refine DK.o rfl rfl ?_ | refine DK.on rfl rfl ?_ | refine DK.s rfl ?_ | refine DK.sn rfl ?_ | refine AWP.seq ?_ | refine AWP.region ?_ | refine AWP.dk mixed ?_ | refine AWP.condT rfl ?_ | refine AWP.condF rfl ?_ | refine AWP.skip ?_ | refine AWP.ret ?_ | refine AWP.exit ?_ | refine AWP.block ?_ )
  refine Reg.o rfl (dstep_ld1 rfl rfl hrow (pr_d p)) ?_
  repeat (first | refine Reg.o rfl rfl ?_ | refine Reg.on rfl rfl ?_ | refine Reg.s rfl ?_ | refine Reg.sn rfl ?_ | refine Reg.nil ?_ | refine DK.o rfl rfl ?_ | refine DK.on rfl rfl ?_ | refine DK.s rfl ?_ | refine DK.sn rfl ?_ | refine AWP.seq ?_ | refine AWP.region ?_ | refine AWP.dk mixed ?_ | refine AWP.condT rfl ?_ | refine AWP.condF rfl ?_ | refine AWP.skip ?_ | refine AWP.ret ?_ | refine AWP.exit ?_ | refine AWP.block ?_ )
  have e0 : (intsR fl).length = fl.length := by simp [intsR]
  rw [e0]
  refine Reg.c (show 1 ≤ 3 by omega) rfl (CallOK.ofPure (PureRun.of (allPure_cons (.sc _) allPure_nil) (.agg _ (pure_bset _ _)) (first_ok fl.length hfl)) _ ?_)
  repeat (first | refine Reg.o rfl rfl ?_ | refine Reg.on rfl rfl ?_ | refine Reg.s rfl ?_ | refine Reg.sn rfl ?_ | refine Reg.nil ?_ | refine DK.o rfl rfl ?_ | refine DK.on rfl rfl ?_ | refine DK.s rfl ?_ | refine DK.sn rfl ?_ | refine AWP.seq ?_ | refine AWP.region ?_ | refine AWP.dk mixed ?_ | refine AWP.condT rfl ?_ | refine AWP.condF rfl ?_ | refine AWP.skip ?_ | refine AWP.ret ?_ | refine AWP.exit ?_ | refine AWP.block ?_ )
  rw [e0]
  refine AWP.loop (fun k : Nat => [(0, .ptr 0 0 i 0), (2, knownV L), (6, .ptr 1 0 0 0), (7, .ptr 2 0 0 0), (8, .ptr 3 0 0 0), (23, intsV fl), (24, .sc (.int .i64 fl.length)), (25, .sc (.int .i64 k))])
    (fun k => [[procsB ps], [.cells 4 [z4]], [.cells 4 [rp4 p.dec (flagK p.w fl k)]], [.cells 64 [bset 64 (fail1 p.w fl.length k)]]]) (fun k => k ≤ fl.length) (fun k => fl.length - k) 0 (Nat.zero_le _) ?_ ?_
  · refine Sub.re [[(0, 0)], [(1, 0)], [(2, 0)], [(3, 0)]] rfl rfl rfl ⟨⟨⟨_, rfl, RenB.rows (rows := ps.map prRow) rfl (pure_procs ps)⟩, trivial⟩, ⟨⟨_, rfl, RenB.row rfl pure_z4⟩, trivial⟩, ⟨⟨_, rfl, RenB.row rfl (pure_rp4 _ _)⟩, trivial⟩, ⟨⟨_, rfl, RenB.row ?_ (pure_bset _ _)⟩, trivial⟩, trivial⟩
      ⟨.ptr _ _ _ _ _ _ rfl, .pure (pure_knownV L), .ptr _ _ _ _ _ _ rfl, .ptr _ _ _ _ _ _ rfl, .ptr _ _ _ _ _ _ rfl, .pure (pure_ints fl), .int rfl, .int rfl, trivial⟩
    refine (lsplice_all _ _ (by rw [bset_len]; rfl)).trans (bset_congr fun j hj => ?_)
    simp [fail1]
  intro k hk
  have hk1 : IntKind.i64.wrap ((k : Int) + 1) = ((k + 1 : Nat) : Int) := by rw [wrap_small (by omega) (by omega)]; omega
  repeat (first | refine Reg.o rfl rfl ?_ | refine Reg.on rfl rfl ?_ | refine Reg.s rfl ?_ | refine Reg.sn rfl ?_ | refine Reg.nil ?_ | refine DK.o rfl rfl ?_ | refine DK.on rfl rfl ?_ | refine DK.s rfl ?_ | refine DK.sn rfl ?_ | refine AWP.seq ?_ | refine AWP.region ?_ | refine AWP.dk mixed ?_ | refine AWP.condT rfl ?_ | refine AWP.condF rfl ?_ | refine AWP.skip ?_ | refine AWP.ret ?_ | refine AWP.exit ?_ | refine AWP.block ?_ )
  refine AWP.cond rfl (fun h => ?_) (fun h => ?_)
  · have hkl : k < fl.length := by simpa using h
    have hrf : rowIx (intsR fl) (k : Int) = some [.sc (.int .i64 fl[k])] := rowIx_map _ fl k hkl
    have hgd : (fl[k]?).getD 0 = fl[k] := by rw [List.getElem?_eq_getElem hkl]; rfl
    have hfk : flagK p.w fl (k + 1) = if p.w k = true then andI (flagK p.w fl k) ((fl[k]?).getD 0) else flagK p.w fl k := rfl
    rw [hgd] at hfk
    have hk64 : k < 64 := by omega
    generalize fl[k] = v at hrf hfk
    repeat (first | refine Reg.o rfl rfl ?_ | refine Reg.on rfl rfl ?_ | refine Reg.s rfl ?_ | refine Reg.sn rfl ?_ | refine Reg.nil ?_ | refine DK.o rfl rfl ?_ | refine DK.on rfl rfl ?_ | refine DK.s rfl ?_ | refine DK.sn rfl ?_ | refine AWP.seq ?_ | refine AWP.region ?_ | refine AWP.dk mixed ?_ | refine AWP.condT rfl ?_ | refine AWP.condF rfl ?_ | refine AWP.skip ?_ | refine AWP.ret ?_ | refine AWP.exit ?_ | refine AWP.block ?_ )
    refine Reg.o rfl (dstep_idxSl rfl rfl hrf) ?_
    repeat (first | refine Reg.o rfl rfl ?_ | refine Reg.on rfl rfl ?_ | refine Reg.s rfl ?_ | refine Reg.sn rfl ?_ | refine Reg.nil ?_ | refine DK.o rfl rfl ?_ | refine DK.on rfl rfl ?_ | refine DK.s rfl ?_ | refine DK.sn rfl ?_ | refine AWP.seq ?_ | refine AWP.region ?_ | refine AWP.dk mixed ?_ | refine AWP.condT rfl ?_ | refine AWP.condF rfl ?_ | refine AWP.skip ?_ | refine AWP.ret ?_ | refine AWP.exit ?_ | refine AWP.block ?_ )
    refine Reg.o rfl (dstep_idxArr (q := k) rfl rfl rfl hk64) ?_
    refine Reg.o rfl (dstep_ld1 rfl rfl hrow (by rw [Nat.mul_one, Nat.zero_add]; exact pr_wget p hk64)) ?_
    repeat (first | refine Reg.o rfl rfl ?_ | refine Reg.on rfl rfl ?_ | refine Reg.s rfl ?_ | refine Reg.sn rfl ?_ | refine Reg.nil ?_ | refine DK.o rfl rfl ?_ | refine DK.on rfl rfl ?_ | refine DK.s rfl ?_ | refine DK.sn rfl ?_ | refine AWP.seq ?_ | refine AWP.region ?_ | refine AWP.dk mixed ?_ | refine AWP.condT rfl ?_ | refine AWP.condF rfl ?_ | refine AWP.skip ?_ | refine AWP.ret ?_ | refine AWP.exit ?_ | refine AWP.block ?_ )
    refine AWP.cond rfl (fun hw => ?_) (fun hw => ?_)
    · repeat (first | refine Reg.o rfl rfl ?_ | refine Reg.on rfl rfl ?_ | refine Reg.s rfl ?_ | refine Reg.sn rfl ?_ | refine Reg.nil ?_ | refine DK.o rfl rfl ?_ | refine DK.on rfl rfl ?_ | refine DK.s rfl ?_ | refine DK.sn rfl ?_ | refine AWP.seq ?_ | refine AWP.region ?_ | refine AWP.dk mixed ?_ | refine AWP.condT rfl ?_ | refine AWP.condF rfl ?_ | refine AWP.skip ?_ | refine AWP.ret ?_ | refine AWP.exit ?_ | refine AWP.block ?_ )
      refine Reg.o rfl (dstep_idxArr (q := k) rfl rfl rfl hk64) ?_
      refine Reg.on rfl (dstep_stN rfl rfl rfl rfl rfl (by rw [bset_len]; omega) rfl) ?_
      repeat (first | refine Reg.o rfl rfl ?_ | refine Reg.on rfl rfl ?_ | refine Reg.s rfl ?_ | refine Reg.sn rfl ?_ | refine Reg.nil ?_ | refine DK.o rfl rfl ?_ | refine DK.on rfl rfl ?_ | refine DK.s rfl ?_ | refine DK.sn rfl ?_ | refine AWP.seq ?_ | refine AWP.region ?_ | refine AWP.dk mixed ?_ | refine AWP.condT rfl ?_ | refine AWP.condF rfl ?_ | refine AWP.skip ?_ | refine AWP.ret ?_ | refine AWP.exit ?_ | refine AWP.block ?_ )
      rw [if_pos hw] at hfk
      refine ⟨k + 1, by omega, by omega, Sub.re [[(0, 0)], [(1, 0)], [(2, 0)], [(3, 0)]] rfl rfl rfl ⟨⟨⟨_, rfl, RenB.rows (rows := ps.map prRow) rfl (pure_procs ps)⟩, trivial⟩, ⟨⟨_, rfl, RenB.row rfl pure_z4⟩, trivial⟩, ⟨⟨_, rfl, RenB.row ?_ (pure_rp4 _ _)⟩, trivial⟩, ⟨⟨_, rfl, RenB.row ?_ (pure_bset _ _)⟩, trivial⟩, trivial⟩
        ⟨.ptr _ _ _ _ _ _ rfl, .pure (pure_knownV L), .ptr _ _ _ _ _ _ rfl, .ptr _ _ _ _ _ _ rfl, .ptr _ _ _ _ _ _ rfl, .pure (pure_ints fl), .int rfl, .int hk1, trivial⟩⟩
      · rw [hfk]
        rfl
      · show lsplice (bset 64 _) _ _ = _
        rw [Nat.mul_one, Nat.zero_add]
        refine (bset_splice 64 _ k false).trans (bset_congr fun j hj => ?_)
        unfold fail1
        by_cases ej : j = k
        · subst ej
          simp [hw]
        · have : (j < k + 1) ↔ (j < k) := by omega
          simp [ej, this]
    · rw [if_neg (by rw [hw]; decide)] at hfk
      repeat (first | refine Reg.o rfl rfl ?_ | refine Reg.on rfl rfl ?_ | refine Reg.s rfl ?_ | refine Reg.sn rfl ?_ | refine Reg.nil ?_ | refine DK.o rfl rfl ?_ | refine DK.on rfl rfl ?_ | refine DK.s rfl ?_ | refine DK.sn rfl ?_ | refine AWP.seq ?_ | refine AWP.region ?_ | refine AWP.dk mixed ?_ | refine AWP.condT rfl ?_ | refine AWP.condF rfl ?_ | refine AWP.skip ?_ | refine AWP.ret ?_ | refine AWP.exit ?_ | refine AWP.block ?_ )
      refine ⟨k + 1, by omega, by omega, Sub.re [[(0, 0)], [(1, 0)], [(2, 0)], [(3, 0)]] rfl rfl rfl ⟨⟨⟨_, rfl, RenB.rows (rows := ps.map prRow) rfl (pure_procs ps)⟩, trivial⟩, ⟨⟨_, rfl, RenB.row rfl pure_z4⟩, trivial⟩, ⟨⟨_, rfl, RenB.row (r := rp4 p.dec (flagK p.w fl k)) (by rw [hfk]) (pure_rp4 _ _)⟩, trivial⟩, ⟨⟨_, rfl, RenB.row (r := bset 64 (fail1 p.w fl.length k)) (bset_congr fun j hj => ?_) (pure_bset _ _)⟩, trivial⟩, trivial⟩
        ⟨.ptr _ _ _ _ _ _ rfl, .pure (pure_knownV L), .ptr _ _ _ _ _ _ rfl, .ptr _ _ _ _ _ _ rfl, .ptr _ _ _ _ _ _ rfl, .pure (pure_ints fl), .int rfl, .int hk1, trivial⟩⟩
      unfold fail1
      by_cases ej : j = k
      · subst ej
        simp [hw]
      · have : (j < k + 1) ↔ (j < k) := by omega
        simp [this]
  · have hkn : k = fl.length := by
      have : ¬ k < fl.length := by simpa using h
      omega
    subst hkn
    have eL : (L.map fun ks => [intsV ks]).length = L.length := by simp
    repeat (first | refine Reg.o rfl rfl ?_ | refine Reg.on rfl rfl ?_ | refine Reg.s rfl ?_ | refine Reg.sn rfl ?_ | refine Reg.nil ?_ | refine DK.o rfl rfl ?_ | refine DK.on rfl rfl ?_ | refine DK.s rfl ?_ | refine DK.sn rfl ?_ | refine AWP.seq ?_ | refine AWP.region ?_ | refine AWP.dk mixed ?_ | refine AWP.condT rfl ?_ | refine AWP.condF rfl ?_ | refine AWP.skip ?_ | refine AWP.ret ?_ | refine AWP.exit ?_ | refine AWP.block ?_ )
    rw [eL]
    refine AWP.loop (σ := Nat × (Nat → Bool)) (fun s => [(0, .ptr 0 0 i 0), (6, .ptr 1 0 0 0), (7, .ptr 2 0 0 0), (8, .ptr 3 0 0 0), (44, knownV L), (45, .sc (.int .i64 L.length)), (46, .sc (.int .i64 s.1))])
      (fun s => [[procsB ps], [.cells 4 [z4]], [.cells 4 [rp4 p.dec (flagK p.w fl fl.length)]], [.cells 64 [bset 64 s.2]]]) (fun s => s.1 ≤ L.length ∧ knownAll p.w 0 L (fail1 p.w fl.length fl.length) = knownAll p.w s.1 (L.drop s.1) s.2) (fun s => L.length - s.1) (0, fail1 p.w fl.length fl.length) ⟨Nat.zero_le _, rfl⟩ ?_ ?_
    · exact Sub.re [[(0, 0)], [(1, 0)], [(2, 0)], [(3, 0)]] rfl rfl rfl ⟨⟨⟨_, rfl, RenB.rows (rows := ps.map prRow) rfl (pure_procs ps)⟩, trivial⟩, ⟨⟨_, rfl, RenB.row rfl pure_z4⟩, trivial⟩, ⟨⟨_, rfl, RenB.row rfl (pure_rp4 _ _)⟩, trivial⟩, ⟨⟨_, rfl, RenB.row rfl (pure_bset _ _)⟩, trivial⟩, trivial⟩
        ⟨.ptr _ _ _ _ _ _ rfl, .ptr _ _ _ _ _ _ rfl, .ptr _ _ _ _ _ _ rfl, .ptr _ _ _ _ _ _ rfl, .pure (pure_knownV L), .int rfl, .int rfl, trivial⟩
    rintro ⟨a, s⟩ ⟨ha, hgo⟩
    simp only at ha hgo
    have ha1 : IntKind.i64.wrap ((a : Int) + 1) = ((a + 1 : Nat) : Int) := by rw [wrap_small (by omega) (by omega)]; omega
    repeat (first | refine Reg.o rfl rfl ?_ | refine Reg.on rfl rfl ?_ | refine Reg.s rfl ?_ | refine Reg.sn rfl ?_ | refine Reg.nil ?_ | refine DK.o rfl rfl ?_ | refine DK.on rfl rfl ?_ | refine DK.s rfl ?_ | refine DK.sn rfl ?_ | refine AWP.seq ?_ | refine AWP.region ?_ | refine AWP.dk mixed ?_ | refine AWP.condT rfl ?_ | refine AWP.condF rfl ?_ | refine AWP.skip ?_ | refine AWP.ret ?_ | refine AWP.exit ?_ | refine AWP.block ?_ )
    refine AWP.cond rfl (fun h => ?_) (fun h => ?_)
    · have hal : a < L.length := by simpa using h
      have hra : rowIx (L.map fun ks => [intsV ks]) (a : Int) = some [intsV L[a]] := rowIx_map _ L a hal
      have hdrop : L.drop a = L[a] :: L.drop (a + 1) := List.drop_eq_getElem_cons hal
      have h1 := hl1 L[a] (List.getElem_mem hal)
      have h2 := hl2 L[a] (List.getElem_mem hal)
      rw [hdrop] at hgo
      generalize L[a] = ks at hra h1 h2 hgo
      have hgo2 : knownAll p.w a (ks :: L.drop (a + 1)) s = knownAll p.w (a + 1) (L.drop (a + 1)) (knownGo (p.w a) ks s) := rfl
      rw [hgo2] at hgo
      have eK : (intsR ks).length = ks.length := by simp [intsR]
      repeat (first | refine Reg.o rfl rfl ?_ | refine Reg.on rfl rfl ?_ | refine Reg.s rfl ?_ | refine Reg.sn rfl ?_ | refine Reg.nil ?_ | refine DK.o rfl rfl ?_ | refine DK.on rfl rfl ?_ | refine DK.s rfl ?_ | refine DK.sn rfl ?_ | refine AWP.seq ?_ | refine AWP.region ?_ | refine AWP.dk mixed ?_ | refine AWP.condT rfl ?_ | refine AWP.condF rfl ?_ | refine AWP.skip ?_ | refine AWP.ret ?_ | refine AWP.exit ?_ | refine AWP.block ?_ )
      refine Reg.o rfl (dstep_idxSl rfl rfl hra) ?_
      repeat (first | refine Reg.o rfl rfl ?_ | refine Reg.on rfl rfl ?_ | refine Reg.s rfl ?_ | refine Reg.sn rfl ?_ | refine Reg.nil ?_ | refine DK.o rfl rfl ?_ | refine DK.on rfl rfl ?_ | refine DK.s rfl ?_ | refine DK.sn rfl ?_ | refine AWP.seq ?_ | refine AWP.region ?_ | refine AWP.dk mixed ?_ | refine AWP.condT rfl ?_ | refine AWP.condF rfl ?_ | refine AWP.skip ?_ | refine AWP.ret ?_ | refine AWP.exit ?_ | refine AWP.block ?_ )
      rw [eK]
      refine AWP.loop (σ := Nat × (Nat → Bool)) (fun q => [(0, .ptr 0 0 i 0), (6, .ptr 1 0 0 0), (7, .ptr 2 0 0 0), (8, .ptr 3 0 0 0), (11, .sc (.int .i64 a)), (44, knownV L), (45, .sc (.int .i64 L.length)), (46, .sc (.int .i64 a)), (51, intsV ks), (52, .sc (.int .i64 ks.length)), (53, .sc (.int .i64 q.1))])
        (fun q => [[procsB ps], [.cells 4 [z4]], [.cells 4 [rp4 p.dec (flagK p.w fl fl.length)]], [.cells 64 [bset 64 q.2]]]) (fun q => q.1 ≤ ks.length ∧ knownGo (p.w a) ks s = knownGo (p.w a) (ks.drop q.1) q.2) (fun q => ks.length - q.1) (0, s) ⟨Nat.zero_le _, rfl⟩ ?_ ?_
      · exact Sub.re [[(0, 0)], [(1, 0)], [(2, 0)], [(3, 0)]] rfl rfl rfl ⟨⟨⟨_, rfl, RenB.rows (rows := ps.map prRow) rfl (pure_procs ps)⟩, trivial⟩, ⟨⟨_, rfl, RenB.row rfl pure_z4⟩, trivial⟩, ⟨⟨_, rfl, RenB.row rfl (pure_rp4 _ _)⟩, trivial⟩, ⟨⟨_, rfl, RenB.row rfl (pure_bset _ _)⟩, trivial⟩, trivial⟩
          ⟨.ptr _ _ _ _ _ _ rfl, .ptr _ _ _ _ _ _ rfl, .ptr _ _ _ _ _ _ rfl, .ptr _ _ _ _ _ _ rfl, .int rfl, .pure (pure_knownV L), .int rfl, .int rfl, .pure (pure_ints ks), .int rfl, .int rfl, trivial⟩
      rintro ⟨b, t⟩ ⟨hb, hgb⟩
      simp only at hb hgb
      have hb1 : IntKind.i64.wrap ((b : Int) + 1) = ((b + 1 : Nat) : Int) := by rw [wrap_small (by omega) (by omega)]; omega
      repeat (first | refine Reg.o rfl rfl ?_ | refine Reg.on rfl rfl ?_ | refine Reg.s rfl ?_ | refine Reg.sn rfl ?_ | refine Reg.nil ?_ | refine DK.o rfl rfl ?_ | refine DK.on rfl rfl ?_ | refine DK.s rfl ?_ | refine DK.sn rfl ?_ | refine AWP.seq ?_ | refine AWP.region ?_ | refine AWP.dk mixed ?_ | refine AWP.condT rfl ?_ | refine AWP.condF rfl ?_ | refine AWP.skip ?_ | refine AWP.ret ?_ | refine AWP.exit ?_ | refine AWP.block ?_ )
      refine AWP.cond rfl (fun h => ?_) (fun h => ?_)
      · have hbl : b < ks.length := by simpa using h
        have hrb : rowIx (intsR ks) (b : Int) = some [.sc (.int .i64 ks[b])] := rowIx_map _ ks b hbl
        have hdb : ks.drop b = ks[b] :: ks.drop (b + 1) := List.drop_eq_getElem_cons hbl
        have h3 := h2 ks[b] (List.getElem_mem hbl)
        rw [hdb] at hgb
        generalize ks[b] = x at hrb h3 hgb
        have hgb2 : knownGo (p.w a) (x :: ks.drop (b + 1)) t = knownGo (p.w a) (ks.drop (b + 1)) (orW t x.toNat (p.w a)) := rfl
        rw [hgb2] at hgb
        have ex : AV.sc (.int .i64 x) = AV.sc (.int .i64 (x.toNat : Int)) := by rw [Int.toNat_of_nonneg h3.1]
        have hx64 : x.toNat < 64 := by omega
        have ha64 : a < 64 := by omega
        repeat (first | refine Reg.o rfl rfl ?_ | refine Reg.on rfl rfl ?_ | refine Reg.s rfl ?_ | refine Reg.sn rfl ?_ | refine Reg.nil ?_ | refine DK.o rfl rfl ?_ | refine DK.on rfl rfl ?_ | refine DK.s rfl ?_ | refine DK.sn rfl ?_ | refine AWP.seq ?_ | refine AWP.region ?_ | refine AWP.dk mixed ?_ | refine AWP.condT rfl ?_ | refine AWP.condF rfl ?_ | refine AWP.skip ?_ | refine AWP.ret ?_ | refine AWP.exit ?_ | refine AWP.block ?_ )
        refine Reg.o rfl (dstep_idxSl rfl rfl hrb) ?_
        repeat (first | refine Reg.o rfl rfl ?_ | refine Reg.on rfl rfl ?_ | refine Reg.s rfl ?_ | refine Reg.sn rfl ?_ | refine Reg.nil ?_ | refine DK.o rfl rfl ?_ | refine DK.on rfl rfl ?_ | refine DK.s rfl ?_ | refine DK.sn rfl ?_ | refine AWP.seq ?_ | refine AWP.region ?_ | refine AWP.dk mixed ?_ | refine AWP.condT rfl ?_ | refine AWP.condF rfl ?_ | refine AWP.skip ?_ | refine AWP.ret ?_ | refine AWP.exit ?_ | refine AWP.block ?_ )
        refine Reg.o rfl (dstep_idxArr (q := x.toNat) rfl ex rfl hx64) ?_
        refine Reg.o rfl (dstep_ld1 rfl rfl rfl (c := .sc (.bool (t x.toNat))) (by rw [Nat.mul_one, Nat.zero_add]; exact bset_get hx64)) ?_
        repeat (first | refine Reg.o rfl rfl ?_ | refine Reg.on rfl rfl ?_ | refine Reg.s rfl ?_ | refine Reg.sn rfl ?_ | refine Reg.nil ?_ | refine DK.o rfl rfl ?_ | refine DK.on rfl rfl ?_ | refine DK.s rfl ?_ | refine DK.sn rfl ?_ | refine AWP.seq ?_ | refine AWP.region ?_ | refine AWP.dk mixed ?_ | refine AWP.condT rfl ?_ | refine AWP.condF rfl ?_ | refine AWP.skip ?_ | refine AWP.ret ?_ | refine AWP.exit ?_ | refine AWP.block ?_ )
        refine Reg.gs rfl (fun g => ?_) (fun g => ?_)
        · repeat (first | refine Reg.o rfl rfl ?_ | refine Reg.on rfl rfl ?_ | refine Reg.s rfl ?_ | refine Reg.sn rfl ?_ | refine Reg.nil ?_ | refine DK.o rfl rfl ?_ | refine DK.on rfl rfl ?_ | refine DK.s rfl ?_ | refine DK.sn rfl ?_ | refine AWP.seq ?_ | refine AWP.region ?_ | refine AWP.dk mixed ?_ | refine AWP.condT rfl ?_ | refine AWP.condF rfl ?_ | refine AWP.skip ?_ | refine AWP.ret ?_ | refine AWP.exit ?_ | refine AWP.block ?_ )
          refine Reg.o rfl (dstep_idxArr (q := x.toNat) rfl ex rfl hx64) ?_
          refine Reg.on rfl (dstep_stN rfl rfl rfl rfl rfl (by rw [bset_len]; omega) rfl) ?_
          repeat (first | refine Reg.o rfl rfl ?_ | refine Reg.on rfl rfl ?_ | refine Reg.s rfl ?_ | refine Reg.sn rfl ?_ | refine Reg.nil ?_ | refine DK.o rfl rfl ?_ | refine DK.on rfl rfl ?_ | refine DK.s rfl ?_ | refine DK.sn rfl ?_ | refine AWP.seq ?_ | refine AWP.region ?_ | refine AWP.dk mixed ?_ | refine AWP.condT rfl ?_ | refine AWP.condF rfl ?_ | refine AWP.skip ?_ | refine AWP.ret ?_ | refine AWP.exit ?_ | refine AWP.block ?_ )
          refine ⟨(b + 1, orW t x.toNat (p.w a)), ⟨by simp only; omega, hgb⟩, by simp only; omega, Sub.re [[(0, 0)], [(1, 0)], [(2, 0)], [(3, 0)]] rfl rfl rfl ⟨⟨⟨_, rfl, RenB.rows (rows := ps.map prRow) rfl (pure_procs ps)⟩, trivial⟩, ⟨⟨_, rfl, RenB.row rfl pure_z4⟩, trivial⟩, ⟨⟨_, rfl, RenB.row rfl (pure_rp4 _ _)⟩, trivial⟩, ⟨⟨_, rfl, RenB.row ?_ (pure_bset _ _)⟩, trivial⟩, trivial⟩
            ⟨.ptr _ _ _ _ _ _ rfl, .ptr _ _ _ _ _ _ rfl, .ptr _ _ _ _ _ _ rfl, .ptr _ _ _ _ _ _ rfl, .int rfl, .pure (pure_knownV L), .int rfl, .int rfl, .pure (pure_ints ks), .int rfl, .int hb1, trivial⟩⟩
          show lsplice (bset 64 t) _ _ = _
          rw [Nat.mul_one, Nat.zero_add]
          refine (bset_splice 64 t x.toNat _).trans (bset_congr fun j hj => ?_)
          unfold orW
          rw [g]
          rfl
        · repeat (first | refine Reg.o rfl rfl ?_ | refine Reg.on rfl rfl ?_ | refine Reg.s rfl ?_ | refine Reg.sn rfl ?_ | refine Reg.nil ?_ | refine DK.o rfl rfl ?_ | refine DK.on rfl rfl ?_ | refine DK.s rfl ?_ | refine DK.sn rfl ?_ | refine AWP.seq ?_ | refine AWP.region ?_ | refine AWP.dk mixed ?_ | refine AWP.condT rfl ?_ | refine AWP.condF rfl ?_ | refine AWP.skip ?_ | refine AWP.ret ?_ | refine AWP.exit ?_ | refine AWP.block ?_ )
          refine Reg.o rfl (dstep_idxArr (q := a) rfl rfl rfl ha64) ?_
          refine Reg.o rfl (dstep_ld1 rfl rfl hrow (by rw [Nat.mul_one, Nat.zero_add]; exact pr_wget p ha64)) ?_
          repeat (first | refine Reg.o rfl rfl ?_ | refine Reg.on rfl rfl ?_ | refine Reg.s rfl ?_ | refine Reg.sn rfl ?_ | refine Reg.nil ?_ | refine DK.o rfl rfl ?_ | refine DK.on rfl rfl ?_ | refine DK.s rfl ?_ | refine DK.sn rfl ?_ | refine AWP.seq ?_ | refine AWP.region ?_ | refine AWP.dk mixed ?_ | refine AWP.condT rfl ?_ | refine AWP.condF rfl ?_ | refine AWP.skip ?_ | refine AWP.ret ?_ | refine AWP.exit ?_ | refine AWP.block ?_ )
          refine Reg.o rfl (dstep_idxArr (q := x.toNat) rfl ex rfl hx64) ?_
          refine Reg.on rfl (dstep_stN rfl rfl rfl rfl rfl (by rw [bset_len]; omega) rfl) ?_
          repeat (first | refine Reg.o rfl rfl ?_ | refine Reg.on rfl rfl ?_ | refine Reg.s rfl ?_ | refine Reg.sn rfl ?_ | refine Reg.nil ?_ | refine DK.o rfl rfl ?_ | refine DK.on rfl rfl ?_ | refine DK.s rfl ?_ | refine DK.sn rfl ?_ | refine AWP.seq ?_ | refine AWP.region ?_ | refine AWP.dk mixed ?_ | refine AWP.condT rfl ?_ | refine AWP.condF rfl ?_ | refine AWP.skip ?_ | refine AWP.ret ?_ | refine AWP.exit ?_ | refine AWP.block ?_ )
          refine ⟨(b + 1, orW t x.toNat (p.w a)), ⟨by simp only; omega, hgb⟩, by simp only; omega, Sub.re [[(0, 0)], [(1, 0)], [(2, 0)], [(3, 0)]] rfl rfl rfl ⟨⟨⟨_, rfl, RenB.rows (rows := ps.map prRow) rfl (pure_procs ps)⟩, trivial⟩, ⟨⟨_, rfl, RenB.row rfl pure_z4⟩, trivial⟩, ⟨⟨_, rfl, RenB.row rfl (pure_rp4 _ _)⟩, trivial⟩, ⟨⟨_, rfl, RenB.row ?_ (pure_bset _ _)⟩, trivial⟩, trivial⟩
            ⟨.ptr _ _ _ _ _ _ rfl, .ptr _ _ _ _ _ _ rfl, .ptr _ _ _ _ _ _ rfl, .ptr _ _ _ _ _ _ rfl, .int rfl, .pure (pure_knownV L), .int rfl, .int rfl, .pure (pure_ints ks), .int rfl, .int hb1, trivial⟩⟩
          show lsplice (bset 64 t) _ _ = _
          rw [Nat.mul_one, Nat.zero_add]
          refine (bset_splice 64 t x.toNat _).trans (bset_congr fun j hj => ?_)
          unfold orW
          rw [g]
          rfl
      · have hbk : b = ks.length := by
          have : ¬ b < ks.length := by simpa using h
          omega
        have hgt : knownGo (p.w a) ks s = t := by rw [hgb, hbk, List.drop_length]; rfl
        rw [hgt] at hgo
        repeat (first | refine Reg.o rfl rfl ?_ | refine Reg.on rfl rfl ?_ | refine Reg.s rfl ?_ | refine Reg.sn rfl ?_ | refine Reg.nil ?_ | refine DK.o rfl rfl ?_ | refine DK.on rfl rfl ?_ | refine DK.s rfl ?_ | refine DK.sn rfl ?_ | refine AWP.seq ?_ | refine AWP.region ?_ | refine AWP.dk mixed ?_ | refine AWP.condT rfl ?_ | refine AWP.condF rfl ?_ | refine AWP.skip ?_ | refine AWP.ret ?_ | refine AWP.exit ?_ | refine AWP.block ?_ )
        exact ⟨(a + 1, t), ⟨by simp only; omega, hgo⟩, by simp only; omega, Sub.re [[(0, 0)], [(1, 0)], [(2, 0)], [(3, 0)]] rfl rfl rfl ⟨⟨⟨_, rfl, RenB.rows (rows := ps.map prRow) rfl (pure_procs ps)⟩, trivial⟩, ⟨⟨_, rfl, RenB.row rfl pure_z4⟩, trivial⟩, ⟨⟨_, rfl, RenB.row rfl (pure_rp4 _ _)⟩, trivial⟩, ⟨⟨_, rfl, RenB.row rfl (pure_bset _ _)⟩, trivial⟩, trivial⟩
          ⟨.ptr _ _ _ _ _ _ rfl, .ptr _ _ _ _ _ _ rfl, .ptr _ _ _ _ _ _ rfl, .ptr _ _ _ _ _ _ rfl, .pure (pure_knownV L), .int rfl, .int ha1, trivial⟩⟩
    · have hal : a = L.length := by
        have : ¬ a < L.length := by simpa using h
        omega
      have hs : knownAll p.w 0 L (fail1 p.w fl.length fl.length) = s := by rw [hgo, hal, List.drop_length]; rfl
      have hst : List.take 64 (List.drop 0 (bset 64 s)) = bset 64 s := take_drop0 (bset_len _ _)
      repeat (first | refine Reg.o rfl rfl ?_ | refine Reg.on rfl rfl ?_ | refine Reg.s rfl ?_ | refine Reg.sn rfl ?_ | refine Reg.nil ?_ | refine DK.o rfl rfl ?_ | refine DK.on rfl rfl ?_ | refine DK.s rfl ?_ | refine DK.sn rfl ?_ | refine AWP.seq ?_ | refine AWP.region ?_ | refine AWP.dk mixed ?_ | refine AWP.condT rfl ?_ | refine AWP.condF rfl ?_ | refine AWP.skip ?_ | refine AWP.ret ?_ | refine AWP.exit ?_ | refine AWP.block ?_ )
      rw [hst]
      refine Reg.c (show 1 ≤ 4 by omega) rfl (CallOK.ofPure (PureRun.of (allPure_cons (.agg _ (pure_bset _ _)) allPure_nil) (pure_ints _) (list_ok s)) _ ?_)
      repeat (first | refine Reg.o rfl rfl ?_ | refine Reg.on rfl rfl ?_ | refine Reg.s rfl ?_ | refine Reg.sn rfl ?_ | refine Reg.nil ?_ | refine DK.o rfl rfl ?_ | refine DK.on rfl rfl ?_ | refine DK.s rfl ?_ | refine DK.sn rfl ?_ | refine AWP.seq ?_ | refine AWP.region ?_ | refine AWP.dk mixed ?_ | refine AWP.condT rfl ?_ | refine AWP.condF rfl ?_ | refine AWP.skip ?_ | refine AWP.ret ?_ | refine AWP.exit ?_ | refine AWP.block ?_ )
      refine fin_procsP (.inr rfl) rfl (.agg _ (pure_rpRow ⟨true, p.dec, flagK p.w fl fl.length, elems 64 s⟩)) ?_
      unfold agreedS
      rw [hs]
      rfl

end Go.Proofs.Ytbpmbofinoinmaa
