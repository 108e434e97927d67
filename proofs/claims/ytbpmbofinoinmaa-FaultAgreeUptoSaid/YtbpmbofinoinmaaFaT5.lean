import Derived.Test.YtbpmbofinoinmaaFaT4
namespace Go.Proofs.Ytbpmbofinoinmaa
open Go.Av Go.Proofs

theorem dstep_look {g i : Nat} {fr : Fr} {H : Heap} {z : AV} {k : IntKind} {x ix : Operand} {n : Int} {es : List (Value × AV)} {r : Option AV} (hx : ev fr x = .tmap es) (hi : ev fr ix = .sc (.int k n)) (hm : mfind k n es = some r) :
    dstep g i (.lookup z k x ix true) fr H = some (.tup [r.getD z, .sc (.bool r.isSome)], H) := by
  simp only [dstep, hx, hi, mlook, hm]
  cases r <;> rfl

def esOf (l : List C) : List (Value × AV) := l.map fun c => (.int .i64 c.rank, .agg (crow c))
def findC (l : List C) (i : Int) : Option C := l.find? fun c => decide (i = c.rank)

theorem mfind_es (l : List C) (i : Int) : mfind .i64 i (esOf l) = some ((findC l i).map fun c => .agg (crow c)) := by
  induction l with
  | nil => rfl
  | cons c l ih =>
    show (match decide (IntKind.i64 = IntKind.i64) with
      | true => match decide (i = c.rank) with
        | true => some (some (AV.agg (crow c)))
        | false => mfind .i64 i (esOf l)
      | false => mfind .i64 i (esOf l)) = _
    have h1 : decide (IntKind.i64 = IntKind.i64) = true := rfl
    rw [h1]
    simp only [findC, List.find?_cons]
    cases decide (i = c.rank) with
    | true => rfl
    | false => exact ih

theorem pure_es (l : List C) : Pure (.tmap (esOf l)) := .tmap _ fun x hx => by
  obtain ⟨c, _, rfl⟩ := List.mem_map.1 hx
  exact .agg _ (pure_crow c)

def schV (n : Int) (l : List C) : AV := .agg [.sc (.int .i64 n), .tmap (esOf l)]
theorem pure_sch (n : Int) (l : List C) : Pure (schV n l) := .agg _ (allPure_cons (.sc _) (allPure_cons (pure_es l) allPure_nil))

def livesS (l : List C) (i r : Int) : Bool := match findC l i with
  | none => true
  | some c => decide (c.round > r)

def reachS (n : Int) (l : List C) (i r : Int) : Int := match findC l i with
  | none => n - 1
  | some c => if c.round > r then n - 1 else if c.round = r then c.sent else 0

theorem lives_ok (n : Int) (l : List C) (i r : Int) : CallOK Try.prog 41 [schV n l, .sc (.int .i64 i), .sc (.int .i64 r)] [] (fun res _ => res = .sc (.bool (livesS l i r))) := by
  refine CallOK.of cF41 ?_ (by simp [F41])
  repeat (first | refine Reg.o rfl rfl ?_ | refine Reg.on rfl rfl ?_ | refine Reg.s rfl ?_ | refine Reg.sn rfl ?_ | refine Reg.nil ?_ | refine DK.o rfl rfl ?_ | refine DK.on rfl rfl ?_ | refine DK.s rfl ?_ | refine DK.sn rfl ?_ | refine AWP.seq ?_ | refine AWP.region ?_ | refine AWP.dk mixed ?_ | refine AWP.condT rfl ?_ | refine AWP.condF rfl ?_ | refine AWP.skip ?_ | refine AWP.ret ?_ | refine AWP.exit ?_ | refine AWP.block ?_ )
  refine Reg.o rfl (dstep_look rfl rfl (mfind_es l i)) ?_
  cases hf : findC l i with
  | none =>
    repeat' (first | refine Reg.o rfl rfl ?_ | refine Reg.on rfl rfl ?_ | refine Reg.s rfl ?_ | refine Reg.sn rfl ?_ | refine Reg.nil ?_ | refine DK.o rfl rfl ?_ | refine DK.on rfl rfl ?_ | refine DK.s rfl ?_ | refine DK.sn rfl ?_ | refine AWP.seq ?_ | refine AWP.region ?_ | refine AWP.dk mixed ?_ | refine AWP.condT rfl ?_ | refine AWP.condF rfl ?_ | refine AWP.skip ?_ | refine AWP.ret ?_ | refine AWP.exit ?_ | refine AWP.block ?_ | refine Reg.gs rfl (fun _ => ?_) (fun _ => ?_) | refine AWP.cond rfl (fun _ => ?_) (fun _ => ?_))
    all_goals exact fin_pure (.inr rfl) rfl (.sc _) (by simp [livesS, hf])
  | some c =>
    repeat' (first | refine Reg.o rfl rfl ?_ | refine Reg.on rfl rfl ?_ | refine Reg.s rfl ?_ | refine Reg.sn rfl ?_ | refine Reg.nil ?_ | refine DK.o rfl rfl ?_ | refine DK.on rfl rfl ?_ | refine DK.s rfl ?_ | refine DK.sn rfl ?_ | refine AWP.seq ?_ | refine AWP.region ?_ | refine AWP.dk mixed ?_ | refine AWP.condT rfl ?_ | refine AWP.condF rfl ?_ | refine AWP.skip ?_ | refine AWP.ret ?_ | refine AWP.exit ?_ | refine AWP.block ?_ | refine Reg.gs rfl (fun _ => ?_) (fun _ => ?_) | refine AWP.cond rfl (fun _ => ?_) (fun _ => ?_))
    all_goals exact fin_pure (.inr rfl) rfl (.sc _) (by simp [livesS, hf])

theorem reaches_ok (n : Int) (l : List C) (i r : Int) (hn : 1 ≤ n ∧ n ≤ 1000) : CallOK Try.prog 69 [schV n l, .sc (.int .i64 i), .sc (.int .i64 r)] [] (fun res _ => res = .sc (.int .i64 (reachS n l i r))) := by
  have hw : IntKind.i64.wrap (n - 1) = n - 1 := wrap_small (by omega) (by omega)
  refine CallOK.of cF69 ?_ (by simp [F69])
  repeat (first | refine Reg.o rfl rfl ?_ | refine Reg.on rfl rfl ?_ | refine Reg.s rfl ?_ | refine Reg.sn rfl ?_ | refine Reg.nil ?_ | refine DK.o rfl rfl ?_ | refine DK.on rfl rfl ?_ | refine DK.s rfl ?_ | refine DK.sn rfl ?_ | refine AWP.seq ?_ | refine AWP.region ?_ | refine AWP.dk mixed ?_ | refine AWP.condT rfl ?_ | refine AWP.condF rfl ?_ | refine AWP.skip ?_ | refine AWP.ret ?_ | refine AWP.exit ?_ | refine AWP.block ?_ )
  refine Reg.o rfl (dstep_look rfl rfl (mfind_es l i)) ?_
  cases hf : findC l i with
  | none =>
    repeat' (first | refine Reg.o rfl rfl ?_ | refine Reg.on rfl rfl ?_ | refine Reg.s rfl ?_ | refine Reg.sn rfl ?_ | refine Reg.nil ?_ | refine DK.o rfl rfl ?_ | refine DK.on rfl rfl ?_ | refine DK.s rfl ?_ | refine DK.sn rfl ?_ | refine AWP.seq ?_ | refine AWP.region ?_ | refine AWP.dk mixed ?_ | refine AWP.condT rfl ?_ | refine AWP.condF rfl ?_ | refine AWP.skip ?_ | refine AWP.ret ?_ | refine AWP.exit ?_ | refine AWP.block ?_ | refine Reg.gs rfl (fun _ => ?_) (fun _ => ?_) | refine AWP.cond rfl (fun _ => ?_) (fun _ => ?_))
    all_goals exact fin_pure (.inr rfl) rfl (.sc _) (by simp [reachS, hf, hw])
  | some c =>
    repeat' (first | refine Reg.o rfl rfl ?_ | refine Reg.on rfl rfl ?_ | refine Reg.s rfl ?_ | refine Reg.sn rfl ?_ | refine Reg.nil ?_ | refine DK.o rfl rfl ?_ | refine DK.on rfl rfl ?_ | refine DK.s rfl ?_ | refine DK.sn rfl ?_ | refine AWP.seq ?_ | refine AWP.region ?_ | refine AWP.dk mixed ?_ | refine AWP.condT rfl ?_ | refine AWP.condF rfl ?_ | refine AWP.skip ?_ | refine AWP.ret ?_ | refine AWP.exit ?_ | refine AWP.block ?_ | refine Reg.gs rfl (fun _ => ?_) (fun _ => ?_) | refine AWP.cond rfl (fun _ => ?_) (fun _ => ?_))
    all_goals exact fin_pure (.inr rfl) rfl (.sc _) (by first | (simp_all [reachS]; done) | (simp_all [reachS]; omega))

end Go.Proofs.Ytbpmbofinoinmaa
