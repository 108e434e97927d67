import Derived.Test.YtbpmbofinoinmaaAvB2
namespace Go.Av

/-! Arguments, opened. -/

def numV : Option AV → Int
  | some (.sc (.int _ n)) => n
  | _ => 0

theorem open_i64 {a : AV} (h : Fit (.int .i64) a) : ∃ n : Int, a = .sc (.int .i64 n) ∧ -9223372036854775808 ≤ n ∧ n ≤ 9223372036854775807 := by
  cases h with
  | int k n h =>
    have e1 : IntKind.i64.min = -9223372036854775808 := rfl
    have e2 : IntKind.i64.max = 9223372036854775807 := rfl
    simp only [Lit.wf, Bool.and_eq_true, decide_eq_true_eq, e1, e2] at h
    exact ⟨n, rfl, h.1, h.2⟩

theorem open_u8 {a : AV} (h : Fit (.int .u8) a) : ∃ n : Nat, a = .sc (.int .u8 n) ∧ n ≤ 255 := by
  cases h with
  | int k n h =>
    have e1 : IntKind.u8.min = 0 := rfl
    have e2 : IntKind.u8.max = 255 := rfl
    simp only [Lit.wf, Bool.and_eq_true, decide_eq_true_eq, e1, e2] at h
    obtain ⟨m, rfl⟩ := Int.eq_ofNat_of_zero_le h.1
    exact ⟨m, rfl, by omega⟩

theorem open_u32 {a : AV} (h : Fit (.int .u32) a) : ∃ n : Nat, a = .sc (.int .u32 n) ∧ n ≤ 4294967295 := by
  cases h with
  | int k n h =>
    have e1 : IntKind.u32.min = 0 := rfl
    have e2 : IntKind.u32.max = 4294967295 := rfl
    simp only [Lit.wf, Bool.and_eq_true, decide_eq_true_eq, e1, e2] at h
    obtain ⟨m, rfl⟩ := Int.eq_ofNat_of_zero_le h.1
    exact ⟨m, rfl, by omega⟩

theorem open_bool' {a : AV} (h : Fit .bool a) : ∃ b : Bool, a = .sc (.bool b) := by
  cases h with
  | bool b => exact ⟨b, rfl⟩

/-- A slice, its rows told by a function. -/
theorem open_rows {α : Type} {row : List Sh} {a : AV} (h : Fit (.slice row) a) (f : α → List AV) (ok : α → Prop) (each : ∀ r : List AV, r.length = row.length → (∀ (j : Nat) s c, row[j]? = some s → r[j]? = some c → Fit s c) → ∃ x, r = f x ∧ ok x) :
    ∃ l : List α, a = .list row.length (l.map f) ∧ l.length ≤ maxLen ∧ ∀ x ∈ l, ok x := by
  cases h with
  | slice _ rows hl hr h =>
    have key : ∀ rows : List (List AV), (∀ r ∈ rows, r.length = row.length) → (∀ r ∈ rows, ∀ (j : Nat) s c, row[j]? = some s → r[j]? = some c → Fit s c) → ∃ l : List α, rows = l.map f ∧ ∀ x ∈ l, ok x := by
      intro rows
      induction rows with
      | nil => exact fun _ _ => ⟨[], rfl, fun x hx => by cases hx⟩
      | cons r rows ih =>
        intro hr h
        obtain ⟨x, hx, hok⟩ := each r (hr r (List.mem_cons_self ..)) (h r (List.mem_cons_self ..))
        obtain ⟨l, hl, hoks⟩ := ih (fun q hq => hr q (List.mem_cons_of_mem _ hq)) (fun q hq => h q (List.mem_cons_of_mem _ hq))
        refine ⟨x :: l, by rw [hx, hl]; rfl, fun y hy => ?_⟩
        rcases List.mem_cons.1 hy with e | e
        · subst e; exact hok
        · exact hoks y e
    obtain ⟨l, e, hok⟩ := key rows hr h
    subst e
    exact ⟨l, rfl, by simpa using hl, hok⟩

theorem open_ints' {a : AV} (h : Fit (.slice [.int .i64]) a) : ∃ l : List Int, a = .list 1 (l.map fun n => [.sc (.int .i64 n)]) ∧ l.length ≤ maxLen ∧ ∀ n ∈ l, -9223372036854775808 ≤ n ∧ n ≤ 9223372036854775807 :=
  open_rows h (fun n => [.sc (.int .i64 n)]) (fun n => -9223372036854775808 ≤ n ∧ n ≤ 9223372036854775807) fun r hl hf => by
    match r, hl with
    | [x], _ =>
      obtain ⟨n, rfl, hn⟩ := open_i64 (hf 0 _ x rfl rfl)
      exact ⟨n, rfl, hn⟩

theorem avs1 {s : Sh} {avs : List AV} (hl : avs.length = [s].length) (h : ∀ (j : Nat) t c, [s][j]? = some t → avs[j]? = some c → Fit t c) : ∃ a, avs = [a] ∧ Fit s a := by
  match avs, hl with
  | [a], _ => exact ⟨a, rfl, h 0 s a rfl rfl⟩
theorem avs2 {s t : Sh} {avs : List AV} (hl : avs.length = [s, t].length) (h : ∀ (j : Nat) u c, [s, t][j]? = some u → avs[j]? = some c → Fit u c) : ∃ a b, avs = [a, b] ∧ Fit s a ∧ Fit t b := by
  match avs, hl with
  | [a, b], _ => exact ⟨a, b, rfl, h 0 s a rfl rfl, h 1 t b rfl rfl⟩
theorem avs3 {s t u : Sh} {avs : List AV} (hl : avs.length = [s, t, u].length) (h : ∀ (j : Nat) v c, [s, t, u][j]? = some v → avs[j]? = some c → Fit v c) : ∃ a b c, avs = [a, b, c] ∧ Fit s a ∧ Fit t b ∧ Fit u c := by
  match avs, hl with
  | [a, b, c], _ => exact ⟨a, b, c, rfl, h 0 s a rfl rfl, h 1 t b rfl rfl, h 2 u c rfl rfl⟩

end Go.Av
