/- The program and its tables; the arguments of its laws. -/
import Derived.Test.YtkjmkhgaghighaaAbRow
import Derived.Test.YtkjmkhgaghighaaAbEq
import Derived.Test.YtkjmkhgaghighaaHealEx
namespace Go.Proofs.Ytkjmkhgaghighaa.Ab
open Go
set_option maxRecDepth 100000

theorem tabOk : TabOk Try.prog tys := ⟨tys_ok, by kernel_rfl⟩
theorem structs_ok : structsB Try.prog tys = true := by kernel_rfl
theorem names_ok : (Try.prog.funcs.toList.all fun g => !(g.name == "runtime.NumGoroutine")) = true := by kernel_rfl
theorem apartOk : ApartOk Try.prog E0 := by
  intro g hg
  have : g = 51 := Nat.eq_of_beq_eq_true hg
  subst this
  exact ⟨Try.f51, 22, 4, 26, 5, by kernel_rfl, by kernel_rfl, by kernel_rfl, by kernel_rfl, by kernel_rfl, by kernel_rfl, fun w => tabOk.size_pos (t := 26) (by decide) w⟩
theorem fsOk (f : Nat) (fn : Func) (h : E0.fs f = some fn) : Try.prog.funcs[f]? = some fn ∧ (fn.name == "runtime.NumGoroutine") = false := by
  have h1 : fns.getD f none = some fn := by
    have h : cond (leafL.elem f) none (fns.getD f none) = some fn := h
    cases hl : leafL.elem f <;> rw [hl] at h
    · exact h
    · cases h
  rw [← fns_ok, List.getD_eq_getElem?_getD, List.getElem?_map] at h1
  cases hx : Try.prog.funcs.toList[f]? with
  | none => rw [hx] at h1; cases h1
  | some g =>
    rw [hx] at h1
    simp only [Option.map_some, Option.getD_some, Option.some.injEq] at h1
    subst h1
    refine ⟨by simpa using hx, ?_⟩
    have := List.all_eq_true.1 names_ok g (List.mem_of_getElem? hx)
    simpa using this
theorem progOk : ProgOk Try.prog E0 where
  tab := tabOk
  eq := eqOk tabOk (structsOk_of structs_ok)
  apart := apartOk
  mix := by kernel_rfl
  fs := fsOk
  leaf := fun _ _ _ _ h => False.elim h
  leafFeas := fun _ _ _ _ h => False.elim h

/-! The arguments -/
theorem k_22 : (ti tys 22).k = .slice 26 := rfl
theorem k_26 : (ti tys 26).k = .struct [(0, 9), (1, 9), (2, 4), (3, 24)] := rfl
theorem k_24 : (ti tys 24).k = .struct [(0, 3), (1, 3)] := rfl
theorem wt_cell {d : Nat} {x : List AV} (h : WT tys (d + 3) 26 x) : ∃ c : Cl, x = c.enc ∧ (-9223372036854775808 ≤ c.epoch ∧ c.epoch ≤ 9223372036854775807) ∧ -9223372036854775808 ≤ c.node ∧ c.node ≤ 9223372036854775807 := by
  simp only [WT, k_26, List.map_cons, List.map_nil, WTs] at h
  obtain ⟨a, r, rfl, ha, b, r, rfl, hb, c, r, rfl, hc, e, r, rfl, he, rfl⟩ := h
  obtain ⟨s, rfl, _⟩ : ∃ s : ByteArray, a = [.str s] ∧ s.size ≤ 140737488351232 := ha
  obtain ⟨t, rfl, _⟩ : ∃ s : ByteArray, b = [.str s] ∧ s.size ≤ 140737488351232 := hb
  obtain ⟨g, rfl⟩ : ∃ g, c = [.bool g] := hc
  simp only [k_24, List.map_cons, List.map_nil, WTs] at he
  obtain ⟨p, r, rfl, hp, q, r, rfl, hq, rfl⟩ := he
  obtain ⟨n, rfl, n1, n2⟩ : ∃ n, p = [.int .i64 n] ∧ IntKind.i64.min ≤ n ∧ n ≤ IntKind.i64.max := hp
  obtain ⟨m, rfl, m1, m2⟩ : ∃ n, q = [.int .i64 n] ∧ IntKind.i64.min ≤ n ∧ n ≤ IntKind.i64.max := hq
  exact ⟨⟨s, t, g, n, m⟩, rfl, ⟨n1, n2⟩, m1, m2⟩
def CellOk (c : Cl) : Prop := (-9223372036854775808 ≤ c.epoch ∧ c.epoch ≤ 9223372036854775807) ∧ -9223372036854775808 ≤ c.node ∧ c.node ≤ 9223372036854775807
theorem arg_list {a : AV} (h : ArgOk tys 5 22 a) : ∃ cs : List Cl, a = .sl 0 5 (rows cs) ∧ cs.length * 56 ≤ 140737488351232 ∧ ∀ c ∈ cs, CellOk c := by
  have h : WT tys 5 22 [a] := h
  simp only [WT, k_22] at h
  obtain ⟨xs, hx, _, hb, hr⟩ := h
  simp only [List.cons.injEq, and_true] at hx
  subst hx
  have key : ∀ xs : List (List AV), (∀ x ∈ xs, WT tys 4 26 x) → ∃ cs : List Cl, xs = rows cs ∧ ∀ c ∈ cs, CellOk c := by
    intro xs
    induction xs with
    | nil => intro _; exact ⟨[], rfl, by simp⟩
    | cons x xs ih =>
      intro h
      obtain ⟨c, rfl, hc⟩ := wt_cell (h x (by simp))
      obtain ⟨cs, rfl, hcs⟩ := ih (fun y hy => h y (by simp [hy]))
      exact ⟨c :: cs, rfl, fun q hq => (List.mem_cons.1 hq).elim (fun e => e ▸ hc) (hcs q)⟩
  obtain ⟨cs, rfl, hcs⟩ := key xs fun x hx => (hr x hx).2
  exact ⟨cs, rfl, by rw [length_rows] at hb; exact hb, hcs⟩
theorem arg_int {a : AV} (h : ArgOk tys 5 3 a) : ∃ n : Int, a = .int .i64 n ∧ -9223372036854775808 ≤ n ∧ n ≤ 9223372036854775807 := by
  obtain ⟨n, hn, h1, h2⟩ : ∃ n, [a] = [AV.int .i64 n] ∧ IntKind.i64.min ≤ n ∧ n ≤ IntKind.i64.max := h
  cases hn
  exact ⟨n, rfl, h1, h2⟩
theorem arg_cell {a : AV} (h : ArgOk tys 5 26 a) : ∃ c : Cl, a = .agg c.enc ∧ CellOk c := by
  obtain ⟨cs, rfl, h⟩ : ∃ cs, a = .agg cs ∧ WT tys 5 26 cs := h
  obtain ⟨c, rfl, hc⟩ := wt_cell h
  exact ⟨c, rfl, hc⟩
end Go.Proofs.Ytkjmkhgaghighaa.Ab
