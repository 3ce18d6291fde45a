/- The program and its tables; the arguments of its laws. -/
import Derived.Test.YtdiokakekedaaaaAbRow
import Derived.Test.YtdiokakekedaaaaAbEq
import Derived.Test.YtdiokakekedaaaaShelf
import Derived.Test.YtdiokakekedaaaaMemThree
namespace Go.Proofs.Ytdiokakekedaaaa.Ab
open Go
set_option maxRecDepth 100000

theorem tabOk : TabOk Try.prog tys := ⟨tys_ok, by kernel_rfl⟩
theorem structs_ok : structsB Try.prog tys = true := by kernel_rfl
theorem names_ok : (Try.prog.funcs.toList.all fun g => !(g.name == "runtime.NumGoroutine")) = true := by kernel_rfl
theorem apartOk : ApartOk Try.prog E0 := by
  intro g hg
  have : g = 39 := Nat.eq_of_beq_eq_true hg
  subst this
  exact ⟨Try.f39, 22, 4, 28, 2, by kernel_rfl, by kernel_rfl, by kernel_rfl, by kernel_rfl, by kernel_rfl, by kernel_rfl, fun w => tabOk.size_pos (t := 28) (by decide) w⟩
theorem fsOk (f : Nat) (fn : Func) (h : E0.fs f = some fn) : Try.prog.funcs[f]? = some fn ∧ (fn.name == "runtime.NumGoroutine") = false := by
  have h1 : fns.getD f none = some fn := by
    have h : cond (leafL.elem f) none (fns.getD f none) = some fn := h
    cases hl : leafL.elem f <;> rw [hl] at h
    · exact h
    · cases h
  rw [← fns_ok, List.getD_eq_getElem?_getD, List.getElem?_map] at h1
  cases hx : Try.prog.funcs.toList[f]? with
  | none => rw [hx] at h1; cases h1
  | some g =>
    rw [hx] at h1
    simp only [Option.map_some, Option.getD_some, Option.some.injEq] at h1
    subst h1
    refine ⟨by simpa using hx, ?_⟩
    have := List.all_eq_true.1 names_ok g (List.mem_of_getElem? hx)
    simpa using this
theorem progOk : ProgOk Try.prog E0 where
  tab := tabOk
  eq := eqOk tabOk (structsOk_of structs_ok)
  apart := apartOk
  mix := by kernel_rfl
  fs := fsOk
  leaf := sortLeaf_sound ⟨Try.f41, Try.func41, by kernel_rfl, by kernel_rfl⟩ rfl (fun blk off cap zs w hH hb hl => Try.slices_Sort_int blk off cap zs w hH hb hl) (fun p cap w => Try.slices_Sort_int_none p cap w)
  leafFeas := sortLeaf_feas 41

/-! The arguments -/
theorem k_22 : (ti tys 22).k = .slice 28 := rfl
theorem k_28 : (ti tys 28).k = .struct [(0, 3), (1, 3)] := rfl
theorem k_31 : (ti tys 31).k = .slice 3 := rfl
theorem k_37 : (ti tys 37).k = .slice 31 := rfl
theorem k_30 : (ti tys 30).k = .array 2 3 := rfl
theorem wt_int {d : Nat} {x : List AV} (h : WT tys (d + 1) 3 x) : ∃ n : Int, x = [.int .i64 n] ∧ -9223372036854775808 ≤ n ∧ n ≤ 9223372036854775807 := h
theorem rows_of_wt {α : Type} {f : α → List AV} {p : α → Prop} {q : List AV → Prop} (hq : ∀ x, q x → ∃ a, x = f a ∧ p a) : ∀ xs : List (List AV), (∀ x ∈ xs, q x) → ∃ l : List α, xs = l.map f ∧ ∀ a ∈ l, p a
  | [], _ => ⟨[], rfl, by simp⟩
  | x :: xs, h => by
    obtain ⟨a, rfl, ha⟩ := hq x (h x (by simp))
    obtain ⟨l, rfl, hl⟩ := rows_of_wt hq xs (fun y hy => h y (by simp [hy]))
    exact ⟨a :: l, rfl, fun b hb => (List.mem_cons.1 hb).elim (fun e => e ▸ ha) (hl b)⟩
theorem arg_int {a : AV} (h : ArgOk tys 5 3 a) : ∃ n : Int, a = .int .i64 n ∧ -9223372036854775808 ≤ n ∧ n ≤ 9223372036854775807 := by
  obtain ⟨n, hn, h1, h2⟩ : ∃ n, [a] = [AV.int .i64 n] ∧ IntKind.i64.min ≤ n ∧ n ≤ IntKind.i64.max := h
  cases hn
  exact ⟨n, rfl, h1, h2⟩
theorem arg_peers {a : AV} (h : ArgOk tys 5 22 a) : ∃ l : List Pr, a = .sl 0 2 (peers l) := by
  have h : WT tys 5 22 [a] := h
  simp only [WT, k_22] at h
  obtain ⟨xs, hx, _, hb, hr⟩ := h
  simp only [List.cons.injEq, and_true] at hx
  subst hx
  obtain ⟨l, rfl, _⟩ := rows_of_wt (f := Pr.enc) (p := fun _ => True) (q := fun x => WT tys 4 28 x) (fun x hx => by
    simp only [WT, k_28, List.map_cons, List.map_nil, WTs] at hx
    obtain ⟨a, r, rfl, ha, b, r, rfl, hb, rfl⟩ := hx
    obtain ⟨n, rfl, _⟩ := wt_int (d := 2) ha
    obtain ⟨m, rfl, _⟩ := wt_int (d := 2) hb
    exact ⟨⟨n, m⟩, rfl, trivial⟩) xs fun x hx => (hr x hx).2
  exact ⟨l, rfl⟩
theorem wt_ints {d : Nat} {x : List AV} (h : WT tys (d + 2) 31 x) : ∃ l : List Int, x = [.sl 0 1 (ints l)] := by
  simp only [WT, k_31] at h
  obtain ⟨xs, rfl, _, hb, hr⟩ := h
  obtain ⟨l, rfl, _⟩ := rows_of_wt (f := fun z : Int => [AV.int .i64 z]) (p := fun _ => True) (q := fun x => WT tys (d + 1) 3 x) (fun x hx => by
    obtain ⟨n, rfl, _⟩ := wt_int hx
    exact ⟨n, rfl, trivial⟩) xs fun x hx => (hr x hx).2
  exact ⟨l, rfl⟩
theorem arg_ints {a : AV} (h : ArgOk tys 5 31 a) : ∃ l : List Int, a = .sl 0 1 (ints l) := by
  obtain ⟨l, hl⟩ := wt_ints (d := 3) (show WT tys 5 31 [a] from h)
  simp only [List.cons.injEq, and_true] at hl
  exact ⟨l, hl⟩
theorem arg_grps {a : AV} (h : ArgOk tys 5 37 a) : ∃ l : List (List Int), a = .sl 0 1 (grps l) := by
  have h : WT tys 5 37 [a] := h
  simp only [WT, k_37] at h
  obtain ⟨xs, hx, _, hb, hr⟩ := h
  simp only [List.cons.injEq, and_true] at hx
  subst hx
  obtain ⟨l, rfl, _⟩ := rows_of_wt (f := fun z : List Int => [AV.sl 0 1 (ints z)]) (p := fun _ => True) (q := fun x => WT tys 4 31 x) (fun x hx => by
    obtain ⟨n, rfl⟩ := wt_ints (d := 2) hx
    exact ⟨n, rfl, trivial⟩) xs fun x hx => (hr x hx).2
  exact ⟨l, rfl⟩
theorem arg_two {a : AV} (h : ArgOk tys 5 30 a) : ∃ n m : Int, a = .agg [.int .i64 n, .int .i64 m] := by
  obtain ⟨cs, rfl, h⟩ : ∃ cs, a = .agg cs ∧ WT tys 5 30 cs := h
  simp only [WT, k_30, List.replicate, WTs] at h
  obtain ⟨a, r, rfl, ha, b, r, rfl, hb, rfl⟩ := h
  obtain ⟨n, rfl, _⟩ := wt_int (d := 3) ha
  obtain ⟨m, rfl, _⟩ := wt_int (d := 3) hb
  exact ⟨n, m, rfl⟩
end Go.Proofs.Ytdiokakekedaaaa.Ab
