/- Place: the program and its tables; the arguments of its laws. -/
import Derived.Test.YtagckffnpnejaaaDoorAbLaid
import Derived.Test.YtagckffnpnejaaaDoorAbEq
import Derived.Test.YtagckffnpnejaaaDoorShelf
import Derived.Test.YtagckffnpnejaaaDoorRows
import Derived.Test.YtagckffnpnejaaaDoorPl1
import Derived.LaidHandle
import Derived.LaidLaws
namespace Go.Proofs.YtagckffnpnejaaaDoor.Ab
open Go
set_option maxRecDepth 100000

theorem tabOk : TabOk Tryd.prog tys := ⟨tys_ok, by kernel_rfl⟩
theorem structs_ok : structsB Tryd.prog tys = true := by kernel_rfl
theorem names_ok : (Tryd.prog.funcs.toList.all fun g => !(g.name == "runtime.NumGoroutine")) = true := by kernel_rfl
theorem apartOk : ApartOk Tryd.prog E0 := by
  intro g hg
  have : g = 38 := Nat.eq_of_beq_eq_true hg
  subst this
  exact ⟨Tryd.f38, 26, 4, 3, 1, by kernel_rfl, by kernel_rfl, by kernel_rfl, by kernel_rfl, by kernel_rfl, by kernel_rfl, fun w => tabOk.size_pos (t := 3) (by decide) w⟩
theorem fsOk (f : Nat) (fn : Func) (h : E0.fs f = some fn) : Tryd.prog.funcs[f]? = some fn ∧ (fn.name == "runtime.NumGoroutine") = false := by
  have h1 : fns.getD f none = some fn := by
    have h : cond (leafL.elem f) none (fns.getD f none) = some fn := h
    cases hl : leafL.elem f <;> rw [hl] at h
    · exact h
    · cases h
  rw [← fns_ok, List.getD_eq_getElem?_getD, List.getElem?_map] at h1
  cases hx : Tryd.prog.funcs.toList[f]? with
  | none => rw [hx] at h1; cases h1
  | some g =>
    rw [hx] at h1
    simp only [Option.map_some, Option.getD_some, Option.some.injEq] at h1
    subst h1
    refine ⟨by simpa using hx, ?_⟩
    have := List.all_eq_true.1 names_ok g (List.mem_of_getElem? hx)
    simpa using this
theorem progOk : ProgOk Tryd.prog E0 where
  tab := tabOk
  eq := eqOk tabOk (structsOk_of structs_ok)
  apart := apartOk
  mix := by kernel_rfl
  fs := fsOk
  leaf := itoaLeaf_sound (V := 0) ⟨Tryd.f30, Tryd.func30, by kernel_rfl, by kernel_rfl⟩ rfl (by simp [fxT]) (by kernel_rfl) (fun n h0 h1 w ht => Tryd.strconv_Itoa n h0 h1 w ht)
  leafFeas := itoaLeaf_feas 30

/-! The table that the rows list -/
def laidL : List (String × DataW Unit) := [("math/bits.deBruijn32tab", Rows.laid_math_bits_deBruijn32tab), ("math/bits.deBruijn64tab", Rows.laid_math_bits_deBruijn64tab), ("internal/strconv.uint64pow10", Rows.laid_internal_strconv_uint64pow10)]
theorem door_met (os : Os) (args : Array Value) : laidMetH Tryd.prog laidL ((World.doorLaid Tryd.prog 400 os).forCall (fun _ _ => 0) ⟨#[], args, []⟩).memory :=
  laidMetH_of_parts3 (fuel := 8) (laidMet_of_run' 8 (by kernel_rfl) (by kernel_rfl)) (by kernel_rfl) (by kernel_rfl)
theorem fx_of_laid {W : World} (h : laidMetH Tryd.prog laidL W) : ∀ p ∈ fxT, p.1 < W.heap.size ∧ FixAt W p := by
  rw [MakeChecks.laidMetH_plain _ _ _ (by kernel_rfl)] at h
  intro p hp
  have hp : p = (0, IntKind.u64, Lib.pow10Tab) := by simpa [fxT] using hp
  subst hp
  exact fixAt_of_laid (P := Tryd.prog) (name := "internal/strconv.uint64pow10") (t := 73) (e := 59) (n := 20) (by kernel_rfl) (by kernel_rfl) (by kernel_rfl) (by kernel_rfl) (by kernel_rfl) (by kernel_rfl) h
    (by
      have e : (Rows.laid_internal_strconv_uint64pow10 : DataW Unit) = Lib.tabData .u64 Lib.pow10Tab := by kernel_rfl
      rw [← e]
      simp [laidL])

/-! The arguments -/
theorem k_25 : (ti tys 25).k = .slice 28 := rfl
theorem k_26 : (ti tys 26).k = .slice 3 := rfl
theorem k_28 : (ti tys 28).k = .struct [(0, 9), (1, 26)] := rfl
theorem k_32 : (ti tys 32).k = .slice 9 := rfl
theorem k_33 : (ti tys 33).k = .array 2 3 := rfl
theorem k_47 : (ti tys 47).k = .struct [(0, 26), (1, 26)] := rfl
theorem wt_int {d : Nat} {x : List AV} (h : WT tys (d + 1) 3 x) : ∃ n : Int, x = [.int .i64 n] ∧ -9223372036854775808 ≤ n ∧ n ≤ 9223372036854775807 := h
theorem wt_str {d : Nat} {x : List AV} (h : WT tys (d + 1) 9 x) : ∃ s : ByteArray, x = [.str s] ∧ s.size ≤ 140737488351232 := h
theorem rows_of_wt {α : Type} {f : α → List AV} {p : α → Prop} {q : List AV → Prop} (hq : ∀ x, q x → ∃ a, x = f a ∧ p a) : ∀ xs : List (List AV), (∀ x ∈ xs, q x) → ∃ l : List α, xs = l.map f ∧ ∀ a ∈ l, p a
  | [], _ => ⟨[], rfl, by simp⟩
  | x :: xs, h => by
    obtain ⟨a, rfl, ha⟩ := hq x (h x (by simp))
    obtain ⟨l, rfl, hl⟩ := rows_of_wt hq xs (fun y hy => h y (by simp [hy]))
    exact ⟨a :: l, rfl, fun b hb => (List.mem_cons.1 hb).elim (fun e => e ▸ ha) (hl b)⟩
theorem arg_int {a : AV} (h : ArgOk tys 5 3 a) : ∃ n : Int, a = .int .i64 n ∧ -9223372036854775808 ≤ n ∧ n ≤ 9223372036854775807 := by
  obtain ⟨n, hn, h1, h2⟩ : ∃ n, [a] = [AV.int .i64 n] ∧ IntKind.i64.min ≤ n ∧ n ≤ IntKind.i64.max := h
  cases hn
  exact ⟨n, rfl, h1, h2⟩
theorem arg_str {a : AV} (h : ArgOk tys 5 9 a) : ∃ s : ByteArray, a = .str s := by
  obtain ⟨s, hs, _⟩ := wt_str (d := 4) (show WT tys 5 9 [a] from h)
  simp only [List.cons.injEq, and_true] at hs
  exact ⟨s, hs⟩
theorem wt_ints {d : Nat} {x : List AV} (h : WT tys (d + 2) 26 x) : ∃ l : List Int, x = [.sl 0 1 (ints l)] := by
  simp only [WT, k_26] at h
  obtain ⟨xs, rfl, _, hb, hr⟩ := h
  obtain ⟨l, rfl, _⟩ := rows_of_wt (f := fun z : Int => [AV.int .i64 z]) (p := fun _ => True) (q := fun x => WT tys (d + 1) 3 x) (fun x hx => by
    obtain ⟨n, rfl, _⟩ := wt_int hx
    exact ⟨n, rfl, trivial⟩) xs fun x hx => (hr x hx).2
  exact ⟨l, rfl⟩
theorem arg_ints {a : AV} (h : ArgOk tys 5 26 a) : ∃ l : List Int, a = .sl 0 1 (ints l) := by
  obtain ⟨l, hl⟩ := wt_ints (d := 3) (show WT tys 5 26 [a] from h)
  simp only [List.cons.injEq, and_true] at hl
  exact ⟨l, hl⟩
theorem arg_strs {a : AV} (h : ArgOk tys 5 32 a) : ∃ l : List ByteArray, a = .sl 0 1 (strs l) ∧ l.length ≤ 140737488355328 := by
  have h : WT tys 5 32 [a] := h
  simp only [WT, k_32] at h
  obtain ⟨xs, hx, hm, hb, hr⟩ := h
  simp only [List.cons.injEq, and_true] at hx
  subst hx
  obtain ⟨l, rfl, _⟩ := rows_of_wt (f := fun s : ByteArray => [AV.str s]) (p := fun _ => True) (q := fun x => WT tys 4 9 x) (fun x hx => by
    obtain ⟨s, rfl, _⟩ := wt_str (d := 3) hx
    exact ⟨s, rfl, trivial⟩) xs fun x hx => (hr x hx).2
  have hz : (ti tys 9).bytes = 16 := rfl
  rw [hz, List.length_map] at hb
  exact ⟨l, rfl, by omega⟩
theorem arg_pms {a : AV} (h : ArgOk tys 5 25 a) : ∃ l : List Pm, a = .sl 0 2 (pms l) := by
  have h : WT tys 5 25 [a] := h
  simp only [WT, k_25] at h
  obtain ⟨xs, hx, hm, hb, hr⟩ := h
  simp only [List.cons.injEq, and_true] at hx
  subst hx
  obtain ⟨l, rfl, _⟩ := rows_of_wt (f := Pm.enc) (p := fun _ => True) (q := fun x => WT tys 4 28 x) (fun x hx => by
    simp only [WT, k_28, List.map_cons, List.map_nil, WTs] at hx
    obtain ⟨a, r, rfl, ha, b, r, rfl, hb, rfl⟩ := hx
    obtain ⟨s, rfl, _⟩ := wt_str (d := 2) ha
    obtain ⟨l, rfl⟩ := wt_ints (d := 1) hb
    exact ⟨⟨s, l⟩, rfl, trivial⟩) xs fun x hx => (hr x hx).2
  exact ⟨l, rfl⟩
theorem arg_two {a : AV} (h : ArgOk tys 5 33 a) : ∃ n m : Int, a = .agg [.int .i64 n, .int .i64 m] := by
  obtain ⟨cs, rfl, h⟩ : ∃ cs, a = .agg cs ∧ WT tys 5 33 cs := h
  simp only [WT, k_33, List.replicate, WTs] at h
  obtain ⟨a, r, rfl, ha, b, r, rfl, hb, rfl⟩ := h
  obtain ⟨n, rfl, _⟩ := wt_int (d := 3) ha
  obtain ⟨m, rfl, _⟩ := wt_int (d := 3) hb
  exact ⟨n, m, rfl⟩
theorem arg_change {a : AV} (h : ArgOk tys 5 47 a) : ∃ l m : List Int, a = .agg [.sl 0 1 (ints l), .sl 0 1 (ints m)] := by
  obtain ⟨cs, rfl, h⟩ : ∃ cs, a = .agg cs ∧ WT tys 5 47 cs := h
  simp only [WT, k_47, List.map_cons, List.map_nil, WTs] at h
  obtain ⟨a, r, rfl, ha, b, r, rfl, hb, rfl⟩ := h
  obtain ⟨n, rfl⟩ := wt_ints (d := 2) ha
  obtain ⟨m, rfl⟩ := wt_ints (d := 2) hb
  exact ⟨n, m, rfl⟩
end Go.Proofs.YtagckffnpnejaaaDoor.Ab
