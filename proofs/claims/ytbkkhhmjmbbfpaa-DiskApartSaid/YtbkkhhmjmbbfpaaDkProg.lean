/- Disk: the program and its tables; the arguments of its laws. -/
import Derived.Test.YtbkkhhmjmbbfpaaAbRow
import Derived.Test.YtbkkhhmjmbbfpaaAbEq
import Derived.Test.YtbkkhhmjmbbfpaaShelf
import Derived.Test.YtbkkhhmjmbbfpaaDkW
namespace Go.Proofs.Ytbkkhhmjmbbfpaa.Ab
open Go
set_option maxRecDepth 100000

theorem tabOk : TabOk Try.prog tys := ⟨tys_ok, by kernel_rfl⟩
theorem structs_ok : structsB Try.prog tys = true := by kernel_rfl
theorem names_ok : (Try.prog.funcs.toList.all fun g => !(g.name == "runtime.NumGoroutine")) = true := by kernel_rfl
theorem apartOk : ApartOk Try.prog E0 := by
  intro g hg
  cases hg
theorem fsOk (f : Nat) (fn : Func) (h : E0.fs f = some fn) : Try.prog.funcs[f]? = some fn ∧ (fn.name == "runtime.NumGoroutine") = false := by
  have h1 : fns.getD f none = some fn := by
    have h : cond (leafL.elem f) none (fns.getD f none) = some fn := h
    cases hl : leafL.elem f <;> rw [hl] at h
    · exact h
    · cases h
  rw [← fns_ok, List.getD_eq_getElem?_getD, List.getElem?_map] at h1
  cases hx : Try.prog.funcs.toList[f]? with
  | none => rw [hx] at h1; cases h1
  | some g =>
    rw [hx] at h1
    simp only [Option.map_some, Option.getD_some, Option.some.injEq] at h1
    subst h1
    refine ⟨by simpa using hx, ?_⟩
    have := List.all_eq_true.1 names_ok g (List.mem_of_getElem? hx)
    simpa using this
theorem progOk : ProgOk Try.prog E0 where
  tab := tabOk
  eq := eqOk tabOk (structsOk_of structs_ok)
  apart := ⟨apartOk, dispOk_none fun _ => rfl⟩
  mix := by kernel_rfl
  fs := fsOk
  leaf := sortLeafS_sound ⟨Try.f30, Try.func30, by kernel_rfl, by kernel_rfl⟩ rfl (fun blk off cap zs w hH hb hl => Try.slices_Sort_string blk off cap zs w hH hb hl) (fun p cap w => Try.slices_Sort_string_none p cap w)
  leafFeas := sortLeafS_feas 30

/-! The arguments -/
theorem k_22 : (ti tys 22).k = .slice 5 := rfl
theorem k_30 : (ti tys 30).k = .slice 3 := rfl
theorem k_35 : (ti tys 35).k = .slice 45 := rfl
theorem k_45 : (ti tys 45).k = .struct [(0, 5), (1, 9), (2, 9), (3, 22), (4, 30)] := rfl
theorem wt_int {d : Nat} {x : List AV} (h : WT tys (d + 1) 3 x) : ∃ n : Int, x = [.int .i64 n] ∧ -9223372036854775808 ≤ n ∧ n ≤ 9223372036854775807 := h
theorem wt_u8 {d : Nat} {x : List AV} (h : WT tys (d + 1) 5 x) : ∃ n : Int, x = [.int .u8 n] ∧ 0 ≤ n ∧ n ≤ 255 := h
theorem wt_str {d : Nat} {x : List AV} (h : WT tys (d + 1) 9 x) : ∃ s : ByteArray, x = [.str s] := by
  obtain ⟨s, hs⟩ := h
  exact ⟨s, hs.1⟩
theorem rows_of_wt {α : Type} {f : α → List AV} {p : α → Prop} {q : List AV → Prop} (hq : ∀ x, q x → ∃ a, x = f a ∧ p a) : ∀ xs : List (List AV), (∀ x ∈ xs, q x) → ∃ l : List α, xs = l.map f ∧ ∀ a ∈ l, p a
  | [], _ => ⟨[], rfl, by simp⟩
  | x :: xs, h => by
    obtain ⟨a, rfl, ha⟩ := hq x (h x (by simp))
    obtain ⟨l, rfl, hl⟩ := rows_of_wt hq xs (fun y hy => h y (by simp [hy]))
    exact ⟨a :: l, rfl, fun b hb => (List.mem_cons.1 hb).elim (fun e => e ▸ ha) (hl b)⟩
theorem arg_int {a : AV} (h : ArgOk tys 5 3 a) : ∃ n : Int, a = .int .i64 n ∧ -9223372036854775808 ≤ n ∧ n ≤ 9223372036854775807 := by
  obtain ⟨n, hn, h1, h2⟩ : ∃ n, [a] = [AV.int .i64 n] ∧ IntKind.i64.min ≤ n ∧ n ≤ IntKind.i64.max := h
  cases hn
  exact ⟨n, rfl, h1, h2⟩
theorem wt_bytes {d : Nat} {x : List AV} (h : WT tys (d + 2) 22 x) : ∃ s : ByteArray, x = [.sl 0 1 (bytesAV s)] := by
  simp only [WT, k_22] at h
  obtain ⟨xs, rfl, _, hb, hr⟩ := h
  obtain ⟨l, rfl, _⟩ := rows_of_wt (f := fun z : UInt8 => [AV.int .u8 (z.toNat : Int)]) (p := fun _ => True) (q := fun x => WT tys (d + 1) 5 x) (fun x hx => by
    obtain ⟨n, rfl, h0, h1⟩ := wt_u8 hx
    refine ⟨UInt8.ofNat n.toNat, ?_, trivial⟩
    have : (UInt8.ofNat n.toNat).toNat = n.toNat := by simp only [UInt8.toNat_ofNat']; omega
    rw [this, Int.toNat_of_nonneg h0]) xs fun x hx => (hr x hx).2
  refine ⟨⟨l.toArray⟩, ?_⟩
  simp only [bytesAV]
  rfl
theorem wt_ints {d : Nat} {x : List AV} (h : WT tys (d + 2) 30 x) : ∃ l : List Int, x = [.sl 0 1 (intR l)] := by
  simp only [WT, k_30] at h
  obtain ⟨xs, rfl, _, hb, hr⟩ := h
  obtain ⟨l, rfl, _⟩ := rows_of_wt (f := fun z : Int => [AV.int .i64 z]) (p := fun _ => True) (q := fun x => WT tys (d + 1) 3 x) (fun x hx => by
    obtain ⟨n, rfl, _⟩ := wt_int hx
    exact ⟨n, rfl, trivial⟩) xs fun x hx => (hr x hx).2
  exact ⟨l, rfl⟩
theorem arg_bytes {a : AV} (h : ArgOk tys 5 22 a) : ∃ s : ByteArray, a = .sl 0 1 (bytesAV s) := by
  obtain ⟨l, hl⟩ := wt_bytes (d := 3) (show WT tys 5 22 [a] from h)
  simp only [List.cons.injEq, and_true] at hl
  exact ⟨l, hl⟩
theorem arg_ints {a : AV} (h : ArgOk tys 5 30 a) : ∃ l : List Int, a = .sl 0 1 (intR l) := by
  obtain ⟨l, hl⟩ := wt_ints (d := 3) (show WT tys 5 30 [a] from h)
  simp only [List.cons.injEq, and_true] at hl
  exact ⟨l, hl⟩
theorem arg_acts {a : AV} (h : ArgOk tys 5 35 a) : ∃ l : List Act, a = .sl 0 5 (acts l) := by
  have h : WT tys 5 35 [a] := h
  simp only [WT, k_35] at h
  obtain ⟨xs, hx, _, hb, hr⟩ := h
  simp only [List.cons.injEq, and_true] at hx
  subst hx
  obtain ⟨l, rfl, _⟩ := rows_of_wt (f := aenc) (p := fun _ => True) (q := fun x => WT tys 4 45 x) (fun x hx => by
    simp only [WT, k_45, List.map_cons, List.map_nil, WTs] at hx
    obtain ⟨a, r, rfl, ha, b, r, rfl, hb, c, r, rfl, hc, d, r, rfl, hd, e, r, rfl, he, rfl⟩ := hx
    obtain ⟨n, rfl, h0, _⟩ := wt_u8 (d := 2) ha
    obtain ⟨s, rfl⟩ := wt_str (d := 2) hb
    obtain ⟨t, rfl⟩ := wt_str (d := 2) hc
    obtain ⟨u, rfl⟩ := wt_bytes (d := 1) hd
    obtain ⟨v, rfl⟩ := wt_ints (d := 1) he
    refine ⟨⟨n.toNat, s, t, u, v⟩, ?_, trivial⟩
    simp only [aenc, Int.toNat_of_nonneg h0]
    rfl) xs fun x hx => (hr x hx).2
  exact ⟨l, rfl⟩
end Go.Proofs.Ytbkkhhmjmbbfpaa.Ab
