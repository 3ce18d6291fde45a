/- Member: more of the laws' arguments. -/
import Derived.Test.YtdiokakekedaaaaMemProg
namespace Go.Proofs.Ytdiokakekedaaaa.Ab
open Go

theorem arg_three {a : AV} (h : ArgOk tys 5 47 a) : ∃ n m k : Int, a = .agg [.int .i64 n, .int .i64 m, .int .i64 k] := by
  obtain ⟨cs, rfl, h⟩ : ∃ cs, a = .agg cs ∧ WT tys 5 47 cs := h
  simp only [WT, show (ti tys 47).k = .array 3 3 from rfl, List.replicate, WTs] at h
  obtain ⟨a, r, rfl, ha, b, r, rfl, hb, c, r, rfl, hc, rfl⟩ := h
  obtain ⟨n, rfl, _⟩ := wt_int (d := 3) ha
  obtain ⟨m, rfl, _⟩ := wt_int (d := 3) hb
  obtain ⟨k, rfl, _⟩ := wt_int (d := 3) hc
  exact ⟨n, m, k, rfl⟩
theorem arg_u8two {a : AV} (h : ArgOk tys 5 48 a) : ∃ n m : Int, a = .agg [.int .u8 n, .int .u8 m] ∧ (0 ≤ n ∧ n ≤ 255) ∧ 0 ≤ m ∧ m ≤ 255 := by
  obtain ⟨cs, rfl, h⟩ : ∃ cs, a = .agg cs ∧ WT tys 5 48 cs := h
  simp only [WT, show (ti tys 48).k = .array 2 5 from rfl, List.replicate, WTs] at h
  obtain ⟨a, r, rfl, ha, b, r, rfl, hb, rfl⟩ := h
  have ha : ∃ n : Int, a = [.int .u8 n] ∧ 0 ≤ n ∧ n ≤ 255 := ha
  have hb : ∃ n : Int, b = [.int .u8 n] ∧ 0 ≤ n ∧ n ≤ 255 := hb
  obtain ⟨n, rfl, h1⟩ := ha
  obtain ⟨m, rfl, h2⟩ := hb
  exact ⟨n, m, rfl, h1, h2⟩
end Go.Proofs.Ytdiokakekedaaaa.Ab
