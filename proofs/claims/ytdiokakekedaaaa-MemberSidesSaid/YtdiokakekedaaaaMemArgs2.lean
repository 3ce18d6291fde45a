/- Member: links as an argument. -/
import Derived.Test.YtdiokakekedaaaaMemProg
import Derived.Test.YtdiokakekedaaaaMemSides3
namespace Go.Proofs.Ytdiokakekedaaaa.Ab
open Go

theorem arg_links {a : AV} (h : ArgOk tys 5 36 a) : ∃ l : List (Int × Int), a = .sl 0 2 (links l) := by
  have h : WT tys 5 36 [a] := h
  simp only [WT, show (ti tys 36).k = .slice 30 from rfl] at h
  obtain ⟨xs, hx, _, hb, hr⟩ := h
  simp only [List.cons.injEq, and_true] at hx
  subst hx
  obtain ⟨l, rfl, _⟩ := rows_of_wt (f := fun p : Int × Int => [AV.int .i64 p.1, AV.int .i64 p.2]) (p := fun _ => True) (q := fun x => WT tys 4 30 x) (fun x hx => by
    simp only [WT, k_30, List.replicate, WTs] at hx
    obtain ⟨a, r, rfl, ha, b, r, rfl, hb, rfl⟩ := hx
    obtain ⟨n, rfl, _⟩ := wt_int (d := 2) ha
    obtain ⟨m, rfl, _⟩ := wt_int (d := 2) hb
    exact ⟨(n, m), rfl, trivial⟩) xs fun x hx => (hr x hx).2
  exact ⟨l, rfl⟩
end Go.Proofs.Ytdiokakekedaaaa.Ab
