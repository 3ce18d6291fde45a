/- What a row lists of a package's tables, in the words of FixAt. -/
import Derived.Test.YtlaieomjooeofaaDoorAbRow
import Derived.Lib.LaidTab
import Derived.MakeChecks
import Derived.LaidMore
namespace Go.Proofs.YtlaieomjooeofaaDoor.Ab
open Go

theorem tab_of_laid {P : Program} {W : World} {name : String} {k : IntKind} {zs : List Int} {g : Nat} {t e : TypeId} {n : Nat}
    (hg : P.globalNamed name = some g) (hty : (P.globals[g]?).map (·.type) = some t) (ht : P.underlying t = some (.array n e)) (he : P.underlying e = some (.int k)) (hce : P.cellsOf e = 1) (hct : P.cellsOf t = n) :
    ∀ (l : List (String × DataW Unit)) (ps : List MemPlace), DataW.LaidVars P W l ps → (name, Lib.tabData k zs) ∈ l → Lib.TabIs P W name k zs
  | [], _, _, h => by cases h
  | x :: r, ps, hl, h => by
    obtain ⟨g', t', cs, fuel, p, q, hg', ht', hvar, hd, hr, _⟩ := hl
    rcases List.mem_cons.1 h with h | h
    · subst h
      obtain rfl := Option.some.inj (hg.symm.trans hg')
      obtain rfl := Option.some.inj (hty.symm.trans ht')
      unfold Lib.TabIs
      rw [hvar, ← Lib.cells_of_tab ht he hce hct hd]
    · exact tab_of_laid hg hty ht he hce hct r q hr h
theorem fixAt_of_laid {P : Program} {W : World} {name : String} {k : IntKind} {zs : List Int} {g : Nat} {t e : TypeId} {n : Nat}
    (hg : P.globalNamed name = some g) (hty : (P.globals[g]?).map (·.type) = some t) (ht : P.underlying t = some (.array n e)) (he : P.underlying e = some (.int k)) (hce : P.cellsOf e = 1) (hct : P.cellsOf t = n)
    {l : List (String × DataW Unit)} (h : laidMet P l W) (hm : (name, Lib.tabData k zs) ∈ l) : g < W.heap.size ∧ FixAt W (g, k, zs) := by
  obtain ⟨ps, hl, _⟩ := h
  have ht := tab_of_laid hg hty ht he hce hct l ps hl hm
  unfold Lib.TabIs World.var? at ht
  rw [hg] at ht
  simp only [Option.bind_some] at ht
  have hlt : g < W.heap.size := by
    rcases Nat.lt_or_ge g W.heap.size with h' | h'
    · exact h'
    · rw [Array.getElem?_eq_none h'] at ht; simp at ht
  refine ⟨hlt, ?_⟩
  unfold FixAt
  simp only
  cases ho : W.heap[g]? with
  | none => rw [ho] at ht; simp at ht
  | some o =>
    rw [ho] at ht
    cases o <;> simp at ht
    subst ht
    rename_i e' fr
    exact ⟨_, _, rfl⟩
end Go.Proofs.YtlaieomjooeofaaDoor.Ab
