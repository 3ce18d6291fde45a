/- strconv.Itoa, told as a leaf: what its contract in the kit says, in the abstract machine's words. -/
import Derived.Test.YtlaieomjooeofaaDoorAbAwp
import Derived.Sort.Grow
import Derived.Deep.Draws
import Derived.Lib.LaidTab
import Derived.Lib.ItoaNum
namespace Go.Proofs.YtlaieomjooeofaaDoor.Ab
open Go

/-- A leaf or another. -/
def orLeaf (A B : Oracle) : Oracle := fun f a H Q => A f a H Q ∨ B f a H Q
theorem orLeaf_feas {A B : Oracle} (hA : Feas A) (hB : Feas B) : Feas (orLeaf A B) := fun f a H Q h => h.elim (hA f a H Q) (hB f a H Q)
theorem orLeaf_sound {P : Program} {E : Env} {A B : Oracle} (hA : OSound P E A) (hB : OSound P E B) : OSound P E (orLeaf A B) := fun f a H Q h => h.elim (hA f a H Q) (hB f a H Q)

def itoaV (n : Int) : ByteArray := ⟨(Lib.itoa n).toArray⟩
def itoaLeaf (F : Nat) : Oracle := fun f args H Q => f = F ∧ ∃ n : Int, args = [.int .i64 n] ∧ (-9223372036854775808 ≤ n ∧ n ≤ 9223372036854775807) ∧ Q (.str (itoaV n)) H
theorem itoaLeaf_feas (F : Nat) : Feas (itoaLeaf F) := by
  rintro f args H Q ⟨_, _, _, _, h⟩
  exact ⟨_, _, h⟩
theorem itoaLeaf_sound {P : Program} {E : Env} {F V : Nat} (hen : Enters P F) (hown : E.own F = false) (hg : (V, IntKind.u64, Lib.pow10Tab) ∈ fxT) (hname : P.globalNamed "internal/strconv.uint64pow10" = some V)
    (hc : ∀ (n : Int), -9223372036854775808 ≤ n → n ≤ 9223372036854775807 → ∀ w : World, Lib.TabIs P w "internal/strconv.uint64pow10" .u64 Lib.pow10Tab →
      Calls P F #[.int .i64 n] w fun e w' => e = .returned (.string ⟨(Lib.itoa n).toArray⟩) ∧ ∃ k os, w' = Go.Sort.grow (w.drewN k) os) : OSound P E (itoaLeaf F) := by
  rintro f args H Q ⟨rfl, n, ha, ⟨h0, h1⟩, hQ⟩
  refine ⟨hen, fun w g vs hs => ?_⟩
  have hone : ∃ v, vs = [v] ∧ Rep w g.stb g.ob (.int .i64 n) v := by
    subst ha
    have hl := hs.len
    match vs, hl with
    | [v], _ => exact ⟨v, rfl, hs.rep 0 _ _ rfl rfl⟩
  obtain ⟨v, rfl, hv⟩ := hone
  cases hv
  have htab : Lib.TabIs P w "internal/strconv.uint64pow10" .u64 Lib.pow10Tab := by
    obtain ⟨e, fr, q⟩ := (hs.heap.fx _ hg).2
    unfold Lib.TabIs World.var?
    rw [hname]
    simp only [Option.bind_some]
    rw [q]
  refine (hc n h0 h1 w htab).mono fun e' w' ⟨he, k, os, hw⟩ => ?_
  have hsize : w.heap.size ≤ w'.heap.size := by rw [hw]; simp [Go.Sort.grow, World.drewN]
  have hold : ∀ b, b < w.heap.size → w'.heap[b]? = w.heap[b]? := by
    intro b hb
    rw [hw]
    exact Go.Sort.heap_grow_old _ _ hb
  have hstb : ∀ b, g.stb b → w'.heap[b]? = w.heap[b]? := fun b hb => hold b (hs.stbLt b hb).1
  refine ⟨_, _, _, g, ⟨fun _ => 0, fun _ => .nilFunc, fun _ => [], fun _ => 0⟩, he, hQ, ⟨by rw [hw]; rfl, by rw [hw]; rfl, by rw [hw]; rfl, hsize, fun b hb _ => hold b hb, fun _ h => h, fun _ h => .inl h, fun _ _ h => h, fun _ h => .inl h⟩,
    hs.heap.mono (fun b hb => hold b (hs.heap.foot_lt hb)) hstb (fun _ h => h) rfl rfl hsize, fun b hb => ⟨Nat.lt_of_lt_of_le (hs.stbLt b hb).1 hsize, (hs.stbLt b hb).2⟩, ?_⟩
  unfold ResOk
  rw [hown]
  exact .str _
end Go.Proofs.YtlaieomjooeofaaDoor.Ab
