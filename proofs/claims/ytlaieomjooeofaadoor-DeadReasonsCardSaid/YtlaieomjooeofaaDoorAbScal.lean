/- Functions of the library that take and give numbers, bools and strings alone, told as leaves. -/
import Derived.Test.YtlaieomjooeofaaDoorAbItoa
namespace Go.Proofs.YtlaieomjooeofaaDoor.Ab
open Go

def valS : AV → Value | .int k n => .int k n | .bool b => .bool b | .str s => .string s | _ => .nilFunc
def scalB : AV → Bool | .int _ _ => true | .bool _ => true | .str _ => true | _ => false
theorem rep_scal {w : World} {stb : Nat → Prop} {ob : Nat → Option Nat} {a : AV} {v : Value} (h : Rep w stb ob a v) (hs : scalB a = true) : v = valS a := by
  cases h <;> simp [scalB] at hs <;> rfl
theorem scal_rep {w : World} {stb : Nat → Prop} {ob : Nat → Option Nat} {a : AV} (hs : scalB a = true) : Rep w stb ob a (valS a) := by
  cases a <;> simp [scalB] at hs
  · exact .int _ _
  · exact .bool _
  · exact .str _
def scLeaf (F : Nat) (rel : List AV → AV → Prop) : Oracle := fun f args H Q => f = F ∧ ∃ r, rel args r ∧ (args.all scalB = true ∧ scalB r = true) ∧ Q r H
theorem scLeaf_feas (F : Nat) (rel : List AV → AV → Prop) : Feas (scLeaf F rel) := by
  rintro f args H Q ⟨_, r, _, _, h⟩
  exact ⟨_, _, h⟩
theorem scLeaf_sound {P : Program} {E : Env} {F : Nat} {rel : List AV → AV → Prop} (hen : Enters P F) (hown : E.own F = false)
    (hc : ∀ args r, rel args r → ∀ w : World, Calls P F (args.map valS).toArray w fun e w' => e = .returned (valS r) ∧ w' = w) : OSound P E (scLeaf F rel) := by
  rintro f args H Q ⟨rfl, r, hr, ⟨ha, hs⟩, hQ⟩
  refine ⟨hen, fun w g vs hst => ?_⟩
  have hv : vs = args.map valS := by
    apply List.ext_getElem?
    intro i
    rw [List.getElem?_map]
    cases hi : args[i]? with
    | none =>
      rw [List.getElem?_eq_none_iff] at hi
      rw [Option.map_none, List.getElem?_eq_none_iff, ← hst.len]
      exact hi
    | some c =>
      have hlt : i < vs.length := by rw [← hst.len]; exact (List.getElem?_eq_some_iff.1 hi).1
      have h1 := hst.rep i c vs[i] hi (List.getElem?_eq_getElem hlt)
      rw [List.getElem?_eq_getElem hlt, Option.map_some, rep_scal h1 (List.all_eq_true.1 ha c (List.mem_of_getElem? hi))]
  subst hv
  refine (hc args r hr w).mono fun e' w' ⟨he, hw⟩ => ?_
  subst hw
  refine ⟨_, _, _, g, ⟨fun _ => 0, fun _ => .nilFunc, fun _ => [], fun _ => 0⟩, he, hQ, ⟨rfl, rfl, rfl, Nat.le_refl _, fun _ _ _ => rfl, fun _ h => h, fun _ h => .inl h, fun _ _ h => h, fun _ h => .inl h⟩, hst.heap.mono (fun _ _ => rfl) (fun _ _ => rfl) (fun _ h => h) rfl rfl (Nat.le_refl _), hst.stbLt, ?_⟩
  unfold ResOk
  rw [hown]
  exact scal_rep hs
end Go.Proofs.YtlaieomjooeofaaDoor.Ab
