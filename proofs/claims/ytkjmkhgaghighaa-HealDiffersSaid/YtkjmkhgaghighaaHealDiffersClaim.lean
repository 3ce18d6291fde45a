/-
  PROVED: brokerlaw44.HealDiffers returns true for every input, and its input reads as it did. CONDITIONS: none but the statement's own.
-/
import Derived.Test.YtkjmkhgaghighaaRows
import Derived.Test.YtkjmkhgaghighaaHealProg
import Derived.Test.YtkjmkhgaghighaaHealDiffersLaw
import Derived.WalkKit
import Derived.ProofKit
import Derived.SizedLaws
namespace Go.Proofs.Ytkjmkhgaghighaa.healDiffers
open Go Go.ChangeShapes Go.WideShapes Go.ChangeAt Go.RowKit
open Go.Proofs.Ytkjmkhgaghighaa.Ab
theorem own : ownKnob Try.prog.godebug = none := by kernel_rfl
theorem laidOut : laidOutB Try.prog = true := by kernel_rfl
set_option maxRecDepth 100000 in
theorem lifted (os : Os) (started : os.Started) (H : Type) (enc : TypeId × Value → H) :
    ReturnsInHanded {} Try.checked os 7 .any (Rows.healDiffersSpec.pre6 enc Try.prog Try.f7 Rows.healDiffersRow.domain false) (Rows.healDiffersSpec.post enc Try.prog Try.f7 false true false false) := by
  refine returnsInHanded_of_change_sized (C := Try.checked) own started (by kernel_rfl) Try.func7
    (ChangeSpec.witness6 (enc := enc) (C := Try.checked) false ⟨#[], #[.slice none 0 0, .slice none 0 0], []⟩ 8 (by kernel_rfl) (by kernel_rfl) (by kernel_rfl) (by kernel_rfl)) ?_
  intro W base args ds gs before hval hW hcnd hsz _
  refine law_contract progOk laidOut (tb := 4) (d := 5) rfl (by kernel_rfl) (by kernel_rfl) ?_ ?_ (by kernel_rfl) base args ds gs before hval hW hsz ?_
  · intro ds hl
    have hl : ds.length = 2 := hl
    match ds, hl with
    | [x, y], _ => rfl
  · intro t ht
    have e : Try.f7.params.toList = [22, 22] := by kernel_rfl
    rw [e] at ht
    simp only [List.mem_cons, List.not_mem_nil, or_false] at ht
    rcases ht with rfl | rfl <;> exact ⟨by kernel_rfl, of_decide_eq_true (by kernel_rfl), by kernel_rfl⟩
  · intro avs ha _
    have e : Try.f7.params.toList = [22, 22] := by kernel_rfl
    rw [e] at ha
    obtain ⟨a0, a1, rfl, h0, h1⟩ := argsOk2 ha
    obtain ⟨c0, rfl, b0, _⟩ := arg_list h0
    obtain ⟨c1, rfl, b1, _⟩ := arg_list h1
    exact F7.spec fun _ => rfl
theorem over : Rows.healDiffersRow.holds Try.pinned (OpenSpec.ofChange Rows.healDiffersSpec) :=
  OpenClaim.holds_of_wide 7 Try.f7 rfl rfl rfl rfl rfl rfl rfl ⟨rfl, rfl, rfl, rfl, rfl⟩ rfl rfl rfl rfl rfl (by kernel_rfl) Try.func7 (by kernel_rfl)
    (of_decide_eq_true (by kernel_rfl)) (by unfold Func.isWrapper; first | (rw [if_pos (by decide +kernel)]; kernel_rfl) | (rw [if_neg (by decide +kernel)]; exact ⟨rfl, rfl⟩))
    (fun os started H enc _ => lifted os started H enc)
theorem proved : Rows.HealDiffersSaid := over
#print axioms proved
end Go.Proofs.Ytkjmkhgaghighaa.healDiffers
