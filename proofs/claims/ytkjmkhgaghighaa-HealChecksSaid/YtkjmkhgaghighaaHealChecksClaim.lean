/-
  PROVED: brokerlaw44.HealChecks returns true for every input, and its input reads as it did. CONDITIONS: none but the statement's own.
-/
import Derived.Test.YtkjmkhgaghighaaRows
import Derived.Test.YtkjmkhgaghighaaHealProg
import Derived.Test.YtkjmkhgaghighaaHealChecksLaw
import Derived.WalkKit
import Derived.ProofKit
import Derived.SizedLaws
namespace Go.Proofs.Ytkjmkhgaghighaa.healChecks
open Go Go.ChangeShapes Go.WideShapes Go.ChangeAt Go.RowKit
open Go.Proofs.Ytkjmkhgaghighaa.Ab
theorem own : ownKnob Try.prog.godebug = none := by kernel_rfl
theorem laidOut : laidOutB Try.prog = true := by kernel_rfl
set_option maxRecDepth 100000 in
theorem lifted (os : Os) (started : os.Started) (H : Type) (enc : TypeId × Value → H) :
    ReturnsInHanded {} Try.checked os 3 .any (Rows.healChecksSpec.pre6 enc Try.prog Try.f3 Rows.healChecksRow.domain false) (Rows.healChecksSpec.post enc Try.prog Try.f3 false true false false) := by
  refine returnsInHanded_of_change_sized (C := Try.checked) own started (by kernel_rfl) Try.func3
    (ChangeSpec.witness6 (enc := enc) (C := Try.checked) false ⟨#[], #[.slice none 0 0], []⟩ 8 (by kernel_rfl) (by kernel_rfl) (by kernel_rfl) (by kernel_rfl)) ?_
  intro W base args ds gs before hval hW hcnd hsz _
  refine law_contract progOk laidOut (tb := 4) (d := 5) rfl (by kernel_rfl) (by kernel_rfl) ?_ ?_ (by kernel_rfl) base args ds gs before hval hW hsz ?_
  · intro ds hl
    have hl : ds.length = 1 := hl
    match ds, hl with
    | [x], _ => rfl
  · intro t ht
    have e : Try.f3.params.toList = [22] := by kernel_rfl
    rw [e] at ht
    obtain rfl : t = 22 := by simpa using ht
    exact ⟨by kernel_rfl, of_decide_eq_true (by kernel_rfl), by kernel_rfl⟩
  · intro avs ha _
    have e : Try.f3.params.toList = [22] := by kernel_rfl
    rw [e] at ha
    match avs, ha with
    | [a], ⟨h1, _⟩ =>
      obtain ⟨cs, rfl, hb, _⟩ := arg_list h1
      exact F3.spec (by omega) fun _ => rfl
theorem over : Rows.healChecksRow.holds Try.pinned (OpenSpec.ofChange Rows.healChecksSpec) :=
  OpenClaim.holds_of_wide 3 Try.f3 rfl rfl rfl rfl rfl rfl rfl ⟨rfl, rfl, rfl, rfl, rfl⟩ rfl rfl rfl rfl rfl (by kernel_rfl) Try.func3 (by kernel_rfl)
    (of_decide_eq_true (by kernel_rfl)) (by unfold Func.isWrapper; first | (rw [if_pos (by decide +kernel)]; kernel_rfl) | (rw [if_neg (by decide +kernel)]; exact ⟨rfl, rfl⟩))
    (fun os started H enc _ => lifted os started H enc)
theorem proved : Rows.HealChecksSaid := over
#print axioms proved
end Go.Proofs.Ytkjmkhgaghighaa.healChecks
