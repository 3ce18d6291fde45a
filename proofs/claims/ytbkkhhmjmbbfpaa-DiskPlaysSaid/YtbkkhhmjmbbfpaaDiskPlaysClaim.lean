/-
  PROVED: brokerlaw36.DiskPlays returns true for every input, and its input reads as it did. CONDITIONS: none but the statement's own.
-/
import Derived.Test.YtbkkhhmjmbbfpaaRows
import Derived.Test.YtbkkhhmjmbbfpaaDkProg
import Derived.Test.YtbkkhhmjmbbfpaaDkY
import Derived.WalkKit
import Derived.ProofKit
import Derived.SizedLaws
namespace Go.Proofs.Ytbkkhhmjmbbfpaa.diskPlays
open Go Go.ChangeShapes Go.WideShapes Go.ChangeAt Go.RowKit
open Go.Proofs.Ytbkkhhmjmbbfpaa.Ab
theorem own : ownKnob Try.prog.godebug = none := by kernel_rfl
theorem laidOut : laidOutB Try.prog = true := by kernel_rfl
set_option maxRecDepth 100000 in
theorem lifted (os : Os) (started : os.Started) (H : Type) (enc : TypeId × Value → H) :
    ReturnsInHanded {} Try.checked os 5 .any (Rows.diskPlaysSpec.pre6 enc Try.prog Try.f5 Rows.diskPlaysRow.domain false) (Rows.diskPlaysSpec.post enc Try.prog Try.f5 false true false false) := by
  refine returnsInHanded_of_change_sized (C := Try.checked) own started (by kernel_rfl) Try.func5
    (ChangeSpec.witness6 (enc := enc) (C := Try.checked) false ⟨#[], #[.slice none 0 0], []⟩ 8 (by kernel_rfl) (by kernel_rfl) (by kernel_rfl) (by kernel_rfl)) ?_
  intro W base args ds gs before hval hW hcnd hsz _
  refine law_contract progOk laidOut (tb := 4) (d := 5) rfl (by kernel_rfl) (by kernel_rfl) ?_ ?_ (by kernel_rfl) base args ds gs before hval hW hsz (fun p hp => absurd hp (by simp [fxT])) ?_
  · intro ds hl
    have hl : ds.length = 1 := hl
    match ds, hl with
    | [x], _ => rfl
  · intro t ht
    have e : Try.f5.params.toList = [35] := by kernel_rfl
    rw [e] at ht
    obtain rfl : t = 35 := by simpa using ht
    exact ⟨by kernel_rfl, of_decide_eq_true (by kernel_rfl), by kernel_rfl⟩
  · intro avs ha _
    have e : Try.f5.params.toList = [35] := by kernel_rfl
    rw [e] at ha
    obtain ⟨a0, rfl, h0⟩ := argsOk1 ha
    obtain ⟨l0, rfl⟩ := arg_acts h0
    exact F5.ok (fun _ => rfl) (F5.eq l0)
theorem over : Rows.diskPlaysRow.holds Try.pinned (OpenSpec.ofChange Rows.diskPlaysSpec) :=
  OpenClaim.holds_of_wide 5 Try.f5 rfl rfl rfl rfl rfl rfl rfl ⟨rfl, rfl, rfl, rfl, rfl⟩ rfl rfl rfl rfl rfl (by kernel_rfl) Try.func5 (by kernel_rfl)
    (of_decide_eq_true (by kernel_rfl)) (by unfold Func.isWrapper; first | (rw [if_pos (by decide +kernel)]; kernel_rfl) | (rw [if_neg (by decide +kernel)]; exact ⟨rfl, rfl⟩))
    (fun os started H enc _ => lifted os started H enc)
theorem proved : Rows.DiskPlaysSaid := over
#print axioms proved
end Go.Proofs.Ytbkkhhmjmbbfpaa.diskPlays
