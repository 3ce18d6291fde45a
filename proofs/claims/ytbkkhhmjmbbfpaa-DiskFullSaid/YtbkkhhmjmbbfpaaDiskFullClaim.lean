/-
  PROVED: brokerlaw36.DiskFull returns true for every input, and its input reads as it did. CONDITIONS: none but the statement's own.
-/
import Derived.Test.YtbkkhhmjmbbfpaaRows
import Derived.Test.YtbkkhhmjmbbfpaaDkProg
import Derived.Test.YtbkkhhmjmbbfpaaDkX
import Derived.WalkKit
import Derived.ProofKit
import Derived.SizedLaws
namespace Go.Proofs.Ytbkkhhmjmbbfpaa.diskFull
open Go Go.ChangeShapes Go.WideShapes Go.ChangeAt Go.RowKit
open Go.Proofs.Ytbkkhhmjmbbfpaa.Ab
theorem own : ownKnob Try.prog.godebug = none := by kernel_rfl
theorem laidOut : laidOutB Try.prog = true := by kernel_rfl
set_option maxRecDepth 100000 in
theorem lifted (os : Os) (started : os.Started) (H : Type) (enc : TypeId × Value → H) :
    ReturnsInHanded {} Try.checked os 4 .any (Rows.diskFullSpec.pre6 enc Try.prog Try.f4 Rows.diskFullRow.domain false) (Rows.diskFullSpec.post enc Try.prog Try.f4 false true false false) := by
  refine returnsInHanded_of_change_sized (C := Try.checked) own started (by kernel_rfl) Try.func4
    (ChangeSpec.witness6 (enc := enc) (C := Try.checked) false ⟨#[], #[.int .i64 0], []⟩ 8 (by kernel_rfl) (by kernel_rfl) (by kernel_rfl) (by kernel_rfl)) ?_
  intro W base args ds gs before hval hW hcnd hsz _
  refine law_contract progOk laidOut (tb := 4) (d := 5) rfl (by kernel_rfl) (by kernel_rfl) ?_ ?_ (by kernel_rfl) base args ds gs before hval hW hsz (fun p hp => absurd hp (by simp [fxT])) ?_
  · intro ds hl
    have hl : ds.length = 1 := hl
    match ds, hl with
    | [x], _ => rfl
  · intro t ht
    have e : Try.f4.params.toList = [3] := by kernel_rfl
    rw [e] at ht
    obtain rfl : t = 3 := by simpa using ht
    exact ⟨by kernel_rfl, of_decide_eq_true (by kernel_rfl), by kernel_rfl⟩
  · intro avs ha _
    have e : Try.f4.params.toList = [3] := by kernel_rfl
    rw [e] at ha
    obtain ⟨a0, rfl, h0⟩ := argsOk1 ha
    obtain ⟨n0, rfl, m0, k0⟩ := arg_int h0
    exact F4.ok (fun _ => rfl) (F4.eq n0)
theorem over : Rows.diskFullRow.holds Try.pinned (OpenSpec.ofChange Rows.diskFullSpec) :=
  OpenClaim.holds_of_wide 4 Try.f4 rfl rfl rfl rfl rfl rfl rfl ⟨rfl, rfl, rfl, rfl, rfl⟩ rfl rfl rfl rfl rfl (by kernel_rfl) Try.func4 (by kernel_rfl)
    (of_decide_eq_true (by kernel_rfl)) (by unfold Func.isWrapper; first | (rw [if_pos (by decide +kernel)]; kernel_rfl) | (rw [if_neg (by decide +kernel)]; exact ⟨rfl, rfl⟩))
    (fun os started H enc _ => lifted os started H enc)
theorem proved : Rows.DiskFullSaid := over
#print axioms proved
end Go.Proofs.Ytbkkhhmjmbbfpaa.diskFull
