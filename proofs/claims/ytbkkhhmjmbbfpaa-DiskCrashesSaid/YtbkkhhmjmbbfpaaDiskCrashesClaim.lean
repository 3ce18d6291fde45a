/-
  PROVED: brokerlaw36.DiskCrashes returns true for every input, and its input reads as it did. CONDITIONS: none but the statement's own.
-/
import Derived.Test.YtbkkhhmjmbbfpaaRows
import Derived.Test.YtbkkhhmjmbbfpaaDkProg
import Derived.Test.YtbkkhhmjmbbfpaaDkY
import Derived.WalkKit
import Derived.ProofKit
import Derived.SizedLaws
namespace Go.Proofs.Ytbkkhhmjmbbfpaa.diskCrashes
open Go Go.ChangeShapes Go.WideShapes Go.ChangeAt Go.RowKit
open Go.Proofs.Ytbkkhhmjmbbfpaa.Ab
theorem own : ownKnob Try.prog.godebug = none := by kernel_rfl
theorem laidOut : laidOutB Try.prog = true := by kernel_rfl
set_option maxRecDepth 100000 in
theorem lifted (os : Os) (started : os.Started) (H : Type) (enc : TypeId × Value → H) :
    ReturnsInHanded {} Try.checked os 6 .any (Rows.diskCrashesSpec.pre6 enc Try.prog Try.f6 Rows.diskCrashesRow.domain false) (Rows.diskCrashesSpec.post enc Try.prog Try.f6 false true false false) := by
  refine returnsInHanded_of_change_sized (C := Try.checked) own started (by kernel_rfl) Try.func6
    (ChangeSpec.witness6 (enc := enc) (C := Try.checked) false ⟨#[], #[.slice none 0 0, .slice none 0 0], []⟩ 8 (by kernel_rfl) (by kernel_rfl) (by kernel_rfl) (by kernel_rfl)) ?_
  intro W base args ds gs before hval hW hcnd hsz _
  refine law_contract progOk laidOut (tb := 4) (d := 5) rfl (by kernel_rfl) (by kernel_rfl) ?_ ?_ (by kernel_rfl) base args ds gs before hval hW hsz (fun p hp => absurd hp (by simp [fxT])) ?_
  · intro ds hl
    have hl : ds.length = 2 := hl
    match ds, hl with
    | [x, y], _ => rfl
  · intro t ht
    have e : Try.f6.params.toList = [35, 30] := by kernel_rfl
    rw [e] at ht
    simp only [List.mem_cons, List.not_mem_nil, or_false] at ht
    rcases ht with rfl | rfl <;> exact ⟨by kernel_rfl, of_decide_eq_true (by kernel_rfl), by kernel_rfl⟩
  · intro avs ha _
    have e : Try.f6.params.toList = [35, 30] := by kernel_rfl
    rw [e] at ha
    obtain ⟨a0, a1, rfl, h0, h1⟩ := argsOk2 ha
    obtain ⟨l0, rfl⟩ := arg_acts h0
    obtain ⟨p1, rfl⟩ := arg_ints h1
    exact F6.ok (fun _ => rfl) (F6.eq l0 p1)
theorem over : Rows.diskCrashesRow.holds Try.pinned (OpenSpec.ofChange Rows.diskCrashesSpec) :=
  OpenClaim.holds_of_wide 6 Try.f6 rfl rfl rfl rfl rfl rfl rfl ⟨rfl, rfl, rfl, rfl, rfl⟩ rfl rfl rfl rfl rfl (by kernel_rfl) Try.func6 (by kernel_rfl)
    (of_decide_eq_true (by kernel_rfl)) (by unfold Func.isWrapper; first | (rw [if_pos (by decide +kernel)]; kernel_rfl) | (rw [if_neg (by decide +kernel)]; exact ⟨rfl, rfl⟩))
    (fun os started H enc _ => lifted os started H enc)
theorem proved : Rows.DiskCrashesSaid := over
#print axioms proved
end Go.Proofs.Ytbkkhhmjmbbfpaa.diskCrashes
