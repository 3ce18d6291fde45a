/-
  PROVED: brokerlaw36.DiskApart returns true for every input, and its input reads as it did. CONDITIONS: none but the statement's own.
-/
import Derived.Test.YtbkkhhmjmbbfpaaRows
import Derived.Test.YtbkkhhmjmbbfpaaDkProg
import Derived.Test.YtbkkhhmjmbbfpaaDkY
import Derived.WalkKit
import Derived.ProofKit
import Derived.SizedLaws
namespace Go.Proofs.Ytbkkhhmjmbbfpaa.diskApart
open Go Go.ChangeShapes Go.WideShapes Go.ChangeAt Go.RowKit
open Go.Proofs.Ytbkkhhmjmbbfpaa.Ab
theorem own : ownKnob Try.prog.godebug = none := by kernel_rfl
theorem laidOut : laidOutB Try.prog = true := by kernel_rfl
set_option maxRecDepth 100000 in
theorem lifted (os : Os) (started : os.Started) (H : Type) (enc : TypeId × Value → H) :
    ReturnsInHanded {} Try.checked os 7 .any (Rows.diskApartSpec.pre6 enc Try.prog Try.f7 Rows.diskApartRow.domain false) (Rows.diskApartSpec.post enc Try.prog Try.f7 false true false false) := by
  refine returnsInHanded_of_change_sized (C := Try.checked) own started (by kernel_rfl) Try.func7
    (ChangeSpec.witness6 (enc := enc) (C := Try.checked) false ⟨#[], #[.slice none 0 0, .slice none 0 0], []⟩ 8 (by kernel_rfl) (by kernel_rfl) (by kernel_rfl) (by kernel_rfl)) ?_
  intro W base args ds gs before hval hW hcnd hsz _
  refine law_contract progOk laidOut (tb := 4) (d := 5) rfl (by kernel_rfl) (by kernel_rfl) ?_ ?_ (by kernel_rfl) base args ds gs before hval hW hsz (fun p hp => absurd hp (by simp [fxT])) ?_
  · intro ds hl
    have hl : ds.length = 2 := hl
    match ds, hl with
    | [x, y], _ => rfl
  · intro t ht
    have e : Try.f7.params.toList = [35, 22] := by kernel_rfl
    rw [e] at ht
    simp only [List.mem_cons, List.not_mem_nil, or_false] at ht
    rcases ht with rfl | rfl <;> exact ⟨by kernel_rfl, of_decide_eq_true (by kernel_rfl), by kernel_rfl⟩
  · intro avs ha _
    have e : Try.f7.params.toList = [35, 22] := by kernel_rfl
    rw [e] at ha
    obtain ⟨a0, a1, rfl, h0, h1⟩ := argsOk2 ha
    obtain ⟨l0, rfl⟩ := arg_acts h0
    obtain ⟨s1, rfl⟩ := arg_bytes h1
    exact F7.ok (fun _ => rfl) (F7.eq l0 s1)
theorem over : Rows.diskApartRow.holds Try.pinned (OpenSpec.ofChange Rows.diskApartSpec) :=
  OpenClaim.holds_of_wide 7 Try.f7 rfl rfl rfl rfl rfl rfl rfl ⟨rfl, rfl, rfl, rfl, rfl⟩ rfl rfl rfl rfl rfl (by kernel_rfl) Try.func7 (by kernel_rfl)
    (of_decide_eq_true (by kernel_rfl)) (by unfold Func.isWrapper; first | (rw [if_pos (by decide +kernel)]; kernel_rfl) | (rw [if_neg (by decide +kernel)]; exact ⟨rfl, rfl⟩))
    (fun os started H enc _ => lifted os started H enc)
theorem proved : Rows.DiskApartSaid := over
#print axioms proved
end Go.Proofs.Ytbkkhhmjmbbfpaa.diskApart
