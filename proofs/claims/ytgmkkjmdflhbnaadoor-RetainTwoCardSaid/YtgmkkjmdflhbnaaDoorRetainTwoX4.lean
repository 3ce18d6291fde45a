/-
  PROVED: brokerlaw12.RetainTwo returns true for every input, and its input reads as it did. CONDITIONS: none but the statement's own (the tables that the card ties to the program's text).
-/
import Derived.Test.YtgmkkjmdflhbnaaDoorCards
import Derived.Test.YtgmkkjmdflhbnaaDoorTie
import Derived.Test.YtgmkkjmdflhbnaaDoorRetainTwoX3
import Derived.WalkKit
import Derived.ProofKit
import Derived.LaidMore
import Derived.SevenTiedAt
set_option linter.unusedVariables false
set_option linter.unusedSimpArgs false
set_option linter.unnecessarySimpa false
section
namespace Go.Proofs.YtgmkkjmdflhbnaaDoor.retainTwo
open Go Go.ChangeShapes Go.WideShapes Go.ChangeAt Go.RowKit
open Go.Proofs.YtgmkkjmdflhbnaaDoor.Ab
theorem own : ownKnob Tryd.prog.godebug = none := by kernel_rfl
theorem laidOut : laidOutB Tryd.prog = true := by kernel_rfl
set_option maxRecDepth 100000 in
theorem lifted (os : Os) (started : os.Started) (H : Type) (enc : TypeId × Value → H) :
    ReturnsInHanded {} Tryd.checked os 9 .any (fun w args => (Rows.retainTwoSpec.pre enc Tryd.prog Tryd.f9 [] false w args ∧ laidMetH Tryd.prog laidL w) ∧ sizedMet enc Tryd.prog Tryd.f9 (OpenSpec.ofChange Rows.retainTwoSpec) false w args)
      (Rows.retainTwoSpec.post enc Tryd.prog Tryd.f9 false true false false) := by
  refine returnsInHanded_of_change_and (C := Tryd.checked) (X := fun w _ => laidMetH Tryd.prog laidL w) (fun _ _ _ hh h => h.of_heap hh) own started (by kernel_rfl) Tryd.func9
    (ChangeSpec.witness_shaped (enc := enc) (C := Tryd.checked) (os := os) (X := fun w _ => laidMetH Tryd.prog laidL w) false (World.laidAll Tryd.prog os laidL) #[.int .i64 0, .slice none 0 0, .slice none 0 0] 8 rfl (World.shaped_of_ZipB (by kernel_rfl) (by kernel_rfl)) (by kernel_rfl) (by kernel_rfl) (by kernel_rfl) (door_met os _)) ?_
  intro W base args ds gs before hval hW hcnd hsz hL _
  refine law_contract progOk laidOut (tb := 4) (d := 6) rfl (by kernel_rfl) (by kernel_rfl) ?_ ?_ (by kernel_rfl) base args ds gs before hval hW hsz (fx_of_laid hL) ?_
  · intro ds hl
    have hl : ds.length = 3 := hl
    match ds, hl with
    | [x, y, z], _ => rfl
  · intro t ht
    have e : Tryd.f9.params.toList = [3, 22, 22] := by kernel_rfl
    rw [e] at ht
    simp only [List.mem_cons, List.not_mem_nil, or_false] at ht
    rcases ht with rfl | rfl | rfl <;> exact ⟨by kernel_rfl, of_decide_eq_true (by kernel_rfl), by kernel_rfl⟩
  · intro avs ha _
    have e : Tryd.f9.params.toList = [3, 22, 22] := by kernel_rfl
    rw [e] at ha
    obtain ⟨a0, a1, a2, rfl, h0, h1, h2⟩ := argsOk3 ha
    obtain ⟨n0, rfl, m0, k0⟩ := arg_int h0
    obtain ⟨l1, rfl, q1, b1⟩ := arg_ops h1
    obtain ⟨l2, rfl, q2, b2⟩ := arg_ops h2
    exact F9.ok (fun _ => rfl) (F9.eq n0 l1 l2 q1 b1 q2 b2)
theorem over : Rows.retainTwoRow.holds Tryd.pinned (OpenSpec.ofChange Rows.retainTwoSpec) :=
  OpenClaim.holds_of_wide 9 Tryd.f9 rfl rfl rfl rfl rfl rfl rfl ⟨rfl, rfl, rfl, rfl, rfl⟩ rfl rfl rfl rfl rfl (by kernel_rfl) Tryd.func9 (by kernel_rfl)
    (of_decide_eq_true (by kernel_rfl)) (by unfold Func.isWrapper; first | (rw [if_pos (by decide +kernel)]; kernel_rfl) | (rw [if_neg (by decide +kernel)]; exact ⟨rfl, rfl⟩))
    (fun os started H enc _ => lifted os started H enc)
theorem proved : Rows.RetainTwoCardSaid :=
  Claim7.holds_tied_plain_at .later [] [.data, .pinned] true (true, "6adfcae4eba53d7dca33883c74e0bbb6212242187fe32551301d3f5666a777c2") false
    over (fun _ h => by cases h) (by kernel_rfl) (fun _ h => by cases h) retainTwo_row_tie rfl ⟨rfl, rfl⟩ (by kernel_rfl) rfl
    (fun f fn hf hfn => by
      obtain rfl : f = 9 := Option.some.inj ((show Tryd.prog.funcNamed "broker/brokerlaw12.RetainTwo" = some 9 by kernel_rfl).symm.trans hf) |>.symm
      obtain rfl : fn = Tryd.f9 := (Option.some.inj (Tryd.func9.symm.trans hfn)).symm
      exact ⟨by kernel_rfl, fun j t ht => by
        have e : Tryd.f9.params = #[3, 22, 22] := by kernel_rfl
        rw [e] at ht
        have hm : t ∈ [3, 22, 22] := by simpa using Array.mem_of_getElem? ht
        have hall : ([3, 22, 22].all fun u => !Tryd.prog.wantsStandIn u) = true := by kernel_rfl
        exact (show Tryd.prog.wantsStandIn t = false by simpa using List.all_eq_true.1 hall t hm)⟩)
    (by kernel_rfl)
end Go.Proofs.YtgmkkjmdflhbnaaDoor.retainTwo
end
