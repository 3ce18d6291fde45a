/-
  PROVED: brokerlaw28.DeadReasons returns true for every input, and its input reads as it did. CONDITIONS: none but the statement's own (the tables that the card ties to the program's text).
-/
import Derived.Test.YtlaieomjooeofaaDoorCards
import Derived.Test.YtlaieomjooeofaaDoorTie
import Derived.Test.YtlaieomjooeofaaDoorDeProg
import Derived.Test.YtlaieomjooeofaaDoorDe6
import Derived.WalkKit
import Derived.ProofKit
import Derived.LaidMore
import Derived.SevenTiedAt
namespace Go.Proofs.YtlaieomjooeofaaDoor.deadReasons
open Go Go.ChangeShapes Go.WideShapes Go.ChangeAt Go.RowKit
open Go.Proofs.YtlaieomjooeofaaDoor.Ab
theorem own : ownKnob Tryd.prog.godebug = none := by kernel_rfl
theorem laidOut : laidOutB Tryd.prog = true := by kernel_rfl
set_option maxRecDepth 100000 in
theorem lifted (os : Os) (started : os.Started) (H : Type) (enc : TypeId × Value → H) :
    ReturnsInHanded {} Tryd.checked os 3 .any (fun w args => (Rows.deadReasonsSpec.pre enc Tryd.prog Tryd.f3 [] false w args ∧ laidMetH Tryd.prog laidL w) ∧ sizedMet enc Tryd.prog Tryd.f3 (OpenSpec.ofChange Rows.deadReasonsSpec) false w args)
      (Rows.deadReasonsSpec.post enc Tryd.prog Tryd.f3 false true false false) := by
  refine returnsInHanded_of_change_and (C := Tryd.checked) (X := fun w _ => laidMetH Tryd.prog laidL w) (fun _ _ _ hh h => h.of_heap hh) own started (by kernel_rfl) Tryd.func3
    (ChangeSpec.witness_shaped (enc := enc) (C := Tryd.checked) (os := os) (X := fun w _ => laidMetH Tryd.prog laidL w) false (World.laidAll Tryd.prog os laidL) #[.agg #[.string ⟨#[]⟩, .int .i64 0, .int .i64 0, .int .i64 0, .string ⟨#[]⟩], .agg #[.int .i64 0, .int .i64 0, .int .i64 0, .string ⟨#[]⟩, .string ⟨#[]⟩, .int .i64 0, .bool false, .int .i64 0, .int .i64 0, .string ⟨#[]⟩, .int .i64 0, .slice none 0 0], .int .i64 0] 8 rfl (World.shaped_of_ZipB (by kernel_rfl) (by kernel_rfl)) (by kernel_rfl) (by kernel_rfl) (by kernel_rfl) (door_met os _)) ?_
  intro W base args ds gs before hval hW hcnd hsz hL _
  refine law_contract progOk laidOut (tb := 4) (d := 5) rfl (by kernel_rfl) (by kernel_rfl) ?_ ?_ (by kernel_rfl) base args ds gs before hval hW hsz (fx_of_laid hL) ?_
  · intro ds hl
    have hl : ds.length = 3 := hl
    match ds, hl with
    | [x, y, z], _ => rfl
  · intro t ht
    have e : Tryd.f3.params.toList = [23, 28, 3] := by kernel_rfl
    rw [e] at ht
    simp only [List.mem_cons, List.not_mem_nil, or_false] at ht
    rcases ht with rfl | rfl | rfl <;> exact ⟨by kernel_rfl, of_decide_eq_true (by kernel_rfl), by kernel_rfl⟩
  · intro avs ha _
    have e : Tryd.f3.params.toList = [23, 28, 3] := by kernel_rfl
    rw [e] at ha
    obtain ⟨a0, a1, a2, rfl, h0, h1, h2⟩ := argsOk3 ha
    obtain ⟨n0, mx0, ttl0, att0, d0, rfl⟩ := arg_spec h0
    obtain ⟨nr1, arr1, eatt1, t1, p1, lv1, re1, pr1, ex1, fr1, sq1, l1, rfl⟩ := arg_entry h1
    obtain ⟨n2, rfl, m2, k2⟩ := arg_int h2
    exact F3.ok F3.eq fun _ => rfl
theorem over : Rows.deadReasonsRow.holds Tryd.pinned (OpenSpec.ofChange Rows.deadReasonsSpec) :=
  OpenClaim.holds_of_wide 3 Tryd.f3 rfl rfl rfl rfl rfl rfl rfl ⟨rfl, rfl, rfl, rfl, rfl⟩ rfl rfl rfl rfl rfl (by kernel_rfl) Tryd.func3 (by kernel_rfl)
    (of_decide_eq_true (by kernel_rfl)) (by unfold Func.isWrapper; first | (rw [if_pos (by decide +kernel)]; kernel_rfl) | (rw [if_neg (by decide +kernel)]; exact ⟨rfl, rfl⟩))
    (fun os started H enc _ => lifted os started H enc)
theorem proved : Rows.DeadReasonsCardSaid :=
  Claim7.holds_tied_plain_at .later [] [.data, .data, .data, .data, .pinned] true (true, "051238366447c75d051f62f4495769872f15aa9cd49ebad953a1429d474d92da") false
    over (fun _ h => by cases h) (by kernel_rfl) (fun _ h => by cases h) deadReasons_row_tie rfl ⟨rfl, rfl⟩ (by kernel_rfl) rfl
    (fun f fn hf hfn => by
      obtain rfl : f = 3 := Option.some.inj ((show Tryd.prog.funcNamed "broker/brokerlaw28.DeadReasons" = some 3 by kernel_rfl).symm.trans hf) |>.symm
      obtain rfl : fn = Tryd.f3 := (Option.some.inj (Tryd.func3.symm.trans hfn)).symm
      exact ⟨by kernel_rfl, fun j t ht => by
        have e : Tryd.f3.params = #[23, 28, 3] := by kernel_rfl
        rw [e] at ht
        have hm : t ∈ [23, 28, 3] := by simpa using Array.mem_of_getElem? ht
        have hall : ([23, 28, 3].all fun u => !Tryd.prog.wantsStandIn u) = true := by kernel_rfl
        exact (show Tryd.prog.wantsStandIn t = false by simpa using List.all_eq_true.1 hall t hm)⟩)
    (by kernel_rfl)
#print axioms proved
end Go.Proofs.YtlaieomjooeofaaDoor.deadReasons
