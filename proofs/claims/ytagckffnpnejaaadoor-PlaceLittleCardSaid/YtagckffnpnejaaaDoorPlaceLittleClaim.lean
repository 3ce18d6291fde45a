/-
  PROVED: brokerlaw42.PlaceLittle returns true for every input, and its input reads as it did. CONDITIONS: none but the statement's own (the tables that the card ties to the program's text).
-/
import Derived.Test.YtagckffnpnejaaaDoorCards
import Derived.Test.YtagckffnpnejaaaDoorTie
import Derived.Test.YtagckffnpnejaaaDoorPlProg
import Derived.Test.YtagckffnpnejaaaDoorPl4
import Derived.WalkKit
import Derived.ProofKit
import Derived.LaidMore
import Derived.SevenTiedAt
namespace Go.Proofs.YtagckffnpnejaaaDoor.placeLittle
open Go Go.ChangeShapes Go.WideShapes Go.ChangeAt Go.RowKit
open Go.Proofs.YtagckffnpnejaaaDoor.Ab
theorem own : ownKnob Tryd.prog.godebug = none := by kernel_rfl
theorem laidOut : laidOutB Tryd.prog = true := by kernel_rfl
set_option maxRecDepth 100000 in
theorem lifted (os : Os) (started : os.Started) (H : Type) (enc : TypeId × Value → H) :
    ReturnsInHanded {} Tryd.checked os 5 .any (fun w args => (Rows.placeLittleSpec.pre enc Tryd.prog Tryd.f5 [] false w args ∧ laidMetH Tryd.prog laidL w) ∧ sizedMet enc Tryd.prog Tryd.f5 (OpenSpec.ofChange Rows.placeLittleSpec) false w args)
      (Rows.placeLittleSpec.post enc Tryd.prog Tryd.f5 false true false false) := by
  refine returnsInHanded_of_change_and (C := Tryd.checked) (X := fun w _ => laidMetH Tryd.prog laidL w) (fun _ _ _ hh h => h.of_heap hh) own started (by kernel_rfl) Tryd.func5
    (ChangeSpec.witness_shaped (enc := enc) (C := Tryd.checked) (os := os) (X := fun w _ => laidMetH Tryd.prog laidL w) false (World.doorLaid Tryd.prog 400 os) #[.slice none 0 0, .slice none 0 0, .agg #[.int .i64 0, .int .i64 0]] 8 rfl (World.shaped_of_RefB (by kernel_rfl) (by kernel_rfl)) (by kernel_rfl) (by kernel_rfl) (by kernel_rfl) (door_met os _)) ?_
  intro W base args ds gs before hval hW hcnd hsz hL _
  refine law_contract progOk laidOut (tb := 4) (d := 5) rfl (by kernel_rfl) (by kernel_rfl) ?_ ?_ (by kernel_rfl) base args ds gs before hval hW hsz (fx_of_laid hL) ?_
  · intro ds hl
    have hl : ds.length = 3 := hl
    match ds, hl with
    | [x, y, z], _ => rfl
  · intro t ht
    have e : Tryd.f5.params.toList = [32, 26, 33] := by kernel_rfl
    rw [e] at ht
    simp only [List.mem_cons, List.not_mem_nil, or_false] at ht
    rcases ht with rfl | rfl | rfl <;> exact ⟨by kernel_rfl, of_decide_eq_true (by kernel_rfl), by kernel_rfl⟩
  · intro avs ha _
    have e : Tryd.f5.params.toList = [32, 26, 33] := by kernel_rfl
    rw [e] at ha
    obtain ⟨a0, a1, a2, rfl, h0, h1, h2⟩ := argsOk3 ha
    obtain ⟨l0, rfl, b0⟩ := arg_strs h0
    obtain ⟨l1, rfl⟩ := arg_ints h1
    obtain ⟨p2, q2, rfl⟩ := arg_two h2
    exact F5.ok (F5.eq b0) fun _ => rfl
theorem over : Rows.placeLittleRow.holds Tryd.pinned (OpenSpec.ofChange Rows.placeLittleSpec) :=
  OpenClaim.holds_of_wide 5 Tryd.f5 rfl rfl rfl rfl rfl rfl rfl ⟨rfl, rfl, rfl, rfl, rfl⟩ rfl rfl rfl rfl rfl (by kernel_rfl) Tryd.func5 (by kernel_rfl)
    (of_decide_eq_true (by kernel_rfl)) (by unfold Func.isWrapper; first | (rw [if_pos (by decide +kernel)]; kernel_rfl) | (rw [if_neg (by decide +kernel)]; exact ⟨rfl, rfl⟩))
    (fun os started H enc _ => lifted os started H enc)
theorem proved : Rows.PlaceLittleCardSaid :=
  Claim7.holds_tied_plain_at .later [] [.data, .data, .data] true (true, "9f2242fa97669d429adefdfbe321b9bafebc777cdb07341864edec1261b0b8e9") false
    over (fun _ h => by cases h) (by kernel_rfl) (fun _ h => by cases h) placeLittle_row_tie rfl ⟨rfl, rfl⟩ (by kernel_rfl) rfl
    (fun f fn hf hfn => by
      obtain rfl : f = 5 := Option.some.inj ((show Tryd.prog.funcNamed "broker/brokerlaw42.PlaceLittle" = some 5 by kernel_rfl).symm.trans hf) |>.symm
      obtain rfl : fn = Tryd.f5 := (Option.some.inj (Tryd.func5.symm.trans hfn)).symm
      exact ⟨by kernel_rfl, fun j t ht => by
        have e : Tryd.f5.params = #[32, 26, 33] := by kernel_rfl
        rw [e] at ht
        have hm : t ∈ [32, 26, 33] := by simpa using Array.mem_of_getElem? ht
        have hall : ([32, 26, 33].all fun u => !Tryd.prog.wantsStandIn u) = true := by kernel_rfl
        exact (show Tryd.prog.wantsStandIn t = false by simpa using List.all_eq_true.1 hall t hm)⟩)
    (by kernel_rfl)
#print axioms proved
end Go.Proofs.YtagckffnpnejaaaDoor.placeLittle
