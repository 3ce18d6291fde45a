/- Texts of the proof, joined: TrP, RtT, RtF, RtC, RtG. -/
import Derived.Test.YtgmkkjmdflhbnaaDoorRetainTwoX1
import Derived.Test.YtgmkkjmdflhbnaaDoorM5
import Derived.Test.YtgmkkjmdflhbnaaDoorM4
import Derived.Test.YtgmkkjmdflhbnaaDoorM2
set_option linter.unusedVariables false
set_option linter.unusedSimpArgs false
set_option linter.unnecessarySimpa false
section
namespace Go.Proofs.YtgmkkjmdflhbnaaDoor.Ab
open Go
set_option maxRecDepth 100000
set_option maxHeartbeats 4000000
namespace F11
noncomputable def P (a0 : Int) : Option AV :=
 if ltI a0 0 then
 (some (.agg [.int .i64 0, .nilsl]))
 else
 (if ltI 256 a0 then
 (some (.agg [.int .i64 256, .nilsl]))
 else
 (some (.agg [.int .i64 a0, .nilsl])))
theorem ok {a0 : Int} {v : AV} (h : P a0 = some v) {H : Heap} {Q : Qt} (hQ : ∀ H, Q v H) : C 11 [.int .i64 a0] H Q := by
  refine call ?_
  unfold t
  unfold P at h
  revert h
  repeat' first | exact lsV hQ | exact lsF | apply lsG | apply lsC
end F11
namespace F38
inductive LS where
  | l0 (x5i : Int)
noncomputable def PL (a0 a1 : List (List AV)) : Nat → LS → Option AV
 | 0, _ => none
 | fu + 1, .l0 x5i =>
 if ltI x5i (lenI a0) then
 (if leI 0 x5i then (if ltI x5i (lenI a0) then (if (ce (ro a0 x5i.toNat) 0).isStr then (if (ce (ro a0 x5i.toNat) 1).isStr then (if leI 0 x5i then (if ltI x5i (lenI a1) then (if (ce (ro a1 x5i.toNat) 0).isStr then (if (ce (ro a1 x5i.toNat) 1).isStr then (if !((eqS ((ce (ro a0 x5i.toNat) 0).toStr) ((ce (ro a1 x5i.toNat) 0).toStr)) && ((eqS ((ce (ro a0 x5i.toNat) 1).toStr) ((ce (ro a1 x5i.toNat) 1).toStr)) && true)) then
 (some (.bool false))
 else
 (PL a0 a1 fu (.l0 (addW .i64 x5i 1)))) else none) else none) else none) else none) else none) else none) else none) else none)
 else
 (some (.bool true))
noncomputable def P (a0 a1 : List (List AV)) : Option AV := lim fun fu =>
 if !(eqI (lenI a0) (lenI a1)) then
 (some (.bool false))
 else
 (PL a0 a1 fu (.l0 0))
theorem PL_ok {a0 a1 : List (List AV)} {Q : Qt} {v : AV} (hQ : ∀ H, Q v H) : ∀ (fu : Nat) (s : LS) (H : Heap), PL a0 a1 fu s = some v → match s with | .l0 x5i => L0 a0 a1 Q x5i H := by
  intro fu
  induction fu with
  | zero => intro s H h; exact absurd h (by cases s <;> simp only [PL] <;> exact nofun)
  | succ fu ih =>
    intro s H
    cases s with
    | l0 x5i =>
      show PL a0 a1 (fu + 1) (.l0 x5i) = some v → L0 a0 a1 Q x5i H
      rw [PL]
      refine fun h => L0_step (?_ : r0 a0 a1 Q x5i H)
      revert h
      unfold r0
      repeat' first | exact lsV hQ | exact lsF | apply lsG | apply lsC | exact fun h => ih _ _ h
theorem ok {a0 a1 : List (List AV)} {v : AV} (h : P a0 a1 = some v) {H : Heap} {Q : Qt} (hQ : ∀ H, Q v H) : C 38 [.sl 0 2 a0, .sl 0 2 a1] H Q := by
  refine call ?_
  unfold t
  unfold P at h
  obtain ⟨fu, h⟩ := lim_some h
  revert h
  repeat' first | exact lsV hQ | exact lsF | apply lsG | apply lsC | exact fun h => PL_ok hQ _ _ _ h
theorem ls {a0 a1 : List (List AV)} {β : Type} {r : β} {H : Heap} {k : AV → Option β} {K : Qt} (h : ∀ w H, k w = some r → K w H) : (P a0 a1).bind k = some r → C 38 [.sl 0 2 a0, .sl 0 2 a1] H K := fun e => bind_ls (Cq := fun K => C 38 [.sl 0 2 a0, .sl 0 2 a1] H K) (fun h => ok h) h e
end F38
namespace F18
noncomputable def P (a0_0 a0_1 : ByteArray) (a0_2 : Int) (a0_3 : Bool) (a0_4 a0_5 : Int) (a0_6 : ByteArray) (a0_7 : Int) (a0_8 : List (List AV)) (a1_0 a1_1 : ByteArray) (a1_2 : Int) (a1_3 : Bool) (a1_4 a1_5 : Int) (a1_6 : ByteArray) (a1_7 : Int) (a1_8 : List (List AV)) : Option AV :=
 if eqS a0_0 a1_0 then
 (if eqS a0_1 a1_1 then
 (if eqI a0_2 a1_2 then
 (if a0_3 == a1_3 then
 (if eqI a0_4 a1_4 then
 (if eqI a0_5 a1_5 then
 (if eqS a0_6 a1_6 then
 (if eqI a0_7 a1_7 then
 ((F38.P a0_8 a1_8).bind fun v_1 =>
 if (v_1).isBool then some (.bool ((v_1).toBool)) else none)
 else
 (some (.bool false)))
 else
 (some (.bool false)))
 else
 (some (.bool false)))
 else
 (some (.bool false)))
 else
 (some (.bool false)))
 else
 (some (.bool false)))
 else
 (some (.bool false)))
 else
 (some (.bool false))
theorem ok {a0_0 a0_1 : ByteArray} {a0_2 : Int} {a0_3 : Bool} {a0_4 a0_5 : Int} {a0_6 : ByteArray} {a0_7 : Int} {a0_8 : List (List AV)} {a1_0 a1_1 : ByteArray} {a1_2 : Int} {a1_3 : Bool} {a1_4 a1_5 : Int} {a1_6 : ByteArray} {a1_7 : Int} {a1_8 : List (List AV)} {v : AV} (h : P a0_0 a0_1 a0_2 a0_3 a0_4 a0_5 a0_6 a0_7 a0_8 a1_0 a1_1 a1_2 a1_3 a1_4 a1_5 a1_6 a1_7 a1_8 = some v) {H : Heap} {Q : Qt} (hQ : ∀ H, Q v H) : C 18 [.agg [.str a0_0, .str a0_1, .int .i64 a0_2, .bool a0_3, .int .i64 a0_4, .int .i64 a0_5, .str a0_6, .int .i64 a0_7, .sl 0 2 a0_8], .agg [.str a1_0, .str a1_1, .int .i64 a1_2, .bool a1_3, .int .i64 a1_4, .int .i64 a1_5, .str a1_6, .int .i64 a1_7, .sl 0 2 a1_8]] H Q := by
  refine call ?_
  unfold t
  unfold P at h
  revert h
  repeat' first | exact lsV hQ | exact lsF | apply lsG | apply lsC | refine impP (F38.ls fun _ _ => ?_)
theorem ls {a0_0 a0_1 : ByteArray} {a0_2 : Int} {a0_3 : Bool} {a0_4 a0_5 : Int} {a0_6 : ByteArray} {a0_7 : Int} {a0_8 : List (List AV)} {a1_0 a1_1 : ByteArray} {a1_2 : Int} {a1_3 : Bool} {a1_4 a1_5 : Int} {a1_6 : ByteArray} {a1_7 : Int} {a1_8 : List (List AV)} {β : Type} {r : β} {H : Heap} {k : AV → Option β} {K : Qt} (h : ∀ w H, k w = some r → K w H) : (P a0_0 a0_1 a0_2 a0_3 a0_4 a0_5 a0_6 a0_7 a0_8 a1_0 a1_1 a1_2 a1_3 a1_4 a1_5 a1_6 a1_7 a1_8).bind k = some r → C 18 [.agg [.str a0_0, .str a0_1, .int .i64 a0_2, .bool a0_3, .int .i64 a0_4, .int .i64 a0_5, .str a0_6, .int .i64 a0_7, .sl 0 2 a0_8], .agg [.str a1_0, .str a1_1, .int .i64 a1_2, .bool a1_3, .int .i64 a1_4, .int .i64 a1_5, .str a1_6, .int .i64 a1_7, .sl 0 2 a1_8]] H K := fun e => bind_ls (Cq := fun K => C 18 [.agg [.str a0_0, .str a0_1, .int .i64 a0_2, .bool a0_3, .int .i64 a0_4, .int .i64 a0_5, .str a0_6, .int .i64 a0_7, .sl 0 2 a0_8], .agg [.str a1_0, .str a1_1, .int .i64 a1_2, .bool a1_3, .int .i64 a1_4, .int .i64 a1_5, .str a1_6, .int .i64 a1_7, .sl 0 2 a1_8]] H K) (fun h => ok h) h e
end F18
namespace F41
inductive LS where
  | l0 (x3out : List (List AV)) (x4from x5i : Int)
noncomputable def PL (a0 : ByteArray) : Nat → LS → Option AV
 | 0, _ => none
 | fu + 1, .l0 x3out x4from x5i =>
 if ltI x5i (sizeI a0) then
 (if leI 0 x5i then (if ltI x5i (sizeI a0) then (if eqI (bt a0 x5i) 47 then
 (if leI 0 x4from then (if leI x4from x5i then (if leI x5i (sizeI a0) then (if room x3out [[.str (a0.extract x4from.toNat x5i.toNat)]] 16 then PL a0 fu (.l0 (x3out ++ [[.str (a0.extract x4from.toNat x5i.toNat)]]) (addW .i64 x5i 1) (addW .i64 x5i 1)) else none) else none) else none) else none)
 else
 (PL a0 fu (.l0 x3out x4from (addW .i64 x5i 1)))) else none) else none)
 else
 (if leI 0 x4from then (if leI x4from (sizeI a0) then (if leI (sizeI a0) (sizeI a0) then (if room x3out [[.str (a0.extract x4from.toNat ((sizeI a0).toNat))]] 16 then some (.sl 0 1 (x3out ++ [[.str (a0.extract x4from.toNat ((sizeI a0).toNat))]])) else none) else none) else none) else none)
noncomputable def P (a0 : ByteArray) : Option AV := lim fun fu =>
 PL a0 fu (.l0 [] 0 0)
theorem PL_ok {a0 : ByteArray} {Q : Qt} {v : AV} (hQ : ∀ H, Q v H) : ∀ (fu : Nat) (s : LS) (H : Heap), PL a0 fu s = some v → match s with | .l0 x3out x4from x5i => L0 a0 Q x3out x4from x5i H := by
  intro fu
  induction fu with
  | zero => intro s H h; exact absurd h (by cases s <;> simp only [PL] <;> exact nofun)
  | succ fu ih =>
    intro s H
    cases s with
    | l0 x3out x4from x5i =>
      show PL a0 (fu + 1) (.l0 x3out x4from x5i) = some v → L0 a0 Q x3out x4from x5i H
      rw [PL]
      refine fun h => L0_step (?_ : r0 a0 Q x3out x4from x5i H)
      revert h
      unfold r0
      repeat' first | exact lsV hQ | exact lsF | apply lsG | apply lsC | exact fun h => ih _ _ h
theorem ok {a0 : ByteArray} {v : AV} (h : P a0 = some v) {H : Heap} {Q : Qt} (hQ : ∀ H, Q v H) : C 41 [.str a0] H Q := by
  refine call ?_
  unfold t
  unfold P at h
  obtain ⟨fu, h⟩ := lim_some h
  revert h
  repeat' first | exact lsV hQ | exact lsF | apply lsG | apply lsC | exact fun h => PL_ok hQ _ _ _ h
theorem ls {a0 : ByteArray} {β : Type} {r : β} {H : Heap} {k : AV → Option β} {K : Qt} (h : ∀ w H, k w = some r → K w H) : (P a0).bind k = some r → C 41 [.str a0] H K := fun e => bind_ls (Cq := fun K => C 41 [.str a0] H K) (fun h => ok h) h e
end F41
namespace F60
inductive LS where
  | l0 (x5i : Int)
noncomputable def PL (a0 : ByteArray) (a1 : Int) : Nat → LS → Option AV
 | 0, _ => none
 | fu + 1, .l0 x5i =>
 if ltI x5i (sizeI a0) then
 (if leI 0 x5i then (if ltI x5i (sizeI a0) then (if eqI (bt a0 x5i) a1 then
 (some (.bool true))
 else
 (PL a0 a1 fu (.l0 (addW .i64 x5i 1)))) else none) else none)
 else
 (some (.bool false))
noncomputable def P (a0 : ByteArray) (a1 : Int) : Option AV := lim fun fu =>
 PL a0 a1 fu (.l0 0)
theorem PL_ok {a0 : ByteArray} {a1 : Int} {Q : Qt} {v : AV} (hQ : ∀ H, Q v H) : ∀ (fu : Nat) (s : LS) (H : Heap), PL a0 a1 fu s = some v → match s with | .l0 x5i => L0 a0 a1 Q x5i H := by
  intro fu
  induction fu with
  | zero => intro s H h; exact absurd h (by cases s <;> simp only [PL] <;> exact nofun)
  | succ fu ih =>
    intro s H
    cases s with
    | l0 x5i =>
      show PL a0 a1 (fu + 1) (.l0 x5i) = some v → L0 a0 a1 Q x5i H
      rw [PL]
      refine fun h => L0_step (?_ : r0 a0 a1 Q x5i H)
      revert h
      unfold r0
      repeat' first | exact lsV hQ | exact lsF | apply lsG | apply lsC | exact fun h => ih _ _ h
theorem ok {a0 : ByteArray} {a1 : Int} {v : AV} (h : P a0 a1 = some v) {H : Heap} {Q : Qt} (hQ : ∀ H, Q v H) : C 60 [.str a0, .int .u8 a1] H Q := by
  refine call ?_
  unfold t
  unfold P at h
  obtain ⟨fu, h⟩ := lim_some h
  revert h
  repeat' first | exact lsV hQ | exact lsF | apply lsG | apply lsC | exact fun h => PL_ok hQ _ _ _ h
theorem ls {a0 : ByteArray} {a1 : Int} {β : Type} {r : β} {H : Heap} {k : AV → Option β} {K : Qt} (h : ∀ w H, k w = some r → K w H) : (P a0 a1).bind k = some r → C 60 [.str a0, .int .u8 a1] H K := fun e => bind_ls (Cq := fun K => C 60 [.str a0, .int .u8 a1] H K) (fun h => ok h) h e
end F60
namespace F59
noncomputable def P (a0 : ByteArray) : Option AV :=
 if leI 1 (sizeI a0) then
 (if leI (sizeI a0) 64 then
 ((F60.P a0 0).bind fun v_1 =>
 if (v_1).isBool then (if !((v_1).toBool) then
 ((F41.P a0).bind fun v_3 =>
 if (v_3).isSl 1 then some (.bool (leI (lenI ((v_3).slXs)) 8)) else none)
 else
 (some (.bool false))) else none)
 else
 (some (.bool false)))
 else
 (some (.bool false))
theorem ok {a0 : ByteArray} {v : AV} (h : P a0 = some v) {H : Heap} {Q : Qt} (hQ : ∀ H, Q v H) : C 59 [.str a0] H Q := by
  refine call ?_
  unfold t
  unfold P at h
  revert h
  repeat' first | exact lsV hQ | exact lsF | apply lsG | apply lsC | refine impP (F41.ls fun _ _ => ?_) | refine impP (F60.ls fun _ _ => ?_)
theorem ls {a0 : ByteArray} {β : Type} {r : β} {H : Heap} {k : AV → Option β} {K : Qt} (h : ∀ w H, k w = some r → K w H) : (P a0).bind k = some r → C 59 [.str a0] H K := fun e => bind_ls (Cq := fun K => C 59 [.str a0] H K) (fun h => ok h) h e
end F59
namespace F39
inductive LS where
  | l0 (x3l : List (List AV)) (x4i : Int)
  | lR9 (x3l : List (List AV)) (x4i : Int) (x46 : Bool)
noncomputable def PL (a0 : ByteArray) : Nat → LS → Option AV
 | 0, _ => none
 | fu + 1, .l0 x3l x4i =>
 if ltI x4i (lenI x3l) then
 (if leI 0 x4i then (if ltI x4i (lenI x3l) then (if (ce (ro x3l x4i.toNat) 0).isStr then ((F60.P ((ce (ro x3l x4i.toNat) 0).toStr) 43).bind fun v_5 =>
 if (v_5).isBool then (if (v_5).toBool then
 (if leI 0 x4i then (if ltI x4i (lenI x3l) then (if (ce (ro x3l x4i.toNat) 0).isStr then (if !(eqS ((ce (ro x3l x4i.toNat) 0).toStr) (⟨#[43]⟩ : ByteArray)) then
 (some (.bool false))
 else
 (if leI 0 x4i then (if ltI x4i (lenI x3l) then (if (ce (ro x3l x4i.toNat) 0).isStr then ((F60.P ((ce (ro x3l x4i.toNat) 0).toStr) 35).bind fun v_7 =>
 if (v_7).isBool then (if (v_7).toBool then
 (if leI 0 x4i then (if ltI x4i (lenI x3l) then (if (ce (ro x3l x4i.toNat) 0).isStr then (if !(eqS ((ce (ro x3l x4i.toNat) 0).toStr) (⟨#[35]⟩ : ByteArray)) then
 (PL a0 fu (.lR9 x3l x4i true))
 else
 (PL a0 fu (.lR9 x3l x4i (!(eqI x4i (subW .i64 (lenI x3l) 1)))))) else none) else none) else none)
 else
 (PL a0 fu (.lR9 x3l x4i false))) else none) else none) else none) else none)) else none) else none) else none)
 else
 (if leI 0 x4i then (if ltI x4i (lenI x3l) then (if (ce (ro x3l x4i.toNat) 0).isStr then ((F60.P ((ce (ro x3l x4i.toNat) 0).toStr) 35).bind fun v_9 =>
 if (v_9).isBool then (if (v_9).toBool then
 (if leI 0 x4i then (if ltI x4i (lenI x3l) then (if (ce (ro x3l x4i.toNat) 0).isStr then (if !(eqS ((ce (ro x3l x4i.toNat) 0).toStr) (⟨#[35]⟩ : ByteArray)) then
 (PL a0 fu (.lR9 x3l x4i true))
 else
 (PL a0 fu (.lR9 x3l x4i (!(eqI x4i (subW .i64 (lenI x3l) 1)))))) else none) else none) else none)
 else
 (PL a0 fu (.lR9 x3l x4i false))) else none) else none) else none) else none)) else none) else none) else none) else none)
 else
 (some (.bool true))
 | fu + 1, .lR9 x3l x4i x46 =>
 if x46 then
 (some (.bool false))
 else
 (PL a0 fu (.l0 x3l (addW .i64 x4i 1)))
noncomputable def P (a0 : ByteArray) : Option AV := lim fun fu =>
 (F59.P a0).bind fun v_1 =>
 if (v_1).isBool then (if !((v_1).toBool) then
 (some (.bool false))
 else
 ((F41.P a0).bind fun v_3 =>
 if (v_3).isSl 1 then PL a0 fu (.l0 ((v_3).slXs) 0) else none)) else none
theorem PL_ok {a0 : ByteArray} {Q : Qt} {v : AV} (hQ : ∀ H, Q v H) : ∀ (fu : Nat) (s : LS) (H : Heap), PL a0 fu s = some v → match s with | .l0 x3l x4i => L0 a0 Q x3l x4i H | .lR9 x3l x4i x46 => JR9 a0 Q x3l x4i x46 H := by
  intro fu
  induction fu with
  | zero => intro s H h; exact absurd h (by cases s <;> simp only [PL] <;> exact nofun)
  | succ fu ih =>
    intro s H
    cases s with
    | l0 x3l x4i =>
      show PL a0 (fu + 1) (.l0 x3l x4i) = some v → L0 a0 Q x3l x4i H
      rw [PL]
      refine fun h => L0_step (?_ : r0 a0 Q x3l x4i H)
      revert h
      unfold r0
      repeat' first | exact lsV hQ | exact lsF | apply lsG | apply lsC | refine impP (F60.ls fun _ _ => ?_) | exact fun h => ih _ _ h
    | lR9 x3l x4i x46 =>
      show PL a0 (fu + 1) (.lR9 x3l x4i x46) = some v → JR9 a0 Q x3l x4i x46 H
      rw [PL]
      refine fun h => JR9_step (?_ : jR9 a0 Q x3l x4i x46 H)
      revert h
      unfold jR9
      repeat' first | exact lsV hQ | exact lsF | apply lsG | apply lsC | exact fun h => ih _ _ h
theorem ok {a0 : ByteArray} {v : AV} (h : P a0 = some v) {H : Heap} {Q : Qt} (hQ : ∀ H, Q v H) : C 39 [.str a0] H Q := by
  refine call ?_
  unfold t
  unfold P at h
  obtain ⟨fu, h⟩ := lim_some h
  revert h
  repeat' first | exact lsV hQ | exact lsF | apply lsG | apply lsC | refine impP (F41.ls fun _ _ => ?_) | refine impP (F59.ls fun _ _ => ?_) | exact fun h => PL_ok hQ _ _ _ h
theorem ls {a0 : ByteArray} {β : Type} {r : β} {H : Heap} {k : AV → Option β} {K : Qt} (h : ∀ w H, k w = some r → K w H) : (P a0).bind k = some r → C 39 [.str a0] H K := fun e => bind_ls (Cq := fun K => C 39 [.str a0] H K) (fun h => ok h) h e
end F39
namespace F40
noncomputable def P (a0 : ByteArray) : Option AV :=
 (F59.P a0).bind fun v_1 =>
 if (v_1).isBool then (if (v_1).toBool then
 ((F60.P a0 43).bind fun v_3 =>
 if (v_3).isBool then (if !((v_3).toBool) then
 ((F60.P a0 35).bind fun v_5 =>
 if (v_5).isBool then some (.bool (!((v_5).toBool))) else none)
 else
 (some (.bool false))) else none)
 else
 (some (.bool false))) else none
theorem ok {a0 : ByteArray} {v : AV} (h : P a0 = some v) {H : Heap} {Q : Qt} (hQ : ∀ H, Q v H) : C 40 [.str a0] H Q := by
  refine call ?_
  unfold t
  unfold P at h
  revert h
  repeat' first | exact lsV hQ | exact lsF | apply lsG | apply lsC | refine impP (F59.ls fun _ _ => ?_) | refine impP (F60.ls fun _ _ => ?_)
theorem ls {a0 : ByteArray} {β : Type} {r : β} {H : Heap} {k : AV → Option β} {K : Qt} (h : ∀ w H, k w = some r → K w H) : (P a0).bind k = some r → C 40 [.str a0] H K := fun e => bind_ls (Cq := fun K => C 40 [.str a0] H K) (fun h => ok h) h e
end F40
namespace F42
noncomputable def P (a0 : List (List AV)) : Option AV :=
 if ltI 0 (lenI a0) then (if (ce (ro a0 0) 0).isStr then (if eqS ((ce (ro a0 0) 0).toStr) (⟨#[43]⟩ : ByteArray) then
 (some (.bool true))
 else
 (if ltI 0 (lenI a0) then (if (ce (ro a0 0) 0).isStr then some (.bool (eqS ((ce (ro a0 0) 0).toStr) (⟨#[35]⟩ : ByteArray))) else none) else none)) else none) else none
theorem ok {a0 : List (List AV)} {v : AV} (h : P a0 = some v) {H : Heap} {Q : Qt} (hQ : ∀ H, Q v H) : C 42 [.sl 0 1 a0] H Q := by
  refine call ?_
  unfold t
  unfold P at h
  revert h
  repeat' first | exact lsV hQ | exact lsF | apply lsG | apply lsC
theorem ls {a0 : List (List AV)} {β : Type} {r : β} {H : Heap} {k : AV → Option β} {K : Qt} (h : ∀ w H, k w = some r → K w H) : (P a0).bind k = some r → C 42 [.sl 0 1 a0] H K := fun e => bind_ls (Cq := fun K => C 42 [.sl 0 1 a0] H K) (fun h => ok h) h e
end F42
namespace F43
noncomputable def P (a0 : ByteArray) : Option AV :=
 if ltI 0 (sizeI a0) then
 (if ltI 0 (sizeI a0) then some (.bool (eqI (bt a0 0) 36)) else none)
 else
 (some (.bool false))
theorem ok {a0 : ByteArray} {v : AV} (h : P a0 = some v) {H : Heap} {Q : Qt} (hQ : ∀ H, Q v H) : C 43 [.str a0] H Q := by
  refine call ?_
  unfold t
  unfold P at h
  revert h
  repeat' first | exact lsV hQ | exact lsF | apply lsG | apply lsC
theorem ls {a0 : ByteArray} {β : Type} {r : β} {H : Heap} {k : AV → Option β} {K : Qt} (h : ∀ w H, k w = some r → K w H) : (P a0).bind k = some r → C 43 [.str a0] H K := fun e => bind_ls (Cq := fun K => C 43 [.str a0] H K) (fun h => ok h) h e
end F43
namespace F19
noncomputable def P (a0 a1 : ByteArray) : Option AV :=
 (F39.P a0).bind fun v_1 =>
 if (v_1).isBool then (if !((v_1).toBool) then
 (some (.bool false))
 else
 ((F40.P a1).bind fun v_3 =>
 if (v_3).isBool then (if !((v_3).toBool) then
 (some (.bool false))
 else
 ((F41.P a0).bind fun v_5 =>
 if (v_5).isSl 1 then ((F42.P ((v_5).slXs)).bind fun v_7 =>
 if (v_7).isBool then (if (v_7).toBool then
 ((F43.P a1).bind fun v_9 =>
 if (v_9).isBool then (if !((v_9).toBool) then
 ((F41.P a1).bind fun v_11 =>
 if (v_11).isSl 1 then ((LevP.P [.sl 0 1 ((v_5).slXs), .sl 0 1 ((v_11).slXs), .int .i64 0, .int .i64 0]).bind fun v_13 =>
 if (v_13).isBool then some (.bool ((v_13).toBool)) else none) else none)
 else
 (some (.bool false))) else none)
 else
 ((F41.P a1).bind fun v_15 =>
 if (v_15).isSl 1 then ((LevP.P [.sl 0 1 ((v_5).slXs), .sl 0 1 ((v_15).slXs), .int .i64 0, .int .i64 0]).bind fun v_17 =>
 if (v_17).isBool then some (.bool ((v_17).toBool)) else none) else none)) else none) else none)) else none)) else none
theorem ok {a0 a1 : ByteArray} {v : AV} (h : P a0 a1 = some v) {H : Heap} {Q : Qt} (hQ : ∀ H, Q v H) : C 19 [.str a0, .str a1] H Q := by
  refine call ?_
  unfold t
  unfold P at h
  revert h
  repeat' first | exact lsV hQ | exact lsF | apply lsG | apply lsC | refine impP (F39.ls fun _ _ => ?_) | refine impP (F40.ls fun _ _ => ?_) | refine impP (F41.ls fun _ _ => ?_) | refine impP (F42.ls fun _ _ => ?_) | refine impP (F43.ls fun _ _ => ?_) | refine impP (LevP.ls fun _ _ => ?_)
theorem ls {a0 a1 : ByteArray} {β : Type} {r : β} {H : Heap} {k : AV → Option β} {K : Qt} (h : ∀ w H, k w = some r → K w H) : (P a0 a1).bind k = some r → C 19 [.str a0, .str a1] H K := fun e => bind_ls (Cq := fun K => C 19 [.str a0, .str a1] H K) (fun h => ok h) h e
end F19
namespace F20
inductive LS where
  | l0 (x5i : Int)
end F20
namespace F24
noncomputable def P (a0_0 a0_1 : ByteArray) (a0_2 : Int) (a0_3 : Bool) (a0_4 a0_5 : Int) (a0_6 : ByteArray) (a0_7 : Int) (a0_8 : List (List AV)) (a1 : Int) : Option AV :=
 if !(eqI a0_5 0) then
 (some (.bool (leI a0_5 a1)))
 else
 (some (.bool false))
theorem ok {a0_0 a0_1 : ByteArray} {a0_2 : Int} {a0_3 : Bool} {a0_4 a0_5 : Int} {a0_6 : ByteArray} {a0_7 : Int} {a0_8 : List (List AV)} {a1 : Int} {v : AV} (h : P a0_0 a0_1 a0_2 a0_3 a0_4 a0_5 a0_6 a0_7 a0_8 a1 = some v) {H : Heap} {Q : Qt} (hQ : ∀ H, Q v H) : C 24 [.agg [.str a0_0, .str a0_1, .int .i64 a0_2, .bool a0_3, .int .i64 a0_4, .int .i64 a0_5, .str a0_6, .int .i64 a0_7, .sl 0 2 a0_8], .int .i64 a1] H Q := by
  refine call ?_
  unfold t
  unfold P at h
  revert h
  repeat' first | exact lsV hQ | exact lsF | apply lsG | apply lsC
theorem ls {a0_0 a0_1 : ByteArray} {a0_2 : Int} {a0_3 : Bool} {a0_4 a0_5 : Int} {a0_6 : ByteArray} {a0_7 : Int} {a0_8 : List (List AV)} {a1 : Int} {β : Type} {r : β} {H : Heap} {k : AV → Option β} {K : Qt} (h : ∀ w H, k w = some r → K w H) : (P a0_0 a0_1 a0_2 a0_3 a0_4 a0_5 a0_6 a0_7 a0_8 a1).bind k = some r → C 24 [.agg [.str a0_0, .str a0_1, .int .i64 a0_2, .bool a0_3, .int .i64 a0_4, .int .i64 a0_5, .str a0_6, .int .i64 a0_7, .sl 0 2 a0_8], .int .i64 a1] H K := fun e => bind_ls (Cq := fun K => C 24 [.agg [.str a0_0, .str a0_1, .int .i64 a0_2, .bool a0_3, .int .i64 a0_4, .int .i64 a0_5, .str a0_6, .int .i64 a0_7, .sl 0 2 a0_8], .int .i64 a1] H K) (fun h => ok h) h e
end F24
namespace F82
noncomputable def P (a0 : Int) : Option AV :=
 if leI 97 a0 then
 (some (.bool (leI a0 122)))
 else
 (some (.bool false))
theorem ok {a0 : Int} {v : AV} (h : P a0 = some v) {H : Heap} {Q : Qt} (hQ : ∀ H, Q v H) : C 82 [.int .u8 a0] H Q := by
  refine call ?_
  unfold t
  unfold P at h
  revert h
  repeat' first | exact lsV hQ | exact lsF | apply lsG | apply lsC
theorem ls {a0 : Int} {β : Type} {r : β} {H : Heap} {k : AV → Option β} {K : Qt} (h : ∀ w H, k w = some r → K w H) : (P a0).bind k = some r → C 82 [.int .u8 a0] H K := fun e => bind_ls (Cq := fun K => C 82 [.int .u8 a0] H K) (fun h => ok h) h e
end F82
namespace F83
noncomputable def P (a0 : Int) : Option AV :=
 if leI 48 a0 then
 (some (.bool (leI a0 57)))
 else
 (some (.bool false))
theorem ok {a0 : Int} {v : AV} (h : P a0 = some v) {H : Heap} {Q : Qt} (hQ : ∀ H, Q v H) : C 83 [.int .u8 a0] H Q := by
  refine call ?_
  unfold t
  unfold P at h
  revert h
  repeat' first | exact lsV hQ | exact lsF | apply lsG | apply lsC
theorem ls {a0 : Int} {β : Type} {r : β} {H : Heap} {k : AV → Option β} {K : Qt} (h : ∀ w H, k w = some r → K w H) : (P a0).bind k = some r → C 83 [.int .u8 a0] H K := fun e => bind_ls (Cq := fun K => C 83 [.int .u8 a0] H K) (fun h => ok h) h e
end F83
namespace F64
inductive LS where
  | lR1 (x17 : Bool)
  | l0 (x3i : Int)
  | lR6 (x3i : Int) (x41 : Bool)
noncomputable def PL (a0 : ByteArray) : Nat → LS → Option AV
 | 0, _ => none
 | fu + 1, .lR1 x17 =>
 if x17 then
 (some (.bool false))
 else
 (PL a0 fu (.l0 0))
 | fu + 1, .l0 x3i =>
 if ltI x3i (sizeI a0) then
 (if leI 0 x3i then (if ltI x3i (sizeI a0) then ((F82.P (bt a0 x3i)).bind fun v_3 =>
 if (v_3).isBool then (if !((v_3).toBool) then
 (if leI 0 x3i then (if ltI x3i (sizeI a0) then ((F83.P (bt a0 x3i)).bind fun v_5 =>
 if (v_5).isBool then (if !((v_5).toBool) then
 (if leI 0 x3i then (if ltI x3i (sizeI a0) then PL a0 fu (.lR6 x3i (!(eqI (bt a0 x3i) 45))) else none) else none)
 else
 (PL a0 fu (.lR6 x3i false))) else none) else none) else none)
 else
 (PL a0 fu (.lR6 x3i false))) else none) else none) else none)
 else
 (some (.bool true))
 | fu + 1, .lR6 x3i x41 =>
 if x41 then
 (some (.bool false))
 else
 (PL a0 fu (.l0 (addW .i64 x3i 1)))
noncomputable def P (a0 : ByteArray) : Option AV := lim fun fu =>
 if ltI (sizeI a0) 1 then
 (PL a0 fu (.lR1 true))
 else
 (if ltI 16 (sizeI a0) then
 (PL a0 fu (.lR1 true))
 else
 (if ltI 0 (sizeI a0) then ((F82.P (bt a0 0)).bind fun v_1 =>
 if (v_1).isBool then PL a0 fu (.lR1 (!((v_1).toBool))) else none) else none))
theorem PL_ok {a0 : ByteArray} {Q : Qt} {v : AV} (hQ : ∀ H, Q v H) : ∀ (fu : Nat) (s : LS) (H : Heap), PL a0 fu s = some v → match s with | .lR1 x17 => JR1 a0 Q x17 H | .l0 x3i => L0 a0 Q x3i H | .lR6 x3i x41 => JR6 a0 Q x3i x41 H := by
  intro fu
  induction fu with
  | zero => intro s H h; exact absurd h (by cases s <;> simp only [PL] <;> exact nofun)
  | succ fu ih =>
    intro s H
    cases s with
    | lR1 x17 =>
      show PL a0 (fu + 1) (.lR1 x17) = some v → JR1 a0 Q x17 H
      rw [PL]
      refine fun h => JR1_step (?_ : jR1 a0 Q x17 H)
      revert h
      unfold jR1
      repeat' first | exact lsV hQ | exact lsF | apply lsG | apply lsC | exact fun h => ih _ _ h
    | l0 x3i =>
      show PL a0 (fu + 1) (.l0 x3i) = some v → L0 a0 Q x3i H
      rw [PL]
      refine fun h => L0_step (?_ : r0 a0 Q x3i H)
      revert h
      unfold r0
      repeat' first | exact lsV hQ | exact lsF | apply lsG | apply lsC | refine impP (F82.ls fun _ _ => ?_) | refine impP (F83.ls fun _ _ => ?_) | exact fun h => ih _ _ h
    | lR6 x3i x41 =>
      show PL a0 (fu + 1) (.lR6 x3i x41) = some v → JR6 a0 Q x3i x41 H
      rw [PL]
      refine fun h => JR6_step (?_ : jR6 a0 Q x3i x41 H)
      revert h
      unfold jR6
      repeat' first | exact lsV hQ | exact lsF | apply lsG | apply lsC | exact fun h => ih _ _ h
theorem ok {a0 : ByteArray} {v : AV} (h : P a0 = some v) {H : Heap} {Q : Qt} (hQ : ∀ H, Q v H) : C 64 [.str a0] H Q := by
  refine call ?_
  unfold t
  unfold P at h
  obtain ⟨fu, h⟩ := lim_some h
  revert h
  repeat' first | exact lsV hQ | exact lsF | apply lsG | apply lsC | refine impP (F82.ls fun _ _ => ?_) | exact fun h => PL_ok hQ _ _ _ h
theorem ls {a0 : ByteArray} {β : Type} {r : β} {H : Heap} {k : AV → Option β} {K : Qt} (h : ∀ w H, k w = some r → K w H) : (P a0).bind k = some r → C 64 [.str a0] H K := fun e => bind_ls (Cq := fun K => C 64 [.str a0] H K) (fun h => ok h) h e
end F64
namespace F84
inductive LS where
  | l0 (x3i : Int)
  | lR7 (x3i : Int) (x41 : Bool)
noncomputable def PL (a0 : ByteArray) : Nat → LS → Option AV
 | 0, _ => none
 | fu + 1, .l0 x3i =>
 if ltI x3i (sizeI a0) then
 (if leI 0 x3i then (if ltI x3i (sizeI a0) then (if leI 97 (bt a0 x3i) then
 (if !(leI (bt a0 x3i) 122) then
 (if leI 48 (bt a0 x3i) then
 (if !(leI (bt a0 x3i) 57) then
 (PL a0 fu (.lR7 x3i (!(eqI (bt a0 x3i) 45))))
 else
 (PL a0 fu (.lR7 x3i false)))
 else
 (PL a0 fu (.lR7 x3i (!(eqI (bt a0 x3i) 45)))))
 else
 (PL a0 fu (.lR7 x3i false)))
 else
 (if leI 48 (bt a0 x3i) then
 (if !(leI (bt a0 x3i) 57) then
 (PL a0 fu (.lR7 x3i (!(eqI (bt a0 x3i) 45))))
 else
 (PL a0 fu (.lR7 x3i false)))
 else
 (PL a0 fu (.lR7 x3i (!(eqI (bt a0 x3i) 45)))))) else none) else none)
 else
 (some (.bool true))
 | fu + 1, .lR7 x3i x41 =>
 if x41 then
 (some (.bool false))
 else
 (PL a0 fu (.l0 (addW .i64 x3i 1)))
noncomputable def P (a0 : ByteArray) : Option AV := lim fun fu =>
 if ltI (sizeI a0) 1 then
 (some (.bool false))
 else
 (if ltI 16 (sizeI a0) then
 (some (.bool false))
 else
 (PL a0 fu (.l0 0)))
theorem PL_ok {a0 : ByteArray} {Q : Qt} {v : AV} (hQ : ∀ H, Q v H) : ∀ (fu : Nat) (s : LS) (H : Heap), PL a0 fu s = some v → match s with | .l0 x3i => L0 a0 Q x3i H | .lR7 x3i x41 => JR7 a0 Q x3i x41 H := by
  intro fu
  induction fu with
  | zero => intro s H h; exact absurd h (by cases s <;> simp only [PL] <;> exact nofun)
  | succ fu ih =>
    intro s H
    cases s with
    | l0 x3i =>
      show PL a0 (fu + 1) (.l0 x3i) = some v → L0 a0 Q x3i H
      rw [PL]
      refine fun h => L0_step (?_ : r0 a0 Q x3i H)
      revert h
      unfold r0
      repeat' first | exact lsV hQ | exact lsF | apply lsG | apply lsC | exact fun h => ih _ _ h
    | lR7 x3i x41 =>
      show PL a0 (fu + 1) (.lR7 x3i x41) = some v → JR7 a0 Q x3i x41 H
      rw [PL]
      refine fun h => JR7_step (?_ : jR7 a0 Q x3i x41 H)
      revert h
      unfold jR7
      repeat' first | exact lsV hQ | exact lsF | apply lsG | apply lsC | exact fun h => ih _ _ h
theorem ok {a0 : ByteArray} {v : AV} (h : P a0 = some v) {H : Heap} {Q : Qt} (hQ : ∀ H, Q v H) : C 84 [.str a0] H Q := by
  refine call ?_
  unfold t
  unfold P at h
  obtain ⟨fu, h⟩ := lim_some h
  revert h
  repeat' first | exact lsV hQ | exact lsF | apply lsG | apply lsC | exact fun h => PL_ok hQ _ _ _ h
theorem ls {a0 : ByteArray} {β : Type} {r : β} {H : Heap} {k : AV → Option β} {K : Qt} (h : ∀ w H, k w = some r → K w H) : (P a0).bind k = some r → C 84 [.str a0] H K := fun e => bind_ls (Cq := fun K => C 84 [.str a0] H K) (fun h => ok h) h e
end F84
namespace F65
inductive LS where
  | l0 (x3i : Int)
noncomputable def PL (a0 : List (List AV)) : Nat → LS → Option AV
 | 0, _ => none
 | fu + 1, .l0 x3i =>
 if ltI x3i (lenI a0) then
 (if leI 0 x3i then (if ltI x3i (lenI a0) then (if (ce (ro a0 x3i.toNat) 0).isStr then ((F84.P ((ce (ro a0 x3i.toNat) 0).toStr)).bind fun v_1 =>
 if (v_1).isBool then (if !((v_1).toBool) then
 (some (.int .i64 16))
 else
 (if leI 0 x3i then (if ltI x3i (lenI a0) then (if (ce (ro a0 x3i.toNat) 1).isStr then (if ltI 160 (sizeI ((ce (ro a0 x3i.toNat) 1).toStr)) then
 (some (.int .i64 5))
 else
 (if ltI 0 x3i then
 (if leI 0 x3i then (if ltI x3i (lenI a0) then (if (ce (ro a0 x3i.toNat) 0).isStr then (if leI 0 (subW .i64 x3i 1) then (if ltI (subW .i64 x3i 1) (lenI a0) then (if (ce (ro a0 ((subW .i64 x3i 1).toNat)) 0).isStr then (if !(ltS ((ce (ro a0 ((subW .i64 x3i 1).toNat)) 0).toStr) ((ce (ro a0 x3i.toNat) 0).toStr)) then
 (some (.int .i64 16))
 else
 (PL a0 fu (.l0 (addW .i64 x3i 1)))) else none) else none) else none) else none) else none) else none)
 else
 (PL a0 fu (.l0 (addW .i64 x3i 1))))) else none) else none) else none)) else none) else none) else none) else none)
 else
 (some (.int .i64 0))
noncomputable def P (a0 : List (List AV)) : Option AV := lim fun fu =>
 if ltI 8 (lenI a0) then
 (some (.int .i64 5))
 else
 (PL a0 fu (.l0 0))
theorem PL_ok {a0 : List (List AV)} {Q : Qt} {v : AV} (hQ : ∀ H, Q v H) : ∀ (fu : Nat) (s : LS) (H : Heap), PL a0 fu s = some v → match s with | .l0 x3i => L0 a0 Q x3i H := by
  intro fu
  induction fu with
  | zero => intro s H h; exact absurd h (by cases s <;> simp only [PL] <;> exact nofun)
  | succ fu ih =>
    intro s H
    cases s with
    | l0 x3i =>
      show PL a0 (fu + 1) (.l0 x3i) = some v → L0 a0 Q x3i H
      rw [PL]
      refine fun h => L0_step (?_ : r0 a0 Q x3i H)
      revert h
      unfold r0
      repeat' first | exact lsV hQ | exact lsF | apply lsG | apply lsC | refine impP (F84.ls fun _ _ => ?_) | exact fun h => ih _ _ h
theorem ok {a0 : List (List AV)} {v : AV} (h : P a0 = some v) {H : Heap} {Q : Qt} (hQ : ∀ H, Q v H) : C 65 [.sl 0 2 a0] H Q := by
  refine call ?_
  unfold t
  unfold P at h
  obtain ⟨fu, h⟩ := lim_some h
  revert h
  repeat' first | exact lsV hQ | exact lsF | apply lsG | apply lsC | exact fun h => PL_ok hQ _ _ _ h
theorem ls {a0 : List (List AV)} {β : Type} {r : β} {H : Heap} {k : AV → Option β} {K : Qt} (h : ∀ w H, k w = some r → K w H) : (P a0).bind k = some r → C 65 [.sl 0 2 a0] H K := fun e => bind_ls (Cq := fun K => C 65 [.sl 0 2 a0] H K) (fun h => ok h) h e
end F65
namespace F50
inductive LS where
  | lR7 (x36 : Bool)
noncomputable def PL (a0_0 a0_1 : ByteArray) (a0_2 : Int) (a0_3 : Bool) (a0_4 a0_5 : Int) (a0_6 : ByteArray) (a0_7 : Int) (a0_8 : List (List AV)) : Nat → LS → Option AV
 | 0, _ => none
 | fu + 1, .lR7 x36 =>
 if x36 then
 (some (.int .i64 1))
 else
 (if !(eqS a0_6 (⟨#[]⟩ : ByteArray)) then
 ((F64.P a0_6).bind fun v_3 =>
 if (v_3).isBool then (if !((v_3).toBool) then
 (some (.int .i64 11))
 else
 (if ltI a0_7 0 then
 (some (.int .i64 1))
 else
 (if ltI 1099511627776 a0_7 then
 (some (.int .i64 1))
 else
 ((F65.P a0_8).bind fun v_5 =>
 if (v_5).isInt .i64 then some (.int .i64 ((v_5).toInt)) else none)))) else none)
 else
 (if ltI a0_7 0 then
 (some (.int .i64 1))
 else
 (if ltI 1099511627776 a0_7 then
 (some (.int .i64 1))
 else
 ((F65.P a0_8).bind fun v_7 =>
 if (v_7).isInt .i64 then some (.int .i64 ((v_7).toInt)) else none))))
noncomputable def P (a0_0 a0_1 : ByteArray) (a0_2 : Int) (a0_3 : Bool) (a0_4 a0_5 : Int) (a0_6 : ByteArray) (a0_7 : Int) (a0_8 : List (List AV)) : Option AV := lim fun fu =>
 (F40.P a0_0).bind fun v_1 =>
 if (v_1).isBool then (if !((v_1).toBool) then
 (some (.int .i64 12))
 else
 (if ltI 256 (sizeI a0_1) then
 (some (.int .i64 5))
 else
 (if ltI a0_2 0 then
 (some (.int .i64 14))
 else
 (if ltI 2 a0_2 then
 (some (.int .i64 14))
 else
 (if ltI a0_4 0 then
 (PL a0_0 a0_1 a0_2 a0_3 a0_4 a0_5 a0_6 a0_7 a0_8 fu (.lR7 true))
 else
 (if ltI 9 a0_4 then
 (PL a0_0 a0_1 a0_2 a0_3 a0_4 a0_5 a0_6 a0_7 a0_8 fu (.lR7 true))
 else
 (if ltI a0_5 0 then
 (PL a0_0 a0_1 a0_2 a0_3 a0_4 a0_5 a0_6 a0_7 a0_8 fu (.lR7 true))
 else
 (PL a0_0 a0_1 a0_2 a0_3 a0_4 a0_5 a0_6 a0_7 a0_8 fu (.lR7 (ltI 1099511627776 a0_5)))))))))) else none
theorem PL_ok {a0_0 a0_1 : ByteArray} {a0_2 : Int} {a0_3 : Bool} {a0_4 a0_5 : Int} {a0_6 : ByteArray} {a0_7 : Int} {a0_8 : List (List AV)} {Q : Qt} {v : AV} (hQ : ∀ H, Q v H) : ∀ (fu : Nat) (s : LS) (H : Heap), PL a0_0 a0_1 a0_2 a0_3 a0_4 a0_5 a0_6 a0_7 a0_8 fu s = some v → match s with | .lR7 x36 => JR7 a0_0 a0_1 a0_2 a0_3 a0_4 a0_5 a0_6 a0_7 a0_8 Q x36 H := by
  intro fu
  induction fu with
  | zero => intro s H h; exact absurd h (by cases s <;> simp only [PL] <;> exact nofun)
  | succ fu ih =>
    intro s H
    cases s with
    | lR7 x36 =>
      show PL a0_0 a0_1 a0_2 a0_3 a0_4 a0_5 a0_6 a0_7 a0_8 (fu + 1) (.lR7 x36) = some v → JR7 a0_0 a0_1 a0_2 a0_3 a0_4 a0_5 a0_6 a0_7 a0_8 Q x36 H
      rw [PL]
      refine fun h => JR7_step (?_ : jR7 a0_0 a0_1 a0_2 a0_3 a0_4 a0_5 a0_6 a0_7 a0_8 Q x36 H)
      revert h
      unfold jR7
      repeat' first | exact lsV hQ | exact lsF | apply lsG | apply lsC | refine impP (F64.ls fun _ _ => ?_) | refine impP (F65.ls fun _ _ => ?_) | exact fun h => ih _ _ h
theorem ok {a0_0 a0_1 : ByteArray} {a0_2 : Int} {a0_3 : Bool} {a0_4 a0_5 : Int} {a0_6 : ByteArray} {a0_7 : Int} {a0_8 : List (List AV)} {v : AV} (h : P a0_0 a0_1 a0_2 a0_3 a0_4 a0_5 a0_6 a0_7 a0_8 = some v) {H : Heap} {Q : Qt} (hQ : ∀ H, Q v H) : C 50 [.agg [.str a0_0, .str a0_1, .int .i64 a0_2, .bool a0_3, .int .i64 a0_4, .int .i64 a0_5, .str a0_6, .int .i64 a0_7, .sl 0 2 a0_8]] H Q := by
  refine call ?_
  unfold t
  unfold P at h
  obtain ⟨fu, h⟩ := lim_some h
  revert h
  repeat' first | exact lsV hQ | exact lsF | apply lsG | apply lsC | refine impP (F40.ls fun _ _ => ?_) | exact fun h => PL_ok hQ _ _ _ h
theorem ls {a0_0 a0_1 : ByteArray} {a0_2 : Int} {a0_3 : Bool} {a0_4 a0_5 : Int} {a0_6 : ByteArray} {a0_7 : Int} {a0_8 : List (List AV)} {β : Type} {r : β} {H : Heap} {k : AV → Option β} {K : Qt} (h : ∀ w H, k w = some r → K w H) : (P a0_0 a0_1 a0_2 a0_3 a0_4 a0_5 a0_6 a0_7 a0_8).bind k = some r → C 50 [.agg [.str a0_0, .str a0_1, .int .i64 a0_2, .bool a0_3, .int .i64 a0_4, .int .i64 a0_5, .str a0_6, .int .i64 a0_7, .sl 0 2 a0_8]] H K := fun e => bind_ls (Cq := fun K => C 50 [.agg [.str a0_0, .str a0_1, .int .i64 a0_2, .bool a0_3, .int .i64 a0_4, .int .i64 a0_5, .str a0_6, .int .i64 a0_7, .sl 0 2 a0_8]] H K) (fun h => ok h) h e
end F50
namespace F27
noncomputable def P (a0_0 a0_1 : ByteArray) (a0_2 : Int) (a0_3 : Bool) (a0_4 a0_5 : Int) (a0_6 : ByteArray) (a0_7 : Int) (a0_8 : List (List AV)) : Option AV :=
 (F50.P a0_0 a0_1 a0_2 a0_3 a0_4 a0_5 a0_6 a0_7 a0_8).bind fun v_1 =>
 if (v_1).isInt .i64 then (if !(eqI ((v_1).toInt) 0) then
 (some (.int .i64 ((v_1).toInt)))
 else
 (if !a0_3 then
 (some (.int .i64 28))
 else
 (some (.int .i64 0)))) else none
theorem ok {a0_0 a0_1 : ByteArray} {a0_2 : Int} {a0_3 : Bool} {a0_4 a0_5 : Int} {a0_6 : ByteArray} {a0_7 : Int} {a0_8 : List (List AV)} {v : AV} (h : P a0_0 a0_1 a0_2 a0_3 a0_4 a0_5 a0_6 a0_7 a0_8 = some v) {H : Heap} {Q : Qt} (hQ : ∀ H, Q v H) : C 27 [.agg [.str a0_0, .str a0_1, .int .i64 a0_2, .bool a0_3, .int .i64 a0_4, .int .i64 a0_5, .str a0_6, .int .i64 a0_7, .sl 0 2 a0_8]] H Q := by
  refine call ?_
  unfold t
  unfold P at h
  revert h
  repeat' first | exact lsV hQ | exact lsF | apply lsG | apply lsC | refine impP (F50.ls fun _ _ => ?_)
theorem ls {a0_0 a0_1 : ByteArray} {a0_2 : Int} {a0_3 : Bool} {a0_4 a0_5 : Int} {a0_6 : ByteArray} {a0_7 : Int} {a0_8 : List (List AV)} {β : Type} {r : β} {H : Heap} {k : AV → Option β} {K : Qt} (h : ∀ w H, k w = some r → K w H) : (P a0_0 a0_1 a0_2 a0_3 a0_4 a0_5 a0_6 a0_7 a0_8).bind k = some r → C 27 [.agg [.str a0_0, .str a0_1, .int .i64 a0_2, .bool a0_3, .int .i64 a0_4, .int .i64 a0_5, .str a0_6, .int .i64 a0_7, .sl 0 2 a0_8]] H K := fun e => bind_ls (Cq := fun K => C 27 [.agg [.str a0_0, .str a0_1, .int .i64 a0_2, .bool a0_3, .int .i64 a0_4, .int .i64 a0_5, .str a0_6, .int .i64 a0_7, .sl 0 2 a0_8]] H K) (fun h => ok h) h e
end F27
namespace F45
inductive LS where
  | l0 (x5out : List (List AV)) (x6i : Int)
noncomputable def PL (a0 : List (List AV)) (a1 : ByteArray) : Nat → LS → Option AV
 | 0, _ => none
 | fu + 1, .l0 x5out x6i =>
 if ltI x6i (lenI a0) then
 (if leI 0 x6i then (if ltI x6i (lenI a0) then (if (ce (ro a0 x6i.toNat) 0).isStr then (if !(eqS ((ce (ro a0 x6i.toNat) 0).toStr) a1) then
 (if leI 0 x6i then (if ltI x6i (lenI a0) then (if (ce (ro a0 x6i.toNat) 0).isStr then (if (ce (ro a0 x6i.toNat) 1).isStr then (if (ce (ro a0 x6i.toNat) 2).isInt .i64 then (if (ce (ro a0 x6i.toNat) 3).isBool then (if (ce (ro a0 x6i.toNat) 4).isInt .i64 then (if (ce (ro a0 x6i.toNat) 5).isInt .i64 then (if (ce (ro a0 x6i.toNat) 6).isStr then (if (ce (ro a0 x6i.toNat) 7).isInt .i64 then (if (ce (ro a0 x6i.toNat) 8).isSl 2 then (if room x5out [[.str ((ce (ro a0 x6i.toNat) 0).toStr), .str ((ce (ro a0 x6i.toNat) 1).toStr), .int .i64 ((ce (ro a0 x6i.toNat) 2).toInt), .bool ((ce (ro a0 x6i.toNat) 3).toBool), .int .i64 ((ce (ro a0 x6i.toNat) 4).toInt), .int .i64 ((ce (ro a0 x6i.toNat) 5).toInt), .str ((ce (ro a0 x6i.toNat) 6).toStr), .int .i64 ((ce (ro a0 x6i.toNat) 7).toInt), .sl 0 2 ((ce (ro a0 x6i.toNat) 8).slXs)]] 112 then PL a0 a1 fu (.l0 (x5out ++ [[.str ((ce (ro a0 x6i.toNat) 0).toStr), .str ((ce (ro a0 x6i.toNat) 1).toStr), .int .i64 ((ce (ro a0 x6i.toNat) 2).toInt), .bool ((ce (ro a0 x6i.toNat) 3).toBool), .int .i64 ((ce (ro a0 x6i.toNat) 4).toInt), .int .i64 ((ce (ro a0 x6i.toNat) 5).toInt), .str ((ce (ro a0 x6i.toNat) 6).toStr), .int .i64 ((ce (ro a0 x6i.toNat) 7).toInt), .sl 0 2 ((ce (ro a0 x6i.toNat) 8).slXs)]]) (addW .i64 x6i 1)) else none) else none) else none) else none) else none) else none) else none) else none) else none) else none) else none) else none)
 else
 (PL a0 a1 fu (.l0 x5out (addW .i64 x6i 1)))) else none) else none) else none)
 else
 (some (.sl 0 9 x5out))
noncomputable def P (a0 : List (List AV)) (a1 : ByteArray) : Option AV := lim fun fu =>
 PL a0 a1 fu (.l0 [] 0)
theorem PL_ok {a0 : List (List AV)} {a1 : ByteArray} {Q : Qt} {v : AV} (hQ : ∀ H, Q v H) : ∀ (fu : Nat) (s : LS) (H : Heap), PL a0 a1 fu s = some v → match s with | .l0 x5out x6i => L0 a0 a1 Q x5out x6i H := by
  intro fu
  induction fu with
  | zero => intro s H h; exact absurd h (by cases s <;> simp only [PL] <;> exact nofun)
  | succ fu ih =>
    intro s H
    cases s with
    | l0 x5out x6i =>
      show PL a0 a1 (fu + 1) (.l0 x5out x6i) = some v → L0 a0 a1 Q x5out x6i H
      rw [PL]
      refine fun h => L0_step (?_ : r0 a0 a1 Q x5out x6i H)
      revert h
      unfold r0
      repeat' first | exact lsV hQ | exact lsF | apply lsG | apply lsC | exact fun h => ih _ _ h
theorem ok {a0 : List (List AV)} {a1 : ByteArray} {v : AV} (h : P a0 a1 = some v) {H : Heap} {Q : Qt} (hQ : ∀ H, Q v H) : C 45 [.sl 0 9 a0, .str a1] H Q := by
  refine call ?_
  unfold t
  unfold P at h
  obtain ⟨fu, h⟩ := lim_some h
  revert h
  repeat' first | exact lsV hQ | exact lsF | apply lsG | apply lsC | exact fun h => PL_ok hQ _ _ _ h
theorem ls {a0 : List (List AV)} {a1 : ByteArray} {β : Type} {r : β} {H : Heap} {k : AV → Option β} {K : Qt} (h : ∀ w H, k w = some r → K w H) : (P a0 a1).bind k = some r → C 45 [.sl 0 9 a0, .str a1] H K := fun e => bind_ls (Cq := fun K => C 45 [.sl 0 9 a0, .str a1] H K) (fun h => ok h) h e
end F45
namespace F46
inductive LS where
  | l0 (x5i : Int)
noncomputable def PL (a0 : List (List AV)) (a1 : ByteArray) : Nat → LS → Option AV
 | 0, _ => none
 | fu + 1, .l0 x5i =>
 if ltI x5i (lenI a0) then
 (if leI 0 x5i then (if ltI x5i (lenI a0) then (if (ce (ro a0 x5i.toNat) 0).isStr then (if eqS ((ce (ro a0 x5i.toNat) 0).toStr) a1 then
 (some (.int .i64 x5i))
 else
 (PL a0 a1 fu (.l0 (addW .i64 x5i 1)))) else none) else none) else none)
 else
 (some (.int .i64 (-1)))
noncomputable def P (a0 : List (List AV)) (a1 : ByteArray) : Option AV := lim fun fu =>
 PL a0 a1 fu (.l0 0)
theorem PL_ok {a0 : List (List AV)} {a1 : ByteArray} {Q : Qt} {v : AV} (hQ : ∀ H, Q v H) : ∀ (fu : Nat) (s : LS) (H : Heap), PL a0 a1 fu s = some v → match s with | .l0 x5i => L0 a0 a1 Q x5i H := by
  intro fu
  induction fu with
  | zero => intro s H h; exact absurd h (by cases s <;> simp only [PL] <;> exact nofun)
  | succ fu ih =>
    intro s H
    cases s with
    | l0 x5i =>
      show PL a0 a1 (fu + 1) (.l0 x5i) = some v → L0 a0 a1 Q x5i H
      rw [PL]
      refine fun h => L0_step (?_ : r0 a0 a1 Q x5i H)
      revert h
      unfold r0
      repeat' first | exact lsV hQ | exact lsF | apply lsG | apply lsC | exact fun h => ih _ _ h
theorem ok {a0 : List (List AV)} {a1 : ByteArray} {v : AV} (h : P a0 a1 = some v) {H : Heap} {Q : Qt} (hQ : ∀ H, Q v H) : C 46 [.sl 0 9 a0, .str a1] H Q := by
  refine call ?_
  unfold t
  unfold P at h
  obtain ⟨fu, h⟩ := lim_some h
  revert h
  repeat' first | exact lsV hQ | exact lsF | apply lsG | apply lsC | exact fun h => PL_ok hQ _ _ _ h
theorem ls {a0 : List (List AV)} {a1 : ByteArray} {β : Type} {r : β} {H : Heap} {k : AV → Option β} {K : Qt} (h : ∀ w H, k w = some r → K w H) : (P a0 a1).bind k = some r → C 46 [.sl 0 9 a0, .str a1] H K := fun e => bind_ls (Cq := fun K => C 46 [.sl 0 9 a0, .str a1] H K) (fun h => ok h) h e
end F46
namespace F47
inductive LS where
  | l0 (x5out : List (List AV)) (x6i : Int)
noncomputable def PL (a0 : List (List AV)) (a1 : Int) : Nat → LS → Option AV
 | 0, _ => none
 | fu + 1, .l0 x5out x6i =>
 if ltI x6i (lenI a0) then
 (if leI 0 x6i then (if ltI x6i (lenI a0) then (if (ce (ro a0 x6i.toNat) 0).isStr then (if (ce (ro a0 x6i.toNat) 1).isStr then (if (ce (ro a0 x6i.toNat) 2).isInt .i64 then (if (ce (ro a0 x6i.toNat) 3).isBool then (if (ce (ro a0 x6i.toNat) 4).isInt .i64 then (if (ce (ro a0 x6i.toNat) 5).isInt .i64 then (if (ce (ro a0 x6i.toNat) 6).isStr then (if (ce (ro a0 x6i.toNat) 7).isInt .i64 then (if (ce (ro a0 x6i.toNat) 8).isSl 2 then ((F24.P ((ce (ro a0 x6i.toNat) 0).toStr) ((ce (ro a0 x6i.toNat) 1).toStr) ((ce (ro a0 x6i.toNat) 2).toInt) ((ce (ro a0 x6i.toNat) 3).toBool) ((ce (ro a0 x6i.toNat) 4).toInt) ((ce (ro a0 x6i.toNat) 5).toInt) ((ce (ro a0 x6i.toNat) 6).toStr) ((ce (ro a0 x6i.toNat) 7).toInt) ((ce (ro a0 x6i.toNat) 8).slXs) a1).bind fun v_1 =>
 if (v_1).isBool then (if !((v_1).toBool) then
 (if leI 0 x6i then (if ltI x6i (lenI a0) then (if (ce (ro a0 x6i.toNat) 0).isStr then (if (ce (ro a0 x6i.toNat) 1).isStr then (if (ce (ro a0 x6i.toNat) 2).isInt .i64 then (if (ce (ro a0 x6i.toNat) 3).isBool then (if (ce (ro a0 x6i.toNat) 4).isInt .i64 then (if (ce (ro a0 x6i.toNat) 5).isInt .i64 then (if (ce (ro a0 x6i.toNat) 6).isStr then (if (ce (ro a0 x6i.toNat) 7).isInt .i64 then (if (ce (ro a0 x6i.toNat) 8).isSl 2 then (if room x5out [[.str ((ce (ro a0 x6i.toNat) 0).toStr), .str ((ce (ro a0 x6i.toNat) 1).toStr), .int .i64 ((ce (ro a0 x6i.toNat) 2).toInt), .bool ((ce (ro a0 x6i.toNat) 3).toBool), .int .i64 ((ce (ro a0 x6i.toNat) 4).toInt), .int .i64 ((ce (ro a0 x6i.toNat) 5).toInt), .str ((ce (ro a0 x6i.toNat) 6).toStr), .int .i64 ((ce (ro a0 x6i.toNat) 7).toInt), .sl 0 2 ((ce (ro a0 x6i.toNat) 8).slXs)]] 112 then PL a0 a1 fu (.l0 (x5out ++ [[.str ((ce (ro a0 x6i.toNat) 0).toStr), .str ((ce (ro a0 x6i.toNat) 1).toStr), .int .i64 ((ce (ro a0 x6i.toNat) 2).toInt), .bool ((ce (ro a0 x6i.toNat) 3).toBool), .int .i64 ((ce (ro a0 x6i.toNat) 4).toInt), .int .i64 ((ce (ro a0 x6i.toNat) 5).toInt), .str ((ce (ro a0 x6i.toNat) 6).toStr), .int .i64 ((ce (ro a0 x6i.toNat) 7).toInt), .sl 0 2 ((ce (ro a0 x6i.toNat) 8).slXs)]]) (addW .i64 x6i 1)) else none) else none) else none) else none) else none) else none) else none) else none) else none) else none) else none) else none)
 else
 (PL a0 a1 fu (.l0 x5out (addW .i64 x6i 1)))) else none) else none) else none) else none) else none) else none) else none) else none) else none) else none) else none) else none)
 else
 (some (.sl 0 9 x5out))
noncomputable def P (a0 : List (List AV)) (a1 : Int) : Option AV := lim fun fu =>
 PL a0 a1 fu (.l0 [] 0)
theorem PL_ok {a0 : List (List AV)} {a1 : Int} {Q : Qt} {v : AV} (hQ : ∀ H, Q v H) : ∀ (fu : Nat) (s : LS) (H : Heap), PL a0 a1 fu s = some v → match s with | .l0 x5out x6i => L0 a0 a1 Q x5out x6i H := by
  intro fu
  induction fu with
  | zero => intro s H h; exact absurd h (by cases s <;> simp only [PL] <;> exact nofun)
  | succ fu ih =>
    intro s H
    cases s with
    | l0 x5out x6i =>
      show PL a0 a1 (fu + 1) (.l0 x5out x6i) = some v → L0 a0 a1 Q x5out x6i H
      rw [PL]
      refine fun h => L0_step (?_ : r0 a0 a1 Q x5out x6i H)
      revert h
      unfold r0
      repeat' first | exact lsV hQ | exact lsF | apply lsG | apply lsC | refine impP (F24.ls fun _ _ => ?_) | exact fun h => ih _ _ h
theorem ok {a0 : List (List AV)} {a1 : Int} {v : AV} (h : P a0 a1 = some v) {H : Heap} {Q : Qt} (hQ : ∀ H, Q v H) : C 47 [.sl 0 9 a0, .int .i64 a1] H Q := by
  refine call ?_
  unfold t
  unfold P at h
  obtain ⟨fu, h⟩ := lim_some h
  revert h
  repeat' first | exact lsV hQ | exact lsF | apply lsG | apply lsC | exact fun h => PL_ok hQ _ _ _ h
theorem ls {a0 : List (List AV)} {a1 : Int} {β : Type} {r : β} {H : Heap} {k : AV → Option β} {K : Qt} (h : ∀ w H, k w = some r → K w H) : (P a0 a1).bind k = some r → C 47 [.sl 0 9 a0, .int .i64 a1] H K := fun e => bind_ls (Cq := fun K => C 47 [.sl 0 9 a0, .int .i64 a1] H K) (fun h => ok h) h e
end F47
namespace F48
inductive LS where
  | l0 (x5out : List (List AV)) (x6i : Int)
noncomputable def PL (a0 : List (List AV)) (a1_0 a1_1 : ByteArray) (a1_2 : Int) (a1_3 : Bool) (a1_4 a1_5 : Int) (a1_6 : ByteArray) (a1_7 : Int) (a1_8 : List (List AV)) : Nat → LS → Option AV
 | 0, _ => none
 | fu + 1, .l0 x5out x6i =>
 if ltI x6i (lenI a0) then
 (if leI 0 x6i then (if ltI x6i (lenI a0) then (if (ce (ro a0 x6i.toNat) 0).isStr then (if ltS ((ce (ro a0 x6i.toNat) 0).toStr) a1_0 then
 (if leI 0 x6i then (if ltI x6i (lenI a0) then (if (ce (ro a0 x6i.toNat) 0).isStr then (if (ce (ro a0 x6i.toNat) 1).isStr then (if (ce (ro a0 x6i.toNat) 2).isInt .i64 then (if (ce (ro a0 x6i.toNat) 3).isBool then (if (ce (ro a0 x6i.toNat) 4).isInt .i64 then (if (ce (ro a0 x6i.toNat) 5).isInt .i64 then (if (ce (ro a0 x6i.toNat) 6).isStr then (if (ce (ro a0 x6i.toNat) 7).isInt .i64 then (if (ce (ro a0 x6i.toNat) 8).isSl 2 then (if room x5out [[.str ((ce (ro a0 x6i.toNat) 0).toStr), .str ((ce (ro a0 x6i.toNat) 1).toStr), .int .i64 ((ce (ro a0 x6i.toNat) 2).toInt), .bool ((ce (ro a0 x6i.toNat) 3).toBool), .int .i64 ((ce (ro a0 x6i.toNat) 4).toInt), .int .i64 ((ce (ro a0 x6i.toNat) 5).toInt), .str ((ce (ro a0 x6i.toNat) 6).toStr), .int .i64 ((ce (ro a0 x6i.toNat) 7).toInt), .sl 0 2 ((ce (ro a0 x6i.toNat) 8).slXs)]] 112 then PL a0 a1_0 a1_1 a1_2 a1_3 a1_4 a1_5 a1_6 a1_7 a1_8 fu (.l0 (x5out ++ [[.str ((ce (ro a0 x6i.toNat) 0).toStr), .str ((ce (ro a0 x6i.toNat) 1).toStr), .int .i64 ((ce (ro a0 x6i.toNat) 2).toInt), .bool ((ce (ro a0 x6i.toNat) 3).toBool), .int .i64 ((ce (ro a0 x6i.toNat) 4).toInt), .int .i64 ((ce (ro a0 x6i.toNat) 5).toInt), .str ((ce (ro a0 x6i.toNat) 6).toStr), .int .i64 ((ce (ro a0 x6i.toNat) 7).toInt), .sl 0 2 ((ce (ro a0 x6i.toNat) 8).slXs)]]) (addW .i64 x6i 1)) else none) else none) else none) else none) else none) else none) else none) else none) else none) else none) else none) else none)
 else
 (if room x5out [[.str a1_0, .str a1_1, .int .i64 a1_2, .bool a1_3, .int .i64 a1_4, .int .i64 a1_5, .str a1_6, .int .i64 a1_7, .sl 0 2 a1_8]] 112 then (if leI 0 x6i then (if leI x6i (lenI a0) then (if leI (lenI a0) (lenI a0) then (if leI (lenI a0) (lenI a0) then (if room (x5out ++ [[.str a1_0, .str a1_1, .int .i64 a1_2, .bool a1_3, .int .i64 a1_4, .int .i64 a1_5, .str a1_6, .int .i64 a1_7, .sl 0 2 a1_8]]) ((a0.take ((lenI a0).toNat)).drop x6i.toNat) 112 then some (.sl 0 9 ((x5out ++ [[.str a1_0, .str a1_1, .int .i64 a1_2, .bool a1_3, .int .i64 a1_4, .int .i64 a1_5, .str a1_6, .int .i64 a1_7, .sl 0 2 a1_8]]) ++ ((a0.take ((lenI a0).toNat)).drop x6i.toNat))) else none) else none) else none) else none) else none) else none)) else none) else none) else none)
 else
 (if room x5out [[.str a1_0, .str a1_1, .int .i64 a1_2, .bool a1_3, .int .i64 a1_4, .int .i64 a1_5, .str a1_6, .int .i64 a1_7, .sl 0 2 a1_8]] 112 then (if leI 0 x6i then (if leI x6i (lenI a0) then (if leI (lenI a0) (lenI a0) then (if leI (lenI a0) (lenI a0) then (if room (x5out ++ [[.str a1_0, .str a1_1, .int .i64 a1_2, .bool a1_3, .int .i64 a1_4, .int .i64 a1_5, .str a1_6, .int .i64 a1_7, .sl 0 2 a1_8]]) ((a0.take ((lenI a0).toNat)).drop x6i.toNat) 112 then some (.sl 0 9 ((x5out ++ [[.str a1_0, .str a1_1, .int .i64 a1_2, .bool a1_3, .int .i64 a1_4, .int .i64 a1_5, .str a1_6, .int .i64 a1_7, .sl 0 2 a1_8]]) ++ ((a0.take ((lenI a0).toNat)).drop x6i.toNat))) else none) else none) else none) else none) else none) else none)
noncomputable def P (a0 : List (List AV)) (a1_0 a1_1 : ByteArray) (a1_2 : Int) (a1_3 : Bool) (a1_4 a1_5 : Int) (a1_6 : ByteArray) (a1_7 : Int) (a1_8 : List (List AV)) : Option AV := lim fun fu =>
 PL a0 a1_0 a1_1 a1_2 a1_3 a1_4 a1_5 a1_6 a1_7 a1_8 fu (.l0 [] 0)
theorem PL_ok {a0 : List (List AV)} {a1_0 a1_1 : ByteArray} {a1_2 : Int} {a1_3 : Bool} {a1_4 a1_5 : Int} {a1_6 : ByteArray} {a1_7 : Int} {a1_8 : List (List AV)} {Q : Qt} {v : AV} (hQ : ∀ H, Q v H) : ∀ (fu : Nat) (s : LS) (H : Heap), PL a0 a1_0 a1_1 a1_2 a1_3 a1_4 a1_5 a1_6 a1_7 a1_8 fu s = some v → match s with | .l0 x5out x6i => L0 a0 a1_0 a1_1 a1_2 a1_3 a1_4 a1_5 a1_6 a1_7 a1_8 Q x5out x6i H := by
  intro fu
  induction fu with
  | zero => intro s H h; exact absurd h (by cases s <;> simp only [PL] <;> exact nofun)
  | succ fu ih =>
    intro s H
    cases s with
    | l0 x5out x6i =>
      show PL a0 a1_0 a1_1 a1_2 a1_3 a1_4 a1_5 a1_6 a1_7 a1_8 (fu + 1) (.l0 x5out x6i) = some v → L0 a0 a1_0 a1_1 a1_2 a1_3 a1_4 a1_5 a1_6 a1_7 a1_8 Q x5out x6i H
      rw [PL]
      refine fun h => L0_step (?_ : r0 a0 a1_0 a1_1 a1_2 a1_3 a1_4 a1_5 a1_6 a1_7 a1_8 Q x5out x6i H)
      revert h
      unfold r0
      repeat' first | exact lsV hQ | exact lsF | apply lsG | apply lsC | exact fun h => ih _ _ h
theorem ok {a0 : List (List AV)} {a1_0 a1_1 : ByteArray} {a1_2 : Int} {a1_3 : Bool} {a1_4 a1_5 : Int} {a1_6 : ByteArray} {a1_7 : Int} {a1_8 : List (List AV)} {v : AV} (h : P a0 a1_0 a1_1 a1_2 a1_3 a1_4 a1_5 a1_6 a1_7 a1_8 = some v) {H : Heap} {Q : Qt} (hQ : ∀ H, Q v H) : C 48 [.sl 0 9 a0, .agg [.str a1_0, .str a1_1, .int .i64 a1_2, .bool a1_3, .int .i64 a1_4, .int .i64 a1_5, .str a1_6, .int .i64 a1_7, .sl 0 2 a1_8]] H Q := by
  refine call ?_
  unfold t
  unfold P at h
  obtain ⟨fu, h⟩ := lim_some h
  revert h
  repeat' first | exact lsV hQ | exact lsF | apply lsG | apply lsC | exact fun h => PL_ok hQ _ _ _ h
theorem ls {a0 : List (List AV)} {a1_0 a1_1 : ByteArray} {a1_2 : Int} {a1_3 : Bool} {a1_4 a1_5 : Int} {a1_6 : ByteArray} {a1_7 : Int} {a1_8 : List (List AV)} {β : Type} {r : β} {H : Heap} {k : AV → Option β} {K : Qt} (h : ∀ w H, k w = some r → K w H) : (P a0 a1_0 a1_1 a1_2 a1_3 a1_4 a1_5 a1_6 a1_7 a1_8).bind k = some r → C 48 [.sl 0 9 a0, .agg [.str a1_0, .str a1_1, .int .i64 a1_2, .bool a1_3, .int .i64 a1_4, .int .i64 a1_5, .str a1_6, .int .i64 a1_7, .sl 0 2 a1_8]] H K := fun e => bind_ls (Cq := fun K => C 48 [.sl 0 9 a0, .agg [.str a1_0, .str a1_1, .int .i64 a1_2, .bool a1_3, .int .i64 a1_4, .int .i64 a1_5, .str a1_6, .int .i64 a1_7, .sl 0 2 a1_8]] H K) (fun h => ok h) h e
end F48
namespace F21
noncomputable def P (a0_0 : Int) (a0_1 : List (List AV)) (a1_0 a1_1 : ByteArray) (a1_2 : Int) (a1_3 : Bool) (a1_4 a1_5 : Int) (a1_6 : ByteArray) (a1_7 : Int) (a1_8 : List (List AV)) (a2 : Int) : Option AV :=
 (F27.P a1_0 a1_1 a1_2 a1_3 a1_4 a1_5 a1_6 a1_7 a1_8).bind fun v_1 =>
 if (v_1).isInt .i64 then (if !(eqI ((v_1).toInt) 0) then
 (some (.tup [.agg [.int .i64 a0_0, .sl 0 9 a0_1], .int .i64 ((v_1).toInt)]))
 else
 (if eqS a1_1 (⟨#[]⟩ : ByteArray) then
 ((F45.P a0_1 a1_0).bind fun v_3 =>
 if (v_3).isSl 9 then some (.tup [.agg [.int .i64 a0_0, .sl 0 9 ((v_3).slXs)], .int .i64 0]) else none)
 else
 ((F24.P a1_0 a1_1 a1_2 a1_3 a1_4 a1_5 a1_6 a1_7 a1_8 a2).bind fun v_5 =>
 if (v_5).isBool then (if (v_5).toBool then
 ((F45.P a0_1 a1_0).bind fun v_7 =>
 if (v_7).isSl 9 then some (.tup [.agg [.int .i64 a0_0, .sl 0 9 ((v_7).slXs)], .int .i64 0]) else none)
 else
 ((F46.P a0_1 a1_0).bind fun v_9 =>
 if (v_9).isInt .i64 then (if ltI ((v_9).toInt) 0 then
 (if leI a0_0 (lenI a0_1) then
 ((F47.P a0_1 a2).bind fun v_11 =>
 if (v_11).isSl 9 then (if leI a0_0 (lenI ((v_11).slXs)) then
 (some (.tup [.agg [.int .i64 a0_0, .sl 0 9 ((v_11).slXs)], .int .i64 6]))
 else
 ((F45.P ((v_11).slXs) a1_0).bind fun v_13 =>
 if (v_13).isSl 9 then ((F48.P ((v_13).slXs) a1_0 a1_1 a1_2 a1_3 a1_4 a1_5 a1_6 a1_7 a1_8).bind fun v_15 =>
 if (v_15).isSl 9 then some (.tup [.agg [.int .i64 a0_0, .sl 0 9 ((v_15).slXs)], .int .i64 0]) else none) else none)) else none)
 else
 ((F45.P a0_1 a1_0).bind fun v_17 =>
 if (v_17).isSl 9 then ((F48.P ((v_17).slXs) a1_0 a1_1 a1_2 a1_3 a1_4 a1_5 a1_6 a1_7 a1_8).bind fun v_19 =>
 if (v_19).isSl 9 then some (.tup [.agg [.int .i64 a0_0, .sl 0 9 ((v_19).slXs)], .int .i64 0]) else none) else none))
 else
 ((F45.P a0_1 a1_0).bind fun v_21 =>
 if (v_21).isSl 9 then ((F48.P ((v_21).slXs) a1_0 a1_1 a1_2 a1_3 a1_4 a1_5 a1_6 a1_7 a1_8).bind fun v_23 =>
 if (v_23).isSl 9 then some (.tup [.agg [.int .i64 a0_0, .sl 0 9 ((v_23).slXs)], .int .i64 0]) else none) else none)) else none)) else none))) else none
theorem ok {a0_0 : Int} {a0_1 : List (List AV)} {a1_0 a1_1 : ByteArray} {a1_2 : Int} {a1_3 : Bool} {a1_4 a1_5 : Int} {a1_6 : ByteArray} {a1_7 : Int} {a1_8 : List (List AV)} {a2 : Int} {v : AV} (h : P a0_0 a0_1 a1_0 a1_1 a1_2 a1_3 a1_4 a1_5 a1_6 a1_7 a1_8 a2 = some v) {H : Heap} {Q : Qt} (hQ : ∀ H, Q v H) : C 21 [.agg [.int .i64 a0_0, .sl 0 9 a0_1], .agg [.str a1_0, .str a1_1, .int .i64 a1_2, .bool a1_3, .int .i64 a1_4, .int .i64 a1_5, .str a1_6, .int .i64 a1_7, .sl 0 2 a1_8], .int .i64 a2] H Q := by
  refine call ?_
  unfold t
  unfold P at h
  revert h
  repeat' first | exact lsV hQ | exact lsF | apply lsG | apply lsC | refine impP (F24.ls fun _ _ => ?_) | refine impP (F27.ls fun _ _ => ?_) | refine impP (F45.ls fun _ _ => ?_) | refine impP (F46.ls fun _ _ => ?_) | refine impP (F47.ls fun _ _ => ?_) | refine impP (F48.ls fun _ _ => ?_)
theorem ls {a0_0 : Int} {a0_1 : List (List AV)} {a1_0 a1_1 : ByteArray} {a1_2 : Int} {a1_3 : Bool} {a1_4 a1_5 : Int} {a1_6 : ByteArray} {a1_7 : Int} {a1_8 : List (List AV)} {a2 : Int} {β : Type} {r : β} {H : Heap} {k : AV → Option β} {K : Qt} (h : ∀ w H, k w = some r → K w H) : (P a0_0 a0_1 a1_0 a1_1 a1_2 a1_3 a1_4 a1_5 a1_6 a1_7 a1_8 a2).bind k = some r → C 21 [.agg [.int .i64 a0_0, .sl 0 9 a0_1], .agg [.str a1_0, .str a1_1, .int .i64 a1_2, .bool a1_3, .int .i64 a1_4, .int .i64 a1_5, .str a1_6, .int .i64 a1_7, .sl 0 2 a1_8], .int .i64 a2] H K := fun e => bind_ls (Cq := fun K => C 21 [.agg [.int .i64 a0_0, .sl 0 9 a0_1], .agg [.str a1_0, .str a1_1, .int .i64 a1_2, .bool a1_3, .int .i64 a1_4, .int .i64 a1_5, .str a1_6, .int .i64 a1_7, .sl 0 2 a1_8], .int .i64 a2] H K) (fun h => ok h) h e
end F21
namespace F23
noncomputable def P (a0_0 : Int) (a0_1 : List (List AV)) (a1 : ByteArray) (a2 : Int) : Option AV :=
 (F46.P a0_1 a1).bind fun v_1 =>
 if (v_1).isInt .i64 then (if ltI ((v_1).toInt) 0 then
 (some (.tup [.agg [.str (⟨#[]⟩ : ByteArray), .str (⟨#[]⟩ : ByteArray), .int .i64 0, .bool false, .int .i64 0, .int .i64 0, .str (⟨#[]⟩ : ByteArray), .int .i64 0, .nilsl], .bool false]))
 else
 (if leI 0 ((v_1).toInt) then (if ltI ((v_1).toInt) (lenI a0_1) then (if (ce (ro a0_1 (((v_1).toInt).toNat)) 0).isStr then (if (ce (ro a0_1 (((v_1).toInt).toNat)) 1).isStr then (if (ce (ro a0_1 (((v_1).toInt).toNat)) 2).isInt .i64 then (if (ce (ro a0_1 (((v_1).toInt).toNat)) 3).isBool then (if (ce (ro a0_1 (((v_1).toInt).toNat)) 4).isInt .i64 then (if (ce (ro a0_1 (((v_1).toInt).toNat)) 5).isInt .i64 then (if (ce (ro a0_1 (((v_1).toInt).toNat)) 6).isStr then (if (ce (ro a0_1 (((v_1).toInt).toNat)) 7).isInt .i64 then (if (ce (ro a0_1 (((v_1).toInt).toNat)) 8).isSl 2 then ((F24.P ((ce (ro a0_1 (((v_1).toInt).toNat)) 0).toStr) ((ce (ro a0_1 (((v_1).toInt).toNat)) 1).toStr) ((ce (ro a0_1 (((v_1).toInt).toNat)) 2).toInt) ((ce (ro a0_1 (((v_1).toInt).toNat)) 3).toBool) ((ce (ro a0_1 (((v_1).toInt).toNat)) 4).toInt) ((ce (ro a0_1 (((v_1).toInt).toNat)) 5).toInt) ((ce (ro a0_1 (((v_1).toInt).toNat)) 6).toStr) ((ce (ro a0_1 (((v_1).toInt).toNat)) 7).toInt) ((ce (ro a0_1 (((v_1).toInt).toNat)) 8).slXs) a2).bind fun v_3 =>
 if (v_3).isBool then (if (v_3).toBool then
 (some (.tup [.agg [.str (⟨#[]⟩ : ByteArray), .str (⟨#[]⟩ : ByteArray), .int .i64 0, .bool false, .int .i64 0, .int .i64 0, .str (⟨#[]⟩ : ByteArray), .int .i64 0, .nilsl], .bool false]))
 else
 (if leI 0 ((v_1).toInt) then (if ltI ((v_1).toInt) (lenI a0_1) then (if (ce (ro a0_1 (((v_1).toInt).toNat)) 0).isStr then (if (ce (ro a0_1 (((v_1).toInt).toNat)) 1).isStr then (if (ce (ro a0_1 (((v_1).toInt).toNat)) 2).isInt .i64 then (if (ce (ro a0_1 (((v_1).toInt).toNat)) 3).isBool then (if (ce (ro a0_1 (((v_1).toInt).toNat)) 4).isInt .i64 then (if (ce (ro a0_1 (((v_1).toInt).toNat)) 5).isInt .i64 then (if (ce (ro a0_1 (((v_1).toInt).toNat)) 6).isStr then (if (ce (ro a0_1 (((v_1).toInt).toNat)) 7).isInt .i64 then (if (ce (ro a0_1 (((v_1).toInt).toNat)) 8).isSl 2 then some (.tup [.agg [.str ((ce (ro a0_1 (((v_1).toInt).toNat)) 0).toStr), .str ((ce (ro a0_1 (((v_1).toInt).toNat)) 1).toStr), .int .i64 ((ce (ro a0_1 (((v_1).toInt).toNat)) 2).toInt), .bool ((ce (ro a0_1 (((v_1).toInt).toNat)) 3).toBool), .int .i64 ((ce (ro a0_1 (((v_1).toInt).toNat)) 4).toInt), .int .i64 ((ce (ro a0_1 (((v_1).toInt).toNat)) 5).toInt), .str ((ce (ro a0_1 (((v_1).toInt).toNat)) 6).toStr), .int .i64 ((ce (ro a0_1 (((v_1).toInt).toNat)) 7).toInt), .sl 0 2 ((ce (ro a0_1 (((v_1).toInt).toNat)) 8).slXs)], .bool true]) else none) else none) else none) else none) else none) else none) else none) else none) else none) else none) else none)) else none) else none) else none) else none) else none) else none) else none) else none) else none) else none) else none) else none)) else none
theorem ok {a0_0 : Int} {a0_1 : List (List AV)} {a1 : ByteArray} {a2 : Int} {v : AV} (h : P a0_0 a0_1 a1 a2 = some v) {H : Heap} {Q : Qt} (hQ : ∀ H, Q v H) : C 23 [.agg [.int .i64 a0_0, .sl 0 9 a0_1], .str a1, .int .i64 a2] H Q := by
  refine call ?_
  unfold t
  unfold P at h
  revert h
  repeat' first | exact lsV hQ | exact lsF | apply lsG | apply lsC | refine impP (F24.ls fun _ _ => ?_) | refine impP (F46.ls fun _ _ => ?_)
theorem ls {a0_0 : Int} {a0_1 : List (List AV)} {a1 : ByteArray} {a2 : Int} {β : Type} {r : β} {H : Heap} {k : AV → Option β} {K : Qt} (h : ∀ w H, k w = some r → K w H) : (P a0_0 a0_1 a1 a2).bind k = some r → C 23 [.agg [.int .i64 a0_0, .sl 0 9 a0_1], .str a1, .int .i64 a2] H K := fun e => bind_ls (Cq := fun K => C 23 [.agg [.int .i64 a0_0, .sl 0 9 a0_1], .str a1, .int .i64 a2] H K) (fun h => ok h) h e
end F23
namespace F26
inductive LS where
  | l0 (x5i : Int)
noncomputable def PL (a0 a1 : List (List AV)) : Nat → LS → Option AV
 | 0, _ => none
 | fu + 1, .l0 x5i =>
 if ltI x5i (lenI a0) then
 (if leI 0 x5i then (if ltI x5i (lenI a0) then (if (ce (ro a0 x5i.toNat) 0).isStr then (if (ce (ro a0 x5i.toNat) 1).isStr then (if (ce (ro a0 x5i.toNat) 2).isInt .i64 then (if (ce (ro a0 x5i.toNat) 3).isBool then (if (ce (ro a0 x5i.toNat) 4).isInt .i64 then (if (ce (ro a0 x5i.toNat) 5).isInt .i64 then (if (ce (ro a0 x5i.toNat) 6).isStr then (if (ce (ro a0 x5i.toNat) 7).isInt .i64 then (if (ce (ro a0 x5i.toNat) 8).isSl 2 then (if leI 0 x5i then (if ltI x5i (lenI a1) then (if (ce (ro a1 x5i.toNat) 0).isStr then (if (ce (ro a1 x5i.toNat) 1).isStr then (if (ce (ro a1 x5i.toNat) 2).isInt .i64 then (if (ce (ro a1 x5i.toNat) 3).isBool then (if (ce (ro a1 x5i.toNat) 4).isInt .i64 then (if (ce (ro a1 x5i.toNat) 5).isInt .i64 then (if (ce (ro a1 x5i.toNat) 6).isStr then (if (ce (ro a1 x5i.toNat) 7).isInt .i64 then (if (ce (ro a1 x5i.toNat) 8).isSl 2 then ((F18.P ((ce (ro a0 x5i.toNat) 0).toStr) ((ce (ro a0 x5i.toNat) 1).toStr) ((ce (ro a0 x5i.toNat) 2).toInt) ((ce (ro a0 x5i.toNat) 3).toBool) ((ce (ro a0 x5i.toNat) 4).toInt) ((ce (ro a0 x5i.toNat) 5).toInt) ((ce (ro a0 x5i.toNat) 6).toStr) ((ce (ro a0 x5i.toNat) 7).toInt) ((ce (ro a0 x5i.toNat) 8).slXs) ((ce (ro a1 x5i.toNat) 0).toStr) ((ce (ro a1 x5i.toNat) 1).toStr) ((ce (ro a1 x5i.toNat) 2).toInt) ((ce (ro a1 x5i.toNat) 3).toBool) ((ce (ro a1 x5i.toNat) 4).toInt) ((ce (ro a1 x5i.toNat) 5).toInt) ((ce (ro a1 x5i.toNat) 6).toStr) ((ce (ro a1 x5i.toNat) 7).toInt) ((ce (ro a1 x5i.toNat) 8).slXs)).bind fun v_1 =>
 if (v_1).isBool then (if !((v_1).toBool) then
 (some (.bool false))
 else
 (PL a0 a1 fu (.l0 (addW .i64 x5i 1)))) else none) else none) else none) else none) else none) else none) else none) else none) else none) else none) else none) else none) else none) else none) else none) else none) else none) else none) else none) else none) else none) else none) else none)
 else
 (some (.bool true))
noncomputable def P (a0 a1 : List (List AV)) : Option AV := lim fun fu =>
 if !(eqI (lenI a0) (lenI a1)) then
 (some (.bool false))
 else
 (PL a0 a1 fu (.l0 0))
theorem PL_ok {a0 a1 : List (List AV)} {Q : Qt} {v : AV} (hQ : ∀ H, Q v H) : ∀ (fu : Nat) (s : LS) (H : Heap), PL a0 a1 fu s = some v → match s with | .l0 x5i => L0 a0 a1 Q x5i H := by
  intro fu
  induction fu with
  | zero => intro s H h; exact absurd h (by cases s <;> simp only [PL] <;> exact nofun)
  | succ fu ih =>
    intro s H
    cases s with
    | l0 x5i =>
      show PL a0 a1 (fu + 1) (.l0 x5i) = some v → L0 a0 a1 Q x5i H
      rw [PL]
      refine fun h => L0_step (?_ : r0 a0 a1 Q x5i H)
      revert h
      unfold r0
      repeat' first | exact lsV hQ | exact lsF | apply lsG | apply lsC | refine impP (F18.ls fun _ _ => ?_) | exact fun h => ih _ _ h
theorem ok {a0 a1 : List (List AV)} {v : AV} (h : P a0 a1 = some v) {H : Heap} {Q : Qt} (hQ : ∀ H, Q v H) : C 26 [.sl 0 9 a0, .sl 0 9 a1] H Q := by
  refine call ?_
  unfold t
  unfold P at h
  obtain ⟨fu, h⟩ := lim_some h
  revert h
  repeat' first | exact lsV hQ | exact lsF | apply lsG | apply lsC | exact fun h => PL_ok hQ _ _ _ h
theorem ls {a0 a1 : List (List AV)} {β : Type} {r : β} {H : Heap} {k : AV → Option β} {K : Qt} (h : ∀ w H, k w = some r → K w H) : (P a0 a1).bind k = some r → C 26 [.sl 0 9 a0, .sl 0 9 a1] H K := fun e => bind_ls (Cq := fun K => C 26 [.sl 0 9 a0, .sl 0 9 a1] H K) (fun h => ok h) h e
end F26
namespace F28
inductive LS where
  | l0 (x7out : List (List AV)) (x8i : Int)
noncomputable def PL (a0_0 : Int) (a0_1 : List (List AV)) (a1 : ByteArray) (a2 : Int) : Nat → LS → Option AV
 | 0, _ => none
 | fu + 1, .l0 x7out x8i =>
 if ltI x8i (lenI a0_1) then
 (if leI 0 x8i then (if ltI x8i (lenI a0_1) then (if (ce (ro a0_1 x8i.toNat) 0).isStr then (if (ce (ro a0_1 x8i.toNat) 1).isStr then (if (ce (ro a0_1 x8i.toNat) 2).isInt .i64 then (if (ce (ro a0_1 x8i.toNat) 3).isBool then (if (ce (ro a0_1 x8i.toNat) 4).isInt .i64 then (if (ce (ro a0_1 x8i.toNat) 5).isInt .i64 then (if (ce (ro a0_1 x8i.toNat) 6).isStr then (if (ce (ro a0_1 x8i.toNat) 7).isInt .i64 then (if (ce (ro a0_1 x8i.toNat) 8).isSl 2 then ((F24.P ((ce (ro a0_1 x8i.toNat) 0).toStr) ((ce (ro a0_1 x8i.toNat) 1).toStr) ((ce (ro a0_1 x8i.toNat) 2).toInt) ((ce (ro a0_1 x8i.toNat) 3).toBool) ((ce (ro a0_1 x8i.toNat) 4).toInt) ((ce (ro a0_1 x8i.toNat) 5).toInt) ((ce (ro a0_1 x8i.toNat) 6).toStr) ((ce (ro a0_1 x8i.toNat) 7).toInt) ((ce (ro a0_1 x8i.toNat) 8).slXs) a2).bind fun v_1 =>
 if (v_1).isBool then (if !((v_1).toBool) then
 (if leI 0 x8i then (if ltI x8i (lenI a0_1) then (if (ce (ro a0_1 x8i.toNat) 0).isStr then ((F19.P a1 ((ce (ro a0_1 x8i.toNat) 0).toStr)).bind fun v_3 =>
 if (v_3).isBool then (if (v_3).toBool then
 (if leI 0 x8i then (if ltI x8i (lenI a0_1) then (if (ce (ro a0_1 x8i.toNat) 0).isStr then (if (ce (ro a0_1 x8i.toNat) 1).isStr then (if (ce (ro a0_1 x8i.toNat) 2).isInt .i64 then (if (ce (ro a0_1 x8i.toNat) 3).isBool then (if (ce (ro a0_1 x8i.toNat) 4).isInt .i64 then (if (ce (ro a0_1 x8i.toNat) 5).isInt .i64 then (if (ce (ro a0_1 x8i.toNat) 6).isStr then (if (ce (ro a0_1 x8i.toNat) 7).isInt .i64 then (if (ce (ro a0_1 x8i.toNat) 8).isSl 2 then (if room x7out [[.str ((ce (ro a0_1 x8i.toNat) 0).toStr), .str ((ce (ro a0_1 x8i.toNat) 1).toStr), .int .i64 ((ce (ro a0_1 x8i.toNat) 2).toInt), .bool ((ce (ro a0_1 x8i.toNat) 3).toBool), .int .i64 ((ce (ro a0_1 x8i.toNat) 4).toInt), .int .i64 ((ce (ro a0_1 x8i.toNat) 5).toInt), .str ((ce (ro a0_1 x8i.toNat) 6).toStr), .int .i64 ((ce (ro a0_1 x8i.toNat) 7).toInt), .sl 0 2 ((ce (ro a0_1 x8i.toNat) 8).slXs)]] 112 then PL a0_0 a0_1 a1 a2 fu (.l0 (x7out ++ [[.str ((ce (ro a0_1 x8i.toNat) 0).toStr), .str ((ce (ro a0_1 x8i.toNat) 1).toStr), .int .i64 ((ce (ro a0_1 x8i.toNat) 2).toInt), .bool ((ce (ro a0_1 x8i.toNat) 3).toBool), .int .i64 ((ce (ro a0_1 x8i.toNat) 4).toInt), .int .i64 ((ce (ro a0_1 x8i.toNat) 5).toInt), .str ((ce (ro a0_1 x8i.toNat) 6).toStr), .int .i64 ((ce (ro a0_1 x8i.toNat) 7).toInt), .sl 0 2 ((ce (ro a0_1 x8i.toNat) 8).slXs)]]) (addW .i64 x8i 1)) else none) else none) else none) else none) else none) else none) else none) else none) else none) else none) else none) else none)
 else
 (PL a0_0 a0_1 a1 a2 fu (.l0 x7out (addW .i64 x8i 1)))) else none) else none) else none) else none)
 else
 (PL a0_0 a0_1 a1 a2 fu (.l0 x7out (addW .i64 x8i 1)))) else none) else none) else none) else none) else none) else none) else none) else none) else none) else none) else none) else none)
 else
 (some (.sl 0 9 x7out))
noncomputable def P (a0_0 : Int) (a0_1 : List (List AV)) (a1 : ByteArray) (a2 : Int) : Option AV := lim fun fu =>
 PL a0_0 a0_1 a1 a2 fu (.l0 [] 0)
theorem PL_ok {a0_0 : Int} {a0_1 : List (List AV)} {a1 : ByteArray} {a2 : Int} {Q : Qt} {v : AV} (hQ : ∀ H, Q v H) : ∀ (fu : Nat) (s : LS) (H : Heap), PL a0_0 a0_1 a1 a2 fu s = some v → match s with | .l0 x7out x8i => L0 a0_0 a0_1 a1 a2 Q x7out x8i H := by
  intro fu
  induction fu with
  | zero => intro s H h; exact absurd h (by cases s <;> simp only [PL] <;> exact nofun)
  | succ fu ih =>
    intro s H
    cases s with
    | l0 x7out x8i =>
      show PL a0_0 a0_1 a1 a2 (fu + 1) (.l0 x7out x8i) = some v → L0 a0_0 a0_1 a1 a2 Q x7out x8i H
      rw [PL]
      refine fun h => L0_step (?_ : r0 a0_0 a0_1 a1 a2 Q x7out x8i H)
      revert h
      unfold r0
      repeat' first | exact lsV hQ | exact lsF | apply lsG | apply lsC | refine impP (F19.ls fun _ _ => ?_) | refine impP (F24.ls fun _ _ => ?_) | exact fun h => ih _ _ h
theorem ok {a0_0 : Int} {a0_1 : List (List AV)} {a1 : ByteArray} {a2 : Int} {v : AV} (h : P a0_0 a0_1 a1 a2 = some v) {H : Heap} {Q : Qt} (hQ : ∀ H, Q v H) : C 28 [.agg [.int .i64 a0_0, .sl 0 9 a0_1], .str a1, .int .i64 a2] H Q := by
  refine call ?_
  unfold t
  unfold P at h
  obtain ⟨fu, h⟩ := lim_some h
  revert h
  repeat' first | exact lsV hQ | exact lsF | apply lsG | apply lsC | exact fun h => PL_ok hQ _ _ _ h
theorem ls {a0_0 : Int} {a0_1 : List (List AV)} {a1 : ByteArray} {a2 : Int} {β : Type} {r : β} {H : Heap} {k : AV → Option β} {K : Qt} (h : ∀ w H, k w = some r → K w H) : (P a0_0 a0_1 a1 a2).bind k = some r → C 28 [.agg [.int .i64 a0_0, .sl 0 9 a0_1], .str a1, .int .i64 a2] H K := fun e => bind_ls (Cq := fun K => C 28 [.agg [.int .i64 a0_0, .sl 0 9 a0_1], .str a1, .int .i64 a2] H K) (fun h => ok h) h e
end F28
namespace F30
noncomputable def P (a0 : Int) : Option AV :=
 if ltI a0 0 then
 (some (.int .i64 0))
 else
 (some (.int .i64 a0))
theorem ok {a0 : Int} {v : AV} (h : P a0 = some v) {H : Heap} {Q : Qt} (hQ : ∀ H, Q v H) : C 30 [.int .i64 a0] H Q := by
  refine call ?_
  unfold t
  unfold P at h
  revert h
  repeat' first | exact lsV hQ | exact lsF | apply lsG | apply lsC
end F30
namespace F31
noncomputable def P (a0_0 : Int) (a0_1 : List (List AV)) (a1 : Int) : Option AV :=
 (F47.P a0_1 a1).bind fun v_1 =>
 if (v_1).isSl 9 then (some (.tup [.agg [.int .i64 a0_0, .sl 0 9 ((v_1).slXs)], .int .i64 (subW .i64 (lenI a0_1) (lenI ((v_1).slXs)))])) else none
theorem ok {a0_0 : Int} {a0_1 : List (List AV)} {a1 : Int} {v : AV} (h : P a0_0 a0_1 a1 = some v) {H : Heap} {Q : Qt} (hQ : ∀ H, Q v H) : C 31 [.agg [.int .i64 a0_0, .sl 0 9 a0_1], .int .i64 a1] H Q := by
  refine call ?_
  unfold t
  unfold P at h
  revert h
  repeat' first | exact lsV hQ | exact lsF | apply lsG | apply lsC | refine lsAnds ?_ | refine impP (F47.ls fun _ _ => ?_)
theorem ls {a0_0 : Int} {a0_1 : List (List AV)} {a1 : Int} {β : Type} {r : β} {H : Heap} {k : AV → Option β} {K : Qt} (h : ∀ w H, k w = some r → K w H) : (P a0_0 a0_1 a1).bind k = some r → C 31 [.agg [.int .i64 a0_0, .sl 0 9 a0_1], .int .i64 a1] H K := fun e => bind_ls (Cq := fun K => C 31 [.agg [.int .i64 a0_0, .sl 0 9 a0_1], .int .i64 a1] H K) (fun h => ok h) h e
end F31
namespace F32
noncomputable def P (a0_0 a0_1 : ByteArray) (a0_2 : Int) (a0_3 : Bool) (a0_4 a0_5 : Int) (a0_6 : ByteArray) (a0_7 : Int) (a0_8 : List (List AV)) (a1 : Int) : Option AV :=
 if !(eqI a0_5 0) then
 (some (.bool (leI a0_5 a1)))
 else
 (some (.bool false))
theorem ok {a0_0 a0_1 : ByteArray} {a0_2 : Int} {a0_3 : Bool} {a0_4 a0_5 : Int} {a0_6 : ByteArray} {a0_7 : Int} {a0_8 : List (List AV)} {a1 : Int} {v : AV} (h : P a0_0 a0_1 a0_2 a0_3 a0_4 a0_5 a0_6 a0_7 a0_8 a1 = some v) {H : Heap} {Q : Qt} (hQ : ∀ H, Q v H) : C 32 [.agg [.str a0_0, .str a0_1, .int .i64 a0_2, .bool a0_3, .int .i64 a0_4, .int .i64 a0_5, .str a0_6, .int .i64 a0_7, .sl 0 2 a0_8], .int .i64 a1] H Q := by
  refine call ?_
  unfold t
  unfold P at h
  revert h
  repeat' first | exact lsV hQ | exact lsF | apply lsG | apply lsC
end F32
namespace F93
noncomputable def P (a0 a1 : ByteArray) : Option AV :=
 (IdxP.P [.str a0, .str a1]).bind fun v_1 =>
 if (v_1).isInt .i64 then some (.int .i64 ((v_1).toInt)) else none
theorem ok {a0 a1 : ByteArray} {v : AV} (h : P a0 a1 = some v) {H : Heap} {Q : Qt} (hQ : ∀ H, Q v H) : C 93 [.str a0, .str a1] H Q := by
  refine call ?_
  unfold t
  unfold P at h
  revert h
  repeat' first | exact lsV hQ | exact lsF | apply lsG | apply lsC | refine impP (IdxP.ls fun _ _ => ?_)
theorem ls {a0 a1 : ByteArray} {β : Type} {r : β} {H : Heap} {k : AV → Option β} {K : Qt} (h : ∀ w H, k w = some r → K w H) : (P a0 a1).bind k = some r → C 93 [.str a0, .str a1] H K := fun e => bind_ls (Cq := fun K => C 93 [.str a0, .str a1] H K) (fun h => ok h) h e
end F93
namespace F85
inductive LS where
  | l0 (x0s : ByteArray) (x3n : Int) (x9a : List (List AV)) (x10i : Int)
noncomputable def PL (a0 a1 : ByteArray) (a2 a3 : Int) : Nat → LS → Option AV
 | 0, _ => none
 | fu + 1, .l0 x0s x3n x9a x10i =>
 if ltI x10i x3n then
 ((F93.P x0s a1).bind fun v_5 =>
 if (v_5).isInt .i64 then (if ltI ((v_5).toInt) 0 then
 (if leI 0 x10i then (if ltI x10i (lenI x9a) then (if leI 0 (addW .i64 x10i 1) then (if leI (addW .i64 x10i 1) (addW .i64 x10i 1) then (if leI (addW .i64 x10i 1) (lenI (x9a.set x10i.toNat ((ro x9a x10i.toNat).set 0 (.str x0s)))) then some (.sl 0 1 (((x9a.set x10i.toNat ((ro x9a x10i.toNat).set 0 (.str x0s))).take ((addW .i64 x10i 1).toNat)).drop 0)) else none) else none) else none) else none) else none)
 else
 (if leI 0 (addW .i64 ((v_5).toInt) a2) then (if leI (addW .i64 ((v_5).toInt) a2) (sizeI x0s) then (if leI 0 x10i then (if ltI x10i (lenI x9a) then (if leI 0 (addW .i64 ((v_5).toInt) (sizeI a1)) then (if leI (addW .i64 ((v_5).toInt) (sizeI a1)) (sizeI x0s) then (if leI (sizeI x0s) (sizeI x0s) then PL a0 a1 a2 a3 fu (.l0 (x0s.extract ((addW .i64 ((v_5).toInt) (sizeI a1)).toNat) ((sizeI x0s).toNat)) x3n (x9a.set x10i.toNat ((ro x9a x10i.toNat).set 0 (.str (x0s.extract 0 ((addW .i64 ((v_5).toInt) a2).toNat))))) (addW .i64 x10i 1)) else none) else none) else none) else none) else none) else none) else none)) else none)
 else
 (if leI 0 x10i then (if ltI x10i (lenI x9a) then (if leI 0 (addW .i64 x10i 1) then (if leI (addW .i64 x10i 1) (addW .i64 x10i 1) then (if leI (addW .i64 x10i 1) (lenI (x9a.set x10i.toNat ((ro x9a x10i.toNat).set 0 (.str x0s)))) then some (.sl 0 1 (((x9a.set x10i.toNat ((ro x9a x10i.toNat).set 0 (.str x0s))).take ((addW .i64 x10i 1).toNat)).drop 0)) else none) else none) else none) else none) else none)
noncomputable def P (a0 a1 : ByteArray) (a2 a3 : Int) : Option AV := lim fun fu =>
 if eqI a3 0 then
 (some (.nilsl))
 else
 (if eqS a1 (⟨#[]⟩ : ByteArray) then
 ((Dum91.P [.str a0, .int .i64 a3]).bind fun v_1 =>
 if (v_1).isSl 1 then some (.sl 0 1 ((v_1).slXs)) else none)
 else
 (if ltI a3 0 then
 ((CntP.P [.str a0, .str a1]).bind fun v_3 =>
 if (v_3).isInt .i64 then (if leI 0 (cond (ltI (addW .i64 (sizeI a0) 1) (addW .i64 ((v_3).toInt) 1)) (addW .i64 (sizeI a0) 1) (addW .i64 ((v_3).toInt) 1)) then (if eqI (cond (ltI (addW .i64 (sizeI a0) 1) (addW .i64 ((v_3).toInt) 1)) (addW .i64 (sizeI a0) 1) (addW .i64 ((v_3).toInt) 1)) (cond (ltI (addW .i64 (sizeI a0) 1) (addW .i64 ((v_3).toInt) 1)) (addW .i64 (sizeI a0) 1) (addW .i64 ((v_3).toInt) 1)) then (if roomN (cond (ltI (addW .i64 (sizeI a0) 1) (addW .i64 ((v_3).toInt) 1)) (addW .i64 (sizeI a0) 1) (addW .i64 ((v_3).toInt) 1)) 16 then PL a0 a1 a2 a3 fu (.l0 a0 (subW .i64 (cond (ltI (addW .i64 (sizeI a0) 1) (addW .i64 ((v_3).toInt) 1)) (addW .i64 (sizeI a0) 1) (addW .i64 ((v_3).toInt) 1)) 1) (List.replicate ((cond (ltI (addW .i64 (sizeI a0) 1) (addW .i64 ((v_3).toInt) 1)) (addW .i64 (sizeI a0) 1) (addW .i64 ((v_3).toInt) 1)).toNat) ([.str (⟨#[]⟩ : ByteArray)] : List AV)) 0) else none) else none) else none) else none)
 else
 (if leI 0 (cond (ltI (addW .i64 (sizeI a0) 1) a3) (addW .i64 (sizeI a0) 1) a3) then (if eqI (cond (ltI (addW .i64 (sizeI a0) 1) a3) (addW .i64 (sizeI a0) 1) a3) (cond (ltI (addW .i64 (sizeI a0) 1) a3) (addW .i64 (sizeI a0) 1) a3) then (if roomN (cond (ltI (addW .i64 (sizeI a0) 1) a3) (addW .i64 (sizeI a0) 1) a3) 16 then PL a0 a1 a2 a3 fu (.l0 a0 (subW .i64 (cond (ltI (addW .i64 (sizeI a0) 1) a3) (addW .i64 (sizeI a0) 1) a3) 1) (List.replicate ((cond (ltI (addW .i64 (sizeI a0) 1) a3) (addW .i64 (sizeI a0) 1) a3).toNat) ([.str (⟨#[]⟩ : ByteArray)] : List AV)) 0) else none) else none) else none)))
theorem PL_ok {a0 a1 : ByteArray} {a2 a3 : Int} {Q : Qt} {v : AV} (hQ : ∀ H, Q v H) : ∀ (fu : Nat) (s : LS) (H : Heap), PL a0 a1 a2 a3 fu s = some v → match s with | .l0 x0s x3n x9a x10i => L0 a0 a1 a2 a3 Q x0s x3n x9a x10i H := by
  intro fu
  induction fu with
  | zero => intro s H h; exact absurd h (by cases s <;> simp only [PL] <;> exact nofun)
  | succ fu ih =>
    intro s H
    cases s with
    | l0 x0s x3n x9a x10i =>
      show PL a0 a1 a2 a3 (fu + 1) (.l0 x0s x3n x9a x10i) = some v → L0 a0 a1 a2 a3 Q x0s x3n x9a x10i H
      rw [PL]
      refine fun h => L0_step (?_ : r0 a0 a1 a2 a3 Q x0s x3n x9a x10i H)
      revert h
      unfold r0
      repeat' first | exact lsV hQ | exact lsF | apply lsG | apply lsC | refine impP (F93.ls fun _ _ => ?_) | exact fun h => ih _ _ h
theorem ok {a0 a1 : ByteArray} {a2 a3 : Int} {v : AV} (h : P a0 a1 a2 a3 = some v) {H : Heap} {Q : Qt} (hQ : ∀ H, Q v H) : C 85 [.str a0, .str a1, .int .i64 a2, .int .i64 a3] H Q := by
  refine call ?_
  unfold t
  unfold P at h
  obtain ⟨fu, h⟩ := lim_some h
  revert h
  repeat' first | exact lsV hQ | exact lsF | apply lsG | apply lsC | refine impP (CntP.ls fun _ _ => ?_) | refine impP (Dum91.ls fun _ _ => ?_) | exact fun h => PL_ok hQ _ _ _ h
theorem ls {a0 a1 : ByteArray} {a2 a3 : Int} {β : Type} {r : β} {H : Heap} {k : AV → Option β} {K : Qt} (h : ∀ w H, k w = some r → K w H) : (P a0 a1 a2 a3).bind k = some r → C 85 [.str a0, .str a1, .int .i64 a2, .int .i64 a3] H K := fun e => bind_ls (Cq := fun K => C 85 [.str a0, .str a1, .int .i64 a2, .int .i64 a3] H K) (fun h => ok h) h e
end F85
namespace F69
noncomputable def P (a0 a1 : ByteArray) : Option AV :=
 (F85.P a0 a1 0 (-1)).bind fun v_1 =>
 if (v_1).isSl 1 then some (.sl 0 1 ((v_1).slXs)) else none
theorem ok {a0 a1 : ByteArray} {v : AV} (h : P a0 a1 = some v) {H : Heap} {Q : Qt} (hQ : ∀ H, Q v H) : C 69 [.str a0, .str a1] H Q := by
  refine call ?_
  unfold t
  unfold P at h
  revert h
  repeat' first | exact lsV hQ | exact lsF | apply lsG | apply lsC | refine impP (F85.ls fun _ _ => ?_)
theorem ls {a0 a1 : ByteArray} {β : Type} {r : β} {H : Heap} {k : AV → Option β} {K : Qt} (h : ∀ w H, k w = some r → K w H) : (P a0 a1).bind k = some r → C 69 [.str a0, .str a1] H K := fun e => bind_ls (Cq := fun K => C 69 [.str a0, .str a1] H K) (fun h => ok h) h e
end F69
namespace F54
noncomputable def P (a0 : ByteArray) : Option AV :=
 (F69.P a0 (⟨#[47]⟩ : ByteArray)).bind fun v_1 =>
 if (v_1).isSl 1 then some (.sl 0 1 ((v_1).slXs)) else none
theorem ok {a0 : ByteArray} {v : AV} (h : P a0 = some v) {H : Heap} {Q : Qt} (hQ : ∀ H, Q v H) : C 54 [.str a0] H Q := by
  refine call ?_
  unfold t
  unfold P at h
  revert h
  repeat' first | exact lsV hQ | exact lsF | apply lsG | apply lsC | refine impP (F69.ls fun _ _ => ?_)
theorem ls {a0 : ByteArray} {β : Type} {r : β} {H : Heap} {k : AV → Option β} {K : Qt} (h : ∀ w H, k w = some r → K w H) : (P a0).bind k = some r → C 54 [.str a0] H K := fun e => bind_ls (Cq := fun K => C 54 [.str a0] H K) (fun h => ok h) h e
end F54
namespace F66
inductive LS where
  | l0 (x3levels : Int) (it0 : Nat)
noncomputable def PL (a0 : ByteArray) : Nat → LS → Option AV
 | 0, _ => none
 | fu + 1, .l0 x3levels it0 =>
 if Nat.blt it0 a0.size then
 (if eqI ((Utf8.decode a0 it0).1 : Int) 0 then
 (some (.bool false))
 else
 (if eqI ((Utf8.decode a0 it0).1 : Int) 47 then
 (PL a0 fu (.l0 (addW .i64 x3levels 1) (it0 + (Utf8.decode a0 it0).2)))
 else
 (PL a0 fu (.l0 x3levels (it0 + (Utf8.decode a0 it0).2)))))
 else
 (some (.bool (leI x3levels 8)))
noncomputable def P (a0 : ByteArray) : Option AV := lim fun fu =>
 if ltI (sizeI a0) 1 then
 (some (.bool false))
 else
 (if ltI 64 (sizeI a0) then
 (some (.bool false))
 else
 (PL a0 fu (.l0 1 0)))
theorem PL_ok {a0 : ByteArray} {Q : Qt} {v : AV} (hQ : ∀ H, Q v H) : ∀ (fu : Nat) (s : LS) (H : Heap), PL a0 fu s = some v → match s with | .l0 x3levels it0 => L0 a0 Q x3levels it0 H := by
  intro fu
  induction fu with
  | zero => intro s H h; exact absurd h (by cases s <;> simp only [PL] <;> exact nofun)
  | succ fu ih =>
    intro s H
    cases s with
    | l0 x3levels it0 =>
      show PL a0 (fu + 1) (.l0 x3levels it0) = some v → L0 a0 Q x3levels it0 H
      rw [PL]
      refine fun h => L0_step (?_ : r0 a0 Q x3levels it0 H)
      revert h
      unfold r0
      repeat' first | exact lsV hQ | exact lsF | apply lsG | apply lsC | exact fun h => ih _ _ h
theorem ok {a0 : ByteArray} {v : AV} (h : P a0 = some v) {H : Heap} {Q : Qt} (hQ : ∀ H, Q v H) : C 66 [.str a0] H Q := by
  refine call ?_
  unfold t
  unfold P at h
  obtain ⟨fu, h⟩ := lim_some h
  revert h
  repeat' first | exact lsV hQ | exact lsF | apply lsG | apply lsC | exact fun h => PL_ok hQ _ _ _ h
theorem ls {a0 : ByteArray} {β : Type} {r : β} {H : Heap} {k : AV → Option β} {K : Qt} (h : ∀ w H, k w = some r → K w H) : (P a0).bind k = some r → C 66 [.str a0] H K := fun e => bind_ls (Cq := fun K => C 66 [.str a0] H K) (fun h => ok h) h e
end F66
namespace F51
inductive LS where
  | l0 (x3levels x15 : List (List AV)) (x16 x17 : Int)
  | l1 (x3levels : List (List AV)) (x5i : Int) (x6level : ByteArray) (x15 : List (List AV)) (x16 x17 : Int) (it0s : ByteArray) (it0 : Nat)
  | lR12 (x3levels : List (List AV)) (x5i : Int) (x6level : ByteArray) (x15 : List (List AV)) (x16 x17 : Int) (x50 : Bool) (it0s : ByteArray) (it0 : Nat)
noncomputable def PL (a0 : ByteArray) : Nat → LS → Option AV
 | 0, _ => none
 | fu + 1, .l0 x3levels x15 x16 x17 =>
 if ltI x17 x16 then
 (if leI 0 x17 then (if ltI x17 (lenI x15) then (if (ce (ro x15 x17.toNat) 0).isStr then PL a0 fu (.l1 x3levels x17 ((ce (ro x15 x17.toNat) 0).toStr) x15 x16 x17 ((ce (ro x15 x17.toNat) 0).toStr) 0) else none) else none) else none)
 else
 (some (.bool true))
 | fu + 1, .l1 x3levels x5i x6level x15 x16 x17 it0s it0 =>
 if Nat.blt it0 it0s.size then
 (if eqI ((Utf8.decode it0s it0).1 : Int) 43 then
 (if !(eqI (sizeI x6level) 1) then
 (PL a0 fu (.lR12 x3levels x5i x6level x15 x16 x17 true it0s (it0 + (Utf8.decode it0s it0).2)))
 else
 (if eqI ((Utf8.decode it0s it0).1 : Int) 35 then
 (if !(eqI (sizeI x6level) 1) then
 (PL a0 fu (.lR12 x3levels x5i x6level x15 x16 x17 true it0s (it0 + (Utf8.decode it0s it0).2)))
 else
 (PL a0 fu (.lR12 x3levels x5i x6level x15 x16 x17 (ltI x5i (subW .i64 (lenI x3levels) 1)) it0s (it0 + (Utf8.decode it0s it0).2))))
 else
 (PL a0 fu (.lR12 x3levels x5i x6level x15 x16 x17 false it0s (it0 + (Utf8.decode it0s it0).2)))))
 else
 (if eqI ((Utf8.decode it0s it0).1 : Int) 35 then
 (if !(eqI (sizeI x6level) 1) then
 (PL a0 fu (.lR12 x3levels x5i x6level x15 x16 x17 true it0s (it0 + (Utf8.decode it0s it0).2)))
 else
 (PL a0 fu (.lR12 x3levels x5i x6level x15 x16 x17 (ltI x5i (subW .i64 (lenI x3levels) 1)) it0s (it0 + (Utf8.decode it0s it0).2))))
 else
 (PL a0 fu (.lR12 x3levels x5i x6level x15 x16 x17 false it0s (it0 + (Utf8.decode it0s it0).2)))))
 else
 (PL a0 fu (.l0 x3levels x15 x16 (addW .i64 x17 1)))
 | fu + 1, .lR12 x3levels x5i x6level x15 x16 x17 x50 it0s it0 =>
 if x50 then
 (some (.bool false))
 else
 (PL a0 fu (.l1 x3levels x5i x6level x15 x16 x17 it0s it0))
noncomputable def P (a0 : ByteArray) : Option AV := lim fun fu =>
 (F66.P a0).bind fun v_1 =>
 if (v_1).isBool then (if !((v_1).toBool) then
 (some (.bool false))
 else
 ((F54.P a0).bind fun v_3 =>
 if (v_3).isSl 1 then PL a0 fu (.l0 ((v_3).slXs) ((v_3).slXs) (lenI ((v_3).slXs)) 0) else none)) else none
theorem PL_ok {a0 : ByteArray} {Q : Qt} {v : AV} (hQ : ∀ H, Q v H) : ∀ (fu : Nat) (s : LS) (H : Heap), PL a0 fu s = some v → match s with | .l0 x3levels x15 x16 x17 => L0 a0 Q x3levels x15 x16 x17 H | .l1 x3levels x5i x6level x15 x16 x17 it0s it0 => L1 a0 Q x3levels x5i x6level x15 x16 x17 it0s it0 H | .lR12 x3levels x5i x6level x15 x16 x17 x50 it0s it0 => JR12 a0 Q x3levels x5i x6level x15 x16 x17 x50 it0s it0 H := by
  intro fu
  induction fu with
  | zero => intro s H h; exact absurd h (by cases s <;> simp only [PL] <;> exact nofun)
  | succ fu ih =>
    intro s H
    cases s with
    | l0 x3levels x15 x16 x17 =>
      show PL a0 (fu + 1) (.l0 x3levels x15 x16 x17) = some v → L0 a0 Q x3levels x15 x16 x17 H
      rw [PL]
      refine fun h => L0_step (?_ : r0 a0 Q x3levels x15 x16 x17 H)
      revert h
      unfold r0
      repeat' first | exact lsV hQ | exact lsF | apply lsG | apply lsC | exact fun h => ih _ _ h
    | l1 x3levels x5i x6level x15 x16 x17 it0s it0 =>
      show PL a0 (fu + 1) (.l1 x3levels x5i x6level x15 x16 x17 it0s it0) = some v → L1 a0 Q x3levels x5i x6level x15 x16 x17 it0s it0 H
      rw [PL]
      refine fun h => L1_step (?_ : r1 a0 Q x3levels x5i x6level x15 x16 x17 it0s it0 H)
      revert h
      unfold r1
      repeat' first | exact lsV hQ | exact lsF | apply lsG | apply lsC | exact fun h => ih _ _ h
    | lR12 x3levels x5i x6level x15 x16 x17 x50 it0s it0 =>
      show PL a0 (fu + 1) (.lR12 x3levels x5i x6level x15 x16 x17 x50 it0s it0) = some v → JR12 a0 Q x3levels x5i x6level x15 x16 x17 x50 it0s it0 H
      rw [PL]
      refine fun h => JR12_step (?_ : jR12 a0 Q x3levels x5i x6level x15 x16 x17 x50 it0s it0 H)
      revert h
      unfold jR12
      repeat' first | exact lsV hQ | exact lsF | apply lsG | apply lsC | exact fun h => ih _ _ h
theorem ok {a0 : ByteArray} {v : AV} (h : P a0 = some v) {H : Heap} {Q : Qt} (hQ : ∀ H, Q v H) : C 51 [.str a0] H Q := by
  refine call ?_
  unfold t
  unfold P at h
  obtain ⟨fu, h⟩ := lim_some h
  revert h
  repeat' first | exact lsV hQ | exact lsF | apply lsG | apply lsC | refine impP (F54.ls fun _ _ => ?_) | refine impP (F66.ls fun _ _ => ?_) | exact fun h => PL_ok hQ _ _ _ h
theorem ls {a0 : ByteArray} {β : Type} {r : β} {H : Heap} {k : AV → Option β} {K : Qt} (h : ∀ w H, k w = some r → K w H) : (P a0).bind k = some r → C 51 [.str a0] H K := fun e => bind_ls (Cq := fun K => C 51 [.str a0] H K) (fun h => ok h) h e
end F51
namespace F52
inductive LS where
  | l0 (it0 : Nat)
noncomputable def PL (a0 : ByteArray) : Nat → LS → Option AV
 | 0, _ => none
 | fu + 1, .l0 it0 =>
 if Nat.blt it0 a0.size then
 (if eqI ((Utf8.decode a0 it0).1 : Int) 43 then
 (some (.bool false))
 else
 (if eqI ((Utf8.decode a0 it0).1 : Int) 35 then
 (some (.bool false))
 else
 (PL a0 fu (.l0 (it0 + (Utf8.decode a0 it0).2)))))
 else
 (some (.bool true))
noncomputable def P (a0 : ByteArray) : Option AV := lim fun fu =>
 (F66.P a0).bind fun v_1 =>
 if (v_1).isBool then (if !((v_1).toBool) then
 (some (.bool false))
 else
 (PL a0 fu (.l0 0))) else none
theorem PL_ok {a0 : ByteArray} {Q : Qt} {v : AV} (hQ : ∀ H, Q v H) : ∀ (fu : Nat) (s : LS) (H : Heap), PL a0 fu s = some v → match s with | .l0 it0 => L0 a0 Q it0 H := by
  intro fu
  induction fu with
  | zero => intro s H h; exact absurd h (by cases s <;> simp only [PL] <;> exact nofun)
  | succ fu ih =>
    intro s H
    cases s with
    | l0 it0 =>
      show PL a0 (fu + 1) (.l0 it0) = some v → L0 a0 Q it0 H
      rw [PL]
      refine fun h => L0_step (?_ : r0 a0 Q it0 H)
      revert h
      unfold r0
      repeat' first | exact lsV hQ | exact lsF | apply lsG | apply lsC | exact fun h => ih _ _ h
theorem ok {a0 : ByteArray} {v : AV} (h : P a0 = some v) {H : Heap} {Q : Qt} (hQ : ∀ H, Q v H) : C 52 [.str a0] H Q := by
  refine call ?_
  unfold t
  unfold P at h
  obtain ⟨fu, h⟩ := lim_some h
  revert h
  repeat' first | exact lsV hQ | exact lsF | apply lsG | apply lsC | refine impP (F66.ls fun _ _ => ?_) | exact fun h => PL_ok hQ _ _ _ h
theorem ls {a0 : ByteArray} {β : Type} {r : β} {H : Heap} {k : AV → Option β} {K : Qt} (h : ∀ w H, k w = some r → K w H) : (P a0).bind k = some r → C 52 [.str a0] H K := fun e => bind_ls (Cq := fun K => C 52 [.str a0] H K) (fun h => ok h) h e
end F52
namespace F67
noncomputable def P (a0 : ByteArray) : Option AV :=
 if eqS a0 (⟨#[43]⟩ : ByteArray) then
 (some (.bool true))
 else
 (some (.bool (eqS a0 (⟨#[35]⟩ : ByteArray))))
theorem ok {a0 : ByteArray} {v : AV} (h : P a0 = some v) {H : Heap} {Q : Qt} (hQ : ∀ H, Q v H) : C 67 [.str a0] H Q := by
  refine call ?_
  unfold t
  unfold P at h
  revert h
  repeat' first | exact lsV hQ | exact lsF | apply lsG | apply lsC
theorem ls {a0 : ByteArray} {β : Type} {r : β} {H : Heap} {k : AV → Option β} {K : Qt} (h : ∀ w H, k w = some r → K w H) : (P a0).bind k = some r → C 67 [.str a0] H K := fun e => bind_ls (Cq := fun K => C 67 [.str a0] H K) (fun h => ok h) h e
end F67
namespace F68
noncomputable def P (a0 : ByteArray) : Option AV :=
 if ltI 0 (sizeI a0) then
 (if ltI 0 (sizeI a0) then some (.bool (eqI (bt a0 0) 36)) else none)
 else
 (some (.bool false))
theorem ok {a0 : ByteArray} {v : AV} (h : P a0 = some v) {H : Heap} {Q : Qt} (hQ : ∀ H, Q v H) : C 68 [.str a0] H Q := by
  refine call ?_
  unfold t
  unfold P at h
  revert h
  repeat' first | exact lsV hQ | exact lsF | apply lsG | apply lsC
theorem ls {a0 : ByteArray} {β : Type} {r : β} {H : Heap} {k : AV → Option β} {K : Qt} (h : ∀ w H, k w = some r → K w H) : (P a0).bind k = some r → C 68 [.str a0] H K := fun e => bind_ls (Cq := fun K => C 68 [.str a0] H K) (fun h => ok h) h e
end F68
namespace F53
noncomputable def P (a0 a1 : ByteArray) : Option AV :=
 (F54.P a0).bind fun v_1 =>
 if (v_1).isSl 1 then (if ltI 0 (lenI ((v_1).slXs)) then (if (ce (ro ((v_1).slXs) 0) 0).isStr then ((F67.P ((ce (ro ((v_1).slXs) 0) 0).toStr)).bind fun v_3 =>
 if (v_3).isBool then (if (v_3).toBool then
 ((F68.P a1).bind fun v_5 =>
 if (v_5).isBool then some (.bool ((v_5).toBool)) else none)
 else
 (some (.bool false))) else none) else none) else none) else none
theorem ok {a0 a1 : ByteArray} {v : AV} (h : P a0 a1 = some v) {H : Heap} {Q : Qt} (hQ : ∀ H, Q v H) : C 53 [.str a0, .str a1] H Q := by
  refine call ?_
  unfold t
  unfold P at h
  revert h
  repeat' first | exact lsV hQ | exact lsF | apply lsG | apply lsC | refine impP (F54.ls fun _ _ => ?_) | refine impP (F67.ls fun _ _ => ?_) | refine impP (F68.ls fun _ _ => ?_)
theorem ls {a0 a1 : ByteArray} {β : Type} {r : β} {H : Heap} {k : AV → Option β} {K : Qt} (h : ∀ w H, k w = some r → K w H) : (P a0 a1).bind k = some r → C 53 [.str a0, .str a1] H K := fun e => bind_ls (Cq := fun K => C 53 [.str a0, .str a1] H K) (fun h => ok h) h e
end F53
namespace F33
inductive LS where
  | lR1 (x21 : Bool)
  | l0 (x5want x6have x26 : List (List AV)) (x27 x28 : Int)
noncomputable def PL (a0 a1 : ByteArray) : Nat → LS → Option AV
 | 0, _ => none
 | fu + 1, .lR1 x21 =>
 if x21 then
 (some (.bool false))
 else
 ((F54.P a0).bind fun v_7 =>
 if (v_7).isSl 1 then ((F54.P a1).bind fun v_9 =>
 if (v_9).isSl 1 then PL a0 a1 fu (.l0 ((v_7).slXs) ((v_9).slXs) ((v_7).slXs) (lenI ((v_7).slXs)) 0) else none) else none)
 | fu + 1, .l0 x5want x6have x26 x27 x28 =>
 if ltI x28 x27 then
 (if leI 0 x28 then (if ltI x28 (lenI x26) then (if (ce (ro x26 x28.toNat) 0).isStr then (if eqS ((ce (ro x26 x28.toNat) 0).toStr) (⟨#[35]⟩ : ByteArray) then
 (some (.bool true))
 else
 (if eqI x28 (lenI x6have) then
 (some (.bool false))
 else
 (if eqS ((ce (ro x26 x28.toNat) 0).toStr) (⟨#[43]⟩ : ByteArray) then
 (PL a0 a1 fu (.l0 x5want x6have x26 x27 (addW .i64 x28 1)))
 else
 (if leI 0 x28 then (if ltI x28 (lenI x6have) then (if (ce (ro x6have x28.toNat) 0).isStr then (if eqS ((ce (ro x26 x28.toNat) 0).toStr) ((ce (ro x6have x28.toNat) 0).toStr) then
 (PL a0 a1 fu (.l0 x5want x6have x26 x27 (addW .i64 x28 1)))
 else
 (some (.bool false))) else none) else none) else none)))) else none) else none) else none)
 else
 (some (.bool (eqI (lenI x5want) (lenI x6have))))
noncomputable def P (a0 a1 : ByteArray) : Option AV := lim fun fu =>
 (F51.P a0).bind fun v_1 =>
 if (v_1).isBool then (if !((v_1).toBool) then
 (PL a0 a1 fu (.lR1 true))
 else
 ((F52.P a1).bind fun v_3 =>
 if (v_3).isBool then (if !((v_3).toBool) then
 (PL a0 a1 fu (.lR1 true))
 else
 ((F53.P a0 a1).bind fun v_5 =>
 if (v_5).isBool then PL a0 a1 fu (.lR1 ((v_5).toBool)) else none)) else none)) else none
theorem PL_ok {a0 a1 : ByteArray} {Q : Qt} {v : AV} (hQ : ∀ H, Q v H) : ∀ (fu : Nat) (s : LS) (H : Heap), PL a0 a1 fu s = some v → match s with | .lR1 x21 => JR1 a0 a1 Q x21 H | .l0 x5want x6have x26 x27 x28 => L0 a0 a1 Q x5want x6have x26 x27 x28 H := by
  intro fu
  induction fu with
  | zero => intro s H h; exact absurd h (by cases s <;> simp only [PL] <;> exact nofun)
  | succ fu ih =>
    intro s H
    cases s with
    | lR1 x21 =>
      show PL a0 a1 (fu + 1) (.lR1 x21) = some v → JR1 a0 a1 Q x21 H
      rw [PL]
      refine fun h => JR1_step (?_ : jR1 a0 a1 Q x21 H)
      revert h
      unfold jR1
      repeat' first | exact lsV hQ | exact lsF | apply lsG | apply lsC | refine impP (F54.ls fun _ _ => ?_) | exact fun h => ih _ _ h
    | l0 x5want x6have x26 x27 x28 =>
      show PL a0 a1 (fu + 1) (.l0 x5want x6have x26 x27 x28) = some v → L0 a0 a1 Q x5want x6have x26 x27 x28 H
      rw [PL]
      refine fun h => L0_step (?_ : r0 a0 a1 Q x5want x6have x26 x27 x28 H)
      revert h
      unfold r0
      repeat' first | exact lsV hQ | exact lsF | apply lsG | apply lsC | exact fun h => ih _ _ h
theorem ok {a0 a1 : ByteArray} {v : AV} (h : P a0 a1 = some v) {H : Heap} {Q : Qt} (hQ : ∀ H, Q v H) : C 33 [.str a0, .str a1] H Q := by
  refine call ?_
  unfold t
  unfold P at h
  obtain ⟨fu, h⟩ := lim_some h
  revert h
  repeat' first | exact lsV hQ | exact lsF | apply lsG | apply lsC | refine impP (F51.ls fun _ _ => ?_) | refine impP (F52.ls fun _ _ => ?_) | refine impP (F53.ls fun _ _ => ?_) | exact fun h => PL_ok hQ _ _ _ h
end F33
namespace F55
noncomputable def P (a0 : List (List AV)) : Option AV :=
 anyB a0 fun b_1 =>
 if b_1 then
 (some (.sl 1 2 []))
 else
 (if room [] a0 32 then some (.sl 1 2 a0) else none)
theorem ok {a0 : List (List AV)} {v : AV} (h : P a0 = some v) {H : Heap} {Q : Qt} (hQ : ∀ H, Q v H) (hQn : v = .sl 1 2 [] → ∀ H, Q .nilsl H) : C 55 [.sl 0 2 a0] H Q := by
  refine call ?_
  unfold t
  unfold P at h
  revert h
  repeat' first | exact lsVn hQn | exact lsV hQ | exact lsF | apply lsG | apply lsC | refine lsAll fun _ => ?_
theorem ls {a0 : List (List AV)} {β : Type} {r : β} {H : Heap} {k : AV → Option β} {K : Qt} (h : ∀ w H, k w = some r → K w H) (h2 : ∀ H, k (.sl 1 2 []) = some r → K .nilsl H) : (P a0).bind k = some r → C 55 [.sl 0 2 a0] H K := fun e => bind_ls2 (Cq := fun K => C 55 [.sl 0 2 a0] H K) (fun {_} h {_} a b => ok h a b) h h2 e
end F55
namespace F34
noncomputable def P (a0_0 a0_1 : ByteArray) (a0_2 : Int) (a0_3 : Bool) (a0_4 a0_5 : Int) (a0_6 : ByteArray) (a0_7 : Int) (a0_8 : List (List AV)) : Option AV :=
 (F55.P a0_8).bind fun v_1 =>
 if (v_1).isOwn 2 then some (.agg [.str a0_0, .str a0_1, .int .i64 a0_2, .bool a0_3, .int .i64 a0_4, .int .i64 a0_5, .str a0_6, .int .i64 a0_7, .sl 0 2 ((v_1).slXs)]) else none
theorem ok {a0_0 a0_1 : ByteArray} {a0_2 : Int} {a0_3 : Bool} {a0_4 a0_5 : Int} {a0_6 : ByteArray} {a0_7 : Int} {a0_8 : List (List AV)} {v : AV} (h : P a0_0 a0_1 a0_2 a0_3 a0_4 a0_5 a0_6 a0_7 a0_8 = some v) {H : Heap} {Q : Qt} (hQ : ∀ H, Q v H) : C 34 [.agg [.str a0_0, .str a0_1, .int .i64 a0_2, .bool a0_3, .int .i64 a0_4, .int .i64 a0_5, .str a0_6, .int .i64 a0_7, .sl 0 2 a0_8]] H Q := by
  refine call ?_
  unfold t
  unfold P at h
  revert h
  repeat' first | exact lsV hQ | exact lsF | apply lsG | apply lsC | refine impP (F55.ls (fun _ _ => ?_) (fun _ => ?_))
end F34
namespace F61
noncomputable def P (a0 a1 : Int) : Option AV :=
 if leI 0 a0 then
 (some (.bool (leI a0 a1)))
 else
 (some (.bool false))
theorem ok {a0 a1 : Int} {v : AV} (h : P a0 a1 = some v) {H : Heap} {Q : Qt} (hQ : ∀ H, Q v H) : C 61 [.int .i64 a0, .int .i64 a1] H Q := by
  refine call ?_
  unfold t
  unfold P at h
  revert h
  repeat' first | exact lsV hQ | exact lsF | apply lsG | apply lsC
theorem ls {a0 a1 : Int} {β : Type} {r : β} {H : Heap} {k : AV → Option β} {K : Qt} (h : ∀ w H, k w = some r → K w H) : (P a0 a1).bind k = some r → C 61 [.int .i64 a0, .int .i64 a1] H K := fun e => bind_ls (Cq := fun K => C 61 [.int .i64 a0, .int .i64 a1] H K) (fun h => ok h) h e
end F61
namespace F62
inductive LS where
  | l0 (it0 : Nat)
noncomputable def PL (a0 : ByteArray) : Nat → LS → Option AV
 | 0, _ => none
 | fu + 1, .l0 it0 =>
 if Nat.blt it0 a0.size then
 (if leI 97 ((Utf8.decode a0 it0).1 : Int) then
 (if !(leI ((Utf8.decode a0 it0).1 : Int) 122) then
 (if eqI (it0 : Int) 0 then
 (some (.bool false))
 else
 (if !(eqI ((Utf8.decode a0 it0).1 : Int) 45) then
 (if ltI ((Utf8.decode a0 it0).1 : Int) 48 then
 (some (.bool false))
 else
 (if ltI 57 ((Utf8.decode a0 it0).1 : Int) then
 (some (.bool false))
 else
 (PL a0 fu (.l0 (it0 + (Utf8.decode a0 it0).2)))))
 else
 (PL a0 fu (.l0 (it0 + (Utf8.decode a0 it0).2)))))
 else
 (PL a0 fu (.l0 (it0 + (Utf8.decode a0 it0).2))))
 else
 (if eqI (it0 : Int) 0 then
 (some (.bool false))
 else
 (if !(eqI ((Utf8.decode a0 it0).1 : Int) 45) then
 (if ltI ((Utf8.decode a0 it0).1 : Int) 48 then
 (some (.bool false))
 else
 (if ltI 57 ((Utf8.decode a0 it0).1 : Int) then
 (some (.bool false))
 else
 (PL a0 fu (.l0 (it0 + (Utf8.decode a0 it0).2)))))
 else
 (PL a0 fu (.l0 (it0 + (Utf8.decode a0 it0).2))))))
 else
 (some (.bool true))
noncomputable def P (a0 : ByteArray) : Option AV := lim fun fu =>
 if ltI (sizeI a0) 1 then
 (some (.bool false))
 else
 (if ltI 16 (sizeI a0) then
 (some (.bool false))
 else
 (PL a0 fu (.l0 0)))
theorem PL_ok {a0 : ByteArray} {Q : Qt} {v : AV} (hQ : ∀ H, Q v H) : ∀ (fu : Nat) (s : LS) (H : Heap), PL a0 fu s = some v → match s with | .l0 it0 => L0 a0 Q it0 H := by
  intro fu
  induction fu with
  | zero => intro s H h; exact absurd h (by cases s <;> simp only [PL] <;> exact nofun)
  | succ fu ih =>
    intro s H
    cases s with
    | l0 it0 =>
      show PL a0 (fu + 1) (.l0 it0) = some v → L0 a0 Q it0 H
      rw [PL]
      refine fun h => L0_step (?_ : r0 a0 Q it0 H)
      revert h
      unfold r0
      repeat' first | exact lsV hQ | exact lsF | apply lsG | apply lsC | exact fun h => ih _ _ h
theorem ok {a0 : ByteArray} {v : AV} (h : P a0 = some v) {H : Heap} {Q : Qt} (hQ : ∀ H, Q v H) : C 62 [.str a0] H Q := by
  refine call ?_
  unfold t
  unfold P at h
  obtain ⟨fu, h⟩ := lim_some h
  revert h
  repeat' first | exact lsV hQ | exact lsF | apply lsG | apply lsC | exact fun h => PL_ok hQ _ _ _ h
theorem ls {a0 : ByteArray} {β : Type} {r : β} {H : Heap} {k : AV → Option β} {K : Qt} (h : ∀ w H, k w = some r → K w H) : (P a0).bind k = some r → C 62 [.str a0] H K := fun e => bind_ls (Cq := fun K => C 62 [.str a0] H K) (fun h => ok h) h e
end F62
namespace F81
inductive LS where
  | l0 (x3i : Int)
  | lR7 (x3i : Int) (x39 : Bool)
noncomputable def PL (a0 : ByteArray) : Nat → LS → Option AV
 | 0, _ => none
 | fu + 1, .l0 x3i =>
 if ltI x3i (sizeI a0) then
 (if leI 0 x3i then (if ltI x3i (sizeI a0) then (if ltI (bt a0 x3i) 97 then
 (if ltI (bt a0 x3i) 48 then
 (PL a0 fu (.lR7 x3i (!(eqI (bt a0 x3i) 45))))
 else
 (if ltI 57 (bt a0 x3i) then
 (PL a0 fu (.lR7 x3i (!(eqI (bt a0 x3i) 45))))
 else
 (PL a0 fu (.lR7 x3i false))))
 else
 (if ltI 122 (bt a0 x3i) then
 (if ltI (bt a0 x3i) 48 then
 (PL a0 fu (.lR7 x3i (!(eqI (bt a0 x3i) 45))))
 else
 (if ltI 57 (bt a0 x3i) then
 (PL a0 fu (.lR7 x3i (!(eqI (bt a0 x3i) 45))))
 else
 (PL a0 fu (.lR7 x3i false))))
 else
 (PL a0 fu (.lR7 x3i false)))) else none) else none)
 else
 (some (.bool true))
 | fu + 1, .lR7 x3i x39 =>
 if x39 then
 (some (.bool false))
 else
 (PL a0 fu (.l0 (addW .i64 x3i 1)))
noncomputable def P (a0 : ByteArray) : Option AV := lim fun fu =>
 if ltI (sizeI a0) 1 then
 (some (.bool false))
 else
 (if ltI 16 (sizeI a0) then
 (some (.bool false))
 else
 (PL a0 fu (.l0 0)))
theorem PL_ok {a0 : ByteArray} {Q : Qt} {v : AV} (hQ : ∀ H, Q v H) : ∀ (fu : Nat) (s : LS) (H : Heap), PL a0 fu s = some v → match s with | .l0 x3i => L0 a0 Q x3i H | .lR7 x3i x39 => JR7 a0 Q x3i x39 H := by
  intro fu
  induction fu with
  | zero => intro s H h; exact absurd h (by cases s <;> simp only [PL] <;> exact nofun)
  | succ fu ih =>
    intro s H
    cases s with
    | l0 x3i =>
      show PL a0 (fu + 1) (.l0 x3i) = some v → L0 a0 Q x3i H
      rw [PL]
      refine fun h => L0_step (?_ : r0 a0 Q x3i H)
      revert h
      unfold r0
      repeat' first | exact lsV hQ | exact lsF | apply lsG | apply lsC | exact fun h => ih _ _ h
    | lR7 x3i x39 =>
      show PL a0 (fu + 1) (.lR7 x3i x39) = some v → JR7 a0 Q x3i x39 H
      rw [PL]
      refine fun h => JR7_step (?_ : jR7 a0 Q x3i x39 H)
      revert h
      unfold jR7
      repeat' first | exact lsV hQ | exact lsF | apply lsG | apply lsC | exact fun h => ih _ _ h
theorem ok {a0 : ByteArray} {v : AV} (h : P a0 = some v) {H : Heap} {Q : Qt} (hQ : ∀ H, Q v H) : C 81 [.str a0] H Q := by
  refine call ?_
  unfold t
  unfold P at h
  obtain ⟨fu, h⟩ := lim_some h
  revert h
  repeat' first | exact lsV hQ | exact lsF | apply lsG | apply lsC | exact fun h => PL_ok hQ _ _ _ h
theorem ls {a0 : ByteArray} {β : Type} {r : β} {H : Heap} {k : AV → Option β} {K : Qt} (h : ∀ w H, k w = some r → K w H) : (P a0).bind k = some r → C 81 [.str a0] H K := fun e => bind_ls (Cq := fun K => C 81 [.str a0] H K) (fun h => ok h) h e
end F81
namespace F63
inductive LS where
  | l0 (x10 : Int)
noncomputable def PL (a0 : List (List AV)) : Nat → LS → Option AV
 | 0, _ => none
 | fu + 1, .l0 x10 =>
 if ltI x10 (lenI a0) then
 (if leI 0 x10 then (if ltI x10 (lenI a0) then (if (ce (ro a0 x10.toNat) 0).isStr then (if (ce (ro a0 x10.toNat) 1).isStr then ((F81.P ((ce (ro a0 x10.toNat) 0).toStr)).bind fun v_1 =>
 if (v_1).isBool then (if !((v_1).toBool) then
 (some (.int .i64 16))
 else
 (if ltI 160 (sizeI ((ce (ro a0 x10.toNat) 1).toStr)) then
 (some (.int .i64 5))
 else
 (if ltI 0 x10 then
 (if leI 0 (subW .i64 x10 1) then (if ltI (subW .i64 x10 1) (lenI a0) then (if (ce (ro a0 ((subW .i64 x10 1).toNat)) 0).isStr then (if !(ltS ((ce (ro a0 ((subW .i64 x10 1).toNat)) 0).toStr) ((ce (ro a0 x10.toNat) 0).toStr)) then
 (some (.int .i64 16))
 else
 (PL a0 fu (.l0 (addW .i64 x10 1)))) else none) else none) else none)
 else
 (PL a0 fu (.l0 (addW .i64 x10 1)))))) else none) else none) else none) else none) else none)
 else
 (some (.int .i64 0))
noncomputable def P (a0 : List (List AV)) : Option AV := lim fun fu =>
 if ltI 8 (lenI a0) then
 (some (.int .i64 5))
 else
 (PL a0 fu (.l0 0))
theorem PL_ok {a0 : List (List AV)} {Q : Qt} {v : AV} (hQ : ∀ H, Q v H) : ∀ (fu : Nat) (s : LS) (H : Heap), PL a0 fu s = some v → match s with | .l0 x10 => L0 a0 Q x10 H := by
  intro fu
  induction fu with
  | zero => intro s H h; exact absurd h (by cases s <;> simp only [PL] <;> exact nofun)
  | succ fu ih =>
    intro s H
    cases s with
    | l0 x10 =>
      show PL a0 (fu + 1) (.l0 x10) = some v → L0 a0 Q x10 H
      rw [PL]
      refine fun h => L0_step (?_ : r0 a0 Q x10 H)
      revert h
      unfold r0
      repeat' first | exact lsV hQ | exact lsF | apply lsG | apply lsC | refine impP (F81.ls fun _ _ => ?_) | exact fun h => ih _ _ h
theorem ok {a0 : List (List AV)} {v : AV} (h : P a0 = some v) {H : Heap} {Q : Qt} (hQ : ∀ H, Q v H) : C 63 [.sl 0 2 a0] H Q := by
  refine call ?_
  unfold t
  unfold P at h
  obtain ⟨fu, h⟩ := lim_some h
  revert h
  repeat' first | exact lsV hQ | exact lsF | apply lsG | apply lsC | exact fun h => PL_ok hQ _ _ _ h
theorem ls {a0 : List (List AV)} {β : Type} {r : β} {H : Heap} {k : AV → Option β} {K : Qt} (h : ∀ w H, k w = some r → K w H) : (P a0).bind k = some r → C 63 [.sl 0 2 a0] H K := fun e => bind_ls (Cq := fun K => C 63 [.sl 0 2 a0] H K) (fun h => ok h) h e
end F63
namespace F49
noncomputable def P (a0_0 a0_1 : ByteArray) (a0_2 : Int) (a0_3 : Bool) (a0_4 a0_5 : Int) (a0_6 : ByteArray) (a0_7 : Int) (a0_8 : List (List AV)) : Option AV :=
 (F52.P a0_0).bind fun v_1 =>
 if (v_1).isBool then (if !((v_1).toBool) then
 (some (.int .i64 12))
 else
 (if ltI 256 (sizeI a0_1) then
 (some (.int .i64 5))
 else
 ((F61.P a0_2 2).bind fun v_3 =>
 if (v_3).isBool then (if !((v_3).toBool) then
 (some (.int .i64 14))
 else
 ((F61.P a0_4 9).bind fun v_5 =>
 if (v_5).isBool then (if !((v_5).toBool) then
 (if !((v_5).toBool) then
 (some (.int .i64 1))
 else
 (if !(eqS a0_6 (⟨#[]⟩ : ByteArray)) then
 ((F62.P a0_6).bind fun v_7 =>
 if (v_7).isBool then (if !((v_7).toBool) then
 (some (.int .i64 11))
 else
 ((F61.P a0_7 1099511627776).bind fun v_9 =>
 if (v_9).isBool then (if !((v_9).toBool) then
 (some (.int .i64 1))
 else
 ((F63.P a0_8).bind fun v_11 =>
 if (v_11).isInt .i64 then some (.int .i64 ((v_11).toInt)) else none)) else none)) else none)
 else
 ((F61.P a0_7 1099511627776).bind fun v_13 =>
 if (v_13).isBool then (if !((v_13).toBool) then
 (some (.int .i64 1))
 else
 ((F63.P a0_8).bind fun v_15 =>
 if (v_15).isInt .i64 then some (.int .i64 ((v_15).toInt)) else none)) else none)))
 else
 ((F61.P a0_5 1099511627776).bind fun v_17 =>
 if (v_17).isBool then (if !((v_17).toBool) then
 (some (.int .i64 1))
 else
 (if !(eqS a0_6 (⟨#[]⟩ : ByteArray)) then
 ((F62.P a0_6).bind fun v_19 =>
 if (v_19).isBool then (if !((v_19).toBool) then
 (some (.int .i64 11))
 else
 ((F61.P a0_7 1099511627776).bind fun v_21 =>
 if (v_21).isBool then (if !((v_21).toBool) then
 (some (.int .i64 1))
 else
 ((F63.P a0_8).bind fun v_23 =>
 if (v_23).isInt .i64 then some (.int .i64 ((v_23).toInt)) else none)) else none)) else none)
 else
 ((F61.P a0_7 1099511627776).bind fun v_25 =>
 if (v_25).isBool then (if !((v_25).toBool) then
 (some (.int .i64 1))
 else
 ((F63.P a0_8).bind fun v_27 =>
 if (v_27).isInt .i64 then some (.int .i64 ((v_27).toInt)) else none)) else none))) else none)) else none)) else none))) else none
theorem ok {a0_0 a0_1 : ByteArray} {a0_2 : Int} {a0_3 : Bool} {a0_4 a0_5 : Int} {a0_6 : ByteArray} {a0_7 : Int} {a0_8 : List (List AV)} {v : AV} (h : P a0_0 a0_1 a0_2 a0_3 a0_4 a0_5 a0_6 a0_7 a0_8 = some v) {H : Heap} {Q : Qt} (hQ : ∀ H, Q v H) : C 49 [.agg [.str a0_0, .str a0_1, .int .i64 a0_2, .bool a0_3, .int .i64 a0_4, .int .i64 a0_5, .str a0_6, .int .i64 a0_7, .sl 0 2 a0_8]] H Q := by
  refine call ?_
  unfold t
  unfold P at h
  revert h
  repeat' first | exact lsV hQ | exact lsF | apply lsG | apply lsC | refine impP (F52.ls fun _ _ => ?_) | refine impP (F61.ls fun _ _ => ?_) | refine impP (F62.ls fun _ _ => ?_) | refine impP (F63.ls fun _ _ => ?_)
end F49
end Go.Proofs.YtgmkkjmdflhbnaaDoor.Ab
end
section
namespace Go.Proofs.YtgmkkjmdflhbnaaDoor.Ab
open Go
def lowN (n : Nat) : Bool := decide (97 ≤ n) && decide (n ≤ 122)
def digN (n : Nat) : Bool := decide (48 ≤ n) && decide (n ≤ 57)
def keyN (n : Nat) : Bool := lowN n || (digN n || decide (n = 45))
def keyL (l : List UInt8) : Bool := l.all fun b => keyN b.toNat
def headL : List UInt8 → Bool
  | [] => true
  | b :: _ => lowN b.toNat
def nameB (s : ByteArray) : Bool := decide (1 ≤ s.size) && (decide (s.size ≤ 16) && (headL (bs s) && keyL (bs s)))
def keyB (s : ByteArray) : Bool := decide (1 ≤ s.size) && (decide (s.size ≤ 16) && keyL (bs s))
theorem key_cases (n : Nat) : (97 ≤ n ∧ n ≤ 122 ∧ keyN n = true ∧ lowN n = true ∧ digN n = false) ∨ (122 < n ∧ keyN n = false ∧ lowN n = false ∧ digN n = false) ∨ (48 ≤ n ∧ n ≤ 57 ∧ keyN n = true ∧ lowN n = false ∧ digN n = true) ∨
    (n = 45 ∧ keyN n = true ∧ lowN n = false ∧ digN n = false) ∨ (n < 48 ∧ n ≠ 45 ∧ keyN n = false ∧ lowN n = false ∧ digN n = false) ∨ (57 < n ∧ n < 97 ∧ keyN n = false ∧ lowN n = false ∧ digN n = false) := by
  simp only [keyN, lowN, digN, Bool.or_eq_true, Bool.and_eq_true, decide_eq_true_eq, Bool.or_eq_false_iff, Bool.and_eq_false_iff, decide_eq_false_iff_not]
  omega
theorem F82.eq (n : Nat) : F82.P (n : Int) = some (.bool (lowN n)) := by
  unfold F82.P
  (simp (disch := first | omega | rfl) only [PS, ite_t, ite_f, ↓bind_s, List.length_cons, List.length_nil, addW_eq, subW_eq, if_pos, if_neg])
  by_cases h : 97 ≤ n
  · rw [if_pos (by omega)]; simp [lowN, leI, h]; omega
  · rw [if_neg (by omega)]; simp [lowN, h]
theorem F83.eq (n : Nat) : F83.P (n : Int) = some (.bool (digN n)) := by
  unfold F83.P
  (simp (disch := first | omega | rfl) only [PS, ite_t, ite_f, ↓bind_s, List.length_cons, List.length_nil, addW_eq, subW_eq, if_pos, if_neg])
  by_cases h : 48 ≤ n
  · rw [if_pos (by omega)]; simp [digN, leI, h]; omega
  · rw [if_neg (by omega)]; simp [digN, h]
theorem bs_pos {s : ByteArray} (h : 1 ≤ s.size) : ∃ b r, bs s = b :: r := by
  cases e : bs s with
  | nil => rw [bs_size, e] at h; simp at h
  | cons b r => exact ⟨b, r, rfl⟩
theorem F64.loop {s : ByteArray} (hs : s.size ≤ 16) : ∀ (post pre : List UInt8), bs s = pre ++ post → Ev (fun n => F64.PL s n (.l0 (pre.length : Int))) (.bool (keyL post))
  | [], pre, h => by
    have hl := len_end h
    refine Ev.succ ?_
    simp only [F64.PL, sizeI_bs]
    (simp (disch := first | omega | rfl) only [PS, ite_t, ite_f, ↓bind_s, List.length_cons, List.length_nil, addW_eq, subW_eq, if_pos, if_neg])
    exact Ev.const
  | b :: post, pre, h => by
    have hl := len_mid h
    have hz : (bs s).length ≤ 16 := by rw [← bs_size]; exact hs
    have ih := F64.loop hs post (pre ++ [b]) (by rw [h]; simp)
    have e1 : (pre.length : Int) + 1 = ((pre ++ [b]).length : Int) := by simp
    refine Ev.succ ?_
    simp only [F64.PL, sizeI_bs, bt_mid h, F82.eq, F83.eq]
    (simp (disch := first | omega | rfl) only [PS, ite_t, ite_f, ↓bind_s, List.length_cons, List.length_nil, addW_eq, subW_eq, if_pos, if_neg])
    rcases key_cases b.toNat with ⟨q1, q2, k1, k2, k3⟩ | ⟨q1, k1, k2, k3⟩ | ⟨q1, q2, k1, k2, k3⟩ | ⟨q1, k1, k2, k3⟩ | ⟨q1, q2, k1, k2, k3⟩ | ⟨q1, q2, k1, k2, k3⟩ <;> simp only [k2, k3, keyL, List.all_cons, k1] <;> (simp (disch := first | omega | rfl) only [PS, ite_t, ite_f, ↓bind_s, List.length_cons, List.length_nil, addW_eq, subW_eq, if_pos, if_neg]) <;> refine Ev.succ ?_ <;> simp only [F64.PL, eqI] <;> (simp (disch := first | omega | rfl) only [PS, ite_t, ite_f, ↓bind_s, List.length_cons, List.length_nil, addW_eq, subW_eq, if_pos, if_neg]) <;>
      first | (rw [e1]; exact ih) | exact Ev.const
theorem F64.eq (s : ByteArray) : F64.P s = some (.bool (nameB s)) := by
  refine lim_eq ?_
  unfold nameB
  by_cases h1 : 1 ≤ s.size
  · by_cases h2 : s.size ≤ 16
    · obtain ⟨b, r, hb⟩ := bs_pos h1
      have e0 : bt s 0 = (b.toNat : Int) := bt_mid (pre := []) hb
      have ih := F64.loop h2 (bs s) [] rfl
      have hz : sizeI s = (s.size : Int) := rfl
      simp only [hz, e0, F82.eq, hb, headL, h1, h2]
      (simp (disch := first | omega | rfl) only [PS, ite_t, ite_f, ↓bind_s, List.length_cons, List.length_nil, addW_eq, subW_eq, if_pos, if_neg])
      refine Ev.succ ?_
      simp only [F64.PL]
      rw [hb] at ih
      cases hl : lowN b.toNat <;> (simp (disch := first | omega | rfl) only [PS, ite_t, ite_f, ↓bind_s, List.length_cons, List.length_nil, addW_eq, subW_eq, if_pos, if_neg])
      · simpa using Ev.const
      · simpa using ih
    · have hz : sizeI s = (s.size : Int) := rfl
      simp only [hz]
      (simp (disch := first | omega | rfl) only [PS, ite_t, ite_f, ↓bind_s, List.length_cons, List.length_nil, addW_eq, subW_eq, if_pos, if_neg])
      refine Ev.succ ?_
      simp only [F64.PL, h2]
      (simp (disch := first | omega | rfl) only [PS, ite_t, ite_f, ↓bind_s, List.length_cons, List.length_nil, addW_eq, subW_eq, if_pos, if_neg])
      simpa using Ev.const
  · have hz : sizeI s = (s.size : Int) := rfl
    simp only [hz]
    (simp (disch := first | omega | rfl) only [PS, ite_t, ite_f, ↓bind_s, List.length_cons, List.length_nil, addW_eq, subW_eq, if_pos, if_neg])
    refine Ev.succ ?_
    simp only [F64.PL, h1]
    (simp (disch := first | omega | rfl) only [PS, ite_t, ite_f, ↓bind_s, List.length_cons, List.length_nil, addW_eq, subW_eq, if_pos, if_neg])
    simpa using Ev.const
theorem F84.loop {s : ByteArray} (hs : s.size ≤ 16) : ∀ (post pre : List UInt8), bs s = pre ++ post → Ev (fun n => F84.PL s n (.l0 (pre.length : Int))) (.bool (keyL post))
  | [], pre, h => by
    have hl := len_end h
    refine Ev.succ ?_
    simp only [F84.PL, sizeI_bs]
    (simp (disch := first | omega | rfl) only [PS, ite_t, ite_f, ↓bind_s, List.length_cons, List.length_nil, addW_eq, subW_eq, if_pos, if_neg])
    exact Ev.const
  | b :: post, pre, h => by
    have hl := len_mid h
    have hz : (bs s).length ≤ 16 := by rw [← bs_size]; exact hs
    have ih := F84.loop hs post (pre ++ [b]) (by rw [h]; simp)
    have e1 : (pre.length : Int) + 1 = ((pre ++ [b]).length : Int) := by simp
    refine Ev.succ ?_
    simp only [F84.PL, sizeI_bs, bt_mid h]
    (simp (disch := first | omega | rfl) only [PS, ite_t, ite_f, ↓bind_s, List.length_cons, List.length_nil, addW_eq, subW_eq, if_pos, if_neg])
    rcases key_cases b.toNat with ⟨q1, q2, k1, k2, k3⟩ | ⟨q1, k1, k2, k3⟩ | ⟨q1, q2, k1, k2, k3⟩ | ⟨q1, k1, k2, k3⟩ | ⟨q1, q2, k1, k2, k3⟩ | ⟨q1, q2, k1, k2, k3⟩ <;> simp only [keyL, List.all_cons, k1] <;> (simp (disch := first | omega | rfl) only [PS, ite_t, ite_f, ↓bind_s, List.length_cons, List.length_nil, addW_eq, subW_eq, if_pos, if_neg]) <;> refine Ev.succ ?_ <;> simp only [F84.PL, eqI] <;> (simp (disch := first | omega | rfl) only [PS, ite_t, ite_f, ↓bind_s, List.length_cons, List.length_nil, addW_eq, subW_eq, if_pos, if_neg]) <;>
      first | (rw [e1]; exact ih) | exact Ev.const
theorem F84.eq (s : ByteArray) : F84.P s = some (.bool (keyB s)) := by
  refine lim_eq ?_
  unfold keyB
  have hz : sizeI s = (s.size : Int) := rfl
  simp only [hz]
  by_cases h1 : 1 ≤ s.size
  · by_cases h2 : s.size ≤ 16
    · simp only [h1, h2]
      (simp (disch := first | omega | rfl) only [PS, ite_t, ite_f, ↓bind_s, List.length_cons, List.length_nil, addW_eq, subW_eq, if_pos, if_neg])
      simpa using F84.loop h2 (bs s) [] rfl
    · simp only [h2]
      (simp (disch := first | omega | rfl) only [PS, ite_t, ite_f, ↓bind_s, List.length_cons, List.length_nil, addW_eq, subW_eq, if_pos, if_neg])
      simpa using Ev.const
  · simp only [h1]
    (simp (disch := first | omega | rfl) only [PS, ite_t, ite_f, ↓bind_s, List.length_cons, List.length_nil, addW_eq, subW_eq, if_pos, if_neg])
    simpa using Ev.const
theorem F81.loop {s : ByteArray} (hs : s.size ≤ 16) : ∀ (post pre : List UInt8), bs s = pre ++ post → Ev (fun n => F81.PL s n (.l0 (pre.length : Int))) (.bool (keyL post))
  | [], pre, h => by
    have hl := len_end h
    refine Ev.succ ?_
    simp only [F81.PL, sizeI_bs]
    (simp (disch := first | omega | rfl) only [PS, ite_t, ite_f, ↓bind_s, List.length_cons, List.length_nil, addW_eq, subW_eq, if_pos, if_neg])
    exact Ev.const
  | b :: post, pre, h => by
    have hl := len_mid h
    have hz : (bs s).length ≤ 16 := by rw [← bs_size]; exact hs
    have ih := F81.loop hs post (pre ++ [b]) (by rw [h]; simp)
    have e1 : (pre.length : Int) + 1 = ((pre ++ [b]).length : Int) := by simp
    refine Ev.succ ?_
    simp only [F81.PL, sizeI_bs, bt_mid h]
    (simp (disch := first | omega | rfl) only [PS, ite_t, ite_f, ↓bind_s, List.length_cons, List.length_nil, addW_eq, subW_eq, if_pos, if_neg])
    rcases key_cases b.toNat with ⟨q1, q2, k1, k2, k3⟩ | ⟨q1, k1, k2, k3⟩ | ⟨q1, q2, k1, k2, k3⟩ | ⟨q1, k1, k2, k3⟩ | ⟨q1, q2, k1, k2, k3⟩ | ⟨q1, q2, k1, k2, k3⟩ <;> simp only [keyL, List.all_cons, k1] <;> (simp (disch := first | omega | rfl) only [PS, ite_t, ite_f, ↓bind_s, List.length_cons, List.length_nil, addW_eq, subW_eq, if_pos, if_neg]) <;> refine Ev.succ ?_ <;> simp only [F81.PL, eqI] <;> (simp (disch := first | omega | rfl) only [PS, ite_t, ite_f, ↓bind_s, List.length_cons, List.length_nil, addW_eq, subW_eq, if_pos, if_neg]) <;>
      first | (rw [e1]; exact ih) | exact Ev.const
theorem F81.eq (s : ByteArray) : F81.P s = some (.bool (keyB s)) := by
  refine lim_eq ?_
  unfold keyB
  have hz : sizeI s = (s.size : Int) := rfl
  simp only [hz]
  by_cases h1 : 1 ≤ s.size
  · by_cases h2 : s.size ≤ 16
    · simp only [h1, h2]
      (simp (disch := first | omega | rfl) only [PS, ite_t, ite_f, ↓bind_s, List.length_cons, List.length_nil, addW_eq, subW_eq, if_pos, if_neg])
      simpa using F81.loop h2 (bs s) [] rfl
    · simp only [h2]
      (simp (disch := first | omega | rfl) only [PS, ite_t, ite_f, ↓bind_s, List.length_cons, List.length_nil, addW_eq, subW_eq, if_pos, if_neg])
      simpa using Ev.const
  · simp only [h1]
    (simp (disch := first | omega | rfl) only [PS, ite_t, ite_f, ↓bind_s, List.length_cons, List.length_nil, addW_eq, subW_eq, if_pos, if_neg])
    simpa using Ev.const
theorem high_key {b : UInt8} (h : 128 ≤ b.toNat) : keyN b.toNat = false ∧ lowN b.toNat = false := by
  rcases key_cases b.toNat with ⟨q1, q2, k1, k2, k3⟩ | ⟨q1, k1, k2, k3⟩ | ⟨q1, q2, k1, k2, k3⟩ | ⟨q1, k1, k2, k3⟩ | ⟨q1, q2, k1, k2, k3⟩ | ⟨q1, q2, k1, k2, k3⟩ <;> first | exact ⟨k1, k2⟩ | omega
theorem F62.loop {s : ByteArray} : ∀ (n i : Nat), n = s.size - i → i ≤ s.size →
    Ev (fun m => F62.PL s m (.l0 i)) (.bool ((decide (i ≠ 0) || headL ((bs s).drop i)) && keyL ((bs s).drop i))) := by
  intro n
  induction n using Nat.strongRecOn with
  | ind n ih =>
    intro i hn hi
    refine Ev.succ ?_
    simp only [F62.PL]
    by_cases hlt : i < s.size
    · have hl : i < (bs s).length := by rw [← bs_size]; exact hlt
      have hd := List.drop_eq_getElem_cons hl
      rw [hd]
      generalize hb : (bs s)[i]'hl = b at hd
      simp only [headL, keyL, List.all_cons]
      by_cases ha : b.toNat < 128
      · rw [decode_at_ascii hlt (by rw [hb]; exact ha), hb]
        simp only
        have ih1 := ih (s.size - (i + 1)) (by omega) (i + 1) rfl (by omega)
        simp only [keyL] at ih1
        rcases key_cases b.toNat with ⟨q1, q2, k1, k2, k3⟩ | ⟨q1, k1, k2, k3⟩ | ⟨q1, q2, k1, k2, k3⟩ | ⟨q1, k1, k2, k3⟩ | ⟨q1, q2, k1, k2, k3⟩ | ⟨q1, q2, k1, k2, k3⟩ <;> simp only [k1, k2] <;> (simp (disch := first | omega | rfl) only [PS, ite_t, ite_f, ↓bind_s, List.length_cons, List.length_nil, addW_eq, subW_eq, if_pos, if_neg]) <;>
          first | (simpa using ih1) | (by_cases h0 : i = 0 <;> (simp (disch := first | omega | rfl) only [PS, ite_t, ite_f, ↓bind_s, List.length_cons, List.length_nil, addW_eq, subW_eq, if_pos, if_neg]) <;> first | (simp [h0]; exact Ev.const) | (simpa [h0] using ih1))
      · obtain ⟨r1, r2, r3, r4⟩ := decode_at_high hlt (by rw [hb]; omega)
        obtain ⟨k1, k2⟩ := high_key (b := b) (by omega)
        simp only [k1, k2]
        (simp (disch := first | omega | rfl) only [PS, ite_t, ite_f, ↓bind_s, List.length_cons, List.length_nil, addW_eq, subW_eq, if_pos, if_neg])
        by_cases h0 : i = 0 <;> (simp (disch := first | omega | rfl) only [PS, ite_t, ite_f, ↓bind_s, List.length_cons, List.length_nil, addW_eq, subW_eq, if_pos, if_neg]) <;> simp [h0] <;> exact Ev.const
    · have : (bs s).drop i = [] := by rw [List.drop_eq_nil_iff, ← bs_size]; omega
      rw [this]
      (simp (disch := first | omega | rfl) only [PS, ite_t, ite_f, ↓bind_s, List.length_cons, List.length_nil, addW_eq, subW_eq, if_pos, if_neg])
      simpa [headL, keyL] using Ev.const
theorem F62.eq (s : ByteArray) : F62.P s = some (.bool (nameB s)) := by
  refine lim_eq ?_
  unfold nameB
  have hz : sizeI s = (s.size : Int) := rfl
  simp only [hz]
  by_cases h1 : 1 ≤ s.size
  · by_cases h2 : s.size ≤ 16
    · simp only [h1, h2]
      (simp (disch := first | omega | rfl) only [PS, ite_t, ite_f, ↓bind_s, List.length_cons, List.length_nil, addW_eq, subW_eq, if_pos, if_neg])
      simpa using F62.loop s.size 0 rfl (by omega)
    · simp only [h2]
      (simp (disch := first | omega | rfl) only [PS, ite_t, ite_f, ↓bind_s, List.length_cons, List.length_nil, addW_eq, subW_eq, if_pos, if_neg])
      simpa using Ev.const
  · simp only [h1]
    (simp (disch := first | omega | rfl) only [PS, ite_t, ite_f, ↓bind_s, List.length_cons, List.length_nil, addW_eq, subW_eq, if_pos, if_neg])
    simpa using Ev.const
def hasB (s : ByteArray) (c : Int) : Bool := (bs s).any fun b => decide ((b.toNat : Int) = c)
def cntB (l : List UInt8) (c : Int) : Nat := l.countP fun b => decide ((b.toNat : Int) = c)
theorem cntB_le (l : List UInt8) (c : Int) : cntB l c ≤ l.length := List.countP_le_length
def sizedB (s : ByteArray) : Bool := decide (1 ≤ s.size) && (decide (s.size ≤ 64) && (!(hasB s 0) && decide (cntB (bs s) 47 + 1 ≤ 8)))
def topicB (s : ByteArray) : Bool := sizedB s && (!(hasB s 43) && !(hasB s 35))
theorem F60.loop {s : ByteArray} {c : Int} (hs : s.size ≤ 4096) : ∀ (post pre : List UInt8), bs s = pre ++ post → Ev (fun n => F60.PL s c n (.l0 (pre.length : Int))) (.bool (post.any fun b => decide ((b.toNat : Int) = c)))
  | [], pre, h => by
    have hl := len_end h
    refine Ev.succ ?_
    simp only [F60.PL, sizeI_bs]
    (simp (disch := first | omega | rfl) only [PS, ite_t, ite_f, ↓bind_s, List.length_cons, List.length_nil, addW_eq, subW_eq, if_pos, if_neg])
    exact Ev.const
  | b :: post, pre, h => by
    have hl := len_mid h
    have hz : (bs s).length ≤ 4096 := by rw [← bs_size]; exact hs
    have ih := F60.loop (c := c) hs post (pre ++ [b]) (by rw [h]; simp)
    have e1 : (pre.length : Int) + 1 = ((pre ++ [b]).length : Int) := by simp
    refine Ev.succ ?_
    simp only [F60.PL, sizeI_bs, bt_mid h]
    (simp (disch := first | omega | rfl) only [PS, ite_t, ite_f, ↓bind_s, List.length_cons, List.length_nil, addW_eq, subW_eq, if_pos, if_neg])
    by_cases e : (b.toNat : Int) = c
    · simp only [if_pos e, List.any_cons, decide_eq_true e, Bool.true_or]
      exact Ev.const
    · simp only [if_neg e, List.any_cons, decide_eq_false e, Bool.false_or]
      rw [e1]
      exact ih
theorem F60.eq {s : ByteArray} {c : Int} (hs : s.size ≤ 4096) : F60.P s c = some (.bool (hasB s c)) := lim_eq (F60.loop hs (bs s) [] rfl)
theorem bs_extract (s : ByteArray) (i j : Nat) : bs (s.extract i j) = ((bs s).take j).drop i := by
  simp [bs, ByteArray.data_extract, Array.toList_extract, List.extract, List.drop_take]
theorem ext_str (s : ByteArray) (i j : Nat) : s.extract i j = ⟨(((bs s).take j).drop i).toArray⟩ := bs_inj (by rw [bs_extract]; simp [bs])
def lvA : List UInt8 → List UInt8 → List (List UInt8)
  | acc, [] => [acc]
  | acc, b :: r => if b.toNat = 47 then acc :: lvA [] r else lvA (acc ++ [b]) r
def lv (s : ByteArray) : List (List UInt8) := lvA [] (bs s)
theorem lvA_len : ∀ (l acc : List UInt8), (lvA acc l).length = cntB l 47 + 1
  | [], acc => rfl
  | b :: r, acc => by
    simp only [lvA, cntB, List.countP_cons]
    by_cases h : b.toNat = 47
    · rw [if_pos h, List.length_cons, lvA_len r []]
      simp [cntB, h]
    · rw [if_neg h, lvA_len r]
      have : decide ((b.toNat : Int) = 47) = false := by simp; omega
      simp [cntB, this]
theorem lv_len (s : ByteArray) : (lv s).length = cntB (bs s) 47 + 1 := lvA_len _ _
theorem strs_one {a : List (List UInt8)} {z : List UInt8} : strs a ++ [[.str ⟨z.toArray⟩]] = strs (a ++ [z]) := by simp [strs]
theorem F41.loop {s : ByteArray} (hs : s.size ≤ 4096) : ∀ (post pre : List UInt8) (out : List (List UInt8)) (f : Nat), bs s = pre ++ post → f ≤ pre.length → out.length ≤ pre.length →
    Ev (fun n => F41.PL s n (.l0 (strs out) (f : Int) (pre.length : Int))) (.sl 0 1 (strs (out ++ lvA (pre.drop f) post)))
  | [], pre, out, f, h, f1, ho => by
    have hb : (bs s).length ≤ 4096 := by rw [← bs_size]; exact hs
    have hl := len_end h
    have hz : sizeI s = ((bs s).length : Int) := sizeI_bs s
    have e1 : s.extract f (bs s).length = ⟨(pre.drop f).toArray⟩ := by rw [ext_str, List.take_length, h, List.append_nil]
    have hr : ∀ x, room (strs out) [[AV.str x]] 16 = true := fun x => by simp [room, strs_len]; omega
    refine Ev.succ ?_
    simp only [F41.PL, hz, hr, Int.toNat_natCast, e1, strs_one]
    (simp (disch := first | omega | rfl) only [PS, ite_t, ite_f, ↓bind_s, List.length_cons, List.length_nil, addW_eq, subW_eq, if_pos, if_neg])
    exact Ev.const
  | b :: post, pre, out, f, h, f1, ho => by
    have hl := len_mid h
    have hb : (bs s).length ≤ 4096 := by rw [← bs_size]; exact hs
    have e1 : (pre.length : Int) + 1 = ((pre ++ [b]).length : Int) := by simp
    have hp : (pre ++ [b]).length = pre.length + 1 := by simp
    by_cases e : (b.toNat : Int) = 47
    · have ih := F41.loop hs post (pre ++ [b]) (out ++ [pre.drop f]) (pre.length + 1) (by rw [h]; simp) (by omega) (by simp; omega)
      have e2 : s.extract f pre.length = ⟨(pre.drop f).toArray⟩ := by rw [ext_str, h, List.take_left]
      have hr : ∀ x, room (strs out) [[AV.str x]] 16 = true := fun x => by simp [room, strs_len]; omega
      have e3 : (pre ++ [b]).drop (pre.length + 1) = [] := by rw [← hp, List.drop_length]
      refine Ev.succ ?_
      simp only [F41.PL, sizeI_bs, bt_mid h, hr, Int.toNat_natCast, e2, strs_one]
      (simp (disch := first | omega | rfl) only [PS, ite_t, ite_f, ↓bind_s, List.length_cons, List.length_nil, addW_eq, subW_eq, if_pos, if_neg])
      (try simp only [if_pos e])
      rw [e3] at ih
      simp only [lvA, if_pos (show b.toNat = 47 by omega)]
      rw [e1]
      simpa [hp] using ih
    · have ih := F41.loop hs post (pre ++ [b]) out f (by rw [h]; simp) (by omega) (by omega)
      refine Ev.succ ?_
      simp only [F41.PL, sizeI_bs, bt_mid h]
      (simp (disch := first | omega | rfl) only [PS, ite_t, ite_f, ↓bind_s, List.length_cons, List.length_nil, addW_eq, subW_eq, if_pos, if_neg])
      (try simp only [if_neg e])
      rw [List.drop_append_of_le_length f1] at ih
      simp only [lvA, if_neg (show ¬ b.toNat = 47 by omega)]
      rw [e1]
      exact ih
theorem F41.eq {s : ByteArray} (hs : s.size ≤ 4096) : F41.P s = some (.sl 0 1 (strs (lv s))) := by
  have := F41.loop hs (bs s) [] [] 0 rfl (Nat.le_refl _) (Nat.le_refl _)
  exact lim_eq (by simpa [lv, strs] using this)
theorem F59.eq (s : ByteArray) : F59.P s = some (.bool (sizedB s)) := by
  unfold F59.P
  have hz : sizeI s = (s.size : Int) := rfl
  unfold sizedB
  simp only [hz]
  by_cases h1 : 1 ≤ s.size
  · by_cases h2 : s.size ≤ 64
    · rw [F60.eq (by omega), F41.eq (by omega)]
      have e : leI (lenI (strs (lv s))) 8 = decide (cntB (bs s) 47 + 1 ≤ 8) := by
        simp only [leI, strs_lenI, lv_len]
        rw [decide_eq_decide]
        omega
      (simp (disch := first | omega | rfl) only [PS, ite_t, ite_f, ↓bind_s, List.length_cons, List.length_nil, addW_eq, subW_eq, if_pos, if_neg])
      simp only [h1, h2]
      cases h3 : hasB s 0 <;> (simp (disch := first | omega | rfl) only [PS, ite_t, ite_f, ↓bind_s, List.length_cons, List.length_nil, addW_eq, subW_eq, if_pos, if_neg])
      · simp [slXs_sl, e]
      · simp
    · (simp (disch := first | omega | rfl) only [PS, ite_t, ite_f, ↓bind_s, List.length_cons, List.length_nil, addW_eq, subW_eq, if_pos, if_neg])
      simp [h2]
  · (simp (disch := first | omega | rfl) only [PS, ite_t, ite_f, ↓bind_s, List.length_cons, List.length_nil, addW_eq, subW_eq, if_pos, if_neg])
    simp [h1]
theorem sizedB_le {s : ByteArray} (h : sizedB s = true) : s.size ≤ 64 := by
  simp only [sizedB, Bool.and_eq_true, decide_eq_true_eq] at h
  exact h.2.1
theorem F40.eq (s : ByteArray) : F40.P s = some (.bool (topicB s)) := by
  unfold F40.P
  rw [F59.eq]
  (simp (disch := first | omega | rfl) only [PS, ite_t, ite_f, ↓bind_s, List.length_cons, List.length_nil, addW_eq, subW_eq, if_pos, if_neg])
  unfold topicB
  cases h : sizedB s
  · (simp (disch := first | omega | rfl) only [PS, ite_t, ite_f, ↓bind_s, List.length_cons, List.length_nil, addW_eq, subW_eq, if_pos, if_neg])
    simp
  · have := sizedB_le h
    (simp (disch := first | omega | rfl) only [PS, ite_t, ite_f, ↓bind_s, List.length_cons, List.length_nil, addW_eq, subW_eq, if_pos, if_neg])
    rw [F60.eq (by omega), F60.eq (by omega)]
    (simp (disch := first | omega | rfl) only [PS, ite_t, ite_f, ↓bind_s, List.length_cons, List.length_nil, addW_eq, subW_eq, if_pos, if_neg])
    cases h2 : hasB s 43 <;> (simp (disch := first | omega | rfl) only [PS, ite_t, ite_f, ↓bind_s, List.length_cons, List.length_nil, addW_eq, subW_eq, if_pos, if_neg]) <;> simp
theorem any_high {s : ByteArray} {p : UInt8 → Bool} (hp : ∀ b : UInt8, 128 ≤ b.toNat → p b = false) : ∀ (w i : Nat), i + w ≤ s.size → (∀ k, i ≤ k → k < i + w → 128 ≤ (s.get! k).toNat) → ((bs s).drop i).countP p = ((bs s).drop (i + w)).countP p
  | 0, i, _, _ => rfl
  | w + 1, i, h1, h2 => by
    have hi : i < (bs s).length := by rw [← bs_size]; omega
    rw [List.drop_eq_getElem_cons hi, List.countP_cons]
    have := h2 i (Nat.le_refl _) (by omega)
    rw [get_bs (by omega)] at this
    rw [hp _ this, any_high hp w (i + 1) (by omega) (fun k a b => h2 k (by omega) (by omega))]
    simp only [Bool.false_eq_true, if_false, Nat.add_zero]
    congr 2
    omega
theorem high_ne {c : Int} (hc : c < 128) (b : UInt8) (h : 128 ≤ b.toNat) : decide ((b.toNat : Int) = c) = false := by simp; omega
theorem hasB_cnt (s : ByteArray) (c : Int) : hasB s c = !(decide (cntB (bs s) c = 0)) := by
  unfold hasB cntB
  generalize bs s = l
  induction l with
  | nil => rfl
  | cons x l ih =>
    rw [List.any_cons, ih, List.countP_cons]
    by_cases h : (x.toNat : Int) = c
    · simp [h]
    · simp [h]
theorem F66.loop {s : ByteArray} (hs : s.size ≤ 4096) : ∀ (n i : Nat) (k : Int), n = s.size - i → i ≤ s.size → 0 ≤ k → k ≤ i + 1 →
    Ev (fun m => F66.PL s m (.l0 k i)) (.bool (decide (cntB ((bs s).drop i) 0 = 0) && decide (k + cntB ((bs s).drop i) 47 ≤ 8))) := by
  intro n
  induction n using Nat.strongRecOn with
  | ind n ih =>
    intro i k hn hi k0 k1
    refine Ev.succ ?_
    simp only [F66.PL]
    by_cases hlt : i < s.size
    · have hl : i < (bs s).length := by rw [← bs_size]; exact hlt
      have hd := List.drop_eq_getElem_cons hl
      by_cases ha : ((bs s)[i]'hl).toNat < 128
      · rw [decode_at_ascii hlt ha, hd]
        (simp (disch := first | omega | rfl) only [PS, ite_t, ite_f, ↓bind_s, List.length_cons, List.length_nil, addW_eq, subW_eq, if_pos, if_neg])
        simp only [cntB, List.countP_cons]
        generalize (bs s)[i]'hl = b
        by_cases h0 : (b.toNat : Int) = 0
        · (simp (disch := first | omega | rfl) only [PS, ite_t, ite_f, ↓bind_s, List.length_cons, List.length_nil, addW_eq, subW_eq, if_pos, if_neg])
          simpa [h0] using Ev.const
        · by_cases h47 : (b.toNat : Int) = 47
          · have := ih (s.size - (i + 1)) (by omega) (i + 1) (k + 1) rfl (by omega) (by omega) (by omega)
            (simp (disch := first | omega | rfl) only [PS, ite_t, ite_f, ↓bind_s, List.length_cons, List.length_nil, addW_eq, subW_eq, if_pos, if_neg])
            try simp only [decide_eq_false h0, decide_eq_true h47, if_true, Bool.false_eq_true, if_false, Nat.add_zero]
            have e : k + 1 + (cntB ((bs s).drop (i + 1)) 47 : Int) = k + ((List.countP (fun b => decide ((b.toNat : Int) = 47)) ((bs s).drop (i + 1)) + 1 : Nat) : Int) := by simp only [cntB]; omega
            rw [e] at this
            exact this
          · have := ih (s.size - (i + 1)) (by omega) (i + 1) k rfl (by omega) k0 (by omega)
            (simp (disch := first | omega | rfl) only [PS, ite_t, ite_f, ↓bind_s, List.length_cons, List.length_nil, addW_eq, subW_eq, if_pos, if_neg])
            try simp only [decide_eq_false h0, decide_eq_false h47, Bool.false_eq_true, if_false, Nat.add_zero]
            exact this
      · obtain ⟨r1, r2, r3, r4⟩ := decode_at_high hlt (by omega)
        (simp (disch := first | omega | rfl) only [PS, ite_t, ite_f, ↓bind_s, List.length_cons, List.length_nil, addW_eq, subW_eq, if_pos, if_neg])
        unfold cntB
        rw [any_high (high_ne (by omega)) _ i r3 r4, any_high (high_ne (c := 47) (by omega)) _ i r3 r4]
        exact ih (s.size - (i + (Utf8.decode s i).2)) (by omega) (i + (Utf8.decode s i).2) k rfl r3 k0 (by omega)
    · have : (bs s).drop i = [] := by rw [List.drop_eq_nil_iff, ← bs_size]; omega
      rw [this]
      (simp (disch := first | omega | rfl) only [PS, ite_t, ite_f, ↓bind_s, List.length_cons, List.length_nil, addW_eq, subW_eq, if_pos, if_neg])
      simpa [cntB, leI] using Ev.const
theorem F66.eq (s : ByteArray) : F66.P s = some (.bool (sizedB s)) := by
  refine lim_eq ?_
  have hz : sizeI s = (s.size : Int) := rfl
  simp only [hz]
  by_cases h1 : 1 ≤ s.size
  · by_cases h2 : s.size ≤ 64
    · have := F66.loop (s := s) (by omega) s.size 0 1 rfl (by omega) (by omega) (by omega)
      have e : sizedB s = (decide (cntB ((bs s).drop 0) 0 = 0) && decide ((1 : Int) + cntB ((bs s).drop 0) 47 ≤ 8)) := by
        simp only [sizedB, h1, h2, decide_true, Bool.true_and, hasB_cnt, Bool.not_not, List.drop_zero]
        congr 1
        rw [decide_eq_decide]
        omega
      rw [e]
      (simp (disch := first | omega | rfl) only [PS, ite_t, ite_f, ↓bind_s, List.length_cons, List.length_nil, addW_eq, subW_eq, if_pos, if_neg])
      exact this
    · have e : sizedB s = false := by simp [sizedB, h2]
      rw [e]
      (simp (disch := first | omega | rfl) only [PS, ite_t, ite_f, ↓bind_s, List.length_cons, List.length_nil, addW_eq, subW_eq, if_pos, if_neg])
      exact Ev.const
  · have e : sizedB s = false := by simp [sizedB, h1]
    rw [e]
    (simp (disch := first | omega | rfl) only [PS, ite_t, ite_f, ↓bind_s, List.length_cons, List.length_nil, addW_eq, subW_eq, if_pos, if_neg])
    exact Ev.const
theorem F52.loop {s : ByteArray} : ∀ (n i : Nat), n = s.size - i → i ≤ s.size →
    Ev (fun m => F52.PL s m (.l0 i)) (.bool (decide (cntB ((bs s).drop i) 43 = 0) && decide (cntB ((bs s).drop i) 35 = 0))) := by
  intro n
  induction n using Nat.strongRecOn with
  | ind n ih =>
    intro i hn hi
    refine Ev.succ ?_
    simp only [F52.PL]
    by_cases hlt : i < s.size
    · have hl : i < (bs s).length := by rw [← bs_size]; exact hlt
      have hd := List.drop_eq_getElem_cons hl
      by_cases ha : ((bs s)[i]'hl).toNat < 128
      · rw [decode_at_ascii hlt ha, hd]
        (simp (disch := first | omega | rfl) only [PS, ite_t, ite_f, ↓bind_s, List.length_cons, List.length_nil, addW_eq, subW_eq, if_pos, if_neg])
        simp only [cntB, List.countP_cons]
        generalize (bs s)[i]'hl = b
        by_cases h0 : (b.toNat : Int) = 43
        · (simp (disch := first | omega | rfl) only [PS, ite_t, ite_f, ↓bind_s, List.length_cons, List.length_nil, addW_eq, subW_eq, if_pos, if_neg])
          simpa [h0] using Ev.const
        · by_cases h1 : (b.toNat : Int) = 35
          · (simp (disch := first | omega | rfl) only [PS, ite_t, ite_f, ↓bind_s, List.length_cons, List.length_nil, addW_eq, subW_eq, if_pos, if_neg])
            simpa [h1] using Ev.const
          · have := ih (s.size - (i + 1)) (by omega) (i + 1) rfl (by omega)
            (simp (disch := first | omega | rfl) only [PS, ite_t, ite_f, ↓bind_s, List.length_cons, List.length_nil, addW_eq, subW_eq, if_pos, if_neg])
            try simp only [decide_eq_false h0, decide_eq_false h1, Bool.false_eq_true, if_false, Nat.add_zero]
            exact this
      · obtain ⟨r1, r2, r3, r4⟩ := decode_at_high hlt (by omega)
        (simp (disch := first | omega | rfl) only [PS, ite_t, ite_f, ↓bind_s, List.length_cons, List.length_nil, addW_eq, subW_eq, if_pos, if_neg])
        unfold cntB
        rw [any_high (high_ne (by omega)) _ i r3 r4, any_high (high_ne (c := 35) (by omega)) _ i r3 r4]
        exact ih (s.size - (i + (Utf8.decode s i).2)) (by omega) (i + (Utf8.decode s i).2) rfl r3
    · have : (bs s).drop i = [] := by rw [List.drop_eq_nil_iff, ← bs_size]; omega
      rw [this]
      (simp (disch := first | omega | rfl) only [PS, ite_t, ite_f, ↓bind_s, List.length_cons, List.length_nil, addW_eq, subW_eq, if_pos, if_neg])
      simpa [cntB] using Ev.const
theorem F52.eq (s : ByteArray) : F52.P s = some (.bool (topicB s)) := by
  refine lim_eq ?_
  rw [F66.eq]
  unfold topicB
  cases h : sizedB s
  · (simp (disch := first | omega | rfl) only [PS, ite_t, ite_f, ↓bind_s, List.length_cons, List.length_nil, addW_eq, subW_eq, if_pos, if_neg])
    simpa using Ev.const
  · (simp (disch := first | omega | rfl) only [PS, ite_t, ite_f, ↓bind_s, List.length_cons, List.length_nil, addW_eq, subW_eq, if_pos, if_neg])
    have := F52.loop (s := s) _ 0 rfl (by omega)
    simpa [hasB_cnt] using this
theorem cnt_split : ∀ l : List UInt8, cntB l 47 = 0 → (∀ acc, lvA acc l = [acc ++ l]) ∧ Lib.indexByte l 47 = -1
  | [], _ => ⟨fun acc => by simp [lvA], rfl⟩
  | b :: r, h => by
    simp only [cntB, List.countP_cons] at h
    have hb : ¬ b.toNat = 47 := by
      intro e
      simp [e] at h
    have hr : cntB r 47 = 0 := by simp only [cntB]; omega
    obtain ⟨i1, i2⟩ := cnt_split r hr
    refine ⟨fun acc => by simp only [lvA, if_neg hb, i1]; simp, ?_⟩
    have h47 : ¬ b = 47 := fun e => hb (by rw [e]; rfl)
    simp only [Lib.indexByte, i2]
    simp [h47]
theorem idx_split : ∀ l : List UInt8, 1 ≤ cntB l 47 → ∃ x y, l = x ++ 47 :: y ∧ cntB x 47 = 0 ∧ Lib.indexByte l 47 = x.length
  | [], h => by simp [cntB] at h
  | b :: r, h => by
    by_cases hb : b = 47
    · subst hb
      exact ⟨[], r, rfl, rfl, by simp [Lib.indexByte]⟩
    · have hbn : decide ((b.toNat : Int) = 47) = false := by
        simp only [decide_eq_false_iff_not]
        intro e
        exact hb (UInt8.toNat_inj.1 (by have : (47 : UInt8).toNat = 47 := rfl; omega))
      have hr : 1 ≤ cntB r 47 := by simp only [cntB, List.countP_cons, hbn] at h; simpa [cntB] using h
      obtain ⟨x, y, h1, h2, h3⟩ := idx_split r hr
      refine ⟨b :: x, y, by rw [h1]; rfl, by simp only [cntB, List.countP_cons, hbn]; simpa [cntB] using h2, ?_⟩
      simp only [Lib.indexByte, h3]
      rw [if_neg (by simpa using hb)]
      simp
theorem lvA_split {x y : List UInt8} (h : cntB x 47 = 0) (acc : List UInt8) : lvA acc (x ++ 47 :: y) = (acc ++ x) :: lvA [] y := by
  induction x generalizing acc with
  | nil => simp [lvA]
  | cons b x ih =>
    simp only [cntB, List.countP_cons] at h
    have hb : ¬ b.toNat = 47 := by
      intro e
      simp [e] at h
    simp only [List.cons_append, lvA, if_neg hb]
    rw [ih (by simp only [cntB]; omega)]
    simp
theorem cnt_byte : ∀ l : List UInt8, Lib.countByte l 47 = cntB l 47 := by
  intro l
  unfold Lib.countByte cntB
  rw [List.count_eq_countP]
  refine List.countP_congr fun b _ => ?_
  simp only [beq_iff_eq, decide_eq_true_eq]
  constructor
  · rintro rfl; rfl
  · intro e; exact UInt8.toNat_inj.1 (by have : (47 : UInt8).toNat = 47 := rfl; omega)
end Go.Proofs.YtgmkkjmdflhbnaaDoor.Ab
end
section
namespace Go.Proofs.YtgmkkjmdflhbnaaDoor.Ab
open Go
theorem F93.eq (s : ByteArray) (c : UInt8) : F93.P s ⟨#[c]⟩ = some (.int .i64 (Lib.indexByte (bs s) c)) := by
  unfold F93.P
  rw [IdxP.of]
  (simp (disch := first | omega | rfl) only [PS, ite_t, ite_f, ↓bind_s, List.length_cons, List.length_nil, addW_eq, subW_eq, if_pos, if_neg])
def blank (n : Nat) : List (List AV) := List.replicate n [.str ⟨#[]⟩]
theorem set_strs {O : List (List UInt8)} {n : Nat} {z : List UInt8} : (strs O ++ blank (n + 1)).set O.length ((ro (strs O ++ blank (n + 1)) O.length).set 0 (.str ⟨z.toArray⟩)) = strs (O ++ [z]) ++ blank n := by
  have e1 : ro (strs O ++ blank (n + 1)) O.length = [.str ⟨#[]⟩] := by simp [ro, strs, blank, List.replicate_succ]
  rw [e1]
  have : (strs O ++ blank (n + 1)).set O.length [AV.str ⟨z.toArray⟩] = strs O ++ [AV.str ⟨z.toArray⟩] :: blank n := by
    rw [List.set_append_right _ _ (by simp [strs])]
    simp [strs, blank, List.replicate_succ]
  simp only [List.set_cons_zero]
  rw [this]
  simp [strs]
theorem blank_len {n : Nat} : (blank n).length = n := by simp [blank]
theorem F85.loop {a0 : ByteArray} {a3 : Int} {c : Nat} (hc : c ≤ 4096) : ∀ (n : Nat) (O : List (List UInt8)) (t : ByteArray), O.length + n = c → t.size ≤ 4096 → cntB (bs t) 47 = n →
    Ev (fun m => F85.PL a0 ⟨#[47]⟩ 0 a3 m (.l0 t (c : Int) (strs O ++ blank (n + 1)) (O.length : Int))) (.sl 0 1 (strs (O ++ lvA [] (bs t))))
  | 0, O, t, h, ht, hn => by
    have hlen : lenI (strs O ++ blank (0 + 1)) = ((O.length + 1 : Nat) : Int) := by simp [lenI, strs_len, blank_len]
    have e1 : addW .i64 (O.length : Int) 1 = ((O.length + 1 : Nat) : Int) := by rw [addW_eq (by omega) (by omega)]; simp
    have e2 : t = ⟨(bs t).toArray⟩ := by simp [bs]
    have hs := set_strs (O := O) (n := 0) (z := bs t)
    have hl2 : lenI (strs (O ++ [bs t]) ++ blank 0) = ((O.length + 1 : Nat) : Int) := by simp [lenI, strs_len, blank_len]
    refine Ev.succ ?_
    simp only [F85.PL, e1, hlen, Int.toNat_natCast]
    rw [← e2] at hs
    simp only [hs, hl2]
    (simp (disch := first | omega | rfl) only [PS, ite_t, ite_f, ↓bind_s, List.length_cons, List.length_nil, addW_eq, subW_eq, if_pos, if_neg])
    refine Ev.of ?_
    have h3 : (strs (O ++ [bs t]) ++ blank 0).take (O.length + 1) = strs (O ++ [bs t]) := by
      rw [List.take_append_of_le_length (by simp [strs_len]), List.take_of_length_le (by simp [strs_len])]
    rw [h3, (cnt_split _ hn).1, List.drop_zero]
    simp
  | n + 1, O, t, h, ht, hn => by
    have hlen : lenI (strs O ++ blank (n + 1 + 1)) = ((O.length + n + 2 : Nat) : Int) := by simp [lenI, strs_len, blank_len]; omega
    obtain ⟨x, y, h1, h2, h3⟩ := idx_split (bs t) (by omega)
    have hz : sizeI t = ((bs t).length : Int) := sizeI_bs t
    have hxl : (bs t).length = x.length + (y.length + 1) := by rw [h1]; simp
    have htl : (bs t).length ≤ 4096 := by rw [← bs_size]; exact ht
    have e1 : addW .i64 (O.length : Int) 1 = ((O.length + 1 : Nat) : Int) := by rw [addW_eq (by omega) (by omega)]; simp
    have e2 : addW .i64 (x.length : Int) 0 = (x.length : Int) := by rw [addW_eq (by omega) (by omega)]; simp
    have e3 : addW .i64 (x.length : Int) (sizeI (⟨#[47]⟩ : ByteArray)) = ((x.length + 1 : Nat) : Int) := by
      have : sizeI (⟨#[47]⟩ : ByteArray) = 1 := rfl
      rw [this, addW_eq (by omega) (by omega)]; simp
    have e4 : t.extract 0 x.length = ⟨x.toArray⟩ := by rw [ext_str, h1, List.take_left, List.drop_zero]
    have e5 : bs (t.extract (x.length + 1) (bs t).length) = y := by
      rw [bs_extract, List.take_length, h1]
      have : x ++ 47 :: y = (x ++ [47]) ++ y := by simp
      rw [this, List.drop_append_of_le_length (by simp), List.drop_eq_nil_of_le (by simp), List.nil_append]
    have hs := set_strs (O := O) (n := n + 1) (z := x)
    have hcy : cntB y 47 = n := by
      rw [h1] at hn
      have : cntB (x ++ 47 :: y) 47 = cntB x 47 + (cntB y 47 + 1) := by simp [cntB, List.countP_append]
      omega
    have ih := F85.loop (a0 := a0) (a3 := a3) hc n (O ++ [x]) (t.extract (x.length + 1) (bs t).length) (by simp; omega) (by rw [bs_size, e5]; omega) (by rw [e5]; exact hcy)
    rw [e5] at ih
    refine Ev.succ ?_
    simp only [F85.PL, F93.eq, h3, bind_s, toInt_int, isInt_i, if_true, e1, e2, e3, hlen, hz, Int.toNat_natCast, e4, hs]
    (simp (disch := first | omega | rfl) only [PS, ite_t, ite_f, ↓bind_s, List.length_cons, List.length_nil, addW_eq, subW_eq, if_pos, if_neg])
    have hv : lvA [] (bs t) = x :: lvA [] y := by rw [h1, lvA_split h2, List.nil_append]
    rw [hv]
    have e6 : ((O ++ [x]).length : Int) = ((O.length + 1 : Nat) : Int) := by simp
    rw [e6] at ih
    simpa using ih
theorem F85.eq {s : ByteArray} (hs : s.size ≤ 4096) : F85.P s ⟨#[47]⟩ 0 (-1) = some (.sl 0 1 (strs (lv s))) := by
  have hz : sizeI s = ((bs s).length : Int) := sizeI_bs s
  have hl : (bs s).length ≤ 4096 := by rw [← bs_size]; exact hs
  have hc := cntB_le (bs s) 47
  have h1 : eqS (⟨#[47]⟩ : ByteArray) ⟨#[]⟩ = false := by decide
  have h2 : addW .i64 ((bs s).length : Int) 1 = ((bs s).length : Int) + 1 := addW_eq (by omega) (by omega)
  have h3 : addW .i64 ((cntB (bs s) 47 : Nat) : Int) 1 = ((cntB (bs s) 47 + 1 : Nat) : Int) := by rw [addW_eq (by omega) (by omega)]; simp
  have h4 : ltI (((bs s).length : Int) + 1) ((cntB (bs s) 47 + 1 : Nat) : Int) = false := by rw [ff_lt]; omega
  have h5 : subW .i64 ((cntB (bs s) 47 + 1 : Nat) : Int) 1 = (cntB (bs s) 47 : Int) := by rw [subW_eq (by omega) (by omega)]; omega
  have h6 : roomN ((cntB (bs s) 47 + 1 : Nat) : Int) 16 = true := by rw [tt_roomN]; omega
  have ih := F85.loop (a0 := s) (a3 := -1) (c := cntB (bs s) 47) (by omega) (cntB (bs s) 47) [] s (by simp) hs rfl
  refine lim_eq ?_
  simp only [h1, CntP.of, cnt_byte, hz, bind_s, toInt_int, isInt_i, if_true, h2, h3, h4, cond_false, h5, h6, Int.toNat_natCast]
  (simp (disch := first | omega | rfl) only [PS, ite_t, ite_f, ↓bind_s, List.length_cons, List.length_nil, addW_eq, subW_eq, if_pos, if_neg])
  simpa [strs, lv, blank] using ih
theorem F69.eq {s : ByteArray} (hs : s.size ≤ 4096) : F69.P s ⟨#[47]⟩ = some (.sl 0 1 (strs (lv s))) := by
  unfold F69.P
  rw [F85.eq hs]
  (simp (disch := first | omega | rfl) only [PS, ite_t, ite_f, ↓bind_s, List.length_cons, List.length_nil, addW_eq, subW_eq, if_pos, if_neg])
theorem F54.eq {s : ByteArray} (hs : s.size ≤ 4096) : F54.P s = some (.sl 0 1 (strs (lv s))) := by
  unfold F54.P
  rw [F69.eq hs]
  (simp (disch := first | omega | rfl) only [PS, ite_t, ite_f, ↓bind_s, List.length_cons, List.length_nil, addW_eq, subW_eq, if_pos, if_neg])
def hasL (z : List UInt8) (c : Int) : Bool := z.any fun b => decide ((b.toNat : Int) = c)
def okL (z : List UInt8) (last : Bool) : Bool := (!(hasL z 43) || decide (z.length = 1)) && (!(hasL z 35) || (decide (z.length = 1) && last))
def filtL : List (List UInt8) → Bool
  | [] => true
  | z :: r => okL z r.isEmpty && filtL r
def filterB (s : ByteArray) : Bool := sizedB s && filtL (lv s)
theorem hasB_str (z : List UInt8) (c : Int) : hasB ⟨z.toArray⟩ c = hasL z c := rfl
theorem one_of {z : List UInt8} {c : UInt8} (h : hasL z (c.toNat : Int) = true) : (z = [c]) = (z.length = 1) := by
  refine propext ⟨fun e => by rw [e]; rfl, fun e => ?_⟩
  obtain ⟨b, rfl⟩ := List.length_eq_one_iff.1 e
  simp only [hasL, List.any_cons, List.any_nil, Bool.or_false, decide_eq_true_eq] at h
  rw [UInt8.toNat_inj.1 (by omega : b.toNat = c.toNat)]
theorem lvA_size : ∀ (l acc : List UInt8), ∀ z ∈ lvA acc l, z.length ≤ acc.length + l.length
  | [], acc, z, h => by simp only [lvA, List.mem_singleton] at h; subst h; simp
  | b :: r, acc, z, h => by
    simp only [lvA] at h
    split at h
    · rcases List.mem_cons.1 h with rfl | h
      · simp
      · have := lvA_size r [] z h
        simp at this ⊢
        omega
    · have := lvA_size r _ z h
      simp at this ⊢
      omega
theorem lv_size {s : ByteArray} : ∀ z ∈ lv s, z.length ≤ s.size := fun z h => by
  have := lvA_size (bs s) [] z h
  rw [bs_size]
  simpa using this
theorem F39.loop {s : ByteArray} {L : List (List UInt8)} (hL : L.length ≤ 5000) (hz : ∀ z ∈ L, z.length ≤ 4096) : ∀ (post pre : List (List UInt8)), L = pre ++ post → Ev (fun n => F39.PL s n (.l0 (strs L) (pre.length : Int))) (.bool (filtL post))
  | [], pre, h => by
    have hl := len_end h
    refine Ev.succ ?_
    simp only [F39.PL, strs_lenI]
    (simp (disch := first | omega | rfl) only [PS, ite_t, ite_f, ↓bind_s, List.length_cons, List.length_nil, addW_eq, subW_eq, if_pos, if_neg])
    exact Ev.const
  | z :: post, pre, h => by
    have hl := len_mid h
    have hzl : z.length ≤ 4096 := hz z (by rw [h]; simp)
    have ih := F39.loop (s := s) hL hz post (pre ++ [z]) (by rw [h]; simp)
    have e1 : addW .i64 (pre.length : Int) 1 = ((pre ++ [z]).length : Int) := add1 (by omega)
    have hsz : (⟨z.toArray⟩ : ByteArray).size ≤ 4096 := by simpa [bs_size, bs] using hzl
    have f35 : eqS ⟨z.toArray⟩ ⟨#[35]⟩ = decide (z = [35]) := str_eq (b := [35])
    have f43 : eqS ⟨z.toArray⟩ ⟨#[43]⟩ = decide (z = [43]) := str_eq (b := [43])
    have hsub : subW .i64 (L.length : Int) 1 = (L.length : Int) - 1 := subW_eq (by omega) (by omega)
    have hlast : eqI (pre.length : Int) (subW .i64 (L.length : Int) 1) = post.isEmpty := by
      rw [hsub]
      unfold eqI
      cases post with
      | nil => simp at hl ⊢; omega
      | cons y post => simp at hl ⊢; omega
    have next : Ev (fun n => F39.PL s n (.lR9 (strs L) (pre.length : Int) false)) (.bool (filtL post)) := by
      refine Ev.succ ?_
      simp only [F39.PL, e1]
      (simp (disch := first | omega | rfl) only [PS, ite_t, ite_f, ↓bind_s, List.length_cons, List.length_nil, addW_eq, subW_eq, if_pos, if_neg])
      exact ih
    have stop : Ev (fun n => F39.PL s n (.lR9 (strs L) (pre.length : Int) true)) (.bool false) := by
      refine Ev.succ ?_
      simp only [F39.PL]
      (simp (disch := first | omega | rfl) only [PS, ite_t, ite_f, ↓bind_s, List.length_cons, List.length_nil, addW_eq, subW_eq, if_pos, if_neg])
      exact Ev.const
    refine Ev.succ ?_
    simp only [F39.PL, strs_lenI, strs_at h, ce_0, toStr_str, F60.eq hsz, hasB_str, f35, f43, hlast, filtL, okL]
    cases h43 : hasL z 43
    · cases h35 : hasL z 35
      · (simp (disch := first | omega | rfl) only [PS, ite_t, ite_f, ↓bind_s, List.length_cons, List.length_nil, addW_eq, subW_eq, if_pos, if_neg])
        simpa using next
      · have hd1 : decide (z.length = 1) = decide (z = [35]) := decide_eq_decide.2 (by rw [one_of (c := 35) h35])
        rw [hd1]
        cases hd : decide (z = [35])
        · (simp (disch := first | omega | rfl) only [PS, ite_t, ite_f, ↓bind_s, List.length_cons, List.length_nil, addW_eq, subW_eq, if_pos, if_neg])
          simpa using stop
        · cases post with
          | nil => (simp (disch := first | omega | rfl) only [PS, ite_t, ite_f, ↓bind_s, List.length_cons, List.length_nil, addW_eq, subW_eq, if_pos, if_neg]); simpa using next
          | cons y post => (simp (disch := first | omega | rfl) only [PS, ite_t, ite_f, ↓bind_s, List.length_cons, List.length_nil, addW_eq, subW_eq, if_pos, if_neg]); simpa using stop
    · have hd1 : decide (z.length = 1) = decide (z = [43]) := decide_eq_decide.2 (by rw [one_of (c := 43) h43])
      rw [hd1]
      cases hd : decide (z = [43])
      · (simp (disch := first | omega | rfl) only [PS, ite_t, ite_f, ↓bind_s, List.length_cons, List.length_nil, addW_eq, subW_eq, if_pos, if_neg])
        simpa using Ev.const
      · have hz43 : z = [43] := of_decide_eq_true hd
        have h35 : hasL z 35 = false := by rw [hz43]; rfl
        rw [h35]
        (simp (disch := first | omega | rfl) only [PS, ite_t, ite_f, ↓bind_s, List.length_cons, List.length_nil, addW_eq, subW_eq, if_pos, if_neg])
        simpa using next
theorem cnt64 {s : ByteArray} (h : sizedB s = true) : (lv s).length ≤ 5000 := by
  have := sizedB_le h
  have h2 := cntB_le (bs s) 47
  rw [lv_len, ← bs_size] at *
  omega
theorem F39.eq (s : ByteArray) : F39.P s = some (.bool (filterB s)) := by
  refine lim_eq ?_
  rw [F59.eq]
  unfold filterB
  cases h : sizedB s
  · (simp (disch := first | omega | rfl) only [PS, ite_t, ite_f, ↓bind_s, List.length_cons, List.length_nil, addW_eq, subW_eq, if_pos, if_neg])
    simpa using Ev.const
  · have h64 := sizedB_le h
    have := F39.loop (s := s) (cnt64 h) (fun z hz => by have := lv_size z hz; omega) (lv s) [] rfl
    rw [F41.eq (by omega)]
    (simp (disch := first | omega | rfl) only [PS, ite_t, ite_f, ↓bind_s, List.length_cons, List.length_nil, addW_eq, subW_eq, if_pos, if_neg])
    simpa using this
theorem any_highB {s : ByteArray} {p : UInt8 → Bool} (hp : ∀ b : UInt8, 128 ≤ b.toNat → p b = false) : ∀ (w i : Nat), i + w ≤ s.size → (∀ k, i ≤ k → k < i + w → 128 ≤ (s.get! k).toNat) → ((bs s).drop i).any p = ((bs s).drop (i + w)).any p
  | 0, i, _, _ => rfl
  | w + 1, i, h1, h2 => by
    have hi : i < (bs s).length := by rw [← bs_size]; omega
    rw [List.drop_eq_getElem_cons hi, List.any_cons]
    have := h2 i (Nat.le_refl _) (by omega)
    rw [get_bs (by omega)] at this
    rw [hp _ this, any_highB hp w (i + 1) (by omega) (fun k a b => h2 k (by omega) (by omega)), Bool.false_or]
    congr 2
    omega
def badN (one last : Bool) (b : UInt8) : Bool := (decide ((b.toNat : Int) = 43) && !one) || (decide ((b.toNat : Int) = 35) && (!one || !last))
theorem badN_any (z : List UInt8) (last : Bool) : z.any (badN (decide (z.length = 1)) last) = !(okL z last) := by
  have : ∀ (one : Bool) (l : List UInt8), l.any (badN one last) = ((hasL l 43 && !one) || (hasL l 35 && (!one || !last))) := by
    intro one l
    induction l with
    | nil => rfl
    | cons b l ih =>
      simp only [List.any_cons, ih, hasL, badN]
      cases decide ((b.toNat : Int) = 43) <;> cases decide ((b.toNat : Int) = 35) <;> cases one <;> cases last <;> simp
  rw [this]
  unfold okL
  cases hasL z 43 <;> cases hasL z 35 <;> cases decide (z.length = 1) <;> cases last <;> rfl
theorem F51.inner {a0 : ByteArray} {x3 x15 : List (List AV)} {x5 x16 x17 : Int} {z : List UInt8} {last : Bool} {v : AV} (hlast : ltI x5 (subW .i64 (lenI x3) 1) = !last)
    (ok : z.any (badN (decide (z.length = 1)) last) = false → Ev (fun n => F51.PL a0 n (.l0 x3 x15 x16 (addW .i64 x17 1))) v) (no : z.any (badN (decide (z.length = 1)) last) = true → v = .bool false) :
    ∀ (n i : Nat), n = z.length - i → i ≤ z.length → z.any (badN (decide (z.length = 1)) last) = (z.drop i).any (badN (decide (z.length = 1)) last) → Ev (fun m => F51.PL a0 m (.l1 x3 x5 ⟨z.toArray⟩ x15 x16 x17 ⟨z.toArray⟩ i)) v := by
  have hbs : bs (⟨z.toArray⟩ : ByteArray) = z := rfl
  have hsz : (⟨z.toArray⟩ : ByteArray).size = z.length := by rw [bs_size, hbs]
  have hone : eqI (sizeI (⟨z.toArray⟩ : ByteArray)) 1 = decide (z.length = 1) := by
    unfold eqI
    rw [sizeI_bs, hbs, decide_eq_decide]
    omega
  intro n
  induction n using Nat.strongRecOn with
  | ind n ih =>
    intro i hn hi ha
    refine Ev.succ ?_
    simp only [F51.PL, hone, hlast]
    by_cases hlt : i < z.length
    · have hlt' : i < (⟨z.toArray⟩ : ByteArray).size := by rw [hsz]; exact hlt
      have hd := List.drop_eq_getElem_cons hlt
      have hnb : Nat.blt i (⟨z.toArray⟩ : ByteArray).size = true := by rw [tt_nblt]; exact hlt'
      simp only [hnb, if_true]
      have hgo : ∀ b : Bool, Ev (fun n => F51.PL a0 n (.lR12 x3 x5 ⟨z.toArray⟩ x15 x16 x17 true ⟨z.toArray⟩ (i + (Utf8.decode ⟨z.toArray⟩ i).2))) (.bool false) := fun _ => by
        refine Ev.succ ?_
        simp only [F51.PL]
        (simp (disch := first | omega | rfl) only [PS, ite_t, ite_f, ↓bind_s, List.length_cons, List.length_nil, addW_eq, subW_eq, if_pos, if_neg])
        exact Ev.const
      by_cases hasc : (z[i]'hlt).toNat < 128
      · rw [decode_at_ascii hlt' (by simpa [hbs] using hasc)]
        have hbi : (bs (⟨z.toArray⟩ : ByteArray))[i]'(by rw [hbs]; exact hlt) = z[i]'hlt := rfl
        simp only [hbi]
        rw [hd, List.any_cons] at ha
        generalize z[i]'hlt = b at ha
        have cont : badN (decide (z.length = 1)) last b = false → Ev (fun n => F51.PL a0 n (.lR12 x3 x5 ⟨z.toArray⟩ x15 x16 x17 false ⟨z.toArray⟩ (i + 1))) v := fun hb => by
          refine Ev.succ ?_
          simp only [F51.PL]
          (simp (disch := first | omega | rfl) only [PS, ite_t, ite_f, ↓bind_s, List.length_cons, List.length_nil, addW_eq, subW_eq, if_pos, if_neg])
          exact ih (z.length - (i + 1)) (by omega) (i + 1) rfl (by omega) (by rw [ha, hb, Bool.false_or])
        have stop : badN (decide (z.length = 1)) last b = true → Ev (fun n => F51.PL a0 n (.lR12 x3 x5 ⟨z.toArray⟩ x15 x16 x17 true ⟨z.toArray⟩ (i + 1))) v := fun hb => by
          rw [no (by rw [ha, hb, Bool.true_or])]
          refine Ev.succ ?_
          simp only [F51.PL]
          (simp (disch := first | omega | rfl) only [PS, ite_t, ite_f, ↓bind_s, List.length_cons, List.length_nil, addW_eq, subW_eq, if_pos, if_neg])
          exact Ev.const
        by_cases h43 : (b.toNat : Int) = 43
        · have h35 : ¬ (b.toNat : Int) = 35 := by omega
          cases h1 : decide (z.length = 1)
          · (simp (disch := first | omega | rfl) only [PS, ite_t, ite_f, ↓bind_s, List.length_cons, List.length_nil, addW_eq, subW_eq, if_pos, if_neg])
            exact stop (by simp [badN, h43, h1])
          · (simp (disch := first | omega | rfl) only [PS, ite_t, ite_f, ↓bind_s, List.length_cons, List.length_nil, addW_eq, subW_eq, if_pos, if_neg])
            exact cont (by simp [badN, h43, h1])
        · by_cases h35 : (b.toNat : Int) = 35
          · cases h1 : decide (z.length = 1)
            · (simp (disch := first | omega | rfl) only [PS, ite_t, ite_f, ↓bind_s, List.length_cons, List.length_nil, addW_eq, subW_eq, if_pos, if_neg])
              exact stop (by simp [badN, h35, h1])
            · cases hla : last
              · (simp (disch := first | omega | rfl) only [PS, ite_t, ite_f, ↓bind_s, List.length_cons, List.length_nil, addW_eq, subW_eq, if_pos, if_neg])
                refine stop ?_
                rw [hla]
                simp [badN, h35, h1]
              · (simp (disch := first | omega | rfl) only [PS, ite_t, ite_f, ↓bind_s, List.length_cons, List.length_nil, addW_eq, subW_eq, if_pos, if_neg])
                refine cont ?_
                rw [hla]
                simp [badN, h35, h1]
          · (simp (disch := first | omega | rfl) only [PS, ite_t, ite_f, ↓bind_s, List.length_cons, List.length_nil, addW_eq, subW_eq, if_pos, if_neg])
            exact cont (by simp [badN, h43, h35])
      · obtain ⟨r1, r2, r3, r4⟩ := decode_at_high hlt' (by rw [show (bs (⟨z.toArray⟩ : ByteArray))[i]'(by rw [hbs]; exact hlt) = z[i]'hlt from rfl]; omega)
        have hh := any_highB (s := ⟨z.toArray⟩) (p := badN (decide (z.length = 1)) last) (fun b hb => by
          have q1 : decide ((b.toNat : Int) = 43) = false := by simp; omega
          have q2 : decide ((b.toNat : Int) = 35) = false := by simp; omega
          simp [badN, q1, q2]) _ i r3 r4
        rw [hbs] at hh
        (simp (disch := first | omega | rfl) only [PS, ite_t, ite_f, ↓bind_s, List.length_cons, List.length_nil, addW_eq, subW_eq, if_pos, if_neg])
        refine Ev.succ ?_
        simp only [F51.PL]
        (simp (disch := first | omega | rfl) only [PS, ite_t, ite_f, ↓bind_s, List.length_cons, List.length_nil, addW_eq, subW_eq, if_pos, if_neg])
        exact ih (z.length - (i + (Utf8.decode ⟨z.toArray⟩ i).2)) (by omega) (i + (Utf8.decode ⟨z.toArray⟩ i).2) rfl (by rw [← hsz]; exact r3) (by rw [ha, hh])
    · have hnb : Nat.blt i (⟨z.toArray⟩ : ByteArray).size = false := by
        cases e : Nat.blt i (⟨z.toArray⟩ : ByteArray).size with
        | false => rfl
        | true => rw [tt_nblt, hsz] at e; exact absurd e hlt
      simp only [hnb, Bool.false_eq_true, if_false]
      refine ok ?_
      rw [ha, List.drop_eq_nil_of_le (by omega)]
      rfl
theorem F51.loop {s : ByteArray} {L : List (List UInt8)} (hL : L.length ≤ 5000) : ∀ (post pre : List (List UInt8)), L = pre ++ post → Ev (fun n => F51.PL s n (.l0 (strs L) (strs L) (L.length : Int) (pre.length : Int))) (.bool (filtL post))
  | [], pre, h => by
    have hl := len_end h
    refine Ev.succ ?_
    simp only [F51.PL]
    (simp (disch := first | omega | rfl) only [PS, ite_t, ite_f, ↓bind_s, List.length_cons, List.length_nil, addW_eq, subW_eq, if_pos, if_neg])
    exact Ev.const
  | z :: post, pre, h => by
    have hl := len_mid h
    have ih := F51.loop (s := s) hL post (pre ++ [z]) (by rw [h]; simp)
    have e1 : addW .i64 (pre.length : Int) 1 = ((pre ++ [z]).length : Int) := add1 (by omega)
    have hsub : subW .i64 (L.length : Int) 1 = (L.length : Int) - 1 := subW_eq (by omega) (by omega)
    have hlast : ltI (pre.length : Int) (subW .i64 (lenI (strs L)) 1) = !post.isEmpty := by
      rw [strs_lenI, hsub]
      unfold ltI
      cases post with
      | nil => simp at hl ⊢; omega
      | cons y post => simp at hl ⊢; omega
    refine Ev.succ ?_
    simp only [F51.PL, strs_lenI, strs_at h, ce_0, toStr_str]
    (simp (disch := first | omega | rfl) only [PS, ite_t, ite_f, ↓bind_s, List.length_cons, List.length_nil, addW_eq, subW_eq, if_pos, if_neg])
    refine F51.inner hlast (fun hb => ?_) (fun hb => ?_) z.length 0 rfl (Nat.zero_le _) rfl
    · rw [e1]
      rw [badN_any] at hb
      have : okL z post.isEmpty = true := by simpa using hb
      simp only [filtL, this, Bool.true_and]
      exact ih
    · rw [badN_any] at hb
      have : okL z post.isEmpty = false := by simpa using hb
      simp only [filtL, this, Bool.false_and]
theorem F51.eq (s : ByteArray) : F51.P s = some (.bool (filterB s)) := by
  refine lim_eq ?_
  rw [F66.eq]
  unfold filterB
  cases h : sizedB s
  · (simp (disch := first | omega | rfl) only [PS, ite_t, ite_f, ↓bind_s, List.length_cons, List.length_nil, addW_eq, subW_eq, if_pos, if_neg])
    simpa using Ev.const
  · have h64 := sizedB_le h
    have := F51.loop (s := s) (cnt64 h) (lv s) [] rfl
    rw [F54.eq (by omega)]
    (simp (disch := first | omega | rfl) only [PS, ite_t, ite_f, ↓bind_s, List.length_cons, List.length_nil, addW_eq, subW_eq, if_pos, if_neg])
    simpa [strs_lenI] using this
def wildL : List (List UInt8) → Bool
  | [] => false
  | z :: _ => decide (z = [43]) || decide (z = [35])
def sysB (s : ByteArray) : Bool := match bs s with | [] => false | b :: _ => decide (b.toNat = 36)
def matchB (f n : ByteArray) : Bool := filterB f && (topicB n && (!(wildL (lv f) && sysB n) && mtL (lv f) (lv n)))
theorem lv_cons (s : ByteArray) : ∃ z r, lv s = z :: r := by
  cases h : lv s with
  | nil => have := lv_len s; rw [h] at this; simp at this
  | cons z r => exact ⟨z, r, rfl⟩
theorem sys_eq (s : ByteArray) : (if ltI 0 (sizeI s) then (if ltI 0 (sizeI s) then some (AV.bool (eqI (bt s 0) 36)) else none) else some (AV.bool false)) = some (AV.bool (sysB s)) := by
  unfold sysB
  cases h : bs s with
  | nil =>
    have : sizeI s = 0 := by rw [sizeI_bs, h]; rfl
    rw [this]
    rfl
  | cons b r =>
    have h1 : sizeI s = (r.length : Int) + 1 := by rw [sizeI_bs, h]; simp
    have h2 : bt s 0 = (b.toNat : Int) := bt_mid (pre := []) h
    have h3 : ltI 0 ((r.length : Int) + 1) = true := by rw [tt_lt]; omega
    rw [h1, h2, h3]
    simp only [if_true, eqI]
    congr 2
    rw [decide_eq_decide]
    omega
theorem F43.eq (s : ByteArray) : F43.P s = some (.bool (sysB s)) := sys_eq s
theorem F68.eq (s : ByteArray) : F68.P s = some (.bool (sysB s)) := sys_eq s
theorem F67.eq (z : List UInt8) : F67.P ⟨z.toArray⟩ = some (.bool (decide (z = [43]) || decide (z = [35]))) := by
  have f35 : eqS ⟨z.toArray⟩ ⟨#[35]⟩ = decide (z = [35]) := str_eq (b := [35])
  have f43 : eqS ⟨z.toArray⟩ ⟨#[43]⟩ = decide (z = [43]) := str_eq (b := [43])
  unfold F67.P
  rw [f35, f43]
  cases decide (z = [43]) <;> simp
theorem F42.eq {L : List (List UInt8)} (h : L ≠ []) : F42.P (strs L) = some (.bool (wildL L)) := by
  obtain ⟨z, r, rfl⟩ := List.exists_cons_of_ne_nil h
  have f35 : eqS ⟨z.toArray⟩ ⟨#[35]⟩ = decide (z = [35]) := str_eq (b := [35])
  have f43 : eqS ⟨z.toArray⟩ ⟨#[43]⟩ = decide (z = [43]) := str_eq (b := [43])
  have hl : ltI 0 (lenI (strs (z :: r))) = true := by rw [strs_lenI, tt_lt]; simp
  have h0 : ro (strs (z :: r)) 0 = [.str ⟨z.toArray⟩] := rfl
  unfold F42.P
  simp only [hl, h0, ce_0, toStr_str, f35, f43, wildL]
  cases decide (z = [43]) <;> cases decide (z = [35]) <;> (simp (disch := first | omega | rfl) only [PS, ite_t, ite_f, ↓bind_s, List.length_cons, List.length_nil, addW_eq, subW_eq, if_pos, if_neg]) <;> simp
theorem F53.eq {f n : ByteArray} (hf : f.size ≤ 4096) : F53.P f n = some (.bool (wildL (lv f) && sysB n)) := by
  obtain ⟨z, r, h⟩ := lv_cons f
  unfold F53.P
  rw [F54.eq hf, h]
  have hl : ltI 0 (lenI (strs (z :: r))) = true := by rw [strs_lenI, tt_lt]; simp
  have h0 : ro (strs (z :: r)) 0 = [.str ⟨z.toArray⟩] := rfl
  simp only [hl, h0, ce_0, bind_s, isSl_s, if_true, slXs_sl, toStr_str, F67.eq, F68.eq, wildL]
  cases decide (z = [43]) <;> cases decide (z = [35]) <;> (simp (disch := first | omega | rfl) only [PS, ite_t, ite_f, ↓bind_s, List.length_cons, List.length_nil, addW_eq, subW_eq, if_pos, if_neg]) <;> simp
theorem topicB_le {s : ByteArray} (h : topicB s = true) : s.size ≤ 64 ∧ sizedB s = true := by
  simp only [topicB, Bool.and_eq_true] at h
  exact ⟨sizedB_le h.1, h.1⟩
theorem filterB_le {s : ByteArray} (h : filterB s = true) : s.size ≤ 64 ∧ sizedB s = true := by
  simp only [filterB, Bool.and_eq_true] at h
  exact ⟨sizedB_le h.1, h.1⟩
theorem F19.eq (f n : ByteArray) : F19.P f n = some (.bool (matchB f n)) := by
  unfold F19.P matchB
  rw [F39.eq]
  cases hf : filterB f
  · (simp (disch := first | omega | rfl) only [PS, ite_t, ite_f, ↓bind_s, List.length_cons, List.length_nil, addW_eq, subW_eq, if_pos, if_neg])
    simp
  · rw [F40.eq]
    cases hn : topicB n
    · (simp (disch := first | omega | rfl) only [PS, ite_t, ite_f, ↓bind_s, List.length_cons, List.length_nil, addW_eq, subW_eq, if_pos, if_neg])
      simp
    · obtain ⟨f1, f2⟩ := filterB_le hf
      obtain ⟨n1, n2⟩ := topicB_le hn
      obtain ⟨z, r, h⟩ := lv_cons f
      rw [F41.eq (by omega), F41.eq (by omega)]
      have h1 : F42.P (strs (lv f)) = some (.bool (wildL (lv f))) := F42.eq (by rw [h]; nofun)
      have hlf := cnt64 f2
      have hln := cnt64 n2
      have h2 : LevP.P [.sl 0 1 (strs (lv f)), .sl 0 1 (strs (lv n)), .int .i64 0, .int .i64 0] = some (.bool (mtL (lv f) (lv n))) := LevP.of (by omega) (by omega)
      simp only [bind_s, isSl_s, isBool_b, toBool_bool, if_true, Bool.not_true, Bool.false_eq_true, if_false, slXs_sl, h1, h2, F43.eq]
      cases wildL (lv f) <;> cases sysB n <;> (simp (disch := first | omega | rfl) only [PS, ite_t, ite_f, ↓bind_s, List.length_cons, List.length_nil, addW_eq, subW_eq, if_pos, if_neg]) <;> simp
theorem F33.loop {f n : ByteArray} {F N : List (List UInt8)} (hF : F.length ≤ 5000) (hN : N.length ≤ 5000) : ∀ (fs pre preN ns : List (List UInt8)), F = pre ++ fs → N = preN ++ ns → preN.length = pre.length →
    Ev (fun m => F33.PL f n m (.l0 (strs F) (strs N) (strs F) (F.length : Int) (pre.length : Int))) (.bool (mtL fs ns))
  | [], pre, preN, ns, h1, h2, h3 => by
    have e1 : F.length = pre.length := by rw [h1]; simp
    have e2 : N.length = preN.length + ns.length := by rw [h2]; simp
    refine Ev.succ ?_
    simp only [F33.PL, strs_lenI]
    (simp (disch := first | omega | rfl) only [PS, ite_t, ite_f, ↓bind_s, List.length_cons, List.length_nil, addW_eq, subW_eq, if_pos, if_neg])
    refine Ev.of ?_
    congr 1
    unfold eqI mtL
    cases ns with
    | nil => simp at e2 ⊢; omega
    | cons x ns => simp at e2 ⊢; omega
  | z :: fs, pre, preN, ns, h1, h2, h3 => by
    have e1 : F.length = pre.length + (fs.length + 1) := by rw [h1]; simp
    have e2 : N.length = preN.length + ns.length := by rw [h2]; simp
    have a1 : addW .i64 (pre.length : Int) 1 = ((pre ++ [z]).length : Int) := add1 (by omega)
    have f35 : eqS ⟨z.toArray⟩ ⟨#[35]⟩ = decide (z = [35]) := str_eq (b := [35])
    have f43 : eqS ⟨z.toArray⟩ ⟨#[43]⟩ = decide (z = [43]) := str_eq (b := [43])
    refine Ev.succ ?_
    simp only [F33.PL, strs_lenI, strs_at h1, ce_0, toStr_str, f35, f43, a1]
    cases h35 : decide (z = [35])
    · cases ns with
      | nil =>
        have e3 : N.length = pre.length := by simp at e2; omega
        (simp (disch := first | omega | rfl) only [PS, ite_t, ite_f, ↓bind_s, List.length_cons, List.length_nil, addW_eq, subW_eq, if_pos, if_neg])
        simpa [mtL, h35] using Ev.const
      | cons x ns =>
        have e3 : N.length = pre.length + (ns.length + 1) := by simp at e2; omega
        have ih := F33.loop (f := f) (n := n) hF hN fs (pre ++ [z]) (preN ++ [x]) ns (by rw [h1]; simp) (by rw [h2]; simp) (by simp [h3])
        have hx : ro (strs N) (pre.length : Int).toNat = [.str ⟨x.toArray⟩] := by rw [← h3]; exact strs_at h2
        simp only [hx, ce_0, toStr_str, str_eq]
        have hm : mtL (z :: fs) (x :: ns) = ((decide (z = [43]) || decide (z = x)) && mtL fs ns) := by simp only [mtL, h35, Bool.false_or]
        rw [hm]
        cases h43 : decide (z = [43])
        · cases hzx : decide (z = x)
          · (simp (disch := first | omega | rfl) only [PS, ite_t, ite_f, ↓bind_s, List.length_cons, List.length_nil, addW_eq, subW_eq, if_pos, if_neg])
            simpa using Ev.const
          · (simp (disch := first | omega | rfl) only [PS, ite_t, ite_f, ↓bind_s, List.length_cons, List.length_nil, addW_eq, subW_eq, if_pos, if_neg])
            simpa using ih
        · (simp (disch := first | omega | rfl) only [PS, ite_t, ite_f, ↓bind_s, List.length_cons, List.length_nil, addW_eq, subW_eq, if_pos, if_neg])
          simpa using ih
    · (simp (disch := first | omega | rfl) only [PS, ite_t, ite_f, ↓bind_s, List.length_cons, List.length_nil, addW_eq, subW_eq, if_pos, if_neg])
      simpa [mtL, h35] using Ev.const
theorem F33.eq (f n : ByteArray) : F33.P f n = some (.bool (matchB f n)) := by
  have stop : Ev (fun m => F33.PL f n m (.lR1 true)) (.bool false) := by
    refine Ev.succ ?_
    simp only [F33.PL]
    (simp (disch := first | omega | rfl) only [PS, ite_t, ite_f, ↓bind_s, List.length_cons, List.length_nil, addW_eq, subW_eq, if_pos, if_neg])
    exact Ev.const
  refine lim_eq ?_
  unfold matchB
  rw [F51.eq]
  cases hf : filterB f
  · (simp (disch := first | omega | rfl) only [PS, ite_t, ite_f, ↓bind_s, List.length_cons, List.length_nil, addW_eq, subW_eq, if_pos, if_neg])
    simpa using stop
  · rw [F52.eq]
    cases hn : topicB n
    · (simp (disch := first | omega | rfl) only [PS, ite_t, ite_f, ↓bind_s, List.length_cons, List.length_nil, addW_eq, subW_eq, if_pos, if_neg])
      simpa using stop
    · obtain ⟨f1, f2⟩ := filterB_le hf
      obtain ⟨n1, n2⟩ := topicB_le hn
      rw [F53.eq (by omega)]
      cases hb : (wildL (lv f) && sysB n)
      · have := F33.loop (f := f) (n := n) (cnt64 f2) (cnt64 n2) (lv f) [] [] (lv n) rfl rfl rfl
        (simp (disch := first | omega | rfl) only [PS, ite_t, ite_f, ↓bind_s, List.length_cons, List.length_nil, addW_eq, subW_eq, if_pos, if_neg])
        refine Ev.succ ?_
        simp only [F33.PL, F54.eq (show f.size ≤ 4096 by omega), F54.eq (show n.size ≤ 4096 by omega), slXs_sl, bind_s, isSl_s, if_true, Bool.false_eq_true, if_false, strs_lenI]
        simpa using this
      · (simp (disch := first | omega | rfl) only [PS, ite_t, ite_f, ↓bind_s, List.length_cons, List.length_nil, addW_eq, subW_eq, if_pos, if_neg])
        simpa using stop
end Go.Proofs.YtgmkkjmdflhbnaaDoor.Ab
end
section
namespace Go.Proofs.YtgmkkjmdflhbnaaDoor.Ab
open Go
set_option maxHeartbeats 1000000
structure Pp where
  k : ByteArray
  v : ByteArray
  deriving DecidableEq
def Pp.enc (p : Pp) : List AV := [.str p.k, .str p.v]
def props (l : List Pp) : List (List AV) := l.map Pp.enc
theorem length_props {l : List Pp} : (props l).length = l.length := by simp [props]
theorem lenI_props {l : List Pp} : lenI (props l) = (l.length : Int) := lenI_map
theorem props_at {l pre post : List Pp} {x : Pp} (h : l = pre ++ x :: post) : ro (props l) (pre.length : Int).toNat = [.str x.k, .str x.v] := ro_at h
theorem eqS_self (s : ByteArray) : eqS s s = true := by simp [eqS]
def prevOk (prev : Option ByteArray) (k : ByteArray) : Bool := match prev with
  | none => true
  | some j => ltS j k
def chkP (prev : Option ByteArray) : List Pp → Int
  | [] => 0
  | p :: r => if keyB p.k then (if 160 < p.v.size then 5 else if prevOk prev p.k then chkP (some p.k) r else 16) else 16
def lastK (pre : List Pp) (prev : Option ByteArray) : Prop := (pre = [] ∧ prev = none) ∨ ∃ pre' x, pre = pre' ++ [x] ∧ prev = some x.k
theorem lastK_snoc (pre : List Pp) (p : Pp) : lastK (pre ++ [p]) (some p.k) := .inr ⟨pre, p, rfl, rfl⟩
theorem F65.loop {l : List Pp} (hs : l.length ≤ 8) : ∀ (post pre : List Pp) (prev : Option ByteArray), l = pre ++ post → lastK pre prev → Ev (fun n => F65.PL (props l) n (.l0 (pre.length : Int))) (.int .i64 (chkP prev post))
  | [], pre, prev, h, hp => by
    have hl := len_end h
    refine Ev.succ ?_
    simp only [F65.PL, lenI_props]
    (simp (disch := first | omega | rfl) only [PS, ite_t, ite_f, ↓bind_s, List.length_cons, List.length_nil, addW_eq, subW_eq, if_pos, if_neg])
    exact Ev.const
  | p :: post, pre, prev, h, hp => by
    have hl := len_mid h
    have ih := F65.loop hs post (pre ++ [p]) (some p.k) (by rw [h]; simp) (lastK_snoc pre p)
    have e1 : (pre.length : Int) + 1 = ((pre ++ [p]).length : Int) := by simp
    have hz : sizeI p.v = (p.v.size : Int) := rfl
    refine Ev.succ ?_
    simp only [F65.PL, lenI_props, props_at h, ce_0, ce_s, toStr_str, F84.eq, hz, chkP]
    cases hk : keyB p.k
    · (simp (disch := first | omega | rfl) only [PS, ite_t, ite_f, ↓bind_s, List.length_cons, List.length_nil, addW_eq, subW_eq, if_pos, if_neg])
      simpa using Ev.const
    · by_cases hv : 160 < p.v.size
      · (simp (disch := first | omega | rfl) only [PS, ite_t, ite_f, ↓bind_s, List.length_cons, List.length_nil, addW_eq, subW_eq, if_pos, if_neg])
        simpa using Ev.const
      · rcases hp with ⟨rfl, rfl⟩ | ⟨pre', x, hx, rfl⟩
        · have e0 : (([] : List Pp).length : Int) = 0 := rfl
          rw [e0]
          rw [List.nil_append] at ih
          have e1' : (([p] : List Pp).length : Int) = 1 := rfl
          rw [e1'] at ih
          (simp (disch := first | omega | rfl) only [PS, ite_t, ite_f, ↓bind_s, List.length_cons, List.length_nil, addW_eq, subW_eq, if_pos, if_neg])
          simp only [prevOk]
          simpa using ih
        · have hpl : pre.length = pre'.length + 1 := by rw [hx]; simp
          have hat : ro (props l) (subW .i64 (pre.length : Int) 1).toNat = [.str x.k, .str x.v] := by
            rw [subW_eq (by omega) (by omega), show ((pre.length : Int) - 1) = (pre'.length : Int) by omega]
            exact props_at (pre := pre') (post := p :: post) (by rw [h, hx]; simp)
          simp only [hat, ce_0, toStr_str, prevOk]
          rcases Bool.eq_false_or_eq_true (ltS x.k p.k) with hlt | hlt
          · simp only [hlt]
            (simp (disch := first | omega | rfl) only [PS, ite_t, ite_f, ↓bind_s, List.length_cons, List.length_nil, addW_eq, subW_eq, if_pos, if_neg])
            rw [e1]
            simpa using ih
          · simp only [hlt]
            (simp (disch := first | omega | rfl) only [PS, ite_t, ite_f, ↓bind_s, List.length_cons, List.length_nil, addW_eq, subW_eq, if_pos, if_neg])
            simpa using Ev.const
theorem F65.eq (l : List Pp) : F65.P (props l) = some (.int .i64 (if 8 < l.length then 5 else chkP none l)) := by
  refine lim_eq ?_
  rw [lenI_props]
  by_cases h : 8 < l.length
  · (simp (disch := first | omega | rfl) only [PS, ite_t, ite_f, ↓bind_s, List.length_cons, List.length_nil, addW_eq, subW_eq, if_pos, if_neg])
    exact Ev.const
  · (simp (disch := first | omega | rfl) only [PS, ite_t, ite_f, ↓bind_s, List.length_cons, List.length_nil, addW_eq, subW_eq, if_pos, if_neg])
    exact F65.loop (by omega) l [] none rfl (.inl ⟨rfl, rfl⟩)
theorem F63.loop {l : List Pp} (hs : l.length ≤ 8) : ∀ (post pre : List Pp) (prev : Option ByteArray), l = pre ++ post → lastK pre prev → Ev (fun n => F63.PL (props l) n (.l0 (pre.length : Int))) (.int .i64 (chkP prev post))
  | [], pre, prev, h, hp => by
    have hl := len_end h
    refine Ev.succ ?_
    simp only [F63.PL, lenI_props]
    (simp (disch := first | omega | rfl) only [PS, ite_t, ite_f, ↓bind_s, List.length_cons, List.length_nil, addW_eq, subW_eq, if_pos, if_neg])
    exact Ev.const
  | p :: post, pre, prev, h, hp => by
    have hl := len_mid h
    have ih := F63.loop hs post (pre ++ [p]) (some p.k) (by rw [h]; simp) (lastK_snoc pre p)
    have e1 : (pre.length : Int) + 1 = ((pre ++ [p]).length : Int) := by simp
    have hz : sizeI p.v = (p.v.size : Int) := rfl
    refine Ev.succ ?_
    simp only [F63.PL, lenI_props, props_at h, ce_0, ce_s, toStr_str, F81.eq, hz, chkP]
    cases hk : keyB p.k
    · (simp (disch := first | omega | rfl) only [PS, ite_t, ite_f, ↓bind_s, List.length_cons, List.length_nil, addW_eq, subW_eq, if_pos, if_neg])
      simpa using Ev.const
    · by_cases hv : 160 < p.v.size
      · (simp (disch := first | omega | rfl) only [PS, ite_t, ite_f, ↓bind_s, List.length_cons, List.length_nil, addW_eq, subW_eq, if_pos, if_neg])
        simpa using Ev.const
      · rcases hp with ⟨rfl, rfl⟩ | ⟨pre', x, hx, rfl⟩
        · have e0 : (([] : List Pp).length : Int) = 0 := rfl
          rw [e0]
          rw [List.nil_append] at ih
          have e1' : (([p] : List Pp).length : Int) = 1 := rfl
          rw [e1'] at ih
          (simp (disch := first | omega | rfl) only [PS, ite_t, ite_f, ↓bind_s, List.length_cons, List.length_nil, addW_eq, subW_eq, if_pos, if_neg])
          simp only [prevOk]
          simpa using ih
        · have hpl : pre.length = pre'.length + 1 := by rw [hx]; simp
          have hat : ro (props l) (subW .i64 (pre.length : Int) 1).toNat = [.str x.k, .str x.v] := by
            rw [subW_eq (by omega) (by omega), show ((pre.length : Int) - 1) = (pre'.length : Int) by omega]
            exact props_at (pre := pre') (post := p :: post) (by rw [h, hx]; simp)
          simp only [hat, ce_0, toStr_str, prevOk]
          rcases Bool.eq_false_or_eq_true (ltS x.k p.k) with hlt | hlt
          · simp only [hlt]
            (simp (disch := first | omega | rfl) only [PS, ite_t, ite_f, ↓bind_s, List.length_cons, List.length_nil, addW_eq, subW_eq, if_pos, if_neg])
            rw [e1]
            simpa using ih
          · simp only [hlt]
            (simp (disch := first | omega | rfl) only [PS, ite_t, ite_f, ↓bind_s, List.length_cons, List.length_nil, addW_eq, subW_eq, if_pos, if_neg])
            simpa using Ev.const
theorem F63.eq (l : List Pp) : F63.P (props l) = some (.int .i64 (if 8 < l.length then 5 else chkP none l)) := by
  refine lim_eq ?_
  rw [lenI_props]
  by_cases h : 8 < l.length
  · (simp (disch := first | omega | rfl) only [PS, ite_t, ite_f, ↓bind_s, List.length_cons, List.length_nil, addW_eq, subW_eq, if_pos, if_neg])
    exact Ev.const
  · (simp (disch := first | omega | rfl) only [PS, ite_t, ite_f, ↓bind_s, List.length_cons, List.length_nil, addW_eq, subW_eq, if_pos, if_neg])
    exact F63.loop (by omega) l [] none rfl (.inl ⟨rfl, rfl⟩)
def isB (a b : Int) : Bool := !(ltI a 0) && !(ltI b a)
theorem F61.eq (a b : Int) : F61.P a b = some (.bool (isB a b)) := by
  unfold F61.P isB
  have h1 : leI 0 a = !(ltI a 0) := by unfold leI ltI; by_cases h : 0 ≤ a <;> simp [h] <;> omega
  have h2 : leI a b = !(ltI b a) := by unfold leI ltI; by_cases h : a ≤ b <;> simp [h] <;> omega
  rw [h1, h2]
  cases ltI a 0 <;> simp
structure Mg where
  t : ByteArray
  p : ByteArray
  lv : Int
  rt : Bool
  pr : Int
  ex : Int
  fr : ByteArray
  sq : Int
  ps : List Pp
  deriving DecidableEq
def Mg.enc (m : Mg) : List AV := [.str m.t, .str m.p, .int .i64 m.lv, .bool m.rt, .int .i64 m.pr, .int .i64 m.ex, .str m.fr, .int .i64 m.sq, .sl 0 2 (props m.ps)]
def msgs (l : List Mg) : List (List AV) := l.map Mg.enc
theorem length_msgs {l : List Mg} : (msgs l).length = l.length := by simp [msgs]
theorem lenI_msgs {l : List Mg} : lenI (msgs l) = (l.length : Int) := lenI_map
theorem msgs_at {l pre post : List Mg} {x : Mg} (h : l = pre ++ x :: post) : ro (msgs l) (pre.length : Int).toNat = [.str x.t, .str x.p, .int .i64 x.lv, .bool x.rt, .int .i64 x.pr, .int .i64 x.ex, .str x.fr, .int .i64 x.sq, .sl 0 2 (props x.ps)] := ro_at (f := Mg.enc) h
theorem msgs_atN {l pre post : List Mg} {x : Mg} (h : l = pre ++ x :: post) : ro (msgs l) pre.length = [.str x.t, .str x.p, .int .i64 x.lv, .bool x.rt, .int .i64 x.pr, .int .i64 x.ex, .str x.fr, .int .i64 x.sq, .sl 0 2 (props x.ps)] := by simpa using msgs_at h
theorem msgs_snoc {l : List Mg} {x : Mg} : msgs l ++ [[.str x.t, .str x.p, .int .i64 x.lv, .bool x.rt, .int .i64 x.pr, .int .i64 x.ex, .str x.fr, .int .i64 x.sq, .sl 0 2 (props x.ps)]] = msgs (l ++ [x]) := by simp [msgs, Mg.enc]
theorem room_msgs {l r : List Mg} (h : l.length + r.length ≤ 100000) : room (msgs l) (msgs r) 112 = true := by rw [tt_room, length_msgs, length_msgs]; omega
theorem room_msg {l : List Mg} {x : List AV} (h : l.length ≤ 10000) : room (msgs l) [x] 112 = true := by rw [tt_room, length_msgs]; simp only [List.length_cons, List.length_nil]; omega
def chkM (m : Mg) : Int :=
  if topicB m.t then (if 256 < m.p.size then 5 else if isB m.lv 2 then (if isB m.pr 9 then (if isB m.ex 1099511627776 then (if !(eqS m.fr ⟨#[]⟩) && !(nameB m.fr) then 11 else if isB m.sq 1099511627776 then (if 8 < m.ps.length then 5 else chkP none m.ps) else 1) else 1) else 1) else 14) else 12
theorem chkM_ps {m : Mg} (h : chkM m = 0) : m.ps.length ≤ 8 := by
  unfold chkM at h
  repeat' split at h
  all_goals first | omega | skip
theorem F49.eq (m : Mg) : F49.P m.t m.p m.lv m.rt m.pr m.ex m.fr m.sq (props m.ps) = some (.int .i64 (chkM m)) := by
  have hz : sizeI m.p = (m.p.size : Int) := rfl
  unfold F49.P chkM
  simp only [F52.eq, F61.eq, F62.eq, F63.eq, hz]
  cases topicB m.t
  · (simp (disch := first | omega | rfl) only [PS, ite_t, ite_f, ↓bind_s, List.length_cons, List.length_nil, addW_eq, subW_eq, if_pos, if_neg])
  by_cases h1 : 256 < m.p.size
  · (simp (disch := first | omega | rfl) only [PS, ite_t, ite_f, ↓bind_s, List.length_cons, List.length_nil, addW_eq, subW_eq, if_pos, if_neg])
  cases isB m.lv 2
  · (simp (disch := first | omega | rfl) only [PS, ite_t, ite_f, ↓bind_s, List.length_cons, List.length_nil, addW_eq, subW_eq, if_pos, if_neg])
  cases isB m.pr 9
  · (simp (disch := first | omega | rfl) only [PS, ite_t, ite_f, ↓bind_s, List.length_cons, List.length_nil, addW_eq, subW_eq, if_pos, if_neg])
  cases isB m.ex 1099511627776
  · (simp (disch := first | omega | rfl) only [PS, ite_t, ite_f, ↓bind_s, List.length_cons, List.length_nil, addW_eq, subW_eq, if_pos, if_neg])
  cases eqS m.fr ⟨#[]⟩ <;> cases nameB m.fr <;> cases isB m.sq 1099511627776 <;> (simp (disch := first | omega | rfl) only [PS, ite_t, ite_f, ↓bind_s, List.length_cons, List.length_nil, addW_eq, subW_eq, if_pos, if_neg]) <;> simp
theorem F50.eq (m : Mg) : F50.P m.t m.p m.lv m.rt m.pr m.ex m.fr m.sq (props m.ps) = some (.int .i64 (chkM m)) := by
  have hz : sizeI m.p = (m.p.size : Int) := rfl
  have bad : Ev (fun n => F50.PL m.t m.p m.lv m.rt m.pr m.ex m.fr m.sq (props m.ps) n (.lR7 true)) (.int .i64 1) := by
    refine Ev.succ ?_
    simp only [F50.PL]
    (simp (disch := first | omega | rfl) only [PS, ite_t, ite_f, ↓bind_s, List.length_cons, List.length_nil, addW_eq, subW_eq, if_pos, if_neg])
    exact Ev.const
  refine lim_eq ?_
  unfold chkM
  simp only [F40.eq, hz, isB]
  cases topicB m.t
  · (simp (disch := first | omega | rfl) only [PS, ite_t, ite_f, ↓bind_s, List.length_cons, List.length_nil, addW_eq, subW_eq, if_pos, if_neg])
    exact Ev.const
  by_cases h1 : 256 < m.p.size
  · (simp (disch := first | omega | rfl) only [PS, ite_t, ite_f, ↓bind_s, List.length_cons, List.length_nil, addW_eq, subW_eq, if_pos, if_neg])
    exact Ev.const
  rcases Bool.eq_false_or_eq_true (ltI m.lv 0) with a1 | a1
  · simp only [a1]
    (simp (disch := first | omega | rfl) only [PS, ite_t, ite_f, ↓bind_s, List.length_cons, List.length_nil, addW_eq, subW_eq, if_pos, if_neg])
    simpa using Ev.const
  rcases Bool.eq_false_or_eq_true (ltI 2 m.lv) with a2 | a2
  · simp only [a1, a2]
    (simp (disch := first | omega | rfl) only [PS, ite_t, ite_f, ↓bind_s, List.length_cons, List.length_nil, addW_eq, subW_eq, if_pos, if_neg])
    simpa using Ev.const
  rcases Bool.eq_false_or_eq_true (ltI m.pr 0) with a3 | a3
  · simp only [a1, a2, a3]
    (simp (disch := first | omega | rfl) only [PS, ite_t, ite_f, ↓bind_s, List.length_cons, List.length_nil, addW_eq, subW_eq, if_pos, if_neg])
    simpa using bad
  rcases Bool.eq_false_or_eq_true (ltI 9 m.pr) with a4 | a4
  · simp only [a1, a2, a3, a4]
    (simp (disch := first | omega | rfl) only [PS, ite_t, ite_f, ↓bind_s, List.length_cons, List.length_nil, addW_eq, subW_eq, if_pos, if_neg])
    simpa using bad
  rcases Bool.eq_false_or_eq_true (ltI m.ex 0) with a5 | a5
  · simp only [a1, a2, a3, a4, a5]
    (simp (disch := first | omega | rfl) only [PS, ite_t, ite_f, ↓bind_s, List.length_cons, List.length_nil, addW_eq, subW_eq, if_pos, if_neg])
    simpa using bad
  rcases Bool.eq_false_or_eq_true (ltI 1099511627776 m.ex) with a6 | a6
  · simp only [a1, a2, a3, a4, a5, a6]
    (simp (disch := first | omega | rfl) only [PS, ite_t, ite_f, ↓bind_s, List.length_cons, List.length_nil, addW_eq, subW_eq, if_pos, if_neg])
    simpa using bad
  simp only [a1, a2, a3, a4, a5, a6]
  (simp (disch := first | omega | rfl) only [PS, ite_t, ite_f, ↓bind_s, List.length_cons, List.length_nil, addW_eq, subW_eq, if_pos, if_neg])
  refine Ev.succ ?_
  simp only [F50.PL, F64.eq, F65.eq]
  rcases Bool.eq_false_or_eq_true (eqS m.fr ⟨#[]⟩) with b1 | b1 <;> rcases Bool.eq_false_or_eq_true (nameB m.fr) with b2 | b2 <;> rcases Bool.eq_false_or_eq_true (ltI m.sq 0) with b3 | b3 <;> rcases Bool.eq_false_or_eq_true (ltI 1099511627776 m.sq) with b4 | b4 <;>
    simp only [b1, b2, b3, b4] <;> (simp (disch := first | omega | rfl) only [PS, ite_t, ite_f, ↓bind_s, List.length_cons, List.length_nil, addW_eq, subW_eq, if_pos, if_neg]) <;> simpa using Ev.const
def chkR (m : Mg) : Int := if chkM m = 0 then (if m.rt then 0 else 28) else chkM m
theorem F27.eq (m : Mg) : F27.P m.t m.p m.lv m.rt m.pr m.ex m.fr m.sq (props m.ps) = some (.int .i64 (chkR m)) := by
  unfold F27.P chkR
  rw [F50.eq]
  by_cases h : chkM m = 0
  · (simp (disch := first | omega | rfl) only [PS, ite_t, ite_f, ↓bind_s, List.length_cons, List.length_nil, addW_eq, subW_eq, if_pos, if_neg])
    cases m.rt <;> simp
  · (simp (disch := first | omega | rfl) only [PS, ite_t, ite_f, ↓bind_s, List.length_cons, List.length_nil, addW_eq, subW_eq, if_pos, if_neg])
def expd (m : Mg) (now : Int) : Bool := !(eqI m.ex 0) && leI m.ex now
theorem F24.eq (m : Mg) (now : Int) : F24.P m.t m.p m.lv m.rt m.pr m.ex m.fr m.sq (props m.ps) now = some (.bool (expd m now)) := by
  unfold F24.P expd
  cases eqI m.ex 0 <;> simp
theorem F32.eq (m : Mg) (now : Int) : F32.P m.t m.p m.lv m.rt m.pr m.ex m.fr m.sq (props m.ps) now = some (.bool (expd m now)) := by
  unfold F32.P expd
  cases eqI m.ex 0 <;> simp
theorem F38.loop {l r : List Pp} (hs : l.length ≤ 100000) (hlr : r.length = l.length) : ∀ (post pre preR postR : List Pp), l = pre ++ post → r = preR ++ postR → preR.length = pre.length → Ev (fun n => F38.PL (props l) (props r) n (.l0 (pre.length : Int))) (.bool (decide (post = postR)))
  | [], pre, preR, postR, h, hr, hp => by
    have hl := len_end h
    have hrl : r.length = preR.length + postR.length := by rw [hr]; simp
    have : postR = [] := List.length_eq_zero_iff.1 (by omega)
    subst this
    refine Ev.succ ?_
    simp only [F38.PL, lenI_props]
    (simp (disch := first | omega | rfl) only [PS, ite_t, ite_f, ↓bind_s, List.length_cons, List.length_nil, addW_eq, subW_eq, if_pos, if_neg])
    exact Ev.const
  | p :: post, pre, preR, [], h, hr, hp => by
    have hl := len_mid h
    have hrl : r.length = preR.length := by rw [hr]; simp
    omega
  | p :: post, pre, preR, q :: postR, h, hr, hp => by
    have hl := len_mid h
    have hrl := len_mid hr
    have ih := F38.loop hs hlr post (pre ++ [p]) (preR ++ [q]) postR (by rw [h]; simp) (by rw [hr]; simp) (by simp [hp])
    have e1 : (pre.length : Int) + 1 = ((pre ++ [p]).length : Int) := by simp
    have hq : ro (props r) (pre.length : Int).toNat = [.str q.k, .str q.v] := by rw [← hp]; exact props_at hr
    refine Ev.succ ?_
    simp only [F38.PL, lenI_props, props_at h, hq, ce_0, ce_s, toStr_str, Bool.and_true]
    obtain ⟨pk, pv⟩ := p
    obtain ⟨qk, qv⟩ := q
    simp only
    by_cases h1 : pk = qk
    · by_cases h2 : pv = qv
      · subst h1 h2
        simp only [eqS_self, Bool.and_true, Bool.not_true]
        (simp (disch := first | omega | rfl) only [PS, ite_t, ite_f, ↓bind_s, List.length_cons, List.length_nil, addW_eq, subW_eq, if_pos, if_neg])
        rw [e1]
        simpa using ih
      · have : eqS pv qv = false := by simp [eqS, h2]
        simp only [this, Bool.and_false, Bool.not_false]
        (simp (disch := first | omega | rfl) only [PS, ite_t, ite_f, ↓bind_s, List.length_cons, List.length_nil, addW_eq, subW_eq, if_pos, if_neg])
        simpa [h2] using Ev.const
    · have : eqS pk qk = false := by simp [eqS, h1]
      simp only [this, Bool.false_and, Bool.not_false]
      (simp (disch := first | omega | rfl) only [PS, ite_t, ite_f, ↓bind_s, List.length_cons, List.length_nil, addW_eq, subW_eq, if_pos, if_neg])
      simpa [h1] using Ev.const
theorem F38.eq {l r : List Pp} (hs : l.length ≤ 100000) : F38.P (props l) (props r) = some (.bool (decide (l = r))) := by
  refine lim_eq ?_
  simp only [lenI_props]
  by_cases h : l.length = r.length
  · have := F38.loop hs h.symm l [] [] r rfl rfl rfl
    (simp (disch := first | omega | rfl) only [PS, ite_t, ite_f, ↓bind_s, List.length_cons, List.length_nil, addW_eq, subW_eq, if_pos, if_neg])
    simpa using this
  · have : ¬ l = r := fun e => h (by rw [e])
    (simp (disch := first | omega | rfl) only [PS, ite_t, ite_f, ↓bind_s, List.length_cons, List.length_nil, addW_eq, subW_eq, if_pos, if_neg])
    simpa [this] using Ev.const
theorem F18.eq {a b : Mg} (hs : a.ps.length ≤ 100000) : F18.P a.t a.p a.lv a.rt a.pr a.ex a.fr a.sq (props a.ps) b.t b.p b.lv b.rt b.pr b.ex b.fr b.sq (props b.ps) = some (.bool (decide (a = b))) := by
  unfold F18.P
  rw [F38.eq hs]
  obtain ⟨t, p, lv, rt, pr, ex, fr, sq, ps⟩ := a
  obtain ⟨t', p', lv', rt', pr', ex', fr', sq', ps'⟩ := b
  simp only [Mg.mk.injEq]
  by_cases h1 : t = t'
  case neg => (simp (disch := first | omega | rfl) only [PS, ite_t, ite_f, ↓bind_s, List.length_cons, List.length_nil, addW_eq, subW_eq, if_pos, if_neg]); simp [h1]
  by_cases h2 : p = p'
  case neg => (simp (disch := first | omega | rfl) only [PS, ite_t, ite_f, ↓bind_s, List.length_cons, List.length_nil, addW_eq, subW_eq, if_pos, if_neg]); simp [h2]
  by_cases h3 : lv = lv'
  case neg => (simp (disch := first | omega | rfl) only [PS, ite_t, ite_f, ↓bind_s, List.length_cons, List.length_nil, addW_eq, subW_eq, if_pos, if_neg]); simp [h3]
  by_cases h4 : rt = rt'
  case neg =>
    have : (rt == rt') = false := by simp [h4]
    (simp (disch := first | omega | rfl) only [PS, ite_t, ite_f, ↓bind_s, List.length_cons, List.length_nil, addW_eq, subW_eq, if_pos, if_neg])
    simp [this, h4]
  by_cases h5 : pr = pr'
  case neg => subst h4; (simp (disch := first | omega | rfl) only [PS, ite_t, ite_f, ↓bind_s, List.length_cons, List.length_nil, addW_eq, subW_eq, if_pos, if_neg]); simp [h5]
  by_cases h6 : ex = ex'
  case neg => subst h4; (simp (disch := first | omega | rfl) only [PS, ite_t, ite_f, ↓bind_s, List.length_cons, List.length_nil, addW_eq, subW_eq, if_pos, if_neg]); simp [h6]
  by_cases h7 : fr = fr'
  case neg => subst h4; (simp (disch := first | omega | rfl) only [PS, ite_t, ite_f, ↓bind_s, List.length_cons, List.length_nil, addW_eq, subW_eq, if_pos, if_neg]); simp [h7]
  by_cases h8 : sq = sq'
  case neg => subst h4; (simp (disch := first | omega | rfl) only [PS, ite_t, ite_f, ↓bind_s, List.length_cons, List.length_nil, addW_eq, subW_eq, if_pos, if_neg]); simp [h8]
  subst h4
  (simp (disch := first | omega | rfl) only [PS, ite_t, ite_f, ↓bind_s, List.length_cons, List.length_nil, addW_eq, subW_eq, if_pos, if_neg])
  simp [h1, h2, h3, h5, h6, h7, h8]
def without (l : List Mg) (n : ByteArray) : List Mg := l.filter fun m => !(eqS m.t n)
def fresh (l : List Mg) (now : Int) : List Mg := l.filter fun m => !(expd m now)
def withM : List Mg → Mg → List Mg
  | [], x => [x]
  | m :: r, x => if ltS m.t x.t then m :: withM r x else x :: m :: r
def matM (l : List Mg) (f : ByteArray) (now : Int) : List Mg := l.filter fun m => !(expd m now) && matchB f m.t
theorem F45.loop {l : List Mg} {n : ByteArray} (hs : l.length ≤ 1000) : ∀ (post pre out : List Mg), l = pre ++ post → out.length ≤ pre.length → Ev (fun k => F45.PL (msgs l) n k (.l0 (msgs out) (pre.length : Int))) (.sl 0 9 (msgs (out ++ without post n)))
  | [], pre, out, h, ho => by
    have hl := len_end h
    refine Ev.succ ?_
    simp only [F45.PL, lenI_msgs]
    (simp (disch := first | omega | rfl) only [PS, ite_t, ite_f, ↓bind_s, List.length_cons, List.length_nil, addW_eq, subW_eq, if_pos, if_neg])
    simpa [without] using Ev.const
  | m :: post, pre, out, h, ho => by
    have hl := len_mid h
    have e1 : addW .i64 (pre.length : Int) 1 = ((pre ++ [m]).length : Int) := add1 (by omega)
    refine Ev.succ ?_
    simp only [F45.PL, lenI_msgs, msgs_at h, e1, msgs_snoc, ce_0, ce_s, toStr_str, toInt_int, toBool_bool, slXs_sl, room_msg (show out.length ≤ 10000 by omega)]
    cases hm : eqS m.t n
    · have ih := F45.loop (n := n) hs post (pre ++ [m]) (out ++ [m]) (by rw [h]; simp) (by simp; omega)
      (simp (disch := first | omega | rfl) only [PS, ite_t, ite_f, ↓bind_s, List.length_cons, List.length_nil, addW_eq, subW_eq, if_pos, if_neg])
      simpa [without, List.filter_cons, hm] using ih
    · have ih := F45.loop (n := n) hs post (pre ++ [m]) out (by rw [h]; simp) (by simp; omega)
      (simp (disch := first | omega | rfl) only [PS, ite_t, ite_f, ↓bind_s, List.length_cons, List.length_nil, addW_eq, subW_eq, if_pos, if_neg])
      simpa [without, List.filter_cons, hm] using ih
theorem F45.eq {l : List Mg} {n : ByteArray} (hs : l.length ≤ 1000) : F45.P (msgs l) n = some (.sl 0 9 (msgs (without l n))) := lim_eq (by simpa [msgs] using F45.loop (n := n) hs l [] [] rfl (Nat.le_refl _))
theorem F47.loop {l : List Mg} {n : Int} (hs : l.length ≤ 1000) : ∀ (post pre out : List Mg), l = pre ++ post → out.length ≤ pre.length → Ev (fun k => F47.PL (msgs l) n k (.l0 (msgs out) (pre.length : Int))) (.sl 0 9 (msgs (out ++ fresh post n)))
  | [], pre, out, h, ho => by
    have hl := len_end h
    refine Ev.succ ?_
    simp only [F47.PL, lenI_msgs]
    (simp (disch := first | omega | rfl) only [PS, ite_t, ite_f, ↓bind_s, List.length_cons, List.length_nil, addW_eq, subW_eq, if_pos, if_neg])
    simpa [fresh] using Ev.const
  | m :: post, pre, out, h, ho => by
    have hl := len_mid h
    have e1 : addW .i64 (pre.length : Int) 1 = ((pre ++ [m]).length : Int) := add1 (by omega)
    refine Ev.succ ?_
    simp only [F47.PL, lenI_msgs, msgs_at h, e1, msgs_snoc, ce_0, ce_s, toStr_str, toInt_int, toBool_bool, slXs_sl, room_msg (show out.length ≤ 10000 by omega), F24.eq]
    cases hm : expd m n
    · have ih := F47.loop (n := n) hs post (pre ++ [m]) (out ++ [m]) (by rw [h]; simp) (by simp; omega)
      (simp (disch := first | omega | rfl) only [PS, ite_t, ite_f, ↓bind_s, List.length_cons, List.length_nil, addW_eq, subW_eq, if_pos, if_neg])
      simpa [fresh, List.filter_cons, hm] using ih
    · have ih := F47.loop (n := n) hs post (pre ++ [m]) out (by rw [h]; simp) (by simp; omega)
      (simp (disch := first | omega | rfl) only [PS, ite_t, ite_f, ↓bind_s, List.length_cons, List.length_nil, addW_eq, subW_eq, if_pos, if_neg])
      simpa [fresh, List.filter_cons, hm] using ih
theorem F47.eq {l : List Mg} {n : Int} (hs : l.length ≤ 1000) : F47.P (msgs l) n = some (.sl 0 9 (msgs (fresh l n))) := lim_eq (by simpa [msgs] using F47.loop (n := n) hs l [] [] rfl (Nat.le_refl _))
theorem F46.loop {l : List Mg} {n : ByteArray} (hs : l.length ≤ 1000) : ∀ (post pre : List Mg), l = pre ++ post → Ev (fun k => F46.PL (msgs l) n k (.l0 (pre.length : Int))) (.int .i64 (idx (fun m => eqS m.t n) post pre.length))
  | [], pre, h => by
    have hl := len_end h
    refine Ev.succ ?_
    simp only [F46.PL, lenI_msgs]
    (simp (disch := first | omega | rfl) only [PS, ite_t, ite_f, ↓bind_s, List.length_cons, List.length_nil, addW_eq, subW_eq, if_pos, if_neg])
    exact Ev.const
  | m :: post, pre, h => by
    have hl := len_mid h
    have e1 : addW .i64 (pre.length : Int) 1 = ((pre ++ [m]).length : Int) := add1 (by omega)
    have ih := F46.loop (n := n) hs post (pre ++ [m]) (by rw [h]; simp)
    refine Ev.succ ?_
    simp only [F46.PL, lenI_msgs, msgs_at h, e1, ce_0, toStr_str, idx]
    rcases Bool.eq_false_or_eq_true (eqS m.t n) with hm | hm <;> simp only [hm]
    · (simp (disch := first | omega | rfl) only [PS, ite_t, ite_f, ↓bind_s, List.length_cons, List.length_nil, addW_eq, subW_eq, if_pos, if_neg])
      simpa using Ev.const
    · (simp (disch := first | omega | rfl) only [PS, ite_t, ite_f, ↓bind_s, List.length_cons, List.length_nil, addW_eq, subW_eq, if_pos, if_neg])
      simpa using ih
theorem F46.eq {l : List Mg} {n : ByteArray} (hs : l.length ≤ 1000) : F46.P (msgs l) n = some (.int .i64 (idx (fun m => eqS m.t n) l 0)) := lim_eq (by simpa using F46.loop (n := n) hs l [] rfl)
theorem msgs_drop {l : List Mg} {i : Nat} : ((msgs l).take l.length).drop i = msgs (l.drop i) := by
  rw [List.take_of_length_le (by rw [length_msgs]; omega)]
  simp [msgs]
theorem F48.loop {l : List Mg} {x : Mg} (hs : l.length ≤ 1000) : ∀ (post pre out : List Mg), l = pre ++ post → out.length ≤ pre.length →
    Ev (fun k => F48.PL (msgs l) x.t x.p x.lv x.rt x.pr x.ex x.fr x.sq (props x.ps) k (.l0 (msgs out) (pre.length : Int))) (.sl 0 9 (msgs (out ++ withM post x)))
  | [], pre, out, h, ho => by
    have hl := len_end h
    have hd : l.drop pre.length = [] := List.drop_eq_nil_of_le (by omega)
    refine Ev.succ ?_
    simp only [F48.PL, lenI_msgs, msgs_snoc, room_msg (show out.length ≤ 10000 by omega), Int.toNat_natCast, msgs_drop, hd, room_msgs (show (out ++ [x]).length + ([] : List Mg).length ≤ 100000 by simp; omega)]
    (simp (disch := first | omega | rfl) only [PS, ite_t, ite_f, ↓bind_s, List.length_cons, List.length_nil, addW_eq, subW_eq, if_pos, if_neg])
    simpa [withM, msgs] using Ev.const
  | m :: post, pre, out, h, ho => by
    have hl := len_mid h
    have e1 : addW .i64 (pre.length : Int) 1 = ((pre ++ [m]).length : Int) := add1 (by omega)
    have hd : l.drop pre.length = m :: post := by rw [h, List.drop_left]
    refine Ev.succ ?_
    simp only [F48.PL, lenI_msgs, msgs_atN h, e1, msgs_snoc, ce_0, ce_s, toStr_str, toInt_int, toBool_bool, slXs_sl, room_msg (show out.length ≤ 10000 by omega), Int.toNat_natCast, msgs_drop, hd, room_msgs (show (out ++ [x]).length + (m :: post).length ≤ 100000 by simp; omega)]
    cases hm : ltS m.t x.t
    · (simp (disch := first | omega | rfl) only [PS, ite_t, ite_f, ↓bind_s, List.length_cons, List.length_nil, addW_eq, subW_eq, if_pos, if_neg])
      have : msgs (out ++ [x]) ++ msgs (m :: post) = msgs (out ++ withM (m :: post) x) := by simp [withM, hm, msgs]
      rw [this]
      exact Ev.const
    · have ih := F48.loop (x := x) hs post (pre ++ [m]) (out ++ [m]) (by rw [h]; simp) (by simp; omega)
      (simp (disch := first | omega | rfl) only [PS, ite_t, ite_f, ↓bind_s, List.length_cons, List.length_nil, addW_eq, subW_eq, if_pos, if_neg])
      simpa [withM, hm] using ih
theorem F48.eq {l : List Mg} {x : Mg} (hs : l.length ≤ 1000) : F48.P (msgs l) x.t x.p x.lv x.rt x.pr x.ex x.fr x.sq (props x.ps) = some (.sl 0 9 (msgs (withM l x))) := lim_eq (by simpa [msgs] using F48.loop (x := x) hs l [] [] rfl (Nat.le_refl _))
theorem F28.loop {l : List Mg} {mx now : Int} {f : ByteArray} (hs : l.length ≤ 1000) : ∀ (post pre out : List Mg), l = pre ++ post → out.length ≤ pre.length → Ev (fun k => F28.PL mx (msgs l) f now k (.l0 (msgs out) (pre.length : Int))) (.sl 0 9 (msgs (out ++ matM post f now)))
  | [], pre, out, h, ho => by
    have hl := len_end h
    refine Ev.succ ?_
    simp only [F28.PL, lenI_msgs]
    (simp (disch := first | omega | rfl) only [PS, ite_t, ite_f, ↓bind_s, List.length_cons, List.length_nil, addW_eq, subW_eq, if_pos, if_neg])
    simpa [matM] using Ev.const
  | m :: post, pre, out, h, ho => by
    have hl := len_mid h
    have e1 : addW .i64 (pre.length : Int) 1 = ((pre ++ [m]).length : Int) := add1 (by omega)
    refine Ev.succ ?_
    simp only [F28.PL, lenI_msgs, msgs_at h, e1, msgs_snoc, ce_0, ce_s, toStr_str, toInt_int, toBool_bool, slXs_sl, room_msg (show out.length ≤ 10000 by omega), F24.eq, F19.eq]
    cases hm : expd m now
    · cases hf : matchB f m.t
      · have ih := F28.loop (mx := mx) (now := now) (f := f) hs post (pre ++ [m]) out (by rw [h]; simp) (by simp; omega)
        (simp (disch := first | omega | rfl) only [PS, ite_t, ite_f, ↓bind_s, List.length_cons, List.length_nil, addW_eq, subW_eq, if_pos, if_neg])
        simpa [matM, List.filter_cons, hm, hf] using ih
      · have ih := F28.loop (mx := mx) (now := now) (f := f) hs post (pre ++ [m]) (out ++ [m]) (by rw [h]; simp) (by simp; omega)
        (simp (disch := first | omega | rfl) only [PS, ite_t, ite_f, ↓bind_s, List.length_cons, List.length_nil, addW_eq, subW_eq, if_pos, if_neg])
        simpa [matM, List.filter_cons, hm, hf] using ih
    · have ih := F28.loop (mx := mx) (now := now) (f := f) hs post (pre ++ [m]) out (by rw [h]; simp) (by simp; omega)
      (simp (disch := first | omega | rfl) only [PS, ite_t, ite_f, ↓bind_s, List.length_cons, List.length_nil, addW_eq, subW_eq, if_pos, if_neg])
      simpa [matM, List.filter_cons, hm] using ih
theorem F28.eq {l : List Mg} {mx now : Int} {f : ByteArray} (hs : l.length ≤ 1000) : F28.P mx (msgs l) f now = some (.sl 0 9 (msgs (matM l f now))) := lim_eq (by simpa [msgs] using F28.loop (mx := mx) (now := now) (f := f) hs l [] [] rfl (Nat.le_refl _))
theorem F26.loop {l r : List Mg} (hs : l.length ≤ 1000) (hps : ∀ m ∈ l, m.ps.length ≤ 100000) (hlr : r.length = l.length) : ∀ (post pre preR postR : List Mg), l = pre ++ post → r = preR ++ postR → preR.length = pre.length → Ev (fun n => F26.PL (msgs l) (msgs r) n (.l0 (pre.length : Int))) (.bool (decide (post = postR)))
  | [], pre, preR, postR, h, hr, hp => by
    have hl := len_end h
    have hrl : r.length = preR.length + postR.length := by rw [hr]; simp
    have : postR = [] := List.length_eq_zero_iff.1 (by omega)
    subst this
    refine Ev.succ ?_
    simp only [F26.PL, lenI_msgs]
    (simp (disch := first | omega | rfl) only [PS, ite_t, ite_f, ↓bind_s, List.length_cons, List.length_nil, addW_eq, subW_eq, if_pos, if_neg])
    exact Ev.const
  | p :: post, pre, preR, [], h, hr, hp => by
    have hl := len_mid h
    have hrl : r.length = preR.length := by rw [hr]; simp
    omega
  | p :: post, pre, preR, q :: postR, h, hr, hp => by
    have hl := len_mid h
    have hrl := len_mid hr
    have ih := F26.loop hs hps hlr post (pre ++ [p]) (preR ++ [q]) postR (by rw [h]; simp) (by rw [hr]; simp) (by simp [hp])
    have e1 : addW .i64 (pre.length : Int) 1 = ((pre ++ [p]).length : Int) := add1 (by omega)
    have hq : ro (msgs r) (pre.length : Int).toNat = [.str q.t, .str q.p, .int .i64 q.lv, .bool q.rt, .int .i64 q.pr, .int .i64 q.ex, .str q.fr, .int .i64 q.sq, .sl 0 2 (props q.ps)] := by rw [← hp]; exact msgs_at hr
    have hpp : p.ps.length ≤ 100000 := hps p (by rw [h]; simp)
    refine Ev.succ ?_
    simp only [F26.PL, lenI_msgs, msgs_at h, hq, ce_0, ce_s, toStr_str, toInt_int, toBool_bool, slXs_sl, F18.eq hpp, e1]
    by_cases hpq : p = q
    · subst hpq
      (simp (disch := first | omega | rfl) only [PS, ite_t, ite_f, ↓bind_s, List.length_cons, List.length_nil, addW_eq, subW_eq, if_pos, if_neg])
      simpa using ih
    · (simp (disch := first | omega | rfl) only [PS, ite_t, ite_f, ↓bind_s, List.length_cons, List.length_nil, addW_eq, subW_eq, if_pos, if_neg])
      simpa [hpq] using Ev.const
theorem F26.eq {l r : List Mg} (hs : l.length ≤ 1000) (hps : ∀ m ∈ l, m.ps.length ≤ 100000) : F26.P (msgs l) (msgs r) = some (.bool (decide (l = r))) := by
  refine lim_eq ?_
  simp only [lenI_msgs]
  by_cases h : l.length = r.length
  · have := F26.loop hs hps h.symm l [] [] r rfl rfl rfl
    (simp (disch := first | omega | rfl) only [PS, ite_t, ite_f, ↓bind_s, List.length_cons, List.length_nil, addW_eq, subW_eq, if_pos, if_neg])
    simpa using this
  · have : ¬ l = r := fun e => h (by rw [e])
    (simp (disch := first | omega | rfl) only [PS, ite_t, ite_f, ↓bind_s, List.length_cons, List.length_nil, addW_eq, subW_eq, if_pos, if_neg])
    simpa [this] using Ev.const
theorem F31.eq {l : List Mg} {mx now : Int} (hs : l.length ≤ 1000) : F31.P mx (msgs l) now = some (.tup [.agg [.int .i64 mx, .sl 0 9 (msgs (fresh l now))], .int .i64 ((l.length - (fresh l now).length : Nat) : Int)]) := by
  have hle : (fresh l now).length ≤ l.length := List.length_filter_le _ _
  unfold F31.P
  rw [F47.eq hs]
  have e : subW .i64 (l.length : Int) ((fresh l now).length : Int) = ((l.length - (fresh l now).length : Nat) : Int) := by rw [subW_eq (by omega) (by omega)]; omega
  simp only [bind_s, isSl_s, if_true, slXs_sl, lenI_msgs, e]
def find (l : List Mg) (n : ByteArray) : Option Mg := l.find? fun m => eqS m.t n
theorem idx_find (n : ByteArray) : ∀ (l : List Mg) (k : Nat), (find l n = none ∧ idx (fun m => eqS m.t n) l k = -1) ∨ ∃ pre x post, l = pre ++ x :: post ∧ find l n = some x ∧ idx (fun m => eqS m.t n) l k = ((pre.length + k : Nat) : Int) ∧ x.t = n
  | [], k => .inl ⟨rfl, rfl⟩
  | m :: l, k => by
    simp only [find, List.find?_cons, idx]
    rcases Bool.eq_false_or_eq_true (eqS m.t n) with h | h <;> simp only [h]
    rotate_left
    · rcases idx_find n l (k + 1) with ⟨h1, h2⟩ | ⟨pre, x, post, h1, h2, h3, h4⟩
      · exact .inl ⟨h1, by simpa using h2⟩
      · refine .inr ⟨m :: pre, x, post, by rw [h1]; rfl, h2, ?_, h4⟩
        simp only [Bool.false_eq_true, if_false, h3, List.length_cons]
        omega
    · exact .inr ⟨[], m, l, rfl, rfl, by simp, by simpa [eqS] using h⟩
def putM (mx : Int) (l : List Mg) (m : Mg) (now : Int) : List Mg × Int :=
  if chkR m = 0 then
    (if eqS m.p ⟨#[]⟩ || expd m now then (without l m.t, 0)
     else if (find l m.t).isNone && leI mx l.length then
      (if leI mx (fresh l now).length then (fresh l now, 6) else (withM (without (fresh l now) m.t) m, 0))
     else (withM (without l m.t) m, 0))
  else (l, chkR m)
theorem without_le {l : List Mg} {n : ByteArray} : (without l n).length ≤ l.length := List.length_filter_le _ _
theorem fresh_le {l : List Mg} {n : Int} : (fresh l n).length ≤ l.length := List.length_filter_le _ _
theorem F21.eq {l : List Mg} {mx now : Int} {m : Mg} (hs : l.length ≤ 1000) : F21.P mx (msgs l) m.t m.p m.lv m.rt m.pr m.ex m.fr m.sq (props m.ps) now = some (.tup [.agg [.int .i64 mx, .sl 0 9 (msgs (putM mx l m now).1)], .int .i64 (putM mx l m now).2]) := by
  have w1 := without_le (l := l) (n := m.t)
  have w2 := fresh_le (l := l) (n := now)
  have w3 := without_le (l := fresh l now) (n := m.t)
  unfold F21.P putM
  rw [F27.eq]
  by_cases h : chkR m = 0
  · simp only [F45.eq hs, F24.eq, F46.eq hs, F47.eq hs, F45.eq (show (fresh l now).length ≤ 1000 by omega), F48.eq (show (without l m.t).length ≤ 1000 by omega), F48.eq (show (without (fresh l now) m.t).length ≤ 1000 by omega), bind_s, isSl_s, isInt_i, isBool_b, toInt_int, toBool_bool, if_true, slXs_sl, lenI_msgs]
    cases hp : eqS m.p ⟨#[]⟩
    · cases he : expd m now
      · rcases idx_find m.t l 0 with ⟨h1, h2⟩ | ⟨pre, x, post, h1, h2, h3, _⟩
        · rw [h2, h1]
          by_cases h4 : mx ≤ l.length
          · by_cases h5 : mx ≤ (fresh l now).length
            · (simp (disch := first | omega | rfl) only [PS, ite_t, ite_f, ↓bind_s, List.length_cons, List.length_nil, addW_eq, subW_eq, if_pos, if_neg])
              simp [leI, h4, h5]
            · (simp (disch := first | omega | rfl) only [PS, ite_t, ite_f, ↓bind_s, List.length_cons, List.length_nil, addW_eq, subW_eq, if_pos, if_neg])
              simp [leI, h4, h5]
          · (simp (disch := first | omega | rfl) only [PS, ite_t, ite_f, ↓bind_s, List.length_cons, List.length_nil, addW_eq, subW_eq, if_pos, if_neg])
            simp [leI, h4]
        · rw [h3, h2]
          (simp (disch := first | omega | rfl) only [PS, ite_t, ite_f, ↓bind_s, List.length_cons, List.length_nil, addW_eq, subW_eq, if_pos, if_neg])
          simp
      · (simp (disch := first | omega | rfl) only [PS, ite_t, ite_f, ↓bind_s, List.length_cons, List.length_nil, addW_eq, subW_eq, if_pos, if_neg])
        simp
    · (simp (disch := first | omega | rfl) only [PS, ite_t, ite_f, ↓bind_s, List.length_cons, List.length_nil, addW_eq, subW_eq, if_pos, if_neg])
      simp
  · (simp (disch := first | omega | rfl) only [PS, ite_t, ite_f, ↓bind_s, List.length_cons, List.length_nil, addW_eq, subW_eq, if_pos, if_neg])
def getM (l : List Mg) (n : ByteArray) (now : Int) : Option Mg := match find l n with | some m => if expd m now then none else some m | none => none
def zeroM : Mg := ⟨⟨#[]⟩, ⟨#[]⟩, 0, false, 0, 0, ⟨#[]⟩, 0, []⟩
def getR (l : List Mg) (n : ByteArray) (now : Int) : AV := match getM l n now with
  | some m => .tup [.agg m.enc, .bool true]
  | none => .tup [.agg [.str ⟨#[]⟩, .str ⟨#[]⟩, .int .i64 0, .bool false, .int .i64 0, .int .i64 0, .str ⟨#[]⟩, .int .i64 0, .nilsl], .bool false]
theorem F23.eq {l : List Mg} {mx now : Int} {n : ByteArray} (hs : l.length ≤ 1000) : F23.P mx (msgs l) n now = some (getR l n now) := by
  unfold F23.P getR getM
  rw [F46.eq hs]
  rcases idx_find n l 0 with ⟨h1, h2⟩ | ⟨pre, x, post, h1, h2, h3, _⟩
  · rw [h2, h1]
    (simp (disch := first | omega | rfl) only [PS, ite_t, ite_f, ↓bind_s, List.length_cons, List.length_nil, addW_eq, subW_eq, if_pos, if_neg])
  · have hl := len_mid h1
    rw [h3, h2]
    simp only [Nat.add_zero, bind_s, toInt_int, msgs_at h1, ce_0, ce_s, toStr_str, toBool_bool, slXs_sl, lenI_msgs, F24.eq]
    cases he : expd x now
    · (simp (disch := first | omega | rfl) only [PS, ite_t, ite_f, ↓bind_s, List.length_cons, List.length_nil, addW_eq, subW_eq, if_pos, if_neg]) <;> simp [Mg.enc]
    · (simp (disch := first | omega | rfl) only [PS, ite_t, ite_f, ↓bind_s, List.length_cons, List.length_nil, addW_eq, subW_eq, if_pos, if_neg]) <;> simp
end Go.Proofs.YtgmkkjmdflhbnaaDoor.Ab
end
section
namespace Go.Proofs.YtgmkkjmdflhbnaaDoor.Ab
open Go
set_option maxHeartbeats 2000000
theorem ltS_eq (s t : ByteArray) : ltS s t = decide (bs s < bs t) := by
  have h := cond_ltS (s := s) (t := t) (p := True) (q := False)
  cases e : ltS s t <;> rw [e] at h <;> simp only [cond_true, cond_false] at h
  · by_cases q : s.data.toList < t.data.toList
    · rw [if_pos q] at h; exact absurd trivial (h ▸ not_false)
    · exact (decide_eq_false q).symm
  · by_cases q : s.data.toList < t.data.toList
    · exact (decide_eq_true q).symm
    · rw [if_neg q] at h; exact absurd trivial (h ▸ not_false)
theorem lt_irr (s : ByteArray) : ltS s s = false := by rw [ltS_eq]; simp [List.lt_irrefl]
theorem lt_tr {s t u : ByteArray} (h : ltS s t = true) (k : ltS t u = true) : ltS s u = true := by
  rw [ltS_eq, decide_eq_true_eq] at *
  exact List.lt_trans h k
theorem lt_asymm {s t : ByteArray} (h : ltS s t = true) : ltS t s = false := by
  cases k : ltS t s with
  | false => rfl
  | true => have := lt_tr h k; rw [lt_irr] at this; cases this
theorem lt_tri {s t : ByteArray} (h : ltS s t = false) (k : ltS t s = false) : s = t := by
  rw [ltS_eq, decide_eq_false_iff_not] at *
  exact bs_inj (List.le_antisymm (List.not_lt.1 k) (List.not_lt.1 h))
theorem lt_ne {s t : ByteArray} (h : ltS s t = true) : s ≠ t := fun e => by rw [e, lt_irr] at h; cases h
theorem lt_of {s t : ByteArray} (h : s ≠ t) (k : ltS t s = false) : ltS s t = true := by
  cases e : ltS s t with
  | true => rfl
  | false => exact absurd (lt_tri e k) h
theorem eqS_t {s t : ByteArray} (h : s = t) : eqS s t = true := by simp [eqS, h]
theorem eqS_f {s t : ByteArray} (h : ¬ s = t) : eqS s t = false := by simp [eqS, h]
def Srt (l : List Mg) : Prop := l.Pairwise fun a b => ltS a.t b.t = true
theorem mem_without {l : List Mg} {n : ByteArray} {m : Mg} : m ∈ without l n ↔ m ∈ l ∧ m.t ≠ n := by simp [without, eqS]
theorem Srt.without {l : List Mg} (h : Srt l) (n : ByteArray) : Srt (without l n) := h.sublist List.filter_sublist
theorem Srt.fresh {l : List Mg} (h : Srt l) (n : Int) : Srt (fresh l n) := h.sublist List.filter_sublist
theorem withM_perm : ∀ (l : List Mg) (x : Mg), (withM l x).Perm (x :: l)
  | [], x => List.Perm.refl _
  | m :: l, x => by
    simp only [withM]
    split
    · exact ((withM_perm l x).cons m).trans (List.Perm.swap x m l)
    · exact List.Perm.refl _
theorem mem_withM {l : List Mg} {x m : Mg} : m ∈ withM l x ↔ m = x ∨ m ∈ l := by rw [(withM_perm l x).mem_iff, List.mem_cons]
theorem withM_len (l : List Mg) (x : Mg) : (withM l x).length = l.length + 1 := by rw [(withM_perm l x).length_eq, List.length_cons]
theorem Srt.withM : ∀ {l : List Mg} {x : Mg}, Srt l → (∀ m ∈ l, m.t ≠ x.t) → Srt (withM l x)
  | [], x, _, _ => by simp [Ab.withM, Srt]
  | m :: l, x, h, hn => by
    obtain ⟨h1, h2⟩ := List.pairwise_cons.1 h
    simp only [Ab.withM]
    split
    · rename_i hlt
      refine List.pairwise_cons.2 ⟨fun y hy => ?_, Srt.withM h2 fun y hy => hn y (by simp [hy])⟩
      rcases mem_withM.1 hy with rfl | hy
      · exact hlt
      · exact h1 y hy
    · rename_i hlt
      have hxm : ltS x.t m.t = true := lt_of (fun e => hn m (by simp) e.symm) (by simpa using hlt)
      refine List.pairwise_cons.2 ⟨fun y hy => ?_, h⟩
      rcases List.mem_cons.1 hy with rfl | hy
      · exact hxm
      · exact lt_tr hxm (h1 y hy)
theorem Srt.nodup {l : List Mg} (h : Srt l) : (l.map Mg.t).Nodup := by
  rw [List.Nodup, List.pairwise_map]
  exact h.imp fun k => lt_ne k
theorem srt_uniq {l r : List Mg} (hl : l.Pairwise fun a b => ltS b.t a.t = false) (hr : Srt r) (hp : l.Perm r) : l = r := by
  refine hp.eq_of_pairwise (le := fun a b => ltS b.t a.t = false) (fun a b ha hb h1 h2 => ?_) hl (hr.imp fun h => lt_asymm h)
  have ht : a.t = b.t := lt_tri h2 h1
  have ha' : a ∈ r := (hp.mem_iff).1 ha
  have hn := hr.nodup
  obtain ⟨P, S, rfl⟩ := List.append_of_mem ha'
  simp only [List.map_append, List.map_cons] at hn
  have hb' : b ∈ P ++ a :: S := hb
  obtain ⟨n1, n2, n3⟩ := List.nodup_append.1 hn
  simp only [List.mem_append, List.mem_cons] at hb'
  rcases hb' with h | h | h
  · exact absurd ht.symm (n3 _ (List.mem_map_of_mem h) _ (by simp))
  · exact h.symm
  · exact absurd (ht ▸ List.mem_map_of_mem h) (List.nodup_cons.1 n2).1
theorem find_of {l : List Mg} (hs : (l.map Mg.t).Nodup) {m : Mg} (hm : m ∈ l) : find l m.t = some m := by
  induction l with
  | nil => cases hm
  | cons x l ih =>
    simp only [List.map_cons, List.nodup_cons] at hs
    simp only [find, List.find?_cons]
    rcases List.mem_cons.1 hm with rfl | hm
    · rw [eqS_t rfl]
    · have : ¬ x.t = m.t := fun e => hs.1 (e ▸ List.mem_map_of_mem hm)
      rw [eqS_f this]
      exact ih hs.2 hm
theorem find_no {l : List Mg} {n : ByteArray} (h : ∀ m ∈ l, m.t ≠ n) : find l n = none := by
  rw [find, List.find?_eq_none]
  intro m hm
  simp [eqS_f (h m hm)]
theorem without_no {l : List Mg} {n : ByteArray} (h : find l n = none) : without l n = l := by
  rw [find, List.find?_eq_none] at h
  exact List.filter_eq_self.2 fun f hf => by have := h f hf; simpa using this
structure Rt where
  mx : Int
  l : List Mg
structure ROk (s : Rt) : Prop where
  srt : Srt s.l
  ps : ∀ m ∈ s.l, m.ps.length ≤ 8
  len : (s.l.length : Int) ≤ s.mx
  mx : s.mx ≤ 256
theorem ROk.small {s : Rt} (h : ROk s) : s.l.length ≤ 256 := by have h1 := h.len; have h2 := h.mx; omega
theorem ROk.sub {s : Rt} (h : ROk s) {p : Mg → Bool} : ROk ⟨s.mx, s.l.filter p⟩ := ⟨h.srt.sublist List.filter_sublist, fun m hm => h.ps m (List.mem_filter.1 hm).1, by have := List.length_filter_le p s.l; have := h.len; show ((s.l.filter p).length : Int) ≤ s.mx; omega, h.mx⟩
theorem ROk.put {s : Rt} (h : ROk s) (m : Mg) (now : Int) : ROk ⟨s.mx, (putM s.mx s.l m now).1⟩ := by
  have hw : ∀ {l : List Mg}, ROk ⟨s.mx, l⟩ → ((without l m.t).length : Int) < s.mx → m.ps.length ≤ 8 → ROk ⟨s.mx, withM (without l m.t) m⟩ := fun {l} hl hlt hp =>
    ⟨(hl.srt.without _).withM fun x hx => (mem_without.1 hx).2, fun x hx => by
      rcases mem_withM.1 hx with rfl | hx
      · exact hp
      · exact hl.ps x (mem_without.1 hx).1, by show ((withM (without l m.t) m).length : Int) ≤ s.mx; rw [withM_len]; omega, h.mx⟩
  unfold putM
  by_cases hc : chkR m = 0
  · have hp : m.ps.length ≤ 8 := by
      unfold chkR at hc
      split at hc
      · exact chkM_ps (by assumption)
      · contradiction
    simp only [hc, if_true]
    split
    · exact h.sub
    · split
      · rename_i hf
        simp only [Bool.and_eq_true, Option.isNone_iff_eq_none, leI, decide_eq_true_eq] at hf
        split
        · exact h.sub
        · rename_i hx
          refine hw (h.sub) ?_ hp
          have := without_le (l := fresh s.l now) (n := m.t)
          simp only [leI, decide_eq_true_eq] at hx
          show ((without (fresh s.l now) m.t).length : Int) < s.mx
          omega
      · rename_i hf
        refine hw (l := s.l) h ?_ hp
        rcases idx_find m.t s.l 0 with ⟨h1, _⟩ | ⟨pre, x, post, h1, h2, _, h4⟩
        · rw [h1] at hf
          simp only [Option.isNone_none, Bool.true_and, leI, decide_eq_true_eq] at hf
          rw [without_no h1]
          omega
        · have hlt : (without s.l m.t).length < s.l.length := by
            unfold without
            rw [h1, List.filter_append, List.filter_cons, eqS_t h4]
            simp only [Bool.not_true, Bool.false_eq_true, if_false, List.length_append, List.length_cons]
            have a1 := List.length_filter_le (fun x : Mg => !(eqS x.t m.t)) pre
            have a2 := List.length_filter_le (fun x : Mg => !(eqS x.t m.t)) post
            omega
          have := h.len
          omega
  · simp only [hc, if_false]
    exact h
structure En where
  b : Nat
  m : Mg
def ent (e : En) : Nat × AV × AV := (e.b, .str e.m.t, .agg e.m.enc)
structure Lay (H : Heap) (j m c : Nat) (s : Rt) (L : List En) : Prop where
  cell : H.get j = .cells [.int .i64 s.mx, .map m]
  map : H.get m = .map (L.map ent) c
  born : ∀ e ∈ L, e.b < c
  bnd : (L.map En.b).Nodup
  perm : (L.map En.m).Perm s.l
  ok : ROk s
def StoreAt (H : Heap) (j m : Nat) (s : Rt) : Prop := ∃ c L, Lay H j m c s L
theorem Lay.nnd {H : Heap} {j m c : Nat} {s : Rt} {L : List En} (h : Lay H j m c s L) : (L.map fun e => e.m.t).Nodup := by
  have := (List.Perm.nodup_iff (h.perm.map Mg.t)).2 h.ok.srt.nodup
  rwa [List.map_map] at this
theorem StoreAt.same {H H' : Heap} {j m : Nat} {s : Rt} (h : StoreAt H j m s) (h1 : H'.get j = H.get j) (h2 : H'.get m = H.get m) : StoreAt H' j m s := by
  obtain ⟨c, L, hL⟩ := h
  exact ⟨c, L, by rw [h1]; exact hL.cell, by rw [h2]; exact hL.map, hL.born, hL.bnd, hL.perm, hL.ok⟩
theorem keyEq_s (a b : ByteArray) : keyEq (.str a) (.str b) = eqS a b := by simp [keyEq, cellsOf, eqCells]
theorem fits_all (L : List En) (c : Nat) : (HB.map (L.map ent) c).isMapOf [.str] false = true := by simp [HB.isMapOf, HB.isMap, HB.es, keyFits, ent, cellsFit]
theorem find_none {L : List En} {n : ByteArray} (h : ∀ e ∈ L, e.m.t ≠ n) : mfind (.str n) (L.map ent) = none := by
  induction L with
  | nil => rfl
  | cons e L ih =>
    simp only [List.map_cons, mfind, ent, keyEq_s]
    rw [eqS_f (fun q => h e (by simp) q.symm)]
    exact ih fun x hx => h x (by simp [hx])
theorem put_none {L : List En} {n : ByteArray} {v : AV} {c : Nat} (h : ∀ e ∈ L, e.m.t ≠ n) : mput (.str n) v c (L.map ent) = L.map ent ++ [(c, .str n, v)] := by
  induction L with
  | nil => rfl
  | cons e L ih =>
    simp only [List.map_cons, mput, ent, keyEq_s]
    rw [eqS_f (fun q => h e (by simp) q.symm)]
    simp only [cond_false, List.cons_append, List.cons.injEq, true_and]
    exact ih fun x hx => h x (by simp [hx])
theorem del_none {L : List En} {n : ByteArray} (h : ∀ e ∈ L, e.m.t ≠ n) : mdel (.str n) (L.map ent) = L.map ent := by
  induction L with
  | nil => rfl
  | cons e L ih =>
    simp only [List.map_cons, mdel, ent, keyEq_s]
    rw [eqS_f (fun q => h e (by simp) q.symm)]
    simp only [cond_false, List.cons.injEq, true_and]
    exact ih fun x hx => h x (by simp [hx])
theorem find_mid {A B : List En} {e : En} (h : ∀ x ∈ A, x.m.t ≠ e.m.t) : mfind (.str e.m.t) ((A ++ e :: B).map ent) = some (.agg e.m.enc) := by
  induction A with
  | nil => simp only [List.nil_append, List.map_cons, mfind, ent, keyEq_s, eqS_t, cond_true]
  | cons x A ih =>
    simp only [List.cons_append, List.map_cons, mfind, ent, keyEq_s]
    rw [eqS_f (fun q => h x (by simp) q.symm)]
    exact ih fun y hy => h y (by simp [hy])
theorem put_mid {A B : List En} {e : En} {v : AV} {c : Nat} (h : ∀ x ∈ A, x.m.t ≠ e.m.t) : mput (.str e.m.t) v c ((A ++ e :: B).map ent) = A.map ent ++ (e.b, .str e.m.t, v) :: B.map ent := by
  induction A with
  | nil => simp only [List.nil_append, List.map_cons, List.map_nil, mput, ent, keyEq_s, eqS_t, cond_true]
  | cons x A ih =>
    simp only [List.cons_append, List.map_cons, mput, ent, keyEq_s]
    rw [eqS_f (fun q => h x (by simp) q.symm)]
    simp only [cond_false, List.cons.injEq, true_and]
    exact ih fun y hy => h y (by simp [hy])
theorem del_mid {A B : List En} {e : En} (h : ∀ x ∈ A, x.m.t ≠ e.m.t) : mdel (.str e.m.t) ((A ++ e :: B).map ent) = (A ++ B).map ent := by
  induction A with
  | nil => simp only [List.nil_append, List.map_cons, mdel, ent, keyEq_s, eqS_t, cond_true]
  | cons x A ih =>
    simp only [List.cons_append, List.map_cons, mdel, ent, keyEq_s]
    rw [eqS_f (fun q => h x (by simp) q.symm)]
    simp only [cond_false, List.cons.injEq, true_and]
    exact ih fun y hy => h y (by simp [hy])
theorem perm_mid {A B : List En} {e : En} : ((A ++ e :: B).map En.m).Perm (e.m :: (A ++ B).map En.m) := by
  simp only [List.map_append, List.map_cons]
  exact List.perm_middle
theorem mid_ne {A B : List En} {e : En} (hn : ((A ++ e :: B).map fun e => e.m.t).Nodup) : ∀ x ∈ A ++ B, x.m.t ≠ e.m.t := by
  have h2 : ((fun e => e.m.t) e :: (A ++ B).map fun e => e.m.t).Nodup := by
    refine (List.Perm.nodup_iff ?_).1 hn
    simp only [List.map_append, List.map_cons]
    exact List.perm_middle
  intro x hx q
  exact (List.nodup_cons.1 h2).1 (List.mem_map.2 ⟨x, hx, q⟩)
theorem perm_without {A B : List En} {e : En} {l : List Mg} (hx : ∀ x ∈ A ++ B, x.m.t ≠ e.m.t) (hp : ((A ++ e :: B).map En.m).Perm l) : ((A ++ B).map En.m).Perm (without l e.m.t) := by
  have h1 : (e.m :: (A ++ B).map En.m).Perm l := perm_mid.symm.trans hp
  have h2 := h1.filter fun f => !(eqS f.t e.m.t)
  have h3 : ((e.m :: (A ++ B).map En.m).filter fun f => !(eqS f.t e.m.t)) = (A ++ B).map En.m := by
    rw [List.filter_cons, eqS_t rfl]
    simp only [Bool.not_true, Bool.false_eq_true, if_false]
    refine List.filter_eq_self.2 fun f hf => ?_
    obtain ⟨x, hx', rfl⟩ := List.mem_map.1 hf
    rw [eqS_f (hx x hx')]
    rfl
  rw [h3] at h2
  exact h2
theorem find_case {L : List En} {l : List Mg} (hn : (L.map fun e => e.m.t).Nodup) (hp : (L.map En.m).Perm l) (n : ByteArray) :
    ((∀ e ∈ L, e.m.t ≠ n) ∧ find l n = none ∧ mhas (.str n) (L.map ent) = false) ∨
    (∃ A e B, L = A ++ e :: B ∧ e.m.t = n ∧ (∀ x ∈ A ++ B, x.m.t ≠ n) ∧ find l n = some e.m ∧ mhas (.str n) (L.map ent) = true ∧ mget (.str n) (L.map ent) = .agg e.m.enc) := by
  by_cases h : ∃ e ∈ L, e.m.t = n
  · obtain ⟨e, he, rfl⟩ := h
    obtain ⟨A, B, rfl⟩ := List.append_of_mem he
    have hx := mid_ne hn
    have hA : ∀ x ∈ A, x.m.t ≠ e.m.t := fun x q => hx x (by simp [q])
    have hd : (l.map Mg.t).Nodup := by
      refine (List.Perm.nodup_iff (hp.map Mg.t)).1 ?_
      rw [List.map_map]; exact hn
    refine .inr ⟨A, e, B, rfl, rfl, hx, find_of hd ((hp.mem_iff).1 (by simp)), ?_, ?_⟩
    · simp only [mhas, find_mid hA, Option.isSome_some]
    · simp only [mget, find_mid hA, Option.getD_some]
  · have hx : ∀ e ∈ L, e.m.t ≠ n := fun e he q => h ⟨e, he, q⟩
    refine .inl ⟨hx, find_no fun f hf => ?_, ?_⟩
    · obtain ⟨e, he, rfl⟩ := List.mem_map.1 ((hp.mem_iff).2 hf)
      exact hx e he
    · simp only [mhas, find_none hx, Option.isSome_none]
theorem born_at {L : List En} {e : En} (hn : (L.map En.b).Nodup) (he : e ∈ L) : mborn e.b (L.map ent) = some (ent e) := by
  induction L with
  | nil => cases he
  | cons x L ih =>
    simp only [List.map_cons, List.nodup_cons] at hn
    simp only [mborn, List.map_cons, List.find?_cons]
    rcases List.mem_cons.1 he with rfl | he
    · have : Nat.beq (ent e).1 e.b = true := by simp [ent]
      rw [this]
    · have : Nat.beq (ent x).1 e.b = false := by
        cases h : Nat.beq (ent x).1 e.b with
        | false => rfl
        | true => exact absurd (List.mem_map.2 ⟨e, he, (Nat.eq_of_beq_eq_true h).symm⟩) hn.1
      rw [this]
      exact ih hn.2 he
theorem nodup_append' {α : Type} {a b : List α} (ha : a.Nodup) (hb : b.Nodup) (h : ∀ x ∈ b, x ∉ a) : (a ++ b).Nodup := List.nodup_append.2 ⟨ha, hb, fun _ hx _ hy e => h _ hy (e ▸ hx)⟩
theorem sub_mid {α : Type} {A B : List α} {e : α} : (A ++ B).Sublist (A ++ e :: B) := List.Sublist.append (List.Sublist.refl A) (List.sublist_cons_self e B)
theorem seen_perm {L : List En} (hn : (L.map En.b).Nodup) {e : En} (he : e ∈ L) {seen : List Nat} (hs : seen.contains e.b = false) (q : Mg → Bool) :
    (L.filter fun x => (e.b :: seen).contains x.b && q x.m).Perm ((if q e.m then [e] else []) ++ L.filter fun x => seen.contains x.b && q x.m) := by
  obtain ⟨A, B, rfl⟩ := List.append_of_mem he
  have hne : ∀ x ∈ A ++ B, x.b ≠ e.b := by
    have h2 : (e.b :: (A ++ B).map En.b).Nodup := by
      refine (List.Perm.nodup_iff ?_).1 hn
      simp only [List.map_append, List.map_cons]
      exact List.perm_middle
    intro x hx k
    exact (List.nodup_cons.1 h2).1 (List.mem_map.2 ⟨x, hx, k⟩)
  have hc : ∀ l : List En, (∀ x ∈ l, x ∈ A ++ B) → (l.filter fun x => (e.b :: seen).contains x.b && q x.m) = l.filter fun x => seen.contains x.b && q x.m := fun l hl => List.filter_congr fun x hx => by
    have : (x.b == e.b) = false := by simpa using hne x (hl x hx)
    simp only [List.contains_cons, this, Bool.false_or]
  rw [List.filter_append, List.filter_append, List.filter_cons, List.filter_cons, hc A fun x h => by simp [h], hc B fun x h => by simp [h]]
  simp only [List.contains_cons, beq_self_eq_true, Bool.true_or, Bool.true_and, hs, Bool.false_and, Bool.false_eq_true, if_false]
  split
  · exact List.perm_middle
  · exact List.Perm.refl _
theorem mleft_ent (L : List En) (seen : List Nat) : mleft seen (L.map ent) = (L.filter fun e => !(seen.contains e.b)).map ent := by
  unfold mleft
  rw [List.filter_map]
  rfl
theorem unseen_lt {L : List En} {e : En} (he : e ∈ L) {seen : List Nat} (hs : seen.contains e.b = false) : (L.filter fun x => !((e.b :: seen).contains x.b)).length < (L.filter fun x => !(seen.contains x.b)).length := by
  obtain ⟨A, B, rfl⟩ := List.append_of_mem he
  have hle : ∀ l : List En, (l.filter fun x => !((e.b :: seen).contains x.b)).length ≤ (l.filter fun x => !(seen.contains x.b)).length := fun l => by
    induction l with
    | nil => exact Nat.le_refl _
    | cons x l ih =>
      rw [List.filter_cons, List.filter_cons]
      simp only [List.contains_cons] at ih ⊢
      cases (x.b == e.b) <;> cases seen.contains x.b <;> simp only [Bool.true_or, Bool.false_or, Bool.or_true, Bool.or_false, Bool.not_true, Bool.not_false, if_true, if_false, Bool.false_eq_true, List.length_cons] <;> omega
  rw [List.filter_append, List.filter_append, List.filter_cons, List.filter_cons]
  have h1 := hle A
  have h2 := hle B
  simp only [List.contains_cons, beq_self_eq_true, Bool.true_or, Bool.not_true, Bool.false_eq_true, if_false, hs, Bool.not_false, if_true, List.length_append, List.length_cons]
  simp only [List.contains_cons] at h1 h2
  omega
end Go.Proofs.YtgmkkjmdflhbnaaDoor.Ab
end
