/- PRINTED by abx.py: the pure functions. -/
import Derived.Test.YtagckffnpnejaaaDoorTr
import Derived.Test.YtagckffnpnejaaaDoorPlIo
import Derived.Test.YtagckffnpnejaaaDoorAbP
namespace Go.Proofs.YtagckffnpnejaaaDoor.Ab
open Go
set_option maxRecDepth 100000
set_option maxHeartbeats 4000000
set_option linter.unusedVariables false
/-! ### broker/frame.Sum: function 29 -/
namespace F29
inductive LS where
  | l0 (x3s : Int) (x8 : Int)
noncomputable def PL (a0 : List (List AV)) : Nat → LS → Option AV
  | 0, _ => none
  | fu + 1, .l0 x3s x8 =>
    if ltI x8 (lenI a0) then
    (if leI 0 x8 then (if ltI x8 (lenI a0) then (if (ce (ro a0 x8.toNat) 0).isInt .u8 then PL a0 fu (.l0 (mulW .u32 (xorW .u32 x3s (IntKind.u32.wrap ((ce (ro a0 x8.toNat) 0).toInt))) 16777619) (addW .i64 x8 1)) else none) else none) else none)
    else
    (some (.int .i64 (IntKind.i64.wrap x3s)))
noncomputable def P (a0 : List (List AV)) : Option AV := lim fun fu =>
    PL a0 fu (.l0 2166136261 0)
theorem PL_ok {a0 : List (List AV)} {Q : AV → Heap → Prop} {v : AV} (hQ : ∀ H, Q v H) : ∀ (fu : Nat) (s : LS) (H : Heap), PL a0 fu s = some v → match s with | .l0 x3s x8 => L0 a0 Q x3s x8 H := by
  intro fu
  induction fu with
  | zero => intro s H h; exact absurd h (by cases s <;> simp only [PL] <;> exact nofun)
  | succ fu ih =>
    intro s H
    cases s with
    | l0 x3s x8 =>
      show PL a0 (fu + 1) (.l0 x3s x8) = some v → L0 a0 Q x3s x8 H
      rw [PL]
      refine fun h => L0_step (?_ : r0 a0 Q x3s x8 H)
      revert h
      unfold r0
      repeat' first | exact lsV hQ | exact lsF | apply lsG | apply lsC | refine lsAll fun _ => ?_ | refine lsEx fun _ _ => ?_ | refine lsAnd ?_ ?_ | exact fun h => ih _ _ h
theorem ok {a0 : List (List AV)} {v : AV} (h : P a0 = some v) {H : Heap} {Q : AV → Heap → Prop} (hQ : ∀ H, Q v H) : C 29 [.sl 0 1 a0] H Q := by
  refine call ?_
  unfold t
  unfold P at h
  obtain ⟨fu, h⟩ := lim_some h
  revert h
  repeat' first | exact lsV hQ | exact lsF | apply lsG | apply lsC | refine lsAll fun _ => ?_ | refine lsEx fun _ _ => ?_ | refine lsAnd ?_ ?_ | exact fun h => PL_ok hQ _ _ _ h
theorem ls {a0 : List (List AV)} {v : AV} {H : Heap} {k : AV → Option AV} {K : AV → Heap → Prop} (h : ∀ w H, k w = some v → K w H) : (P a0).bind k = some v → C 29 [.sl 0 1 a0] H K := fun e => bind_ls (Cq := fun K => C 29 [.sl 0 1 a0] H K) (fun h => ok h) h e
end F29
/-! ### broker/place.Score: function 9 -/
namespace F9
noncomputable def P (a0 : ByteArray) (a1 : Int) : Option AV :=
    if Nat.ble (a0.size + (⟨#[47]⟩ : ByteArray).size) 9223372036854775807 then ((ItoaP.P [.int .i64 a1]).bind fun v_1 =>
    if (v_1).isStr then (if Nat.ble ((a0 ++ (⟨#[47]⟩ : ByteArray)).size + ((v_1).toStr).size) 9223372036854775807 then (if Nat.ble ((a0 ++ (⟨#[47]⟩ : ByteArray)) ++ ((v_1).toStr)).size 9223372036854775807 then ((F29.P (bytesAV ((a0 ++ (⟨#[47]⟩ : ByteArray)) ++ ((v_1).toStr)))).bind fun v_3 =>
      if (v_3).isInt .i64 then some (.int .i64 ((v_3).toInt)) else none) else none) else none) else none) else none
theorem ok {a0 : ByteArray} {a1 : Int} {v : AV} (h : P a0 a1 = some v) {H : Heap} {Q : AV → Heap → Prop} (hQ : ∀ H, Q v H) : C 9 [.str a0, .int .i64 a1] H Q := by
  refine call ?_
  unfold t
  unfold P at h
  revert h
  repeat' first | exact lsV hQ | exact lsF | apply lsG | apply lsC | refine F29.ls fun _ _ => ?_ | refine ItoaP.ls fun _ _ => ?_ | refine lsAll fun _ => ?_ | refine lsEx fun _ _ => ?_ | refine lsAnd ?_ ?_
theorem ls {a0 : ByteArray} {a1 : Int} {v : AV} {H : Heap} {k : AV → Option AV} {K : AV → Heap → Prop} (h : ∀ w H, k w = some v → K w H) : (P a0 a1).bind k = some v → C 9 [.str a0, .int .i64 a1] H K := fun e => bind_ls (Cq := fun K => C 9 [.str a0, .int .i64 a1] H K) (fun h => ok h) h e
end F9
/-! ### slices.Equal[[]int,int]: function 11 -/
namespace F11
inductive LS where
  | l0 (x13 : Int)
noncomputable def PL (a0 : List (List AV)) (a1 : List (List AV)) : Nat → LS → Option AV
  | 0, _ => none
  | fu + 1, .l0 x13 =>
    if ltI x13 (lenI a0) then
    (if leI 0 x13 then (if ltI x13 (lenI a0) then (if (ce (ro a0 x13.toNat) 0).isInt .i64 then (if leI 0 x13 then (if ltI x13 (lenI a1) then (if (ce (ro a1 x13.toNat) 0).isInt .i64 then (if !(eqI ((ce (ro a0 x13.toNat) 0).toInt) ((ce (ro a1 x13.toNat) 0).toInt)) then
      (some (.bool false))
      else
      (PL a0 a1 fu (.l0 (addW .i64 x13 1)))) else none) else none) else none) else none) else none) else none)
    else
    (some (.bool true))
noncomputable def P (a0 : List (List AV)) (a1 : List (List AV)) : Option AV := lim fun fu =>
    if !(eqI (lenI a0) (lenI a1)) then
    (some (.bool false))
    else
    (PL a0 a1 fu (.l0 0))
theorem PL_ok {a0 : List (List AV)} {a1 : List (List AV)} {Q : AV → Heap → Prop} {v : AV} (hQ : ∀ H, Q v H) : ∀ (fu : Nat) (s : LS) (H : Heap), PL a0 a1 fu s = some v → match s with | .l0 x13 => L0 a0 a1 Q x13 H := by
  intro fu
  induction fu with
  | zero => intro s H h; exact absurd h (by cases s <;> simp only [PL] <;> exact nofun)
  | succ fu ih =>
    intro s H
    cases s with
    | l0 x13 =>
      show PL a0 a1 (fu + 1) (.l0 x13) = some v → L0 a0 a1 Q x13 H
      rw [PL]
      refine fun h => L0_step (?_ : r0 a0 a1 Q x13 H)
      revert h
      unfold r0
      repeat' first | exact lsV hQ | exact lsF | apply lsG | apply lsC | refine lsAll fun _ => ?_ | refine lsEx fun _ _ => ?_ | refine lsAnd ?_ ?_ | exact fun h => ih _ _ h
theorem ok {a0 : List (List AV)} {a1 : List (List AV)} {v : AV} (h : P a0 a1 = some v) {H : Heap} {Q : AV → Heap → Prop} (hQ : ∀ H, Q v H) : C 11 [.sl 0 1 a0, .sl 0 1 a1] H Q := by
  refine call ?_
  unfold t
  unfold P at h
  obtain ⟨fu, h⟩ := lim_some h
  revert h
  repeat' first | exact lsV hQ | exact lsF | apply lsG | apply lsC | refine lsAll fun _ => ?_ | refine lsEx fun _ _ => ?_ | refine lsAnd ?_ ?_ | exact fun h => PL_ok hQ _ _ _ h
theorem ls {a0 : List (List AV)} {a1 : List (List AV)} {v : AV} {H : Heap} {k : AV → Option AV} {K : AV → Heap → Prop} (h : ∀ w H, k w = some v → K w H) : (P a0 a1).bind k = some v → C 11 [.sl 0 1 a0, .sl 0 1 a1] H K := fun e => bind_ls (Cq := fun K => C 11 [.sl 0 1 a0, .sl 0 1 a1] H K) (fun h => ok h) h e
end F11
/-! ### slices.Index[[]int,int]: function 34 -/
namespace F34
inductive LS where
  | l0 (x8 : Int)
noncomputable def PL (a0 : List (List AV)) (a1 : Int) : Nat → LS → Option AV
  | 0, _ => none
  | fu + 1, .l0 x8 =>
    if ltI x8 (lenI a0) then
    (if leI 0 x8 then (if ltI x8 (lenI a0) then (if (ce (ro a0 x8.toNat) 0).isInt .i64 then (if eqI a1 ((ce (ro a0 x8.toNat) 0).toInt) then
      (some (.int .i64 x8))
      else
      (PL a0 a1 fu (.l0 (addW .i64 x8 1)))) else none) else none) else none)
    else
    (some (.int .i64 (-1)))
noncomputable def P (a0 : List (List AV)) (a1 : Int) : Option AV := lim fun fu =>
    PL a0 a1 fu (.l0 0)
theorem PL_ok {a0 : List (List AV)} {a1 : Int} {Q : AV → Heap → Prop} {v : AV} (hQ : ∀ H, Q v H) : ∀ (fu : Nat) (s : LS) (H : Heap), PL a0 a1 fu s = some v → match s with | .l0 x8 => L0 a0 a1 Q x8 H := by
  intro fu
  induction fu with
  | zero => intro s H h; exact absurd h (by cases s <;> simp only [PL] <;> exact nofun)
  | succ fu ih =>
    intro s H
    cases s with
    | l0 x8 =>
      show PL a0 a1 (fu + 1) (.l0 x8) = some v → L0 a0 a1 Q x8 H
      rw [PL]
      refine fun h => L0_step (?_ : r0 a0 a1 Q x8 H)
      revert h
      unfold r0
      repeat' first | exact lsV hQ | exact lsF | apply lsG | apply lsC | refine lsAll fun _ => ?_ | refine lsEx fun _ _ => ?_ | refine lsAnd ?_ ?_ | exact fun h => ih _ _ h
theorem ok {a0 : List (List AV)} {a1 : Int} {v : AV} (h : P a0 a1 = some v) {H : Heap} {Q : AV → Heap → Prop} (hQ : ∀ H, Q v H) : C 34 [.sl 0 1 a0, .int .i64 a1] H Q := by
  refine call ?_
  unfold t
  unfold P at h
  obtain ⟨fu, h⟩ := lim_some h
  revert h
  repeat' first | exact lsV hQ | exact lsF | apply lsG | apply lsC | refine lsAll fun _ => ?_ | refine lsEx fun _ _ => ?_ | refine lsAnd ?_ ?_ | exact fun h => PL_ok hQ _ _ _ h
theorem ls {a0 : List (List AV)} {a1 : Int} {v : AV} {H : Heap} {k : AV → Option AV} {K : AV → Heap → Prop} (h : ∀ w H, k w = some v → K w H) : (P a0 a1).bind k = some v → C 34 [.sl 0 1 a0, .int .i64 a1] H K := fun e => bind_ls (Cq := fun K => C 34 [.sl 0 1 a0, .int .i64 a1] H K) (fun h => ok h) h e
end F34
/-! ### slices.Contains[[]int,int]: function 20 -/
namespace F20
noncomputable def P (a0 : List (List AV)) (a1 : Int) : Option AV :=
    (F34.P a0 a1).bind fun v_1 =>
    if (v_1).isInt .i64 then some (.bool (leI 0 ((v_1).toInt))) else none
theorem ok {a0 : List (List AV)} {a1 : Int} {v : AV} (h : P a0 a1 = some v) {H : Heap} {Q : AV → Heap → Prop} (hQ : ∀ H, Q v H) : C 20 [.sl 0 1 a0, .int .i64 a1] H Q := by
  refine call ?_
  unfold t
  unfold P at h
  revert h
  repeat' first | exact lsV hQ | exact lsF | apply lsG | apply lsC | refine F34.ls fun _ _ => ?_ | refine lsAll fun _ => ?_ | refine lsEx fun _ _ => ?_ | refine lsAnd ?_ ?_
theorem ls {a0 : List (List AV)} {a1 : Int} {v : AV} {H : Heap} {k : AV → Option AV} {K : AV → Heap → Prop} (h : ∀ w H, k w = some v → K w H) : (P a0 a1).bind k = some v → C 20 [.sl 0 1 a0, .int .i64 a1] H K := fun e => bind_ls (Cq := fun K => C 20 [.sl 0 1 a0, .int .i64 a1] H K) (fun h => ok h) h e
end F20
/-! ### broker/place.Load: function 12 -/
namespace F12
inductive LS where
  | l0 (x5out : List (List AV)) (x15 : Int)
  | l1 (x5out : List (List AV)) (x6i : Int) (x7node : Int) (x15 : Int) (x22 : Int)
noncomputable def PL (a0 : List (List AV)) (a1 : List (List AV)) : Nat → LS → Option AV
  | 0, _ => none
  | fu + 1, .l0 x5out x15 =>
    if ltI x15 (lenI a1) then
    (if leI 0 x15 then (if ltI x15 (lenI a1) then (if (ce (ro a1 x15.toNat) 0).isInt .i64 then PL a0 a1 fu (.l1 x5out x15 ((ce (ro a1 x15.toNat) 0).toInt) x15 0) else none) else none) else none)
    else
    (some (.sl 0 1 x5out))
  | fu + 1, .l1 x5out x6i x7node x15 x22 =>
    if ltI x22 (lenI a0) then
    (if leI 0 x22 then (if ltI x22 (lenI a0) then (if (ce (ro a0 x22.toNat) 0).isStr then (if (ce (ro a0 x22.toNat) 1).isSl 1 then ((F20.P ((ce (ro a0 x22.toNat) 1).slXs) x7node).bind fun v_1 =>
      if (v_1).isBool then (if (v_1).toBool then
        (if leI 0 x6i then (if ltI x6i (lenI x5out) then (if (ce (ro x5out x6i.toNat) 0).isInt .i64 then (if leI 0 x6i then (if ltI x6i (lenI x5out) then PL a0 a1 fu (.l1 (x5out.set x6i.toNat ((ro x5out x6i.toNat).set 0 (.int .i64 (addW .i64 ((ce (ro x5out x6i.toNat) 0).toInt) 1)))) x6i x7node x15 (addW .i64 x22 1)) else none) else none) else none) else none) else none)
        else
        (PL a0 a1 fu (.l1 x5out x6i x7node x15 (addW .i64 x22 1)))) else none) else none) else none) else none) else none)
    else
    (PL a0 a1 fu (.l0 x5out (addW .i64 x15 1)))
noncomputable def P (a0 : List (List AV)) (a1 : List (List AV)) : Option AV := lim fun fu =>
    if leI 0 (lenI a1) then (if eqI (lenI a1) (lenI a1) then (if roomN (lenI a1) 8 then PL a0 a1 fu (.l0 (List.replicate ((lenI a1).toNat) ([.int .i64 0] : List AV)) 0) else none) else none) else none
theorem PL_ok {a0 : List (List AV)} {a1 : List (List AV)} {Q : AV → Heap → Prop} {v : AV} (hQ : ∀ H, Q v H) : ∀ (fu : Nat) (s : LS) (H : Heap), PL a0 a1 fu s = some v → match s with | .l0 x5out x15 => L0 a0 a1 Q x5out x15 H | .l1 x5out x6i x7node x15 x22 => L1 a0 a1 Q x5out x6i x7node x15 x22 H := by
  intro fu
  induction fu with
  | zero => intro s H h; exact absurd h (by cases s <;> simp only [PL] <;> exact nofun)
  | succ fu ih =>
    intro s H
    cases s with
    | l0 x5out x15 =>
      show PL a0 a1 (fu + 1) (.l0 x5out x15) = some v → L0 a0 a1 Q x5out x15 H
      rw [PL]
      refine fun h => L0_step (?_ : r0 a0 a1 Q x5out x15 H)
      revert h
      unfold r0
      repeat' first | exact lsV hQ | exact lsF | apply lsG | apply lsC | refine lsAll fun _ => ?_ | refine lsEx fun _ _ => ?_ | refine lsAnd ?_ ?_ | exact fun h => ih _ _ h
    | l1 x5out x6i x7node x15 x22 =>
      show PL a0 a1 (fu + 1) (.l1 x5out x6i x7node x15 x22) = some v → L1 a0 a1 Q x5out x6i x7node x15 x22 H
      rw [PL]
      refine fun h => L1_step (?_ : r1 a0 a1 Q x5out x6i x7node x15 x22 H)
      revert h
      unfold r1
      repeat' first | exact lsV hQ | exact lsF | apply lsG | apply lsC | refine F20.ls fun _ _ => ?_ | refine lsAll fun _ => ?_ | refine lsEx fun _ _ => ?_ | refine lsAnd ?_ ?_ | exact fun h => ih _ _ h
theorem ok {a0 : List (List AV)} {a1 : List (List AV)} {v : AV} (h : P a0 a1 = some v) {H : Heap} {Q : AV → Heap → Prop} (hQ : ∀ H, Q v H) : C 12 [.sl 0 2 a0, .sl 0 1 a1] H Q := by
  refine call ?_
  unfold t
  unfold P at h
  obtain ⟨fu, h⟩ := lim_some h
  revert h
  repeat' first | exact lsV hQ | exact lsF | apply lsG | apply lsC | refine lsAll fun _ => ?_ | refine lsEx fun _ _ => ?_ | refine lsAnd ?_ ?_ | exact fun h => PL_ok hQ _ _ _ h
theorem ls {a0 : List (List AV)} {a1 : List (List AV)} {v : AV} {H : Heap} {k : AV → Option AV} {K : AV → Heap → Prop} (h : ∀ w H, k w = some v → K w H) : (P a0 a1).bind k = some v → C 12 [.sl 0 2 a0, .sl 0 1 a1] H K := fun e => bind_ls (Cq := fun K => C 12 [.sl 0 2 a0, .sl 0 1 a1] H K) (fun h => ok h) h e
end F12
/-! ### slices.Clone[[]int,int]: function 15 -/
namespace F15
noncomputable def P (a0 : List (List AV)) : Option AV :=
    anyB a0 fun b_1 =>
    if b_1 then
      (some (.sl 1 1 []))
      else
      (if room [] a0 8 then some (.sl 1 1 a0) else none)
theorem ok {a0 : List (List AV)} {v : AV} (h : P a0 = some v) {H : Heap} {Q : AV → Heap → Prop} (hQ : ∀ H, Q v H) (hQn : v = .sl 1 1 [] → ∀ H, Q .nilsl H) : C 15 [.sl 0 1 a0] H Q := by
  refine call ?_
  unfold t
  unfold P at h
  revert h
  repeat' first | exact lsVn hQn | exact lsV hQ | exact lsF | apply lsG | apply lsC | refine lsAll fun _ => ?_ | refine lsEx fun _ _ => ?_ | refine lsAnd ?_ ?_
theorem ls {a0 : List (List AV)} {v : AV} {H : Heap} {k : AV → Option AV} {K : AV → Heap → Prop} (h : ∀ w H, k w = some v → K w H) (h2 : ∀ H, k (.sl 1 1 []) = some v → K .nilsl H) : (P a0).bind k = some v → C 15 [.sl 0 1 a0] H K := fun e => bind_ls2 (Cq := fun K => C 15 [.sl 0 1 a0] H K) (fun {_} h {_} a b => ok h a b) h h2 e
end F15
/-! ### broker/place.Rank: function 19 -/
namespace F19
inductive LS where
  | l0 (x5out : List (List AV)) (x7 : Int)
noncomputable def PL (a0 : ByteArray) (a1 : List (List AV)) : Nat → LS → Option AV
  | 0, _ => none
  | fu + 1, .l0 x5out x7 =>
    if ltI x7 7 then
    ((F20.P a1 x7).bind fun v_1 =>
      if (v_1).isBool then (if (v_1).toBool then
        (if room x5out [[.int .i64 x7]] 8 then PL a0 a1 fu (.l0 (x5out ++ [[.int .i64 x7]]) (addW .i64 x7 1)) else none)
        else
        (PL a0 a1 fu (.l0 x5out (addW .i64 x7 1)))) else none)
    else
    ((StabP.P 1 x5out [.fn 33 [.rp [.str a0] 0]]).bind fun y_3 =>
      some (.sl 0 1 y_3))
noncomputable def P (a0 : ByteArray) (a1 : List (List AV)) : Option AV := lim fun fu =>
    PL a0 a1 fu (.l0 [] 0)
theorem PL_ok {a0 : ByteArray} {a1 : List (List AV)} {Q : AV → Heap → Prop} {v : AV} (hQ : ∀ H, Q v H) : ∀ (fu : Nat) (s : LS) (H : Heap), PL a0 a1 fu s = some v → match s with | .l0 x5out x7 => L0 a0 a1 Q x5out x7 H := by
  intro fu
  induction fu with
  | zero => intro s H h; exact absurd h (by cases s <;> simp only [PL] <;> exact nofun)
  | succ fu ih =>
    intro s H
    cases s with
    | l0 x5out x7 =>
      show PL a0 a1 (fu + 1) (.l0 x5out x7) = some v → L0 a0 a1 Q x5out x7 H
      rw [PL]
      refine fun h => L0_step (?_ : r0 a0 a1 Q x5out x7 H)
      revert h
      unfold r0
      repeat' first | exact lsV hQ | exact lsF | apply lsG | apply lsC | refine F20.ls fun _ _ => ?_ | refine StabP.ls fun _ _ => ?_ | refine lsAll fun _ => ?_ | refine lsEx fun _ _ => ?_ | refine lsAnd ?_ ?_ | exact fun h => ih _ _ h
theorem ok {a0 : ByteArray} {a1 : List (List AV)} {v : AV} (h : P a0 a1 = some v) {H : Heap} {Q : AV → Heap → Prop} (hQ : ∀ H, Q v H) : C 19 [.str a0, .sl 0 1 a1] H Q := by
  refine call ?_
  unfold t
  unfold P at h
  obtain ⟨fu, h⟩ := lim_some h
  revert h
  repeat' first | exact lsV hQ | exact lsF | apply lsG | apply lsC | refine lsAll fun _ => ?_ | refine lsEx fun _ _ => ?_ | refine lsAnd ?_ ?_ | exact fun h => PL_ok hQ _ _ _ h
theorem ls {a0 : ByteArray} {a1 : List (List AV)} {v : AV} {H : Heap} {k : AV → Option AV} {K : AV → Heap → Prop} (h : ∀ w H, k w = some v → K w H) : (P a0 a1).bind k = some v → C 19 [.str a0, .sl 0 1 a1] H K := fun e => bind_ls (Cq := fun K => C 19 [.str a0, .sl 0 1 a1] H K) (fun h => ok h) h e
end F19
/-! ### broker/place.Place: function 18 -/
namespace F18
noncomputable def P (a0 : ByteArray) (a1 : List (List AV)) (a2 : Int) : Option AV :=
    (F19.P a0 a1).bind fun v_1 =>
    if (v_1).isSl 1 then (if leI 0 (cond (ltI (lenI ((v_1).slXs)) (cond (ltI a2 0) 0 a2)) (lenI ((v_1).slXs)) (cond (ltI a2 0) 0 a2)) then (if leI (cond (ltI (lenI ((v_1).slXs)) (cond (ltI a2 0) 0 a2)) (lenI ((v_1).slXs)) (cond (ltI a2 0) 0 a2)) (cond (ltI (lenI ((v_1).slXs)) (cond (ltI a2 0) 0 a2)) (lenI ((v_1).slXs)) (cond (ltI a2 0) 0 a2)) then (if leI (cond (ltI (lenI ((v_1).slXs)) (cond (ltI a2 0) 0 a2)) (lenI ((v_1).slXs)) (cond (ltI a2 0) 0 a2)) (lenI ((v_1).slXs)) then ((F15.P ((((v_1).slXs).take ((cond (ltI (lenI ((v_1).slXs)) (cond (ltI a2 0) 0 a2)) (lenI ((v_1).slXs)) (cond (ltI a2 0) 0 a2)).toNat)).drop 0)).bind fun v_3 =>
      if (v_3).isOwn 1 then some (.agg [.str a0, .sl 0 1 ((v_3).slXs)]) else none) else none) else none) else none) else none
theorem ok {a0 : ByteArray} {a1 : List (List AV)} {a2 : Int} {v : AV} (h : P a0 a1 a2 = some v) {H : Heap} {Q : AV → Heap → Prop} (hQ : ∀ H, Q v H) : C 18 [.str a0, .sl 0 1 a1, .int .i64 a2] H Q := by
  refine call ?_
  unfold t
  unfold P at h
  revert h
  repeat' first | exact lsV hQ | exact lsF | apply lsG | apply lsC | refine F15.ls (fun _ _ => ?_) (fun _ => ?_) | refine F19.ls fun _ _ => ?_ | refine lsAll fun _ => ?_ | refine lsEx fun _ _ => ?_ | refine lsAnd ?_ ?_
theorem ls {a0 : ByteArray} {a1 : List (List AV)} {a2 : Int} {v : AV} {H : Heap} {k : AV → Option AV} {K : AV → Heap → Prop} (h : ∀ w H, k w = some v → K w H) : (P a0 a1 a2).bind k = some v → C 18 [.str a0, .sl 0 1 a1, .int .i64 a2] H K := fun e => bind_ls (Cq := fun K => C 18 [.str a0, .sl 0 1 a1, .int .i64 a2] H K) (fun h => ok h) h e
end F18
/-! ### broker/brokerlaw42.exampleHolds: function 8 -/
namespace F8
inductive LS where
  | lR4 (x1l : List (List AV)) (x61 : Bool) (m0_0 : ByteArray) (m0_1 : List (List AV))
noncomputable def PL  : Nat → LS → Option AV
  | 0, _ => none
  | fu + 1, .lR4 x1l x61 m0_0 m0_1 =>
    if x61 then
    (some (.bool false))
    else
    (allB
      ((F9.P (⟨#[113]⟩ : ByteArray) 3).bind fun v_13 =>
        if (v_13).isInt .i64 then ((F29.P [[.int .u8 113], [.int .u8 47], [.int .u8 51]]).bind fun v_15 =>
          if (v_15).isInt .i64 then (if eqI ((v_13).toInt) ((v_15).toInt) then
            (if ltI 0 (lenI x1l) then (if (ce (ro x1l 0) 0).isInt .i64 then ((F9.P (⟨#[113]⟩ : ByteArray) 0).bind fun v_17 =>
              if (v_17).isInt .i64 then ((F9.P (⟨#[113]⟩ : ByteArray) 2).bind fun v_19 =>
                if (v_19).isInt .i64 then some (.bool ((eqI ((ce (ro x1l 0) 0).toInt) 0) == (leI ((v_19).toInt) ((v_17).toInt)))) else none) else none) else none) else none)
            else
            (some (.bool false))) else none) else none)
      (allB
        ((F9.P (⟨#[113]⟩ : ByteArray) 3).bind fun v_21 =>
          if (v_21).isInt .i64 then ((F29.P [[.int .u8 113], [.int .u8 47], [.int .u8 51]]).bind fun v_23 =>
            if (v_23).isInt .i64 then (if eqI ((v_21).toInt) ((v_23).toInt) then
              (if ltI 0 (lenI x1l) then (if (ce (ro x1l 0) 0).isInt .i64 then ((F9.P (⟨#[113]⟩ : ByteArray) 0).bind fun v_25 =>
                if (v_25).isInt .i64 then ((F9.P (⟨#[113]⟩ : ByteArray) 2).bind fun v_27 =>
                  if (v_27).isInt .i64 then some (.bool ((eqI ((ce (ro x1l 0) 0).toInt) 0) == (leI ((v_27).toInt) ((v_25).toInt)))) else none) else none) else none) else none)
              else
              (some (.bool false))) else none) else none)
        ((F9.P (⟨#[113]⟩ : ByteArray) 3).bind fun v_29 =>
          if (v_29).isInt .i64 then ((F29.P [[.int .u8 113], [.int .u8 47], [.int .u8 51]]).bind fun v_31 =>
            if (v_31).isInt .i64 then (if eqI ((v_29).toInt) ((v_31).toInt) then
              (if ltI 0 (lenI x1l) then (if (ce (ro x1l 0) 0).isInt .i64 then ((F9.P (⟨#[113]⟩ : ByteArray) 0).bind fun v_33 =>
                if (v_33).isInt .i64 then ((F9.P (⟨#[113]⟩ : ByteArray) 2).bind fun v_35 =>
                  if (v_35).isInt .i64 then some (.bool ((eqI ((ce (ro x1l 0) 0).toInt) 0) == (leI ((v_35).toInt) ((v_33).toInt)))) else none) else none) else none) else none)
              else
              (some (.bool false))) else none) else none)))
noncomputable def P  : Option AV := lim fun fu =>
    (F19.P (⟨#[113]⟩ : ByteArray) [[.int .i64 2], [.int .i64 9], [.int .i64 2], [.int .i64 (-1)], [.int .i64 0]]).bind fun v_1 =>
    if (v_1).isSl 1 then ((F18.P (⟨#[113]⟩ : ByteArray) [[.int .i64 2], [.int .i64 9], [.int .i64 2], [.int .i64 (-1)], [.int .i64 0]] 5).bind fun v_3 =>
      if ((v_3).isAgg && Nat.beq (v_3).aggCs.length 2) then (if (((v_3).aggCs).headD .any).isStr then (if ((((v_3).aggCs).tail).headD .any).isSl 1 then ((F12.P [[.str (⟨#[]⟩ : ByteArray), .sl 0 1 [[.int .i64 0], [.int .i64 1]]], [.str (⟨#[]⟩ : ByteArray), .sl 0 1 [[.int .i64 1], [.int .i64 2]]]] [[.int .i64 2], [.int .i64 1], [.int .i64 7], [.int .i64 1]]).bind fun v_5 =>
        if (v_5).isSl 1 then (if !(eqI (lenI ((v_1).slXs)) 2) then
          (PL  fu (.lR4 ((v_1).slXs) true ((((v_3).aggCs).headD .any).toStr) (((((v_3).aggCs).tail).headD .any).slXs)))
          else
          (if ltI 0 (lenI ((v_1).slXs)) then (if (ce (ro ((v_1).slXs) 0) 0).isInt .i64 then (if ltI 1 (lenI ((v_1).slXs)) then (if (ce (ro ((v_1).slXs) 1) 0).isInt .i64 then (if !(eqI (addW .i64 ((ce (ro ((v_1).slXs) 0) 0).toInt) ((ce (ro ((v_1).slXs) 1) 0).toInt)) 2) then
            (PL  fu (.lR4 ((v_1).slXs) true ((((v_3).aggCs).headD .any).toStr) (((((v_3).aggCs).tail).headD .any).slXs)))
            else
            (if ltI 0 (lenI ((v_1).slXs)) then (if (ce (ro ((v_1).slXs) 0) 0).isInt .i64 then (if ltI 1 (lenI ((v_1).slXs)) then (if (ce (ro ((v_1).slXs) 1) 0).isInt .i64 then (if eqI ((ce (ro ((v_1).slXs) 0) 0).toInt) ((ce (ro ((v_1).slXs) 1) 0).toInt) then
              (PL  fu (.lR4 ((v_1).slXs) true ((((v_3).aggCs).headD .any).toStr) (((((v_3).aggCs).tail).headD .any).slXs)))
              else
              (if !(eqS ((((v_3).aggCs).headD .any).toStr) (⟨#[113]⟩ : ByteArray)) then
                (PL  fu (.lR4 ((v_1).slXs) true ((((v_3).aggCs).headD .any).toStr) (((((v_3).aggCs).tail).headD .any).slXs)))
                else
                ((F11.P (((((v_3).aggCs).tail).headD .any).slXs) ((v_1).slXs)).bind fun v_7 =>
                  if (v_7).isBool then (if !((v_7).toBool) then
                    (PL  fu (.lR4 ((v_1).slXs) true ((((v_3).aggCs).headD .any).toStr) (((((v_3).aggCs).tail).headD .any).slXs)))
                    else
                    ((F18.P (⟨#[113]⟩ : ByteArray) ((v_1).slXs) (-1)).bind fun v_9 =>
                      if ((v_9).isAgg && Nat.beq (v_9).aggCs.length 2) then (if (((v_9).aggCs).headD .any).isStr then (if ((((v_9).aggCs).tail).headD .any).isSl 1 then (if !(eqI (lenI (((((v_9).aggCs).tail).headD .any).slXs)) 0) then
                        (PL  fu (.lR4 ((v_1).slXs) true ((((v_3).aggCs).headD .any).toStr) (((((v_3).aggCs).tail).headD .any).slXs)))
                        else
                        ((F11.P ((v_5).slXs) [[.int .i64 1], [.int .i64 2], [.int .i64 0], [.int .i64 2]]).bind fun v_11 =>
                          if (v_11).isBool then PL  fu (.lR4 ((v_1).slXs) (!((v_11).toBool)) ((((v_3).aggCs).headD .any).toStr) (((((v_3).aggCs).tail).headD .any).slXs)) else none)) else none) else none) else none)) else none))) else none) else none) else none) else none)) else none) else none) else none) else none)) else none) else none) else none) else none) else none
theorem PL_ok  {Q : AV → Heap → Prop} {v : AV} (hQ : ∀ H, Q v H) : ∀ (fu : Nat) (s : LS) (H : Heap), PL  fu s = some v → match s with | .lR4 x1l x61 m0_0 m0_1 => JR4 Q x1l x61 m0_0 m0_1 H := by
  intro fu
  induction fu with
  | zero => intro s H h; exact absurd h (by cases s <;> simp only [PL] <;> exact nofun)
  | succ fu ih =>
    intro s H
    cases s with
    | lR4 x1l x61 m0_0 m0_1 =>
      show PL  (fu + 1) (.lR4 x1l x61 m0_0 m0_1) = some v → JR4 Q x1l x61 m0_0 m0_1 H
      rw [PL]
      refine fun h => JR4_step (?_ : jR4 Q x1l x61 m0_0 m0_1 H)
      revert h
      unfold jR4
      repeat' first | exact lsV hQ | exact lsF | apply lsG | apply lsC | refine F29.ls fun _ _ => ?_ | refine F9.ls fun _ _ => ?_ | refine lsAll fun _ => ?_ | refine lsEx fun _ _ => ?_ | refine lsAnd ?_ ?_ | exact fun h => ih _ _ h
theorem ok  {v : AV} (h : P  = some v) {H : Heap} {Q : AV → Heap → Prop} (hQ : ∀ H, Q v H) : C 8 [] H Q := by
  refine call ?_
  unfold t
  unfold P at h
  obtain ⟨fu, h⟩ := lim_some h
  revert h
  repeat' first | exact lsV hQ | exact lsF | apply lsG | apply lsC | refine F11.ls fun _ _ => ?_ | refine F12.ls fun _ _ => ?_ | refine F18.ls fun _ _ => ?_ | refine F19.ls fun _ _ => ?_ | refine lsAll fun _ => ?_ | refine lsEx fun _ _ => ?_ | refine lsAnd ?_ ?_ | exact fun h => PL_ok hQ _ _ _ h
theorem ls  {v : AV} {H : Heap} {k : AV → Option AV} {K : AV → Heap → Prop} (h : ∀ w H, k w = some v → K w H) : (P ).bind k = some v → C 8 [] H K := fun e => bind_ls (Cq := fun K => C 8 [] H K) (fun h => ok h) h e
end F8
/-! ### broker/brokerref04.Sum: function 31 -/
namespace F31
inductive LS where
  | l0 (x3h : Int) (x4i : Int)
noncomputable def PL (a0 : List (List AV)) : Nat → LS → Option AV
  | 0, _ => none
  | fu + 1, .l0 x3h x4i =>
    if ltI x4i (lenI a0) then
    (if leI 0 x4i then (if ltI x4i (lenI a0) then (if (ce (ro a0 x4i.toNat) 0).isInt .u8 then PL a0 fu (.l0 (Int.tmod (mulW .u64 (xorW .u64 x3h (IntKind.u64.wrap ((ce (ro a0 x4i.toNat) 0).toInt))) 16777619) 4294967296) (addW .i64 x4i 1)) else none) else none) else none)
    else
    (some (.int .i64 (IntKind.i64.wrap x3h)))
noncomputable def P (a0 : List (List AV)) : Option AV := lim fun fu =>
    PL a0 fu (.l0 2166136261 0)
theorem PL_ok {a0 : List (List AV)} {Q : AV → Heap → Prop} {v : AV} (hQ : ∀ H, Q v H) : ∀ (fu : Nat) (s : LS) (H : Heap), PL a0 fu s = some v → match s with | .l0 x3h x4i => L0 a0 Q x3h x4i H := by
  intro fu
  induction fu with
  | zero => intro s H h; exact absurd h (by cases s <;> simp only [PL] <;> exact nofun)
  | succ fu ih =>
    intro s H
    cases s with
    | l0 x3h x4i =>
      show PL a0 (fu + 1) (.l0 x3h x4i) = some v → L0 a0 Q x3h x4i H
      rw [PL]
      refine fun h => L0_step (?_ : r0 a0 Q x3h x4i H)
      revert h
      unfold r0
      repeat' first | exact lsV hQ | exact lsF | apply lsG | apply lsC | refine lsAll fun _ => ?_ | refine lsEx fun _ _ => ?_ | refine lsAnd ?_ ?_ | exact fun h => ih _ _ h
theorem ok {a0 : List (List AV)} {v : AV} (h : P a0 = some v) {H : Heap} {Q : AV → Heap → Prop} (hQ : ∀ H, Q v H) : C 31 [.sl 0 1 a0] H Q := by
  refine call ?_
  unfold t
  unfold P at h
  obtain ⟨fu, h⟩ := lim_some h
  revert h
  repeat' first | exact lsV hQ | exact lsF | apply lsG | apply lsC | refine lsAll fun _ => ?_ | refine lsEx fun _ _ => ?_ | refine lsAnd ?_ ?_ | exact fun h => PL_ok hQ _ _ _ h
theorem ls {a0 : List (List AV)} {v : AV} {H : Heap} {k : AV → Option AV} {K : AV → Heap → Prop} (h : ∀ w H, k w = some v → K w H) : (P a0).bind k = some v → C 31 [.sl 0 1 a0] H K := fun e => bind_ls (Cq := fun K => C 31 [.sl 0 1 a0] H K) (fun h => ok h) h e
end F31
/-! ### broker/brokerref42.Score: function 10 -/
namespace F10
noncomputable def P (a0 : ByteArray) (a1 : Int) : Option AV :=
    if Nat.ble (a0.size + (⟨#[47]⟩ : ByteArray).size) 9223372036854775807 then ((ItoaP.P [.int .i64 a1]).bind fun v_1 =>
    if (v_1).isStr then (if Nat.ble ((a0 ++ (⟨#[47]⟩ : ByteArray)).size + ((v_1).toStr).size) 9223372036854775807 then (if Nat.ble ((a0 ++ (⟨#[47]⟩ : ByteArray)) ++ ((v_1).toStr)).size 9223372036854775807 then ((F31.P (bytesAV ((a0 ++ (⟨#[47]⟩ : ByteArray)) ++ ((v_1).toStr)))).bind fun v_3 =>
      if (v_3).isInt .i64 then some (.int .i64 ((v_3).toInt)) else none) else none) else none) else none) else none
theorem ok {a0 : ByteArray} {a1 : Int} {v : AV} (h : P a0 a1 = some v) {H : Heap} {Q : AV → Heap → Prop} (hQ : ∀ H, Q v H) : C 10 [.str a0, .int .i64 a1] H Q := by
  refine call ?_
  unfold t
  unfold P at h
  revert h
  repeat' first | exact lsV hQ | exact lsF | apply lsG | apply lsC | refine F31.ls fun _ _ => ?_ | refine ItoaP.ls fun _ _ => ?_ | refine lsAll fun _ => ?_ | refine lsEx fun _ _ => ?_ | refine lsAnd ?_ ?_
theorem ls {a0 : ByteArray} {a1 : Int} {v : AV} {H : Heap} {k : AV → Option AV} {K : AV → Heap → Prop} (h : ∀ w H, k w = some v → K w H) : (P a0 a1).bind k = some v → C 10 [.str a0, .int .i64 a1] H K := fun e => bind_ls (Cq := fun K => C 10 [.str a0, .int .i64 a1] H K) (fun h => ok h) h e
end F10
/-! ### broker/brokerlaw42.PlaceScores: function 3 -/
namespace F3
noncomputable def P (a0 : ByteArray) (a1 : Int) : Option AV :=
    if ltI 200 (sizeI a0) then
    ((F8.P).bind fun v_1 =>
      if (v_1).isBool then some (.bool ((v_1).toBool)) else none)
    else
    ((F9.P a0 a1).bind fun v_3 =>
      if (v_3).isInt .i64 then ((F10.P a0 a1).bind fun v_5 =>
        if (v_5).isInt .i64 then (if eqI ((v_3).toInt) ((v_5).toInt) then
          ((F8.P).bind fun v_7 =>
            if (v_7).isBool then some (.bool ((v_7).toBool)) else none)
          else
          (some (.bool false))) else none) else none)
theorem ok {a0 : ByteArray} {a1 : Int} {v : AV} (h : P a0 a1 = some v) {H : Heap} {Q : AV → Heap → Prop} (hQ : ∀ H, Q v H) : C 3 [.str a0, .int .i64 a1] H Q := by
  refine call ?_
  unfold t
  unfold P at h
  revert h
  repeat' first | exact lsV hQ | exact lsF | apply lsG | apply lsC | refine F10.ls fun _ _ => ?_ | refine F8.ls fun _ _ => ?_ | refine F9.ls fun _ _ => ?_ | refine lsAll fun _ => ?_ | refine lsEx fun _ _ => ?_ | refine lsAnd ?_ ?_
theorem ls {a0 : ByteArray} {a1 : Int} {v : AV} {H : Heap} {k : AV → Option AV} {K : AV → Heap → Prop} (h : ∀ w H, k w = some v → K w H) : (P a0 a1).bind k = some v → C 3 [.str a0, .int .i64 a1] H K := fun e => bind_ls (Cq := fun K => C 3 [.str a0, .int .i64 a1] H K) (fun h => ok h) h e
end F3
/-! ### broker/brokerref42.Load: function 13 -/
namespace F13
inductive LS where
  | l0 (x5out : List (List AV)) (x13 : Int)
  | l1 (x5out : List (List AV)) (x7n : Int) (x8count : Int) (x13 : Int) (x19 : Int)
noncomputable def PL (a0 : List (List AV)) (a1 : List (List AV)) : Nat → LS → Option AV
  | 0, _ => none
  | fu + 1, .l0 x5out x13 =>
    if ltI x13 (lenI a1) then
    (if leI 0 x13 then (if ltI x13 (lenI a1) then (if (ce (ro a1 x13.toNat) 0).isInt .i64 then PL a0 a1 fu (.l1 x5out ((ce (ro a1 x13.toNat) 0).toInt) 0 x13 0) else none) else none) else none)
    else
    (some (.sl 0 1 x5out))
  | fu + 1, .l1 x5out x7n x8count x13 x19 =>
    if ltI x19 (lenI a0) then
    (if leI 0 x19 then (if ltI x19 (lenI a0) then (if (ce (ro a0 x19.toNat) 0).isStr then (if (ce (ro a0 x19.toNat) 1).isSl 1 then ((F20.P ((ce (ro a0 x19.toNat) 1).slXs) x7n).bind fun v_1 =>
      if (v_1).isBool then (if (v_1).toBool then
        (PL a0 a1 fu (.l1 x5out x7n (addW .i64 x8count 1) x13 (addW .i64 x19 1)))
        else
        (PL a0 a1 fu (.l1 x5out x7n x8count x13 (addW .i64 x19 1)))) else none) else none) else none) else none) else none)
    else
    (if room x5out [[.int .i64 x8count]] 8 then PL a0 a1 fu (.l0 (x5out ++ [[.int .i64 x8count]]) (addW .i64 x13 1)) else none)
noncomputable def P (a0 : List (List AV)) (a1 : List (List AV)) : Option AV := lim fun fu =>
    PL a0 a1 fu (.l0 [] 0)
theorem PL_ok {a0 : List (List AV)} {a1 : List (List AV)} {Q : AV → Heap → Prop} {v : AV} (hQ : ∀ H, Q v H) : ∀ (fu : Nat) (s : LS) (H : Heap), PL a0 a1 fu s = some v → match s with | .l0 x5out x13 => L0 a0 a1 Q x5out x13 H | .l1 x5out x7n x8count x13 x19 => L1 a0 a1 Q x5out x7n x8count x13 x19 H := by
  intro fu
  induction fu with
  | zero => intro s H h; exact absurd h (by cases s <;> simp only [PL] <;> exact nofun)
  | succ fu ih =>
    intro s H
    cases s with
    | l0 x5out x13 =>
      show PL a0 a1 (fu + 1) (.l0 x5out x13) = some v → L0 a0 a1 Q x5out x13 H
      rw [PL]
      refine fun h => L0_step (?_ : r0 a0 a1 Q x5out x13 H)
      revert h
      unfold r0
      repeat' first | exact lsV hQ | exact lsF | apply lsG | apply lsC | refine lsAll fun _ => ?_ | refine lsEx fun _ _ => ?_ | refine lsAnd ?_ ?_ | exact fun h => ih _ _ h
    | l1 x5out x7n x8count x13 x19 =>
      show PL a0 a1 (fu + 1) (.l1 x5out x7n x8count x13 x19) = some v → L1 a0 a1 Q x5out x7n x8count x13 x19 H
      rw [PL]
      refine fun h => L1_step (?_ : r1 a0 a1 Q x5out x7n x8count x13 x19 H)
      revert h
      unfold r1
      repeat' first | exact lsV hQ | exact lsF | apply lsG | apply lsC | refine F20.ls fun _ _ => ?_ | refine lsAll fun _ => ?_ | refine lsEx fun _ _ => ?_ | refine lsAnd ?_ ?_ | exact fun h => ih _ _ h
theorem ok {a0 : List (List AV)} {a1 : List (List AV)} {v : AV} (h : P a0 a1 = some v) {H : Heap} {Q : AV → Heap → Prop} (hQ : ∀ H, Q v H) : C 13 [.sl 0 2 a0, .sl 0 1 a1] H Q := by
  refine call ?_
  unfold t
  unfold P at h
  obtain ⟨fu, h⟩ := lim_some h
  revert h
  repeat' first | exact lsV hQ | exact lsF | apply lsG | apply lsC | refine lsAll fun _ => ?_ | refine lsEx fun _ _ => ?_ | refine lsAnd ?_ ?_ | exact fun h => PL_ok hQ _ _ _ h
theorem ls {a0 : List (List AV)} {a1 : List (List AV)} {v : AV} {H : Heap} {k : AV → Option AV} {K : AV → Heap → Prop} (h : ∀ w H, k w = some v → K w H) : (P a0 a1).bind k = some v → C 13 [.sl 0 2 a0, .sl 0 1 a1] H K := fun e => bind_ls (Cq := fun K => C 13 [.sl 0 2 a0, .sl 0 1 a1] H K) (fun h => ok h) h e
end F13
/-! ### broker/brokerlaw42.PlaceLoads: function 4 -/
namespace F4
inductive LS where
  | l0 (x18 : Int)
noncomputable def PL (a0 : List (List AV)) (a1 : List (List AV)) : Nat → LS → Option AV
  | 0, _ => none
  | fu + 1, .l0 x18 =>
    if ltI x18 (lenI a0) then
    (if leI 0 x18 then (if ltI x18 (lenI a0) then (if (ce (ro a0 x18.toNat) 0).isStr then (if (ce (ro a0 x18.toNat) 1).isSl 1 then (if ltI 60 (lenI ((ce (ro a0 x18.toNat) 1).slXs)) then
      ((F8.P).bind fun v_5 =>
        if (v_5).isBool then some (.bool ((v_5).toBool)) else none)
      else
      (PL a0 a1 fu (.l0 (addW .i64 x18 1)))) else none) else none) else none) else none)
    else
    ((F12.P a0 a1).bind fun v_7 =>
      if (v_7).isSl 1 then ((F13.P a0 a1).bind fun v_9 =>
        if (v_9).isSl 1 then ((F11.P ((v_7).slXs) ((v_9).slXs)).bind fun v_11 =>
          if (v_11).isBool then (if (v_11).toBool then
            ((F8.P).bind fun v_13 =>
              if (v_13).isBool then some (.bool ((v_13).toBool)) else none)
            else
            (some (.bool false))) else none) else none) else none)
noncomputable def P (a0 : List (List AV)) (a1 : List (List AV)) : Option AV := lim fun fu =>
    if ltI 40 (lenI a0) then
    ((F8.P).bind fun v_1 =>
      if (v_1).isBool then some (.bool ((v_1).toBool)) else none)
    else
    (if ltI 60 (lenI a1) then
      ((F8.P).bind fun v_3 =>
        if (v_3).isBool then some (.bool ((v_3).toBool)) else none)
      else
      (PL a0 a1 fu (.l0 0)))
theorem PL_ok {a0 : List (List AV)} {a1 : List (List AV)} {Q : AV → Heap → Prop} {v : AV} (hQ : ∀ H, Q v H) : ∀ (fu : Nat) (s : LS) (H : Heap), PL a0 a1 fu s = some v → match s with | .l0 x18 => L0 a0 a1 Q x18 H := by
  intro fu
  induction fu with
  | zero => intro s H h; exact absurd h (by cases s <;> simp only [PL] <;> exact nofun)
  | succ fu ih =>
    intro s H
    cases s with
    | l0 x18 =>
      show PL a0 a1 (fu + 1) (.l0 x18) = some v → L0 a0 a1 Q x18 H
      rw [PL]
      refine fun h => L0_step (?_ : r0 a0 a1 Q x18 H)
      revert h
      unfold r0
      repeat' first | exact lsV hQ | exact lsF | apply lsG | apply lsC | refine F11.ls fun _ _ => ?_ | refine F12.ls fun _ _ => ?_ | refine F13.ls fun _ _ => ?_ | refine F8.ls fun _ _ => ?_ | refine lsAll fun _ => ?_ | refine lsEx fun _ _ => ?_ | refine lsAnd ?_ ?_ | exact fun h => ih _ _ h
theorem ok {a0 : List (List AV)} {a1 : List (List AV)} {v : AV} (h : P a0 a1 = some v) {H : Heap} {Q : AV → Heap → Prop} (hQ : ∀ H, Q v H) : C 4 [.sl 0 2 a0, .sl 0 1 a1] H Q := by
  refine call ?_
  unfold t
  unfold P at h
  obtain ⟨fu, h⟩ := lim_some h
  revert h
  repeat' first | exact lsV hQ | exact lsF | apply lsG | apply lsC | refine F8.ls fun _ _ => ?_ | refine lsAll fun _ => ?_ | refine lsEx fun _ _ => ?_ | refine lsAnd ?_ ?_ | exact fun h => PL_ok hQ _ _ _ h
theorem ls {a0 : List (List AV)} {a1 : List (List AV)} {v : AV} {H : Heap} {k : AV → Option AV} {K : AV → Heap → Prop} (h : ∀ w H, k w = some v → K w H) : (P a0 a1).bind k = some v → C 4 [.sl 0 2 a0, .sl 0 1 a1] H K := fun e => bind_ls (Cq := fun K => C 4 [.sl 0 2 a0, .sl 0 1 a1] H K) (fun h => ok h) h e
end F4
/-! ### broker/brokerlaw42.few: function 14 -/
namespace F14
inductive LS where
  | l0 (x11 : Int)
  | l1 (x21 : Int)
noncomputable def PL (a0 : List (List AV)) (a1 : List (List AV)) : Nat → LS → Option AV
  | 0, _ => none
  | fu + 1, .l0 x11 =>
    if ltI x11 (lenI a0) then
    (if leI 0 x11 then (if ltI x11 (lenI a0) then (if (ce (ro a0 x11.toNat) 0).isStr then (if ltI 200 (sizeI ((ce (ro a0 x11.toNat) 0).toStr)) then
      (some (.bool false))
      else
      (PL a0 a1 fu (.l0 (addW .i64 x11 1)))) else none) else none) else none)
    else
    (PL a0 a1 fu (.l1 0))
  | fu + 1, .l1 x21 =>
    if ltI x21 (lenI a1) then
    (if leI 0 x21 then (if ltI x21 (lenI a1) then (if (ce (ro a1 x21.toNat) 0).isSl 1 then (if ltI 60 (lenI ((ce (ro a1 x21.toNat) 0).slXs)) then
      (some (.bool false))
      else
      (PL a0 a1 fu (.l1 (addW .i64 x21 1)))) else none) else none) else none)
    else
    (some (.bool (leI (lenI a0) 40)))
noncomputable def P (a0 : List (List AV)) (a1 : List (List AV)) : Option AV := lim fun fu =>
    PL a0 a1 fu (.l0 0)
theorem PL_ok {a0 : List (List AV)} {a1 : List (List AV)} {Q : AV → Heap → Prop} {v : AV} (hQ : ∀ H, Q v H) : ∀ (fu : Nat) (s : LS) (H : Heap), PL a0 a1 fu s = some v → match s with | .l0 x11 => L0 a0 a1 Q x11 H | .l1 x21 => L1 a0 a1 Q x21 H := by
  intro fu
  induction fu with
  | zero => intro s H h; exact absurd h (by cases s <;> simp only [PL] <;> exact nofun)
  | succ fu ih =>
    intro s H
    cases s with
    | l0 x11 =>
      show PL a0 a1 (fu + 1) (.l0 x11) = some v → L0 a0 a1 Q x11 H
      rw [PL]
      refine fun h => L0_step (?_ : r0 a0 a1 Q x11 H)
      revert h
      unfold r0
      repeat' first | exact lsV hQ | exact lsF | apply lsG | apply lsC | refine lsAll fun _ => ?_ | refine lsEx fun _ _ => ?_ | refine lsAnd ?_ ?_ | exact fun h => ih _ _ h
    | l1 x21 =>
      show PL a0 a1 (fu + 1) (.l1 x21) = some v → L1 a0 a1 Q x21 H
      rw [PL]
      refine fun h => L1_step (?_ : r1 a0 a1 Q x21 H)
      revert h
      unfold r1
      repeat' first | exact lsV hQ | exact lsF | apply lsG | apply lsC | refine lsAll fun _ => ?_ | refine lsEx fun _ _ => ?_ | refine lsAnd ?_ ?_ | exact fun h => ih _ _ h
theorem ok {a0 : List (List AV)} {a1 : List (List AV)} {v : AV} (h : P a0 a1 = some v) {H : Heap} {Q : AV → Heap → Prop} (hQ : ∀ H, Q v H) : C 14 [.sl 0 1 a0, .sl 0 1 a1] H Q := by
  refine call ?_
  unfold t
  unfold P at h
  obtain ⟨fu, h⟩ := lim_some h
  revert h
  repeat' first | exact lsV hQ | exact lsF | apply lsG | apply lsC | refine lsAll fun _ => ?_ | refine lsEx fun _ _ => ?_ | refine lsAnd ?_ ?_ | exact fun h => PL_ok hQ _ _ _ h
theorem ls {a0 : List (List AV)} {a1 : List (List AV)} {v : AV} {H : Heap} {k : AV → Option AV} {K : AV → Heap → Prop} (h : ∀ w H, k w = some v → K w H) : (P a0 a1).bind k = some v → C 14 [.sl 0 1 a0, .sl 0 1 a1] H K := fun e => bind_ls (Cq := fun K => C 14 [.sl 0 1 a0, .sl 0 1 a1] H K) (fun h => ok h) h e
end F14
/-! ### broker/brokerlaw42.without: function 16 -/
namespace F16
inductive LS where
  | l0 (x5out : List (List AV)) (x10 : Int)
noncomputable def PL (a0 : List (List AV)) (a1 : Int) : Nat → LS → Option AV
  | 0, _ => none
  | fu + 1, .l0 x5out x10 =>
    if ltI x10 (lenI a0) then
    (if leI 0 x10 then (if ltI x10 (lenI a0) then (if (ce (ro a0 x10.toNat) 0).isInt .i64 then (if !(eqI ((ce (ro a0 x10.toNat) 0).toInt) a1) then
      (if room x5out [[.int .i64 ((ce (ro a0 x10.toNat) 0).toInt)]] 8 then PL a0 a1 fu (.l0 (x5out ++ [[.int .i64 ((ce (ro a0 x10.toNat) 0).toInt)]]) (addW .i64 x10 1)) else none)
      else
      (PL a0 a1 fu (.l0 x5out (addW .i64 x10 1)))) else none) else none) else none)
    else
    (some (.sl 0 1 x5out))
noncomputable def P (a0 : List (List AV)) (a1 : Int) : Option AV := lim fun fu =>
    PL a0 a1 fu (.l0 [] 0)
theorem PL_ok {a0 : List (List AV)} {a1 : Int} {Q : AV → Heap → Prop} {v : AV} (hQ : ∀ H, Q v H) : ∀ (fu : Nat) (s : LS) (H : Heap), PL a0 a1 fu s = some v → match s with | .l0 x5out x10 => L0 a0 a1 Q x5out x10 H := by
  intro fu
  induction fu with
  | zero => intro s H h; exact absurd h (by cases s <;> simp only [PL] <;> exact nofun)
  | succ fu ih =>
    intro s H
    cases s with
    | l0 x5out x10 =>
      show PL a0 a1 (fu + 1) (.l0 x5out x10) = some v → L0 a0 a1 Q x5out x10 H
      rw [PL]
      refine fun h => L0_step (?_ : r0 a0 a1 Q x5out x10 H)
      revert h
      unfold r0
      repeat' first | exact lsV hQ | exact lsF | apply lsG | apply lsC | refine lsAll fun _ => ?_ | refine lsEx fun _ _ => ?_ | refine lsAnd ?_ ?_ | exact fun h => ih _ _ h
theorem ok {a0 : List (List AV)} {a1 : Int} {v : AV} (h : P a0 a1 = some v) {H : Heap} {Q : AV → Heap → Prop} (hQ : ∀ H, Q v H) : C 16 [.sl 0 1 a0, .int .i64 a1] H Q := by
  refine call ?_
  unfold t
  unfold P at h
  obtain ⟨fu, h⟩ := lim_some h
  revert h
  repeat' first | exact lsV hQ | exact lsF | apply lsG | apply lsC | refine lsAll fun _ => ?_ | refine lsEx fun _ _ => ?_ | refine lsAnd ?_ ?_ | exact fun h => PL_ok hQ _ _ _ h
theorem ls {a0 : List (List AV)} {a1 : Int} {v : AV} {H : Heap} {k : AV → Option AV} {K : AV → Heap → Prop} (h : ∀ w H, k w = some v → K w H) : (P a0 a1).bind k = some v → C 16 [.sl 0 1 a0, .int .i64 a1] H K := fun e => bind_ls (Cq := fun K => C 16 [.sl 0 1 a0, .int .i64 a1] H K) (fun h => ok h) h e
end F16
/-! ### broker/place.Plan: function 21 -/
namespace F21
inductive LS where
  | l0 (x7out : List (List AV)) (x12 : Int)
noncomputable def PL (a0 : List (List AV)) (a1 : List (List AV)) (a2 : Int) : Nat → LS → Option AV
  | 0, _ => none
  | fu + 1, .l0 x7out x12 =>
    if ltI x12 (lenI a0) then
    (if leI 0 x12 then (if ltI x12 (lenI a0) then (if (ce (ro a0 x12.toNat) 0).isStr then ((F18.P ((ce (ro a0 x12.toNat) 0).toStr) a1 a2).bind fun v_1 =>
      if ((v_1).isAgg && Nat.beq (v_1).aggCs.length 2) then (if (((v_1).aggCs).headD .any).isStr then (if ((((v_1).aggCs).tail).headD .any).isSl 1 then (if room x7out [[.str ((((v_1).aggCs).headD .any).toStr), .sl 0 1 (((((v_1).aggCs).tail).headD .any).slXs)]] 40 then PL a0 a1 a2 fu (.l0 (x7out ++ [[.str ((((v_1).aggCs).headD .any).toStr), .sl 0 1 (((((v_1).aggCs).tail).headD .any).slXs)]]) (addW .i64 x12 1)) else none) else none) else none) else none) else none) else none) else none)
    else
    (some (.sl 0 2 x7out))
noncomputable def P (a0 : List (List AV)) (a1 : List (List AV)) (a2 : Int) : Option AV := lim fun fu =>
    PL a0 a1 a2 fu (.l0 [] 0)
theorem PL_ok {a0 : List (List AV)} {a1 : List (List AV)} {a2 : Int} {Q : AV → Heap → Prop} {v : AV} (hQ : ∀ H, Q v H) : ∀ (fu : Nat) (s : LS) (H : Heap), PL a0 a1 a2 fu s = some v → match s with | .l0 x7out x12 => L0 a0 a1 a2 Q x7out x12 H := by
  intro fu
  induction fu with
  | zero => intro s H h; exact absurd h (by cases s <;> simp only [PL] <;> exact nofun)
  | succ fu ih =>
    intro s H
    cases s with
    | l0 x7out x12 =>
      show PL a0 a1 a2 (fu + 1) (.l0 x7out x12) = some v → L0 a0 a1 a2 Q x7out x12 H
      rw [PL]
      refine fun h => L0_step (?_ : r0 a0 a1 a2 Q x7out x12 H)
      revert h
      unfold r0
      repeat' first | exact lsV hQ | exact lsF | apply lsG | apply lsC | refine F18.ls fun _ _ => ?_ | refine lsAll fun _ => ?_ | refine lsEx fun _ _ => ?_ | refine lsAnd ?_ ?_ | exact fun h => ih _ _ h
theorem ok {a0 : List (List AV)} {a1 : List (List AV)} {a2 : Int} {v : AV} (h : P a0 a1 a2 = some v) {H : Heap} {Q : AV → Heap → Prop} (hQ : ∀ H, Q v H) : C 21 [.sl 0 1 a0, .sl 0 1 a1, .int .i64 a2] H Q := by
  refine call ?_
  unfold t
  unfold P at h
  obtain ⟨fu, h⟩ := lim_some h
  revert h
  repeat' first | exact lsV hQ | exact lsF | apply lsG | apply lsC | refine lsAll fun _ => ?_ | refine lsEx fun _ _ => ?_ | refine lsAnd ?_ ?_ | exact fun h => PL_ok hQ _ _ _ h
theorem ls {a0 : List (List AV)} {a1 : List (List AV)} {a2 : Int} {v : AV} {H : Heap} {k : AV → Option AV} {K : AV → Heap → Prop} (h : ∀ w H, k w = some v → K w H) : (P a0 a1 a2).bind k = some v → C 21 [.sl 0 1 a0, .sl 0 1 a1, .int .i64 a2] H K := fun e => bind_ls (Cq := fun K => C 21 [.sl 0 1 a0, .sl 0 1 a1, .int .i64 a2] H K) (fun h => ok h) h e
end F21
/-! ### broker/place.Moves: function 22 -/
namespace F22
inductive LS where
  | l0 (x9out : List (List AV)) (x14 : Int)
noncomputable def PL (a0 : List (List AV)) (a1 : List (List AV)) (a2 : List (List AV)) (a3 : Int) : Nat → LS → Option AV
  | 0, _ => none
  | fu + 1, .l0 x9out x14 =>
    if ltI x14 (lenI a0) then
    (if leI 0 x14 then (if ltI x14 (lenI a0) then (if (ce (ro a0 x14.toNat) 0).isStr then ((F18.P ((ce (ro a0 x14.toNat) 0).toStr) a1 a3).bind fun v_1 =>
      if ((v_1).isAgg && Nat.beq (v_1).aggCs.length 2) then (if (((v_1).aggCs).headD .any).isStr then (if ((((v_1).aggCs).tail).headD .any).isSl 1 then ((F18.P ((ce (ro a0 x14.toNat) 0).toStr) a2 a3).bind fun v_3 =>
        if ((v_3).isAgg && Nat.beq (v_3).aggCs.length 2) then (if (((v_3).aggCs).headD .any).isStr then (if ((((v_3).aggCs).tail).headD .any).isSl 1 then ((F11.P (((((v_1).aggCs).tail).headD .any).slXs) (((((v_3).aggCs).tail).headD .any).slXs)).bind fun v_5 =>
          if (v_5).isBool then (if !((v_5).toBool) then
            (if room x9out [[.str ((ce (ro a0 x14.toNat) 0).toStr)]] 16 then PL a0 a1 a2 a3 fu (.l0 (x9out ++ [[.str ((ce (ro a0 x14.toNat) 0).toStr)]]) (addW .i64 x14 1)) else none)
            else
            (PL a0 a1 a2 a3 fu (.l0 x9out (addW .i64 x14 1)))) else none) else none) else none) else none) else none) else none) else none) else none) else none) else none)
    else
    (some (.sl 0 1 x9out))
noncomputable def P (a0 : List (List AV)) (a1 : List (List AV)) (a2 : List (List AV)) (a3 : Int) : Option AV := lim fun fu =>
    PL a0 a1 a2 a3 fu (.l0 [] 0)
theorem PL_ok {a0 : List (List AV)} {a1 : List (List AV)} {a2 : List (List AV)} {a3 : Int} {Q : AV → Heap → Prop} {v : AV} (hQ : ∀ H, Q v H) : ∀ (fu : Nat) (s : LS) (H : Heap), PL a0 a1 a2 a3 fu s = some v → match s with | .l0 x9out x14 => L0 a0 a1 a2 a3 Q x9out x14 H := by
  intro fu
  induction fu with
  | zero => intro s H h; exact absurd h (by cases s <;> simp only [PL] <;> exact nofun)
  | succ fu ih =>
    intro s H
    cases s with
    | l0 x9out x14 =>
      show PL a0 a1 a2 a3 (fu + 1) (.l0 x9out x14) = some v → L0 a0 a1 a2 a3 Q x9out x14 H
      rw [PL]
      refine fun h => L0_step (?_ : r0 a0 a1 a2 a3 Q x9out x14 H)
      revert h
      unfold r0
      repeat' first | exact lsV hQ | exact lsF | apply lsG | apply lsC | refine F11.ls fun _ _ => ?_ | refine F18.ls fun _ _ => ?_ | refine lsAll fun _ => ?_ | refine lsEx fun _ _ => ?_ | refine lsAnd ?_ ?_ | exact fun h => ih _ _ h
theorem ok {a0 : List (List AV)} {a1 : List (List AV)} {a2 : List (List AV)} {a3 : Int} {v : AV} (h : P a0 a1 a2 a3 = some v) {H : Heap} {Q : AV → Heap → Prop} (hQ : ∀ H, Q v H) : C 22 [.sl 0 1 a0, .sl 0 1 a1, .sl 0 1 a2, .int .i64 a3] H Q := by
  refine call ?_
  unfold t
  unfold P at h
  obtain ⟨fu, h⟩ := lim_some h
  revert h
  repeat' first | exact lsV hQ | exact lsF | apply lsG | apply lsC | refine lsAll fun _ => ?_ | refine lsEx fun _ _ => ?_ | refine lsAnd ?_ ?_ | exact fun h => PL_ok hQ _ _ _ h
theorem ls {a0 : List (List AV)} {a1 : List (List AV)} {a2 : List (List AV)} {a3 : Int} {v : AV} {H : Heap} {k : AV → Option AV} {K : AV → Heap → Prop} (h : ∀ w H, k w = some v → K w H) : (P a0 a1 a2 a3).bind k = some v → C 22 [.sl 0 1 a0, .sl 0 1 a1, .sl 0 1 a2, .int .i64 a3] H K := fun e => bind_ls (Cq := fun K => C 22 [.sl 0 1 a0, .sl 0 1 a1, .sl 0 1 a2, .int .i64 a3] H K) (fun h => ok h) h e
end F22
/-! ### broker/brokerlaw42.PlaceLittle: function 5 -/
namespace F5
inductive LS where
  | l0 (x9with : List (List AV)) (x10bare : List (List AV)) (x11back : List (List AV)) (x47 : Int)
  | lR17 (x9with : List (List AV)) (x10bare : List (List AV)) (x11back : List (List AV)) (x47 : Int) (x101 : Bool)
  | l1 (x11back : List (List AV)) (x17different : List (List AV)) (x105 : Int)
  | lR24 (x11back : List (List AV)) (x17different : List (List AV)) (x19k : Int) (x105 : Int) (x120 : Bool)
  | l2 (x11back : List (List AV)) (x17different : List (List AV)) (x20sum : Int) (x131 : List (List AV)) (x132 : Int) (x133 : Int)
noncomputable def PL (a0 : List (List AV)) (a1 : List (List AV)) (a2_0 : Int) (a2_1 : Int) : Nat → LS → Option AV
  | 0, _ => none
  | fu + 1, .l0 x9with x10bare x11back x47 =>
    if ltI x47 (lenI a0) then
    (if leI 0 x47 then (if ltI x47 (lenI a0) then (if (ce (ro a0 x47.toNat) 0).isStr then ((F18.P ((ce (ro a0 x47.toNat) 0).toStr) x10bare a2_0).bind fun v_13 =>
      if ((v_13).isAgg && Nat.beq (v_13).aggCs.length 2) then (if (((v_13).aggCs).headD .any).isStr then (if ((((v_13).aggCs).tail).headD .any).isSl 1 then ((F18.P ((ce (ro a0 x47.toNat) 0).toStr) x9with a2_0).bind fun v_15 =>
        if ((v_15).isAgg && Nat.beq (v_15).aggCs.length 2) then (if (((v_15).aggCs).headD .any).isStr then (if ((((v_15).aggCs).tail).headD .any).isSl 1 then ((F19.P ((ce (ro a0 x47.toNat) 0).toStr) a1).bind fun v_17 =>
          if (v_17).isSl 1 then ((F19.P ((ce (ro a0 x47.toNat) 0).toStr) x11back).bind fun v_19 =>
            if (v_19).isSl 1 then ((F11.P ((v_17).slXs) ((v_19).slXs)).bind fun v_21 =>
              if (v_21).isBool then (if !((v_21).toBool) then
                (some (.bool false))
                else
                ((F20.P (((((v_15).aggCs).tail).headD .any).slXs) a2_1).bind fun v_23 =>
                  if (v_23).isBool then (if !((v_23).toBool) then
                    ((F11.P (((((v_13).aggCs).tail).headD .any).slXs) (((((v_15).aggCs).tail).headD .any).slXs)).bind fun v_25 =>
                      if (v_25).isBool then (if !((v_25).toBool) then
                        (some (.bool false))
                        else
                        (PL a0 a1 a2_0 a2_1 fu (.l0 x9with x10bare x11back (addW .i64 x47 1)))) else none)
                    else
                    ((F16.P (((((v_15).aggCs).tail).headD .any).slXs) a2_1).bind fun v_27 =>
                      if (v_27).isSl 1 then (if !(eqI (lenI ((v_27).slXs)) (subW .i64 (lenI (((((v_15).aggCs).tail).headD .any).slXs)) 1)) then
                        (PL a0 a1 a2_0 a2_1 fu (.lR17 x9with x10bare x11back x47 true))
                        else
                        (if ltI (lenI (((((v_13).aggCs).tail).headD .any).slXs)) (lenI ((v_27).slXs)) then
                          (PL a0 a1 a2_0 a2_1 fu (.lR17 x9with x10bare x11back x47 true))
                          else
                          (if leI 0 (lenI ((v_27).slXs)) then (if leI (lenI ((v_27).slXs)) (lenI ((v_27).slXs)) then (if leI (lenI ((v_27).slXs)) (lenI (((((v_13).aggCs).tail).headD .any).slXs)) then ((F11.P (((((((v_13).aggCs).tail).headD .any).slXs).take ((lenI ((v_27).slXs)).toNat)).drop 0) ((v_27).slXs)).bind fun v_29 =>
                            if (v_29).isBool then PL a0 a1 a2_0 a2_1 fu (.lR17 x9with x10bare x11back x47 (!((v_29).toBool))) else none) else none) else none) else none))) else none)) else none)) else none) else none) else none) else none) else none) else none) else none) else none) else none) else none) else none) else none)
    else
    (PL a0 a1 a2_0 a2_1 fu (.l1 x11back [] 0))
  | fu + 1, .lR17 x9with x10bare x11back x47 x101 =>
    if x101 then
    (some (.bool false))
    else
    (PL a0 a1 a2_0 a2_1 fu (.l0 x9with x10bare x11back (addW .i64 x47 1)))
  | fu + 1, .l1 x11back x17different x105 =>
    if ltI x105 (lenI a1) then
    (if leI 0 x105 then (if ltI x105 (lenI a1) then (if (ce (ro a1 x105.toNat) 0).isInt .i64 then (if leI 0 ((ce (ro a1 x105.toNat) 0).toInt) then
      (if ltI ((ce (ro a1 x105.toNat) 0).toInt) 7 then
        ((F20.P x17different ((ce (ro a1 x105.toNat) 0).toInt)).bind fun v_31 =>
          if (v_31).isBool then PL a0 a1 a2_0 a2_1 fu (.lR24 x11back x17different ((ce (ro a1 x105.toNat) 0).toInt) x105 (!((v_31).toBool))) else none)
        else
        (PL a0 a1 a2_0 a2_1 fu (.lR24 x11back x17different ((ce (ro a1 x105.toNat) 0).toInt) x105 false)))
      else
      (PL a0 a1 a2_0 a2_1 fu (.lR24 x11back x17different ((ce (ro a1 x105.toNat) 0).toInt) x105 false))) else none) else none) else none)
    else
    ((F21.P a0 a1 a2_0).bind fun v_33 =>
      if (v_33).isSl 2 then ((F12.P ((v_33).slXs) x17different).bind fun v_35 =>
        if (v_35).isSl 1 then PL a0 a1 a2_0 a2_1 fu (.l2 x11back x17different 0 ((v_35).slXs) (lenI ((v_35).slXs)) 0) else none) else none)
  | fu + 1, .lR24 x11back x17different x19k x105 x120 =>
    if x120 then
    (if room x17different [[.int .i64 x19k]] 8 then PL a0 a1 a2_0 a2_1 fu (.l1 x11back (x17different ++ [[.int .i64 x19k]]) (addW .i64 x105 1)) else none)
    else
    (PL a0 a1 a2_0 a2_1 fu (.l1 x11back x17different (addW .i64 x105 1)))
  | fu + 1, .l2 x11back x17different x20sum x131 x132 x133 =>
    if ltI x133 x132 then
    (if leI 0 x133 then (if ltI x133 (lenI x131) then (if (ce (ro x131 x133.toNat) 0).isInt .i64 then PL a0 a1 a2_0 a2_1 fu (.l2 x11back x17different (addW .i64 x20sum ((ce (ro x131 x133.toNat) 0).toInt)) x131 x132 (addW .i64 x133 1)) else none) else none) else none)
    else
    (if eqI x20sum (mulW .i64 (lenI a0) (cond (ltI (lenI x17different) (cond (ltI a2_0 0) 0 a2_0)) (lenI x17different) (cond (ltI a2_0 0) 0 a2_0))) then
      ((F22.P a0 a1 x11back a2_0).bind fun v_37 =>
        if (v_37).isSl 1 then (if eqI (lenI ((v_37).slXs)) 0 then
          ((F8.P).bind fun v_39 =>
            if (v_39).isBool then some (.bool ((v_39).toBool)) else none)
          else
          (some (.bool false))) else none)
      else
      (some (.bool false)))
noncomputable def P (a0 : List (List AV)) (a1 : List (List AV)) (a2_0 : Int) (a2_1 : Int) : Option AV := lim fun fu =>
    (F14.P a0 [[.sl 0 1 a1]]).bind fun v_1 =>
    if (v_1).isBool then (if !((v_1).toBool) then
      ((F8.P).bind fun v_3 =>
        if (v_3).isBool then some (.bool ((v_3).toBool)) else none)
      else
      ((F15.P a1).bind fun v_5 =>
        if (v_5).isOwn 1 then (if room ((v_5).slXs) [[.int .i64 a2_1]] 8 then ((F16.P a1 a2_1).bind fun v_7 =>
          if (v_7).isSl 1 then ((F15.P a1).bind fun v_9 =>
            if (v_9).isOwn 1 then ((RevP.P 1 ((v_9).slXs) []).bind fun y_11 =>
              PL a0 a1 a2_0 a2_1 fu (.l0 (((v_5).slXs) ++ [[.int .i64 a2_1]]) ((v_7).slXs) y_11 0)) else none) else none) else none) else none)) else none
theorem PL_ok {a0 : List (List AV)} {a1 : List (List AV)} {a2_0 : Int} {a2_1 : Int} {Q : AV → Heap → Prop} {v : AV} (hQ : ∀ H, Q v H) : ∀ (fu : Nat) (s : LS) (H : Heap), PL a0 a1 a2_0 a2_1 fu s = some v → match s with | .l0 x9with x10bare x11back x47 => L0 a0 a1 a2_0 a2_1 Q x9with x10bare x11back x47 H | .lR17 x9with x10bare x11back x47 x101 => JR17 a0 a1 a2_0 a2_1 Q x9with x10bare x11back x47 x101 H | .l1 x11back x17different x105 => L1 a0 a1 a2_0 a2_1 Q x11back x17different x105 H | .lR24 x11back x17different x19k x105 x120 => JR24 a0 a1 a2_0 a2_1 Q x11back x17different x19k x105 x120 H | .l2 x11back x17different x20sum x131 x132 x133 => L2 a0 a1 a2_0 a2_1 Q x11back x17different x20sum x131 x132 x133 H := by
  intro fu
  induction fu with
  | zero => intro s H h; exact absurd h (by cases s <;> simp only [PL] <;> exact nofun)
  | succ fu ih =>
    intro s H
    cases s with
    | l0 x9with x10bare x11back x47 =>
      show PL a0 a1 a2_0 a2_1 (fu + 1) (.l0 x9with x10bare x11back x47) = some v → L0 a0 a1 a2_0 a2_1 Q x9with x10bare x11back x47 H
      rw [PL]
      refine fun h => L0_step (?_ : r0 a0 a1 a2_0 a2_1 Q x9with x10bare x11back x47 H)
      revert h
      unfold r0
      repeat' first | exact lsV hQ | exact lsF | apply lsG | apply lsC | refine F11.ls fun _ _ => ?_ | refine F16.ls fun _ _ => ?_ | refine F18.ls fun _ _ => ?_ | refine F19.ls fun _ _ => ?_ | refine F20.ls fun _ _ => ?_ | refine lsAll fun _ => ?_ | refine lsEx fun _ _ => ?_ | refine lsAnd ?_ ?_ | exact fun h => ih _ _ h
    | lR17 x9with x10bare x11back x47 x101 =>
      show PL a0 a1 a2_0 a2_1 (fu + 1) (.lR17 x9with x10bare x11back x47 x101) = some v → JR17 a0 a1 a2_0 a2_1 Q x9with x10bare x11back x47 x101 H
      rw [PL]
      refine fun h => JR17_step (?_ : jR17 a0 a1 a2_0 a2_1 Q x9with x10bare x11back x47 x101 H)
      revert h
      unfold jR17
      repeat' first | exact lsV hQ | exact lsF | apply lsG | apply lsC | refine lsAll fun _ => ?_ | refine lsEx fun _ _ => ?_ | refine lsAnd ?_ ?_ | exact fun h => ih _ _ h
    | l1 x11back x17different x105 =>
      show PL a0 a1 a2_0 a2_1 (fu + 1) (.l1 x11back x17different x105) = some v → L1 a0 a1 a2_0 a2_1 Q x11back x17different x105 H
      rw [PL]
      refine fun h => L1_step (?_ : r1 a0 a1 a2_0 a2_1 Q x11back x17different x105 H)
      revert h
      unfold r1
      repeat' first | exact lsV hQ | exact lsF | apply lsG | apply lsC | refine F12.ls fun _ _ => ?_ | refine F20.ls fun _ _ => ?_ | refine F21.ls fun _ _ => ?_ | refine lsAll fun _ => ?_ | refine lsEx fun _ _ => ?_ | refine lsAnd ?_ ?_ | exact fun h => ih _ _ h
    | lR24 x11back x17different x19k x105 x120 =>
      show PL a0 a1 a2_0 a2_1 (fu + 1) (.lR24 x11back x17different x19k x105 x120) = some v → JR24 a0 a1 a2_0 a2_1 Q x11back x17different x19k x105 x120 H
      rw [PL]
      refine fun h => JR24_step (?_ : jR24 a0 a1 a2_0 a2_1 Q x11back x17different x19k x105 x120 H)
      revert h
      unfold jR24
      repeat' first | exact lsV hQ | exact lsF | apply lsG | apply lsC | refine lsAll fun _ => ?_ | refine lsEx fun _ _ => ?_ | refine lsAnd ?_ ?_ | exact fun h => ih _ _ h
    | l2 x11back x17different x20sum x131 x132 x133 =>
      show PL a0 a1 a2_0 a2_1 (fu + 1) (.l2 x11back x17different x20sum x131 x132 x133) = some v → L2 a0 a1 a2_0 a2_1 Q x11back x17different x20sum x131 x132 x133 H
      rw [PL]
      refine fun h => L2_step (?_ : r2 a0 a1 a2_0 a2_1 Q x11back x17different x20sum x131 x132 x133 H)
      revert h
      unfold r2
      repeat' first | exact lsV hQ | exact lsF | apply lsG | apply lsC | refine F22.ls fun _ _ => ?_ | refine F8.ls fun _ _ => ?_ | refine lsAll fun _ => ?_ | refine lsEx fun _ _ => ?_ | refine lsAnd ?_ ?_ | exact fun h => ih _ _ h
theorem ok {a0 : List (List AV)} {a1 : List (List AV)} {a2_0 : Int} {a2_1 : Int} {v : AV} (h : P a0 a1 a2_0 a2_1 = some v) {H : Heap} {Q : AV → Heap → Prop} (hQ : ∀ H, Q v H) : C 5 [.sl 0 1 a0, .sl 0 1 a1, .agg [.int .i64 a2_0, .int .i64 a2_1]] H Q := by
  refine call ?_
  unfold t
  unfold P at h
  obtain ⟨fu, h⟩ := lim_some h
  revert h
  repeat' first | exact lsV hQ | exact lsF | apply lsG | apply lsC | refine F15.ls (fun _ _ => ?_) (fun _ => ?_) | refine F14.ls fun _ _ => ?_ | refine F16.ls fun _ _ => ?_ | refine F8.ls fun _ _ => ?_ | refine RevP.ls fun _ _ => ?_ | refine lsAll fun _ => ?_ | refine lsEx fun _ _ => ?_ | refine lsAnd ?_ ?_ | exact fun h => PL_ok hQ _ _ _ h
theorem ls {a0 : List (List AV)} {a1 : List (List AV)} {a2_0 : Int} {a2_1 : Int} {v : AV} {H : Heap} {k : AV → Option AV} {K : AV → Heap → Prop} (h : ∀ w H, k w = some v → K w H) : (P a0 a1 a2_0 a2_1).bind k = some v → C 5 [.sl 0 1 a0, .sl 0 1 a1, .agg [.int .i64 a2_0, .int .i64 a2_1]] H K := fun e => bind_ls (Cq := fun K => C 5 [.sl 0 1 a0, .sl 0 1 a1, .agg [.int .i64 a2_0, .int .i64 a2_1]] H K) (fun h => ok h) h e
end F5
/-! ### broker/brokerref42.Rank: function 23 -/
namespace F23
inductive LS where
  | l0 (x5out : List (List AV)) (x8 : Int)
  | l1 (x5out : List (List AV)) (x6n : Int) (x7at : Int) (x8 : Int)
noncomputable def PL (a0 : ByteArray) (a1 : List (List AV)) : Nat → LS → Option AV
  | 0, _ => none
  | fu + 1, .l0 x5out x8 =>
    if ltI x8 7 then
    ((F20.P a1 x8).bind fun v_1 =>
      if (v_1).isBool then (if !((v_1).toBool) then
        (PL a0 a1 fu (.l0 x5out (addW .i64 x8 1)))
        else
        (PL a0 a1 fu (.l1 x5out x8 0 x8))) else none)
    else
    (some (.sl 0 1 x5out))
  | fu + 1, .l1 x5out x6n x7at x8 =>
    if ltI x7at (lenI x5out) then
    (if leI 0 x7at then (if ltI x7at (lenI x5out) then (if (ce (ro x5out x7at.toNat) 0).isInt .i64 then ((F10.P a0 ((ce (ro x5out x7at.toNat) 0).toInt)).bind fun v_3 =>
      if (v_3).isInt .i64 then ((F10.P a0 x6n).bind fun v_5 =>
        if (v_5).isInt .i64 then (if leI ((v_5).toInt) ((v_3).toInt) then
          (PL a0 a1 fu (.l1 x5out x6n (addW .i64 x7at 1) x8))
          else
          ((InsP.P 1 x5out [.int .i64 x7at, .sl 0 1 [[.int .i64 x6n]]]).bind fun y_7 =>
            PL a0 a1 fu (.l0 y_7 (addW .i64 x8 1)))) else none) else none) else none) else none) else none)
    else
    ((InsP.P 1 x5out [.int .i64 x7at, .sl 0 1 [[.int .i64 x6n]]]).bind fun y_9 =>
      PL a0 a1 fu (.l0 y_9 (addW .i64 x8 1)))
noncomputable def P (a0 : ByteArray) (a1 : List (List AV)) : Option AV := lim fun fu =>
    PL a0 a1 fu (.l0 [] 0)
theorem PL_ok {a0 : ByteArray} {a1 : List (List AV)} {Q : AV → Heap → Prop} {v : AV} (hQ : ∀ H, Q v H) : ∀ (fu : Nat) (s : LS) (H : Heap), PL a0 a1 fu s = some v → match s with | .l0 x5out x8 => L0 a0 a1 Q x5out x8 H | .l1 x5out x6n x7at x8 => L1 a0 a1 Q x5out x6n x7at x8 H := by
  intro fu
  induction fu with
  | zero => intro s H h; exact absurd h (by cases s <;> simp only [PL] <;> exact nofun)
  | succ fu ih =>
    intro s H
    cases s with
    | l0 x5out x8 =>
      show PL a0 a1 (fu + 1) (.l0 x5out x8) = some v → L0 a0 a1 Q x5out x8 H
      rw [PL]
      refine fun h => L0_step (?_ : r0 a0 a1 Q x5out x8 H)
      revert h
      unfold r0
      repeat' first | exact lsV hQ | exact lsF | apply lsG | apply lsC | refine F20.ls fun _ _ => ?_ | refine lsAll fun _ => ?_ | refine lsEx fun _ _ => ?_ | refine lsAnd ?_ ?_ | exact fun h => ih _ _ h
    | l1 x5out x6n x7at x8 =>
      show PL a0 a1 (fu + 1) (.l1 x5out x6n x7at x8) = some v → L1 a0 a1 Q x5out x6n x7at x8 H
      rw [PL]
      refine fun h => L1_step (?_ : r1 a0 a1 Q x5out x6n x7at x8 H)
      revert h
      unfold r1
      repeat' first | exact lsV hQ | exact lsF | apply lsG | apply lsC | refine F10.ls fun _ _ => ?_ | refine InsP.ls fun _ _ => ?_ | refine lsAll fun _ => ?_ | refine lsEx fun _ _ => ?_ | refine lsAnd ?_ ?_ | exact fun h => ih _ _ h
theorem ok {a0 : ByteArray} {a1 : List (List AV)} {v : AV} (h : P a0 a1 = some v) {H : Heap} {Q : AV → Heap → Prop} (hQ : ∀ H, Q v H) : C 23 [.str a0, .sl 0 1 a1] H Q := by
  refine call ?_
  unfold t
  unfold P at h
  obtain ⟨fu, h⟩ := lim_some h
  revert h
  repeat' first | exact lsV hQ | exact lsF | apply lsG | apply lsC | refine lsAll fun _ => ?_ | refine lsEx fun _ _ => ?_ | refine lsAnd ?_ ?_ | exact fun h => PL_ok hQ _ _ _ h
theorem ls {a0 : ByteArray} {a1 : List (List AV)} {v : AV} {H : Heap} {k : AV → Option AV} {K : AV → Heap → Prop} (h : ∀ w H, k w = some v → K w H) : (P a0 a1).bind k = some v → C 23 [.str a0, .sl 0 1 a1] H K := fun e => bind_ls (Cq := fun K => C 23 [.str a0, .sl 0 1 a1] H K) (fun h => ok h) h e
end F23
/-! ### broker/brokerref42.Same: function 24 -/
namespace F24
inductive LS where
  | l0 (x14 : Int)
noncomputable def PL (a0 : List (List AV)) (a1 : List (List AV)) : Nat → LS → Option AV
  | 0, _ => none
  | fu + 1, .l0 x14 =>
    if ltI x14 (lenI a0) then
    (if leI 0 x14 then (if ltI x14 (lenI a0) then (if (ce (ro a0 x14.toNat) 0).isStr then (if (ce (ro a0 x14.toNat) 1).isSl 1 then (if leI 0 x14 then (if ltI x14 (lenI a1) then (if (ce (ro a1 x14.toNat) 0).isStr then (if !(eqS ((ce (ro a0 x14.toNat) 0).toStr) ((ce (ro a1 x14.toNat) 0).toStr)) then
      (some (.bool false))
      else
      (if leI 0 x14 then (if ltI x14 (lenI a1) then (if (ce (ro a1 x14.toNat) 1).isSl 1 then ((F11.P ((ce (ro a0 x14.toNat) 1).slXs) ((ce (ro a1 x14.toNat) 1).slXs)).bind fun v_1 =>
        if (v_1).isBool then (if !((v_1).toBool) then
          (some (.bool false))
          else
          (PL a0 a1 fu (.l0 (addW .i64 x14 1)))) else none) else none) else none) else none)) else none) else none) else none) else none) else none) else none) else none)
    else
    (some (.bool true))
noncomputable def P (a0 : List (List AV)) (a1 : List (List AV)) : Option AV := lim fun fu =>
    if !(eqI (lenI a0) (lenI a1)) then
    (some (.bool false))
    else
    (PL a0 a1 fu (.l0 0))
theorem PL_ok {a0 : List (List AV)} {a1 : List (List AV)} {Q : AV → Heap → Prop} {v : AV} (hQ : ∀ H, Q v H) : ∀ (fu : Nat) (s : LS) (H : Heap), PL a0 a1 fu s = some v → match s with | .l0 x14 => L0 a0 a1 Q x14 H := by
  intro fu
  induction fu with
  | zero => intro s H h; exact absurd h (by cases s <;> simp only [PL] <;> exact nofun)
  | succ fu ih =>
    intro s H
    cases s with
    | l0 x14 =>
      show PL a0 a1 (fu + 1) (.l0 x14) = some v → L0 a0 a1 Q x14 H
      rw [PL]
      refine fun h => L0_step (?_ : r0 a0 a1 Q x14 H)
      revert h
      unfold r0
      repeat' first | exact lsV hQ | exact lsF | apply lsG | apply lsC | refine F11.ls fun _ _ => ?_ | refine lsAll fun _ => ?_ | refine lsEx fun _ _ => ?_ | refine lsAnd ?_ ?_ | exact fun h => ih _ _ h
theorem ok {a0 : List (List AV)} {a1 : List (List AV)} {v : AV} (h : P a0 a1 = some v) {H : Heap} {Q : AV → Heap → Prop} (hQ : ∀ H, Q v H) : C 24 [.sl 0 2 a0, .sl 0 2 a1] H Q := by
  refine call ?_
  unfold t
  unfold P at h
  obtain ⟨fu, h⟩ := lim_some h
  revert h
  repeat' first | exact lsV hQ | exact lsF | apply lsG | apply lsC | refine lsAll fun _ => ?_ | refine lsEx fun _ _ => ?_ | refine lsAnd ?_ ?_ | exact fun h => PL_ok hQ _ _ _ h
theorem ls {a0 : List (List AV)} {a1 : List (List AV)} {v : AV} {H : Heap} {k : AV → Option AV} {K : AV → Heap → Prop} (h : ∀ w H, k w = some v → K w H) : (P a0 a1).bind k = some v → C 24 [.sl 0 2 a0, .sl 0 2 a1] H K := fun e => bind_ls (Cq := fun K => C 24 [.sl 0 2 a0, .sl 0 2 a1] H K) (fun h => ok h) h e
end F24
/-! ### broker/brokerref42.Place: function 25 -/
namespace F25
noncomputable def P (a0 : ByteArray) (a1 : List (List AV)) (a2 : Int) : Option AV :=
    (F23.P a0 a1).bind fun v_1 =>
    if (v_1).isSl 1 then (if leI 0 (cond (ltI (lenI ((v_1).slXs)) (cond (ltI a2 0) 0 a2)) (lenI ((v_1).slXs)) (cond (ltI a2 0) 0 a2)) then (if leI (cond (ltI (lenI ((v_1).slXs)) (cond (ltI a2 0) 0 a2)) (lenI ((v_1).slXs)) (cond (ltI a2 0) 0 a2)) (cond (ltI (lenI ((v_1).slXs)) (cond (ltI a2 0) 0 a2)) (lenI ((v_1).slXs)) (cond (ltI a2 0) 0 a2)) then (if leI (cond (ltI (lenI ((v_1).slXs)) (cond (ltI a2 0) 0 a2)) (lenI ((v_1).slXs)) (cond (ltI a2 0) 0 a2)) (lenI ((v_1).slXs)) then some (.agg [.str a0, .sl 0 1 ((((v_1).slXs).take ((cond (ltI (lenI ((v_1).slXs)) (cond (ltI a2 0) 0 a2)) (lenI ((v_1).slXs)) (cond (ltI a2 0) 0 a2)).toNat)).drop 0)]) else none) else none) else none) else none
theorem ok {a0 : ByteArray} {a1 : List (List AV)} {a2 : Int} {v : AV} (h : P a0 a1 a2 = some v) {H : Heap} {Q : AV → Heap → Prop} (hQ : ∀ H, Q v H) : C 25 [.str a0, .sl 0 1 a1, .int .i64 a2] H Q := by
  refine call ?_
  unfold t
  unfold P at h
  revert h
  repeat' first | exact lsV hQ | exact lsF | apply lsG | apply lsC | refine F23.ls fun _ _ => ?_ | refine lsAll fun _ => ?_ | refine lsEx fun _ _ => ?_ | refine lsAnd ?_ ?_
theorem ls {a0 : ByteArray} {a1 : List (List AV)} {a2 : Int} {v : AV} {H : Heap} {k : AV → Option AV} {K : AV → Heap → Prop} (h : ∀ w H, k w = some v → K w H) : (P a0 a1 a2).bind k = some v → C 25 [.str a0, .sl 0 1 a1, .int .i64 a2] H K := fun e => bind_ls (Cq := fun K => C 25 [.str a0, .sl 0 1 a1, .int .i64 a2] H K) (fun h => ok h) h e
end F25
/-! ### broker/brokerref42.Plan: function 26 -/
namespace F26
inductive LS where
  | l0 (x7out : List (List AV)) (x12 : Int)
noncomputable def PL (a0 : List (List AV)) (a1 : List (List AV)) (a2 : Int) : Nat → LS → Option AV
  | 0, _ => none
  | fu + 1, .l0 x7out x12 =>
    if ltI x12 (lenI a0) then
    (if leI 0 x12 then (if ltI x12 (lenI a0) then (if (ce (ro a0 x12.toNat) 0).isStr then ((F25.P ((ce (ro a0 x12.toNat) 0).toStr) a1 a2).bind fun v_1 =>
      if ((v_1).isAgg && Nat.beq (v_1).aggCs.length 2) then (if (((v_1).aggCs).headD .any).isStr then (if ((((v_1).aggCs).tail).headD .any).isSl 1 then (if room x7out [[.str ((((v_1).aggCs).headD .any).toStr), .sl 0 1 (((((v_1).aggCs).tail).headD .any).slXs)]] 40 then PL a0 a1 a2 fu (.l0 (x7out ++ [[.str ((((v_1).aggCs).headD .any).toStr), .sl 0 1 (((((v_1).aggCs).tail).headD .any).slXs)]]) (addW .i64 x12 1)) else none) else none) else none) else none) else none) else none) else none)
    else
    (some (.sl 0 2 x7out))
noncomputable def P (a0 : List (List AV)) (a1 : List (List AV)) (a2 : Int) : Option AV := lim fun fu =>
    PL a0 a1 a2 fu (.l0 [] 0)
theorem PL_ok {a0 : List (List AV)} {a1 : List (List AV)} {a2 : Int} {Q : AV → Heap → Prop} {v : AV} (hQ : ∀ H, Q v H) : ∀ (fu : Nat) (s : LS) (H : Heap), PL a0 a1 a2 fu s = some v → match s with | .l0 x7out x12 => L0 a0 a1 a2 Q x7out x12 H := by
  intro fu
  induction fu with
  | zero => intro s H h; exact absurd h (by cases s <;> simp only [PL] <;> exact nofun)
  | succ fu ih =>
    intro s H
    cases s with
    | l0 x7out x12 =>
      show PL a0 a1 a2 (fu + 1) (.l0 x7out x12) = some v → L0 a0 a1 a2 Q x7out x12 H
      rw [PL]
      refine fun h => L0_step (?_ : r0 a0 a1 a2 Q x7out x12 H)
      revert h
      unfold r0
      repeat' first | exact lsV hQ | exact lsF | apply lsG | apply lsC | refine F25.ls fun _ _ => ?_ | refine lsAll fun _ => ?_ | refine lsEx fun _ _ => ?_ | refine lsAnd ?_ ?_ | exact fun h => ih _ _ h
theorem ok {a0 : List (List AV)} {a1 : List (List AV)} {a2 : Int} {v : AV} (h : P a0 a1 a2 = some v) {H : Heap} {Q : AV → Heap → Prop} (hQ : ∀ H, Q v H) : C 26 [.sl 0 1 a0, .sl 0 1 a1, .int .i64 a2] H Q := by
  refine call ?_
  unfold t
  unfold P at h
  obtain ⟨fu, h⟩ := lim_some h
  revert h
  repeat' first | exact lsV hQ | exact lsF | apply lsG | apply lsC | refine lsAll fun _ => ?_ | refine lsEx fun _ _ => ?_ | refine lsAnd ?_ ?_ | exact fun h => PL_ok hQ _ _ _ h
theorem ls {a0 : List (List AV)} {a1 : List (List AV)} {a2 : Int} {v : AV} {H : Heap} {k : AV → Option AV} {K : AV → Heap → Prop} (h : ∀ w H, k w = some v → K w H) : (P a0 a1 a2).bind k = some v → C 26 [.sl 0 1 a0, .sl 0 1 a1, .int .i64 a2] H K := fun e => bind_ls (Cq := fun K => C 26 [.sl 0 1 a0, .sl 0 1 a1, .int .i64 a2] H K) (fun h => ok h) h e
end F26
/-! ### broker/brokerlaw42.PlaceRanks: function 6 -/
namespace F6
inductive LS where
  | l0 (x17 : Int)
noncomputable def PL (a0 : List (List AV)) (a1 : List (List AV)) (a2 : Int) : Nat → LS → Option AV
  | 0, _ => none
  | fu + 1, .l0 x17 =>
    if ltI x17 (lenI a0) then
    (if leI 0 x17 then (if ltI x17 (lenI a0) then (if (ce (ro a0 x17.toNat) 0).isStr then ((F19.P ((ce (ro a0 x17.toNat) 0).toStr) a1).bind fun v_5 =>
      if (v_5).isSl 1 then ((F23.P ((ce (ro a0 x17.toNat) 0).toStr) a1).bind fun v_7 =>
        if (v_7).isSl 1 then ((F11.P ((v_5).slXs) ((v_7).slXs)).bind fun v_9 =>
          if (v_9).isBool then (if !((v_9).toBool) then
            (some (.bool false))
            else
            ((F18.P ((ce (ro a0 x17.toNat) 0).toStr) a1 a2).bind fun v_11 =>
              if ((v_11).isAgg && Nat.beq (v_11).aggCs.length 2) then (if (((v_11).aggCs).headD .any).isStr then (if ((((v_11).aggCs).tail).headD .any).isSl 1 then ((F25.P ((ce (ro a0 x17.toNat) 0).toStr) a1 a2).bind fun v_13 =>
                if ((v_13).isAgg && Nat.beq (v_13).aggCs.length 2) then (if (((v_13).aggCs).headD .any).isStr then (if ((((v_13).aggCs).tail).headD .any).isSl 1 then ((F24.P [[.str ((((v_11).aggCs).headD .any).toStr), .sl 0 1 (((((v_11).aggCs).tail).headD .any).slXs)]] [[.str ((((v_13).aggCs).headD .any).toStr), .sl 0 1 (((((v_13).aggCs).tail).headD .any).slXs)]]).bind fun v_15 =>
                  if (v_15).isBool then (if !((v_15).toBool) then
                    (some (.bool false))
                    else
                    (PL a0 a1 a2 fu (.l0 (addW .i64 x17 1)))) else none) else none) else none) else none) else none) else none) else none)) else none) else none) else none) else none) else none) else none)
    else
    ((F21.P a0 a1 a2).bind fun v_17 =>
      if (v_17).isSl 2 then ((F26.P a0 a1 a2).bind fun v_19 =>
        if (v_19).isSl 2 then ((F24.P ((v_17).slXs) ((v_19).slXs)).bind fun v_21 =>
          if (v_21).isBool then (if (v_21).toBool then
            ((F8.P).bind fun v_23 =>
              if (v_23).isBool then some (.bool ((v_23).toBool)) else none)
            else
            (some (.bool false))) else none) else none) else none)
noncomputable def P (a0 : List (List AV)) (a1 : List (List AV)) (a2 : Int) : Option AV := lim fun fu =>
    (F14.P a0 [[.sl 0 1 a1]]).bind fun v_1 =>
    if (v_1).isBool then (if !((v_1).toBool) then
      ((F8.P).bind fun v_3 =>
        if (v_3).isBool then some (.bool ((v_3).toBool)) else none)
      else
      (PL a0 a1 a2 fu (.l0 0))) else none
theorem PL_ok {a0 : List (List AV)} {a1 : List (List AV)} {a2 : Int} {Q : AV → Heap → Prop} {v : AV} (hQ : ∀ H, Q v H) : ∀ (fu : Nat) (s : LS) (H : Heap), PL a0 a1 a2 fu s = some v → match s with | .l0 x17 => L0 a0 a1 a2 Q x17 H := by
  intro fu
  induction fu with
  | zero => intro s H h; exact absurd h (by cases s <;> simp only [PL] <;> exact nofun)
  | succ fu ih =>
    intro s H
    cases s with
    | l0 x17 =>
      show PL a0 a1 a2 (fu + 1) (.l0 x17) = some v → L0 a0 a1 a2 Q x17 H
      rw [PL]
      refine fun h => L0_step (?_ : r0 a0 a1 a2 Q x17 H)
      revert h
      unfold r0
      repeat' first | exact lsV hQ | exact lsF | apply lsG | apply lsC | refine F11.ls fun _ _ => ?_ | refine F18.ls fun _ _ => ?_ | refine F19.ls fun _ _ => ?_ | refine F21.ls fun _ _ => ?_ | refine F23.ls fun _ _ => ?_ | refine F24.ls fun _ _ => ?_ | refine F25.ls fun _ _ => ?_ | refine F26.ls fun _ _ => ?_ | refine F8.ls fun _ _ => ?_ | refine lsAll fun _ => ?_ | refine lsEx fun _ _ => ?_ | refine lsAnd ?_ ?_ | exact fun h => ih _ _ h
theorem ok {a0 : List (List AV)} {a1 : List (List AV)} {a2 : Int} {v : AV} (h : P a0 a1 a2 = some v) {H : Heap} {Q : AV → Heap → Prop} (hQ : ∀ H, Q v H) : C 6 [.sl 0 1 a0, .sl 0 1 a1, .int .i64 a2] H Q := by
  refine call ?_
  unfold t
  unfold P at h
  obtain ⟨fu, h⟩ := lim_some h
  revert h
  repeat' first | exact lsV hQ | exact lsF | apply lsG | apply lsC | refine F14.ls fun _ _ => ?_ | refine F8.ls fun _ _ => ?_ | refine lsAll fun _ => ?_ | refine lsEx fun _ _ => ?_ | refine lsAnd ?_ ?_ | exact fun h => PL_ok hQ _ _ _ h
theorem ls {a0 : List (List AV)} {a1 : List (List AV)} {a2 : Int} {v : AV} {H : Heap} {k : AV → Option AV} {K : AV → Heap → Prop} (h : ∀ w H, k w = some v → K w H) : (P a0 a1 a2).bind k = some v → C 6 [.sl 0 1 a0, .sl 0 1 a1, .int .i64 a2] H K := fun e => bind_ls (Cq := fun K => C 6 [.sl 0 1 a0, .sl 0 1 a1, .int .i64 a2] H K) (fun h => ok h) h e
end F6
/-! ### slices.Equal[[]string,string]: function 27 -/
namespace F27
inductive LS where
  | l0 (x13 : Int)
noncomputable def PL (a0 : List (List AV)) (a1 : List (List AV)) : Nat → LS → Option AV
  | 0, _ => none
  | fu + 1, .l0 x13 =>
    if ltI x13 (lenI a0) then
    (if leI 0 x13 then (if ltI x13 (lenI a0) then (if (ce (ro a0 x13.toNat) 0).isStr then (if leI 0 x13 then (if ltI x13 (lenI a1) then (if (ce (ro a1 x13.toNat) 0).isStr then (if !(eqS ((ce (ro a0 x13.toNat) 0).toStr) ((ce (ro a1 x13.toNat) 0).toStr)) then
      (some (.bool false))
      else
      (PL a0 a1 fu (.l0 (addW .i64 x13 1)))) else none) else none) else none) else none) else none) else none)
    else
    (some (.bool true))
noncomputable def P (a0 : List (List AV)) (a1 : List (List AV)) : Option AV := lim fun fu =>
    if !(eqI (lenI a0) (lenI a1)) then
    (some (.bool false))
    else
    (PL a0 a1 fu (.l0 0))
theorem PL_ok {a0 : List (List AV)} {a1 : List (List AV)} {Q : AV → Heap → Prop} {v : AV} (hQ : ∀ H, Q v H) : ∀ (fu : Nat) (s : LS) (H : Heap), PL a0 a1 fu s = some v → match s with | .l0 x13 => L0 a0 a1 Q x13 H := by
  intro fu
  induction fu with
  | zero => intro s H h; exact absurd h (by cases s <;> simp only [PL] <;> exact nofun)
  | succ fu ih =>
    intro s H
    cases s with
    | l0 x13 =>
      show PL a0 a1 (fu + 1) (.l0 x13) = some v → L0 a0 a1 Q x13 H
      rw [PL]
      refine fun h => L0_step (?_ : r0 a0 a1 Q x13 H)
      revert h
      unfold r0
      repeat' first | exact lsV hQ | exact lsF | apply lsG | apply lsC | refine lsAll fun _ => ?_ | refine lsEx fun _ _ => ?_ | refine lsAnd ?_ ?_ | exact fun h => ih _ _ h
theorem ok {a0 : List (List AV)} {a1 : List (List AV)} {v : AV} (h : P a0 a1 = some v) {H : Heap} {Q : AV → Heap → Prop} (hQ : ∀ H, Q v H) : C 27 [.sl 0 1 a0, .sl 0 1 a1] H Q := by
  refine call ?_
  unfold t
  unfold P at h
  obtain ⟨fu, h⟩ := lim_some h
  revert h
  repeat' first | exact lsV hQ | exact lsF | apply lsG | apply lsC | refine lsAll fun _ => ?_ | refine lsEx fun _ _ => ?_ | refine lsAnd ?_ ?_ | exact fun h => PL_ok hQ _ _ _ h
theorem ls {a0 : List (List AV)} {a1 : List (List AV)} {v : AV} {H : Heap} {k : AV → Option AV} {K : AV → Heap → Prop} (h : ∀ w H, k w = some v → K w H) : (P a0 a1).bind k = some v → C 27 [.sl 0 1 a0, .sl 0 1 a1] H K := fun e => bind_ls (Cq := fun K => C 27 [.sl 0 1 a0, .sl 0 1 a1] H K) (fun h => ok h) h e
end F27
/-! ### broker/brokerref42.Moves: function 28 -/
namespace F28
inductive LS where
  | l0 (x9out : List (List AV)) (x14 : Int)
noncomputable def PL (a0 : List (List AV)) (a1 : List (List AV)) (a2 : List (List AV)) (a3 : Int) : Nat → LS → Option AV
  | 0, _ => none
  | fu + 1, .l0 x9out x14 =>
    if ltI x14 (lenI a0) then
    (if leI 0 x14 then (if ltI x14 (lenI a0) then (if (ce (ro a0 x14.toNat) 0).isStr then ((F25.P ((ce (ro a0 x14.toNat) 0).toStr) a1 a3).bind fun v_1 =>
      if ((v_1).isAgg && Nat.beq (v_1).aggCs.length 2) then (if (((v_1).aggCs).headD .any).isStr then (if ((((v_1).aggCs).tail).headD .any).isSl 1 then ((F25.P ((ce (ro a0 x14.toNat) 0).toStr) a2 a3).bind fun v_3 =>
        if ((v_3).isAgg && Nat.beq (v_3).aggCs.length 2) then (if (((v_3).aggCs).headD .any).isStr then (if ((((v_3).aggCs).tail).headD .any).isSl 1 then ((F11.P (((((v_1).aggCs).tail).headD .any).slXs) (((((v_3).aggCs).tail).headD .any).slXs)).bind fun v_5 =>
          if (v_5).isBool then (if !((v_5).toBool) then
            (if room x9out [[.str ((ce (ro a0 x14.toNat) 0).toStr)]] 16 then PL a0 a1 a2 a3 fu (.l0 (x9out ++ [[.str ((ce (ro a0 x14.toNat) 0).toStr)]]) (addW .i64 x14 1)) else none)
            else
            (PL a0 a1 a2 a3 fu (.l0 x9out (addW .i64 x14 1)))) else none) else none) else none) else none) else none) else none) else none) else none) else none) else none)
    else
    (some (.sl 0 1 x9out))
noncomputable def P (a0 : List (List AV)) (a1 : List (List AV)) (a2 : List (List AV)) (a3 : Int) : Option AV := lim fun fu =>
    PL a0 a1 a2 a3 fu (.l0 [] 0)
theorem PL_ok {a0 : List (List AV)} {a1 : List (List AV)} {a2 : List (List AV)} {a3 : Int} {Q : AV → Heap → Prop} {v : AV} (hQ : ∀ H, Q v H) : ∀ (fu : Nat) (s : LS) (H : Heap), PL a0 a1 a2 a3 fu s = some v → match s with | .l0 x9out x14 => L0 a0 a1 a2 a3 Q x9out x14 H := by
  intro fu
  induction fu with
  | zero => intro s H h; exact absurd h (by cases s <;> simp only [PL] <;> exact nofun)
  | succ fu ih =>
    intro s H
    cases s with
    | l0 x9out x14 =>
      show PL a0 a1 a2 a3 (fu + 1) (.l0 x9out x14) = some v → L0 a0 a1 a2 a3 Q x9out x14 H
      rw [PL]
      refine fun h => L0_step (?_ : r0 a0 a1 a2 a3 Q x9out x14 H)
      revert h
      unfold r0
      repeat' first | exact lsV hQ | exact lsF | apply lsG | apply lsC | refine F11.ls fun _ _ => ?_ | refine F25.ls fun _ _ => ?_ | refine lsAll fun _ => ?_ | refine lsEx fun _ _ => ?_ | refine lsAnd ?_ ?_ | exact fun h => ih _ _ h
theorem ok {a0 : List (List AV)} {a1 : List (List AV)} {a2 : List (List AV)} {a3 : Int} {v : AV} (h : P a0 a1 a2 a3 = some v) {H : Heap} {Q : AV → Heap → Prop} (hQ : ∀ H, Q v H) : C 28 [.sl 0 1 a0, .sl 0 1 a1, .sl 0 1 a2, .int .i64 a3] H Q := by
  refine call ?_
  unfold t
  unfold P at h
  obtain ⟨fu, h⟩ := lim_some h
  revert h
  repeat' first | exact lsV hQ | exact lsF | apply lsG | apply lsC | refine lsAll fun _ => ?_ | refine lsEx fun _ _ => ?_ | refine lsAnd ?_ ?_ | exact fun h => PL_ok hQ _ _ _ h
theorem ls {a0 : List (List AV)} {a1 : List (List AV)} {a2 : List (List AV)} {a3 : Int} {v : AV} {H : Heap} {k : AV → Option AV} {K : AV → Heap → Prop} (h : ∀ w H, k w = some v → K w H) : (P a0 a1 a2 a3).bind k = some v → C 28 [.sl 0 1 a0, .sl 0 1 a1, .sl 0 1 a2, .int .i64 a3] H K := fun e => bind_ls (Cq := fun K => C 28 [.sl 0 1 a0, .sl 0 1 a1, .sl 0 1 a2, .int .i64 a3] H K) (fun h => ok h) h e
end F28
/-! ### broker/brokerlaw42.PlaceMoves: function 7 -/
namespace F7
noncomputable def P (a0 : List (List AV)) (a1_0 : List (List AV)) (a1_1 : List (List AV)) (a2 : Int) : Option AV :=
    (F14.P a0 [[.sl 0 1 a1_0], [.sl 0 1 a1_1]]).bind fun v_1 =>
    if (v_1).isBool then (if !((v_1).toBool) then
      ((F8.P).bind fun v_3 =>
        if (v_3).isBool then some (.bool ((v_3).toBool)) else none)
      else
      ((F22.P a0 a1_0 a1_1 a2).bind fun v_5 =>
        if (v_5).isSl 1 then ((F28.P a0 a1_0 a1_1 a2).bind fun v_7 =>
          if (v_7).isSl 1 then ((F27.P ((v_5).slXs) ((v_7).slXs)).bind fun v_9 =>
            if (v_9).isBool then (if (v_9).toBool then
              ((F8.P).bind fun v_11 =>
                if (v_11).isBool then some (.bool ((v_11).toBool)) else none)
              else
              (some (.bool false))) else none) else none) else none)) else none
theorem ok {a0 : List (List AV)} {a1_0 : List (List AV)} {a1_1 : List (List AV)} {a2 : Int} {v : AV} (h : P a0 a1_0 a1_1 a2 = some v) {H : Heap} {Q : AV → Heap → Prop} (hQ : ∀ H, Q v H) : C 7 [.sl 0 1 a0, .agg [.sl 0 1 a1_0, .sl 0 1 a1_1], .int .i64 a2] H Q := by
  refine call ?_
  unfold t
  unfold P at h
  revert h
  repeat' first | exact lsV hQ | exact lsF | apply lsG | apply lsC | refine F14.ls fun _ _ => ?_ | refine F22.ls fun _ _ => ?_ | refine F27.ls fun _ _ => ?_ | refine F28.ls fun _ _ => ?_ | refine F8.ls fun _ _ => ?_ | refine lsAll fun _ => ?_ | refine lsEx fun _ _ => ?_ | refine lsAnd ?_ ?_
theorem ls {a0 : List (List AV)} {a1_0 : List (List AV)} {a1_1 : List (List AV)} {a2 : Int} {v : AV} {H : Heap} {k : AV → Option AV} {K : AV → Heap → Prop} (h : ∀ w H, k w = some v → K w H) : (P a0 a1_0 a1_1 a2).bind k = some v → C 7 [.sl 0 1 a0, .agg [.sl 0 1 a1_0, .sl 0 1 a1_1], .int .i64 a2] H K := fun e => bind_ls (Cq := fun K => C 7 [.sl 0 1 a0, .agg [.sl 0 1 a1_0, .sl 0 1 a1_1], .int .i64 a2] H K) (fun h => ok h) h e
end F7
/-! ### broker/place.Rank$1: function 33 -/
namespace F33
noncomputable def P (a0 : Int) (a1 : Int) (a2 : List AV) : Option AV :=
    if (ce a2 0).isStr then ((F9.P ((ce a2 0).toStr) a1).bind fun v_1 =>
    if (v_1).isInt .i64 then (if (ce a2 0).isStr then ((F9.P ((ce a2 0).toStr) a0).bind fun v_3 =>
      if (v_3).isInt .i64 then some (.int .i64 (subW .i64 ((v_1).toInt) ((v_3).toInt))) else none) else none) else none) else none
theorem ok {a0 : Int} {a1 : Int} {a2 : List AV} {v : AV} (h : P a0 a1 a2 = some v) {H : Heap} {Q : AV → Heap → Prop} (hQ : ∀ H, Q v H) : C 33 [.int .i64 a0, .int .i64 a1, .rp a2 0] H Q := by
  refine call ?_
  unfold t
  unfold P at h
  revert h
  repeat' first | exact lsV hQ | exact lsF | apply lsG | apply lsC | refine F9.ls fun _ _ => ?_ | refine lsAll fun _ => ?_ | refine lsEx fun _ _ => ?_ | refine lsAnd ?_ ?_
theorem ls {a0 : Int} {a1 : Int} {a2 : List AV} {v : AV} {H : Heap} {k : AV → Option AV} {K : AV → Heap → Prop} (h : ∀ w H, k w = some v → K w H) : (P a0 a1 a2).bind k = some v → C 33 [.int .i64 a0, .int .i64 a1, .rp a2 0] H K := fun e => bind_ls (Cq := fun K => C 33 [.int .i64 a0, .int .i64 a1, .rp a2 0] H K) (fun h => ok h) h e
end F33
end Go.Proofs.YtagckffnpnejaaaDoor.Ab
