/- PRINTED by abx.py: the pure functions. -/
import Derived.Test.YtlaieomjooeofaaDoorTr
import Derived.Test.YtlaieomjooeofaaDoorDeIo
import Derived.Test.YtlaieomjooeofaaDoorAbP
namespace Go.Proofs.YtlaieomjooeofaaDoor.Ab
open Go
set_option maxRecDepth 100000
set_option maxHeartbeats 4000000
set_option linter.unusedVariables false
/-! ### broker/brokerref01.lower: function 42 -/
namespace F42
noncomputable def P (a0 : Int) : Option AV :=
    if leI 97 a0 then
    (some (.bool (leI a0 122)))
    else
    (some (.bool false))
theorem ok {a0 : Int} {v : AV} (h : P a0 = some v) {H : Heap} {Q : Qt} (hQ : ∀ H, Q v H) : C 42 [.int .u8 a0] H Q := by
  refine call ?_
  unfold t
  unfold P at h
  revert h
  repeat' first | exact lsV hQ | exact lsF | apply lsG | apply lsC
theorem ls {a0 : Int} {v : AV} {H : Heap} {k : AV → Option AV} {K : Qt} (h : ∀ w H, k w = some v → K w H) : (P a0).bind k = some v → C 42 [.int .u8 a0] H K := fun e => bind_ls (Cq := fun K => C 42 [.int .u8 a0] H K) (fun h => ok h) h e
end F42
/-! ### broker/brokerref01.digit: function 43 -/
namespace F43
noncomputable def P (a0 : Int) : Option AV :=
    if leI 48 a0 then
    (some (.bool (leI a0 57)))
    else
    (some (.bool false))
theorem ok {a0 : Int} {v : AV} (h : P a0 = some v) {H : Heap} {Q : Qt} (hQ : ∀ H, Q v H) : C 43 [.int .u8 a0] H Q := by
  refine call ?_
  unfold t
  unfold P at h
  revert h
  repeat' first | exact lsV hQ | exact lsF | apply lsG | apply lsC
theorem ls {a0 : Int} {v : AV} {H : Heap} {k : AV → Option AV} {K : Qt} (h : ∀ w H, k w = some v → K w H) : (P a0).bind k = some v → C 43 [.int .u8 a0] H K := fun e => bind_ls (Cq := fun K => C 43 [.int .u8 a0] H K) (fun h => ok h) h e
end F43
/-! ### broker/brokerref01.Name: function 25 -/
namespace F25
inductive LS where
  | lR1 (x17 : Bool)
  | l0 (x3i : Int)
  | lR6 (x3i : Int) (x41 : Bool)
noncomputable def PL (a0 : ByteArray) : Nat → LS → Option AV
  | 0, _ => none
  | fu + 1, .lR1 x17 =>
    if x17 then
    (some (.bool false))
    else
    (PL a0 fu (.l0 0))
  | fu + 1, .l0 x3i =>
    if ltI x3i (sizeI a0) then
    (if leI 0 x3i then (if ltI x3i (sizeI a0) then ((F42.P (bt a0 x3i)).bind fun v_3 =>
      if (v_3).isBool then (if !((v_3).toBool) then
        (if leI 0 x3i then (if ltI x3i (sizeI a0) then ((F43.P (bt a0 x3i)).bind fun v_5 =>
          if (v_5).isBool then (if !((v_5).toBool) then
            (if leI 0 x3i then (if ltI x3i (sizeI a0) then PL a0 fu (.lR6 x3i (!(eqI (bt a0 x3i) 45))) else none) else none)
            else
            (PL a0 fu (.lR6 x3i false))) else none) else none) else none)
        else
        (PL a0 fu (.lR6 x3i false))) else none) else none) else none)
    else
    (some (.bool true))
  | fu + 1, .lR6 x3i x41 =>
    if x41 then
    (some (.bool false))
    else
    (PL a0 fu (.l0 (addW .i64 x3i 1)))
noncomputable def P (a0 : ByteArray) : Option AV := lim fun fu =>
    if ltI (sizeI a0) 1 then
    (PL a0 fu (.lR1 true))
    else
    (if ltI 16 (sizeI a0) then
      (PL a0 fu (.lR1 true))
      else
      (if ltI 0 (sizeI a0) then ((F42.P (bt a0 0)).bind fun v_1 =>
        if (v_1).isBool then PL a0 fu (.lR1 (!((v_1).toBool))) else none) else none))
theorem PL_ok {a0 : ByteArray} {Q : Qt} {v : AV} (hQ : ∀ H, Q v H) : ∀ (fu : Nat) (s : LS) (H : Heap), PL a0 fu s = some v → match s with | .lR1 x17 => JR1 a0 Q x17 H | .l0 x3i => L0 a0 Q x3i H | .lR6 x3i x41 => JR6 a0 Q x3i x41 H := by
  intro fu
  induction fu with
  | zero => intro s H h; exact absurd h (by cases s <;> simp only [PL] <;> exact nofun)
  | succ fu ih =>
    intro s H
    cases s with
    | lR1 x17 =>
      show PL a0 (fu + 1) (.lR1 x17) = some v → JR1 a0 Q x17 H
      rw [PL]
      refine fun h => JR1_step (?_ : jR1 a0 Q x17 H)
      revert h
      unfold jR1
      repeat' first | exact lsV hQ | exact lsF | apply lsG | apply lsC | exact fun h => ih _ _ h
    | l0 x3i =>
      show PL a0 (fu + 1) (.l0 x3i) = some v → L0 a0 Q x3i H
      rw [PL]
      refine fun h => L0_step (?_ : r0 a0 Q x3i H)
      revert h
      unfold r0
      repeat' first | exact lsV hQ | exact lsF | apply lsG | apply lsC | refine F42.ls fun _ _ => ?_ | refine F43.ls fun _ _ => ?_ | exact fun h => ih _ _ h
    | lR6 x3i x41 =>
      show PL a0 (fu + 1) (.lR6 x3i x41) = some v → JR6 a0 Q x3i x41 H
      rw [PL]
      refine fun h => JR6_step (?_ : jR6 a0 Q x3i x41 H)
      revert h
      unfold jR6
      repeat' first | exact lsV hQ | exact lsF | apply lsG | apply lsC | exact fun h => ih _ _ h
theorem ok {a0 : ByteArray} {v : AV} (h : P a0 = some v) {H : Heap} {Q : Qt} (hQ : ∀ H, Q v H) : C 25 [.str a0] H Q := by
  refine call ?_
  unfold t
  unfold P at h
  obtain ⟨fu, h⟩ := lim_some h
  revert h
  repeat' first | exact lsV hQ | exact lsF | apply lsG | apply lsC | refine F42.ls fun _ _ => ?_ | exact fun h => PL_ok hQ _ _ _ h
theorem ls {a0 : ByteArray} {v : AV} {H : Heap} {k : AV → Option AV} {K : Qt} (h : ∀ w H, k w = some v → K w H) : (P a0).bind k = some v → C 25 [.str a0] H K := fun e => bind_ls (Cq := fun K => C 25 [.str a0] H K) (fun h => ok h) h e
end F25
/-! ### broker/brokerref25.in: function 26 -/
namespace F26
noncomputable def P (a0 a1 a2 : Int) : Option AV :=
    if leI a1 a0 then
    (some (.bool (leI a0 a2)))
    else
    (some (.bool false))
theorem ok {a0 a1 a2 : Int} {v : AV} (h : P a0 a1 a2 = some v) {H : Heap} {Q : Qt} (hQ : ∀ H, Q v H) : C 26 [.int .i64 a0, .int .i64 a1, .int .i64 a2] H Q := by
  refine call ?_
  unfold t
  unfold P at h
  revert h
  repeat' first | exact lsV hQ | exact lsF | apply lsG | apply lsC
theorem ls {a0 a1 a2 : Int} {v : AV} {H : Heap} {k : AV → Option AV} {K : Qt} (h : ∀ w H, k w = some v → K w H) : (P a0 a1 a2).bind k = some v → C 26 [.int .i64 a0, .int .i64 a1, .int .i64 a2] H K := fun e => bind_ls (Cq := fun K => C 26 [.int .i64 a0, .int .i64 a1, .int .i64 a2] H K) (fun h => ok h) h e
end F26
/-! ### broker/brokerref25.Check: function 8 -/
namespace F8
inductive LS where
  | lR3 (x22 : Bool)
noncomputable def PL (a0_0 : ByteArray) (a0_1 a0_2 a0_3 : Int) (a0_4 : ByteArray) : Nat → LS → Option AV
  | 0, _ => none
  | fu + 1, .lR3 x22 =>
    if x22 then
    (some (.int .i64 1))
    else
    (if !(eqS a0_4 (⟨#[]⟩ : ByteArray)) then
      ((F25.P a0_4).bind fun v_9 =>
        if (v_9).isBool then (if !((v_9).toBool) then
          (some (.int .i64 11))
          else
          (some (.int .i64 0))) else none)
      else
      (some (.int .i64 0)))
noncomputable def P (a0_0 : ByteArray) (a0_1 a0_2 a0_3 : Int) (a0_4 : ByteArray) : Option AV := lim fun fu =>
    (F25.P a0_0).bind fun v_1 =>
    if (v_1).isBool then (if !((v_1).toBool) then
      (some (.int .i64 11))
      else
      ((F26.P a0_1 1 256).bind fun v_3 =>
        if (v_3).isBool then (if !((v_3).toBool) then
          (PL a0_0 a0_1 a0_2 a0_3 a0_4 fu (.lR3 true))
          else
          ((F26.P a0_2 0 1099511627776).bind fun v_5 =>
            if (v_5).isBool then (if !((v_5).toBool) then
              (PL a0_0 a0_1 a0_2 a0_3 a0_4 fu (.lR3 true))
              else
              ((F26.P a0_3 0 1099511627776).bind fun v_7 =>
                if (v_7).isBool then PL a0_0 a0_1 a0_2 a0_3 a0_4 fu (.lR3 (!((v_7).toBool))) else none)) else none)) else none)) else none
theorem PL_ok {a0_0 : ByteArray} {a0_1 a0_2 a0_3 : Int} {a0_4 : ByteArray} {Q : Qt} {v : AV} (hQ : ∀ H, Q v H) : ∀ (fu : Nat) (s : LS) (H : Heap), PL a0_0 a0_1 a0_2 a0_3 a0_4 fu s = some v → match s with | .lR3 x22 => JR3 a0_0 a0_1 a0_2 a0_3 a0_4 Q x22 H := by
  intro fu
  induction fu with
  | zero => intro s H h; exact absurd h (by cases s <;> simp only [PL] <;> exact nofun)
  | succ fu ih =>
    intro s H
    cases s with
    | lR3 x22 =>
      show PL a0_0 a0_1 a0_2 a0_3 a0_4 (fu + 1) (.lR3 x22) = some v → JR3 a0_0 a0_1 a0_2 a0_3 a0_4 Q x22 H
      rw [PL]
      refine fun h => JR3_step (?_ : jR3 a0_0 a0_1 a0_2 a0_3 a0_4 Q x22 H)
      revert h
      unfold jR3
      repeat' first | exact lsV hQ | exact lsF | apply lsG | apply lsC | refine F25.ls fun _ _ => ?_ | exact fun h => ih _ _ h
theorem ok {a0_0 : ByteArray} {a0_1 a0_2 a0_3 : Int} {a0_4 : ByteArray} {v : AV} (h : P a0_0 a0_1 a0_2 a0_3 a0_4 = some v) {H : Heap} {Q : Qt} (hQ : ∀ H, Q v H) : C 8 [.agg [.str a0_0, .int .i64 a0_1, .int .i64 a0_2, .int .i64 a0_3, .str a0_4]] H Q := by
  refine call ?_
  unfold t
  unfold P at h
  obtain ⟨fu, h⟩ := lim_some h
  revert h
  repeat' first | exact lsV hQ | exact lsF | apply lsG | apply lsC | refine F25.ls fun _ _ => ?_ | refine F26.ls fun _ _ => ?_ | exact fun h => PL_ok hQ _ _ _ h
theorem ls {a0_0 : ByteArray} {a0_1 a0_2 a0_3 : Int} {a0_4 : ByteArray} {v : AV} {H : Heap} {k : AV → Option AV} {K : Qt} (h : ∀ w H, k w = some v → K w H) : (P a0_0 a0_1 a0_2 a0_3 a0_4).bind k = some v → C 8 [.agg [.str a0_0, .int .i64 a0_1, .int .i64 a0_2, .int .i64 a0_3, .str a0_4]] H K := fun e => bind_ls (Cq := fun K => C 8 [.agg [.str a0_0, .int .i64 a0_1, .int .i64 a0_2, .int .i64 a0_3, .str a0_4]] H K) (fun h => ok h) h e
end F8
/-! ### broker/message.Expired: function 28 -/
namespace F28
noncomputable def P (a0_0 a0_1 : ByteArray) (a0_2 : Int) (a0_3 : Bool) (a0_4 a0_5 : Int) (a0_6 : ByteArray) (a0_7 : Int) (a0_8 : List (List AV)) (a1 : Int) : Option AV :=
    if !(eqI a0_5 0) then
    (some (.bool (leI a0_5 a1)))
    else
    (some (.bool false))
theorem ok {a0_0 a0_1 : ByteArray} {a0_2 : Int} {a0_3 : Bool} {a0_4 a0_5 : Int} {a0_6 : ByteArray} {a0_7 : Int} {a0_8 : List (List AV)} {a1 : Int} {v : AV} (h : P a0_0 a0_1 a0_2 a0_3 a0_4 a0_5 a0_6 a0_7 a0_8 a1 = some v) {H : Heap} {Q : Qt} (hQ : ∀ H, Q v H) : C 28 [.agg [.str a0_0, .str a0_1, .int .i64 a0_2, .bool a0_3, .int .i64 a0_4, .int .i64 a0_5, .str a0_6, .int .i64 a0_7, .sl 0 2 a0_8], .int .i64 a1] H Q := by
  refine call ?_
  unfold t
  unfold P at h
  revert h
  repeat' first | exact lsV hQ | exact lsF | apply lsG | apply lsC
theorem ls {a0_0 a0_1 : ByteArray} {a0_2 : Int} {a0_3 : Bool} {a0_4 a0_5 : Int} {a0_6 : ByteArray} {a0_7 : Int} {a0_8 : List (List AV)} {a1 : Int} {v : AV} {H : Heap} {k : AV → Option AV} {K : Qt} (h : ∀ w H, k w = some v → K w H) : (P a0_0 a0_1 a0_2 a0_3 a0_4 a0_5 a0_6 a0_7 a0_8 a1).bind k = some v → C 28 [.agg [.str a0_0, .str a0_1, .int .i64 a0_2, .bool a0_3, .int .i64 a0_4, .int .i64 a0_5, .str a0_6, .int .i64 a0_7, .sl 0 2 a0_8], .int .i64 a1] H K := fun e => bind_ls (Cq := fun K => C 28 [.agg [.str a0_0, .str a0_1, .int .i64 a0_2, .bool a0_3, .int .i64 a0_4, .int .i64 a0_5, .str a0_6, .int .i64 a0_7, .sl 0 2 a0_8], .int .i64 a1] H K) (fun h => ok h) h e
end F28
/-! ### broker/dead.Reason: function 10 -/
namespace F10
noncomputable def P (a0_0 : ByteArray) (a0_1 a0_2 a0_3 : Int) (a0_4 : ByteArray) (a1_0 a1_1 a1_2 : Int) (a1_3 a1_4 : ByteArray) (a1_5 : Int) (a1_6 : Bool) (a1_7 a1_8 : Int) (a1_9 : ByteArray) (a1_10 : Int) (a1_11 : List (List AV)) (a2 : Int) : Option AV :=
    if !(eqI a0_3 0) then
    (if leI a0_3 a1_2 then
      (some (.int .i64 4))
      else
      (if !(eqI a0_2 0) then
        (if leI (addW .i64 a1_1 a0_2) a2 then
          (some (.int .i64 2))
          else
          ((F28.P a1_3 a1_4 a1_5 a1_6 a1_7 a1_8 a1_9 a1_10 a1_11 a2).bind fun v_1 =>
            if (v_1).isBool then (if (v_1).toBool then
              (some (.int .i64 2))
              else
              (some (.int .i64 0))) else none))
        else
        ((F28.P a1_3 a1_4 a1_5 a1_6 a1_7 a1_8 a1_9 a1_10 a1_11 a2).bind fun v_3 =>
          if (v_3).isBool then (if (v_3).toBool then
            (some (.int .i64 2))
            else
            (some (.int .i64 0))) else none)))
    else
    (if !(eqI a0_2 0) then
      (if leI (addW .i64 a1_1 a0_2) a2 then
        (some (.int .i64 2))
        else
        ((F28.P a1_3 a1_4 a1_5 a1_6 a1_7 a1_8 a1_9 a1_10 a1_11 a2).bind fun v_5 =>
          if (v_5).isBool then (if (v_5).toBool then
            (some (.int .i64 2))
            else
            (some (.int .i64 0))) else none))
      else
      ((F28.P a1_3 a1_4 a1_5 a1_6 a1_7 a1_8 a1_9 a1_10 a1_11 a2).bind fun v_7 =>
        if (v_7).isBool then (if (v_7).toBool then
          (some (.int .i64 2))
          else
          (some (.int .i64 0))) else none))
theorem ok {a0_0 : ByteArray} {a0_1 a0_2 a0_3 : Int} {a0_4 : ByteArray} {a1_0 a1_1 a1_2 : Int} {a1_3 a1_4 : ByteArray} {a1_5 : Int} {a1_6 : Bool} {a1_7 a1_8 : Int} {a1_9 : ByteArray} {a1_10 : Int} {a1_11 : List (List AV)} {a2 : Int} {v : AV} (h : P a0_0 a0_1 a0_2 a0_3 a0_4 a1_0 a1_1 a1_2 a1_3 a1_4 a1_5 a1_6 a1_7 a1_8 a1_9 a1_10 a1_11 a2 = some v) {H : Heap} {Q : Qt} (hQ : ∀ H, Q v H) : C 10 [.agg [.str a0_0, .int .i64 a0_1, .int .i64 a0_2, .int .i64 a0_3, .str a0_4], .agg [.int .i64 a1_0, .int .i64 a1_1, .int .i64 a1_2, .str a1_3, .str a1_4, .int .i64 a1_5, .bool a1_6, .int .i64 a1_7, .int .i64 a1_8, .str a1_9, .int .i64 a1_10, .sl 0 2 a1_11], .int .i64 a2] H Q := by
  refine call ?_
  unfold t
  unfold P at h
  revert h
  repeat' first | exact lsV hQ | exact lsF | apply lsG | apply lsC | refine F28.ls fun _ _ => ?_
theorem ls {a0_0 : ByteArray} {a0_1 a0_2 a0_3 : Int} {a0_4 : ByteArray} {a1_0 a1_1 a1_2 : Int} {a1_3 a1_4 : ByteArray} {a1_5 : Int} {a1_6 : Bool} {a1_7 a1_8 : Int} {a1_9 : ByteArray} {a1_10 : Int} {a1_11 : List (List AV)} {a2 : Int} {v : AV} {H : Heap} {k : AV → Option AV} {K : Qt} (h : ∀ w H, k w = some v → K w H) : (P a0_0 a0_1 a0_2 a0_3 a0_4 a1_0 a1_1 a1_2 a1_3 a1_4 a1_5 a1_6 a1_7 a1_8 a1_9 a1_10 a1_11 a2).bind k = some v → C 10 [.agg [.str a0_0, .int .i64 a0_1, .int .i64 a0_2, .int .i64 a0_3, .str a0_4], .agg [.int .i64 a1_0, .int .i64 a1_1, .int .i64 a1_2, .str a1_3, .str a1_4, .int .i64 a1_5, .bool a1_6, .int .i64 a1_7, .int .i64 a1_8, .str a1_9, .int .i64 a1_10, .sl 0 2 a1_11], .int .i64 a2] H K := fun e => bind_ls (Cq := fun K => C 10 [.agg [.str a0_0, .int .i64 a0_1, .int .i64 a0_2, .int .i64 a0_3, .str a0_4], .agg [.int .i64 a1_0, .int .i64 a1_1, .int .i64 a1_2, .str a1_3, .str a1_4, .int .i64 a1_5, .bool a1_6, .int .i64 a1_7, .int .i64 a1_8, .str a1_9, .int .i64 a1_10, .sl 0 2 a1_11], .int .i64 a2] H K) (fun h => ok h) h e
end F10
/-! ### broker/message.Get: function 30 -/
namespace F30
inductive LS where
  | l0 (x10 : Int)
noncomputable def PL (a0 : List (List AV)) (a1 : ByteArray) : Nat → LS → Option AV
  | 0, _ => none
  | fu + 1, .l0 x10 =>
    if ltI x10 (lenI a0) then
    (if leI 0 x10 then (if ltI x10 (lenI a0) then (if (ce (ro a0 x10.toNat) 0).isStr then (if (ce (ro a0 x10.toNat) 1).isStr then (if eqS ((ce (ro a0 x10.toNat) 0).toStr) a1 then
      (some (.tup [.str ((ce (ro a0 x10.toNat) 1).toStr), .bool true]))
      else
      (PL a0 a1 fu (.l0 (addW .i64 x10 1)))) else none) else none) else none) else none)
    else
    (some (.tup [.str (⟨#[]⟩ : ByteArray), .bool false]))
noncomputable def P (a0 : List (List AV)) (a1 : ByteArray) : Option AV := lim fun fu =>
    PL a0 a1 fu (.l0 0)
theorem PL_ok {a0 : List (List AV)} {a1 : ByteArray} {Q : Qt} {v : AV} (hQ : ∀ H, Q v H) : ∀ (fu : Nat) (s : LS) (H : Heap), PL a0 a1 fu s = some v → match s with | .l0 x10 => L0 a0 a1 Q x10 H := by
  intro fu
  induction fu with
  | zero => intro s H h; exact absurd h (by cases s <;> simp only [PL] <;> exact nofun)
  | succ fu ih =>
    intro s H
    cases s with
    | l0 x10 =>
      show PL a0 a1 (fu + 1) (.l0 x10) = some v → L0 a0 a1 Q x10 H
      rw [PL]
      refine fun h => L0_step (?_ : r0 a0 a1 Q x10 H)
      revert h
      unfold r0
      repeat' first | exact lsV hQ | exact lsF | apply lsG | apply lsC | exact fun h => ih _ _ h
theorem ok {a0 : List (List AV)} {a1 : ByteArray} {v : AV} (h : P a0 a1 = some v) {H : Heap} {Q : Qt} (hQ : ∀ H, Q v H) : C 30 [.sl 0 2 a0, .str a1] H Q := by
  refine call ?_
  unfold t
  unfold P at h
  obtain ⟨fu, h⟩ := lim_some h
  revert h
  repeat' first | exact lsV hQ | exact lsF | apply lsG | apply lsC | exact fun h => PL_ok hQ _ _ _ h
theorem ls {a0 : List (List AV)} {a1 : ByteArray} {v : AV} {H : Heap} {k : AV → Option AV} {K : Qt} (h : ∀ w H, k w = some v → K w H) : (P a0 a1).bind k = some v → C 30 [.sl 0 2 a0, .str a1] H K := fun e => bind_ls (Cq := fun K => C 30 [.sl 0 2 a0, .str a1] H K) (fun h => ok h) h e
end F30
/-! ### internal/stringslite.Cut: function 46 -/
namespace F46
noncomputable def P (a0 a1 : ByteArray) : Option AV :=
    (IdxP.P [.str a0, .str a1]).bind fun v_1 =>
    if (v_1).isInt .i64 then (if leI 0 ((v_1).toInt) then
      (if leI 0 ((v_1).toInt) then (if leI ((v_1).toInt) (sizeI a0) then (if leI 0 (addW .i64 ((v_1).toInt) (sizeI a1)) then (if leI (addW .i64 ((v_1).toInt) (sizeI a1)) (sizeI a0) then (if leI (sizeI a0) (sizeI a0) then some (.tup [.str (a0.extract 0 (((v_1).toInt).toNat)), .str (a0.extract ((addW .i64 ((v_1).toInt) (sizeI a1)).toNat) ((sizeI a0).toNat)), .bool true]) else none) else none) else none) else none) else none)
      else
      (some (.tup [.str a0, .str (⟨#[]⟩ : ByteArray), .bool false]))) else none
theorem ok {a0 a1 : ByteArray} {v : AV} (h : P a0 a1 = some v) {H : Heap} {Q : Qt} (hQ : ∀ H, Q v H) : C 46 [.str a0, .str a1] H Q := by
  refine call ?_
  unfold t
  unfold P at h
  revert h
  repeat' first | exact lsV hQ | exact lsF | apply lsG | apply lsC | refine IdxP.ls fun _ _ => ?_
theorem ls {a0 a1 : ByteArray} {v : AV} {H : Heap} {k : AV → Option AV} {K : Qt} (h : ∀ w H, k w = some v → K w H) : (P a0 a1).bind k = some v → C 46 [.str a0, .str a1] H K := fun e => bind_ls (Cq := fun K => C 46 [.str a0, .str a1] H K) (fun h => ok h) h e
end F46
/-! ### strings.Cut: function 31 -/
namespace F31
noncomputable def P (a0 a1 : ByteArray) : Option AV :=
    (F46.P a0 a1).bind fun v_1 =>
    if ((v_1).isTup && Nat.beq (v_1).tupVs.length 3) then (if (((v_1).tupVs).headD .any).isStr then (if ((((v_1).tupVs).tail).headD .any).isStr then (if (((((v_1).tupVs).tail).tail).headD .any).isBool then some (.tup [.str ((((v_1).tupVs).headD .any).toStr), .str (((((v_1).tupVs).tail).headD .any).toStr), .bool ((((((v_1).tupVs).tail).tail).headD .any).toBool)]) else none) else none) else none) else none
theorem ok {a0 a1 : ByteArray} {v : AV} (h : P a0 a1 = some v) {H : Heap} {Q : Qt} (hQ : ∀ H, Q v H) : C 31 [.str a0, .str a1] H Q := by
  refine call ?_
  unfold t
  unfold P at h
  revert h
  repeat' first | exact lsV hQ | exact lsF | apply lsG | apply lsC | refine F46.ls fun _ _ => ?_
theorem ls {a0 a1 : ByteArray} {v : AV} {H : Heap} {k : AV → Option AV} {K : Qt} (h : ∀ w H, k w = some v → K w H) : (P a0 a1).bind k = some v → C 31 [.str a0, .str a1] H K := fun e => bind_ls (Cq := fun K => C 31 [.str a0, .str a1] H K) (fun h => ok h) h e
end F31
/-! ### broker/topic.Name: function 32 -/
namespace F32
inductive LS where
  | l0 (it0 : Nat)
noncomputable def PL (a0 : ByteArray) : Nat → LS → Option AV
  | 0, _ => none
  | fu + 1, .l0 it0 =>
    if Nat.blt it0 a0.size then
    (if leI 97 ((Utf8.decode a0 it0).1 : Int) then
      (if !(leI ((Utf8.decode a0 it0).1 : Int) 122) then
        (if eqI (it0 : Int) 0 then
          (some (.bool false))
          else
          (if !(eqI ((Utf8.decode a0 it0).1 : Int) 45) then
            (if ltI ((Utf8.decode a0 it0).1 : Int) 48 then
              (some (.bool false))
              else
              (if ltI 57 ((Utf8.decode a0 it0).1 : Int) then
                (some (.bool false))
                else
                (PL a0 fu (.l0 (it0 + (Utf8.decode a0 it0).2)))))
            else
            (PL a0 fu (.l0 (it0 + (Utf8.decode a0 it0).2)))))
        else
        (PL a0 fu (.l0 (it0 + (Utf8.decode a0 it0).2))))
      else
      (if eqI (it0 : Int) 0 then
        (some (.bool false))
        else
        (if !(eqI ((Utf8.decode a0 it0).1 : Int) 45) then
          (if ltI ((Utf8.decode a0 it0).1 : Int) 48 then
            (some (.bool false))
            else
            (if ltI 57 ((Utf8.decode a0 it0).1 : Int) then
              (some (.bool false))
              else
              (PL a0 fu (.l0 (it0 + (Utf8.decode a0 it0).2)))))
          else
          (PL a0 fu (.l0 (it0 + (Utf8.decode a0 it0).2))))))
    else
    (some (.bool true))
noncomputable def P (a0 : ByteArray) : Option AV := lim fun fu =>
    if ltI (sizeI a0) 1 then
    (some (.bool false))
    else
    (if ltI 16 (sizeI a0) then
      (some (.bool false))
      else
      (PL a0 fu (.l0 0)))
theorem PL_ok {a0 : ByteArray} {Q : Qt} {v : AV} (hQ : ∀ H, Q v H) : ∀ (fu : Nat) (s : LS) (H : Heap), PL a0 fu s = some v → match s with | .l0 it0 => L0 a0 Q it0 H := by
  intro fu
  induction fu with
  | zero => intro s H h; exact absurd h (by cases s <;> simp only [PL] <;> exact nofun)
  | succ fu ih =>
    intro s H
    cases s with
    | l0 it0 =>
      show PL a0 (fu + 1) (.l0 it0) = some v → L0 a0 Q it0 H
      rw [PL]
      refine fun h => L0_step (?_ : r0 a0 Q it0 H)
      revert h
      unfold r0
      repeat' first | exact lsV hQ | exact lsF | apply lsG | apply lsC | exact fun h => ih _ _ h
theorem ok {a0 : ByteArray} {v : AV} (h : P a0 = some v) {H : Heap} {Q : Qt} (hQ : ∀ H, Q v H) : C 32 [.str a0] H Q := by
  refine call ?_
  unfold t
  unfold P at h
  obtain ⟨fu, h⟩ := lim_some h
  revert h
  repeat' first | exact lsV hQ | exact lsF | apply lsG | apply lsC | exact fun h => PL_ok hQ _ _ _ h
theorem ls {a0 : ByteArray} {v : AV} {H : Heap} {k : AV → Option AV} {K : Qt} (h : ∀ w H, k w = some v → K w H) : (P a0).bind k = some v → C 32 [.str a0] H K := fun e => bind_ls (Cq := fun K => C 32 [.str a0] H K) (fun h => ok h) h e
end F32
/-! ### broker/dead.From: function 12 -/
namespace F12
inductive LS where
  | lR3 (x6name x7reason : ByteArray) (x42 : Bool)
noncomputable def PL (a0_0 a0_1 : ByteArray) (a0_2 : Int) (a0_3 : Bool) (a0_4 a0_5 : Int) (a0_6 : ByteArray) (a0_7 : Int) (a0_8 : List (List AV)) : Nat → LS → Option AV
  | 0, _ => none
  | fu + 1, .lR3 x6name x7reason x42 =>
    if x42 then
    (some (.tup [.str (⟨#[]⟩ : ByteArray), .int .i64 0]))
    else
    (if ltI 0 (sizeI x7reason) then some (.tup [.str x6name, .int .i64 (IntKind.i64.wrap (subW .u8 (bt x7reason 0) 48))]) else none)
noncomputable def P (a0_0 a0_1 : ByteArray) (a0_2 : Int) (a0_3 : Bool) (a0_4 a0_5 : Int) (a0_6 : ByteArray) (a0_7 : Int) (a0_8 : List (List AV)) : Option AV := lim fun fu =>
    (F30.P a0_8 (⟨#[100, 105, 101, 100]⟩ : ByteArray)).bind fun v_1 =>
    if ((v_1).isTup && Nat.beq (v_1).tupVs.length 2) then (if (((v_1).tupVs).headD .any).isStr then (if ((((v_1).tupVs).tail).headD .any).isBool then ((F31.P ((((v_1).tupVs).headD .any).toStr) (⟨#[32]⟩ : ByteArray)).bind fun v_3 =>
      if ((v_3).isTup && Nat.beq (v_3).tupVs.length 3) then (if (((v_3).tupVs).headD .any).isStr then (if ((((v_3).tupVs).tail).headD .any).isStr then (if (((((v_3).tupVs).tail).tail).headD .any).isBool then (if !((((((v_3).tupVs).tail).tail).headD .any).toBool) then
        (PL a0_0 a0_1 a0_2 a0_3 a0_4 a0_5 a0_6 a0_7 a0_8 fu (.lR3 ((((v_3).tupVs).headD .any).toStr) (((((v_3).tupVs).tail).headD .any).toStr) true))
        else
        ((F32.P ((((v_3).tupVs).headD .any).toStr)).bind fun v_5 =>
          if (v_5).isBool then (if !((v_5).toBool) then
            (PL a0_0 a0_1 a0_2 a0_3 a0_4 a0_5 a0_6 a0_7 a0_8 fu (.lR3 ((((v_3).tupVs).headD .any).toStr) (((((v_3).tupVs).tail).headD .any).toStr) true))
            else
            (if !(eqI (sizeI (((((v_3).tupVs).tail).headD .any).toStr)) 1) then
              (PL a0_0 a0_1 a0_2 a0_3 a0_4 a0_5 a0_6 a0_7 a0_8 fu (.lR3 ((((v_3).tupVs).headD .any).toStr) (((((v_3).tupVs).tail).headD .any).toStr) true))
              else
              (if ltI 0 (sizeI (((((v_3).tupVs).tail).headD .any).toStr)) then (if ltI (bt (((((v_3).tupVs).tail).headD .any).toStr) 0) 49 then
                (PL a0_0 a0_1 a0_2 a0_3 a0_4 a0_5 a0_6 a0_7 a0_8 fu (.lR3 ((((v_3).tupVs).headD .any).toStr) (((((v_3).tupVs).tail).headD .any).toStr) true))
                else
                (if ltI 0 (sizeI (((((v_3).tupVs).tail).headD .any).toStr)) then PL a0_0 a0_1 a0_2 a0_3 a0_4 a0_5 a0_6 a0_7 a0_8 fu (.lR3 ((((v_3).tupVs).headD .any).toStr) (((((v_3).tupVs).tail).headD .any).toStr) (ltI 52 (bt (((((v_3).tupVs).tail).headD .any).toStr) 0))) else none)) else none))) else none)) else none) else none) else none) else none) else none) else none) else none
theorem PL_ok {a0_0 a0_1 : ByteArray} {a0_2 : Int} {a0_3 : Bool} {a0_4 a0_5 : Int} {a0_6 : ByteArray} {a0_7 : Int} {a0_8 : List (List AV)} {Q : Qt} {v : AV} (hQ : ∀ H, Q v H) : ∀ (fu : Nat) (s : LS) (H : Heap), PL a0_0 a0_1 a0_2 a0_3 a0_4 a0_5 a0_6 a0_7 a0_8 fu s = some v → match s with | .lR3 x6name x7reason x42 => JR3 a0_0 a0_1 a0_2 a0_3 a0_4 a0_5 a0_6 a0_7 a0_8 Q x6name x7reason x42 H := by
  intro fu
  induction fu with
  | zero => intro s H h; exact absurd h (by cases s <;> simp only [PL] <;> exact nofun)
  | succ fu ih =>
    intro s H
    cases s with
    | lR3 x6name x7reason x42 =>
      show PL a0_0 a0_1 a0_2 a0_3 a0_4 a0_5 a0_6 a0_7 a0_8 (fu + 1) (.lR3 x6name x7reason x42) = some v → JR3 a0_0 a0_1 a0_2 a0_3 a0_4 a0_5 a0_6 a0_7 a0_8 Q x6name x7reason x42 H
      rw [PL]
      refine fun h => JR3_step (?_ : jR3 a0_0 a0_1 a0_2 a0_3 a0_4 a0_5 a0_6 a0_7 a0_8 Q x6name x7reason x42 H)
      revert h
      unfold jR3
      repeat' first | exact lsV hQ | exact lsF | apply lsG | apply lsC | exact fun h => ih _ _ h
theorem ok {a0_0 a0_1 : ByteArray} {a0_2 : Int} {a0_3 : Bool} {a0_4 a0_5 : Int} {a0_6 : ByteArray} {a0_7 : Int} {a0_8 : List (List AV)} {v : AV} (h : P a0_0 a0_1 a0_2 a0_3 a0_4 a0_5 a0_6 a0_7 a0_8 = some v) {H : Heap} {Q : Qt} (hQ : ∀ H, Q v H) : C 12 [.agg [.str a0_0, .str a0_1, .int .i64 a0_2, .bool a0_3, .int .i64 a0_4, .int .i64 a0_5, .str a0_6, .int .i64 a0_7, .sl 0 2 a0_8]] H Q := by
  refine call ?_
  unfold t
  unfold P at h
  obtain ⟨fu, h⟩ := lim_some h
  revert h
  repeat' first | exact lsV hQ | exact lsF | apply lsG | apply lsC | refine F30.ls fun _ _ => ?_ | refine F31.ls fun _ _ => ?_ | refine F32.ls fun _ _ => ?_ | exact fun h => PL_ok hQ _ _ _ h
theorem ls {a0_0 a0_1 : ByteArray} {a0_2 : Int} {a0_3 : Bool} {a0_4 a0_5 : Int} {a0_6 : ByteArray} {a0_7 : Int} {a0_8 : List (List AV)} {v : AV} {H : Heap} {k : AV → Option AV} {K : Qt} (h : ∀ w H, k w = some v → K w H) : (P a0_0 a0_1 a0_2 a0_3 a0_4 a0_5 a0_6 a0_7 a0_8).bind k = some v → C 12 [.agg [.str a0_0, .str a0_1, .int .i64 a0_2, .bool a0_3, .int .i64 a0_4, .int .i64 a0_5, .str a0_6, .int .i64 a0_7, .sl 0 2 a0_8]] H K := fun e => bind_ls (Cq := fun K => C 12 [.agg [.str a0_0, .str a0_1, .int .i64 a0_2, .bool a0_3, .int .i64 a0_4, .int .i64 a0_5, .str a0_6, .int .i64 a0_7, .sl 0 2 a0_8]] H K) (fun h => ok h) h e
end F12
/-! ### broker/dead.Deaths: function 14 -/
namespace F14
inductive LS where
  | lR2 (x3s : ByteArray) (x23 : Bool)
  | l0 (x3s : ByteArray) (x5n x25 x26 : Int)
  | lR8 (x3s : ByteArray) (x5n x6i : Int) (x25 x26 : Int) (x53 : Bool)
noncomputable def PL (a0_0 a0_1 : ByteArray) (a0_2 : Int) (a0_3 : Bool) (a0_4 a0_5 : Int) (a0_6 : ByteArray) (a0_7 : Int) (a0_8 : List (List AV)) : Nat → LS → Option AV
  | 0, _ => none
  | fu + 1, .lR2 x3s x23 =>
    if x23 then
    (some (.int .i64 0))
    else
    (PL a0_0 a0_1 a0_2 a0_3 a0_4 a0_5 a0_6 a0_7 a0_8 fu (.l0 x3s 0 (sizeI x3s) 0))
  | fu + 1, .l0 x3s x5n x25 x26 =>
    if ltI x26 x25 then
    (if leI 0 x26 then (if ltI x26 (sizeI x3s) then (if ltI (bt x3s x26) 48 then
      (PL a0_0 a0_1 a0_2 a0_3 a0_4 a0_5 a0_6 a0_7 a0_8 fu (.lR8 x3s x5n x26 x25 x26 true))
      else
      (if leI 0 x26 then (if ltI x26 (sizeI x3s) then (if ltI 57 (bt x3s x26) then
        (PL a0_0 a0_1 a0_2 a0_3 a0_4 a0_5 a0_6 a0_7 a0_8 fu (.lR8 x3s x5n x26 x25 x26 true))
        else
        (if eqI x26 0 then
          (if leI 0 x26 then (if ltI x26 (sizeI x3s) then (if eqI (bt x3s x26) 48 then
            (PL a0_0 a0_1 a0_2 a0_3 a0_4 a0_5 a0_6 a0_7 a0_8 fu (.lR8 x3s x5n x26 x25 x26 (ltI 1 (sizeI x3s))))
            else
            (PL a0_0 a0_1 a0_2 a0_3 a0_4 a0_5 a0_6 a0_7 a0_8 fu (.lR8 x3s x5n x26 x25 x26 false))) else none) else none)
          else
          (PL a0_0 a0_1 a0_2 a0_3 a0_4 a0_5 a0_6 a0_7 a0_8 fu (.lR8 x3s x5n x26 x25 x26 false)))) else none) else none)) else none) else none)
    else
    (if ltI 1099511627776 x5n then
      (some (.int .i64 0))
      else
      (some (.int .i64 x5n)))
  | fu + 1, .lR8 x3s x5n x6i x25 x26 x53 =>
    if x53 then
    (some (.int .i64 0))
    else
    (if leI 0 x6i then (if ltI x6i (sizeI x3s) then PL a0_0 a0_1 a0_2 a0_3 a0_4 a0_5 a0_6 a0_7 a0_8 fu (.l0 x3s (addW .i64 (mulW .i64 10 x5n) (IntKind.i64.wrap (subW .u8 (bt x3s x6i) 48))) x25 (addW .i64 x26 1)) else none) else none)
noncomputable def P (a0_0 a0_1 : ByteArray) (a0_2 : Int) (a0_3 : Bool) (a0_4 a0_5 : Int) (a0_6 : ByteArray) (a0_7 : Int) (a0_8 : List (List AV)) : Option AV := lim fun fu =>
    (F30.P a0_8 (⟨#[100, 101, 97, 116, 104, 115]⟩ : ByteArray)).bind fun v_1 =>
    if ((v_1).isTup && Nat.beq (v_1).tupVs.length 2) then (if (((v_1).tupVs).headD .any).isStr then (if ((((v_1).tupVs).tail).headD .any).isBool then (if !(((((v_1).tupVs).tail).headD .any).toBool) then
      (PL a0_0 a0_1 a0_2 a0_3 a0_4 a0_5 a0_6 a0_7 a0_8 fu (.lR2 ((((v_1).tupVs).headD .any).toStr) true))
      else
      (if eqS ((((v_1).tupVs).headD .any).toStr) (⟨#[]⟩ : ByteArray) then
        (PL a0_0 a0_1 a0_2 a0_3 a0_4 a0_5 a0_6 a0_7 a0_8 fu (.lR2 ((((v_1).tupVs).headD .any).toStr) true))
        else
        (PL a0_0 a0_1 a0_2 a0_3 a0_4 a0_5 a0_6 a0_7 a0_8 fu (.lR2 ((((v_1).tupVs).headD .any).toStr) (ltI 13 (sizeI ((((v_1).tupVs).headD .any).toStr))))))) else none) else none) else none
theorem PL_ok {a0_0 a0_1 : ByteArray} {a0_2 : Int} {a0_3 : Bool} {a0_4 a0_5 : Int} {a0_6 : ByteArray} {a0_7 : Int} {a0_8 : List (List AV)} {Q : Qt} {v : AV} (hQ : ∀ H, Q v H) : ∀ (fu : Nat) (s : LS) (H : Heap), PL a0_0 a0_1 a0_2 a0_3 a0_4 a0_5 a0_6 a0_7 a0_8 fu s = some v → match s with | .lR2 x3s x23 => JR2 a0_0 a0_1 a0_2 a0_3 a0_4 a0_5 a0_6 a0_7 a0_8 Q x3s x23 H | .l0 x3s x5n x25 x26 => L0 a0_0 a0_1 a0_2 a0_3 a0_4 a0_5 a0_6 a0_7 a0_8 Q x3s x5n x25 x26 H | .lR8 x3s x5n x6i x25 x26 x53 => JR8 a0_0 a0_1 a0_2 a0_3 a0_4 a0_5 a0_6 a0_7 a0_8 Q x3s x5n x6i x25 x26 x53 H := by
  intro fu
  induction fu with
  | zero => intro s H h; exact absurd h (by cases s <;> simp only [PL] <;> exact nofun)
  | succ fu ih =>
    intro s H
    cases s with
    | lR2 x3s x23 =>
      show PL a0_0 a0_1 a0_2 a0_3 a0_4 a0_5 a0_6 a0_7 a0_8 (fu + 1) (.lR2 x3s x23) = some v → JR2 a0_0 a0_1 a0_2 a0_3 a0_4 a0_5 a0_6 a0_7 a0_8 Q x3s x23 H
      rw [PL]
      refine fun h => JR2_step (?_ : jR2 a0_0 a0_1 a0_2 a0_3 a0_4 a0_5 a0_6 a0_7 a0_8 Q x3s x23 H)
      revert h
      unfold jR2
      repeat' first | exact lsV hQ | exact lsF | apply lsG | apply lsC | exact fun h => ih _ _ h
    | l0 x3s x5n x25 x26 =>
      show PL a0_0 a0_1 a0_2 a0_3 a0_4 a0_5 a0_6 a0_7 a0_8 (fu + 1) (.l0 x3s x5n x25 x26) = some v → L0 a0_0 a0_1 a0_2 a0_3 a0_4 a0_5 a0_6 a0_7 a0_8 Q x3s x5n x25 x26 H
      rw [PL]
      refine fun h => L0_step (?_ : r0 a0_0 a0_1 a0_2 a0_3 a0_4 a0_5 a0_6 a0_7 a0_8 Q x3s x5n x25 x26 H)
      revert h
      unfold r0
      repeat' first | exact lsV hQ | exact lsF | apply lsG | apply lsC | exact fun h => ih _ _ h
    | lR8 x3s x5n x6i x25 x26 x53 =>
      show PL a0_0 a0_1 a0_2 a0_3 a0_4 a0_5 a0_6 a0_7 a0_8 (fu + 1) (.lR8 x3s x5n x6i x25 x26 x53) = some v → JR8 a0_0 a0_1 a0_2 a0_3 a0_4 a0_5 a0_6 a0_7 a0_8 Q x3s x5n x6i x25 x26 x53 H
      rw [PL]
      refine fun h => JR8_step (?_ : jR8 a0_0 a0_1 a0_2 a0_3 a0_4 a0_5 a0_6 a0_7 a0_8 Q x3s x5n x6i x25 x26 x53 H)
      revert h
      unfold jR8
      repeat' first | exact lsV hQ | exact lsF | apply lsG | apply lsC | exact fun h => ih _ _ h
theorem ok {a0_0 a0_1 : ByteArray} {a0_2 : Int} {a0_3 : Bool} {a0_4 a0_5 : Int} {a0_6 : ByteArray} {a0_7 : Int} {a0_8 : List (List AV)} {v : AV} (h : P a0_0 a0_1 a0_2 a0_3 a0_4 a0_5 a0_6 a0_7 a0_8 = some v) {H : Heap} {Q : Qt} (hQ : ∀ H, Q v H) : C 14 [.agg [.str a0_0, .str a0_1, .int .i64 a0_2, .bool a0_3, .int .i64 a0_4, .int .i64 a0_5, .str a0_6, .int .i64 a0_7, .sl 0 2 a0_8]] H Q := by
  refine call ?_
  unfold t
  unfold P at h
  obtain ⟨fu, h⟩ := lim_some h
  revert h
  repeat' first | exact lsV hQ | exact lsF | apply lsG | apply lsC | refine F30.ls fun _ _ => ?_ | exact fun h => PL_ok hQ _ _ _ h
theorem ls {a0_0 a0_1 : ByteArray} {a0_2 : Int} {a0_3 : Bool} {a0_4 a0_5 : Int} {a0_6 : ByteArray} {a0_7 : Int} {a0_8 : List (List AV)} {v : AV} {H : Heap} {k : AV → Option AV} {K : Qt} (h : ∀ w H, k w = some v → K w H) : (P a0_0 a0_1 a0_2 a0_3 a0_4 a0_5 a0_6 a0_7 a0_8).bind k = some v → C 14 [.agg [.str a0_0, .str a0_1, .int .i64 a0_2, .bool a0_3, .int .i64 a0_4, .int .i64 a0_5, .str a0_6, .int .i64 a0_7, .sl 0 2 a0_8]] H K := fun e => bind_ls (Cq := fun K => C 14 [.agg [.str a0_0, .str a0_1, .int .i64 a0_2, .bool a0_3, .int .i64 a0_4, .int .i64 a0_5, .str a0_6, .int .i64 a0_7, .sl 0 2 a0_8]] H K) (fun h => ok h) h e
end F14
/-! ### broker/dead.Again: function 16 -/
namespace F16
noncomputable def P (a0_0 a0_1 : ByteArray) (a0_2 : Int) (a0_3 : Bool) (a0_4 a0_5 : Int) (a0_6 : ByteArray) (a0_7 : Int) (a0_8 : List (List AV)) : Option AV :=
    (F14.P a0_0 a0_1 a0_2 a0_3 a0_4 a0_5 a0_6 a0_7 a0_8).bind fun v_1 =>
    if (v_1).isInt .i64 then some (.bool (ltI ((v_1).toInt) 8)) else none
theorem ok {a0_0 a0_1 : ByteArray} {a0_2 : Int} {a0_3 : Bool} {a0_4 a0_5 : Int} {a0_6 : ByteArray} {a0_7 : Int} {a0_8 : List (List AV)} {v : AV} (h : P a0_0 a0_1 a0_2 a0_3 a0_4 a0_5 a0_6 a0_7 a0_8 = some v) {H : Heap} {Q : Qt} (hQ : ∀ H, Q v H) : C 16 [.agg [.str a0_0, .str a0_1, .int .i64 a0_2, .bool a0_3, .int .i64 a0_4, .int .i64 a0_5, .str a0_6, .int .i64 a0_7, .sl 0 2 a0_8]] H Q := by
  refine call ?_
  unfold t
  unfold P at h
  revert h
  repeat' first | exact lsV hQ | exact lsF | apply lsG | apply lsC | refine F14.ls fun _ _ => ?_
theorem ls {a0_0 a0_1 : ByteArray} {a0_2 : Int} {a0_3 : Bool} {a0_4 a0_5 : Int} {a0_6 : ByteArray} {a0_7 : Int} {a0_8 : List (List AV)} {v : AV} {H : Heap} {k : AV → Option AV} {K : Qt} (h : ∀ w H, k w = some v → K w H) : (P a0_0 a0_1 a0_2 a0_3 a0_4 a0_5 a0_6 a0_7 a0_8).bind k = some v → C 16 [.agg [.str a0_0, .str a0_1, .int .i64 a0_2, .bool a0_3, .int .i64 a0_4, .int .i64 a0_5, .str a0_6, .int .i64 a0_7, .sl 0 2 a0_8]] H K := fun e => bind_ls (Cq := fun K => C 16 [.agg [.str a0_0, .str a0_1, .int .i64 a0_2, .bool a0_3, .int .i64 a0_4, .int .i64 a0_5, .str a0_6, .int .i64 a0_7, .sl 0 2 a0_8]] H K) (fun h => ok h) h e
end F16
/-! ### broker/dead.with$1: function 51 -/
namespace F51
noncomputable def P (a0_0 a0_1 : ByteArray) (a1 : List AV) : Option AV :=
    if (ce a1 0).isStr then some (.bool (eqS a0_0 ((ce a1 0).toStr))) else none
theorem ok {a0_0 a0_1 : ByteArray} {a1 : List AV} {v : AV} (h : P a0_0 a0_1 a1 = some v) {H : Heap} {Q : Qt} (hQ : ∀ H, Q v H) : C 51 [.agg [.str a0_0, .str a0_1], .rp a1 0] H Q := by
  refine call ?_
  unfold t
  unfold P at h
  revert h
  repeat' first | exact lsV hQ | exact lsF | apply lsG | apply lsC
theorem ls {a0_0 a0_1 : ByteArray} {a1 : List AV} {v : AV} {H : Heap} {k : AV → Option AV} {K : Qt} (h : ∀ w H, k w = some v → K w H) : (P a0_0 a0_1 a1).bind k = some v → C 51 [.agg [.str a0_0, .str a0_1], .rp a1 0] H K := fun e => bind_ls (Cq := fun K => C 51 [.agg [.str a0_0, .str a0_1], .rp a1 0] H K) (fun h => ok h) h e
end F51
/-! ### slices.IndexFunc[[]broker/api.Prop,broker/api.Prop]: function 66 -/
namespace F66
inductive LS where
  | l0 (x8 : Int)
noncomputable def PL (a0 : List (List AV)) (a1q0 : List AV) : Nat → LS → Option AV
  | 0, _ => none
  | fu + 1, .l0 x8 =>
    if ltI x8 (lenI a0) then
    (if leI 0 x8 then (if ltI x8 (lenI a0) then (if (ce (ro a0 x8.toNat) 0).isStr then (if (ce (ro a0 x8.toNat) 1).isStr then ((F51.P ((ce (ro a0 x8.toNat) 0).toStr) ((ce (ro a0 x8.toNat) 1).toStr) a1q0).bind fun v_1 =>
      if (v_1).isBool then (if (v_1).toBool then
        (some (.int .i64 x8))
        else
        (PL a0 a1q0 fu (.l0 (addW .i64 x8 1)))) else none) else none) else none) else none) else none)
    else
    (some (.int .i64 (-1)))
noncomputable def P (a0 : List (List AV)) (a1q0 : List AV) : Option AV := lim fun fu =>
    PL a0 a1q0 fu (.l0 0)
theorem PL_ok {a0 : List (List AV)} {a1q0 : List AV} {Q : Qt} {v : AV} (hQ : ∀ H, Q v H) : ∀ (fu : Nat) (s : LS) (H : Heap), PL a0 a1q0 fu s = some v → match s with | .l0 x8 => L0 a0 a1q0 Q x8 H := by
  intro fu
  induction fu with
  | zero => intro s H h; exact absurd h (by cases s <;> simp only [PL] <;> exact nofun)
  | succ fu ih =>
    intro s H
    cases s with
    | l0 x8 =>
      show PL a0 a1q0 (fu + 1) (.l0 x8) = some v → L0 a0 a1q0 Q x8 H
      rw [PL]
      refine fun h => L0_step (?_ : r0 a0 a1q0 Q x8 H)
      revert h
      unfold r0
      repeat' first | exact lsV hQ | exact lsF | apply lsG | apply lsC | refine F51.ls fun _ _ => ?_ | exact fun h => ih _ _ h
theorem ok {a0 : List (List AV)} {a1q0 : List AV} {v : AV} (h : P a0 a1q0 = some v) {H : Heap} {Q : Qt} (hQ : ∀ H, Q v H) : C 66 [.sl 0 2 a0, .fn 51 [.rp a1q0 0]] H Q := by
  refine call ?_
  unfold t
  unfold P at h
  obtain ⟨fu, h⟩ := lim_some h
  revert h
  repeat' first | exact lsV hQ | exact lsF | apply lsG | apply lsC | exact fun h => PL_ok hQ _ _ _ h
theorem ls {a0 : List (List AV)} {a1q0 : List AV} {v : AV} {H : Heap} {k : AV → Option AV} {K : Qt} (h : ∀ w H, k w = some v → K w H) : (P a0 a1q0).bind k = some v → C 66 [.sl 0 2 a0, .fn 51 [.rp a1q0 0]] H K := fun e => bind_ls (Cq := fun K => C 66 [.sl 0 2 a0, .fn 51 [.rp a1q0 0]] H K) (fun h => ok h) h e
end F66
/-! ### slices.ContainsFunc[[]broker/api.Prop,broker/api.Prop]: function 50 -/
namespace F50
noncomputable def P (a0 : List (List AV)) (a1q0 : List AV) : Option AV :=
    (F66.P a0 a1q0).bind fun v_1 =>
    if (v_1).isInt .i64 then some (.bool (leI 0 ((v_1).toInt))) else none
theorem ok {a0 : List (List AV)} {a1q0 : List AV} {v : AV} (h : P a0 a1q0 = some v) {H : Heap} {Q : Qt} (hQ : ∀ H, Q v H) : C 50 [.sl 0 2 a0, .fn 51 [.rp a1q0 0]] H Q := by
  refine call ?_
  unfold t
  unfold P at h
  revert h
  repeat' first | exact lsV hQ | exact lsF | apply lsG | apply lsC | refine F66.ls fun _ _ => ?_
theorem ls {a0 : List (List AV)} {a1q0 : List AV} {v : AV} {H : Heap} {k : AV → Option AV} {K : Qt} (h : ∀ w H, k w = some v → K w H) : (P a0 a1q0).bind k = some v → C 50 [.sl 0 2 a0, .fn 51 [.rp a1q0 0]] H K := fun e => bind_ls (Cq := fun K => C 50 [.sl 0 2 a0, .fn 51 [.rp a1q0 0]] H K) (fun h => ok h) h e
end F50
/-! ### broker/dead.with: function 36 -/
namespace F36
inductive LS where
  | l0 (x5out : List (List AV)) (x11 : Int)
noncomputable def PL (a0 a1 : List (List AV)) : Nat → LS → Option AV
  | 0, _ => none
  | fu + 1, .l0 x5out x11 =>
    if ltI x11 (lenI a0) then
    (if leI 0 x11 then (if ltI x11 (lenI a0) then (if (ce (ro a0 x11.toNat) 0).isStr then (if (ce (ro a0 x11.toNat) 1).isStr then ((F50.P a1 [.str ((ce (ro a0 x11.toNat) 0).toStr), .str ((ce (ro a0 x11.toNat) 1).toStr)]).bind fun v_1 =>
      if (v_1).isBool then (if !((v_1).toBool) then
        (if ltI (addW .i64 (lenI x5out) (lenI a1)) 8 then
          (if room x5out [[.str ((ce (ro a0 x11.toNat) 0).toStr), .str ((ce (ro a0 x11.toNat) 1).toStr)]] 32 then PL a0 a1 fu (.l0 (x5out ++ [[.str ((ce (ro a0 x11.toNat) 0).toStr), .str ((ce (ro a0 x11.toNat) 1).toStr)]]) (addW .i64 x11 1)) else none)
          else
          (PL a0 a1 fu (.l0 x5out (addW .i64 x11 1))))
        else
        (PL a0 a1 fu (.l0 x5out (addW .i64 x11 1)))) else none) else none) else none) else none) else none)
    else
    (if room x5out a1 32 then ((SoP.P 2 (x5out ++ a1) [.fn 53 []]).bind fun y_3 =>
      some (.sl 0 2 y_3)) else none)
noncomputable def P (a0 a1 : List (List AV)) : Option AV := lim fun fu =>
    PL a0 a1 fu (.l0 [] 0)
theorem PL_ok {a0 a1 : List (List AV)} {Q : Qt} {v : AV} (hQ : ∀ H, Q v H) : ∀ (fu : Nat) (s : LS) (H : Heap), PL a0 a1 fu s = some v → match s with | .l0 x5out x11 => L0 a0 a1 Q x5out x11 H := by
  intro fu
  induction fu with
  | zero => intro s H h; exact absurd h (by cases s <;> simp only [PL] <;> exact nofun)
  | succ fu ih =>
    intro s H
    cases s with
    | l0 x5out x11 =>
      show PL a0 a1 (fu + 1) (.l0 x5out x11) = some v → L0 a0 a1 Q x5out x11 H
      rw [PL]
      refine fun h => L0_step (?_ : r0 a0 a1 Q x5out x11 H)
      revert h
      unfold r0
      repeat' first | exact lsV hQ | exact lsF | apply lsG | apply lsC | refine F50.ls fun _ _ => ?_ | refine SoP.ls fun _ _ => ?_ | exact fun h => ih _ _ h
theorem ok {a0 a1 : List (List AV)} {v : AV} (h : P a0 a1 = some v) {H : Heap} {Q : Qt} (hQ : ∀ H, Q v H) : C 36 [.sl 0 2 a0, .sl 0 2 a1] H Q := by
  refine call ?_
  unfold t
  unfold P at h
  obtain ⟨fu, h⟩ := lim_some h
  revert h
  repeat' first | exact lsV hQ | exact lsF | apply lsG | apply lsC | exact fun h => PL_ok hQ _ _ _ h
theorem ls {a0 a1 : List (List AV)} {v : AV} {H : Heap} {k : AV → Option AV} {K : Qt} (h : ∀ w H, k w = some v → K w H) : (P a0 a1).bind k = some v → C 36 [.sl 0 2 a0, .sl 0 2 a1] H K := fun e => bind_ls (Cq := fun K => C 36 [.sl 0 2 a0, .sl 0 2 a1] H K) (fun h => ok h) h e
end F36
/-! ### broker/dead.Mark: function 19 -/
namespace F19
noncomputable def P (a0 a1_0 a1_1 : ByteArray) (a1_2 : Int) (a1_3 : Bool) (a1_4 a1_5 : Int) (a1_6 : ByteArray) (a1_7 : Int) (a1_8 : List (List AV)) (a2 : Int) : Option AV :=
    (F14.P a1_0 a1_1 a1_2 a1_3 a1_4 a1_5 a1_6 a1_7 a1_8).bind fun v_1 =>
    if (v_1).isInt .i64 then ((ItoaP.P [.int .i64 (cond (ltI 1099511627776 (addW .i64 ((v_1).toInt) 1)) 1099511627776 (addW .i64 ((v_1).toInt) 1))]).bind fun v_3 =>
      if (v_3).isStr then (if Nat.ble (a0.size + (⟨#[32]⟩ : ByteArray).size) 9223372036854775807 then ((ItoaP.P [.int .i64 a2]).bind fun v_5 =>
        if (v_5).isStr then (if Nat.ble ((a0 ++ (⟨#[32]⟩ : ByteArray)).size + ((v_5).toStr).size) 9223372036854775807 then ((F36.P a1_8 [[.str (⟨#[100, 101, 97, 116, 104, 115]⟩ : ByteArray), .str ((v_3).toStr)], [.str (⟨#[100, 105, 101, 100]⟩ : ByteArray), .str ((a0 ++ (⟨#[32]⟩ : ByteArray)) ++ ((v_5).toStr))]]).bind fun v_7 =>
          if (v_7).isSl 2 then some (.agg [.str a1_0, .str a1_1, .int .i64 a1_2, .bool a1_3, .int .i64 a1_4, .int .i64 0, .str a1_6, .int .i64 a1_7, .sl 0 2 ((v_7).slXs)]) else none) else none) else none) else none) else none) else none
theorem ok {a0 a1_0 a1_1 : ByteArray} {a1_2 : Int} {a1_3 : Bool} {a1_4 a1_5 : Int} {a1_6 : ByteArray} {a1_7 : Int} {a1_8 : List (List AV)} {a2 : Int} {v : AV} (h : P a0 a1_0 a1_1 a1_2 a1_3 a1_4 a1_5 a1_6 a1_7 a1_8 a2 = some v) {H : Heap} {Q : Qt} (hQ : ∀ H, Q v H) : C 19 [.str a0, .agg [.str a1_0, .str a1_1, .int .i64 a1_2, .bool a1_3, .int .i64 a1_4, .int .i64 a1_5, .str a1_6, .int .i64 a1_7, .sl 0 2 a1_8], .int .i64 a2] H Q := by
  refine call ?_
  unfold t
  unfold P at h
  revert h
  repeat' first | exact lsV hQ | exact lsF | apply lsG | apply lsC | refine F14.ls fun _ _ => ?_ | refine F36.ls fun _ _ => ?_ | refine ItoaP.ls fun _ _ => ?_
theorem ls {a0 a1_0 a1_1 : ByteArray} {a1_2 : Int} {a1_3 : Bool} {a1_4 a1_5 : Int} {a1_6 : ByteArray} {a1_7 : Int} {a1_8 : List (List AV)} {a2 : Int} {v : AV} {H : Heap} {k : AV → Option AV} {K : Qt} (h : ∀ w H, k w = some v → K w H) : (P a0 a1_0 a1_1 a1_2 a1_3 a1_4 a1_5 a1_6 a1_7 a1_8 a2).bind k = some v → C 19 [.str a0, .agg [.str a1_0, .str a1_1, .int .i64 a1_2, .bool a1_3, .int .i64 a1_4, .int .i64 a1_5, .str a1_6, .int .i64 a1_7, .sl 0 2 a1_8], .int .i64 a2] H K := fun e => bind_ls (Cq := fun K => C 19 [.str a0, .agg [.str a1_0, .str a1_1, .int .i64 a1_2, .bool a1_3, .int .i64 a1_4, .int .i64 a1_5, .str a1_6, .int .i64 a1_7, .sl 0 2 a1_8], .int .i64 a2] H K) (fun h => ok h) h e
end F19
/-! ### unicode/utf8.RuneCountInString: function 72 -/
namespace F72
inductive LS where
  | l0 (x2n : Int) (it0 : Nat)
noncomputable def PL (a0 : ByteArray) : Nat → LS → Option AV
  | 0, _ => none
  | fu + 1, .l0 x2n it0 =>
    if Nat.blt it0 a0.size then
    (PL a0 fu (.l0 (addW .i64 x2n 1) (it0 + (Utf8.decode a0 it0).2)))
    else
    (some (.int .i64 x2n))
noncomputable def P (a0 : ByteArray) : Option AV := lim fun fu =>
    PL a0 fu (.l0 0 0)
theorem PL_ok {a0 : ByteArray} {Q : Qt} {v : AV} (hQ : ∀ H, Q v H) : ∀ (fu : Nat) (s : LS) (H : Heap), PL a0 fu s = some v → match s with | .l0 x2n it0 => L0 a0 Q x2n it0 H := by
  intro fu
  induction fu with
  | zero => intro s H h; exact absurd h (by cases s <;> simp only [PL] <;> exact nofun)
  | succ fu ih =>
    intro s H
    cases s with
    | l0 x2n it0 =>
      show PL a0 (fu + 1) (.l0 x2n it0) = some v → L0 a0 Q x2n it0 H
      rw [PL]
      refine fun h => L0_step (?_ : r0 a0 Q x2n it0 H)
      revert h
      unfold r0
      repeat' first | exact lsV hQ | exact lsF | apply lsG | apply lsC | exact fun h => ih _ _ h
theorem ok {a0 : ByteArray} {v : AV} (h : P a0 = some v) {H : Heap} {Q : Qt} (hQ : ∀ H, Q v H) : C 72 [.str a0] H Q := by
  refine call ?_
  unfold t
  unfold P at h
  obtain ⟨fu, h⟩ := lim_some h
  revert h
  repeat' first | exact lsV hQ | exact lsF | apply lsG | apply lsC | exact fun h => PL_ok hQ _ _ _ h
theorem ls {a0 : ByteArray} {v : AV} {H : Heap} {k : AV → Option AV} {K : Qt} (h : ∀ w H, k w = some v → K w H) : (P a0).bind k = some v → C 72 [.str a0] H K := fun e => bind_ls (Cq := fun K => C 72 [.str a0] H K) (fun h => ok h) h e
end F72
/-! ### unicode/utf8.DecodeRuneInString: function 73 -/
namespace F73
noncomputable def P (a0 : ByteArray) : Option AV :=
    if !(eqS a0 (⟨#[]⟩ : ByteArray)) then
    (if ltI 0 (sizeI a0) then (if ltI (bt a0 0) 128 then
      (if ltI 0 (sizeI a0) then some (.tup [.int .i32 (IntKind.i32.wrap (bt a0 0)), .int .i64 1]) else none)
      else
      ((Dum96.P [.str a0]).bind fun v_1 =>
        if ((v_1).isTup && Nat.beq (v_1).tupVs.length 2) then (if (((v_1).tupVs).headD .any).isInt .i32 then (if ((((v_1).tupVs).tail).headD .any).isInt .i64 then some (.tup [.int .i32 ((((v_1).tupVs).headD .any).toInt), .int .i64 (((((v_1).tupVs).tail).headD .any).toInt)]) else none) else none) else none)) else none)
    else
    ((Dum96.P [.str a0]).bind fun v_3 =>
      if ((v_3).isTup && Nat.beq (v_3).tupVs.length 2) then (if (((v_3).tupVs).headD .any).isInt .i32 then (if ((((v_3).tupVs).tail).headD .any).isInt .i64 then some (.tup [.int .i32 ((((v_3).tupVs).headD .any).toInt), .int .i64 (((((v_3).tupVs).tail).headD .any).toInt)]) else none) else none) else none)
theorem ok {a0 : ByteArray} {v : AV} (h : P a0 = some v) {H : Heap} {Q : Qt} (hQ : ∀ H, Q v H) : C 73 [.str a0] H Q := by
  refine call ?_
  unfold t
  unfold P at h
  revert h
  repeat' first | exact lsV hQ | exact lsF | apply lsG | apply lsC | refine Dum96.ls fun _ _ => ?_
theorem ls {a0 : ByteArray} {v : AV} {H : Heap} {k : AV → Option AV} {K : Qt} (h : ∀ w H, k w = some v → K w H) : (P a0).bind k = some v → C 73 [.str a0] H K := fun e => bind_ls (Cq := fun K => C 73 [.str a0] H K) (fun h => ok h) h e
end F73
/-! ### strings.explode: function 58 -/
namespace F58
inductive LS where
  | l0 (x0s : ByteArray) (x1n : Int) (x6a : List (List AV)) (x7i : Int)
noncomputable def PL (a0 : ByteArray) (a1 : Int) : Nat → LS → Option AV
  | 0, _ => none
  | fu + 1, .l0 x0s x1n x6a x7i =>
    if ltI x7i (subW .i64 x1n 1) then
    ((F73.P x0s).bind fun v_3 =>
      if ((v_3).isTup && Nat.beq (v_3).tupVs.length 2) then (if (((v_3).tupVs).headD .any).isInt .i32 then (if ((((v_3).tupVs).tail).headD .any).isInt .i64 then (if leI 0 (((((v_3).tupVs).tail).headD .any).toInt) then (if leI (((((v_3).tupVs).tail).headD .any).toInt) (sizeI x0s) then (if leI 0 x7i then (if ltI x7i (lenI x6a) then (if leI 0 (((((v_3).tupVs).tail).headD .any).toInt) then (if leI (((((v_3).tupVs).tail).headD .any).toInt) (sizeI x0s) then (if leI (sizeI x0s) (sizeI x0s) then PL a0 a1 fu (.l0 (x0s.extract ((((((v_3).tupVs).tail).headD .any).toInt).toNat) ((sizeI x0s).toNat)) x1n (x6a.set x7i.toNat ((ro x6a x7i.toNat).set 0 (.str (x0s.extract 0 ((((((v_3).tupVs).tail).headD .any).toInt).toNat))))) (addW .i64 x7i 1)) else none) else none) else none) else none) else none) else none) else none) else none) else none) else none)
    else
    (if ltI 0 x1n then
      (if leI 0 (subW .i64 x1n 1) then (if ltI (subW .i64 x1n 1) (lenI x6a) then some (.sl 0 1 (x6a.set ((subW .i64 x1n 1).toNat) ((ro x6a ((subW .i64 x1n 1).toNat)).set 0 (.str x0s)))) else none) else none)
      else
      (some (.sl 0 1 x6a)))
noncomputable def P (a0 : ByteArray) (a1 : Int) : Option AV := lim fun fu =>
    (F72.P a0).bind fun v_1 =>
    if (v_1).isInt .i64 then (if ltI a1 0 then
      (if leI 0 ((v_1).toInt) then (if eqI ((v_1).toInt) ((v_1).toInt) then (if roomN ((v_1).toInt) 16 then PL a0 a1 fu (.l0 a0 ((v_1).toInt) (List.replicate (((v_1).toInt).toNat) ([.str (⟨#[]⟩ : ByteArray)] : List AV)) 0) else none) else none) else none)
      else
      (if ltI ((v_1).toInt) a1 then
        (if leI 0 ((v_1).toInt) then (if eqI ((v_1).toInt) ((v_1).toInt) then (if roomN ((v_1).toInt) 16 then PL a0 a1 fu (.l0 a0 ((v_1).toInt) (List.replicate (((v_1).toInt).toNat) ([.str (⟨#[]⟩ : ByteArray)] : List AV)) 0) else none) else none) else none)
        else
        (if leI 0 a1 then (if eqI a1 a1 then (if roomN a1 16 then PL a0 a1 fu (.l0 a0 a1 (List.replicate a1.toNat ([.str (⟨#[]⟩ : ByteArray)] : List AV)) 0) else none) else none) else none))) else none
theorem PL_ok {a0 : ByteArray} {a1 : Int} {Q : Qt} {v : AV} (hQ : ∀ H, Q v H) : ∀ (fu : Nat) (s : LS) (H : Heap), PL a0 a1 fu s = some v → match s with | .l0 x0s x1n x6a x7i => L0 a0 a1 Q x0s x1n x6a x7i H := by
  intro fu
  induction fu with
  | zero => intro s H h; exact absurd h (by cases s <;> simp only [PL] <;> exact nofun)
  | succ fu ih =>
    intro s H
    cases s with
    | l0 x0s x1n x6a x7i =>
      show PL a0 a1 (fu + 1) (.l0 x0s x1n x6a x7i) = some v → L0 a0 a1 Q x0s x1n x6a x7i H
      rw [PL]
      refine fun h => L0_step (?_ : r0 a0 a1 Q x0s x1n x6a x7i H)
      revert h
      unfold r0
      repeat' first | exact lsV hQ | exact lsF | apply lsG | apply lsC | refine F73.ls fun _ _ => ?_ | exact fun h => ih _ _ h
theorem ok {a0 : ByteArray} {a1 : Int} {v : AV} (h : P a0 a1 = some v) {H : Heap} {Q : Qt} (hQ : ∀ H, Q v H) : C 58 [.str a0, .int .i64 a1] H Q := by
  refine call ?_
  unfold t
  unfold P at h
  obtain ⟨fu, h⟩ := lim_some h
  revert h
  repeat' first | exact lsV hQ | exact lsF | apply lsG | apply lsC | refine F72.ls fun _ _ => ?_ | exact fun h => PL_ok hQ _ _ _ h
theorem ls {a0 : ByteArray} {a1 : Int} {v : AV} {H : Heap} {k : AV → Option AV} {K : Qt} (h : ∀ w H, k w = some v → K w H) : (P a0 a1).bind k = some v → C 58 [.str a0, .int .i64 a1] H K := fun e => bind_ls (Cq := fun K => C 58 [.str a0, .int .i64 a1] H K) (fun h => ok h) h e
end F58
/-! ### strings.Index: function 60 -/
namespace F60
noncomputable def P (a0 a1 : ByteArray) : Option AV :=
    (IdxP.P [.str a0, .str a1]).bind fun v_1 =>
    if (v_1).isInt .i64 then some (.int .i64 ((v_1).toInt)) else none
theorem ok {a0 a1 : ByteArray} {v : AV} (h : P a0 a1 = some v) {H : Heap} {Q : Qt} (hQ : ∀ H, Q v H) : C 60 [.str a0, .str a1] H Q := by
  refine call ?_
  unfold t
  unfold P at h
  revert h
  repeat' first | exact lsV hQ | exact lsF | apply lsG | apply lsC | refine IdxP.ls fun _ _ => ?_
theorem ls {a0 a1 : ByteArray} {v : AV} {H : Heap} {k : AV → Option AV} {K : Qt} (h : ∀ w H, k w = some v → K w H) : (P a0 a1).bind k = some v → C 60 [.str a0, .str a1] H K := fun e => bind_ls (Cq := fun K => C 60 [.str a0, .str a1] H K) (fun h => ok h) h e
end F60
/-! ### strings.genSplit: function 44 -/
namespace F44
inductive LS where
  | l0 (x0s : ByteArray) (x3n : Int) (x9a : List (List AV)) (x10i : Int)
noncomputable def PL (a0 a1 : ByteArray) (a2 a3 : Int) : Nat → LS → Option AV
  | 0, _ => none
  | fu + 1, .l0 x0s x3n x9a x10i =>
    if ltI x10i x3n then
    ((F60.P x0s a1).bind fun v_5 =>
      if (v_5).isInt .i64 then (if ltI ((v_5).toInt) 0 then
        (if leI 0 x10i then (if ltI x10i (lenI x9a) then (if leI 0 (addW .i64 x10i 1) then (if leI (addW .i64 x10i 1) (addW .i64 x10i 1) then (if leI (addW .i64 x10i 1) (lenI (x9a.set x10i.toNat ((ro x9a x10i.toNat).set 0 (.str x0s)))) then some (.sl 0 1 (((x9a.set x10i.toNat ((ro x9a x10i.toNat).set 0 (.str x0s))).take ((addW .i64 x10i 1).toNat)).drop 0)) else none) else none) else none) else none) else none)
        else
        (if leI 0 (addW .i64 ((v_5).toInt) a2) then (if leI (addW .i64 ((v_5).toInt) a2) (sizeI x0s) then (if leI 0 x10i then (if ltI x10i (lenI x9a) then (if leI 0 (addW .i64 ((v_5).toInt) (sizeI a1)) then (if leI (addW .i64 ((v_5).toInt) (sizeI a1)) (sizeI x0s) then (if leI (sizeI x0s) (sizeI x0s) then PL a0 a1 a2 a3 fu (.l0 (x0s.extract ((addW .i64 ((v_5).toInt) (sizeI a1)).toNat) ((sizeI x0s).toNat)) x3n (x9a.set x10i.toNat ((ro x9a x10i.toNat).set 0 (.str (x0s.extract 0 ((addW .i64 ((v_5).toInt) a2).toNat))))) (addW .i64 x10i 1)) else none) else none) else none) else none) else none) else none) else none)) else none)
    else
    (if leI 0 x10i then (if ltI x10i (lenI x9a) then (if leI 0 (addW .i64 x10i 1) then (if leI (addW .i64 x10i 1) (addW .i64 x10i 1) then (if leI (addW .i64 x10i 1) (lenI (x9a.set x10i.toNat ((ro x9a x10i.toNat).set 0 (.str x0s)))) then some (.sl 0 1 (((x9a.set x10i.toNat ((ro x9a x10i.toNat).set 0 (.str x0s))).take ((addW .i64 x10i 1).toNat)).drop 0)) else none) else none) else none) else none) else none)
noncomputable def P (a0 a1 : ByteArray) (a2 a3 : Int) : Option AV := lim fun fu =>
    if eqI a3 0 then
    (some (.nilsl))
    else
    (if eqS a1 (⟨#[]⟩ : ByteArray) then
      ((F58.P a0 a3).bind fun v_1 =>
        if (v_1).isSl 1 then some (.sl 0 1 ((v_1).slXs)) else none)
      else
      (if ltI a3 0 then
        ((Dum59.P [.str a0, .str a1]).bind fun v_3 =>
          if (v_3).isInt .i64 then (if leI 0 (cond (ltI (addW .i64 (sizeI a0) 1) (addW .i64 ((v_3).toInt) 1)) (addW .i64 (sizeI a0) 1) (addW .i64 ((v_3).toInt) 1)) then (if eqI (cond (ltI (addW .i64 (sizeI a0) 1) (addW .i64 ((v_3).toInt) 1)) (addW .i64 (sizeI a0) 1) (addW .i64 ((v_3).toInt) 1)) (cond (ltI (addW .i64 (sizeI a0) 1) (addW .i64 ((v_3).toInt) 1)) (addW .i64 (sizeI a0) 1) (addW .i64 ((v_3).toInt) 1)) then (if roomN (cond (ltI (addW .i64 (sizeI a0) 1) (addW .i64 ((v_3).toInt) 1)) (addW .i64 (sizeI a0) 1) (addW .i64 ((v_3).toInt) 1)) 16 then PL a0 a1 a2 a3 fu (.l0 a0 (subW .i64 (cond (ltI (addW .i64 (sizeI a0) 1) (addW .i64 ((v_3).toInt) 1)) (addW .i64 (sizeI a0) 1) (addW .i64 ((v_3).toInt) 1)) 1) (List.replicate ((cond (ltI (addW .i64 (sizeI a0) 1) (addW .i64 ((v_3).toInt) 1)) (addW .i64 (sizeI a0) 1) (addW .i64 ((v_3).toInt) 1)).toNat) ([.str (⟨#[]⟩ : ByteArray)] : List AV)) 0) else none) else none) else none) else none)
        else
        (if leI 0 (cond (ltI (addW .i64 (sizeI a0) 1) a3) (addW .i64 (sizeI a0) 1) a3) then (if eqI (cond (ltI (addW .i64 (sizeI a0) 1) a3) (addW .i64 (sizeI a0) 1) a3) (cond (ltI (addW .i64 (sizeI a0) 1) a3) (addW .i64 (sizeI a0) 1) a3) then (if roomN (cond (ltI (addW .i64 (sizeI a0) 1) a3) (addW .i64 (sizeI a0) 1) a3) 16 then PL a0 a1 a2 a3 fu (.l0 a0 (subW .i64 (cond (ltI (addW .i64 (sizeI a0) 1) a3) (addW .i64 (sizeI a0) 1) a3) 1) (List.replicate ((cond (ltI (addW .i64 (sizeI a0) 1) a3) (addW .i64 (sizeI a0) 1) a3).toNat) ([.str (⟨#[]⟩ : ByteArray)] : List AV)) 0) else none) else none) else none)))
theorem PL_ok {a0 a1 : ByteArray} {a2 a3 : Int} {Q : Qt} {v : AV} (hQ : ∀ H, Q v H) : ∀ (fu : Nat) (s : LS) (H : Heap), PL a0 a1 a2 a3 fu s = some v → match s with | .l0 x0s x3n x9a x10i => L0 a0 a1 a2 a3 Q x0s x3n x9a x10i H := by
  intro fu
  induction fu with
  | zero => intro s H h; exact absurd h (by cases s <;> simp only [PL] <;> exact nofun)
  | succ fu ih =>
    intro s H
    cases s with
    | l0 x0s x3n x9a x10i =>
      show PL a0 a1 a2 a3 (fu + 1) (.l0 x0s x3n x9a x10i) = some v → L0 a0 a1 a2 a3 Q x0s x3n x9a x10i H
      rw [PL]
      refine fun h => L0_step (?_ : r0 a0 a1 a2 a3 Q x0s x3n x9a x10i H)
      revert h
      unfold r0
      repeat' first | exact lsV hQ | exact lsF | apply lsG | apply lsC | refine F60.ls fun _ _ => ?_ | exact fun h => ih _ _ h
theorem ok {a0 a1 : ByteArray} {a2 a3 : Int} {v : AV} (h : P a0 a1 a2 a3 = some v) {H : Heap} {Q : Qt} (hQ : ∀ H, Q v H) : C 44 [.str a0, .str a1, .int .i64 a2, .int .i64 a3] H Q := by
  refine call ?_
  unfold t
  unfold P at h
  obtain ⟨fu, h⟩ := lim_some h
  revert h
  repeat' first | exact lsV hQ | exact lsF | apply lsG | apply lsC | refine Dum59.ls fun _ _ => ?_ | refine F58.ls fun _ _ => ?_ | exact fun h => PL_ok hQ _ _ _ h
theorem ls {a0 a1 : ByteArray} {a2 a3 : Int} {v : AV} {H : Heap} {k : AV → Option AV} {K : Qt} (h : ∀ w H, k w = some v → K w H) : (P a0 a1 a2 a3).bind k = some v → C 44 [.str a0, .str a1, .int .i64 a2, .int .i64 a3] H K := fun e => bind_ls (Cq := fun K => C 44 [.str a0, .str a1, .int .i64 a2, .int .i64 a3] H K) (fun h => ok h) h e
end F44
/-! ### strings.Split: function 27 -/
namespace F27
noncomputable def P (a0 a1 : ByteArray) : Option AV :=
    (F44.P a0 a1 0 (-1)).bind fun v_1 =>
    if (v_1).isSl 1 then some (.sl 0 1 ((v_1).slXs)) else none
theorem ok {a0 a1 : ByteArray} {v : AV} (h : P a0 a1 = some v) {H : Heap} {Q : Qt} (hQ : ∀ H, Q v H) : C 27 [.str a0, .str a1] H Q := by
  refine call ?_
  unfold t
  unfold P at h
  revert h
  repeat' first | exact lsV hQ | exact lsF | apply lsG | apply lsC | refine F44.ls fun _ _ => ?_
theorem ls {a0 a1 : ByteArray} {v : AV} {H : Heap} {k : AV → Option AV} {K : Qt} (h : ∀ w H, k w = some v → K w H) : (P a0 a1).bind k = some v → C 27 [.str a0, .str a1] H K := fun e => bind_ls (Cq := fun K => C 27 [.str a0, .str a1] H K) (fun h => ok h) h e
end F27
/-! ### broker/brokerlaw28.exampleHolds: function 9 -/
namespace F9
inductive LS where
  | lR9 (x78 : Bool) (m2_0 m2_1 : ByteArray) (m2_2 : Int) (m2_3 : Bool) (m2_4 m2_5 : Int) (m2_6 : ByteArray) (m2_7 : Int) (m2_8 : List (List AV)) (m3_0 m3_1 : ByteArray) (m3_2 : Int) (m3_3 : Bool) (m3_4 m3_5 : Int) (m3_6 : ByteArray) (m3_7 : Int) (m3_8 : List (List AV))
  | l0 (x80 : List (List AV)) (x81 x82 : Int) (m2_0 m2_1 : ByteArray) (m2_2 : Int) (m2_3 : Bool) (m2_4 m2_5 : Int) (m2_6 : ByteArray) (m2_7 : Int) (m2_8 : List (List AV)) (m3_0 m3_1 : ByteArray) (m3_2 : Int) (m3_3 : Bool) (m3_4 m3_5 : Int) (m3_6 : ByteArray) (m3_7 : Int) (m3_8 m4_8 : List (List AV))
noncomputable def PL  : Nat → LS → Option AV
  | 0, _ => none
  | fu + 1, .lR9 x78 m2_0 m2_1 m2_2 m2_3 m2_4 m2_5 m2_6 m2_7 m2_8 m3_0 m3_1 m3_2 m3_3 m3_4 m3_5 m3_6 m3_7 m3_8 =>
    if x78 then
    (some (.bool false))
    else
    ((F27.P (⟨#[97, 98, 99, 100, 101, 102, 103, 104]⟩ : ByteArray) (⟨#[]⟩ : ByteArray)).bind fun v_19 =>
      if (v_19).isSl 1 then PL  fu (.l0 ((v_19).slXs) (lenI ((v_19).slXs)) 0 m2_0 m2_1 m2_2 m2_3 m2_4 m2_5 m2_6 m2_7 m2_8 m3_0 m3_1 m3_2 m3_3 m3_4 m3_5 m3_6 m3_7 m3_8 []) else none)
  | fu + 1, .l0 x80 x81 x82 m2_0 m2_1 m2_2 m2_3 m2_4 m2_5 m2_6 m2_7 m2_8 m3_0 m3_1 m3_2 m3_3 m3_4 m3_5 m3_6 m3_7 m3_8 m4_8 =>
    if ltI x82 x81 then
    (if leI 0 x82 then (if ltI x82 (lenI x80) then (if (ce (ro x80 x82.toNat) 0).isStr then (if room m4_8 [[.str ((ce (ro x80 x82.toNat) 0).toStr), .str (⟨#[]⟩ : ByteArray)]] 32 then PL  fu (.l0 x80 x81 (addW .i64 x82 1) m2_0 m2_1 m2_2 m2_3 m2_4 m2_5 m2_6 m2_7 m2_8 m3_0 m3_1 m3_2 m3_3 m3_4 m3_5 m3_6 m3_7 m3_8 (m4_8 ++ [[.str ((ce (ro x80 x82.toNat) 0).toStr), .str (⟨#[]⟩ : ByteArray)]])) else none) else none) else none) else none)
    else
    ((F19.P (⟨#[113]⟩ : ByteArray) (⟨#[116]⟩ : ByteArray) (⟨#[]⟩ : ByteArray) 0 false 0 0 (⟨#[]⟩ : ByteArray) 0 m4_8 3).bind fun v_21 =>
      if ((v_21).isAgg && Nat.beq (v_21).aggCs.length 9) then (if (((v_21).aggCs).headD .any).isStr then (if ((((v_21).aggCs).tail).headD .any).isStr then (if (((((v_21).aggCs).tail).tail).headD .any).isInt .i64 then (if ((((((v_21).aggCs).tail).tail).tail).headD .any).isBool then (if (((((((v_21).aggCs).tail).tail).tail).tail).headD .any).isInt .i64 then (if ((((((((v_21).aggCs).tail).tail).tail).tail).tail).headD .any).isInt .i64 then (if (((((((((v_21).aggCs).tail).tail).tail).tail).tail).tail).headD .any).isStr then (if ((((((((((v_21).aggCs).tail).tail).tail).tail).tail).tail).tail).headD .any).isInt .i64 then (if (((((((((((v_21).aggCs).tail).tail).tail).tail).tail).tail).tail).tail).headD .any).isSl 2 then ((F19.P (⟨#[113]⟩ : ByteArray) (⟨#[116]⟩ : ByteArray) (⟨#[]⟩ : ByteArray) 0 false 0 0 (⟨#[]⟩ : ByteArray) 0 [[.str (⟨#[100, 101, 97, 116, 104, 115]⟩ : ByteArray), .str (⟨#[48, 55]⟩ : ByteArray)]] 3).bind fun v_23 =>
        if ((v_23).isAgg && Nat.beq (v_23).aggCs.length 9) then (if (((v_23).aggCs).headD .any).isStr then (if ((((v_23).aggCs).tail).headD .any).isStr then (if (((((v_23).aggCs).tail).tail).headD .any).isInt .i64 then (if ((((((v_23).aggCs).tail).tail).tail).headD .any).isBool then (if (((((((v_23).aggCs).tail).tail).tail).tail).headD .any).isInt .i64 then (if ((((((((v_23).aggCs).tail).tail).tail).tail).tail).headD .any).isInt .i64 then (if (((((((((v_23).aggCs).tail).tail).tail).tail).tail).tail).headD .any).isStr then (if ((((((((((v_23).aggCs).tail).tail).tail).tail).tail).tail).tail).headD .any).isInt .i64 then (if (((((((((((v_23).aggCs).tail).tail).tail).tail).tail).tail).tail).tail).headD .any).isSl 2 then (if eqI (lenI ((((((((((((v_21).aggCs).tail).tail).tail).tail).tail).tail).tail).tail).headD .any).slXs)) 8 then
          (if ltI 3 (lenI ((((((((((((v_21).aggCs).tail).tail).tail).tail).tail).tail).tail).tail).headD .any).slXs)) then (if (ce (ro ((((((((((((v_21).aggCs).tail).tail).tail).tail).tail).tail).tail).tail).headD .any).slXs) 3) 0).isStr then (if eqS ((ce (ro ((((((((((((v_21).aggCs).tail).tail).tail).tail).tail).tail).tail).tail).headD .any).slXs) 3) 0).toStr) (⟨#[100]⟩ : ByteArray) then
            (if ltI 4 (lenI ((((((((((((v_21).aggCs).tail).tail).tail).tail).tail).tail).tail).tail).headD .any).slXs)) then (if (ce (ro ((((((((((((v_21).aggCs).tail).tail).tail).tail).tail).tail).tail).tail).headD .any).slXs) 4) 0).isStr then (if eqS ((ce (ro ((((((((((((v_21).aggCs).tail).tail).tail).tail).tail).tail).tail).tail).headD .any).slXs) 4) 0).toStr) (⟨#[100, 101, 97, 116, 104, 115]⟩ : ByteArray) then
              (if ltI 7 (lenI ((((((((((((v_21).aggCs).tail).tail).tail).tail).tail).tail).tail).tail).headD .any).slXs)) then (if (ce (ro ((((((((((((v_21).aggCs).tail).tail).tail).tail).tail).tail).tail).tail).headD .any).slXs) 7) 0).isStr then (if eqS ((ce (ro ((((((((((((v_21).aggCs).tail).tail).tail).tail).tail).tail).tail).tail).headD .any).slXs) 7) 0).toStr) (⟨#[102]⟩ : ByteArray) then
                ((F14.P ((((v_23).aggCs).headD .any).toStr) (((((v_23).aggCs).tail).headD .any).toStr) ((((((v_23).aggCs).tail).tail).headD .any).toInt) (((((((v_23).aggCs).tail).tail).tail).headD .any).toBool) ((((((((v_23).aggCs).tail).tail).tail).tail).headD .any).toInt) (((((((((v_23).aggCs).tail).tail).tail).tail).tail).headD .any).toInt) ((((((((((v_23).aggCs).tail).tail).tail).tail).tail).tail).headD .any).toStr) (((((((((((v_23).aggCs).tail).tail).tail).tail).tail).tail).tail).headD .any).toInt) ((((((((((((v_23).aggCs).tail).tail).tail).tail).tail).tail).tail).tail).headD .any).slXs)).bind fun v_25 =>
                  if (v_25).isInt .i64 then (if eqI ((v_25).toInt) 1 then
                    ((F16.P m3_0 m3_1 m3_2 m3_3 m3_4 m3_5 m3_6 m3_7 m3_8).bind fun v_27 =>
                      if (v_27).isBool then some (.bool ((v_27).toBool)) else none)
                    else
                    (some (.bool false))) else none)
                else
                (some (.bool false))) else none) else none)
              else
              (some (.bool false))) else none) else none)
            else
            (some (.bool false))) else none) else none)
          else
          (some (.bool false))) else none) else none) else none) else none) else none) else none) else none) else none) else none) else none) else none) else none) else none) else none) else none) else none) else none) else none) else none) else none)
noncomputable def P  : Option AV := lim fun fu =>
    (F10.P (⟨#[113]⟩ : ByteArray) 1 10 2 (⟨#[]⟩ : ByteArray) 1 5 1 (⟨#[116]⟩ : ByteArray) (⟨#[]⟩ : ByteArray) 0 false 0 0 (⟨#[]⟩ : ByteArray) 0 [] 14).bind fun v_1 =>
    if (v_1).isInt .i64 then ((F10.P (⟨#[113]⟩ : ByteArray) 1 10 2 (⟨#[]⟩ : ByteArray) 1 5 1 (⟨#[116]⟩ : ByteArray) (⟨#[]⟩ : ByteArray) 0 false 0 0 (⟨#[]⟩ : ByteArray) 0 [] 15).bind fun v_3 =>
      if (v_3).isInt .i64 then ((F19.P (⟨#[113]⟩ : ByteArray) (⟨#[116]⟩ : ByteArray) (⟨#[]⟩ : ByteArray) 0 false 0 0 (⟨#[]⟩ : ByteArray) 0 [] 1).bind fun v_5 =>
        if ((v_5).isAgg && Nat.beq (v_5).aggCs.length 9) then (if (((v_5).aggCs).headD .any).isStr then (if ((((v_5).aggCs).tail).headD .any).isStr then (if (((((v_5).aggCs).tail).tail).headD .any).isInt .i64 then (if ((((((v_5).aggCs).tail).tail).tail).headD .any).isBool then (if (((((((v_5).aggCs).tail).tail).tail).tail).headD .any).isInt .i64 then (if ((((((((v_5).aggCs).tail).tail).tail).tail).tail).headD .any).isInt .i64 then (if (((((((((v_5).aggCs).tail).tail).tail).tail).tail).tail).headD .any).isStr then (if ((((((((((v_5).aggCs).tail).tail).tail).tail).tail).tail).tail).headD .any).isInt .i64 then (if (((((((((((v_5).aggCs).tail).tail).tail).tail).tail).tail).tail).tail).headD .any).isSl 2 then ((F19.P (⟨#[112]⟩ : ByteArray) ((((v_5).aggCs).headD .any).toStr) (((((v_5).aggCs).tail).headD .any).toStr) ((((((v_5).aggCs).tail).tail).headD .any).toInt) (((((((v_5).aggCs).tail).tail).tail).headD .any).toBool) ((((((((v_5).aggCs).tail).tail).tail).tail).headD .any).toInt) (((((((((v_5).aggCs).tail).tail).tail).tail).tail).headD .any).toInt) ((((((((((v_5).aggCs).tail).tail).tail).tail).tail).tail).headD .any).toStr) (((((((((((v_5).aggCs).tail).tail).tail).tail).tail).tail).tail).headD .any).toInt) ((((((((((((v_5).aggCs).tail).tail).tail).tail).tail).tail).tail).tail).headD .any).slXs) 2).bind fun v_7 =>
          if ((v_7).isAgg && Nat.beq (v_7).aggCs.length 9) then (if (((v_7).aggCs).headD .any).isStr then (if ((((v_7).aggCs).tail).headD .any).isStr then (if (((((v_7).aggCs).tail).tail).headD .any).isInt .i64 then (if ((((((v_7).aggCs).tail).tail).tail).headD .any).isBool then (if (((((((v_7).aggCs).tail).tail).tail).tail).headD .any).isInt .i64 then (if ((((((((v_7).aggCs).tail).tail).tail).tail).tail).headD .any).isInt .i64 then (if (((((((((v_7).aggCs).tail).tail).tail).tail).tail).tail).headD .any).isStr then (if ((((((((((v_7).aggCs).tail).tail).tail).tail).tail).tail).tail).headD .any).isInt .i64 then (if (((((((((((v_7).aggCs).tail).tail).tail).tail).tail).tail).tail).tail).headD .any).isSl 2 then ((F12.P ((((v_5).aggCs).headD .any).toStr) (((((v_5).aggCs).tail).headD .any).toStr) ((((((v_5).aggCs).tail).tail).headD .any).toInt) (((((((v_5).aggCs).tail).tail).tail).headD .any).toBool) ((((((((v_5).aggCs).tail).tail).tail).tail).headD .any).toInt) (((((((((v_5).aggCs).tail).tail).tail).tail).tail).headD .any).toInt) ((((((((((v_5).aggCs).tail).tail).tail).tail).tail).tail).headD .any).toStr) (((((((((((v_5).aggCs).tail).tail).tail).tail).tail).tail).tail).headD .any).toInt) ((((((((((((v_5).aggCs).tail).tail).tail).tail).tail).tail).tail).tail).headD .any).slXs)).bind fun v_9 =>
            if ((v_9).isTup && Nat.beq (v_9).tupVs.length 2) then (if (((v_9).tupVs).headD .any).isStr then (if ((((v_9).tupVs).tail).headD .any).isInt .i64 then ((F12.P ((((v_7).aggCs).headD .any).toStr) (((((v_7).aggCs).tail).headD .any).toStr) ((((((v_7).aggCs).tail).tail).headD .any).toInt) (((((((v_7).aggCs).tail).tail).tail).headD .any).toBool) ((((((((v_7).aggCs).tail).tail).tail).tail).headD .any).toInt) (((((((((v_7).aggCs).tail).tail).tail).tail).tail).headD .any).toInt) ((((((((((v_7).aggCs).tail).tail).tail).tail).tail).tail).headD .any).toStr) (((((((((((v_7).aggCs).tail).tail).tail).tail).tail).tail).tail).headD .any).toInt) ((((((((((((v_7).aggCs).tail).tail).tail).tail).tail).tail).tail).tail).headD .any).slXs)).bind fun v_11 =>
              if ((v_11).isTup && Nat.beq (v_11).tupVs.length 2) then (if (((v_11).tupVs).headD .any).isStr then (if ((((v_11).tupVs).tail).headD .any).isInt .i64 then (if !(eqI ((v_1).toInt) 0) then
                (PL  fu (.lR9 true ((((v_5).aggCs).headD .any).toStr) (((((v_5).aggCs).tail).headD .any).toStr) ((((((v_5).aggCs).tail).tail).headD .any).toInt) (((((((v_5).aggCs).tail).tail).tail).headD .any).toBool) ((((((((v_5).aggCs).tail).tail).tail).tail).headD .any).toInt) (((((((((v_5).aggCs).tail).tail).tail).tail).tail).headD .any).toInt) ((((((((((v_5).aggCs).tail).tail).tail).tail).tail).tail).headD .any).toStr) (((((((((((v_5).aggCs).tail).tail).tail).tail).tail).tail).tail).headD .any).toInt) ((((((((((((v_5).aggCs).tail).tail).tail).tail).tail).tail).tail).tail).headD .any).slXs) ((((v_7).aggCs).headD .any).toStr) (((((v_7).aggCs).tail).headD .any).toStr) ((((((v_7).aggCs).tail).tail).headD .any).toInt) (((((((v_7).aggCs).tail).tail).tail).headD .any).toBool) ((((((((v_7).aggCs).tail).tail).tail).tail).headD .any).toInt) (((((((((v_7).aggCs).tail).tail).tail).tail).tail).headD .any).toInt) ((((((((((v_7).aggCs).tail).tail).tail).tail).tail).tail).headD .any).toStr) (((((((((((v_7).aggCs).tail).tail).tail).tail).tail).tail).tail).headD .any).toInt) ((((((((((((v_7).aggCs).tail).tail).tail).tail).tail).tail).tail).tail).headD .any).slXs)))
                else
                (if !(eqI ((v_3).toInt) 2) then
                  (PL  fu (.lR9 true ((((v_5).aggCs).headD .any).toStr) (((((v_5).aggCs).tail).headD .any).toStr) ((((((v_5).aggCs).tail).tail).headD .any).toInt) (((((((v_5).aggCs).tail).tail).tail).headD .any).toBool) ((((((((v_5).aggCs).tail).tail).tail).tail).headD .any).toInt) (((((((((v_5).aggCs).tail).tail).tail).tail).tail).headD .any).toInt) ((((((((((v_5).aggCs).tail).tail).tail).tail).tail).tail).headD .any).toStr) (((((((((((v_5).aggCs).tail).tail).tail).tail).tail).tail).tail).headD .any).toInt) ((((((((((((v_5).aggCs).tail).tail).tail).tail).tail).tail).tail).tail).headD .any).slXs) ((((v_7).aggCs).headD .any).toStr) (((((v_7).aggCs).tail).headD .any).toStr) ((((((v_7).aggCs).tail).tail).headD .any).toInt) (((((((v_7).aggCs).tail).tail).tail).headD .any).toBool) ((((((((v_7).aggCs).tail).tail).tail).tail).headD .any).toInt) (((((((((v_7).aggCs).tail).tail).tail).tail).tail).headD .any).toInt) ((((((((((v_7).aggCs).tail).tail).tail).tail).tail).tail).headD .any).toStr) (((((((((((v_7).aggCs).tail).tail).tail).tail).tail).tail).tail).headD .any).toInt) ((((((((((((v_7).aggCs).tail).tail).tail).tail).tail).tail).tail).tail).headD .any).slXs)))
                  else
                  ((F10.P (⟨#[113]⟩ : ByteArray) 1 10 2 (⟨#[]⟩ : ByteArray) 1 5 2 (⟨#[116]⟩ : ByteArray) (⟨#[]⟩ : ByteArray) 0 false 0 0 (⟨#[]⟩ : ByteArray) 0 [] 5).bind fun v_13 =>
                    if (v_13).isInt .i64 then (if !(eqI ((v_13).toInt) 4) then
                      (PL  fu (.lR9 true ((((v_5).aggCs).headD .any).toStr) (((((v_5).aggCs).tail).headD .any).toStr) ((((((v_5).aggCs).tail).tail).headD .any).toInt) (((((((v_5).aggCs).tail).tail).tail).headD .any).toBool) ((((((((v_5).aggCs).tail).tail).tail).tail).headD .any).toInt) (((((((((v_5).aggCs).tail).tail).tail).tail).tail).headD .any).toInt) ((((((((((v_5).aggCs).tail).tail).tail).tail).tail).tail).headD .any).toStr) (((((((((((v_5).aggCs).tail).tail).tail).tail).tail).tail).tail).headD .any).toInt) ((((((((((((v_5).aggCs).tail).tail).tail).tail).tail).tail).tail).tail).headD .any).slXs) ((((v_7).aggCs).headD .any).toStr) (((((v_7).aggCs).tail).headD .any).toStr) ((((((v_7).aggCs).tail).tail).headD .any).toInt) (((((((v_7).aggCs).tail).tail).tail).headD .any).toBool) ((((((((v_7).aggCs).tail).tail).tail).tail).headD .any).toInt) (((((((((v_7).aggCs).tail).tail).tail).tail).tail).headD .any).toInt) ((((((((((v_7).aggCs).tail).tail).tail).tail).tail).tail).headD .any).toStr) (((((((((((v_7).aggCs).tail).tail).tail).tail).tail).tail).tail).headD .any).toInt) ((((((((((((v_7).aggCs).tail).tail).tail).tail).tail).tail).tail).tail).headD .any).slXs)))
                      else
                      ((F14.P ((((v_5).aggCs).headD .any).toStr) (((((v_5).aggCs).tail).headD .any).toStr) ((((((v_5).aggCs).tail).tail).headD .any).toInt) (((((((v_5).aggCs).tail).tail).tail).headD .any).toBool) ((((((((v_5).aggCs).tail).tail).tail).tail).headD .any).toInt) (((((((((v_5).aggCs).tail).tail).tail).tail).tail).headD .any).toInt) ((((((((((v_5).aggCs).tail).tail).tail).tail).tail).tail).headD .any).toStr) (((((((((((v_5).aggCs).tail).tail).tail).tail).tail).tail).tail).headD .any).toInt) ((((((((((((v_5).aggCs).tail).tail).tail).tail).tail).tail).tail).tail).headD .any).slXs)).bind fun v_15 =>
                        if (v_15).isInt .i64 then (if !(eqI ((v_15).toInt) 1) then
                          (PL  fu (.lR9 true ((((v_5).aggCs).headD .any).toStr) (((((v_5).aggCs).tail).headD .any).toStr) ((((((v_5).aggCs).tail).tail).headD .any).toInt) (((((((v_5).aggCs).tail).tail).tail).headD .any).toBool) ((((((((v_5).aggCs).tail).tail).tail).tail).headD .any).toInt) (((((((((v_5).aggCs).tail).tail).tail).tail).tail).headD .any).toInt) ((((((((((v_5).aggCs).tail).tail).tail).tail).tail).tail).headD .any).toStr) (((((((((((v_5).aggCs).tail).tail).tail).tail).tail).tail).tail).headD .any).toInt) ((((((((((((v_5).aggCs).tail).tail).tail).tail).tail).tail).tail).tail).headD .any).slXs) ((((v_7).aggCs).headD .any).toStr) (((((v_7).aggCs).tail).headD .any).toStr) ((((((v_7).aggCs).tail).tail).headD .any).toInt) (((((((v_7).aggCs).tail).tail).tail).headD .any).toBool) ((((((((v_7).aggCs).tail).tail).tail).tail).headD .any).toInt) (((((((((v_7).aggCs).tail).tail).tail).tail).tail).headD .any).toInt) ((((((((((v_7).aggCs).tail).tail).tail).tail).tail).tail).headD .any).toStr) (((((((((((v_7).aggCs).tail).tail).tail).tail).tail).tail).tail).headD .any).toInt) ((((((((((((v_7).aggCs).tail).tail).tail).tail).tail).tail).tail).tail).headD .any).slXs)))
                          else
                          ((F14.P ((((v_7).aggCs).headD .any).toStr) (((((v_7).aggCs).tail).headD .any).toStr) ((((((v_7).aggCs).tail).tail).headD .any).toInt) (((((((v_7).aggCs).tail).tail).tail).headD .any).toBool) ((((((((v_7).aggCs).tail).tail).tail).tail).headD .any).toInt) (((((((((v_7).aggCs).tail).tail).tail).tail).tail).headD .any).toInt) ((((((((((v_7).aggCs).tail).tail).tail).tail).tail).tail).headD .any).toStr) (((((((((((v_7).aggCs).tail).tail).tail).tail).tail).tail).tail).headD .any).toInt) ((((((((((((v_7).aggCs).tail).tail).tail).tail).tail).tail).tail).tail).headD .any).slXs)).bind fun v_17 =>
                            if (v_17).isInt .i64 then (if !(eqI ((v_17).toInt) 2) then
                              (PL  fu (.lR9 true ((((v_5).aggCs).headD .any).toStr) (((((v_5).aggCs).tail).headD .any).toStr) ((((((v_5).aggCs).tail).tail).headD .any).toInt) (((((((v_5).aggCs).tail).tail).tail).headD .any).toBool) ((((((((v_5).aggCs).tail).tail).tail).tail).headD .any).toInt) (((((((((v_5).aggCs).tail).tail).tail).tail).tail).headD .any).toInt) ((((((((((v_5).aggCs).tail).tail).tail).tail).tail).tail).headD .any).toStr) (((((((((((v_5).aggCs).tail).tail).tail).tail).tail).tail).tail).headD .any).toInt) ((((((((((((v_5).aggCs).tail).tail).tail).tail).tail).tail).tail).tail).headD .any).slXs) ((((v_7).aggCs).headD .any).toStr) (((((v_7).aggCs).tail).headD .any).toStr) ((((((v_7).aggCs).tail).tail).headD .any).toInt) (((((((v_7).aggCs).tail).tail).tail).headD .any).toBool) ((((((((v_7).aggCs).tail).tail).tail).tail).headD .any).toInt) (((((((((v_7).aggCs).tail).tail).tail).tail).tail).headD .any).toInt) ((((((((((v_7).aggCs).tail).tail).tail).tail).tail).tail).headD .any).toStr) (((((((((((v_7).aggCs).tail).tail).tail).tail).tail).tail).tail).headD .any).toInt) ((((((((((((v_7).aggCs).tail).tail).tail).tail).tail).tail).tail).tail).headD .any).slXs)))
                              else
                              (if !(eqS ((((v_9).tupVs).headD .any).toStr) (⟨#[113]⟩ : ByteArray)) then
                                (PL  fu (.lR9 true ((((v_5).aggCs).headD .any).toStr) (((((v_5).aggCs).tail).headD .any).toStr) ((((((v_5).aggCs).tail).tail).headD .any).toInt) (((((((v_5).aggCs).tail).tail).tail).headD .any).toBool) ((((((((v_5).aggCs).tail).tail).tail).tail).headD .any).toInt) (((((((((v_5).aggCs).tail).tail).tail).tail).tail).headD .any).toInt) ((((((((((v_5).aggCs).tail).tail).tail).tail).tail).tail).headD .any).toStr) (((((((((((v_5).aggCs).tail).tail).tail).tail).tail).tail).tail).headD .any).toInt) ((((((((((((v_5).aggCs).tail).tail).tail).tail).tail).tail).tail).tail).headD .any).slXs) ((((v_7).aggCs).headD .any).toStr) (((((v_7).aggCs).tail).headD .any).toStr) ((((((v_7).aggCs).tail).tail).headD .any).toInt) (((((((v_7).aggCs).tail).tail).tail).headD .any).toBool) ((((((((v_7).aggCs).tail).tail).tail).tail).headD .any).toInt) (((((((((v_7).aggCs).tail).tail).tail).tail).tail).headD .any).toInt) ((((((((((v_7).aggCs).tail).tail).tail).tail).tail).tail).headD .any).toStr) (((((((((((v_7).aggCs).tail).tail).tail).tail).tail).tail).tail).headD .any).toInt) ((((((((((((v_7).aggCs).tail).tail).tail).tail).tail).tail).tail).tail).headD .any).slXs)))
                                else
                                (if !(eqI (((((v_9).tupVs).tail).headD .any).toInt) 1) then
                                  (PL  fu (.lR9 true ((((v_5).aggCs).headD .any).toStr) (((((v_5).aggCs).tail).headD .any).toStr) ((((((v_5).aggCs).tail).tail).headD .any).toInt) (((((((v_5).aggCs).tail).tail).tail).headD .any).toBool) ((((((((v_5).aggCs).tail).tail).tail).tail).headD .any).toInt) (((((((((v_5).aggCs).tail).tail).tail).tail).tail).headD .any).toInt) ((((((((((v_5).aggCs).tail).tail).tail).tail).tail).tail).headD .any).toStr) (((((((((((v_5).aggCs).tail).tail).tail).tail).tail).tail).tail).headD .any).toInt) ((((((((((((v_5).aggCs).tail).tail).tail).tail).tail).tail).tail).tail).headD .any).slXs) ((((v_7).aggCs).headD .any).toStr) (((((v_7).aggCs).tail).headD .any).toStr) ((((((v_7).aggCs).tail).tail).headD .any).toInt) (((((((v_7).aggCs).tail).tail).tail).headD .any).toBool) ((((((((v_7).aggCs).tail).tail).tail).tail).headD .any).toInt) (((((((((v_7).aggCs).tail).tail).tail).tail).tail).headD .any).toInt) ((((((((((v_7).aggCs).tail).tail).tail).tail).tail).tail).headD .any).toStr) (((((((((((v_7).aggCs).tail).tail).tail).tail).tail).tail).tail).headD .any).toInt) ((((((((((((v_7).aggCs).tail).tail).tail).tail).tail).tail).tail).tail).headD .any).slXs)))
                                  else
                                  (if !(eqS ((((v_11).tupVs).headD .any).toStr) (⟨#[112]⟩ : ByteArray)) then
                                    (PL  fu (.lR9 true ((((v_5).aggCs).headD .any).toStr) (((((v_5).aggCs).tail).headD .any).toStr) ((((((v_5).aggCs).tail).tail).headD .any).toInt) (((((((v_5).aggCs).tail).tail).tail).headD .any).toBool) ((((((((v_5).aggCs).tail).tail).tail).tail).headD .any).toInt) (((((((((v_5).aggCs).tail).tail).tail).tail).tail).headD .any).toInt) ((((((((((v_5).aggCs).tail).tail).tail).tail).tail).tail).headD .any).toStr) (((((((((((v_5).aggCs).tail).tail).tail).tail).tail).tail).tail).headD .any).toInt) ((((((((((((v_5).aggCs).tail).tail).tail).tail).tail).tail).tail).tail).headD .any).slXs) ((((v_7).aggCs).headD .any).toStr) (((((v_7).aggCs).tail).headD .any).toStr) ((((((v_7).aggCs).tail).tail).headD .any).toInt) (((((((v_7).aggCs).tail).tail).tail).headD .any).toBool) ((((((((v_7).aggCs).tail).tail).tail).tail).headD .any).toInt) (((((((((v_7).aggCs).tail).tail).tail).tail).tail).headD .any).toInt) ((((((((((v_7).aggCs).tail).tail).tail).tail).tail).tail).headD .any).toStr) (((((((((((v_7).aggCs).tail).tail).tail).tail).tail).tail).tail).headD .any).toInt) ((((((((((((v_7).aggCs).tail).tail).tail).tail).tail).tail).tail).tail).headD .any).slXs)))
                                    else
                                    (PL  fu (.lR9 (!(eqI (((((v_11).tupVs).tail).headD .any).toInt) 2)) ((((v_5).aggCs).headD .any).toStr) (((((v_5).aggCs).tail).headD .any).toStr) ((((((v_5).aggCs).tail).tail).headD .any).toInt) (((((((v_5).aggCs).tail).tail).tail).headD .any).toBool) ((((((((v_5).aggCs).tail).tail).tail).tail).headD .any).toInt) (((((((((v_5).aggCs).tail).tail).tail).tail).tail).headD .any).toInt) ((((((((((v_5).aggCs).tail).tail).tail).tail).tail).tail).headD .any).toStr) (((((((((((v_5).aggCs).tail).tail).tail).tail).tail).tail).tail).headD .any).toInt) ((((((((((((v_5).aggCs).tail).tail).tail).tail).tail).tail).tail).tail).headD .any).slXs) ((((v_7).aggCs).headD .any).toStr) (((((v_7).aggCs).tail).headD .any).toStr) ((((((v_7).aggCs).tail).tail).headD .any).toInt) (((((((v_7).aggCs).tail).tail).tail).headD .any).toBool) ((((((((v_7).aggCs).tail).tail).tail).tail).headD .any).toInt) (((((((((v_7).aggCs).tail).tail).tail).tail).tail).headD .any).toInt) ((((((((((v_7).aggCs).tail).tail).tail).tail).tail).tail).headD .any).toStr) (((((((((((v_7).aggCs).tail).tail).tail).tail).tail).tail).tail).headD .any).toInt) ((((((((((((v_7).aggCs).tail).tail).tail).tail).tail).tail).tail).tail).headD .any).slXs))))))) else none)) else none)) else none))) else none) else none) else none) else none) else none) else none) else none) else none) else none) else none) else none) else none) else none) else none) else none) else none) else none) else none) else none) else none) else none) else none) else none) else none) else none) else none) else none) else none
theorem PL_ok  {Q : Qt} {v : AV} (hQ : ∀ H, Q v H) : ∀ (fu : Nat) (s : LS) (H : Heap), PL  fu s = some v → match s with | .lR9 x78 m2_0 m2_1 m2_2 m2_3 m2_4 m2_5 m2_6 m2_7 m2_8 m3_0 m3_1 m3_2 m3_3 m3_4 m3_5 m3_6 m3_7 m3_8 => JR9 Q x78 m2_0 m2_1 m2_2 m2_3 m2_4 m2_5 m2_6 m2_7 m2_8 m3_0 m3_1 m3_2 m3_3 m3_4 m3_5 m3_6 m3_7 m3_8 H | .l0 x80 x81 x82 m2_0 m2_1 m2_2 m2_3 m2_4 m2_5 m2_6 m2_7 m2_8 m3_0 m3_1 m3_2 m3_3 m3_4 m3_5 m3_6 m3_7 m3_8 m4_8 => L0 Q x80 x81 x82 m2_0 m2_1 m2_2 m2_3 m2_4 m2_5 m2_6 m2_7 m2_8 m3_0 m3_1 m3_2 m3_3 m3_4 m3_5 m3_6 m3_7 m3_8 m4_8 H := by
  intro fu
  induction fu with
  | zero => intro s H h; exact absurd h (by cases s <;> simp only [PL] <;> exact nofun)
  | succ fu ih =>
    intro s H
    cases s with
    | lR9 x78 m2_0 m2_1 m2_2 m2_3 m2_4 m2_5 m2_6 m2_7 m2_8 m3_0 m3_1 m3_2 m3_3 m3_4 m3_5 m3_6 m3_7 m3_8 =>
      show PL  (fu + 1) (.lR9 x78 m2_0 m2_1 m2_2 m2_3 m2_4 m2_5 m2_6 m2_7 m2_8 m3_0 m3_1 m3_2 m3_3 m3_4 m3_5 m3_6 m3_7 m3_8) = some v → JR9 Q x78 m2_0 m2_1 m2_2 m2_3 m2_4 m2_5 m2_6 m2_7 m2_8 m3_0 m3_1 m3_2 m3_3 m3_4 m3_5 m3_6 m3_7 m3_8 H
      rw [PL]
      refine fun h => JR9_step (?_ : jR9 Q x78 m2_0 m2_1 m2_2 m2_3 m2_4 m2_5 m2_6 m2_7 m2_8 m3_0 m3_1 m3_2 m3_3 m3_4 m3_5 m3_6 m3_7 m3_8 H)
      revert h
      unfold jR9
      repeat' first | exact lsV hQ | exact lsF | apply lsG | apply lsC | refine F27.ls fun _ _ => ?_ | exact fun h => ih _ _ h
    | l0 x80 x81 x82 m2_0 m2_1 m2_2 m2_3 m2_4 m2_5 m2_6 m2_7 m2_8 m3_0 m3_1 m3_2 m3_3 m3_4 m3_5 m3_6 m3_7 m3_8 m4_8 =>
      show PL  (fu + 1) (.l0 x80 x81 x82 m2_0 m2_1 m2_2 m2_3 m2_4 m2_5 m2_6 m2_7 m2_8 m3_0 m3_1 m3_2 m3_3 m3_4 m3_5 m3_6 m3_7 m3_8 m4_8) = some v → L0 Q x80 x81 x82 m2_0 m2_1 m2_2 m2_3 m2_4 m2_5 m2_6 m2_7 m2_8 m3_0 m3_1 m3_2 m3_3 m3_4 m3_5 m3_6 m3_7 m3_8 m4_8 H
      rw [PL]
      refine fun h => L0_step (?_ : r0 Q x80 x81 x82 m2_0 m2_1 m2_2 m2_3 m2_4 m2_5 m2_6 m2_7 m2_8 m3_0 m3_1 m3_2 m3_3 m3_4 m3_5 m3_6 m3_7 m3_8 m4_8 H)
      revert h
      unfold r0
      repeat' first | exact lsV hQ | exact lsF | apply lsG | apply lsC | refine F14.ls fun _ _ => ?_ | refine F16.ls fun _ _ => ?_ | refine F19.ls fun _ _ => ?_ | exact fun h => ih _ _ h
theorem ok  {v : AV} (h : P  = some v) {H : Heap} {Q : Qt} (hQ : ∀ H, Q v H) : C 9 [] H Q := by
  refine call ?_
  unfold t
  unfold P at h
  obtain ⟨fu, h⟩ := lim_some h
  revert h
  repeat' first | exact lsV hQ | exact lsF | apply lsG | apply lsC | refine F10.ls fun _ _ => ?_ | refine F12.ls fun _ _ => ?_ | refine F14.ls fun _ _ => ?_ | refine F19.ls fun _ _ => ?_ | exact fun h => PL_ok hQ _ _ _ h
theorem ls  {v : AV} {H : Heap} {k : AV → Option AV} {K : Qt} (h : ∀ w H, k w = some v → K w H) : (P ).bind k = some v → C 9 [] H K := fun e => bind_ls (Cq := fun K => C 9 [] H K) (fun h => ok h) h e
end F9
/-! ### broker/brokerref05.Expired: function 45 -/
namespace F45
noncomputable def P (a0_0 a0_1 : ByteArray) (a0_2 : Int) (a0_3 : Bool) (a0_4 a0_5 : Int) (a0_6 : ByteArray) (a0_7 : Int) (a0_8 : List (List AV)) (a1 : Int) : Option AV :=
    if !(eqI a0_5 0) then
    (some (.bool (leI a0_5 a1)))
    else
    (some (.bool false))
theorem ok {a0_0 a0_1 : ByteArray} {a0_2 : Int} {a0_3 : Bool} {a0_4 a0_5 : Int} {a0_6 : ByteArray} {a0_7 : Int} {a0_8 : List (List AV)} {a1 : Int} {v : AV} (h : P a0_0 a0_1 a0_2 a0_3 a0_4 a0_5 a0_6 a0_7 a0_8 a1 = some v) {H : Heap} {Q : Qt} (hQ : ∀ H, Q v H) : C 45 [.agg [.str a0_0, .str a0_1, .int .i64 a0_2, .bool a0_3, .int .i64 a0_4, .int .i64 a0_5, .str a0_6, .int .i64 a0_7, .sl 0 2 a0_8], .int .i64 a1] H Q := by
  refine call ?_
  unfold t
  unfold P at h
  revert h
  repeat' first | exact lsV hQ | exact lsF | apply lsG | apply lsC
theorem ls {a0_0 a0_1 : ByteArray} {a0_2 : Int} {a0_3 : Bool} {a0_4 a0_5 : Int} {a0_6 : ByteArray} {a0_7 : Int} {a0_8 : List (List AV)} {a1 : Int} {v : AV} {H : Heap} {k : AV → Option AV} {K : Qt} (h : ∀ w H, k w = some v → K w H) : (P a0_0 a0_1 a0_2 a0_3 a0_4 a0_5 a0_6 a0_7 a0_8 a1).bind k = some v → C 45 [.agg [.str a0_0, .str a0_1, .int .i64 a0_2, .bool a0_3, .int .i64 a0_4, .int .i64 a0_5, .str a0_6, .int .i64 a0_7, .sl 0 2 a0_8], .int .i64 a1] H K := fun e => bind_ls (Cq := fun K => C 45 [.agg [.str a0_0, .str a0_1, .int .i64 a0_2, .bool a0_3, .int .i64 a0_4, .int .i64 a0_5, .str a0_6, .int .i64 a0_7, .sl 0 2 a0_8], .int .i64 a1] H K) (fun h => ok h) h e
end F45
/-! ### broker/brokerref25.Expired: function 29 -/
namespace F29
noncomputable def P (a0_0 : ByteArray) (a0_1 a0_2 a0_3 : Int) (a0_4 : ByteArray) (a1_0 a1_1 a1_2 : Int) (a1_3 a1_4 : ByteArray) (a1_5 : Int) (a1_6 : Bool) (a1_7 a1_8 : Int) (a1_9 : ByteArray) (a1_10 : Int) (a1_11 : List (List AV)) (a2 : Int) : Option AV :=
    if !(eqI a0_2 0) then
    (if leI (addW .i64 a1_1 a0_2) a2 then
      (some (.bool true))
      else
      ((F45.P a1_3 a1_4 a1_5 a1_6 a1_7 a1_8 a1_9 a1_10 a1_11 a2).bind fun v_1 =>
        if (v_1).isBool then some (.bool ((v_1).toBool)) else none))
    else
    ((F45.P a1_3 a1_4 a1_5 a1_6 a1_7 a1_8 a1_9 a1_10 a1_11 a2).bind fun v_3 =>
      if (v_3).isBool then some (.bool ((v_3).toBool)) else none)
theorem ok {a0_0 : ByteArray} {a0_1 a0_2 a0_3 : Int} {a0_4 : ByteArray} {a1_0 a1_1 a1_2 : Int} {a1_3 a1_4 : ByteArray} {a1_5 : Int} {a1_6 : Bool} {a1_7 a1_8 : Int} {a1_9 : ByteArray} {a1_10 : Int} {a1_11 : List (List AV)} {a2 : Int} {v : AV} (h : P a0_0 a0_1 a0_2 a0_3 a0_4 a1_0 a1_1 a1_2 a1_3 a1_4 a1_5 a1_6 a1_7 a1_8 a1_9 a1_10 a1_11 a2 = some v) {H : Heap} {Q : Qt} (hQ : ∀ H, Q v H) : C 29 [.agg [.str a0_0, .int .i64 a0_1, .int .i64 a0_2, .int .i64 a0_3, .str a0_4], .agg [.int .i64 a1_0, .int .i64 a1_1, .int .i64 a1_2, .str a1_3, .str a1_4, .int .i64 a1_5, .bool a1_6, .int .i64 a1_7, .int .i64 a1_8, .str a1_9, .int .i64 a1_10, .sl 0 2 a1_11], .int .i64 a2] H Q := by
  refine call ?_
  unfold t
  unfold P at h
  revert h
  repeat' first | exact lsV hQ | exact lsF | apply lsG | apply lsC | refine F45.ls fun _ _ => ?_
theorem ls {a0_0 : ByteArray} {a0_1 a0_2 a0_3 : Int} {a0_4 : ByteArray} {a1_0 a1_1 a1_2 : Int} {a1_3 a1_4 : ByteArray} {a1_5 : Int} {a1_6 : Bool} {a1_7 a1_8 : Int} {a1_9 : ByteArray} {a1_10 : Int} {a1_11 : List (List AV)} {a2 : Int} {v : AV} {H : Heap} {k : AV → Option AV} {K : Qt} (h : ∀ w H, k w = some v → K w H) : (P a0_0 a0_1 a0_2 a0_3 a0_4 a1_0 a1_1 a1_2 a1_3 a1_4 a1_5 a1_6 a1_7 a1_8 a1_9 a1_10 a1_11 a2).bind k = some v → C 29 [.agg [.str a0_0, .int .i64 a0_1, .int .i64 a0_2, .int .i64 a0_3, .str a0_4], .agg [.int .i64 a1_0, .int .i64 a1_1, .int .i64 a1_2, .str a1_3, .str a1_4, .int .i64 a1_5, .bool a1_6, .int .i64 a1_7, .int .i64 a1_8, .str a1_9, .int .i64 a1_10, .sl 0 2 a1_11], .int .i64 a2] H K := fun e => bind_ls (Cq := fun K => C 29 [.agg [.str a0_0, .int .i64 a0_1, .int .i64 a0_2, .int .i64 a0_3, .str a0_4], .agg [.int .i64 a1_0, .int .i64 a1_1, .int .i64 a1_2, .str a1_3, .str a1_4, .int .i64 a1_5, .bool a1_6, .int .i64 a1_7, .int .i64 a1_8, .str a1_9, .int .i64 a1_10, .sl 0 2 a1_11], .int .i64 a2] H K) (fun h => ok h) h e
end F29
/-! ### broker/brokerref28.Reason: function 11 -/
namespace F11
noncomputable def P (a0_0 : ByteArray) (a0_1 a0_2 a0_3 : Int) (a0_4 : ByteArray) (a1_0 a1_1 a1_2 : Int) (a1_3 a1_4 : ByteArray) (a1_5 : Int) (a1_6 : Bool) (a1_7 a1_8 : Int) (a1_9 : ByteArray) (a1_10 : Int) (a1_11 : List (List AV)) (a2 : Int) : Option AV :=
    if !(eqI a0_3 0) then
    (if leI a0_3 a1_2 then
      (some (.int .i64 4))
      else
      ((F29.P a0_0 a0_1 a0_2 a0_3 a0_4 a1_0 a1_1 a1_2 a1_3 a1_4 a1_5 a1_6 a1_7 a1_8 a1_9 a1_10 a1_11 a2).bind fun v_1 =>
        if (v_1).isBool then (if (v_1).toBool then
          (some (.int .i64 2))
          else
          (some (.int .i64 0))) else none))
    else
    ((F29.P a0_0 a0_1 a0_2 a0_3 a0_4 a1_0 a1_1 a1_2 a1_3 a1_4 a1_5 a1_6 a1_7 a1_8 a1_9 a1_10 a1_11 a2).bind fun v_3 =>
      if (v_3).isBool then (if (v_3).toBool then
        (some (.int .i64 2))
        else
        (some (.int .i64 0))) else none)
theorem ok {a0_0 : ByteArray} {a0_1 a0_2 a0_3 : Int} {a0_4 : ByteArray} {a1_0 a1_1 a1_2 : Int} {a1_3 a1_4 : ByteArray} {a1_5 : Int} {a1_6 : Bool} {a1_7 a1_8 : Int} {a1_9 : ByteArray} {a1_10 : Int} {a1_11 : List (List AV)} {a2 : Int} {v : AV} (h : P a0_0 a0_1 a0_2 a0_3 a0_4 a1_0 a1_1 a1_2 a1_3 a1_4 a1_5 a1_6 a1_7 a1_8 a1_9 a1_10 a1_11 a2 = some v) {H : Heap} {Q : Qt} (hQ : ∀ H, Q v H) : C 11 [.agg [.str a0_0, .int .i64 a0_1, .int .i64 a0_2, .int .i64 a0_3, .str a0_4], .agg [.int .i64 a1_0, .int .i64 a1_1, .int .i64 a1_2, .str a1_3, .str a1_4, .int .i64 a1_5, .bool a1_6, .int .i64 a1_7, .int .i64 a1_8, .str a1_9, .int .i64 a1_10, .sl 0 2 a1_11], .int .i64 a2] H Q := by
  refine call ?_
  unfold t
  unfold P at h
  revert h
  repeat' first | exact lsV hQ | exact lsF | apply lsG | apply lsC | refine F29.ls fun _ _ => ?_
theorem ls {a0_0 : ByteArray} {a0_1 a0_2 a0_3 : Int} {a0_4 : ByteArray} {a1_0 a1_1 a1_2 : Int} {a1_3 a1_4 : ByteArray} {a1_5 : Int} {a1_6 : Bool} {a1_7 a1_8 : Int} {a1_9 : ByteArray} {a1_10 : Int} {a1_11 : List (List AV)} {a2 : Int} {v : AV} {H : Heap} {k : AV → Option AV} {K : Qt} (h : ∀ w H, k w = some v → K w H) : (P a0_0 a0_1 a0_2 a0_3 a0_4 a1_0 a1_1 a1_2 a1_3 a1_4 a1_5 a1_6 a1_7 a1_8 a1_9 a1_10 a1_11 a2).bind k = some v → C 11 [.agg [.str a0_0, .int .i64 a0_1, .int .i64 a0_2, .int .i64 a0_3, .str a0_4], .agg [.int .i64 a1_0, .int .i64 a1_1, .int .i64 a1_2, .str a1_3, .str a1_4, .int .i64 a1_5, .bool a1_6, .int .i64 a1_7, .int .i64 a1_8, .str a1_9, .int .i64 a1_10, .sl 0 2 a1_11], .int .i64 a2] H K := fun e => bind_ls (Cq := fun K => C 11 [.agg [.str a0_0, .int .i64 a0_1, .int .i64 a0_2, .int .i64 a0_3, .str a0_4], .agg [.int .i64 a1_0, .int .i64 a1_1, .int .i64 a1_2, .str a1_3, .str a1_4, .int .i64 a1_5, .bool a1_6, .int .i64 a1_7, .int .i64 a1_8, .str a1_9, .int .i64 a1_10, .sl 0 2 a1_11], .int .i64 a2] H K) (fun h => ok h) h e
end F11
/-! ### broker/brokerlaw28.DeadReasons: function 3 -/
namespace F3
inductive LS where
  | lR1 (x27 : Bool)
noncomputable def PL (a0_0 : ByteArray) (a0_1 a0_2 a0_3 : Int) (a0_4 : ByteArray) (a1_0 a1_1 a1_2 : Int) (a1_3 a1_4 : ByteArray) (a1_5 : Int) (a1_6 : Bool) (a1_7 a1_8 : Int) (a1_9 : ByteArray) (a1_10 : Int) (a1_11 : List (List AV)) (a2 : Int) : Nat → LS → Option AV
  | 0, _ => none
  | fu + 1, .lR1 x27 =>
    if x27 then
    ((F9.P).bind fun v_3 =>
      if (v_3).isBool then some (.bool ((v_3).toBool)) else none)
    else
    ((F10.P a0_0 a0_1 a0_2 a0_3 a0_4 a1_0 a1_1 a1_2 a1_3 a1_4 a1_5 a1_6 a1_7 a1_8 a1_9 a1_10 a1_11 a2).bind fun v_5 =>
      if (v_5).isInt .i64 then ((F11.P a0_0 a0_1 a0_2 a0_3 a0_4 a1_0 a1_1 a1_2 a1_3 a1_4 a1_5 a1_6 a1_7 a1_8 a1_9 a1_10 a1_11 a2).bind fun v_7 =>
        if (v_7).isInt .i64 then (if eqI ((v_5).toInt) ((v_7).toInt) then
          ((F9.P).bind fun v_9 =>
            if (v_9).isBool then some (.bool ((v_9).toBool)) else none)
          else
          (some (.bool false))) else none) else none)
noncomputable def P (a0_0 : ByteArray) (a0_1 a0_2 a0_3 : Int) (a0_4 : ByteArray) (a1_0 a1_1 a1_2 : Int) (a1_3 a1_4 : ByteArray) (a1_5 : Int) (a1_6 : Bool) (a1_7 a1_8 : Int) (a1_9 : ByteArray) (a1_10 : Int) (a1_11 : List (List AV)) (a2 : Int) : Option AV := lim fun fu =>
    (F8.P a0_0 a0_1 a0_2 a0_3 a0_4).bind fun v_1 =>
    if (v_1).isInt .i64 then (if !(eqI ((v_1).toInt) 0) then
      (PL a0_0 a0_1 a0_2 a0_3 a0_4 a1_0 a1_1 a1_2 a1_3 a1_4 a1_5 a1_6 a1_7 a1_8 a1_9 a1_10 a1_11 a2 fu (.lR1 true))
      else
      (if ltI a1_1 0 then
        (PL a0_0 a0_1 a0_2 a0_3 a0_4 a1_0 a1_1 a1_2 a1_3 a1_4 a1_5 a1_6 a1_7 a1_8 a1_9 a1_10 a1_11 a2 fu (.lR1 true))
        else
        (if ltI 1099511627776 a1_1 then
          (PL a0_0 a0_1 a0_2 a0_3 a0_4 a1_0 a1_1 a1_2 a1_3 a1_4 a1_5 a1_6 a1_7 a1_8 a1_9 a1_10 a1_11 a2 fu (.lR1 true))
          else
          (if ltI a2 0 then
            (PL a0_0 a0_1 a0_2 a0_3 a0_4 a1_0 a1_1 a1_2 a1_3 a1_4 a1_5 a1_6 a1_7 a1_8 a1_9 a1_10 a1_11 a2 fu (.lR1 true))
            else
            (PL a0_0 a0_1 a0_2 a0_3 a0_4 a1_0 a1_1 a1_2 a1_3 a1_4 a1_5 a1_6 a1_7 a1_8 a1_9 a1_10 a1_11 a2 fu (.lR1 (ltI 1099511627776 a2))))))) else none
theorem PL_ok {a0_0 : ByteArray} {a0_1 a0_2 a0_3 : Int} {a0_4 : ByteArray} {a1_0 a1_1 a1_2 : Int} {a1_3 a1_4 : ByteArray} {a1_5 : Int} {a1_6 : Bool} {a1_7 a1_8 : Int} {a1_9 : ByteArray} {a1_10 : Int} {a1_11 : List (List AV)} {a2 : Int} {Q : Qt} {v : AV} (hQ : ∀ H, Q v H) : ∀ (fu : Nat) (s : LS) (H : Heap), PL a0_0 a0_1 a0_2 a0_3 a0_4 a1_0 a1_1 a1_2 a1_3 a1_4 a1_5 a1_6 a1_7 a1_8 a1_9 a1_10 a1_11 a2 fu s = some v → match s with | .lR1 x27 => JR1 a0_0 a0_1 a0_2 a0_3 a0_4 a1_0 a1_1 a1_2 a1_3 a1_4 a1_5 a1_6 a1_7 a1_8 a1_9 a1_10 a1_11 a2 Q x27 H := by
  intro fu
  induction fu with
  | zero => intro s H h; exact absurd h (by cases s <;> simp only [PL] <;> exact nofun)
  | succ fu ih =>
    intro s H
    cases s with
    | lR1 x27 =>
      show PL a0_0 a0_1 a0_2 a0_3 a0_4 a1_0 a1_1 a1_2 a1_3 a1_4 a1_5 a1_6 a1_7 a1_8 a1_9 a1_10 a1_11 a2 (fu + 1) (.lR1 x27) = some v → JR1 a0_0 a0_1 a0_2 a0_3 a0_4 a1_0 a1_1 a1_2 a1_3 a1_4 a1_5 a1_6 a1_7 a1_8 a1_9 a1_10 a1_11 a2 Q x27 H
      rw [PL]
      refine fun h => JR1_step (?_ : jR1 a0_0 a0_1 a0_2 a0_3 a0_4 a1_0 a1_1 a1_2 a1_3 a1_4 a1_5 a1_6 a1_7 a1_8 a1_9 a1_10 a1_11 a2 Q x27 H)
      revert h
      unfold jR1
      repeat' first | exact lsV hQ | exact lsF | apply lsG | apply lsC | refine F10.ls fun _ _ => ?_ | refine F11.ls fun _ _ => ?_ | refine F9.ls fun _ _ => ?_ | exact fun h => ih _ _ h
theorem ok {a0_0 : ByteArray} {a0_1 a0_2 a0_3 : Int} {a0_4 : ByteArray} {a1_0 a1_1 a1_2 : Int} {a1_3 a1_4 : ByteArray} {a1_5 : Int} {a1_6 : Bool} {a1_7 a1_8 : Int} {a1_9 : ByteArray} {a1_10 : Int} {a1_11 : List (List AV)} {a2 : Int} {v : AV} (h : P a0_0 a0_1 a0_2 a0_3 a0_4 a1_0 a1_1 a1_2 a1_3 a1_4 a1_5 a1_6 a1_7 a1_8 a1_9 a1_10 a1_11 a2 = some v) {H : Heap} {Q : Qt} (hQ : ∀ H, Q v H) : C 3 [.agg [.str a0_0, .int .i64 a0_1, .int .i64 a0_2, .int .i64 a0_3, .str a0_4], .agg [.int .i64 a1_0, .int .i64 a1_1, .int .i64 a1_2, .str a1_3, .str a1_4, .int .i64 a1_5, .bool a1_6, .int .i64 a1_7, .int .i64 a1_8, .str a1_9, .int .i64 a1_10, .sl 0 2 a1_11], .int .i64 a2] H Q := by
  refine call ?_
  unfold t
  unfold P at h
  obtain ⟨fu, h⟩ := lim_some h
  revert h
  repeat' first | exact lsV hQ | exact lsF | apply lsG | apply lsC | refine F8.ls fun _ _ => ?_ | exact fun h => PL_ok hQ _ _ _ h
theorem ls {a0_0 : ByteArray} {a0_1 a0_2 a0_3 : Int} {a0_4 : ByteArray} {a1_0 a1_1 a1_2 : Int} {a1_3 a1_4 : ByteArray} {a1_5 : Int} {a1_6 : Bool} {a1_7 a1_8 : Int} {a1_9 : ByteArray} {a1_10 : Int} {a1_11 : List (List AV)} {a2 : Int} {v : AV} {H : Heap} {k : AV → Option AV} {K : Qt} (h : ∀ w H, k w = some v → K w H) : (P a0_0 a0_1 a0_2 a0_3 a0_4 a1_0 a1_1 a1_2 a1_3 a1_4 a1_5 a1_6 a1_7 a1_8 a1_9 a1_10 a1_11 a2).bind k = some v → C 3 [.agg [.str a0_0, .int .i64 a0_1, .int .i64 a0_2, .int .i64 a0_3, .str a0_4], .agg [.int .i64 a1_0, .int .i64 a1_1, .int .i64 a1_2, .str a1_3, .str a1_4, .int .i64 a1_5, .bool a1_6, .int .i64 a1_7, .int .i64 a1_8, .str a1_9, .int .i64 a1_10, .sl 0 2 a1_11], .int .i64 a2] H K := fun e => bind_ls (Cq := fun K => C 3 [.agg [.str a0_0, .int .i64 a0_1, .int .i64 a0_2, .int .i64 a0_3, .str a0_4], .agg [.int .i64 a1_0, .int .i64 a1_1, .int .i64 a1_2, .str a1_3, .str a1_4, .int .i64 a1_5, .bool a1_6, .int .i64 a1_7, .int .i64 a1_8, .str a1_9, .int .i64 a1_10, .sl 0 2 a1_11], .int .i64 a2] H K) (fun h => ok h) h e
end F3
/-! ### broker/brokerref28.get: function 33 -/
namespace F33
inductive LS where
  | l0 (x10 : Int)
noncomputable def PL (a0_0 a0_1 : ByteArray) (a0_2 : Int) (a0_3 : Bool) (a0_4 a0_5 : Int) (a0_6 : ByteArray) (a0_7 : Int) (a0_8 : List (List AV)) (a1 : ByteArray) : Nat → LS → Option AV
  | 0, _ => none
  | fu + 1, .l0 x10 =>
    if ltI x10 (lenI a0_8) then
    (if leI 0 x10 then (if ltI x10 (lenI a0_8) then (if (ce (ro a0_8 x10.toNat) 0).isStr then (if (ce (ro a0_8 x10.toNat) 1).isStr then (if eqS ((ce (ro a0_8 x10.toNat) 0).toStr) a1 then
      (some (.str ((ce (ro a0_8 x10.toNat) 1).toStr)))
      else
      (PL a0_0 a0_1 a0_2 a0_3 a0_4 a0_5 a0_6 a0_7 a0_8 a1 fu (.l0 (addW .i64 x10 1)))) else none) else none) else none) else none)
    else
    (some (.str (⟨#[]⟩ : ByteArray)))
noncomputable def P (a0_0 a0_1 : ByteArray) (a0_2 : Int) (a0_3 : Bool) (a0_4 a0_5 : Int) (a0_6 : ByteArray) (a0_7 : Int) (a0_8 : List (List AV)) (a1 : ByteArray) : Option AV := lim fun fu =>
    PL a0_0 a0_1 a0_2 a0_3 a0_4 a0_5 a0_6 a0_7 a0_8 a1 fu (.l0 0)
theorem PL_ok {a0_0 a0_1 : ByteArray} {a0_2 : Int} {a0_3 : Bool} {a0_4 a0_5 : Int} {a0_6 : ByteArray} {a0_7 : Int} {a0_8 : List (List AV)} {a1 : ByteArray} {Q : Qt} {v : AV} (hQ : ∀ H, Q v H) : ∀ (fu : Nat) (s : LS) (H : Heap), PL a0_0 a0_1 a0_2 a0_3 a0_4 a0_5 a0_6 a0_7 a0_8 a1 fu s = some v → match s with | .l0 x10 => L0 a0_0 a0_1 a0_2 a0_3 a0_4 a0_5 a0_6 a0_7 a0_8 a1 Q x10 H := by
  intro fu
  induction fu with
  | zero => intro s H h; exact absurd h (by cases s <;> simp only [PL] <;> exact nofun)
  | succ fu ih =>
    intro s H
    cases s with
    | l0 x10 =>
      show PL a0_0 a0_1 a0_2 a0_3 a0_4 a0_5 a0_6 a0_7 a0_8 a1 (fu + 1) (.l0 x10) = some v → L0 a0_0 a0_1 a0_2 a0_3 a0_4 a0_5 a0_6 a0_7 a0_8 a1 Q x10 H
      rw [PL]
      refine fun h => L0_step (?_ : r0 a0_0 a0_1 a0_2 a0_3 a0_4 a0_5 a0_6 a0_7 a0_8 a1 Q x10 H)
      revert h
      unfold r0
      repeat' first | exact lsV hQ | exact lsF | apply lsG | apply lsC | exact fun h => ih _ _ h
theorem ok {a0_0 a0_1 : ByteArray} {a0_2 : Int} {a0_3 : Bool} {a0_4 a0_5 : Int} {a0_6 : ByteArray} {a0_7 : Int} {a0_8 : List (List AV)} {a1 : ByteArray} {v : AV} (h : P a0_0 a0_1 a0_2 a0_3 a0_4 a0_5 a0_6 a0_7 a0_8 a1 = some v) {H : Heap} {Q : Qt} (hQ : ∀ H, Q v H) : C 33 [.agg [.str a0_0, .str a0_1, .int .i64 a0_2, .bool a0_3, .int .i64 a0_4, .int .i64 a0_5, .str a0_6, .int .i64 a0_7, .sl 0 2 a0_8], .str a1] H Q := by
  refine call ?_
  unfold t
  unfold P at h
  obtain ⟨fu, h⟩ := lim_some h
  revert h
  repeat' first | exact lsV hQ | exact lsF | apply lsG | apply lsC | exact fun h => PL_ok hQ _ _ _ h
theorem ls {a0_0 a0_1 : ByteArray} {a0_2 : Int} {a0_3 : Bool} {a0_4 a0_5 : Int} {a0_6 : ByteArray} {a0_7 : Int} {a0_8 : List (List AV)} {a1 : ByteArray} {v : AV} {H : Heap} {k : AV → Option AV} {K : Qt} (h : ∀ w H, k w = some v → K w H) : (P a0_0 a0_1 a0_2 a0_3 a0_4 a0_5 a0_6 a0_7 a0_8 a1).bind k = some v → C 33 [.agg [.str a0_0, .str a0_1, .int .i64 a0_2, .bool a0_3, .int .i64 a0_4, .int .i64 a0_5, .str a0_6, .int .i64 a0_7, .sl 0 2 a0_8], .str a1] H K := fun e => bind_ls (Cq := fun K => C 33 [.agg [.str a0_0, .str a0_1, .int .i64 a0_2, .bool a0_3, .int .i64 a0_4, .int .i64 a0_5, .str a0_6, .int .i64 a0_7, .sl 0 2 a0_8], .str a1] H K) (fun h => ok h) h e
end F33
/-! ### broker/brokerref28.From: function 13 -/
namespace F13
inductive LS where
  | lR2 (x4name x5reason : ByteArray) (x33 : Bool)
noncomputable def PL (a0_0 a0_1 : ByteArray) (a0_2 : Int) (a0_3 : Bool) (a0_4 a0_5 : Int) (a0_6 : ByteArray) (a0_7 : Int) (a0_8 : List (List AV)) : Nat → LS → Option AV
  | 0, _ => none
  | fu + 1, .lR2 x4name x5reason x33 =>
    if x33 then
    (some (.tup [.str (⟨#[]⟩ : ByteArray), .int .i64 0]))
    else
    (if ltI 0 (sizeI x5reason) then some (.tup [.str x4name, .int .i64 (IntKind.i64.wrap (subW .u8 (bt x5reason 0) 48))]) else none)
noncomputable def P (a0_0 a0_1 : ByteArray) (a0_2 : Int) (a0_3 : Bool) (a0_4 a0_5 : Int) (a0_6 : ByteArray) (a0_7 : Int) (a0_8 : List (List AV)) : Option AV := lim fun fu =>
    (F33.P a0_0 a0_1 a0_2 a0_3 a0_4 a0_5 a0_6 a0_7 a0_8 (⟨#[100, 105, 101, 100]⟩ : ByteArray)).bind fun v_1 =>
    if (v_1).isStr then ((F31.P ((v_1).toStr) (⟨#[32]⟩ : ByteArray)).bind fun v_3 =>
      if ((v_3).isTup && Nat.beq (v_3).tupVs.length 3) then (if (((v_3).tupVs).headD .any).isStr then (if ((((v_3).tupVs).tail).headD .any).isStr then (if (((((v_3).tupVs).tail).tail).headD .any).isBool then (if !((((((v_3).tupVs).tail).tail).headD .any).toBool) then
        (PL a0_0 a0_1 a0_2 a0_3 a0_4 a0_5 a0_6 a0_7 a0_8 fu (.lR2 ((((v_3).tupVs).headD .any).toStr) (((((v_3).tupVs).tail).headD .any).toStr) true))
        else
        ((F25.P ((((v_3).tupVs).headD .any).toStr)).bind fun v_5 =>
          if (v_5).isBool then (if !((v_5).toBool) then
            (PL a0_0 a0_1 a0_2 a0_3 a0_4 a0_5 a0_6 a0_7 a0_8 fu (.lR2 ((((v_3).tupVs).headD .any).toStr) (((((v_3).tupVs).tail).headD .any).toStr) true))
            else
            (if !(eqI (sizeI (((((v_3).tupVs).tail).headD .any).toStr)) 1) then
              (PL a0_0 a0_1 a0_2 a0_3 a0_4 a0_5 a0_6 a0_7 a0_8 fu (.lR2 ((((v_3).tupVs).headD .any).toStr) (((((v_3).tupVs).tail).headD .any).toStr) true))
              else
              (if ltS (((((v_3).tupVs).tail).headD .any).toStr) (⟨#[49]⟩ : ByteArray) then
                (PL a0_0 a0_1 a0_2 a0_3 a0_4 a0_5 a0_6 a0_7 a0_8 fu (.lR2 ((((v_3).tupVs).headD .any).toStr) (((((v_3).tupVs).tail).headD .any).toStr) true))
                else
                (PL a0_0 a0_1 a0_2 a0_3 a0_4 a0_5 a0_6 a0_7 a0_8 fu (.lR2 ((((v_3).tupVs).headD .any).toStr) (((((v_3).tupVs).tail).headD .any).toStr) (ltS (⟨#[52]⟩ : ByteArray) (((((v_3).tupVs).tail).headD .any).toStr))))))) else none)) else none) else none) else none) else none) else none
theorem PL_ok {a0_0 a0_1 : ByteArray} {a0_2 : Int} {a0_3 : Bool} {a0_4 a0_5 : Int} {a0_6 : ByteArray} {a0_7 : Int} {a0_8 : List (List AV)} {Q : Qt} {v : AV} (hQ : ∀ H, Q v H) : ∀ (fu : Nat) (s : LS) (H : Heap), PL a0_0 a0_1 a0_2 a0_3 a0_4 a0_5 a0_6 a0_7 a0_8 fu s = some v → match s with | .lR2 x4name x5reason x33 => JR2 a0_0 a0_1 a0_2 a0_3 a0_4 a0_5 a0_6 a0_7 a0_8 Q x4name x5reason x33 H := by
  intro fu
  induction fu with
  | zero => intro s H h; exact absurd h (by cases s <;> simp only [PL] <;> exact nofun)
  | succ fu ih =>
    intro s H
    cases s with
    | lR2 x4name x5reason x33 =>
      show PL a0_0 a0_1 a0_2 a0_3 a0_4 a0_5 a0_6 a0_7 a0_8 (fu + 1) (.lR2 x4name x5reason x33) = some v → JR2 a0_0 a0_1 a0_2 a0_3 a0_4 a0_5 a0_6 a0_7 a0_8 Q x4name x5reason x33 H
      rw [PL]
      refine fun h => JR2_step (?_ : jR2 a0_0 a0_1 a0_2 a0_3 a0_4 a0_5 a0_6 a0_7 a0_8 Q x4name x5reason x33 H)
      revert h
      unfold jR2
      repeat' first | exact lsV hQ | exact lsF | apply lsG | apply lsC | exact fun h => ih _ _ h
theorem ok {a0_0 a0_1 : ByteArray} {a0_2 : Int} {a0_3 : Bool} {a0_4 a0_5 : Int} {a0_6 : ByteArray} {a0_7 : Int} {a0_8 : List (List AV)} {v : AV} (h : P a0_0 a0_1 a0_2 a0_3 a0_4 a0_5 a0_6 a0_7 a0_8 = some v) {H : Heap} {Q : Qt} (hQ : ∀ H, Q v H) : C 13 [.agg [.str a0_0, .str a0_1, .int .i64 a0_2, .bool a0_3, .int .i64 a0_4, .int .i64 a0_5, .str a0_6, .int .i64 a0_7, .sl 0 2 a0_8]] H Q := by
  refine call ?_
  unfold t
  unfold P at h
  obtain ⟨fu, h⟩ := lim_some h
  revert h
  repeat' first | exact lsV hQ | exact lsF | apply lsG | apply lsC | refine F25.ls fun _ _ => ?_ | refine F31.ls fun _ _ => ?_ | refine F33.ls fun _ _ => ?_ | exact fun h => PL_ok hQ _ _ _ h
theorem ls {a0_0 a0_1 : ByteArray} {a0_2 : Int} {a0_3 : Bool} {a0_4 a0_5 : Int} {a0_6 : ByteArray} {a0_7 : Int} {a0_8 : List (List AV)} {v : AV} {H : Heap} {k : AV → Option AV} {K : Qt} (h : ∀ w H, k w = some v → K w H) : (P a0_0 a0_1 a0_2 a0_3 a0_4 a0_5 a0_6 a0_7 a0_8).bind k = some v → C 13 [.agg [.str a0_0, .str a0_1, .int .i64 a0_2, .bool a0_3, .int .i64 a0_4, .int .i64 a0_5, .str a0_6, .int .i64 a0_7, .sl 0 2 a0_8]] H K := fun e => bind_ls (Cq := fun K => C 13 [.agg [.str a0_0, .str a0_1, .int .i64 a0_2, .bool a0_3, .int .i64 a0_4, .int .i64 a0_5, .str a0_6, .int .i64 a0_7, .sl 0 2 a0_8]] H K) (fun h => ok h) h e
end F13
/-! ### broker/brokerref28.Deaths: function 15 -/
namespace F15
inductive LS where
  | l0 (x3s : ByteArray) (x4n x17 x18 : Int)
noncomputable def PL (a0_0 a0_1 : ByteArray) (a0_2 : Int) (a0_3 : Bool) (a0_4 a0_5 : Int) (a0_6 : ByteArray) (a0_7 : Int) (a0_8 : List (List AV)) : Nat → LS → Option AV
  | 0, _ => none
  | fu + 1, .l0 x3s x4n x17 x18 =>
    if ltI x18 x17 then
    (if leI 0 x18 then (if ltI x18 (sizeI x3s) then (if ltI (bt x3s x18) 48 then
      (some (.int .i64 0))
      else
      (if leI 0 x18 then (if ltI x18 (sizeI x3s) then (if ltI 57 (bt x3s x18) then
        (some (.int .i64 0))
        else
        (if leI 0 x18 then (if ltI x18 (sizeI x3s) then PL a0_0 a0_1 a0_2 a0_3 a0_4 a0_5 a0_6 a0_7 a0_8 fu (.l0 x3s (addW .i64 (mulW .i64 10 x4n) (IntKind.i64.wrap (subW .u8 (bt x3s x18) 48))) x17 (addW .i64 x18 1)) else none) else none)) else none) else none)) else none) else none)
    else
    ((ItoaP.P [.int .i64 x4n]).bind fun v_3 =>
      if (v_3).isStr then (if !(eqS ((v_3).toStr) x3s) then
        (some (.int .i64 0))
        else
        (if ltI 1099511627776 x4n then
          (some (.int .i64 0))
          else
          (some (.int .i64 x4n)))) else none)
noncomputable def P (a0_0 a0_1 : ByteArray) (a0_2 : Int) (a0_3 : Bool) (a0_4 a0_5 : Int) (a0_6 : ByteArray) (a0_7 : Int) (a0_8 : List (List AV)) : Option AV := lim fun fu =>
    (F33.P a0_0 a0_1 a0_2 a0_3 a0_4 a0_5 a0_6 a0_7 a0_8 (⟨#[100, 101, 97, 116, 104, 115]⟩ : ByteArray)).bind fun v_1 =>
    if (v_1).isStr then (if ltI (sizeI ((v_1).toStr)) 1 then
      (some (.int .i64 0))
      else
      (if ltI 13 (sizeI ((v_1).toStr)) then
        (some (.int .i64 0))
        else
        (PL a0_0 a0_1 a0_2 a0_3 a0_4 a0_5 a0_6 a0_7 a0_8 fu (.l0 ((v_1).toStr) 0 (sizeI ((v_1).toStr)) 0)))) else none
theorem PL_ok {a0_0 a0_1 : ByteArray} {a0_2 : Int} {a0_3 : Bool} {a0_4 a0_5 : Int} {a0_6 : ByteArray} {a0_7 : Int} {a0_8 : List (List AV)} {Q : Qt} {v : AV} (hQ : ∀ H, Q v H) : ∀ (fu : Nat) (s : LS) (H : Heap), PL a0_0 a0_1 a0_2 a0_3 a0_4 a0_5 a0_6 a0_7 a0_8 fu s = some v → match s with | .l0 x3s x4n x17 x18 => L0 a0_0 a0_1 a0_2 a0_3 a0_4 a0_5 a0_6 a0_7 a0_8 Q x3s x4n x17 x18 H := by
  intro fu
  induction fu with
  | zero => intro s H h; exact absurd h (by cases s <;> simp only [PL] <;> exact nofun)
  | succ fu ih =>
    intro s H
    cases s with
    | l0 x3s x4n x17 x18 =>
      show PL a0_0 a0_1 a0_2 a0_3 a0_4 a0_5 a0_6 a0_7 a0_8 (fu + 1) (.l0 x3s x4n x17 x18) = some v → L0 a0_0 a0_1 a0_2 a0_3 a0_4 a0_5 a0_6 a0_7 a0_8 Q x3s x4n x17 x18 H
      rw [PL]
      refine fun h => L0_step (?_ : r0 a0_0 a0_1 a0_2 a0_3 a0_4 a0_5 a0_6 a0_7 a0_8 Q x3s x4n x17 x18 H)
      revert h
      unfold r0
      repeat' first | exact lsV hQ | exact lsF | apply lsG | apply lsC | refine ItoaP.ls fun _ _ => ?_ | exact fun h => ih _ _ h
theorem ok {a0_0 a0_1 : ByteArray} {a0_2 : Int} {a0_3 : Bool} {a0_4 a0_5 : Int} {a0_6 : ByteArray} {a0_7 : Int} {a0_8 : List (List AV)} {v : AV} (h : P a0_0 a0_1 a0_2 a0_3 a0_4 a0_5 a0_6 a0_7 a0_8 = some v) {H : Heap} {Q : Qt} (hQ : ∀ H, Q v H) : C 15 [.agg [.str a0_0, .str a0_1, .int .i64 a0_2, .bool a0_3, .int .i64 a0_4, .int .i64 a0_5, .str a0_6, .int .i64 a0_7, .sl 0 2 a0_8]] H Q := by
  refine call ?_
  unfold t
  unfold P at h
  obtain ⟨fu, h⟩ := lim_some h
  revert h
  repeat' first | exact lsV hQ | exact lsF | apply lsG | apply lsC | refine F33.ls fun _ _ => ?_ | exact fun h => PL_ok hQ _ _ _ h
theorem ls {a0_0 a0_1 : ByteArray} {a0_2 : Int} {a0_3 : Bool} {a0_4 a0_5 : Int} {a0_6 : ByteArray} {a0_7 : Int} {a0_8 : List (List AV)} {v : AV} {H : Heap} {k : AV → Option AV} {K : Qt} (h : ∀ w H, k w = some v → K w H) : (P a0_0 a0_1 a0_2 a0_3 a0_4 a0_5 a0_6 a0_7 a0_8).bind k = some v → C 15 [.agg [.str a0_0, .str a0_1, .int .i64 a0_2, .bool a0_3, .int .i64 a0_4, .int .i64 a0_5, .str a0_6, .int .i64 a0_7, .sl 0 2 a0_8]] H K := fun e => bind_ls (Cq := fun K => C 15 [.agg [.str a0_0, .str a0_1, .int .i64 a0_2, .bool a0_3, .int .i64 a0_4, .int .i64 a0_5, .str a0_6, .int .i64 a0_7, .sl 0 2 a0_8]] H K) (fun h => ok h) h e
end F15
/-! ### broker/brokerref28.Again: function 17 -/
namespace F17
noncomputable def P (a0_0 a0_1 : ByteArray) (a0_2 : Int) (a0_3 : Bool) (a0_4 a0_5 : Int) (a0_6 : ByteArray) (a0_7 : Int) (a0_8 : List (List AV)) : Option AV :=
    (F15.P a0_0 a0_1 a0_2 a0_3 a0_4 a0_5 a0_6 a0_7 a0_8).bind fun v_1 =>
    if (v_1).isInt .i64 then some (.bool (ltI ((v_1).toInt) 8)) else none
theorem ok {a0_0 a0_1 : ByteArray} {a0_2 : Int} {a0_3 : Bool} {a0_4 a0_5 : Int} {a0_6 : ByteArray} {a0_7 : Int} {a0_8 : List (List AV)} {v : AV} (h : P a0_0 a0_1 a0_2 a0_3 a0_4 a0_5 a0_6 a0_7 a0_8 = some v) {H : Heap} {Q : Qt} (hQ : ∀ H, Q v H) : C 17 [.agg [.str a0_0, .str a0_1, .int .i64 a0_2, .bool a0_3, .int .i64 a0_4, .int .i64 a0_5, .str a0_6, .int .i64 a0_7, .sl 0 2 a0_8]] H Q := by
  refine call ?_
  unfold t
  unfold P at h
  revert h
  repeat' first | exact lsV hQ | exact lsF | apply lsG | apply lsC | refine F15.ls fun _ _ => ?_
theorem ls {a0_0 a0_1 : ByteArray} {a0_2 : Int} {a0_3 : Bool} {a0_4 a0_5 : Int} {a0_6 : ByteArray} {a0_7 : Int} {a0_8 : List (List AV)} {v : AV} {H : Heap} {k : AV → Option AV} {K : Qt} (h : ∀ w H, k w = some v → K w H) : (P a0_0 a0_1 a0_2 a0_3 a0_4 a0_5 a0_6 a0_7 a0_8).bind k = some v → C 17 [.agg [.str a0_0, .str a0_1, .int .i64 a0_2, .bool a0_3, .int .i64 a0_4, .int .i64 a0_5, .str a0_6, .int .i64 a0_7, .sl 0 2 a0_8]] H K := fun e => bind_ls (Cq := fun K => C 17 [.agg [.str a0_0, .str a0_1, .int .i64 a0_2, .bool a0_3, .int .i64 a0_4, .int .i64 a0_5, .str a0_6, .int .i64 a0_7, .sl 0 2 a0_8]] H K) (fun h => ok h) h e
end F17
/-! ### broker/brokerlaw28.DeadReads: function 4 -/
namespace F4
inductive LS where
  | l0 (x17 : Int)
noncomputable def PL (a0_0 a0_1 : ByteArray) (a0_2 : Int) (a0_3 : Bool) (a0_4 a0_5 : Int) (a0_6 : ByteArray) (a0_7 : Int) (a0_8 : List (List AV)) : Nat → LS → Option AV
  | 0, _ => none
  | fu + 1, .l0 x17 =>
    if ltI x17 (lenI a0_8) then
    (if leI 0 x17 then (if ltI x17 (lenI a0_8) then (if (ce (ro a0_8 x17.toNat) 0).isStr then (if (ce (ro a0_8 x17.toNat) 1).isStr then (if ltI 300 (sizeI ((ce (ro a0_8 x17.toNat) 0).toStr)) then
      ((F9.P).bind fun v_3 =>
        if (v_3).isBool then some (.bool ((v_3).toBool)) else none)
      else
      (if ltI 300 (sizeI ((ce (ro a0_8 x17.toNat) 1).toStr)) then
        ((F9.P).bind fun v_5 =>
          if (v_5).isBool then some (.bool ((v_5).toBool)) else none)
        else
        (PL a0_0 a0_1 a0_2 a0_3 a0_4 a0_5 a0_6 a0_7 a0_8 fu (.l0 (addW .i64 x17 1))))) else none) else none) else none) else none)
    else
    ((F12.P a0_0 a0_1 a0_2 a0_3 a0_4 a0_5 a0_6 a0_7 a0_8).bind fun v_7 =>
      if ((v_7).isTup && Nat.beq (v_7).tupVs.length 2) then (if (((v_7).tupVs).headD .any).isStr then (if ((((v_7).tupVs).tail).headD .any).isInt .i64 then ((F13.P a0_0 a0_1 a0_2 a0_3 a0_4 a0_5 a0_6 a0_7 a0_8).bind fun v_9 =>
        if ((v_9).isTup && Nat.beq (v_9).tupVs.length 2) then (if (((v_9).tupVs).headD .any).isStr then (if ((((v_9).tupVs).tail).headD .any).isInt .i64 then (if eqS ((((v_7).tupVs).headD .any).toStr) ((((v_9).tupVs).headD .any).toStr) then
          (if eqI (((((v_7).tupVs).tail).headD .any).toInt) (((((v_9).tupVs).tail).headD .any).toInt) then
            ((F14.P a0_0 a0_1 a0_2 a0_3 a0_4 a0_5 a0_6 a0_7 a0_8).bind fun v_11 =>
              if (v_11).isInt .i64 then ((F15.P a0_0 a0_1 a0_2 a0_3 a0_4 a0_5 a0_6 a0_7 a0_8).bind fun v_13 =>
                if (v_13).isInt .i64 then (if eqI ((v_11).toInt) ((v_13).toInt) then
                  ((F16.P a0_0 a0_1 a0_2 a0_3 a0_4 a0_5 a0_6 a0_7 a0_8).bind fun v_15 =>
                    if (v_15).isBool then ((F17.P a0_0 a0_1 a0_2 a0_3 a0_4 a0_5 a0_6 a0_7 a0_8).bind fun v_17 =>
                      if (v_17).isBool then (if ((v_15).toBool) == ((v_17).toBool) then
                        ((F9.P).bind fun v_19 =>
                          if (v_19).isBool then some (.bool ((v_19).toBool)) else none)
                        else
                        (some (.bool false))) else none) else none)
                  else
                  (some (.bool false))) else none) else none)
            else
            (some (.bool false)))
          else
          (some (.bool false))) else none) else none) else none) else none) else none) else none)
noncomputable def P (a0_0 a0_1 : ByteArray) (a0_2 : Int) (a0_3 : Bool) (a0_4 a0_5 : Int) (a0_6 : ByteArray) (a0_7 : Int) (a0_8 : List (List AV)) : Option AV := lim fun fu =>
    if ltI 20 (lenI a0_8) then
    ((F9.P).bind fun v_1 =>
      if (v_1).isBool then some (.bool ((v_1).toBool)) else none)
    else
    (PL a0_0 a0_1 a0_2 a0_3 a0_4 a0_5 a0_6 a0_7 a0_8 fu (.l0 0))
theorem PL_ok {a0_0 a0_1 : ByteArray} {a0_2 : Int} {a0_3 : Bool} {a0_4 a0_5 : Int} {a0_6 : ByteArray} {a0_7 : Int} {a0_8 : List (List AV)} {Q : Qt} {v : AV} (hQ : ∀ H, Q v H) : ∀ (fu : Nat) (s : LS) (H : Heap), PL a0_0 a0_1 a0_2 a0_3 a0_4 a0_5 a0_6 a0_7 a0_8 fu s = some v → match s with | .l0 x17 => L0 a0_0 a0_1 a0_2 a0_3 a0_4 a0_5 a0_6 a0_7 a0_8 Q x17 H := by
  intro fu
  induction fu with
  | zero => intro s H h; exact absurd h (by cases s <;> simp only [PL] <;> exact nofun)
  | succ fu ih =>
    intro s H
    cases s with
    | l0 x17 =>
      show PL a0_0 a0_1 a0_2 a0_3 a0_4 a0_5 a0_6 a0_7 a0_8 (fu + 1) (.l0 x17) = some v → L0 a0_0 a0_1 a0_2 a0_3 a0_4 a0_5 a0_6 a0_7 a0_8 Q x17 H
      rw [PL]
      refine fun h => L0_step (?_ : r0 a0_0 a0_1 a0_2 a0_3 a0_4 a0_5 a0_6 a0_7 a0_8 Q x17 H)
      revert h
      unfold r0
      repeat' first | exact lsV hQ | exact lsF | apply lsG | apply lsC | refine F12.ls fun _ _ => ?_ | refine F13.ls fun _ _ => ?_ | refine F14.ls fun _ _ => ?_ | refine F15.ls fun _ _ => ?_ | refine F16.ls fun _ _ => ?_ | refine F17.ls fun _ _ => ?_ | refine F9.ls fun _ _ => ?_ | exact fun h => ih _ _ h
theorem ok {a0_0 a0_1 : ByteArray} {a0_2 : Int} {a0_3 : Bool} {a0_4 a0_5 : Int} {a0_6 : ByteArray} {a0_7 : Int} {a0_8 : List (List AV)} {v : AV} (h : P a0_0 a0_1 a0_2 a0_3 a0_4 a0_5 a0_6 a0_7 a0_8 = some v) {H : Heap} {Q : Qt} (hQ : ∀ H, Q v H) : C 4 [.agg [.str a0_0, .str a0_1, .int .i64 a0_2, .bool a0_3, .int .i64 a0_4, .int .i64 a0_5, .str a0_6, .int .i64 a0_7, .sl 0 2 a0_8]] H Q := by
  refine call ?_
  unfold t
  unfold P at h
  obtain ⟨fu, h⟩ := lim_some h
  revert h
  repeat' first | exact lsV hQ | exact lsF | apply lsG | apply lsC | refine F9.ls fun _ _ => ?_ | exact fun h => PL_ok hQ _ _ _ h
theorem ls {a0_0 a0_1 : ByteArray} {a0_2 : Int} {a0_3 : Bool} {a0_4 a0_5 : Int} {a0_6 : ByteArray} {a0_7 : Int} {a0_8 : List (List AV)} {v : AV} {H : Heap} {k : AV → Option AV} {K : Qt} (h : ∀ w H, k w = some v → K w H) : (P a0_0 a0_1 a0_2 a0_3 a0_4 a0_5 a0_6 a0_7 a0_8).bind k = some v → C 4 [.agg [.str a0_0, .str a0_1, .int .i64 a0_2, .bool a0_3, .int .i64 a0_4, .int .i64 a0_5, .str a0_6, .int .i64 a0_7, .sl 0 2 a0_8]] H K := fun e => bind_ls (Cq := fun K => C 4 [.agg [.str a0_0, .str a0_1, .int .i64 a0_2, .bool a0_3, .int .i64 a0_4, .int .i64 a0_5, .str a0_6, .int .i64 a0_7, .sl 0 2 a0_8]] H K) (fun h => ok h) h e
end F4
/-! ### broker/brokerref01.Has: function 64 -/
namespace F64
inductive LS where
  | l0 (x5i : Int)
noncomputable def PL (a0 : ByteArray) (a1 : Int) : Nat → LS → Option AV
  | 0, _ => none
  | fu + 1, .l0 x5i =>
    if ltI x5i (sizeI a0) then
    (if leI 0 x5i then (if ltI x5i (sizeI a0) then (if eqI (bt a0 x5i) a1 then
      (some (.bool true))
      else
      (PL a0 a1 fu (.l0 (addW .i64 x5i 1)))) else none) else none)
    else
    (some (.bool false))
noncomputable def P (a0 : ByteArray) (a1 : Int) : Option AV := lim fun fu =>
    PL a0 a1 fu (.l0 0)
theorem PL_ok {a0 : ByteArray} {a1 : Int} {Q : Qt} {v : AV} (hQ : ∀ H, Q v H) : ∀ (fu : Nat) (s : LS) (H : Heap), PL a0 a1 fu s = some v → match s with | .l0 x5i => L0 a0 a1 Q x5i H := by
  intro fu
  induction fu with
  | zero => intro s H h; exact absurd h (by cases s <;> simp only [PL] <;> exact nofun)
  | succ fu ih =>
    intro s H
    cases s with
    | l0 x5i =>
      show PL a0 a1 (fu + 1) (.l0 x5i) = some v → L0 a0 a1 Q x5i H
      rw [PL]
      refine fun h => L0_step (?_ : r0 a0 a1 Q x5i H)
      revert h
      unfold r0
      repeat' first | exact lsV hQ | exact lsF | apply lsG | apply lsC | exact fun h => ih _ _ h
theorem ok {a0 : ByteArray} {a1 : Int} {v : AV} (h : P a0 a1 = some v) {H : Heap} {Q : Qt} (hQ : ∀ H, Q v H) : C 64 [.str a0, .int .u8 a1] H Q := by
  refine call ?_
  unfold t
  unfold P at h
  obtain ⟨fu, h⟩ := lim_some h
  revert h
  repeat' first | exact lsV hQ | exact lsF | apply lsG | apply lsC | exact fun h => PL_ok hQ _ _ _ h
theorem ls {a0 : ByteArray} {a1 : Int} {v : AV} {H : Heap} {k : AV → Option AV} {K : Qt} (h : ∀ w H, k w = some v → K w H) : (P a0 a1).bind k = some v → C 64 [.str a0, .int .u8 a1] H K := fun e => bind_ls (Cq := fun K => C 64 [.str a0, .int .u8 a1] H K) (fun h => ok h) h e
end F64
/-! ### broker/brokerref01.Levels: function 83 -/
namespace F83
inductive LS where
  | l0 (x3out : List (List AV)) (x4from x5i : Int)
noncomputable def PL (a0 : ByteArray) : Nat → LS → Option AV
  | 0, _ => none
  | fu + 1, .l0 x3out x4from x5i =>
    if ltI x5i (sizeI a0) then
    (if leI 0 x5i then (if ltI x5i (sizeI a0) then (if eqI (bt a0 x5i) 47 then
      (if leI 0 x4from then (if leI x4from x5i then (if leI x5i (sizeI a0) then (if room x3out [[.str (a0.extract x4from.toNat x5i.toNat)]] 16 then PL a0 fu (.l0 (x3out ++ [[.str (a0.extract x4from.toNat x5i.toNat)]]) (addW .i64 x5i 1) (addW .i64 x5i 1)) else none) else none) else none) else none)
      else
      (PL a0 fu (.l0 x3out x4from (addW .i64 x5i 1)))) else none) else none)
    else
    (if leI 0 x4from then (if leI x4from (sizeI a0) then (if leI (sizeI a0) (sizeI a0) then (if room x3out [[.str (a0.extract x4from.toNat ((sizeI a0).toNat))]] 16 then some (.sl 0 1 (x3out ++ [[.str (a0.extract x4from.toNat ((sizeI a0).toNat))]])) else none) else none) else none) else none)
noncomputable def P (a0 : ByteArray) : Option AV := lim fun fu =>
    PL a0 fu (.l0 [] 0 0)
theorem PL_ok {a0 : ByteArray} {Q : Qt} {v : AV} (hQ : ∀ H, Q v H) : ∀ (fu : Nat) (s : LS) (H : Heap), PL a0 fu s = some v → match s with | .l0 x3out x4from x5i => L0 a0 Q x3out x4from x5i H := by
  intro fu
  induction fu with
  | zero => intro s H h; exact absurd h (by cases s <;> simp only [PL] <;> exact nofun)
  | succ fu ih =>
    intro s H
    cases s with
    | l0 x3out x4from x5i =>
      show PL a0 (fu + 1) (.l0 x3out x4from x5i) = some v → L0 a0 Q x3out x4from x5i H
      rw [PL]
      refine fun h => L0_step (?_ : r0 a0 Q x3out x4from x5i H)
      revert h
      unfold r0
      repeat' first | exact lsV hQ | exact lsF | apply lsG | apply lsC | exact fun h => ih _ _ h
theorem ok {a0 : ByteArray} {v : AV} (h : P a0 = some v) {H : Heap} {Q : Qt} (hQ : ∀ H, Q v H) : C 83 [.str a0] H Q := by
  refine call ?_
  unfold t
  unfold P at h
  obtain ⟨fu, h⟩ := lim_some h
  revert h
  repeat' first | exact lsV hQ | exact lsF | apply lsG | apply lsC | exact fun h => PL_ok hQ _ _ _ h
theorem ls {a0 : ByteArray} {v : AV} {H : Heap} {k : AV → Option AV} {K : Qt} (h : ∀ w H, k w = some v → K w H) : (P a0).bind k = some v → C 83 [.str a0] H K := fun e => bind_ls (Cq := fun K => C 83 [.str a0] H K) (fun h => ok h) h e
end F83
/-! ### broker/brokerref01.sized: function 63 -/
namespace F63
noncomputable def P (a0 : ByteArray) : Option AV :=
    if leI 1 (sizeI a0) then
    (if leI (sizeI a0) 64 then
      ((F64.P a0 0).bind fun v_1 =>
        if (v_1).isBool then (if !((v_1).toBool) then
          ((F83.P a0).bind fun v_3 =>
            if (v_3).isSl 1 then some (.bool (leI (lenI ((v_3).slXs)) 8)) else none)
          else
          (some (.bool false))) else none)
      else
      (some (.bool false)))
    else
    (some (.bool false))
theorem ok {a0 : ByteArray} {v : AV} (h : P a0 = some v) {H : Heap} {Q : Qt} (hQ : ∀ H, Q v H) : C 63 [.str a0] H Q := by
  refine call ?_
  unfold t
  unfold P at h
  revert h
  repeat' first | exact lsV hQ | exact lsF | apply lsG | apply lsC | refine F64.ls fun _ _ => ?_ | refine F83.ls fun _ _ => ?_
theorem ls {a0 : ByteArray} {v : AV} {H : Heap} {k : AV → Option AV} {K : Qt} (h : ∀ w H, k w = some v → K w H) : (P a0).bind k = some v → C 63 [.str a0] H K := fun e => bind_ls (Cq := fun K => C 63 [.str a0] H K) (fun h => ok h) h e
end F63
/-! ### broker/brokerref01.Valid: function 48 -/
namespace F48
noncomputable def P (a0 : ByteArray) : Option AV :=
    (F63.P a0).bind fun v_1 =>
    if (v_1).isBool then (if (v_1).toBool then
      ((F64.P a0 43).bind fun v_3 =>
        if (v_3).isBool then (if !((v_3).toBool) then
          ((F64.P a0 35).bind fun v_5 =>
            if (v_5).isBool then some (.bool (!((v_5).toBool))) else none)
          else
          (some (.bool false))) else none)
      else
      (some (.bool false))) else none
theorem ok {a0 : ByteArray} {v : AV} (h : P a0 = some v) {H : Heap} {Q : Qt} (hQ : ∀ H, Q v H) : C 48 [.str a0] H Q := by
  refine call ?_
  unfold t
  unfold P at h
  revert h
  repeat' first | exact lsV hQ | exact lsF | apply lsG | apply lsC | refine F63.ls fun _ _ => ?_ | refine F64.ls fun _ _ => ?_
theorem ls {a0 : ByteArray} {v : AV} {H : Heap} {k : AV → Option AV} {K : Qt} (h : ∀ w H, k w = some v → K w H) : (P a0).bind k = some v → C 48 [.str a0] H K := fun e => bind_ls (Cq := fun K => C 48 [.str a0] H K) (fun h => ok h) h e
end F48
/-! ### broker/brokerref05.Key: function 65 -/
namespace F65
inductive LS where
  | l0 (x3i : Int)
  | lR7 (x3i : Int) (x41 : Bool)
noncomputable def PL (a0 : ByteArray) : Nat → LS → Option AV
  | 0, _ => none
  | fu + 1, .l0 x3i =>
    if ltI x3i (sizeI a0) then
    (if leI 0 x3i then (if ltI x3i (sizeI a0) then (if leI 97 (bt a0 x3i) then
      (if !(leI (bt a0 x3i) 122) then
        (if leI 48 (bt a0 x3i) then
          (if !(leI (bt a0 x3i) 57) then
            (PL a0 fu (.lR7 x3i (!(eqI (bt a0 x3i) 45))))
            else
            (PL a0 fu (.lR7 x3i false)))
          else
          (PL a0 fu (.lR7 x3i (!(eqI (bt a0 x3i) 45)))))
        else
        (PL a0 fu (.lR7 x3i false)))
      else
      (if leI 48 (bt a0 x3i) then
        (if !(leI (bt a0 x3i) 57) then
          (PL a0 fu (.lR7 x3i (!(eqI (bt a0 x3i) 45))))
          else
          (PL a0 fu (.lR7 x3i false)))
        else
        (PL a0 fu (.lR7 x3i (!(eqI (bt a0 x3i) 45)))))) else none) else none)
    else
    (some (.bool true))
  | fu + 1, .lR7 x3i x41 =>
    if x41 then
    (some (.bool false))
    else
    (PL a0 fu (.l0 (addW .i64 x3i 1)))
noncomputable def P (a0 : ByteArray) : Option AV := lim fun fu =>
    if ltI (sizeI a0) 1 then
    (some (.bool false))
    else
    (if ltI 16 (sizeI a0) then
      (some (.bool false))
      else
      (PL a0 fu (.l0 0)))
theorem PL_ok {a0 : ByteArray} {Q : Qt} {v : AV} (hQ : ∀ H, Q v H) : ∀ (fu : Nat) (s : LS) (H : Heap), PL a0 fu s = some v → match s with | .l0 x3i => L0 a0 Q x3i H | .lR7 x3i x41 => JR7 a0 Q x3i x41 H := by
  intro fu
  induction fu with
  | zero => intro s H h; exact absurd h (by cases s <;> simp only [PL] <;> exact nofun)
  | succ fu ih =>
    intro s H
    cases s with
    | l0 x3i =>
      show PL a0 (fu + 1) (.l0 x3i) = some v → L0 a0 Q x3i H
      rw [PL]
      refine fun h => L0_step (?_ : r0 a0 Q x3i H)
      revert h
      unfold r0
      repeat' first | exact lsV hQ | exact lsF | apply lsG | apply lsC | exact fun h => ih _ _ h
    | lR7 x3i x41 =>
      show PL a0 (fu + 1) (.lR7 x3i x41) = some v → JR7 a0 Q x3i x41 H
      rw [PL]
      refine fun h => JR7_step (?_ : jR7 a0 Q x3i x41 H)
      revert h
      unfold jR7
      repeat' first | exact lsV hQ | exact lsF | apply lsG | apply lsC | exact fun h => ih _ _ h
theorem ok {a0 : ByteArray} {v : AV} (h : P a0 = some v) {H : Heap} {Q : Qt} (hQ : ∀ H, Q v H) : C 65 [.str a0] H Q := by
  refine call ?_
  unfold t
  unfold P at h
  obtain ⟨fu, h⟩ := lim_some h
  revert h
  repeat' first | exact lsV hQ | exact lsF | apply lsG | apply lsC | exact fun h => PL_ok hQ _ _ _ h
theorem ls {a0 : ByteArray} {v : AV} {H : Heap} {k : AV → Option AV} {K : Qt} (h : ∀ w H, k w = some v → K w H) : (P a0).bind k = some v → C 65 [.str a0] H K := fun e => bind_ls (Cq := fun K => C 65 [.str a0] H K) (fun h => ok h) h e
end F65
/-! ### broker/brokerref05.Props: function 49 -/
namespace F49
inductive LS where
  | l0 (x3i : Int)
noncomputable def PL (a0 : List (List AV)) : Nat → LS → Option AV
  | 0, _ => none
  | fu + 1, .l0 x3i =>
    if ltI x3i (lenI a0) then
    (if leI 0 x3i then (if ltI x3i (lenI a0) then (if (ce (ro a0 x3i.toNat) 0).isStr then ((F65.P ((ce (ro a0 x3i.toNat) 0).toStr)).bind fun v_1 =>
      if (v_1).isBool then (if !((v_1).toBool) then
        (some (.int .i64 16))
        else
        (if leI 0 x3i then (if ltI x3i (lenI a0) then (if (ce (ro a0 x3i.toNat) 1).isStr then (if ltI 160 (sizeI ((ce (ro a0 x3i.toNat) 1).toStr)) then
          (some (.int .i64 5))
          else
          (if ltI 0 x3i then
            (if leI 0 x3i then (if ltI x3i (lenI a0) then (if (ce (ro a0 x3i.toNat) 0).isStr then (if leI 0 (subW .i64 x3i 1) then (if ltI (subW .i64 x3i 1) (lenI a0) then (if (ce (ro a0 ((subW .i64 x3i 1).toNat)) 0).isStr then (if !(ltS ((ce (ro a0 ((subW .i64 x3i 1).toNat)) 0).toStr) ((ce (ro a0 x3i.toNat) 0).toStr)) then
              (some (.int .i64 16))
              else
              (PL a0 fu (.l0 (addW .i64 x3i 1)))) else none) else none) else none) else none) else none) else none)
            else
            (PL a0 fu (.l0 (addW .i64 x3i 1))))) else none) else none) else none)) else none) else none) else none) else none)
    else
    (some (.int .i64 0))
noncomputable def P (a0 : List (List AV)) : Option AV := lim fun fu =>
    if ltI 8 (lenI a0) then
    (some (.int .i64 5))
    else
    (PL a0 fu (.l0 0))
theorem PL_ok {a0 : List (List AV)} {Q : Qt} {v : AV} (hQ : ∀ H, Q v H) : ∀ (fu : Nat) (s : LS) (H : Heap), PL a0 fu s = some v → match s with | .l0 x3i => L0 a0 Q x3i H := by
  intro fu
  induction fu with
  | zero => intro s H h; exact absurd h (by cases s <;> simp only [PL] <;> exact nofun)
  | succ fu ih =>
    intro s H
    cases s with
    | l0 x3i =>
      show PL a0 (fu + 1) (.l0 x3i) = some v → L0 a0 Q x3i H
      rw [PL]
      refine fun h => L0_step (?_ : r0 a0 Q x3i H)
      revert h
      unfold r0
      repeat' first | exact lsV hQ | exact lsF | apply lsG | apply lsC | refine F65.ls fun _ _ => ?_ | exact fun h => ih _ _ h
theorem ok {a0 : List (List AV)} {v : AV} (h : P a0 = some v) {H : Heap} {Q : Qt} (hQ : ∀ H, Q v H) : C 49 [.sl 0 2 a0] H Q := by
  refine call ?_
  unfold t
  unfold P at h
  obtain ⟨fu, h⟩ := lim_some h
  revert h
  repeat' first | exact lsV hQ | exact lsF | apply lsG | apply lsC | exact fun h => PL_ok hQ _ _ _ h
theorem ls {a0 : List (List AV)} {v : AV} {H : Heap} {k : AV → Option AV} {K : Qt} (h : ∀ w H, k w = some v → K w H) : (P a0).bind k = some v → C 49 [.sl 0 2 a0] H K := fun e => bind_ls (Cq := fun K => C 49 [.sl 0 2 a0] H K) (fun h => ok h) h e
end F49
/-! ### broker/brokerref05.Check: function 35 -/
namespace F35
inductive LS where
  | lR7 (x36 : Bool)
noncomputable def PL (a0_0 a0_1 : ByteArray) (a0_2 : Int) (a0_3 : Bool) (a0_4 a0_5 : Int) (a0_6 : ByteArray) (a0_7 : Int) (a0_8 : List (List AV)) : Nat → LS → Option AV
  | 0, _ => none
  | fu + 1, .lR7 x36 =>
    if x36 then
    (some (.int .i64 1))
    else
    (if !(eqS a0_6 (⟨#[]⟩ : ByteArray)) then
      ((F25.P a0_6).bind fun v_3 =>
        if (v_3).isBool then (if !((v_3).toBool) then
          (some (.int .i64 11))
          else
          (if ltI a0_7 0 then
            (some (.int .i64 1))
            else
            (if ltI 1099511627776 a0_7 then
              (some (.int .i64 1))
              else
              ((F49.P a0_8).bind fun v_5 =>
                if (v_5).isInt .i64 then some (.int .i64 ((v_5).toInt)) else none)))) else none)
      else
      (if ltI a0_7 0 then
        (some (.int .i64 1))
        else
        (if ltI 1099511627776 a0_7 then
          (some (.int .i64 1))
          else
          ((F49.P a0_8).bind fun v_7 =>
            if (v_7).isInt .i64 then some (.int .i64 ((v_7).toInt)) else none))))
noncomputable def P (a0_0 a0_1 : ByteArray) (a0_2 : Int) (a0_3 : Bool) (a0_4 a0_5 : Int) (a0_6 : ByteArray) (a0_7 : Int) (a0_8 : List (List AV)) : Option AV := lim fun fu =>
    (F48.P a0_0).bind fun v_1 =>
    if (v_1).isBool then (if !((v_1).toBool) then
      (some (.int .i64 12))
      else
      (if ltI 256 (sizeI a0_1) then
        (some (.int .i64 5))
        else
        (if ltI a0_2 0 then
          (some (.int .i64 14))
          else
          (if ltI 2 a0_2 then
            (some (.int .i64 14))
            else
            (if ltI a0_4 0 then
              (PL a0_0 a0_1 a0_2 a0_3 a0_4 a0_5 a0_6 a0_7 a0_8 fu (.lR7 true))
              else
              (if ltI 9 a0_4 then
                (PL a0_0 a0_1 a0_2 a0_3 a0_4 a0_5 a0_6 a0_7 a0_8 fu (.lR7 true))
                else
                (if ltI a0_5 0 then
                  (PL a0_0 a0_1 a0_2 a0_3 a0_4 a0_5 a0_6 a0_7 a0_8 fu (.lR7 true))
                  else
                  (PL a0_0 a0_1 a0_2 a0_3 a0_4 a0_5 a0_6 a0_7 a0_8 fu (.lR7 (ltI 1099511627776 a0_5)))))))))) else none
theorem PL_ok {a0_0 a0_1 : ByteArray} {a0_2 : Int} {a0_3 : Bool} {a0_4 a0_5 : Int} {a0_6 : ByteArray} {a0_7 : Int} {a0_8 : List (List AV)} {Q : Qt} {v : AV} (hQ : ∀ H, Q v H) : ∀ (fu : Nat) (s : LS) (H : Heap), PL a0_0 a0_1 a0_2 a0_3 a0_4 a0_5 a0_6 a0_7 a0_8 fu s = some v → match s with | .lR7 x36 => JR7 a0_0 a0_1 a0_2 a0_3 a0_4 a0_5 a0_6 a0_7 a0_8 Q x36 H := by
  intro fu
  induction fu with
  | zero => intro s H h; exact absurd h (by cases s <;> simp only [PL] <;> exact nofun)
  | succ fu ih =>
    intro s H
    cases s with
    | lR7 x36 =>
      show PL a0_0 a0_1 a0_2 a0_3 a0_4 a0_5 a0_6 a0_7 a0_8 (fu + 1) (.lR7 x36) = some v → JR7 a0_0 a0_1 a0_2 a0_3 a0_4 a0_5 a0_6 a0_7 a0_8 Q x36 H
      rw [PL]
      refine fun h => JR7_step (?_ : jR7 a0_0 a0_1 a0_2 a0_3 a0_4 a0_5 a0_6 a0_7 a0_8 Q x36 H)
      revert h
      unfold jR7
      repeat' first | exact lsV hQ | exact lsF | apply lsG | apply lsC | refine F25.ls fun _ _ => ?_ | refine F49.ls fun _ _ => ?_ | exact fun h => ih _ _ h
theorem ok {a0_0 a0_1 : ByteArray} {a0_2 : Int} {a0_3 : Bool} {a0_4 a0_5 : Int} {a0_6 : ByteArray} {a0_7 : Int} {a0_8 : List (List AV)} {v : AV} (h : P a0_0 a0_1 a0_2 a0_3 a0_4 a0_5 a0_6 a0_7 a0_8 = some v) {H : Heap} {Q : Qt} (hQ : ∀ H, Q v H) : C 35 [.agg [.str a0_0, .str a0_1, .int .i64 a0_2, .bool a0_3, .int .i64 a0_4, .int .i64 a0_5, .str a0_6, .int .i64 a0_7, .sl 0 2 a0_8]] H Q := by
  refine call ?_
  unfold t
  unfold P at h
  obtain ⟨fu, h⟩ := lim_some h
  revert h
  repeat' first | exact lsV hQ | exact lsF | apply lsG | apply lsC | refine F48.ls fun _ _ => ?_ | exact fun h => PL_ok hQ _ _ _ h
theorem ls {a0_0 a0_1 : ByteArray} {a0_2 : Int} {a0_3 : Bool} {a0_4 a0_5 : Int} {a0_6 : ByteArray} {a0_7 : Int} {a0_8 : List (List AV)} {v : AV} {H : Heap} {k : AV → Option AV} {K : Qt} (h : ∀ w H, k w = some v → K w H) : (P a0_0 a0_1 a0_2 a0_3 a0_4 a0_5 a0_6 a0_7 a0_8).bind k = some v → C 35 [.agg [.str a0_0, .str a0_1, .int .i64 a0_2, .bool a0_3, .int .i64 a0_4, .int .i64 a0_5, .str a0_6, .int .i64 a0_7, .sl 0 2 a0_8]] H K := fun e => bind_ls (Cq := fun K => C 35 [.agg [.str a0_0, .str a0_1, .int .i64 a0_2, .bool a0_3, .int .i64 a0_4, .int .i64 a0_5, .str a0_6, .int .i64 a0_7, .sl 0 2 a0_8]] H K) (fun h => ok h) h e
end F35
/-! ### broker/brokerlaw28.fits: function 18 -/
namespace F18
noncomputable def P (a0 a1_0 a1_1 : ByteArray) (a1_2 : Int) (a1_3 : Bool) (a1_4 a1_5 : Int) (a1_6 : ByteArray) (a1_7 : Int) (a1_8 : List (List AV)) (a2 : Int) : Option AV :=
    (F25.P a0).bind fun v_1 =>
    if (v_1).isBool then (if (v_1).toBool then
      ((F35.P a1_0 a1_1 a1_2 a1_3 a1_4 a1_5 a1_6 a1_7 a1_8).bind fun v_3 =>
        if (v_3).isInt .i64 then (if eqI ((v_3).toInt) 0 then
          (if leI 1 a2 then
            (some (.bool (leI a2 4)))
            else
            (some (.bool false)))
          else
          (some (.bool false))) else none)
      else
      (some (.bool false))) else none
theorem ok {a0 a1_0 a1_1 : ByteArray} {a1_2 : Int} {a1_3 : Bool} {a1_4 a1_5 : Int} {a1_6 : ByteArray} {a1_7 : Int} {a1_8 : List (List AV)} {a2 : Int} {v : AV} (h : P a0 a1_0 a1_1 a1_2 a1_3 a1_4 a1_5 a1_6 a1_7 a1_8 a2 = some v) {H : Heap} {Q : Qt} (hQ : ∀ H, Q v H) : C 18 [.str a0, .agg [.str a1_0, .str a1_1, .int .i64 a1_2, .bool a1_3, .int .i64 a1_4, .int .i64 a1_5, .str a1_6, .int .i64 a1_7, .sl 0 2 a1_8], .int .i64 a2] H Q := by
  refine call ?_
  unfold t
  unfold P at h
  revert h
  repeat' first | exact lsV hQ | exact lsF | apply lsG | apply lsC | refine F25.ls fun _ _ => ?_ | refine F35.ls fun _ _ => ?_
theorem ls {a0 a1_0 a1_1 : ByteArray} {a1_2 : Int} {a1_3 : Bool} {a1_4 a1_5 : Int} {a1_6 : ByteArray} {a1_7 : Int} {a1_8 : List (List AV)} {a2 : Int} {v : AV} {H : Heap} {k : AV → Option AV} {K : Qt} (h : ∀ w H, k w = some v → K w H) : (P a0 a1_0 a1_1 a1_2 a1_3 a1_4 a1_5 a1_6 a1_7 a1_8 a2).bind k = some v → C 18 [.str a0, .agg [.str a1_0, .str a1_1, .int .i64 a1_2, .bool a1_3, .int .i64 a1_4, .int .i64 a1_5, .str a1_6, .int .i64 a1_7, .sl 0 2 a1_8], .int .i64 a2] H K := fun e => bind_ls (Cq := fun K => C 18 [.str a0, .agg [.str a1_0, .str a1_1, .int .i64 a1_2, .bool a1_3, .int .i64 a1_4, .int .i64 a1_5, .str a1_6, .int .i64 a1_7, .sl 0 2 a1_8], .int .i64 a2] H K) (fun h => ok h) h e
end F18
/-! ### broker/brokerlaw28.DeadEnds: function 5 -/
namespace F5
inductive LS where
  | l0 (x5n x6k : Int) (m0_0 m0_1 : ByteArray) (m0_2 : Int) (m0_3 : Bool) (m0_4 m0_5 : Int) (m0_6 : ByteArray) (m0_7 : Int) (m0_8 : List (List AV))
noncomputable def PL (a0_0 a0_1 : ByteArray) (a0_2 : Int) (a0_3 : Bool) (a0_4 a0_5 : Int) (a0_6 : ByteArray) (a0_7 : Int) (a0_8 : List (List AV)) (a1 : Int) : Nat → LS → Option AV
  | 0, _ => none
  | fu + 1, .l0 x5n x6k m0_0 m0_1 m0_2 m0_3 m0_4 m0_5 m0_6 m0_7 m0_8 =>
    if leI x6k 8 then
    ((F16.P m0_0 m0_1 m0_2 m0_3 m0_4 m0_5 m0_6 m0_7 m0_8).bind fun v_7 =>
      if (v_7).isBool then (if !((v_7).toBool) then
        (if eqI x6k x5n then
          ((F9.P).bind fun v_9 =>
            if (v_9).isBool then some (.bool ((v_9).toBool)) else none)
          else
          (some (.bool false)))
        else
        ((F19.P (⟨#[113]⟩ : ByteArray) m0_0 m0_1 m0_2 m0_3 m0_4 m0_5 m0_6 m0_7 m0_8 a1).bind fun v_11 =>
          if ((v_11).isAgg && Nat.beq (v_11).aggCs.length 9) then (if (((v_11).aggCs).headD .any).isStr then (if ((((v_11).aggCs).tail).headD .any).isStr then (if (((((v_11).aggCs).tail).tail).headD .any).isInt .i64 then (if ((((((v_11).aggCs).tail).tail).tail).headD .any).isBool then (if (((((((v_11).aggCs).tail).tail).tail).tail).headD .any).isInt .i64 then (if ((((((((v_11).aggCs).tail).tail).tail).tail).tail).headD .any).isInt .i64 then (if (((((((((v_11).aggCs).tail).tail).tail).tail).tail).tail).headD .any).isStr then (if ((((((((((v_11).aggCs).tail).tail).tail).tail).tail).tail).tail).headD .any).isInt .i64 then (if (((((((((((v_11).aggCs).tail).tail).tail).tail).tail).tail).tail).tail).headD .any).isSl 2 then PL a0_0 a0_1 a0_2 a0_3 a0_4 a0_5 a0_6 a0_7 a0_8 a1 fu (.l0 x5n (addW .i64 x6k 1) ((((v_11).aggCs).headD .any).toStr) (((((v_11).aggCs).tail).headD .any).toStr) ((((((v_11).aggCs).tail).tail).headD .any).toInt) (((((((v_11).aggCs).tail).tail).tail).headD .any).toBool) ((((((((v_11).aggCs).tail).tail).tail).tail).headD .any).toInt) (((((((((v_11).aggCs).tail).tail).tail).tail).tail).headD .any).toInt) ((((((((((v_11).aggCs).tail).tail).tail).tail).tail).tail).headD .any).toStr) (((((((((((v_11).aggCs).tail).tail).tail).tail).tail).tail).tail).headD .any).toInt) ((((((((((((v_11).aggCs).tail).tail).tail).tail).tail).tail).tail).tail).headD .any).slXs)) else none) else none) else none) else none) else none) else none) else none) else none) else none) else none)) else none)
    else
    (some (.bool false))
noncomputable def P (a0_0 a0_1 : ByteArray) (a0_2 : Int) (a0_3 : Bool) (a0_4 a0_5 : Int) (a0_6 : ByteArray) (a0_7 : Int) (a0_8 : List (List AV)) (a1 : Int) : Option AV := lim fun fu =>
    (F18.P (⟨#[113]⟩ : ByteArray) a0_0 a0_1 a0_2 a0_3 a0_4 a0_5 a0_6 a0_7 a0_8 a1).bind fun v_1 =>
    if (v_1).isBool then (if !((v_1).toBool) then
      ((F9.P).bind fun v_3 =>
        if (v_3).isBool then some (.bool ((v_3).toBool)) else none)
      else
      ((F14.P a0_0 a0_1 a0_2 a0_3 a0_4 a0_5 a0_6 a0_7 a0_8).bind fun v_5 =>
        if (v_5).isInt .i64 then PL a0_0 a0_1 a0_2 a0_3 a0_4 a0_5 a0_6 a0_7 a0_8 a1 fu (.l0 (cond (ltI (subW .i64 8 ((v_5).toInt)) 0) 0 (subW .i64 8 ((v_5).toInt))) 0 a0_0 a0_1 a0_2 a0_3 a0_4 a0_5 a0_6 a0_7 a0_8) else none)) else none
theorem PL_ok {a0_0 a0_1 : ByteArray} {a0_2 : Int} {a0_3 : Bool} {a0_4 a0_5 : Int} {a0_6 : ByteArray} {a0_7 : Int} {a0_8 : List (List AV)} {a1 : Int} {Q : Qt} {v : AV} (hQ : ∀ H, Q v H) : ∀ (fu : Nat) (s : LS) (H : Heap), PL a0_0 a0_1 a0_2 a0_3 a0_4 a0_5 a0_6 a0_7 a0_8 a1 fu s = some v → match s with | .l0 x5n x6k m0_0 m0_1 m0_2 m0_3 m0_4 m0_5 m0_6 m0_7 m0_8 => L0 a0_0 a0_1 a0_2 a0_3 a0_4 a0_5 a0_6 a0_7 a0_8 a1 Q x5n x6k m0_0 m0_1 m0_2 m0_3 m0_4 m0_5 m0_6 m0_7 m0_8 H := by
  intro fu
  induction fu with
  | zero => intro s H h; exact absurd h (by cases s <;> simp only [PL] <;> exact nofun)
  | succ fu ih =>
    intro s H
    cases s with
    | l0 x5n x6k m0_0 m0_1 m0_2 m0_3 m0_4 m0_5 m0_6 m0_7 m0_8 =>
      show PL a0_0 a0_1 a0_2 a0_3 a0_4 a0_5 a0_6 a0_7 a0_8 a1 (fu + 1) (.l0 x5n x6k m0_0 m0_1 m0_2 m0_3 m0_4 m0_5 m0_6 m0_7 m0_8) = some v → L0 a0_0 a0_1 a0_2 a0_3 a0_4 a0_5 a0_6 a0_7 a0_8 a1 Q x5n x6k m0_0 m0_1 m0_2 m0_3 m0_4 m0_5 m0_6 m0_7 m0_8 H
      rw [PL]
      refine fun h => L0_step (?_ : r0 a0_0 a0_1 a0_2 a0_3 a0_4 a0_5 a0_6 a0_7 a0_8 a1 Q x5n x6k m0_0 m0_1 m0_2 m0_3 m0_4 m0_5 m0_6 m0_7 m0_8 H)
      revert h
      unfold r0
      repeat' first | exact lsV hQ | exact lsF | apply lsG | apply lsC | refine F16.ls fun _ _ => ?_ | refine F19.ls fun _ _ => ?_ | refine F9.ls fun _ _ => ?_ | exact fun h => ih _ _ h
theorem ok {a0_0 a0_1 : ByteArray} {a0_2 : Int} {a0_3 : Bool} {a0_4 a0_5 : Int} {a0_6 : ByteArray} {a0_7 : Int} {a0_8 : List (List AV)} {a1 : Int} {v : AV} (h : P a0_0 a0_1 a0_2 a0_3 a0_4 a0_5 a0_6 a0_7 a0_8 a1 = some v) {H : Heap} {Q : Qt} (hQ : ∀ H, Q v H) : C 5 [.agg [.str a0_0, .str a0_1, .int .i64 a0_2, .bool a0_3, .int .i64 a0_4, .int .i64 a0_5, .str a0_6, .int .i64 a0_7, .sl 0 2 a0_8], .int .i64 a1] H Q := by
  refine call ?_
  unfold t
  unfold P at h
  obtain ⟨fu, h⟩ := lim_some h
  revert h
  repeat' first | exact lsV hQ | exact lsF | apply lsG | apply lsC | refine F14.ls fun _ _ => ?_ | refine F18.ls fun _ _ => ?_ | refine F9.ls fun _ _ => ?_ | exact fun h => PL_ok hQ _ _ _ h
theorem ls {a0_0 a0_1 : ByteArray} {a0_2 : Int} {a0_3 : Bool} {a0_4 a0_5 : Int} {a0_6 : ByteArray} {a0_7 : Int} {a0_8 : List (List AV)} {a1 : Int} {v : AV} {H : Heap} {k : AV → Option AV} {K : Qt} (h : ∀ w H, k w = some v → K w H) : (P a0_0 a0_1 a0_2 a0_3 a0_4 a0_5 a0_6 a0_7 a0_8 a1).bind k = some v → C 5 [.agg [.str a0_0, .str a0_1, .int .i64 a0_2, .bool a0_3, .int .i64 a0_4, .int .i64 a0_5, .str a0_6, .int .i64 a0_7, .sl 0 2 a0_8], .int .i64 a1] H K := fun e => bind_ls (Cq := fun K => C 5 [.agg [.str a0_0, .str a0_1, .int .i64 a0_2, .bool a0_3, .int .i64 a0_4, .int .i64 a0_5, .str a0_6, .int .i64 a0_7, .sl 0 2 a0_8], .int .i64 a1] H K) (fun h => ok h) h e
end F5
/-! ### broker/topic.sized: function 55 -/
namespace F55
inductive LS where
  | l0 (x3levels : Int) (it0 : Nat)
noncomputable def PL (a0 : ByteArray) : Nat → LS → Option AV
  | 0, _ => none
  | fu + 1, .l0 x3levels it0 =>
    if Nat.blt it0 a0.size then
    (if eqI ((Utf8.decode a0 it0).1 : Int) 0 then
      (some (.bool false))
      else
      (if eqI ((Utf8.decode a0 it0).1 : Int) 47 then
        (PL a0 fu (.l0 (addW .i64 x3levels 1) (it0 + (Utf8.decode a0 it0).2)))
        else
        (PL a0 fu (.l0 x3levels (it0 + (Utf8.decode a0 it0).2)))))
    else
    (some (.bool (leI x3levels 8)))
noncomputable def P (a0 : ByteArray) : Option AV := lim fun fu =>
    if ltI (sizeI a0) 1 then
    (some (.bool false))
    else
    (if ltI 64 (sizeI a0) then
      (some (.bool false))
      else
      (PL a0 fu (.l0 1 0)))
theorem PL_ok {a0 : ByteArray} {Q : Qt} {v : AV} (hQ : ∀ H, Q v H) : ∀ (fu : Nat) (s : LS) (H : Heap), PL a0 fu s = some v → match s with | .l0 x3levels it0 => L0 a0 Q x3levels it0 H := by
  intro fu
  induction fu with
  | zero => intro s H h; exact absurd h (by cases s <;> simp only [PL] <;> exact nofun)
  | succ fu ih =>
    intro s H
    cases s with
    | l0 x3levels it0 =>
      show PL a0 (fu + 1) (.l0 x3levels it0) = some v → L0 a0 Q x3levels it0 H
      rw [PL]
      refine fun h => L0_step (?_ : r0 a0 Q x3levels it0 H)
      revert h
      unfold r0
      repeat' first | exact lsV hQ | exact lsF | apply lsG | apply lsC | exact fun h => ih _ _ h
theorem ok {a0 : ByteArray} {v : AV} (h : P a0 = some v) {H : Heap} {Q : Qt} (hQ : ∀ H, Q v H) : C 55 [.str a0] H Q := by
  refine call ?_
  unfold t
  unfold P at h
  obtain ⟨fu, h⟩ := lim_some h
  revert h
  repeat' first | exact lsV hQ | exact lsF | apply lsG | apply lsC | exact fun h => PL_ok hQ _ _ _ h
theorem ls {a0 : ByteArray} {v : AV} {H : Heap} {k : AV → Option AV} {K : Qt} (h : ∀ w H, k w = some v → K w H) : (P a0).bind k = some v → C 55 [.str a0] H K := fun e => bind_ls (Cq := fun K => C 55 [.str a0] H K) (fun h => ok h) h e
end F55
/-! ### broker/topic.Valid: function 37 -/
namespace F37
inductive LS where
  | l0 (it0 : Nat)
noncomputable def PL (a0 : ByteArray) : Nat → LS → Option AV
  | 0, _ => none
  | fu + 1, .l0 it0 =>
    if Nat.blt it0 a0.size then
    (if eqI ((Utf8.decode a0 it0).1 : Int) 43 then
      (some (.bool false))
      else
      (if eqI ((Utf8.decode a0 it0).1 : Int) 35 then
        (some (.bool false))
        else
        (PL a0 fu (.l0 (it0 + (Utf8.decode a0 it0).2)))))
    else
    (some (.bool true))
noncomputable def P (a0 : ByteArray) : Option AV := lim fun fu =>
    (F55.P a0).bind fun v_1 =>
    if (v_1).isBool then (if !((v_1).toBool) then
      (some (.bool false))
      else
      (PL a0 fu (.l0 0))) else none
theorem PL_ok {a0 : ByteArray} {Q : Qt} {v : AV} (hQ : ∀ H, Q v H) : ∀ (fu : Nat) (s : LS) (H : Heap), PL a0 fu s = some v → match s with | .l0 it0 => L0 a0 Q it0 H := by
  intro fu
  induction fu with
  | zero => intro s H h; exact absurd h (by cases s <;> simp only [PL] <;> exact nofun)
  | succ fu ih =>
    intro s H
    cases s with
    | l0 it0 =>
      show PL a0 (fu + 1) (.l0 it0) = some v → L0 a0 Q it0 H
      rw [PL]
      refine fun h => L0_step (?_ : r0 a0 Q it0 H)
      revert h
      unfold r0
      repeat' first | exact lsV hQ | exact lsF | apply lsG | apply lsC | exact fun h => ih _ _ h
theorem ok {a0 : ByteArray} {v : AV} (h : P a0 = some v) {H : Heap} {Q : Qt} (hQ : ∀ H, Q v H) : C 37 [.str a0] H Q := by
  refine call ?_
  unfold t
  unfold P at h
  obtain ⟨fu, h⟩ := lim_some h
  revert h
  repeat' first | exact lsV hQ | exact lsF | apply lsG | apply lsC | refine F55.ls fun _ _ => ?_ | exact fun h => PL_ok hQ _ _ _ h
theorem ls {a0 : ByteArray} {v : AV} {H : Heap} {k : AV → Option AV} {K : Qt} (h : ∀ w H, k w = some v → K w H) : (P a0).bind k = some v → C 37 [.str a0] H K := fun e => bind_ls (Cq := fun K => C 37 [.str a0] H K) (fun h => ok h) h e
end F37
/-! ### broker/message.is: function 38 -/
namespace F38
noncomputable def P (a0 a1 : Int) : Option AV :=
    if leI 0 a0 then
    (some (.bool (leI a0 a1)))
    else
    (some (.bool false))
theorem ok {a0 a1 : Int} {v : AV} (h : P a0 a1 = some v) {H : Heap} {Q : Qt} (hQ : ∀ H, Q v H) : C 38 [.int .i64 a0, .int .i64 a1] H Q := by
  refine call ?_
  unfold t
  unfold P at h
  revert h
  repeat' first | exact lsV hQ | exact lsF | apply lsG | apply lsC
theorem ls {a0 a1 : Int} {v : AV} {H : Heap} {k : AV → Option AV} {K : Qt} (h : ∀ w H, k w = some v → K w H) : (P a0 a1).bind k = some v → C 38 [.int .i64 a0, .int .i64 a1] H K := fun e => bind_ls (Cq := fun K => C 38 [.int .i64 a0, .int .i64 a1] H K) (fun h => ok h) h e
end F38
/-! ### broker/message.key: function 56 -/
namespace F56
inductive LS where
  | l0 (x3i : Int)
  | lR7 (x3i : Int) (x39 : Bool)
noncomputable def PL (a0 : ByteArray) : Nat → LS → Option AV
  | 0, _ => none
  | fu + 1, .l0 x3i =>
    if ltI x3i (sizeI a0) then
    (if leI 0 x3i then (if ltI x3i (sizeI a0) then (if ltI (bt a0 x3i) 97 then
      (if ltI (bt a0 x3i) 48 then
        (PL a0 fu (.lR7 x3i (!(eqI (bt a0 x3i) 45))))
        else
        (if ltI 57 (bt a0 x3i) then
          (PL a0 fu (.lR7 x3i (!(eqI (bt a0 x3i) 45))))
          else
          (PL a0 fu (.lR7 x3i false))))
      else
      (if ltI 122 (bt a0 x3i) then
        (if ltI (bt a0 x3i) 48 then
          (PL a0 fu (.lR7 x3i (!(eqI (bt a0 x3i) 45))))
          else
          (if ltI 57 (bt a0 x3i) then
            (PL a0 fu (.lR7 x3i (!(eqI (bt a0 x3i) 45))))
            else
            (PL a0 fu (.lR7 x3i false))))
        else
        (PL a0 fu (.lR7 x3i false)))) else none) else none)
    else
    (some (.bool true))
  | fu + 1, .lR7 x3i x39 =>
    if x39 then
    (some (.bool false))
    else
    (PL a0 fu (.l0 (addW .i64 x3i 1)))
noncomputable def P (a0 : ByteArray) : Option AV := lim fun fu =>
    if ltI (sizeI a0) 1 then
    (some (.bool false))
    else
    (if ltI 16 (sizeI a0) then
      (some (.bool false))
      else
      (PL a0 fu (.l0 0)))
theorem PL_ok {a0 : ByteArray} {Q : Qt} {v : AV} (hQ : ∀ H, Q v H) : ∀ (fu : Nat) (s : LS) (H : Heap), PL a0 fu s = some v → match s with | .l0 x3i => L0 a0 Q x3i H | .lR7 x3i x39 => JR7 a0 Q x3i x39 H := by
  intro fu
  induction fu with
  | zero => intro s H h; exact absurd h (by cases s <;> simp only [PL] <;> exact nofun)
  | succ fu ih =>
    intro s H
    cases s with
    | l0 x3i =>
      show PL a0 (fu + 1) (.l0 x3i) = some v → L0 a0 Q x3i H
      rw [PL]
      refine fun h => L0_step (?_ : r0 a0 Q x3i H)
      revert h
      unfold r0
      repeat' first | exact lsV hQ | exact lsF | apply lsG | apply lsC | exact fun h => ih _ _ h
    | lR7 x3i x39 =>
      show PL a0 (fu + 1) (.lR7 x3i x39) = some v → JR7 a0 Q x3i x39 H
      rw [PL]
      refine fun h => JR7_step (?_ : jR7 a0 Q x3i x39 H)
      revert h
      unfold jR7
      repeat' first | exact lsV hQ | exact lsF | apply lsG | apply lsC | exact fun h => ih _ _ h
theorem ok {a0 : ByteArray} {v : AV} (h : P a0 = some v) {H : Heap} {Q : Qt} (hQ : ∀ H, Q v H) : C 56 [.str a0] H Q := by
  refine call ?_
  unfold t
  unfold P at h
  obtain ⟨fu, h⟩ := lim_some h
  revert h
  repeat' first | exact lsV hQ | exact lsF | apply lsG | apply lsC | exact fun h => PL_ok hQ _ _ _ h
theorem ls {a0 : ByteArray} {v : AV} {H : Heap} {k : AV → Option AV} {K : Qt} (h : ∀ w H, k w = some v → K w H) : (P a0).bind k = some v → C 56 [.str a0] H K := fun e => bind_ls (Cq := fun K => C 56 [.str a0] H K) (fun h => ok h) h e
end F56
/-! ### broker/message.Props: function 39 -/
namespace F39
inductive LS where
  | l0 (x10 : Int)
noncomputable def PL (a0 : List (List AV)) : Nat → LS → Option AV
  | 0, _ => none
  | fu + 1, .l0 x10 =>
    if ltI x10 (lenI a0) then
    (if leI 0 x10 then (if ltI x10 (lenI a0) then (if (ce (ro a0 x10.toNat) 0).isStr then (if (ce (ro a0 x10.toNat) 1).isStr then ((F56.P ((ce (ro a0 x10.toNat) 0).toStr)).bind fun v_1 =>
      if (v_1).isBool then (if !((v_1).toBool) then
        (some (.int .i64 16))
        else
        (if ltI 160 (sizeI ((ce (ro a0 x10.toNat) 1).toStr)) then
          (some (.int .i64 5))
          else
          (if ltI 0 x10 then
            (if leI 0 (subW .i64 x10 1) then (if ltI (subW .i64 x10 1) (lenI a0) then (if (ce (ro a0 ((subW .i64 x10 1).toNat)) 0).isStr then (if !(ltS ((ce (ro a0 ((subW .i64 x10 1).toNat)) 0).toStr) ((ce (ro a0 x10.toNat) 0).toStr)) then
              (some (.int .i64 16))
              else
              (PL a0 fu (.l0 (addW .i64 x10 1)))) else none) else none) else none)
            else
            (PL a0 fu (.l0 (addW .i64 x10 1)))))) else none) else none) else none) else none) else none)
    else
    (some (.int .i64 0))
noncomputable def P (a0 : List (List AV)) : Option AV := lim fun fu =>
    if ltI 8 (lenI a0) then
    (some (.int .i64 5))
    else
    (PL a0 fu (.l0 0))
theorem PL_ok {a0 : List (List AV)} {Q : Qt} {v : AV} (hQ : ∀ H, Q v H) : ∀ (fu : Nat) (s : LS) (H : Heap), PL a0 fu s = some v → match s with | .l0 x10 => L0 a0 Q x10 H := by
  intro fu
  induction fu with
  | zero => intro s H h; exact absurd h (by cases s <;> simp only [PL] <;> exact nofun)
  | succ fu ih =>
    intro s H
    cases s with
    | l0 x10 =>
      show PL a0 (fu + 1) (.l0 x10) = some v → L0 a0 Q x10 H
      rw [PL]
      refine fun h => L0_step (?_ : r0 a0 Q x10 H)
      revert h
      unfold r0
      repeat' first | exact lsV hQ | exact lsF | apply lsG | apply lsC | refine F56.ls fun _ _ => ?_ | exact fun h => ih _ _ h
theorem ok {a0 : List (List AV)} {v : AV} (h : P a0 = some v) {H : Heap} {Q : Qt} (hQ : ∀ H, Q v H) : C 39 [.sl 0 2 a0] H Q := by
  refine call ?_
  unfold t
  unfold P at h
  obtain ⟨fu, h⟩ := lim_some h
  revert h
  repeat' first | exact lsV hQ | exact lsF | apply lsG | apply lsC | exact fun h => PL_ok hQ _ _ _ h
theorem ls {a0 : List (List AV)} {v : AV} {H : Heap} {k : AV → Option AV} {K : Qt} (h : ∀ w H, k w = some v → K w H) : (P a0).bind k = some v → C 39 [.sl 0 2 a0] H K := fun e => bind_ls (Cq := fun K => C 39 [.sl 0 2 a0] H K) (fun h => ok h) h e
end F39
/-! ### broker/message.Check: function 20 -/
namespace F20
noncomputable def P (a0_0 a0_1 : ByteArray) (a0_2 : Int) (a0_3 : Bool) (a0_4 a0_5 : Int) (a0_6 : ByteArray) (a0_7 : Int) (a0_8 : List (List AV)) : Option AV :=
    (F37.P a0_0).bind fun v_1 =>
    if (v_1).isBool then (if !((v_1).toBool) then
      (some (.int .i64 12))
      else
      (if ltI 256 (sizeI a0_1) then
        (some (.int .i64 5))
        else
        ((F38.P a0_2 2).bind fun v_3 =>
          if (v_3).isBool then (if !((v_3).toBool) then
            (some (.int .i64 14))
            else
            ((F38.P a0_4 9).bind fun v_5 =>
              if (v_5).isBool then (if !((v_5).toBool) then
                (if !((v_5).toBool) then
                  (some (.int .i64 1))
                  else
                  (if !(eqS a0_6 (⟨#[]⟩ : ByteArray)) then
                    ((F32.P a0_6).bind fun v_7 =>
                      if (v_7).isBool then (if !((v_7).toBool) then
                        (some (.int .i64 11))
                        else
                        ((F38.P a0_7 1099511627776).bind fun v_9 =>
                          if (v_9).isBool then (if !((v_9).toBool) then
                            (some (.int .i64 1))
                            else
                            ((F39.P a0_8).bind fun v_11 =>
                              if (v_11).isInt .i64 then some (.int .i64 ((v_11).toInt)) else none)) else none)) else none)
                    else
                    ((F38.P a0_7 1099511627776).bind fun v_13 =>
                      if (v_13).isBool then (if !((v_13).toBool) then
                        (some (.int .i64 1))
                        else
                        ((F39.P a0_8).bind fun v_15 =>
                          if (v_15).isInt .i64 then some (.int .i64 ((v_15).toInt)) else none)) else none)))
                else
                ((F38.P a0_5 1099511627776).bind fun v_17 =>
                  if (v_17).isBool then (if !((v_17).toBool) then
                    (some (.int .i64 1))
                    else
                    (if !(eqS a0_6 (⟨#[]⟩ : ByteArray)) then
                      ((F32.P a0_6).bind fun v_19 =>
                        if (v_19).isBool then (if !((v_19).toBool) then
                          (some (.int .i64 11))
                          else
                          ((F38.P a0_7 1099511627776).bind fun v_21 =>
                            if (v_21).isBool then (if !((v_21).toBool) then
                              (some (.int .i64 1))
                              else
                              ((F39.P a0_8).bind fun v_23 =>
                                if (v_23).isInt .i64 then some (.int .i64 ((v_23).toInt)) else none)) else none)) else none)
                      else
                      ((F38.P a0_7 1099511627776).bind fun v_25 =>
                        if (v_25).isBool then (if !((v_25).toBool) then
                          (some (.int .i64 1))
                          else
                          ((F39.P a0_8).bind fun v_27 =>
                            if (v_27).isInt .i64 then some (.int .i64 ((v_27).toInt)) else none)) else none))) else none)) else none)) else none))) else none
theorem ok {a0_0 a0_1 : ByteArray} {a0_2 : Int} {a0_3 : Bool} {a0_4 a0_5 : Int} {a0_6 : ByteArray} {a0_7 : Int} {a0_8 : List (List AV)} {v : AV} (h : P a0_0 a0_1 a0_2 a0_3 a0_4 a0_5 a0_6 a0_7 a0_8 = some v) {H : Heap} {Q : Qt} (hQ : ∀ H, Q v H) : C 20 [.agg [.str a0_0, .str a0_1, .int .i64 a0_2, .bool a0_3, .int .i64 a0_4, .int .i64 a0_5, .str a0_6, .int .i64 a0_7, .sl 0 2 a0_8]] H Q := by
  refine call ?_
  unfold t
  unfold P at h
  revert h
  repeat' first | exact lsV hQ | exact lsF | apply lsG | apply lsC | refine F32.ls fun _ _ => ?_ | refine F37.ls fun _ _ => ?_ | refine F38.ls fun _ _ => ?_ | refine F39.ls fun _ _ => ?_
theorem ls {a0_0 a0_1 : ByteArray} {a0_2 : Int} {a0_3 : Bool} {a0_4 a0_5 : Int} {a0_6 : ByteArray} {a0_7 : Int} {a0_8 : List (List AV)} {v : AV} {H : Heap} {k : AV → Option AV} {K : Qt} (h : ∀ w H, k w = some v → K w H) : (P a0_0 a0_1 a0_2 a0_3 a0_4 a0_5 a0_6 a0_7 a0_8).bind k = some v → C 20 [.agg [.str a0_0, .str a0_1, .int .i64 a0_2, .bool a0_3, .int .i64 a0_4, .int .i64 a0_5, .str a0_6, .int .i64 a0_7, .sl 0 2 a0_8]] H K := fun e => bind_ls (Cq := fun K => C 20 [.agg [.str a0_0, .str a0_1, .int .i64 a0_2, .bool a0_3, .int .i64 a0_4, .int .i64 a0_5, .str a0_6, .int .i64 a0_7, .sl 0 2 a0_8]] H K) (fun h => ok h) h e
end F20
/-! ### broker/brokerlaw28.bare: function 21 -/
namespace F21
inductive LS where
  | l0 (x3out : List (List AV)) (x8 : Int)
noncomputable def PL (a0 : List (List AV)) : Nat → LS → Option AV
  | 0, _ => none
  | fu + 1, .l0 x3out x8 =>
    if ltI x8 (lenI a0) then
    (if leI 0 x8 then (if ltI x8 (lenI a0) then (if (ce (ro a0 x8.toNat) 0).isStr then (if (ce (ro a0 x8.toNat) 1).isStr then (if !(eqS ((ce (ro a0 x8.toNat) 0).toStr) (⟨#[100, 101, 97, 116, 104, 115]⟩ : ByteArray)) then
      (if !(eqS ((ce (ro a0 x8.toNat) 0).toStr) (⟨#[100, 105, 101, 100]⟩ : ByteArray)) then
        (if room x3out [[.str ((ce (ro a0 x8.toNat) 0).toStr), .str ((ce (ro a0 x8.toNat) 1).toStr)]] 32 then PL a0 fu (.l0 (x3out ++ [[.str ((ce (ro a0 x8.toNat) 0).toStr), .str ((ce (ro a0 x8.toNat) 1).toStr)]]) (addW .i64 x8 1)) else none)
        else
        (PL a0 fu (.l0 x3out (addW .i64 x8 1))))
      else
      (PL a0 fu (.l0 x3out (addW .i64 x8 1)))) else none) else none) else none) else none)
    else
    (some (.sl 0 2 x3out))
noncomputable def P (a0 : List (List AV)) : Option AV := lim fun fu =>
    PL a0 fu (.l0 [] 0)
theorem PL_ok {a0 : List (List AV)} {Q : Qt} {v : AV} (hQ : ∀ H, Q v H) : ∀ (fu : Nat) (s : LS) (H : Heap), PL a0 fu s = some v → match s with | .l0 x3out x8 => L0 a0 Q x3out x8 H := by
  intro fu
  induction fu with
  | zero => intro s H h; exact absurd h (by cases s <;> simp only [PL] <;> exact nofun)
  | succ fu ih =>
    intro s H
    cases s with
    | l0 x3out x8 =>
      show PL a0 (fu + 1) (.l0 x3out x8) = some v → L0 a0 Q x3out x8 H
      rw [PL]
      refine fun h => L0_step (?_ : r0 a0 Q x3out x8 H)
      revert h
      unfold r0
      repeat' first | exact lsV hQ | exact lsF | apply lsG | apply lsC | exact fun h => ih _ _ h
theorem ok {a0 : List (List AV)} {v : AV} (h : P a0 = some v) {H : Heap} {Q : Qt} (hQ : ∀ H, Q v H) : C 21 [.sl 0 2 a0] H Q := by
  refine call ?_
  unfold t
  unfold P at h
  obtain ⟨fu, h⟩ := lim_some h
  revert h
  repeat' first | exact lsV hQ | exact lsF | apply lsG | apply lsC | exact fun h => PL_ok hQ _ _ _ h
theorem ls {a0 : List (List AV)} {v : AV} {H : Heap} {k : AV → Option AV} {K : Qt} (h : ∀ w H, k w = some v → K w H) : (P a0).bind k = some v → C 21 [.sl 0 2 a0] H K := fun e => bind_ls (Cq := fun K => C 21 [.sl 0 2 a0] H K) (fun h => ok h) h e
end F21
/-! ### slices.Equal[[]broker/api.Prop,broker/api.Prop]: function 22 -/
namespace F22
inductive LS where
  | l0 (x13 : Int)
noncomputable def PL (a0 a1 : List (List AV)) : Nat → LS → Option AV
  | 0, _ => none
  | fu + 1, .l0 x13 =>
    if ltI x13 (lenI a0) then
    (if leI 0 x13 then (if ltI x13 (lenI a0) then (if (ce (ro a0 x13.toNat) 0).isStr then (if (ce (ro a0 x13.toNat) 1).isStr then (if leI 0 x13 then (if ltI x13 (lenI a1) then (if (ce (ro a1 x13.toNat) 0).isStr then (if (ce (ro a1 x13.toNat) 1).isStr then (if !((eqS ((ce (ro a0 x13.toNat) 0).toStr) ((ce (ro a1 x13.toNat) 0).toStr)) && ((eqS ((ce (ro a0 x13.toNat) 1).toStr) ((ce (ro a1 x13.toNat) 1).toStr)) && true)) then
      (some (.bool false))
      else
      (PL a0 a1 fu (.l0 (addW .i64 x13 1)))) else none) else none) else none) else none) else none) else none) else none) else none)
    else
    (some (.bool true))
noncomputable def P (a0 a1 : List (List AV)) : Option AV := lim fun fu =>
    if !(eqI (lenI a0) (lenI a1)) then
    (some (.bool false))
    else
    (PL a0 a1 fu (.l0 0))
theorem PL_ok {a0 a1 : List (List AV)} {Q : Qt} {v : AV} (hQ : ∀ H, Q v H) : ∀ (fu : Nat) (s : LS) (H : Heap), PL a0 a1 fu s = some v → match s with | .l0 x13 => L0 a0 a1 Q x13 H := by
  intro fu
  induction fu with
  | zero => intro s H h; exact absurd h (by cases s <;> simp only [PL] <;> exact nofun)
  | succ fu ih =>
    intro s H
    cases s with
    | l0 x13 =>
      show PL a0 a1 (fu + 1) (.l0 x13) = some v → L0 a0 a1 Q x13 H
      rw [PL]
      refine fun h => L0_step (?_ : r0 a0 a1 Q x13 H)
      revert h
      unfold r0
      repeat' first | exact lsV hQ | exact lsF | apply lsG | apply lsC | exact fun h => ih _ _ h
theorem ok {a0 a1 : List (List AV)} {v : AV} (h : P a0 a1 = some v) {H : Heap} {Q : Qt} (hQ : ∀ H, Q v H) : C 22 [.sl 0 2 a0, .sl 0 2 a1] H Q := by
  refine call ?_
  unfold t
  unfold P at h
  obtain ⟨fu, h⟩ := lim_some h
  revert h
  repeat' first | exact lsV hQ | exact lsF | apply lsG | apply lsC | exact fun h => PL_ok hQ _ _ _ h
theorem ls {a0 a1 : List (List AV)} {v : AV} {H : Heap} {k : AV → Option AV} {K : Qt} (h : ∀ w H, k w = some v → K w H) : (P a0 a1).bind k = some v → C 22 [.sl 0 2 a0, .sl 0 2 a1] H K := fun e => bind_ls (Cq := fun K => C 22 [.sl 0 2 a0, .sl 0 2 a1] H K) (fun h => ok h) h e
end F22
/-! ### broker/brokerref05.SameProps: function 40 -/
namespace F40
inductive LS where
  | l0 (x5i : Int)
noncomputable def PL (a0 a1 : List (List AV)) : Nat → LS → Option AV
  | 0, _ => none
  | fu + 1, .l0 x5i =>
    if ltI x5i (lenI a0) then
    (if leI 0 x5i then (if ltI x5i (lenI a0) then (if (ce (ro a0 x5i.toNat) 0).isStr then (if (ce (ro a0 x5i.toNat) 1).isStr then (if leI 0 x5i then (if ltI x5i (lenI a1) then (if (ce (ro a1 x5i.toNat) 0).isStr then (if (ce (ro a1 x5i.toNat) 1).isStr then (if !((eqS ((ce (ro a0 x5i.toNat) 0).toStr) ((ce (ro a1 x5i.toNat) 0).toStr)) && ((eqS ((ce (ro a0 x5i.toNat) 1).toStr) ((ce (ro a1 x5i.toNat) 1).toStr)) && true)) then
      (some (.bool false))
      else
      (PL a0 a1 fu (.l0 (addW .i64 x5i 1)))) else none) else none) else none) else none) else none) else none) else none) else none)
    else
    (some (.bool true))
noncomputable def P (a0 a1 : List (List AV)) : Option AV := lim fun fu =>
    if !(eqI (lenI a0) (lenI a1)) then
    (some (.bool false))
    else
    (PL a0 a1 fu (.l0 0))
theorem PL_ok {a0 a1 : List (List AV)} {Q : Qt} {v : AV} (hQ : ∀ H, Q v H) : ∀ (fu : Nat) (s : LS) (H : Heap), PL a0 a1 fu s = some v → match s with | .l0 x5i => L0 a0 a1 Q x5i H := by
  intro fu
  induction fu with
  | zero => intro s H h; exact absurd h (by cases s <;> simp only [PL] <;> exact nofun)
  | succ fu ih =>
    intro s H
    cases s with
    | l0 x5i =>
      show PL a0 a1 (fu + 1) (.l0 x5i) = some v → L0 a0 a1 Q x5i H
      rw [PL]
      refine fun h => L0_step (?_ : r0 a0 a1 Q x5i H)
      revert h
      unfold r0
      repeat' first | exact lsV hQ | exact lsF | apply lsG | apply lsC | exact fun h => ih _ _ h
theorem ok {a0 a1 : List (List AV)} {v : AV} (h : P a0 a1 = some v) {H : Heap} {Q : Qt} (hQ : ∀ H, Q v H) : C 40 [.sl 0 2 a0, .sl 0 2 a1] H Q := by
  refine call ?_
  unfold t
  unfold P at h
  obtain ⟨fu, h⟩ := lim_some h
  revert h
  repeat' first | exact lsV hQ | exact lsF | apply lsG | apply lsC | exact fun h => PL_ok hQ _ _ _ h
theorem ls {a0 a1 : List (List AV)} {v : AV} {H : Heap} {k : AV → Option AV} {K : Qt} (h : ∀ w H, k w = some v → K w H) : (P a0 a1).bind k = some v → C 40 [.sl 0 2 a0, .sl 0 2 a1] H K := fun e => bind_ls (Cq := fun K => C 40 [.sl 0 2 a0, .sl 0 2 a1] H K) (fun h => ok h) h e
end F40
/-! ### broker/brokerref05.Same: function 23 -/
namespace F23
noncomputable def P (a0_0 a0_1 : ByteArray) (a0_2 : Int) (a0_3 : Bool) (a0_4 a0_5 : Int) (a0_6 : ByteArray) (a0_7 : Int) (a0_8 : List (List AV)) (a1_0 a1_1 : ByteArray) (a1_2 : Int) (a1_3 : Bool) (a1_4 a1_5 : Int) (a1_6 : ByteArray) (a1_7 : Int) (a1_8 : List (List AV)) : Option AV :=
    if eqS a0_0 a1_0 then
    (if eqS a0_1 a1_1 then
      (if eqI a0_2 a1_2 then
        (if a0_3 == a1_3 then
          (if eqI a0_4 a1_4 then
            (if eqI a0_5 a1_5 then
              (if eqS a0_6 a1_6 then
                (if eqI a0_7 a1_7 then
                  ((F40.P a0_8 a1_8).bind fun v_1 =>
                    if (v_1).isBool then some (.bool ((v_1).toBool)) else none)
                  else
                  (some (.bool false)))
                else
                (some (.bool false)))
              else
              (some (.bool false)))
            else
            (some (.bool false)))
          else
          (some (.bool false)))
        else
        (some (.bool false)))
      else
      (some (.bool false)))
    else
    (some (.bool false))
theorem ok {a0_0 a0_1 : ByteArray} {a0_2 : Int} {a0_3 : Bool} {a0_4 a0_5 : Int} {a0_6 : ByteArray} {a0_7 : Int} {a0_8 : List (List AV)} {a1_0 a1_1 : ByteArray} {a1_2 : Int} {a1_3 : Bool} {a1_4 a1_5 : Int} {a1_6 : ByteArray} {a1_7 : Int} {a1_8 : List (List AV)} {v : AV} (h : P a0_0 a0_1 a0_2 a0_3 a0_4 a0_5 a0_6 a0_7 a0_8 a1_0 a1_1 a1_2 a1_3 a1_4 a1_5 a1_6 a1_7 a1_8 = some v) {H : Heap} {Q : Qt} (hQ : ∀ H, Q v H) : C 23 [.agg [.str a0_0, .str a0_1, .int .i64 a0_2, .bool a0_3, .int .i64 a0_4, .int .i64 a0_5, .str a0_6, .int .i64 a0_7, .sl 0 2 a0_8], .agg [.str a1_0, .str a1_1, .int .i64 a1_2, .bool a1_3, .int .i64 a1_4, .int .i64 a1_5, .str a1_6, .int .i64 a1_7, .sl 0 2 a1_8]] H Q := by
  refine call ?_
  unfold t
  unfold P at h
  revert h
  repeat' first | exact lsV hQ | exact lsF | apply lsG | apply lsC | refine F40.ls fun _ _ => ?_
theorem ls {a0_0 a0_1 : ByteArray} {a0_2 : Int} {a0_3 : Bool} {a0_4 a0_5 : Int} {a0_6 : ByteArray} {a0_7 : Int} {a0_8 : List (List AV)} {a1_0 a1_1 : ByteArray} {a1_2 : Int} {a1_3 : Bool} {a1_4 a1_5 : Int} {a1_6 : ByteArray} {a1_7 : Int} {a1_8 : List (List AV)} {v : AV} {H : Heap} {k : AV → Option AV} {K : Qt} (h : ∀ w H, k w = some v → K w H) : (P a0_0 a0_1 a0_2 a0_3 a0_4 a0_5 a0_6 a0_7 a0_8 a1_0 a1_1 a1_2 a1_3 a1_4 a1_5 a1_6 a1_7 a1_8).bind k = some v → C 23 [.agg [.str a0_0, .str a0_1, .int .i64 a0_2, .bool a0_3, .int .i64 a0_4, .int .i64 a0_5, .str a0_6, .int .i64 a0_7, .sl 0 2 a0_8], .agg [.str a1_0, .str a1_1, .int .i64 a1_2, .bool a1_3, .int .i64 a1_4, .int .i64 a1_5, .str a1_6, .int .i64 a1_7, .sl 0 2 a1_8]] H K := fun e => bind_ls (Cq := fun K => C 23 [.agg [.str a0_0, .str a0_1, .int .i64 a0_2, .bool a0_3, .int .i64 a0_4, .int .i64 a0_5, .str a0_6, .int .i64 a0_7, .sl 0 2 a0_8], .agg [.str a1_0, .str a1_1, .int .i64 a1_2, .bool a1_3, .int .i64 a1_4, .int .i64 a1_5, .str a1_6, .int .i64 a1_7, .sl 0 2 a1_8]] H K) (fun h => ok h) h e
end F23
/-! ### broker/brokerlaw28.DeadKeeps: function 6 -/
namespace F6
inductive LS where
  | lR5 (x54 : Bool) (m1_0 m1_1 : ByteArray) (m1_2 : Int) (m1_3 : Bool) (m1_4 m1_5 : Int) (m1_6 : ByteArray) (m1_7 : Int) (m1_8 : List (List AV))
noncomputable def PL (a0 a1_0 a1_1 : ByteArray) (a1_2 : Int) (a1_3 : Bool) (a1_4 a1_5 : Int) (a1_6 : ByteArray) (a1_7 : Int) (a1_8 : List (List AV)) (a2 : Int) : Nat → LS → Option AV
  | 0, _ => none
  | fu + 1, .lR5 x54 m1_0 m1_1 m1_2 m1_3 m1_4 m1_5 m1_6 m1_7 m1_8 =>
    if x54 then
    (some (.bool false))
    else
    ((F21.P a1_8).bind fun v_15 =>
      if (v_15).isSl 2 then ((F21.P m1_8).bind fun v_17 =>
        if (v_17).isSl 2 then (if leI 0 (cond (ltI 6 (lenI ((v_15).slXs))) 6 (lenI ((v_15).slXs))) then (if leI (cond (ltI 6 (lenI ((v_15).slXs))) 6 (lenI ((v_15).slXs))) (cond (ltI 6 (lenI ((v_15).slXs))) 6 (lenI ((v_15).slXs))) then (if leI (cond (ltI 6 (lenI ((v_15).slXs))) 6 (lenI ((v_15).slXs))) (lenI ((v_15).slXs)) then ((F22.P ((v_17).slXs) ((((v_15).slXs).take ((cond (ltI 6 (lenI ((v_15).slXs))) 6 (lenI ((v_15).slXs))).toNat)).drop 0)).bind fun v_19 =>
          if (v_19).isBool then (if !((v_19).toBool) then
            (some (.bool false))
            else
            ((F19.P a0 m1_0 m1_1 m1_2 m1_3 m1_4 m1_5 m1_6 m1_7 m1_8 a2).bind fun v_21 =>
              if ((v_21).isAgg && Nat.beq (v_21).aggCs.length 9) then (if (((v_21).aggCs).headD .any).isStr then (if ((((v_21).aggCs).tail).headD .any).isStr then (if (((((v_21).aggCs).tail).tail).headD .any).isInt .i64 then (if ((((((v_21).aggCs).tail).tail).tail).headD .any).isBool then (if (((((((v_21).aggCs).tail).tail).tail).tail).headD .any).isInt .i64 then (if ((((((((v_21).aggCs).tail).tail).tail).tail).tail).headD .any).isInt .i64 then (if (((((((((v_21).aggCs).tail).tail).tail).tail).tail).tail).headD .any).isStr then (if ((((((((((v_21).aggCs).tail).tail).tail).tail).tail).tail).tail).headD .any).isInt .i64 then (if (((((((((((v_21).aggCs).tail).tail).tail).tail).tail).tail).tail).tail).headD .any).isSl 2 then ((F21.P ((((((((((((v_21).aggCs).tail).tail).tail).tail).tail).tail).tail).tail).headD .any).slXs)).bind fun v_23 =>
                if (v_23).isSl 2 then ((F22.P ((v_23).slXs) ((v_17).slXs)).bind fun v_25 =>
                  if (v_25).isBool then (if !((v_25).toBool) then
                    (some (.bool false))
                    else
                    ((F23.P m1_0 m1_1 m1_2 m1_3 m1_4 a1_5 m1_6 m1_7 a1_8 a1_0 a1_1 a1_2 a1_3 a1_4 a1_5 a1_6 a1_7 a1_8).bind fun v_27 =>
                      if (v_27).isBool then (if (v_27).toBool then
                        ((F9.P).bind fun v_29 =>
                          if (v_29).isBool then some (.bool ((v_29).toBool)) else none)
                        else
                        (some (.bool false))) else none)) else none) else none) else none) else none) else none) else none) else none) else none) else none) else none) else none) else none)) else none) else none) else none) else none) else none) else none)
noncomputable def P (a0 a1_0 a1_1 : ByteArray) (a1_2 : Int) (a1_3 : Bool) (a1_4 a1_5 : Int) (a1_6 : ByteArray) (a1_7 : Int) (a1_8 : List (List AV)) (a2 : Int) : Option AV := lim fun fu =>
    (F18.P a0 a1_0 a1_1 a1_2 a1_3 a1_4 a1_5 a1_6 a1_7 a1_8 a2).bind fun v_1 =>
    if (v_1).isBool then (if !((v_1).toBool) then
      ((F9.P).bind fun v_3 =>
        if (v_3).isBool then some (.bool ((v_3).toBool)) else none)
      else
      ((F19.P a0 a1_0 a1_1 a1_2 a1_3 a1_4 a1_5 a1_6 a1_7 a1_8 a2).bind fun v_5 =>
        if ((v_5).isAgg && Nat.beq (v_5).aggCs.length 9) then (if (((v_5).aggCs).headD .any).isStr then (if ((((v_5).aggCs).tail).headD .any).isStr then (if (((((v_5).aggCs).tail).tail).headD .any).isInt .i64 then (if ((((((v_5).aggCs).tail).tail).tail).headD .any).isBool then (if (((((((v_5).aggCs).tail).tail).tail).tail).headD .any).isInt .i64 then (if ((((((((v_5).aggCs).tail).tail).tail).tail).tail).headD .any).isInt .i64 then (if (((((((((v_5).aggCs).tail).tail).tail).tail).tail).tail).headD .any).isStr then (if ((((((((((v_5).aggCs).tail).tail).tail).tail).tail).tail).tail).headD .any).isInt .i64 then (if (((((((((((v_5).aggCs).tail).tail).tail).tail).tail).tail).tail).tail).headD .any).isSl 2 then ((F12.P ((((v_5).aggCs).headD .any).toStr) (((((v_5).aggCs).tail).headD .any).toStr) ((((((v_5).aggCs).tail).tail).headD .any).toInt) (((((((v_5).aggCs).tail).tail).tail).headD .any).toBool) ((((((((v_5).aggCs).tail).tail).tail).tail).headD .any).toInt) (((((((((v_5).aggCs).tail).tail).tail).tail).tail).headD .any).toInt) ((((((((((v_5).aggCs).tail).tail).tail).tail).tail).tail).headD .any).toStr) (((((((((((v_5).aggCs).tail).tail).tail).tail).tail).tail).tail).headD .any).toInt) ((((((((((((v_5).aggCs).tail).tail).tail).tail).tail).tail).tail).tail).headD .any).slXs)).bind fun v_7 =>
          if ((v_7).isTup && Nat.beq (v_7).tupVs.length 2) then (if (((v_7).tupVs).headD .any).isStr then (if ((((v_7).tupVs).tail).headD .any).isInt .i64 then ((F20.P ((((v_5).aggCs).headD .any).toStr) (((((v_5).aggCs).tail).headD .any).toStr) ((((((v_5).aggCs).tail).tail).headD .any).toInt) (((((((v_5).aggCs).tail).tail).tail).headD .any).toBool) ((((((((v_5).aggCs).tail).tail).tail).tail).headD .any).toInt) (((((((((v_5).aggCs).tail).tail).tail).tail).tail).headD .any).toInt) ((((((((((v_5).aggCs).tail).tail).tail).tail).tail).tail).headD .any).toStr) (((((((((((v_5).aggCs).tail).tail).tail).tail).tail).tail).tail).headD .any).toInt) ((((((((((((v_5).aggCs).tail).tail).tail).tail).tail).tail).tail).tail).headD .any).slXs)).bind fun v_9 =>
            if (v_9).isInt .i64 then (if !(eqI ((v_9).toInt) 0) then
              (PL a0 a1_0 a1_1 a1_2 a1_3 a1_4 a1_5 a1_6 a1_7 a1_8 a2 fu (.lR5 true ((((v_5).aggCs).headD .any).toStr) (((((v_5).aggCs).tail).headD .any).toStr) ((((((v_5).aggCs).tail).tail).headD .any).toInt) (((((((v_5).aggCs).tail).tail).tail).headD .any).toBool) ((((((((v_5).aggCs).tail).tail).tail).tail).headD .any).toInt) (((((((((v_5).aggCs).tail).tail).tail).tail).tail).headD .any).toInt) ((((((((((v_5).aggCs).tail).tail).tail).tail).tail).tail).headD .any).toStr) (((((((((((v_5).aggCs).tail).tail).tail).tail).tail).tail).tail).headD .any).toInt) ((((((((((((v_5).aggCs).tail).tail).tail).tail).tail).tail).tail).tail).headD .any).slXs)))
              else
              (if !(eqS ((((v_7).tupVs).headD .any).toStr) a0) then
                (PL a0 a1_0 a1_1 a1_2 a1_3 a1_4 a1_5 a1_6 a1_7 a1_8 a2 fu (.lR5 true ((((v_5).aggCs).headD .any).toStr) (((((v_5).aggCs).tail).headD .any).toStr) ((((((v_5).aggCs).tail).tail).headD .any).toInt) (((((((v_5).aggCs).tail).tail).tail).headD .any).toBool) ((((((((v_5).aggCs).tail).tail).tail).tail).headD .any).toInt) (((((((((v_5).aggCs).tail).tail).tail).tail).tail).headD .any).toInt) ((((((((((v_5).aggCs).tail).tail).tail).tail).tail).tail).headD .any).toStr) (((((((((((v_5).aggCs).tail).tail).tail).tail).tail).tail).tail).headD .any).toInt) ((((((((((((v_5).aggCs).tail).tail).tail).tail).tail).tail).tail).tail).headD .any).slXs)))
                else
                (if !(eqI (((((v_7).tupVs).tail).headD .any).toInt) a2) then
                  (PL a0 a1_0 a1_1 a1_2 a1_3 a1_4 a1_5 a1_6 a1_7 a1_8 a2 fu (.lR5 true ((((v_5).aggCs).headD .any).toStr) (((((v_5).aggCs).tail).headD .any).toStr) ((((((v_5).aggCs).tail).tail).headD .any).toInt) (((((((v_5).aggCs).tail).tail).tail).headD .any).toBool) ((((((((v_5).aggCs).tail).tail).tail).tail).headD .any).toInt) (((((((((v_5).aggCs).tail).tail).tail).tail).tail).headD .any).toInt) ((((((((((v_5).aggCs).tail).tail).tail).tail).tail).tail).headD .any).toStr) (((((((((((v_5).aggCs).tail).tail).tail).tail).tail).tail).tail).headD .any).toInt) ((((((((((((v_5).aggCs).tail).tail).tail).tail).tail).tail).tail).tail).headD .any).slXs)))
                  else
                  (if !(eqI (((((((((v_5).aggCs).tail).tail).tail).tail).tail).headD .any).toInt) 0) then
                    (PL a0 a1_0 a1_1 a1_2 a1_3 a1_4 a1_5 a1_6 a1_7 a1_8 a2 fu (.lR5 true ((((v_5).aggCs).headD .any).toStr) (((((v_5).aggCs).tail).headD .any).toStr) ((((((v_5).aggCs).tail).tail).headD .any).toInt) (((((((v_5).aggCs).tail).tail).tail).headD .any).toBool) ((((((((v_5).aggCs).tail).tail).tail).tail).headD .any).toInt) (((((((((v_5).aggCs).tail).tail).tail).tail).tail).headD .any).toInt) ((((((((((v_5).aggCs).tail).tail).tail).tail).tail).tail).headD .any).toStr) (((((((((((v_5).aggCs).tail).tail).tail).tail).tail).tail).tail).headD .any).toInt) ((((((((((((v_5).aggCs).tail).tail).tail).tail).tail).tail).tail).tail).headD .any).slXs)))
                    else
                    ((F14.P ((((v_5).aggCs).headD .any).toStr) (((((v_5).aggCs).tail).headD .any).toStr) ((((((v_5).aggCs).tail).tail).headD .any).toInt) (((((((v_5).aggCs).tail).tail).tail).headD .any).toBool) ((((((((v_5).aggCs).tail).tail).tail).tail).headD .any).toInt) (((((((((v_5).aggCs).tail).tail).tail).tail).tail).headD .any).toInt) ((((((((((v_5).aggCs).tail).tail).tail).tail).tail).tail).headD .any).toStr) (((((((((((v_5).aggCs).tail).tail).tail).tail).tail).tail).tail).headD .any).toInt) ((((((((((((v_5).aggCs).tail).tail).tail).tail).tail).tail).tail).tail).headD .any).slXs)).bind fun v_11 =>
                      if (v_11).isInt .i64 then ((F14.P a1_0 a1_1 a1_2 a1_3 a1_4 a1_5 a1_6 a1_7 a1_8).bind fun v_13 =>
                        if (v_13).isInt .i64 then PL a0 a1_0 a1_1 a1_2 a1_3 a1_4 a1_5 a1_6 a1_7 a1_8 a2 fu (.lR5 (!(eqI ((v_11).toInt) (cond (ltI 1099511627776 (addW .i64 ((v_13).toInt) 1)) 1099511627776 (addW .i64 ((v_13).toInt) 1)))) ((((v_5).aggCs).headD .any).toStr) (((((v_5).aggCs).tail).headD .any).toStr) ((((((v_5).aggCs).tail).tail).headD .any).toInt) (((((((v_5).aggCs).tail).tail).tail).headD .any).toBool) ((((((((v_5).aggCs).tail).tail).tail).tail).headD .any).toInt) (((((((((v_5).aggCs).tail).tail).tail).tail).tail).headD .any).toInt) ((((((((((v_5).aggCs).tail).tail).tail).tail).tail).tail).headD .any).toStr) (((((((((((v_5).aggCs).tail).tail).tail).tail).tail).tail).tail).headD .any).toInt) ((((((((((((v_5).aggCs).tail).tail).tail).tail).tail).tail).tail).tail).headD .any).slXs)) else none) else none))))) else none) else none) else none) else none) else none) else none) else none) else none) else none) else none) else none) else none) else none) else none)) else none
theorem PL_ok {a0 a1_0 a1_1 : ByteArray} {a1_2 : Int} {a1_3 : Bool} {a1_4 a1_5 : Int} {a1_6 : ByteArray} {a1_7 : Int} {a1_8 : List (List AV)} {a2 : Int} {Q : Qt} {v : AV} (hQ : ∀ H, Q v H) : ∀ (fu : Nat) (s : LS) (H : Heap), PL a0 a1_0 a1_1 a1_2 a1_3 a1_4 a1_5 a1_6 a1_7 a1_8 a2 fu s = some v → match s with | .lR5 x54 m1_0 m1_1 m1_2 m1_3 m1_4 m1_5 m1_6 m1_7 m1_8 => JR5 a0 a1_0 a1_1 a1_2 a1_3 a1_4 a1_5 a1_6 a1_7 a1_8 a2 Q x54 m1_0 m1_1 m1_2 m1_3 m1_4 m1_5 m1_6 m1_7 m1_8 H := by
  intro fu
  induction fu with
  | zero => intro s H h; exact absurd h (by cases s <;> simp only [PL] <;> exact nofun)
  | succ fu ih =>
    intro s H
    cases s with
    | lR5 x54 m1_0 m1_1 m1_2 m1_3 m1_4 m1_5 m1_6 m1_7 m1_8 =>
      show PL a0 a1_0 a1_1 a1_2 a1_3 a1_4 a1_5 a1_6 a1_7 a1_8 a2 (fu + 1) (.lR5 x54 m1_0 m1_1 m1_2 m1_3 m1_4 m1_5 m1_6 m1_7 m1_8) = some v → JR5 a0 a1_0 a1_1 a1_2 a1_3 a1_4 a1_5 a1_6 a1_7 a1_8 a2 Q x54 m1_0 m1_1 m1_2 m1_3 m1_4 m1_5 m1_6 m1_7 m1_8 H
      rw [PL]
      refine fun h => JR5_step (?_ : jR5 a0 a1_0 a1_1 a1_2 a1_3 a1_4 a1_5 a1_6 a1_7 a1_8 a2 Q x54 m1_0 m1_1 m1_2 m1_3 m1_4 m1_5 m1_6 m1_7 m1_8 H)
      revert h
      unfold jR5
      repeat' first | exact lsV hQ | exact lsF | apply lsG | apply lsC | refine F19.ls fun _ _ => ?_ | refine F21.ls fun _ _ => ?_ | refine F22.ls fun _ _ => ?_ | refine F23.ls fun _ _ => ?_ | refine F9.ls fun _ _ => ?_ | exact fun h => ih _ _ h
theorem ok {a0 a1_0 a1_1 : ByteArray} {a1_2 : Int} {a1_3 : Bool} {a1_4 a1_5 : Int} {a1_6 : ByteArray} {a1_7 : Int} {a1_8 : List (List AV)} {a2 : Int} {v : AV} (h : P a0 a1_0 a1_1 a1_2 a1_3 a1_4 a1_5 a1_6 a1_7 a1_8 a2 = some v) {H : Heap} {Q : Qt} (hQ : ∀ H, Q v H) : C 6 [.str a0, .agg [.str a1_0, .str a1_1, .int .i64 a1_2, .bool a1_3, .int .i64 a1_4, .int .i64 a1_5, .str a1_6, .int .i64 a1_7, .sl 0 2 a1_8], .int .i64 a2] H Q := by
  refine call ?_
  unfold t
  unfold P at h
  obtain ⟨fu, h⟩ := lim_some h
  revert h
  repeat' first | exact lsV hQ | exact lsF | apply lsG | apply lsC | refine F12.ls fun _ _ => ?_ | refine F14.ls fun _ _ => ?_ | refine F18.ls fun _ _ => ?_ | refine F19.ls fun _ _ => ?_ | refine F20.ls fun _ _ => ?_ | refine F9.ls fun _ _ => ?_ | exact fun h => PL_ok hQ _ _ _ h
theorem ls {a0 a1_0 a1_1 : ByteArray} {a1_2 : Int} {a1_3 : Bool} {a1_4 a1_5 : Int} {a1_6 : ByteArray} {a1_7 : Int} {a1_8 : List (List AV)} {a2 : Int} {v : AV} {H : Heap} {k : AV → Option AV} {K : Qt} (h : ∀ w H, k w = some v → K w H) : (P a0 a1_0 a1_1 a1_2 a1_3 a1_4 a1_5 a1_6 a1_7 a1_8 a2).bind k = some v → C 6 [.str a0, .agg [.str a1_0, .str a1_1, .int .i64 a1_2, .bool a1_3, .int .i64 a1_4, .int .i64 a1_5, .str a1_6, .int .i64 a1_7, .sl 0 2 a1_8], .int .i64 a2] H K := fun e => bind_ls (Cq := fun K => C 6 [.str a0, .agg [.str a1_0, .str a1_1, .int .i64 a1_2, .bool a1_3, .int .i64 a1_4, .int .i64 a1_5, .str a1_6, .int .i64 a1_7, .sl 0 2 a1_8], .int .i64 a2] H K) (fun h => ok h) h e
end F6
/-! ### broker/brokerref28.Mark: function 24 -/
namespace F24
inductive LS where
  | l0 (x7kept : List (List AV)) (x14 : Int)
  | lR5 (x7kept : List (List AV)) (x14 : Int) (x30 : Bool) (m2_0 m2_1 : ByteArray)
noncomputable def PL (a0 a1_0 a1_1 : ByteArray) (a1_2 : Int) (a1_3 : Bool) (a1_4 a1_5 : Int) (a1_6 : ByteArray) (a1_7 : Int) (a1_8 : List (List AV)) (a2 : Int) : Nat → LS → Option AV
  | 0, _ => none
  | fu + 1, .l0 x7kept x14 =>
    if ltI x14 (lenI a1_8) then
    (if leI 0 x14 then (if ltI x14 (lenI a1_8) then (if (ce (ro a1_8 x14.toNat) 0).isStr then (if (ce (ro a1_8 x14.toNat) 1).isStr then (if !(eqS ((ce (ro a1_8 x14.toNat) 0).toStr) (⟨#[100, 101, 97, 116, 104, 115]⟩ : ByteArray)) then
      (if !(eqS ((ce (ro a1_8 x14.toNat) 0).toStr) (⟨#[100, 105, 101, 100]⟩ : ByteArray)) then
        (PL a0 a1_0 a1_1 a1_2 a1_3 a1_4 a1_5 a1_6 a1_7 a1_8 a2 fu (.lR5 x7kept x14 (ltI (lenI x7kept) 6) ((ce (ro a1_8 x14.toNat) 0).toStr) ((ce (ro a1_8 x14.toNat) 1).toStr)))
        else
        (PL a0 a1_0 a1_1 a1_2 a1_3 a1_4 a1_5 a1_6 a1_7 a1_8 a2 fu (.lR5 x7kept x14 false ((ce (ro a1_8 x14.toNat) 0).toStr) ((ce (ro a1_8 x14.toNat) 1).toStr))))
      else
      (PL a0 a1_0 a1_1 a1_2 a1_3 a1_4 a1_5 a1_6 a1_7 a1_8 a2 fu (.lR5 x7kept x14 false ((ce (ro a1_8 x14.toNat) 0).toStr) ((ce (ro a1_8 x14.toNat) 1).toStr)))) else none) else none) else none) else none)
    else
    ((F15.P a1_0 a1_1 a1_2 a1_3 a1_4 a1_5 a1_6 a1_7 a1_8).bind fun v_1 =>
      if (v_1).isInt .i64 then ((ItoaP.P [.int .i64 (cond (ltI 1099511627776 (addW .i64 ((v_1).toInt) 1)) 1099511627776 (addW .i64 ((v_1).toInt) 1))]).bind fun v_3 =>
        if (v_3).isStr then ((PutP.P 2 x7kept [.agg [.str (⟨#[100, 101, 97, 116, 104, 115]⟩ : ByteArray), .str ((v_3).toStr)]]).bind fun y_5 =>
          if Nat.ble (a0.size + (⟨#[32]⟩ : ByteArray).size) 9223372036854775807 then ((ItoaP.P [.int .i64 a2]).bind fun v_7 =>
            if (v_7).isStr then (if Nat.ble ((a0 ++ (⟨#[32]⟩ : ByteArray)).size + ((v_7).toStr).size) 9223372036854775807 then ((PutP.P 2 y_5 [.agg [.str (⟨#[100, 105, 101, 100]⟩ : ByteArray), .str ((a0 ++ (⟨#[32]⟩ : ByteArray)) ++ ((v_7).toStr))]]).bind fun y_9 =>
              some (.agg [.str a1_0, .str a1_1, .int .i64 a1_2, .bool a1_3, .int .i64 a1_4, .int .i64 0, .str a1_6, .int .i64 a1_7, .sl 0 2 y_9])) else none) else none) else none) else none) else none)
  | fu + 1, .lR5 x7kept x14 x30 m2_0 m2_1 =>
    if x30 then
    (if room x7kept [[.str m2_0, .str m2_1]] 32 then PL a0 a1_0 a1_1 a1_2 a1_3 a1_4 a1_5 a1_6 a1_7 a1_8 a2 fu (.l0 (x7kept ++ [[.str m2_0, .str m2_1]]) (addW .i64 x14 1)) else none)
    else
    (PL a0 a1_0 a1_1 a1_2 a1_3 a1_4 a1_5 a1_6 a1_7 a1_8 a2 fu (.l0 x7kept (addW .i64 x14 1)))
noncomputable def P (a0 a1_0 a1_1 : ByteArray) (a1_2 : Int) (a1_3 : Bool) (a1_4 a1_5 : Int) (a1_6 : ByteArray) (a1_7 : Int) (a1_8 : List (List AV)) (a2 : Int) : Option AV := lim fun fu =>
    PL a0 a1_0 a1_1 a1_2 a1_3 a1_4 a1_5 a1_6 a1_7 a1_8 a2 fu (.l0 [] 0)
theorem PL_ok {a0 a1_0 a1_1 : ByteArray} {a1_2 : Int} {a1_3 : Bool} {a1_4 a1_5 : Int} {a1_6 : ByteArray} {a1_7 : Int} {a1_8 : List (List AV)} {a2 : Int} {Q : Qt} {v : AV} (hQ : ∀ H, Q v H) : ∀ (fu : Nat) (s : LS) (H : Heap), PL a0 a1_0 a1_1 a1_2 a1_3 a1_4 a1_5 a1_6 a1_7 a1_8 a2 fu s = some v → match s with | .l0 x7kept x14 => L0 a0 a1_0 a1_1 a1_2 a1_3 a1_4 a1_5 a1_6 a1_7 a1_8 a2 Q x7kept x14 H | .lR5 x7kept x14 x30 m2_0 m2_1 => JR5 a0 a1_0 a1_1 a1_2 a1_3 a1_4 a1_5 a1_6 a1_7 a1_8 a2 Q x7kept x14 x30 m2_0 m2_1 H := by
  intro fu
  induction fu with
  | zero => intro s H h; exact absurd h (by cases s <;> simp only [PL] <;> exact nofun)
  | succ fu ih =>
    intro s H
    cases s with
    | l0 x7kept x14 =>
      show PL a0 a1_0 a1_1 a1_2 a1_3 a1_4 a1_5 a1_6 a1_7 a1_8 a2 (fu + 1) (.l0 x7kept x14) = some v → L0 a0 a1_0 a1_1 a1_2 a1_3 a1_4 a1_5 a1_6 a1_7 a1_8 a2 Q x7kept x14 H
      rw [PL]
      refine fun h => L0_step (?_ : r0 a0 a1_0 a1_1 a1_2 a1_3 a1_4 a1_5 a1_6 a1_7 a1_8 a2 Q x7kept x14 H)
      revert h
      unfold r0
      repeat' first | exact lsV hQ | exact lsF | apply lsG | apply lsC | refine F15.ls fun _ _ => ?_ | refine ItoaP.ls fun _ _ => ?_ | refine PutP.ls fun _ _ => ?_ | exact fun h => ih _ _ h
    | lR5 x7kept x14 x30 m2_0 m2_1 =>
      show PL a0 a1_0 a1_1 a1_2 a1_3 a1_4 a1_5 a1_6 a1_7 a1_8 a2 (fu + 1) (.lR5 x7kept x14 x30 m2_0 m2_1) = some v → JR5 a0 a1_0 a1_1 a1_2 a1_3 a1_4 a1_5 a1_6 a1_7 a1_8 a2 Q x7kept x14 x30 m2_0 m2_1 H
      rw [PL]
      refine fun h => JR5_step (?_ : jR5 a0 a1_0 a1_1 a1_2 a1_3 a1_4 a1_5 a1_6 a1_7 a1_8 a2 Q x7kept x14 x30 m2_0 m2_1 H)
      revert h
      unfold jR5
      repeat' first | exact lsV hQ | exact lsF | apply lsG | apply lsC | exact fun h => ih _ _ h
theorem ok {a0 a1_0 a1_1 : ByteArray} {a1_2 : Int} {a1_3 : Bool} {a1_4 a1_5 : Int} {a1_6 : ByteArray} {a1_7 : Int} {a1_8 : List (List AV)} {a2 : Int} {v : AV} (h : P a0 a1_0 a1_1 a1_2 a1_3 a1_4 a1_5 a1_6 a1_7 a1_8 a2 = some v) {H : Heap} {Q : Qt} (hQ : ∀ H, Q v H) : C 24 [.str a0, .agg [.str a1_0, .str a1_1, .int .i64 a1_2, .bool a1_3, .int .i64 a1_4, .int .i64 a1_5, .str a1_6, .int .i64 a1_7, .sl 0 2 a1_8], .int .i64 a2] H Q := by
  refine call ?_
  unfold t
  unfold P at h
  obtain ⟨fu, h⟩ := lim_some h
  revert h
  repeat' first | exact lsV hQ | exact lsF | apply lsG | apply lsC | exact fun h => PL_ok hQ _ _ _ h
theorem ls {a0 a1_0 a1_1 : ByteArray} {a1_2 : Int} {a1_3 : Bool} {a1_4 a1_5 : Int} {a1_6 : ByteArray} {a1_7 : Int} {a1_8 : List (List AV)} {a2 : Int} {v : AV} {H : Heap} {k : AV → Option AV} {K : Qt} (h : ∀ w H, k w = some v → K w H) : (P a0 a1_0 a1_1 a1_2 a1_3 a1_4 a1_5 a1_6 a1_7 a1_8 a2).bind k = some v → C 24 [.str a0, .agg [.str a1_0, .str a1_1, .int .i64 a1_2, .bool a1_3, .int .i64 a1_4, .int .i64 a1_5, .str a1_6, .int .i64 a1_7, .sl 0 2 a1_8], .int .i64 a2] H K := fun e => bind_ls (Cq := fun K => C 24 [.str a0, .agg [.str a1_0, .str a1_1, .int .i64 a1_2, .bool a1_3, .int .i64 a1_4, .int .i64 a1_5, .str a1_6, .int .i64 a1_7, .sl 0 2 a1_8], .int .i64 a2] H K) (fun h => ok h) h e
end F24
/-! ### broker/brokerlaw28.DeadMarks: function 7 -/
namespace F7
noncomputable def P (a0 a1_0 a1_1 : ByteArray) (a1_2 : Int) (a1_3 : Bool) (a1_4 a1_5 : Int) (a1_6 : ByteArray) (a1_7 : Int) (a1_8 : List (List AV)) (a2 : Int) : Option AV :=
    (F18.P a0 a1_0 a1_1 a1_2 a1_3 a1_4 a1_5 a1_6 a1_7 a1_8 a2).bind fun v_1 =>
    if (v_1).isBool then (if !((v_1).toBool) then
      ((F9.P).bind fun v_3 =>
        if (v_3).isBool then some (.bool ((v_3).toBool)) else none)
      else
      ((F19.P a0 a1_0 a1_1 a1_2 a1_3 a1_4 a1_5 a1_6 a1_7 a1_8 a2).bind fun v_5 =>
        if ((v_5).isAgg && Nat.beq (v_5).aggCs.length 9) then (if (((v_5).aggCs).headD .any).isStr then (if ((((v_5).aggCs).tail).headD .any).isStr then (if (((((v_5).aggCs).tail).tail).headD .any).isInt .i64 then (if ((((((v_5).aggCs).tail).tail).tail).headD .any).isBool then (if (((((((v_5).aggCs).tail).tail).tail).tail).headD .any).isInt .i64 then (if ((((((((v_5).aggCs).tail).tail).tail).tail).tail).headD .any).isInt .i64 then (if (((((((((v_5).aggCs).tail).tail).tail).tail).tail).tail).headD .any).isStr then (if ((((((((((v_5).aggCs).tail).tail).tail).tail).tail).tail).tail).headD .any).isInt .i64 then (if (((((((((((v_5).aggCs).tail).tail).tail).tail).tail).tail).tail).tail).headD .any).isSl 2 then ((F24.P a0 a1_0 a1_1 a1_2 a1_3 a1_4 a1_5 a1_6 a1_7 a1_8 a2).bind fun v_7 =>
          if ((v_7).isAgg && Nat.beq (v_7).aggCs.length 9) then (if (((v_7).aggCs).headD .any).isStr then (if ((((v_7).aggCs).tail).headD .any).isStr then (if (((((v_7).aggCs).tail).tail).headD .any).isInt .i64 then (if ((((((v_7).aggCs).tail).tail).tail).headD .any).isBool then (if (((((((v_7).aggCs).tail).tail).tail).tail).headD .any).isInt .i64 then (if ((((((((v_7).aggCs).tail).tail).tail).tail).tail).headD .any).isInt .i64 then (if (((((((((v_7).aggCs).tail).tail).tail).tail).tail).tail).headD .any).isStr then (if ((((((((((v_7).aggCs).tail).tail).tail).tail).tail).tail).tail).headD .any).isInt .i64 then (if (((((((((((v_7).aggCs).tail).tail).tail).tail).tail).tail).tail).tail).headD .any).isSl 2 then ((F23.P ((((v_5).aggCs).headD .any).toStr) (((((v_5).aggCs).tail).headD .any).toStr) ((((((v_5).aggCs).tail).tail).headD .any).toInt) (((((((v_5).aggCs).tail).tail).tail).headD .any).toBool) ((((((((v_5).aggCs).tail).tail).tail).tail).headD .any).toInt) (((((((((v_5).aggCs).tail).tail).tail).tail).tail).headD .any).toInt) ((((((((((v_5).aggCs).tail).tail).tail).tail).tail).tail).headD .any).toStr) (((((((((((v_5).aggCs).tail).tail).tail).tail).tail).tail).tail).headD .any).toInt) ((((((((((((v_5).aggCs).tail).tail).tail).tail).tail).tail).tail).tail).headD .any).slXs) ((((v_7).aggCs).headD .any).toStr) (((((v_7).aggCs).tail).headD .any).toStr) ((((((v_7).aggCs).tail).tail).headD .any).toInt) (((((((v_7).aggCs).tail).tail).tail).headD .any).toBool) ((((((((v_7).aggCs).tail).tail).tail).tail).headD .any).toInt) (((((((((v_7).aggCs).tail).tail).tail).tail).tail).headD .any).toInt) ((((((((((v_7).aggCs).tail).tail).tail).tail).tail).tail).headD .any).toStr) (((((((((((v_7).aggCs).tail).tail).tail).tail).tail).tail).tail).headD .any).toInt) ((((((((((((v_7).aggCs).tail).tail).tail).tail).tail).tail).tail).tail).headD .any).slXs)).bind fun v_9 =>
            if (v_9).isBool then (if (v_9).toBool then
              ((F9.P).bind fun v_11 =>
                if (v_11).isBool then some (.bool ((v_11).toBool)) else none)
              else
              (some (.bool false))) else none) else none) else none) else none) else none) else none) else none) else none) else none) else none) else none) else none) else none) else none) else none) else none) else none) else none) else none) else none) else none)) else none
theorem ok {a0 a1_0 a1_1 : ByteArray} {a1_2 : Int} {a1_3 : Bool} {a1_4 a1_5 : Int} {a1_6 : ByteArray} {a1_7 : Int} {a1_8 : List (List AV)} {a2 : Int} {v : AV} (h : P a0 a1_0 a1_1 a1_2 a1_3 a1_4 a1_5 a1_6 a1_7 a1_8 a2 = some v) {H : Heap} {Q : Qt} (hQ : ∀ H, Q v H) : C 7 [.str a0, .agg [.str a1_0, .str a1_1, .int .i64 a1_2, .bool a1_3, .int .i64 a1_4, .int .i64 a1_5, .str a1_6, .int .i64 a1_7, .sl 0 2 a1_8], .int .i64 a2] H Q := by
  refine call ?_
  unfold t
  unfold P at h
  revert h
  repeat' first | exact lsV hQ | exact lsF | apply lsG | apply lsC | refine F18.ls fun _ _ => ?_ | refine F19.ls fun _ _ => ?_ | refine F23.ls fun _ _ => ?_ | refine F24.ls fun _ _ => ?_ | refine F9.ls fun _ _ => ?_
theorem ls {a0 a1_0 a1_1 : ByteArray} {a1_2 : Int} {a1_3 : Bool} {a1_4 a1_5 : Int} {a1_6 : ByteArray} {a1_7 : Int} {a1_8 : List (List AV)} {a2 : Int} {v : AV} {H : Heap} {k : AV → Option AV} {K : Qt} (h : ∀ w H, k w = some v → K w H) : (P a0 a1_0 a1_1 a1_2 a1_3 a1_4 a1_5 a1_6 a1_7 a1_8 a2).bind k = some v → C 7 [.str a0, .agg [.str a1_0, .str a1_1, .int .i64 a1_2, .bool a1_3, .int .i64 a1_4, .int .i64 a1_5, .str a1_6, .int .i64 a1_7, .sl 0 2 a1_8], .int .i64 a2] H K := fun e => bind_ls (Cq := fun K => C 7 [.str a0, .agg [.str a1_0, .str a1_1, .int .i64 a1_2, .bool a1_3, .int .i64 a1_4, .int .i64 a1_5, .str a1_6, .int .i64 a1_7, .sl 0 2 a1_8], .int .i64 a2] H K) (fun h => ok h) h e
end F7
/-! ### broker/dead.with$2: function 53 -/
namespace F53
noncomputable def P (a0_0 a0_1 : ByteArray) (a1_0 a1_1 : ByteArray) : Option AV :=
    (CmpP.P [.str a0_0, .str a1_0]).bind fun v_1 =>
    if (v_1).isInt .i64 then some (.int .i64 ((v_1).toInt)) else none
theorem ok {a0_0 a0_1 : ByteArray} {a1_0 a1_1 : ByteArray} {v : AV} (h : P a0_0 a0_1 a1_0 a1_1 = some v) {H : Heap} {Q : Qt} (hQ : ∀ H, Q v H) : C 53 [.agg [.str a0_0, .str a0_1], .agg [.str a1_0, .str a1_1]] H Q := by
  refine call ?_
  unfold t
  unfold P at h
  revert h
  repeat' first | exact lsV hQ | exact lsF | apply lsG | apply lsC | refine CmpP.ls fun _ _ => ?_
theorem ls {a0_0 a0_1 : ByteArray} {a1_0 a1_1 : ByteArray} {v : AV} {H : Heap} {k : AV → Option AV} {K : Qt} (h : ∀ w H, k w = some v → K w H) : (P a0_0 a0_1 a1_0 a1_1).bind k = some v → C 53 [.agg [.str a0_0, .str a0_1], .agg [.str a1_0, .str a1_1]] H K := fun e => bind_ls (Cq := fun K => C 53 [.agg [.str a0_0, .str a0_1], .agg [.str a1_0, .str a1_1]] H K) (fun h => ok h) h e
end F53
end Go.Proofs.YtlaieomjooeofaaDoor.Ab
