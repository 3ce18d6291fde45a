/- PRINTED by abx.py: the pure functions. -/
import Derived.Test.YtdiokakekedaaaaTr
import Derived.Test.YtdiokakekedaaaaMemIo
import Derived.Test.YtdiokakekedaaaaAbP
namespace Go.Proofs.Ytdiokakekedaaaa.Ab
open Go
set_option maxRecDepth 100000
set_option maxHeartbeats 4000000
set_option linter.unusedVariables false
/-! ### broker/brokerref39.InOrder: function 9 -/
namespace F9
inductive LS where
  | l0 (x6 : Int)
noncomputable def PL (a0 : List (List AV)) : Nat → LS → Option AV
  | 0, _ => none
  | fu + 1, .l0 x6 =>
    if ltI x6 (lenI a0) then
    (if ltI 0 x6 then
      (if leI 0 x6 then (if ltI x6 (lenI a0) then (if (ce (ro a0 x6.toNat) 0).isInt .i64 then (if leI 0 (subW .i64 x6 1) then (if ltI (subW .i64 x6 1) (lenI a0) then (if (ce (ro a0 ((subW .i64 x6 1).toNat)) 0).isInt .i64 then (if leI ((ce (ro a0 x6.toNat) 0).toInt) ((ce (ro a0 ((subW .i64 x6 1).toNat)) 0).toInt) then
        (some (.bool false))
        else
        (PL a0 fu (.l0 (addW .i64 x6 1)))) else none) else none) else none) else none) else none) else none)
      else
      (PL a0 fu (.l0 (addW .i64 x6 1))))
    else
    (some (.bool true))
noncomputable def P (a0 : List (List AV)) : Option AV := lim fun fu =>
    PL a0 fu (.l0 0)
theorem PL_ok {a0 : List (List AV)} {Q : AV → Heap → Prop} {v : AV} (hQ : ∀ H, Q v H) : ∀ (fu : Nat) (s : LS) (H : Heap), PL a0 fu s = some v → match s with | .l0 x6 => L0 a0 Q x6 H := by
  intro fu
  induction fu with
  | zero => intro s H h; exact absurd h (by cases s <;> simp only [PL] <;> exact nofun)
  | succ fu ih =>
    intro s H
    cases s with
    | l0 x6 =>
      show PL a0 (fu + 1) (.l0 x6) = some v → L0 a0 Q x6 H
      rw [PL]
      refine fun h => L0_step (?_ : r0 a0 Q x6 H)
      revert h
      unfold r0
      repeat' first | exact lsV hQ | exact lsF | apply lsG | apply lsC | refine lsAll fun _ => ?_ | refine lsEx fun _ _ => ?_ | exact fun h => ih _ _ h
theorem ok {a0 : List (List AV)} {v : AV} (h : P a0 = some v) {H : Heap} {Q : AV → Heap → Prop} (hQ : ∀ H, Q v H) : C 9 [.sl 0 2 a0] H Q := by
  refine call ?_
  unfold t
  unfold P at h
  obtain ⟨fu, h⟩ := lim_some h
  revert h
  repeat' first | exact lsV hQ | exact lsF | apply lsG | apply lsC | refine lsAll fun _ => ?_ | refine lsEx fun _ _ => ?_ | exact fun h => PL_ok hQ _ _ _ h
theorem ls {a0 : List (List AV)} {v : AV} {H : Heap} {k : AV → Option AV} {K : AV → Heap → Prop} (h : ∀ w H, k w = some v → K w H) : (P a0).bind k = some v → C 9 [.sl 0 2 a0] H K := fun e => bind_ls (Cq := fun K => C 9 [.sl 0 2 a0] H K) (fun h => ok h) h e
end F9
/-! ### slices.Clone[[]broker/api.Peer,broker/api.Peer]: function 29 -/
namespace F29
noncomputable def P (a0 : List (List AV)) : Option AV :=
    anyB a0 fun b_1 =>
    if b_1 then
      (some (.sl 1 2 []))
      else
      (if room [] a0 16 then some (.sl 1 2 a0) else none)
theorem ok {a0 : List (List AV)} {v : AV} (h : P a0 = some v) {H : Heap} {Q : AV → Heap → Prop} (hQ : ∀ H, Q v H) (hQn : v = .sl 1 2 [] → ∀ H, Q .nilsl H) : C 29 [.sl 0 2 a0] H Q := by
  refine call ?_
  unfold t
  unfold P at h
  revert h
  repeat' first | exact lsVn hQn | exact lsV hQ | exact lsF | apply lsG | apply lsC | refine lsAll fun _ => ?_ | refine lsEx fun _ _ => ?_
theorem ls {a0 : List (List AV)} {v : AV} {H : Heap} {k : AV → Option AV} {K : AV → Heap → Prop} (h : ∀ w H, k w = some v → K w H) (h2 : ∀ H, k (.sl 1 2 []) = some v → K .nilsl H) : (P a0).bind k = some v → C 29 [.sl 0 2 a0] H K := fun e => bind_ls2 (Cq := fun K => C 29 [.sl 0 2 a0] H K) (fun {_} h {_} a b => ok h a b) h h2 e
end F29
/-! ### cmp.isNaN[int]: function 38 -/
namespace F38
noncomputable def P (a0 : Int) : Option AV :=
    some (.bool (!(eqI a0 a0)))
theorem ok {a0 : Int} {v : AV} (h : P a0 = some v) {H : Heap} {Q : AV → Heap → Prop} (hQ : ∀ H, Q v H) : C 38 [.int .i64 a0] H Q := by
  refine call ?_
  unfold t
  unfold P at h
  revert h
  repeat' first | exact lsV hQ | exact lsF | apply lsG | apply lsC | refine lsAll fun _ => ?_ | refine lsEx fun _ _ => ?_
theorem ls {a0 : Int} {v : AV} {H : Heap} {k : AV → Option AV} {K : AV → Heap → Prop} (h : ∀ w H, k w = some v → K w H) : (P a0).bind k = some v → C 38 [.int .i64 a0] H K := fun e => bind_ls (Cq := fun K => C 38 [.int .i64 a0] H K) (fun h => ok h) h e
end F38
/-! ### cmp.Compare[int]: function 32 -/
namespace F32
noncomputable def P (a0 : Int) (a1 : Int) : Option AV :=
    (F38.P a0).bind fun v_1 =>
    if (v_1).isBool then ((F38.P a1).bind fun v_3 =>
      if (v_3).isBool then (if (v_1).toBool then
        (if (v_3).toBool then
          (some (.int .i64 0))
          else
          (some (.int .i64 (-1))))
        else
        (if (v_3).toBool then
          (some (.int .i64 1))
          else
          (if ltI a0 a1 then
            (some (.int .i64 (-1)))
            else
            (if ltI a1 a0 then
              (some (.int .i64 1))
              else
              (some (.int .i64 0)))))) else none) else none
theorem ok {a0 : Int} {a1 : Int} {v : AV} (h : P a0 a1 = some v) {H : Heap} {Q : AV → Heap → Prop} (hQ : ∀ H, Q v H) : C 32 [.int .i64 a0, .int .i64 a1] H Q := by
  refine call ?_
  unfold t
  unfold P at h
  revert h
  repeat' first | exact lsV hQ | exact lsF | apply lsG | apply lsC | refine F38.ls fun _ _ => ?_ | refine lsAll fun _ => ?_ | refine lsEx fun _ _ => ?_
theorem ls {a0 : Int} {a1 : Int} {v : AV} {H : Heap} {k : AV → Option AV} {K : AV → Heap → Prop} (h : ∀ w H, k w = some v → K w H) : (P a0 a1).bind k = some v → C 32 [.int .i64 a0, .int .i64 a1] H K := fun e => bind_ls (Cq := fun K => C 32 [.int .i64 a0, .int .i64 a1] H K) (fun h => ok h) h e
end F32
/-! ### broker/member.Seen$1: function 31 -/
namespace F31
noncomputable def P (a0_0 : Int) (a0_1 : Int) (a1 : Int) : Option AV :=
    (F32.P a0_0 a1).bind fun v_1 =>
    if (v_1).isInt .i64 then some (.int .i64 ((v_1).toInt)) else none
theorem ok {a0_0 : Int} {a0_1 : Int} {a1 : Int} {v : AV} (h : P a0_0 a0_1 a1 = some v) {H : Heap} {Q : AV → Heap → Prop} (hQ : ∀ H, Q v H) : C 31 [.agg [.int .i64 a0_0, .int .i64 a0_1], .int .i64 a1] H Q := by
  refine call ?_
  unfold t
  unfold P at h
  revert h
  repeat' first | exact lsV hQ | exact lsF | apply lsG | apply lsC | refine F32.ls fun _ _ => ?_ | refine lsAll fun _ => ?_ | refine lsEx fun _ _ => ?_
theorem ls {a0_0 : Int} {a0_1 : Int} {a1 : Int} {v : AV} {H : Heap} {k : AV → Option AV} {K : AV → Heap → Prop} (h : ∀ w H, k w = some v → K w H) : (P a0_0 a0_1 a1).bind k = some v → C 31 [.agg [.int .i64 a0_0, .int .i64 a0_1], .int .i64 a1] H K := fun e => bind_ls (Cq := fun K => C 31 [.agg [.int .i64 a0_0, .int .i64 a0_1], .int .i64 a1] H K) (fun h => ok h) h e
end F31
/-! ### slices.BinarySearchFunc[[]broker/api.Peer,broker/api.Peer,int]: function 30 -/
namespace F30
inductive LS where
  | l0 (x9i : Int) (x10j : Int)
noncomputable def PL (a0 : List (List AV)) (a1 : Int) : Nat → LS → Option AV
  | 0, _ => none
  | fu + 1, .l0 x9i x10j =>
    if ltI x9i x10j then
    (if leI 0 (IntKind.i64.wrap (shrW .u64 (IntKind.u64.wrap (addW .i64 x9i x10j)) 1)) then (if ltI (IntKind.i64.wrap (shrW .u64 (IntKind.u64.wrap (addW .i64 x9i x10j)) 1)) (lenI a0) then (if (ce (ro a0 ((IntKind.i64.wrap (shrW .u64 (IntKind.u64.wrap (addW .i64 x9i x10j)) 1)).toNat)) 0).isInt .i64 then (if (ce (ro a0 ((IntKind.i64.wrap (shrW .u64 (IntKind.u64.wrap (addW .i64 x9i x10j)) 1)).toNat)) 1).isInt .i64 then ((F31.P ((ce (ro a0 ((IntKind.i64.wrap (shrW .u64 (IntKind.u64.wrap (addW .i64 x9i x10j)) 1)).toNat)) 0).toInt) ((ce (ro a0 ((IntKind.i64.wrap (shrW .u64 (IntKind.u64.wrap (addW .i64 x9i x10j)) 1)).toNat)) 1).toInt) a1).bind fun v_1 =>
      if (v_1).isInt .i64 then (if ltI ((v_1).toInt) 0 then
        (PL a0 a1 fu (.l0 (addW .i64 (IntKind.i64.wrap (shrW .u64 (IntKind.u64.wrap (addW .i64 x9i x10j)) 1)) 1) x10j))
        else
        (PL a0 a1 fu (.l0 x9i (IntKind.i64.wrap (shrW .u64 (IntKind.u64.wrap (addW .i64 x9i x10j)) 1))))) else none) else none) else none) else none) else none)
    else
    (if ltI x9i (lenI a0) then
      (if leI 0 x9i then (if ltI x9i (lenI a0) then (if (ce (ro a0 x9i.toNat) 0).isInt .i64 then (if (ce (ro a0 x9i.toNat) 1).isInt .i64 then ((F31.P ((ce (ro a0 x9i.toNat) 0).toInt) ((ce (ro a0 x9i.toNat) 1).toInt) a1).bind fun v_3 =>
        if (v_3).isInt .i64 then some (.tup [.int .i64 x9i, .bool (eqI ((v_3).toInt) 0)]) else none) else none) else none) else none) else none)
      else
      (some (.tup [.int .i64 x9i, .bool false])))
noncomputable def P (a0 : List (List AV)) (a1 : Int) : Option AV := lim fun fu =>
    PL a0 a1 fu (.l0 0 (lenI a0))
theorem PL_ok {a0 : List (List AV)} {a1 : Int} {Q : AV → Heap → Prop} {v : AV} (hQ : ∀ H, Q v H) : ∀ (fu : Nat) (s : LS) (H : Heap), PL a0 a1 fu s = some v → match s with | .l0 x9i x10j => L0 a0 a1 Q x9i x10j H := by
  intro fu
  induction fu with
  | zero => intro s H h; exact absurd h (by cases s <;> simp only [PL] <;> exact nofun)
  | succ fu ih =>
    intro s H
    cases s with
    | l0 x9i x10j =>
      show PL a0 a1 (fu + 1) (.l0 x9i x10j) = some v → L0 a0 a1 Q x9i x10j H
      rw [PL]
      refine fun h => L0_step (?_ : r0 a0 a1 Q x9i x10j H)
      revert h
      unfold r0
      repeat' first | exact lsV hQ | exact lsF | apply lsG | apply lsC | refine F31.ls fun _ _ => ?_ | refine lsAll fun _ => ?_ | refine lsEx fun _ _ => ?_ | exact fun h => ih _ _ h
theorem ok {a0 : List (List AV)} {a1 : Int} {v : AV} (h : P a0 a1 = some v) {H : Heap} {Q : AV → Heap → Prop} (hQ : ∀ H, Q v H) : C 30 [.sl 0 2 a0, .int .i64 a1, .fn 31 []] H Q := by
  refine call ?_
  unfold t
  unfold P at h
  obtain ⟨fu, h⟩ := lim_some h
  revert h
  repeat' first | exact lsV hQ | exact lsF | apply lsG | apply lsC | refine lsAll fun _ => ?_ | refine lsEx fun _ _ => ?_ | exact fun h => PL_ok hQ _ _ _ h
theorem ls {a0 : List (List AV)} {a1 : Int} {v : AV} {H : Heap} {k : AV → Option AV} {K : AV → Heap → Prop} (h : ∀ w H, k w = some v → K w H) : (P a0 a1).bind k = some v → C 30 [.sl 0 2 a0, .int .i64 a1, .fn 31 []] H K := fun e => bind_ls (Cq := fun K => C 30 [.sl 0 2 a0, .int .i64 a1, .fn 31 []] H K) (fun h => ok h) h e
end F30
/-! ### broker/member.Seen: function 11 -/
namespace F11
noncomputable def P (a0 : List (List AV)) (a1 : Int) (a2 : Int) : Option AV :=
    (F29.P a0).bind fun v_1 =>
    if (v_1).isOwn 2 then (if ltI a1 0 then
      (some (.sl 0 2 ((v_1).slXs)))
      else
      (if leI 7 a1 then
        (some (.sl 0 2 ((v_1).slXs)))
        else
        ((F30.P ((v_1).slXs) a1).bind fun v_3 =>
          if ((v_3).isTup && Nat.beq (v_3).tupVs.length 2) then (if (((v_3).tupVs).headD .any).isInt .i64 then (if ((((v_3).tupVs).tail).headD .any).isBool then (if !(((((v_3).tupVs).tail).headD .any).toBool) then
            ((InsP.P 2 ((v_1).slXs) [.int .i64 ((((v_3).tupVs).headD .any).toInt), .sl 0 2 [[.int .i64 a1, .int .i64 a2]]]).bind fun y_5 =>
              some (.sl 0 2 y_5))
            else
            (if leI 0 ((((v_3).tupVs).headD .any).toInt) then (if ltI ((((v_3).tupVs).headD .any).toInt) (lenI ((v_1).slXs)) then (if (ce (ro ((v_1).slXs) (((((v_3).tupVs).headD .any).toInt).toNat)) 1).isInt .i64 then (if leI 0 ((((v_3).tupVs).headD .any).toInt) then (if ltI ((((v_3).tupVs).headD .any).toInt) (lenI ((v_1).slXs)) then some (.sl 0 2 (((v_1).slXs).set (((((v_3).tupVs).headD .any).toInt).toNat) ((ro ((v_1).slXs) (((((v_3).tupVs).headD .any).toInt).toNat)).set 1 (.int .i64 (cond (ltI ((ce (ro ((v_1).slXs) (((((v_3).tupVs).headD .any).toInt).toNat)) 1).toInt) a2) a2 ((ce (ro ((v_1).slXs) (((((v_3).tupVs).headD .any).toInt).toNat)) 1).toInt)))))) else none) else none) else none) else none) else none)) else none) else none) else none))) else none
theorem ok {a0 : List (List AV)} {a1 : Int} {a2 : Int} {v : AV} (h : P a0 a1 a2 = some v) {H : Heap} {Q : AV → Heap → Prop} (hQ : ∀ H, Q v H) : C 11 [.sl 0 2 a0, .int .i64 a1, .int .i64 a2] H Q := by
  refine call ?_
  unfold t
  unfold P at h
  revert h
  repeat' first | exact lsV hQ | exact lsF | apply lsG | apply lsC | refine F29.ls (fun _ _ => ?_) (fun _ => ?_) | refine F30.ls fun _ _ => ?_ | refine InsP.ls fun _ _ => ?_ | refine lsAll fun _ => ?_ | refine lsEx fun _ _ => ?_
theorem ls {a0 : List (List AV)} {a1 : Int} {a2 : Int} {v : AV} {H : Heap} {k : AV → Option AV} {K : AV → Heap → Prop} (h : ∀ w H, k w = some v → K w H) : (P a0 a1 a2).bind k = some v → C 11 [.sl 0 2 a0, .int .i64 a1, .int .i64 a2] H K := fun e => bind_ls (Cq := fun K => C 11 [.sl 0 2 a0, .int .i64 a1, .int .i64 a2] H K) (fun h => ok h) h e
end F11
/-! ### slices.Equal[[]broker/api.Peer,broker/api.Peer]: function 12 -/
namespace F12
inductive LS where
  | l0 (x13 : Int)
noncomputable def PL (a0 : List (List AV)) (a1 : List (List AV)) : Nat → LS → Option AV
  | 0, _ => none
  | fu + 1, .l0 x13 =>
    if ltI x13 (lenI a0) then
    (if leI 0 x13 then (if ltI x13 (lenI a0) then (if (ce (ro a0 x13.toNat) 0).isInt .i64 then (if (ce (ro a0 x13.toNat) 1).isInt .i64 then (if leI 0 x13 then (if ltI x13 (lenI a1) then (if (ce (ro a1 x13.toNat) 0).isInt .i64 then (if (ce (ro a1 x13.toNat) 1).isInt .i64 then (if !((eqI ((ce (ro a0 x13.toNat) 0).toInt) ((ce (ro a1 x13.toNat) 0).toInt)) && ((eqI ((ce (ro a0 x13.toNat) 1).toInt) ((ce (ro a1 x13.toNat) 1).toInt)) && true)) then
      (some (.bool false))
      else
      (PL a0 a1 fu (.l0 (addW .i64 x13 1)))) else none) else none) else none) else none) else none) else none) else none) else none)
    else
    (some (.bool true))
noncomputable def P (a0 : List (List AV)) (a1 : List (List AV)) : Option AV := lim fun fu =>
    if !(eqI (lenI a0) (lenI a1)) then
    (some (.bool false))
    else
    (PL a0 a1 fu (.l0 0))
theorem PL_ok {a0 : List (List AV)} {a1 : List (List AV)} {Q : AV → Heap → Prop} {v : AV} (hQ : ∀ H, Q v H) : ∀ (fu : Nat) (s : LS) (H : Heap), PL a0 a1 fu s = some v → match s with | .l0 x13 => L0 a0 a1 Q x13 H := by
  intro fu
  induction fu with
  | zero => intro s H h; exact absurd h (by cases s <;> simp only [PL] <;> exact nofun)
  | succ fu ih =>
    intro s H
    cases s with
    | l0 x13 =>
      show PL a0 a1 (fu + 1) (.l0 x13) = some v → L0 a0 a1 Q x13 H
      rw [PL]
      refine fun h => L0_step (?_ : r0 a0 a1 Q x13 H)
      revert h
      unfold r0
      repeat' first | exact lsV hQ | exact lsF | apply lsG | apply lsC | refine lsAll fun _ => ?_ | refine lsEx fun _ _ => ?_ | exact fun h => ih _ _ h
theorem ok {a0 : List (List AV)} {a1 : List (List AV)} {v : AV} (h : P a0 a1 = some v) {H : Heap} {Q : AV → Heap → Prop} (hQ : ∀ H, Q v H) : C 12 [.sl 0 2 a0, .sl 0 2 a1] H Q := by
  refine call ?_
  unfold t
  unfold P at h
  obtain ⟨fu, h⟩ := lim_some h
  revert h
  repeat' first | exact lsV hQ | exact lsF | apply lsG | apply lsC | refine lsAll fun _ => ?_ | refine lsEx fun _ _ => ?_ | exact fun h => PL_ok hQ _ _ _ h
theorem ls {a0 : List (List AV)} {a1 : List (List AV)} {v : AV} {H : Heap} {k : AV → Option AV} {K : AV → Heap → Prop} (h : ∀ w H, k w = some v → K w H) : (P a0 a1).bind k = some v → C 12 [.sl 0 2 a0, .sl 0 2 a1] H K := fun e => bind_ls (Cq := fun K => C 12 [.sl 0 2 a0, .sl 0 2 a1] H K) (fun h => ok h) h e
end F12
/-! ### broker/member.Alive: function 14 -/
namespace F14
inductive LS where
  | l0 (x7out : List (List AV)) (x12 : Int)
  | lR5 (x7out : List (List AV)) (x12 : Int) (x34 : Bool) (m0_0 : Int) (m0_1 : Int)
noncomputable def PL (a0 : List (List AV)) (a1 : Int) (a2 : Int) : Nat → LS → Option AV
  | 0, _ => none
  | fu + 1, .l0 x7out x12 =>
    if ltI x12 (lenI a0) then
    (if leI 0 x12 then (if ltI x12 (lenI a0) then (if (ce (ro a0 x12.toNat) 0).isInt .i64 then (if (ce (ro a0 x12.toNat) 1).isInt .i64 then (if leI 0 a2 then
      (if leI a1 ((ce (ro a0 x12.toNat) 1).toInt) then
        (PL a0 a1 a2 fu (.lR5 x7out x12 true ((ce (ro a0 x12.toNat) 0).toInt) ((ce (ro a0 x12.toNat) 1).toInt)))
        else
        (PL a0 a1 a2 fu (.lR5 x7out x12 (leI (subW .u64 (IntKind.u64.wrap a1) (IntKind.u64.wrap ((ce (ro a0 x12.toNat) 1).toInt))) (IntKind.u64.wrap a2)) ((ce (ro a0 x12.toNat) 0).toInt) ((ce (ro a0 x12.toNat) 1).toInt))))
      else
      (PL a0 a1 a2 fu (.lR5 x7out x12 false ((ce (ro a0 x12.toNat) 0).toInt) ((ce (ro a0 x12.toNat) 1).toInt)))) else none) else none) else none) else none)
    else
    ((UniP.P 1 x7out []).bind fun y_1 =>
      some (.sl 0 1 y_1))
  | fu + 1, .lR5 x7out x12 x34 m0_0 m0_1 =>
    if x34 then
    (if room x7out [[.int .i64 m0_0]] 8 then PL a0 a1 a2 fu (.l0 (x7out ++ [[.int .i64 m0_0]]) (addW .i64 x12 1)) else none)
    else
    (PL a0 a1 a2 fu (.l0 x7out (addW .i64 x12 1)))
noncomputable def P (a0 : List (List AV)) (a1 : Int) (a2 : Int) : Option AV := lim fun fu =>
    PL a0 a1 a2 fu (.l0 [] 0)
theorem PL_ok {a0 : List (List AV)} {a1 : Int} {a2 : Int} {Q : AV → Heap → Prop} {v : AV} (hQ : ∀ H, Q v H) : ∀ (fu : Nat) (s : LS) (H : Heap), PL a0 a1 a2 fu s = some v → match s with | .l0 x7out x12 => L0 a0 a1 a2 Q x7out x12 H | .lR5 x7out x12 x34 m0_0 m0_1 => JR5 a0 a1 a2 Q x7out x12 x34 m0_0 m0_1 H := by
  intro fu
  induction fu with
  | zero => intro s H h; exact absurd h (by cases s <;> simp only [PL] <;> exact nofun)
  | succ fu ih =>
    intro s H
    cases s with
    | l0 x7out x12 =>
      show PL a0 a1 a2 (fu + 1) (.l0 x7out x12) = some v → L0 a0 a1 a2 Q x7out x12 H
      rw [PL]
      refine fun h => L0_step (?_ : r0 a0 a1 a2 Q x7out x12 H)
      revert h
      unfold r0
      repeat' first | exact lsV hQ | exact lsF | apply lsG | apply lsC | refine UniP.ls fun _ _ => ?_ | refine lsAll fun _ => ?_ | refine lsEx fun _ _ => ?_ | exact fun h => ih _ _ h
    | lR5 x7out x12 x34 m0_0 m0_1 =>
      show PL a0 a1 a2 (fu + 1) (.lR5 x7out x12 x34 m0_0 m0_1) = some v → JR5 a0 a1 a2 Q x7out x12 x34 m0_0 m0_1 H
      rw [PL]
      refine fun h => JR5_step (?_ : jR5 a0 a1 a2 Q x7out x12 x34 m0_0 m0_1 H)
      revert h
      unfold jR5
      repeat' first | exact lsV hQ | exact lsF | apply lsG | apply lsC | refine lsAll fun _ => ?_ | refine lsEx fun _ _ => ?_ | exact fun h => ih _ _ h
theorem ok {a0 : List (List AV)} {a1 : Int} {a2 : Int} {v : AV} (h : P a0 a1 a2 = some v) {H : Heap} {Q : AV → Heap → Prop} (hQ : ∀ H, Q v H) : C 14 [.sl 0 2 a0, .int .i64 a1, .int .i64 a2] H Q := by
  refine call ?_
  unfold t
  unfold P at h
  obtain ⟨fu, h⟩ := lim_some h
  revert h
  repeat' first | exact lsV hQ | exact lsF | apply lsG | apply lsC | refine lsAll fun _ => ?_ | refine lsEx fun _ _ => ?_ | exact fun h => PL_ok hQ _ _ _ h
theorem ls {a0 : List (List AV)} {a1 : Int} {a2 : Int} {v : AV} {H : Heap} {k : AV → Option AV} {K : AV → Heap → Prop} (h : ∀ w H, k w = some v → K w H) : (P a0 a1 a2).bind k = some v → C 14 [.sl 0 2 a0, .int .i64 a1, .int .i64 a2] H K := fun e => bind_ls (Cq := fun K => C 14 [.sl 0 2 a0, .int .i64 a1, .int .i64 a2] H K) (fun h => ok h) h e
end F14
/-! ### slices.Equal[[]int,int]: function 16 -/
namespace F16
inductive LS where
  | l0 (x13 : Int)
noncomputable def PL (a0 : List (List AV)) (a1 : List (List AV)) : Nat → LS → Option AV
  | 0, _ => none
  | fu + 1, .l0 x13 =>
    if ltI x13 (lenI a0) then
    (if leI 0 x13 then (if ltI x13 (lenI a0) then (if (ce (ro a0 x13.toNat) 0).isInt .i64 then (if leI 0 x13 then (if ltI x13 (lenI a1) then (if (ce (ro a1 x13.toNat) 0).isInt .i64 then (if !(eqI ((ce (ro a0 x13.toNat) 0).toInt) ((ce (ro a1 x13.toNat) 0).toInt)) then
      (some (.bool false))
      else
      (PL a0 a1 fu (.l0 (addW .i64 x13 1)))) else none) else none) else none) else none) else none) else none)
    else
    (some (.bool true))
noncomputable def P (a0 : List (List AV)) (a1 : List (List AV)) : Option AV := lim fun fu =>
    if !(eqI (lenI a0) (lenI a1)) then
    (some (.bool false))
    else
    (PL a0 a1 fu (.l0 0))
theorem PL_ok {a0 : List (List AV)} {a1 : List (List AV)} {Q : AV → Heap → Prop} {v : AV} (hQ : ∀ H, Q v H) : ∀ (fu : Nat) (s : LS) (H : Heap), PL a0 a1 fu s = some v → match s with | .l0 x13 => L0 a0 a1 Q x13 H := by
  intro fu
  induction fu with
  | zero => intro s H h; exact absurd h (by cases s <;> simp only [PL] <;> exact nofun)
  | succ fu ih =>
    intro s H
    cases s with
    | l0 x13 =>
      show PL a0 a1 (fu + 1) (.l0 x13) = some v → L0 a0 a1 Q x13 H
      rw [PL]
      refine fun h => L0_step (?_ : r0 a0 a1 Q x13 H)
      revert h
      unfold r0
      repeat' first | exact lsV hQ | exact lsF | apply lsG | apply lsC | refine lsAll fun _ => ?_ | refine lsEx fun _ _ => ?_ | exact fun h => ih _ _ h
theorem ok {a0 : List (List AV)} {a1 : List (List AV)} {v : AV} (h : P a0 a1 = some v) {H : Heap} {Q : AV → Heap → Prop} (hQ : ∀ H, Q v H) : C 16 [.sl 0 1 a0, .sl 0 1 a1] H Q := by
  refine call ?_
  unfold t
  unfold P at h
  obtain ⟨fu, h⟩ := lim_some h
  revert h
  repeat' first | exact lsV hQ | exact lsF | apply lsG | apply lsC | refine lsAll fun _ => ?_ | refine lsEx fun _ _ => ?_ | exact fun h => PL_ok hQ _ _ _ h
theorem ls {a0 : List (List AV)} {a1 : List (List AV)} {v : AV} {H : Heap} {k : AV → Option AV} {K : AV → Heap → Prop} (h : ∀ w H, k w = some v → K w H) : (P a0 a1).bind k = some v → C 16 [.sl 0 1 a0, .sl 0 1 a1] H K := fun e => bind_ls (Cq := fun K => C 16 [.sl 0 1 a0, .sl 0 1 a1] H K) (fun h => ok h) h e
end F16
/-! ### slices.Index[[]int,int]: function 37 -/
namespace F37
inductive LS where
  | l0 (x8 : Int)
noncomputable def PL (a0 : List (List AV)) (a1 : Int) : Nat → LS → Option AV
  | 0, _ => none
  | fu + 1, .l0 x8 =>
    if ltI x8 (lenI a0) then
    (if leI 0 x8 then (if ltI x8 (lenI a0) then (if (ce (ro a0 x8.toNat) 0).isInt .i64 then (if eqI a1 ((ce (ro a0 x8.toNat) 0).toInt) then
      (some (.int .i64 x8))
      else
      (PL a0 a1 fu (.l0 (addW .i64 x8 1)))) else none) else none) else none)
    else
    (some (.int .i64 (-1)))
noncomputable def P (a0 : List (List AV)) (a1 : Int) : Option AV := lim fun fu =>
    PL a0 a1 fu (.l0 0)
theorem PL_ok {a0 : List (List AV)} {a1 : Int} {Q : AV → Heap → Prop} {v : AV} (hQ : ∀ H, Q v H) : ∀ (fu : Nat) (s : LS) (H : Heap), PL a0 a1 fu s = some v → match s with | .l0 x8 => L0 a0 a1 Q x8 H := by
  intro fu
  induction fu with
  | zero => intro s H h; exact absurd h (by cases s <;> simp only [PL] <;> exact nofun)
  | succ fu ih =>
    intro s H
    cases s with
    | l0 x8 =>
      show PL a0 a1 (fu + 1) (.l0 x8) = some v → L0 a0 a1 Q x8 H
      rw [PL]
      refine fun h => L0_step (?_ : r0 a0 a1 Q x8 H)
      revert h
      unfold r0
      repeat' first | exact lsV hQ | exact lsF | apply lsG | apply lsC | refine lsAll fun _ => ?_ | refine lsEx fun _ _ => ?_ | exact fun h => ih _ _ h
theorem ok {a0 : List (List AV)} {a1 : Int} {v : AV} (h : P a0 a1 = some v) {H : Heap} {Q : AV → Heap → Prop} (hQ : ∀ H, Q v H) : C 37 [.sl 0 1 a0, .int .i64 a1] H Q := by
  refine call ?_
  unfold t
  unfold P at h
  obtain ⟨fu, h⟩ := lim_some h
  revert h
  repeat' first | exact lsV hQ | exact lsF | apply lsG | apply lsC | refine lsAll fun _ => ?_ | refine lsEx fun _ _ => ?_ | exact fun h => PL_ok hQ _ _ _ h
theorem ls {a0 : List (List AV)} {a1 : Int} {v : AV} {H : Heap} {k : AV → Option AV} {K : AV → Heap → Prop} (h : ∀ w H, k w = some v → K w H) : (P a0 a1).bind k = some v → C 37 [.sl 0 1 a0, .int .i64 a1] H K := fun e => bind_ls (Cq := fun K => C 37 [.sl 0 1 a0, .int .i64 a1] H K) (fun h => ok h) h e
end F37
/-! ### slices.Contains[[]int,int]: function 27 -/
namespace F27
noncomputable def P (a0 : List (List AV)) (a1 : Int) : Option AV :=
    (F37.P a0 a1).bind fun v_1 =>
    if (v_1).isInt .i64 then some (.bool (leI 0 ((v_1).toInt))) else none
theorem ok {a0 : List (List AV)} {a1 : Int} {v : AV} (h : P a0 a1 = some v) {H : Heap} {Q : AV → Heap → Prop} (hQ : ∀ H, Q v H) : C 27 [.sl 0 1 a0, .int .i64 a1] H Q := by
  refine call ?_
  unfold t
  unfold P at h
  revert h
  repeat' first | exact lsV hQ | exact lsF | apply lsG | apply lsC | refine F37.ls fun _ _ => ?_ | refine lsAll fun _ => ?_ | refine lsEx fun _ _ => ?_
theorem ls {a0 : List (List AV)} {a1 : Int} {v : AV} {H : Heap} {k : AV → Option AV} {K : AV → Heap → Prop} (h : ∀ w H, k w = some v → K w H) : (P a0 a1).bind k = some v → C 27 [.sl 0 1 a0, .int .i64 a1] H K := fun e => bind_ls (Cq := fun K => C 27 [.sl 0 1 a0, .int .i64 a1] H K) (fun h => ok h) h e
end F27
/-! ### broker/member.Heirs: function 17 -/
namespace F17
inductive LS where
  | l0 (x5out : List (List AV)) (x10 : Int)
noncomputable def PL (a0 : List (List AV)) (a1 : List (List AV)) : Nat → LS → Option AV
  | 0, _ => none
  | fu + 1, .l0 x5out x10 =>
    if ltI x10 (lenI a0) then
    (if leI 0 x10 then (if ltI x10 (lenI a0) then (if (ce (ro a0 x10.toNat) 0).isInt .i64 then ((F27.P a1 ((ce (ro a0 x10.toNat) 0).toInt)).bind fun v_1 =>
      if (v_1).isBool then (if !((v_1).toBool) then
        (if room x5out [[.int .i64 ((ce (ro a0 x10.toNat) 0).toInt)]] 8 then PL a0 a1 fu (.l0 (x5out ++ [[.int .i64 ((ce (ro a0 x10.toNat) 0).toInt)]]) (addW .i64 x10 1)) else none)
        else
        (PL a0 a1 fu (.l0 x5out (addW .i64 x10 1)))) else none) else none) else none) else none)
    else
    ((UniP.P 1 x5out []).bind fun y_3 =>
      some (.sl 0 1 y_3))
noncomputable def P (a0 : List (List AV)) (a1 : List (List AV)) : Option AV := lim fun fu =>
    PL a0 a1 fu (.l0 [] 0)
theorem PL_ok {a0 : List (List AV)} {a1 : List (List AV)} {Q : AV → Heap → Prop} {v : AV} (hQ : ∀ H, Q v H) : ∀ (fu : Nat) (s : LS) (H : Heap), PL a0 a1 fu s = some v → match s with | .l0 x5out x10 => L0 a0 a1 Q x5out x10 H := by
  intro fu
  induction fu with
  | zero => intro s H h; exact absurd h (by cases s <;> simp only [PL] <;> exact nofun)
  | succ fu ih =>
    intro s H
    cases s with
    | l0 x5out x10 =>
      show PL a0 a1 (fu + 1) (.l0 x5out x10) = some v → L0 a0 a1 Q x5out x10 H
      rw [PL]
      refine fun h => L0_step (?_ : r0 a0 a1 Q x5out x10 H)
      revert h
      unfold r0
      repeat' first | exact lsV hQ | exact lsF | apply lsG | apply lsC | refine F27.ls fun _ _ => ?_ | refine UniP.ls fun _ _ => ?_ | refine lsAll fun _ => ?_ | refine lsEx fun _ _ => ?_ | exact fun h => ih _ _ h
theorem ok {a0 : List (List AV)} {a1 : List (List AV)} {v : AV} (h : P a0 a1 = some v) {H : Heap} {Q : AV → Heap → Prop} (hQ : ∀ H, Q v H) : C 17 [.sl 0 1 a0, .sl 0 1 a1] H Q := by
  refine call ?_
  unfold t
  unfold P at h
  obtain ⟨fu, h⟩ := lim_some h
  revert h
  repeat' first | exact lsV hQ | exact lsF | apply lsG | apply lsC | refine lsAll fun _ => ?_ | refine lsEx fun _ _ => ?_ | exact fun h => PL_ok hQ _ _ _ h
theorem ls {a0 : List (List AV)} {a1 : List (List AV)} {v : AV} {H : Heap} {k : AV → Option AV} {K : AV → Heap → Prop} (h : ∀ w H, k w = some v → K w H) : (P a0 a1).bind k = some v → C 17 [.sl 0 1 a0, .sl 0 1 a1] H K := fun e => bind_ls (Cq := fun K => C 17 [.sl 0 1 a0, .sl 0 1 a1] H K) (fun h => ok h) h e
end F17
/-! ### broker/member.Sides: function 19 -/
namespace F19
inductive LS where
  | l0 (x25 : Int) (m0_0 : Int) (m0_1 : Int) (m0_2 : Int) (m0_3 : Int) (m0_4 : Int) (m0_5 : Int) (m0_6 : Int)
  | l1 (x34 : Int) (m0_0 : Int) (m0_1 : Int) (m0_2 : Int) (m0_3 : Int) (m0_4 : Int) (m0_5 : Int) (m0_6 : Int)
  | lR13 (x9a : Int) (x10b : Int) (x34 : Int) (x57 : Bool) (m0_0 : Int) (m0_1 : Int) (m0_2 : Int) (m0_3 : Int) (m0_4 : Int) (m0_5 : Int) (m0_6 : Int) (m1_0 : Int) (m1_1 : Int)
  | l3 (x14out : List (List AV)) (x87 : Int) (m0_0 : Int) (m0_1 : Int) (m0_2 : Int) (m0_3 : Int) (m0_4 : Int) (m0_5 : Int) (m0_6 : Int)
  | l2 (x11from : Int) (x12to : Int) (x34 : Int) (x73 : Int) (m0_0 : Int) (m0_1 : Int) (m0_2 : Int) (m0_3 : Int) (m0_4 : Int) (m0_5 : Int) (m0_6 : Int) (m1_0 : Int) (m1_1 : Int)
  | l4 (x14out : List (List AV)) (x15i : Int) (x16group : List (List AV)) (x87 : Int) (x91 : Int) (m0_0 : Int) (m0_1 : Int) (m0_2 : Int) (m0_3 : Int) (m0_4 : Int) (m0_5 : Int) (m0_6 : Int)
noncomputable def PL (a0 : Int) (a1 : List (List AV)) : Nat → LS → Option AV
  | 0, _ => none
  | fu + 1, .l0 x25 m0_0 m0_1 m0_2 m0_3 m0_4 m0_5 m0_6 =>
    if ltI x25 a0 then
    (if leI 0 x25 then (if ltI x25 7 then (if Nat.ble ((0 + (x25.toNat * 1)) + 1) (7) then PL a0 a1 fu (.l0 (addW .i64 x25 1) (cond (Nat.beq (0 + (x25.toNat * 1)) 0) x25 m0_0) (cond (Nat.beq (0 + (x25.toNat * 1)) 1) x25 m0_1) (cond (Nat.beq (0 + (x25.toNat * 1)) 2) x25 m0_2) (cond (Nat.beq (0 + (x25.toNat * 1)) 3) x25 m0_3) (cond (Nat.beq (0 + (x25.toNat * 1)) 4) x25 m0_4) (cond (Nat.beq (0 + (x25.toNat * 1)) 5) x25 m0_5) (cond (Nat.beq (0 + (x25.toNat * 1)) 6) x25 m0_6)) else none) else none) else none)
    else
    (PL a0 a1 fu (.l1 0 m0_0 m0_1 m0_2 m0_3 m0_4 m0_5 m0_6))
  | fu + 1, .l1 x34 m0_0 m0_1 m0_2 m0_3 m0_4 m0_5 m0_6 =>
    if ltI x34 (lenI a1) then
    (if leI 0 x34 then (if ltI x34 (lenI a1) then (if (ce (ro a1 x34.toNat) 0).isInt .i64 then (if (ce (ro a1 x34.toNat) 1).isInt .i64 then (if ltI ((ce (ro a1 x34.toNat) 0).toInt) 0 then
      (PL a0 a1 fu (.lR13 ((ce (ro a1 x34.toNat) 0).toInt) ((ce (ro a1 x34.toNat) 1).toInt) x34 true m0_0 m0_1 m0_2 m0_3 m0_4 m0_5 m0_6 ((ce (ro a1 x34.toNat) 0).toInt) ((ce (ro a1 x34.toNat) 1).toInt)))
      else
      (if ltI ((ce (ro a1 x34.toNat) 1).toInt) 0 then
        (PL a0 a1 fu (.lR13 ((ce (ro a1 x34.toNat) 0).toInt) ((ce (ro a1 x34.toNat) 1).toInt) x34 true m0_0 m0_1 m0_2 m0_3 m0_4 m0_5 m0_6 ((ce (ro a1 x34.toNat) 0).toInt) ((ce (ro a1 x34.toNat) 1).toInt)))
        else
        (if leI a0 ((ce (ro a1 x34.toNat) 0).toInt) then
          (PL a0 a1 fu (.lR13 ((ce (ro a1 x34.toNat) 0).toInt) ((ce (ro a1 x34.toNat) 1).toInt) x34 true m0_0 m0_1 m0_2 m0_3 m0_4 m0_5 m0_6 ((ce (ro a1 x34.toNat) 0).toInt) ((ce (ro a1 x34.toNat) 1).toInt)))
          else
          (PL a0 a1 fu (.lR13 ((ce (ro a1 x34.toNat) 0).toInt) ((ce (ro a1 x34.toNat) 1).toInt) x34 (leI a0 ((ce (ro a1 x34.toNat) 1).toInt)) m0_0 m0_1 m0_2 m0_3 m0_4 m0_5 m0_6 ((ce (ro a1 x34.toNat) 0).toInt) ((ce (ro a1 x34.toNat) 1).toInt)))))) else none) else none) else none) else none)
    else
    (PL a0 a1 fu (.l3 [] 0 m0_0 m0_1 m0_2 m0_3 m0_4 m0_5 m0_6))
  | fu + 1, .lR13 x9a x10b x34 x57 m0_0 m0_1 m0_2 m0_3 m0_4 m0_5 m0_6 m1_0 m1_1 =>
    if x57 then
    (PL a0 a1 fu (.l1 (addW .i64 x34 1) m0_0 m0_1 m0_2 m0_3 m0_4 m0_5 m0_6))
    else
    (if leI 0 x9a then (if ltI x9a 7 then (if (ce [.int .i64 m0_0, .int .i64 m0_1, .int .i64 m0_2, .int .i64 m0_3, .int .i64 m0_4, .int .i64 m0_5, .int .i64 m0_6] (0 + (x9a.toNat * 1))).isInt .i64 then (if leI 0 x10b then (if ltI x10b 7 then (if (ce [.int .i64 m0_0, .int .i64 m0_1, .int .i64 m0_2, .int .i64 m0_3, .int .i64 m0_4, .int .i64 m0_5, .int .i64 m0_6] (0 + (x10b.toNat * 1))).isInt .i64 then (if leI 0 x9a then (if ltI x9a 7 then (if (ce [.int .i64 m0_0, .int .i64 m0_1, .int .i64 m0_2, .int .i64 m0_3, .int .i64 m0_4, .int .i64 m0_5, .int .i64 m0_6] (0 + (x9a.toNat * 1))).isInt .i64 then (if leI 0 x10b then (if ltI x10b 7 then (if (ce [.int .i64 m0_0, .int .i64 m0_1, .int .i64 m0_2, .int .i64 m0_3, .int .i64 m0_4, .int .i64 m0_5, .int .i64 m0_6] (0 + (x10b.toNat * 1))).isInt .i64 then PL a0 a1 fu (.l2 (cond (ltI ((ce [.int .i64 m0_0, .int .i64 m0_1, .int .i64 m0_2, .int .i64 m0_3, .int .i64 m0_4, .int .i64 m0_5, .int .i64 m0_6] (0 + (x9a.toNat * 1))).toInt) ((ce [.int .i64 m0_0, .int .i64 m0_1, .int .i64 m0_2, .int .i64 m0_3, .int .i64 m0_4, .int .i64 m0_5, .int .i64 m0_6] (0 + (x10b.toNat * 1))).toInt)) ((ce [.int .i64 m0_0, .int .i64 m0_1, .int .i64 m0_2, .int .i64 m0_3, .int .i64 m0_4, .int .i64 m0_5, .int .i64 m0_6] (0 + (x10b.toNat * 1))).toInt) ((ce [.int .i64 m0_0, .int .i64 m0_1, .int .i64 m0_2, .int .i64 m0_3, .int .i64 m0_4, .int .i64 m0_5, .int .i64 m0_6] (0 + (x9a.toNat * 1))).toInt)) (cond (ltI ((ce [.int .i64 m0_0, .int .i64 m0_1, .int .i64 m0_2, .int .i64 m0_3, .int .i64 m0_4, .int .i64 m0_5, .int .i64 m0_6] (0 + (x10b.toNat * 1))).toInt) ((ce [.int .i64 m0_0, .int .i64 m0_1, .int .i64 m0_2, .int .i64 m0_3, .int .i64 m0_4, .int .i64 m0_5, .int .i64 m0_6] (0 + (x9a.toNat * 1))).toInt)) ((ce [.int .i64 m0_0, .int .i64 m0_1, .int .i64 m0_2, .int .i64 m0_3, .int .i64 m0_4, .int .i64 m0_5, .int .i64 m0_6] (0 + (x10b.toNat * 1))).toInt) ((ce [.int .i64 m0_0, .int .i64 m0_1, .int .i64 m0_2, .int .i64 m0_3, .int .i64 m0_4, .int .i64 m0_5, .int .i64 m0_6] (0 + (x9a.toNat * 1))).toInt)) x34 0 m0_0 m0_1 m0_2 m0_3 m0_4 m0_5 m0_6 m1_0 m1_1) else none) else none) else none) else none) else none) else none) else none) else none) else none) else none) else none) else none)
  | fu + 1, .l3 x14out x87 m0_0 m0_1 m0_2 m0_3 m0_4 m0_5 m0_6 =>
    if ltI x87 a0 then
    (PL a0 a1 fu (.l4 x14out x87 [] x87 0 m0_0 m0_1 m0_2 m0_3 m0_4 m0_5 m0_6))
    else
    (some (.sl 0 1 x14out))
  | fu + 1, .l2 x11from x12to x34 x73 m0_0 m0_1 m0_2 m0_3 m0_4 m0_5 m0_6 m1_0 m1_1 =>
    if ltI x73 a0 then
    (if leI 0 x73 then (if ltI x73 7 then (if (ce [.int .i64 m0_0, .int .i64 m0_1, .int .i64 m0_2, .int .i64 m0_3, .int .i64 m0_4, .int .i64 m0_5, .int .i64 m0_6] (0 + (x73.toNat * 1))).isInt .i64 then (if eqI ((ce [.int .i64 m0_0, .int .i64 m0_1, .int .i64 m0_2, .int .i64 m0_3, .int .i64 m0_4, .int .i64 m0_5, .int .i64 m0_6] (0 + (x73.toNat * 1))).toInt) x11from then
      (if leI 0 x73 then (if ltI x73 7 then (if Nat.ble ((0 + (x73.toNat * 1)) + 1) (7) then PL a0 a1 fu (.l2 x11from x12to x34 (addW .i64 x73 1) (cond (Nat.beq (0 + (x73.toNat * 1)) 0) x12to m0_0) (cond (Nat.beq (0 + (x73.toNat * 1)) 1) x12to m0_1) (cond (Nat.beq (0 + (x73.toNat * 1)) 2) x12to m0_2) (cond (Nat.beq (0 + (x73.toNat * 1)) 3) x12to m0_3) (cond (Nat.beq (0 + (x73.toNat * 1)) 4) x12to m0_4) (cond (Nat.beq (0 + (x73.toNat * 1)) 5) x12to m0_5) (cond (Nat.beq (0 + (x73.toNat * 1)) 6) x12to m0_6) m1_0 m1_1) else none) else none) else none)
      else
      (PL a0 a1 fu (.l2 x11from x12to x34 (addW .i64 x73 1) m0_0 m0_1 m0_2 m0_3 m0_4 m0_5 m0_6 m1_0 m1_1))) else none) else none) else none)
    else
    (PL a0 a1 fu (.l1 (addW .i64 x34 1) m0_0 m0_1 m0_2 m0_3 m0_4 m0_5 m0_6))
  | fu + 1, .l4 x14out x15i x16group x87 x91 m0_0 m0_1 m0_2 m0_3 m0_4 m0_5 m0_6 =>
    if ltI x91 a0 then
    (if leI 0 x91 then (if ltI x91 7 then (if (ce [.int .i64 m0_0, .int .i64 m0_1, .int .i64 m0_2, .int .i64 m0_3, .int .i64 m0_4, .int .i64 m0_5, .int .i64 m0_6] (0 + (x91.toNat * 1))).isInt .i64 then (if eqI ((ce [.int .i64 m0_0, .int .i64 m0_1, .int .i64 m0_2, .int .i64 m0_3, .int .i64 m0_4, .int .i64 m0_5, .int .i64 m0_6] (0 + (x91.toNat * 1))).toInt) x15i then
      (if room x16group [[.int .i64 x91]] 8 then PL a0 a1 fu (.l4 x14out x15i (x16group ++ [[.int .i64 x91]]) x87 (addW .i64 x91 1) m0_0 m0_1 m0_2 m0_3 m0_4 m0_5 m0_6) else none)
      else
      (PL a0 a1 fu (.l4 x14out x15i x16group x87 (addW .i64 x91 1) m0_0 m0_1 m0_2 m0_3 m0_4 m0_5 m0_6))) else none) else none) else none)
    else
    (if ltI 0 (lenI x16group) then
      (if room x14out [[.sl 0 1 x16group]] 24 then PL a0 a1 fu (.l3 (x14out ++ [[.sl 0 1 x16group]]) (addW .i64 x87 1) m0_0 m0_1 m0_2 m0_3 m0_4 m0_5 m0_6) else none)
      else
      (PL a0 a1 fu (.l3 x14out (addW .i64 x87 1) m0_0 m0_1 m0_2 m0_3 m0_4 m0_5 m0_6)))
noncomputable def P (a0 : Int) (a1 : List (List AV)) : Option AV := lim fun fu =>
    if ltI a0 1 then
    (some (.nilsl))
    else
    (if ltI 7 a0 then
      (some (.nilsl))
      else
      (PL a0 a1 fu (.l0 0 0 0 0 0 0 0 0)))
theorem PL_ok {a0 : Int} {a1 : List (List AV)} {Q : AV → Heap → Prop} {v : AV} (hQ : ∀ H, Q v H) : ∀ (fu : Nat) (s : LS) (H : Heap), PL a0 a1 fu s = some v → match s with | .l0 x25 m0_0 m0_1 m0_2 m0_3 m0_4 m0_5 m0_6 => L0 a0 a1 Q x25 m0_0 m0_1 m0_2 m0_3 m0_4 m0_5 m0_6 H | .l1 x34 m0_0 m0_1 m0_2 m0_3 m0_4 m0_5 m0_6 => L1 a0 a1 Q x34 m0_0 m0_1 m0_2 m0_3 m0_4 m0_5 m0_6 H | .lR13 x9a x10b x34 x57 m0_0 m0_1 m0_2 m0_3 m0_4 m0_5 m0_6 m1_0 m1_1 => JR13 a0 a1 Q x9a x10b x34 x57 m0_0 m0_1 m0_2 m0_3 m0_4 m0_5 m0_6 m1_0 m1_1 H | .l3 x14out x87 m0_0 m0_1 m0_2 m0_3 m0_4 m0_5 m0_6 => L3 a0 a1 Q x14out x87 m0_0 m0_1 m0_2 m0_3 m0_4 m0_5 m0_6 H | .l2 x11from x12to x34 x73 m0_0 m0_1 m0_2 m0_3 m0_4 m0_5 m0_6 m1_0 m1_1 => L2 a0 a1 Q x11from x12to x34 x73 m0_0 m0_1 m0_2 m0_3 m0_4 m0_5 m0_6 m1_0 m1_1 H | .l4 x14out x15i x16group x87 x91 m0_0 m0_1 m0_2 m0_3 m0_4 m0_5 m0_6 => L4 a0 a1 Q x14out x15i x16group x87 x91 m0_0 m0_1 m0_2 m0_3 m0_4 m0_5 m0_6 H := by
  intro fu
  induction fu with
  | zero => intro s H h; exact absurd h (by cases s <;> simp only [PL] <;> exact nofun)
  | succ fu ih =>
    intro s H
    cases s with
    | l0 x25 m0_0 m0_1 m0_2 m0_3 m0_4 m0_5 m0_6 =>
      show PL a0 a1 (fu + 1) (.l0 x25 m0_0 m0_1 m0_2 m0_3 m0_4 m0_5 m0_6) = some v → L0 a0 a1 Q x25 m0_0 m0_1 m0_2 m0_3 m0_4 m0_5 m0_6 H
      rw [PL]
      refine fun h => L0_step (?_ : r0 a0 a1 Q x25 m0_0 m0_1 m0_2 m0_3 m0_4 m0_5 m0_6 H)
      revert h
      unfold r0
      repeat' first | exact lsV hQ | exact lsF | apply lsG | apply lsC | refine lsAll fun _ => ?_ | refine lsEx fun _ _ => ?_ | exact fun h => ih _ _ h
    | l1 x34 m0_0 m0_1 m0_2 m0_3 m0_4 m0_5 m0_6 =>
      show PL a0 a1 (fu + 1) (.l1 x34 m0_0 m0_1 m0_2 m0_3 m0_4 m0_5 m0_6) = some v → L1 a0 a1 Q x34 m0_0 m0_1 m0_2 m0_3 m0_4 m0_5 m0_6 H
      rw [PL]
      refine fun h => L1_step (?_ : r1 a0 a1 Q x34 m0_0 m0_1 m0_2 m0_3 m0_4 m0_5 m0_6 H)
      revert h
      unfold r1
      repeat' first | exact lsV hQ | exact lsF | apply lsG | apply lsC | refine lsAll fun _ => ?_ | refine lsEx fun _ _ => ?_ | exact fun h => ih _ _ h
    | lR13 x9a x10b x34 x57 m0_0 m0_1 m0_2 m0_3 m0_4 m0_5 m0_6 m1_0 m1_1 =>
      show PL a0 a1 (fu + 1) (.lR13 x9a x10b x34 x57 m0_0 m0_1 m0_2 m0_3 m0_4 m0_5 m0_6 m1_0 m1_1) = some v → JR13 a0 a1 Q x9a x10b x34 x57 m0_0 m0_1 m0_2 m0_3 m0_4 m0_5 m0_6 m1_0 m1_1 H
      rw [PL]
      refine fun h => JR13_step (?_ : jR13 a0 a1 Q x9a x10b x34 x57 m0_0 m0_1 m0_2 m0_3 m0_4 m0_5 m0_6 m1_0 m1_1 H)
      revert h
      unfold jR13
      repeat' first | exact lsV hQ | exact lsF | apply lsG | apply lsC | refine lsAll fun _ => ?_ | refine lsEx fun _ _ => ?_ | exact fun h => ih _ _ h
    | l3 x14out x87 m0_0 m0_1 m0_2 m0_3 m0_4 m0_5 m0_6 =>
      show PL a0 a1 (fu + 1) (.l3 x14out x87 m0_0 m0_1 m0_2 m0_3 m0_4 m0_5 m0_6) = some v → L3 a0 a1 Q x14out x87 m0_0 m0_1 m0_2 m0_3 m0_4 m0_5 m0_6 H
      rw [PL]
      refine fun h => L3_step (?_ : r3 a0 a1 Q x14out x87 m0_0 m0_1 m0_2 m0_3 m0_4 m0_5 m0_6 H)
      revert h
      unfold r3
      repeat' first | exact lsV hQ | exact lsF | apply lsG | apply lsC | refine lsAll fun _ => ?_ | refine lsEx fun _ _ => ?_ | exact fun h => ih _ _ h
    | l2 x11from x12to x34 x73 m0_0 m0_1 m0_2 m0_3 m0_4 m0_5 m0_6 m1_0 m1_1 =>
      show PL a0 a1 (fu + 1) (.l2 x11from x12to x34 x73 m0_0 m0_1 m0_2 m0_3 m0_4 m0_5 m0_6 m1_0 m1_1) = some v → L2 a0 a1 Q x11from x12to x34 x73 m0_0 m0_1 m0_2 m0_3 m0_4 m0_5 m0_6 m1_0 m1_1 H
      rw [PL]
      refine fun h => L2_step (?_ : r2 a0 a1 Q x11from x12to x34 x73 m0_0 m0_1 m0_2 m0_3 m0_4 m0_5 m0_6 m1_0 m1_1 H)
      revert h
      unfold r2
      repeat' first | exact lsV hQ | exact lsF | apply lsG | apply lsC | refine lsAll fun _ => ?_ | refine lsEx fun _ _ => ?_ | exact fun h => ih _ _ h
    | l4 x14out x15i x16group x87 x91 m0_0 m0_1 m0_2 m0_3 m0_4 m0_5 m0_6 =>
      show PL a0 a1 (fu + 1) (.l4 x14out x15i x16group x87 x91 m0_0 m0_1 m0_2 m0_3 m0_4 m0_5 m0_6) = some v → L4 a0 a1 Q x14out x15i x16group x87 x91 m0_0 m0_1 m0_2 m0_3 m0_4 m0_5 m0_6 H
      rw [PL]
      refine fun h => L4_step (?_ : r4 a0 a1 Q x14out x15i x16group x87 x91 m0_0 m0_1 m0_2 m0_3 m0_4 m0_5 m0_6 H)
      revert h
      unfold r4
      repeat' first | exact lsV hQ | exact lsF | apply lsG | apply lsC | refine lsAll fun _ => ?_ | refine lsEx fun _ _ => ?_ | exact fun h => ih _ _ h
theorem ok {a0 : Int} {a1 : List (List AV)} {v : AV} (h : P a0 a1 = some v) {H : Heap} {Q : AV → Heap → Prop} (hQ : ∀ H, Q v H) : C 19 [.int .i64 a0, .sl 0 2 a1] H Q := by
  refine call ?_
  unfold t
  unfold P at h
  obtain ⟨fu, h⟩ := lim_some h
  revert h
  repeat' first | exact lsV hQ | exact lsF | apply lsG | apply lsC | refine lsAll fun _ => ?_ | refine lsEx fun _ _ => ?_ | exact fun h => PL_ok hQ _ _ _ h
theorem ls {a0 : Int} {a1 : List (List AV)} {v : AV} {H : Heap} {k : AV → Option AV} {K : AV → Heap → Prop} (h : ∀ w H, k w = some v → K w H) : (P a0 a1).bind k = some v → C 19 [.int .i64 a0, .sl 0 2 a1] H K := fun e => bind_ls (Cq := fun K => C 19 [.int .i64 a0, .sl 0 2 a1] H K) (fun h => ok h) h e
end F19
/-! ### broker/member.Quorum: function 24 -/
namespace F24
noncomputable def P (a0 : Int) (a1 : Int) : Option AV :=
    if leI 1 a1 then
    (some (.bool (ltI (IntKind.i64.wrap (Int.tdiv a1 2)) a0)))
    else
    (some (.bool false))
theorem ok {a0 : Int} {a1 : Int} {v : AV} (h : P a0 a1 = some v) {H : Heap} {Q : AV → Heap → Prop} (hQ : ∀ H, Q v H) : C 24 [.int .i64 a0, .int .i64 a1] H Q := by
  refine call ?_
  unfold t
  unfold P at h
  revert h
  repeat' first | exact lsV hQ | exact lsF | apply lsG | apply lsC | refine lsAll fun _ => ?_ | refine lsEx fun _ _ => ?_
theorem ls {a0 : Int} {a1 : Int} {v : AV} {H : Heap} {k : AV → Option AV} {K : AV → Heap → Prop} (h : ∀ w H, k w = some v → K w H) : (P a0 a1).bind k = some v → C 24 [.int .i64 a0, .int .i64 a1] H K := fun e => bind_ls (Cq := fun K => C 24 [.int .i64 a0, .int .i64 a1] H K) (fun h => ok h) h e
end F24
/-! ### slices.Clone[[]int,int]: function 36 -/
namespace F36
noncomputable def P (a0 : List (List AV)) : Option AV :=
    anyB a0 fun b_1 =>
    if b_1 then
      (some (.sl 1 1 []))
      else
      (if room [] a0 8 then some (.sl 1 1 a0) else none)
theorem ok {a0 : List (List AV)} {v : AV} (h : P a0 = some v) {H : Heap} {Q : AV → Heap → Prop} (hQ : ∀ H, Q v H) (hQn : v = .sl 1 1 [] → ∀ H, Q .nilsl H) : C 36 [.sl 0 1 a0] H Q := by
  refine call ?_
  unfold t
  unfold P at h
  revert h
  repeat' first | exact lsVn hQn | exact lsV hQ | exact lsF | apply lsG | apply lsC | refine lsAll fun _ => ?_ | refine lsEx fun _ _ => ?_
theorem ls {a0 : List (List AV)} {v : AV} {H : Heap} {k : AV → Option AV} {K : AV → Heap → Prop} (h : ∀ w H, k w = some v → K w H) (h2 : ∀ H, k (.sl 1 1 []) = some v → K .nilsl H) : (P a0).bind k = some v → C 36 [.sl 0 1 a0] H K := fun e => bind_ls2 (Cq := fun K => C 36 [.sl 0 1 a0] H K) (fun {_} h {_} a b => ok h a b) h h2 e
end F36
/-! ### broker/member.Major: function 21 -/
namespace F21
inductive LS where
  | l0 (x10 : Int)
noncomputable def PL (a0 : List (List AV)) (a1 : Int) : Nat → LS → Option AV
  | 0, _ => none
  | fu + 1, .l0 x10 =>
    if ltI x10 (lenI a0) then
    (if leI 0 x10 then (if ltI x10 (lenI a0) then (if (ce (ro a0 x10.toNat) 0).isSl 1 then ((F24.P (lenI ((ce (ro a0 x10.toNat) 0).slXs)) a1).bind fun v_1 =>
      if (v_1).isBool then (if (v_1).toBool then
        ((F36.P ((ce (ro a0 x10.toNat) 0).slXs)).bind fun v_3 =>
          if (v_3).isOwn 1 then some (.tup [.sl 0 1 ((v_3).slXs), .bool true]) else none)
        else
        (PL a0 a1 fu (.l0 (addW .i64 x10 1)))) else none) else none) else none) else none)
    else
    (some (.tup [.nilsl, .bool false]))
noncomputable def P (a0 : List (List AV)) (a1 : Int) : Option AV := lim fun fu =>
    PL a0 a1 fu (.l0 0)
theorem PL_ok {a0 : List (List AV)} {a1 : Int} {Q : AV → Heap → Prop} {v : AV} (hQ : ∀ H, Q v H) : ∀ (fu : Nat) (s : LS) (H : Heap), PL a0 a1 fu s = some v → match s with | .l0 x10 => L0 a0 a1 Q x10 H := by
  intro fu
  induction fu with
  | zero => intro s H h; exact absurd h (by cases s <;> simp only [PL] <;> exact nofun)
  | succ fu ih =>
    intro s H
    cases s with
    | l0 x10 =>
      show PL a0 a1 (fu + 1) (.l0 x10) = some v → L0 a0 a1 Q x10 H
      rw [PL]
      refine fun h => L0_step (?_ : r0 a0 a1 Q x10 H)
      revert h
      unfold r0
      repeat' first | exact lsV hQ | exact lsF | apply lsG | apply lsC | refine F36.ls (fun _ _ => ?_) (fun _ => ?_) | refine F24.ls fun _ _ => ?_ | refine lsAll fun _ => ?_ | refine lsEx fun _ _ => ?_ | exact fun h => ih _ _ h
theorem ok {a0 : List (List AV)} {a1 : Int} {v : AV} (h : P a0 a1 = some v) {H : Heap} {Q : AV → Heap → Prop} (hQ : ∀ H, Q v H) : C 21 [.sl 0 1 a0, .int .i64 a1] H Q := by
  refine call ?_
  unfold t
  unfold P at h
  obtain ⟨fu, h⟩ := lim_some h
  revert h
  repeat' first | exact lsV hQ | exact lsF | apply lsG | apply lsC | refine lsAll fun _ => ?_ | refine lsEx fun _ _ => ?_ | exact fun h => PL_ok hQ _ _ _ h
theorem ls {a0 : List (List AV)} {a1 : Int} {v : AV} {H : Heap} {k : AV → Option AV} {K : AV → Heap → Prop} (h : ∀ w H, k w = some v → K w H) : (P a0 a1).bind k = some v → C 21 [.sl 0 1 a0, .int .i64 a1] H K := fun e => bind_ls (Cq := fun K => C 21 [.sl 0 1 a0, .int .i64 a1] H K) (fun h => ok h) h e
end F21
/-! ### broker/brokerref39.Same: function 23 -/
namespace F23
inductive LS where
  | l0 (x14 : Int)
noncomputable def PL (a0 : List (List AV)) (a1 : List (List AV)) : Nat → LS → Option AV
  | 0, _ => none
  | fu + 1, .l0 x14 =>
    if ltI x14 (lenI a0) then
    (if leI 0 x14 then (if ltI x14 (lenI a0) then (if (ce (ro a0 x14.toNat) 0).isSl 1 then (if leI 0 x14 then (if ltI x14 (lenI a1) then (if (ce (ro a1 x14.toNat) 0).isSl 1 then ((F16.P ((ce (ro a0 x14.toNat) 0).slXs) ((ce (ro a1 x14.toNat) 0).slXs)).bind fun v_1 =>
      if (v_1).isBool then (if !((v_1).toBool) then
        (some (.bool false))
        else
        (PL a0 a1 fu (.l0 (addW .i64 x14 1)))) else none) else none) else none) else none) else none) else none) else none)
    else
    (some (.bool true))
noncomputable def P (a0 : List (List AV)) (a1 : List (List AV)) : Option AV := lim fun fu =>
    if !(eqI (lenI a0) (lenI a1)) then
    (some (.bool false))
    else
    (PL a0 a1 fu (.l0 0))
theorem PL_ok {a0 : List (List AV)} {a1 : List (List AV)} {Q : AV → Heap → Prop} {v : AV} (hQ : ∀ H, Q v H) : ∀ (fu : Nat) (s : LS) (H : Heap), PL a0 a1 fu s = some v → match s with | .l0 x14 => L0 a0 a1 Q x14 H := by
  intro fu
  induction fu with
  | zero => intro s H h; exact absurd h (by cases s <;> simp only [PL] <;> exact nofun)
  | succ fu ih =>
    intro s H
    cases s with
    | l0 x14 =>
      show PL a0 a1 (fu + 1) (.l0 x14) = some v → L0 a0 a1 Q x14 H
      rw [PL]
      refine fun h => L0_step (?_ : r0 a0 a1 Q x14 H)
      revert h
      unfold r0
      repeat' first | exact lsV hQ | exact lsF | apply lsG | apply lsC | refine F16.ls fun _ _ => ?_ | refine lsAll fun _ => ?_ | refine lsEx fun _ _ => ?_ | exact fun h => ih _ _ h
theorem ok {a0 : List (List AV)} {a1 : List (List AV)} {v : AV} (h : P a0 a1 = some v) {H : Heap} {Q : AV → Heap → Prop} (hQ : ∀ H, Q v H) : C 23 [.sl 0 1 a0, .sl 0 1 a1] H Q := by
  refine call ?_
  unfold t
  unfold P at h
  obtain ⟨fu, h⟩ := lim_some h
  revert h
  repeat' first | exact lsV hQ | exact lsF | apply lsG | apply lsC | refine lsAll fun _ => ?_ | refine lsEx fun _ _ => ?_ | exact fun h => PL_ok hQ _ _ _ h
theorem ls {a0 : List (List AV)} {a1 : List (List AV)} {v : AV} {H : Heap} {k : AV → Option AV} {K : AV → Heap → Prop} (h : ∀ w H, k w = some v → K w H) : (P a0 a1).bind k = some v → C 23 [.sl 0 1 a0, .sl 0 1 a1] H K := fun e => bind_ls (Cq := fun K => C 23 [.sl 0 1 a0, .sl 0 1 a1] H K) (fun h => ok h) h e
end F23
/-! ### broker/brokerlaw39.exampleHolds: function 10 -/
namespace F10
noncomputable def P  : Option AV :=
    (F11.P [[.int .i64 1, .int .i64 7], [.int .i64 3, .int .i64 1]] 2 5).bind fun v_1 =>
    if (v_1).isSl 2 then ((F11.P [[.int .i64 1, .int .i64 7], [.int .i64 3, .int .i64 1]] 1 5).bind fun v_3 =>
      if (v_3).isSl 2 then ((F19.P 5 [[.int .i64 0, .int .i64 3], [.int .i64 4, .int .i64 3]]).bind fun v_5 =>
        if (v_5).isSl 1 then ((F21.P ((v_5).slXs) 5).bind fun v_7 =>
          if ((v_7).isTup && Nat.beq (v_7).tupVs.length 2) then (if (((v_7).tupVs).headD .any).isSl 1 then (if ((((v_7).tupVs).tail).headD .any).isBool then ((F19.P 4 [[.int .i64 0, .int .i64 1], [.int .i64 2, .int .i64 3]]).bind fun v_9 =>
            if (v_9).isSl 1 then ((F21.P ((v_9).slXs) 4).bind fun v_11 =>
              if ((v_11).isTup && Nat.beq (v_11).tupVs.length 2) then (if (((v_11).tupVs).headD .any).isSl 1 then (if ((((v_11).tupVs).tail).headD .any).isBool then ((F12.P ((v_1).slXs) [[.int .i64 1, .int .i64 7], [.int .i64 2, .int .i64 5], [.int .i64 3, .int .i64 1]]).bind fun v_13 =>
                if (v_13).isBool then (if (v_13).toBool then
                  ((F12.P ((v_3).slXs) [[.int .i64 1, .int .i64 7], [.int .i64 3, .int .i64 1]]).bind fun v_15 =>
                    if (v_15).isBool then (if (v_15).toBool then
                      ((F14.P ((v_1).slXs) 8 1).bind fun v_17 =>
                        if (v_17).isSl 1 then ((F16.P ((v_17).slXs) [[.int .i64 1]]).bind fun v_19 =>
                          if (v_19).isBool then (if (v_19).toBool then
                            ((F23.P ((v_5).slXs) [[.sl 0 1 [[.int .i64 0], [.int .i64 3], [.int .i64 4]]], [.sl 0 1 [[.int .i64 1]]], [.sl 0 1 [[.int .i64 2]]]]).bind fun v_21 =>
                              if (v_21).isBool then (if (v_21).toBool then
                                (if ((((v_7).tupVs).tail).headD .any).toBool then
                                  ((F16.P ((((v_7).tupVs).headD .any).slXs) [[.int .i64 0], [.int .i64 3], [.int .i64 4]]).bind fun v_23 =>
                                    if (v_23).isBool then (if (v_23).toBool then
                                      (if !(((((v_11).tupVs).tail).headD .any).toBool) then
                                        ((F17.P [[.int .i64 5], [.int .i64 1], [.int .i64 5], [.int .i64 0]] [[.int .i64 1]]).bind fun v_25 =>
                                          if (v_25).isSl 1 then ((F16.P ((v_25).slXs) [[.int .i64 0], [.int .i64 5]]).bind fun v_27 =>
                                            if (v_27).isBool then (if (v_27).toBool then
                                              ((F24.P 2 3).bind fun v_29 =>
                                                if (v_29).isBool then (if (v_29).toBool then
                                                  ((F24.P 2 4).bind fun v_31 =>
                                                    if (v_31).isBool then some (.bool (!((v_31).toBool))) else none)
                                                  else
                                                  (some (.bool false))) else none)
                                              else
                                              (some (.bool false))) else none) else none)
                                        else
                                        (some (.bool false)))
                                      else
                                      (some (.bool false))) else none)
                                  else
                                  (some (.bool false)))
                                else
                                (some (.bool false))) else none)
                            else
                            (some (.bool false))) else none) else none)
                      else
                      (some (.bool false))) else none)
                  else
                  (some (.bool false))) else none) else none) else none) else none) else none) else none) else none) else none) else none) else none) else none
theorem ok  {v : AV} (h : P  = some v) {H : Heap} {Q : AV → Heap → Prop} (hQ : ∀ H, Q v H) : C 10 [] H Q := by
  refine call ?_
  unfold t
  unfold P at h
  revert h
  repeat' first | exact lsV hQ | exact lsF | apply lsG | apply lsC | refine F11.ls fun _ _ => ?_ | refine F12.ls fun _ _ => ?_ | refine F14.ls fun _ _ => ?_ | refine F16.ls fun _ _ => ?_ | refine F17.ls fun _ _ => ?_ | refine F19.ls fun _ _ => ?_ | refine F21.ls fun _ _ => ?_ | refine F23.ls fun _ _ => ?_ | refine F24.ls fun _ _ => ?_ | refine lsAll fun _ => ?_ | refine lsEx fun _ _ => ?_
theorem ls  {v : AV} {H : Heap} {k : AV → Option AV} {K : AV → Heap → Prop} (h : ∀ w H, k w = some v → K w H) : (P ).bind k = some v → C 10 [] H K := fun e => bind_ls (Cq := fun K => C 10 [] H K) (fun h => ok h) h e
end F10
/-! ### broker/brokerref39.Seen: function 13 -/
namespace F13
inductive LS where
  | l0 (x7out : List (List AV)) (x8at : Int)
noncomputable def PL (a0 : List (List AV)) (a1 : Int) (a2 : Int) : Nat → LS → Option AV
  | 0, _ => none
  | fu + 1, .l0 x7out x8at =>
    if ltI x8at (lenI x7out) then
    (if leI 0 x8at then (if ltI x8at (lenI x7out) then (if (ce (ro x7out x8at.toNat) 0).isInt .i64 then (if ltI ((ce (ro x7out x8at.toNat) 0).toInt) a1 then
      (PL a0 a1 a2 fu (.l0 x7out (addW .i64 x8at 1)))
      else
      (if ltI x8at (lenI x7out) then
        (if leI 0 x8at then (if ltI x8at (lenI x7out) then (if (ce (ro x7out x8at.toNat) 0).isInt .i64 then (if eqI ((ce (ro x7out x8at.toNat) 0).toInt) a1 then
          (if leI 0 x8at then (if ltI x8at (lenI x7out) then (if (ce (ro x7out x8at.toNat) 1).isInt .i64 then (if leI 0 x8at then (if ltI x8at (lenI x7out) then some (.sl 0 2 (x7out.set x8at.toNat ((ro x7out x8at.toNat).set 1 (.int .i64 (cond (ltI ((ce (ro x7out x8at.toNat) 1).toInt) a2) a2 ((ce (ro x7out x8at.toNat) 1).toInt)))))) else none) else none) else none) else none) else none)
          else
          ((InsP.P 2 x7out [.int .i64 x8at, .sl 0 2 [[.int .i64 a1, .int .i64 a2]]]).bind fun y_3 =>
            some (.sl 0 2 y_3))) else none) else none) else none)
        else
        ((InsP.P 2 x7out [.int .i64 x8at, .sl 0 2 [[.int .i64 a1, .int .i64 a2]]]).bind fun y_5 =>
          some (.sl 0 2 y_5)))) else none) else none) else none)
    else
    (if ltI x8at (lenI x7out) then
      (if leI 0 x8at then (if ltI x8at (lenI x7out) then (if (ce (ro x7out x8at.toNat) 0).isInt .i64 then (if eqI ((ce (ro x7out x8at.toNat) 0).toInt) a1 then
        (if leI 0 x8at then (if ltI x8at (lenI x7out) then (if (ce (ro x7out x8at.toNat) 1).isInt .i64 then (if leI 0 x8at then (if ltI x8at (lenI x7out) then some (.sl 0 2 (x7out.set x8at.toNat ((ro x7out x8at.toNat).set 1 (.int .i64 (cond (ltI ((ce (ro x7out x8at.toNat) 1).toInt) a2) a2 ((ce (ro x7out x8at.toNat) 1).toInt)))))) else none) else none) else none) else none) else none)
        else
        ((InsP.P 2 x7out [.int .i64 x8at, .sl 0 2 [[.int .i64 a1, .int .i64 a2]]]).bind fun y_7 =>
          some (.sl 0 2 y_7))) else none) else none) else none)
      else
      ((InsP.P 2 x7out [.int .i64 x8at, .sl 0 2 [[.int .i64 a1, .int .i64 a2]]]).bind fun y_9 =>
        some (.sl 0 2 y_9)))
noncomputable def P (a0 : List (List AV)) (a1 : Int) (a2 : Int) : Option AV := lim fun fu =>
    (F29.P a0).bind fun v_1 =>
    if (v_1).isOwn 2 then (if ltI a1 0 then
      (some (.sl 0 2 ((v_1).slXs)))
      else
      (if leI 7 a1 then
        (some (.sl 0 2 ((v_1).slXs)))
        else
        (PL a0 a1 a2 fu (.l0 ((v_1).slXs) 0)))) else none
theorem PL_ok {a0 : List (List AV)} {a1 : Int} {a2 : Int} {Q : AV → Heap → Prop} {v : AV} (hQ : ∀ H, Q v H) : ∀ (fu : Nat) (s : LS) (H : Heap), PL a0 a1 a2 fu s = some v → match s with | .l0 x7out x8at => L0 a0 a1 a2 Q x7out x8at H := by
  intro fu
  induction fu with
  | zero => intro s H h; exact absurd h (by cases s <;> simp only [PL] <;> exact nofun)
  | succ fu ih =>
    intro s H
    cases s with
    | l0 x7out x8at =>
      show PL a0 a1 a2 (fu + 1) (.l0 x7out x8at) = some v → L0 a0 a1 a2 Q x7out x8at H
      rw [PL]
      refine fun h => L0_step (?_ : r0 a0 a1 a2 Q x7out x8at H)
      revert h
      unfold r0
      repeat' first | exact lsV hQ | exact lsF | apply lsG | apply lsC | refine InsP.ls fun _ _ => ?_ | refine lsAll fun _ => ?_ | refine lsEx fun _ _ => ?_ | exact fun h => ih _ _ h
theorem ok {a0 : List (List AV)} {a1 : Int} {a2 : Int} {v : AV} (h : P a0 a1 a2 = some v) {H : Heap} {Q : AV → Heap → Prop} (hQ : ∀ H, Q v H) : C 13 [.sl 0 2 a0, .int .i64 a1, .int .i64 a2] H Q := by
  refine call ?_
  unfold t
  unfold P at h
  obtain ⟨fu, h⟩ := lim_some h
  revert h
  repeat' first | exact lsV hQ | exact lsF | apply lsG | apply lsC | refine F29.ls (fun _ _ => ?_) (fun _ => ?_) | refine lsAll fun _ => ?_ | refine lsEx fun _ _ => ?_ | exact fun h => PL_ok hQ _ _ _ h
theorem ls {a0 : List (List AV)} {a1 : Int} {a2 : Int} {v : AV} {H : Heap} {k : AV → Option AV} {K : AV → Heap → Prop} (h : ∀ w H, k w = some v → K w H) : (P a0 a1 a2).bind k = some v → C 13 [.sl 0 2 a0, .int .i64 a1, .int .i64 a2] H K := fun e => bind_ls (Cq := fun K => C 13 [.sl 0 2 a0, .int .i64 a1, .int .i64 a2] H K) (fun h => ok h) h e
end F13
/-! ### broker/brokerlaw39.MemberSees: function 3 -/
namespace F3
noncomputable def P (a0 : List (List AV)) (a1 : Int) (a2 : Int) : Option AV :=
    if ltI 30 (lenI a0) then
    ((F10.P).bind fun v_1 =>
      if (v_1).isBool then some (.bool ((v_1).toBool)) else none)
    else
    ((F9.P a0).bind fun v_3 =>
      if (v_3).isBool then (if !((v_3).toBool) then
        ((F10.P).bind fun v_5 =>
          if (v_5).isBool then some (.bool ((v_5).toBool)) else none)
        else
        ((F11.P a0 a1 a2).bind fun v_7 =>
          if (v_7).isSl 2 then ((F13.P a0 a1 a2).bind fun v_9 =>
            if (v_9).isSl 2 then ((F12.P ((v_7).slXs) ((v_9).slXs)).bind fun v_11 =>
              if (v_11).isBool then (if (v_11).toBool then
                ((F9.P ((v_7).slXs)).bind fun v_13 =>
                  if (v_13).isBool then (if (v_13).toBool then
                    ((F10.P).bind fun v_15 =>
                      if (v_15).isBool then some (.bool ((v_15).toBool)) else none)
                    else
                    (some (.bool false))) else none)
                else
                (some (.bool false))) else none) else none) else none)) else none)
theorem ok {a0 : List (List AV)} {a1 : Int} {a2 : Int} {v : AV} (h : P a0 a1 a2 = some v) {H : Heap} {Q : AV → Heap → Prop} (hQ : ∀ H, Q v H) : C 3 [.sl 0 2 a0, .int .i64 a1, .int .i64 a2] H Q := by
  refine call ?_
  unfold t
  unfold P at h
  revert h
  repeat' first | exact lsV hQ | exact lsF | apply lsG | apply lsC | refine F10.ls fun _ _ => ?_ | refine F11.ls fun _ _ => ?_ | refine F12.ls fun _ _ => ?_ | refine F13.ls fun _ _ => ?_ | refine F9.ls fun _ _ => ?_ | refine lsAll fun _ => ?_ | refine lsEx fun _ _ => ?_
theorem ls {a0 : List (List AV)} {a1 : Int} {a2 : Int} {v : AV} {H : Heap} {k : AV → Option AV} {K : AV → Heap → Prop} (h : ∀ w H, k w = some v → K w H) : (P a0 a1 a2).bind k = some v → C 3 [.sl 0 2 a0, .int .i64 a1, .int .i64 a2] H K := fun e => bind_ls (Cq := fun K => C 3 [.sl 0 2 a0, .int .i64 a1, .int .i64 a2] H K) (fun h => ok h) h e
end F3
/-! ### broker/brokerref39.Set: function 35 -/
namespace F35
noncomputable def P (a0 : List (List AV)) : Option AV :=
    (F36.P a0).bind fun v_1 =>
    if (v_1).isOwn 1 then ((SortP.P 1 ((v_1).slXs) []).bind fun y_3 =>
      (CompP.P 1 y_3 []).bind fun y_5 =>
        some (.sl 0 1 y_5)) else none
theorem ok {a0 : List (List AV)} {v : AV} (h : P a0 = some v) {H : Heap} {Q : AV → Heap → Prop} (hQ : ∀ H, Q v H) : C 35 [.sl 0 1 a0] H Q := by
  refine call ?_
  unfold t
  unfold P at h
  revert h
  repeat' first | exact lsV hQ | exact lsF | apply lsG | apply lsC | refine F36.ls (fun _ _ => ?_) (fun _ => ?_) | refine CompP.ls fun _ _ => ?_ | refine SortP.ls fun _ _ => ?_ | refine lsAll fun _ => ?_ | refine lsEx fun _ _ => ?_
theorem ls {a0 : List (List AV)} {v : AV} {H : Heap} {k : AV → Option AV} {K : AV → Heap → Prop} (h : ∀ w H, k w = some v → K w H) : (P a0).bind k = some v → C 35 [.sl 0 1 a0] H K := fun e => bind_ls (Cq := fun K => C 35 [.sl 0 1 a0] H K) (fun h => ok h) h e
end F35
/-! ### broker/brokerref39.Alive: function 15 -/
namespace F15
inductive LS where
  | l0 (x7out : List (List AV)) (x12 : Int)
  | lR5 (x7out : List (List AV)) (x12 : Int) (x34 : Bool) (m0_0 : Int) (m0_1 : Int)
noncomputable def PL (a0 : List (List AV)) (a1 : Int) (a2 : Int) : Nat → LS → Option AV
  | 0, _ => none
  | fu + 1, .l0 x7out x12 =>
    if ltI x12 (lenI a0) then
    (if leI 0 x12 then (if ltI x12 (lenI a0) then (if (ce (ro a0 x12.toNat) 0).isInt .i64 then (if (ce (ro a0 x12.toNat) 1).isInt .i64 then (if leI 0 a2 then
      (if leI a1 ((ce (ro a0 x12.toNat) 1).toInt) then
        (PL a0 a1 a2 fu (.lR5 x7out x12 true ((ce (ro a0 x12.toNat) 0).toInt) ((ce (ro a0 x12.toNat) 1).toInt)))
        else
        (PL a0 a1 a2 fu (.lR5 x7out x12 (leI (subW .u64 (IntKind.u64.wrap a1) (IntKind.u64.wrap ((ce (ro a0 x12.toNat) 1).toInt))) (IntKind.u64.wrap a2)) ((ce (ro a0 x12.toNat) 0).toInt) ((ce (ro a0 x12.toNat) 1).toInt))))
      else
      (PL a0 a1 a2 fu (.lR5 x7out x12 false ((ce (ro a0 x12.toNat) 0).toInt) ((ce (ro a0 x12.toNat) 1).toInt)))) else none) else none) else none) else none)
    else
    ((F35.P x7out).bind fun v_1 =>
      if (v_1).isSl 1 then some (.sl 0 1 ((v_1).slXs)) else none)
  | fu + 1, .lR5 x7out x12 x34 m0_0 m0_1 =>
    if x34 then
    (if room x7out [[.int .i64 m0_0]] 8 then PL a0 a1 a2 fu (.l0 (x7out ++ [[.int .i64 m0_0]]) (addW .i64 x12 1)) else none)
    else
    (PL a0 a1 a2 fu (.l0 x7out (addW .i64 x12 1)))
noncomputable def P (a0 : List (List AV)) (a1 : Int) (a2 : Int) : Option AV := lim fun fu =>
    PL a0 a1 a2 fu (.l0 [] 0)
theorem PL_ok {a0 : List (List AV)} {a1 : Int} {a2 : Int} {Q : AV → Heap → Prop} {v : AV} (hQ : ∀ H, Q v H) : ∀ (fu : Nat) (s : LS) (H : Heap), PL a0 a1 a2 fu s = some v → match s with | .l0 x7out x12 => L0 a0 a1 a2 Q x7out x12 H | .lR5 x7out x12 x34 m0_0 m0_1 => JR5 a0 a1 a2 Q x7out x12 x34 m0_0 m0_1 H := by
  intro fu
  induction fu with
  | zero => intro s H h; exact absurd h (by cases s <;> simp only [PL] <;> exact nofun)
  | succ fu ih =>
    intro s H
    cases s with
    | l0 x7out x12 =>
      show PL a0 a1 a2 (fu + 1) (.l0 x7out x12) = some v → L0 a0 a1 a2 Q x7out x12 H
      rw [PL]
      refine fun h => L0_step (?_ : r0 a0 a1 a2 Q x7out x12 H)
      revert h
      unfold r0
      repeat' first | exact lsV hQ | exact lsF | apply lsG | apply lsC | refine F35.ls fun _ _ => ?_ | refine lsAll fun _ => ?_ | refine lsEx fun _ _ => ?_ | exact fun h => ih _ _ h
    | lR5 x7out x12 x34 m0_0 m0_1 =>
      show PL a0 a1 a2 (fu + 1) (.lR5 x7out x12 x34 m0_0 m0_1) = some v → JR5 a0 a1 a2 Q x7out x12 x34 m0_0 m0_1 H
      rw [PL]
      refine fun h => JR5_step (?_ : jR5 a0 a1 a2 Q x7out x12 x34 m0_0 m0_1 H)
      revert h
      unfold jR5
      repeat' first | exact lsV hQ | exact lsF | apply lsG | apply lsC | refine lsAll fun _ => ?_ | refine lsEx fun _ _ => ?_ | exact fun h => ih _ _ h
theorem ok {a0 : List (List AV)} {a1 : Int} {a2 : Int} {v : AV} (h : P a0 a1 a2 = some v) {H : Heap} {Q : AV → Heap → Prop} (hQ : ∀ H, Q v H) : C 15 [.sl 0 2 a0, .int .i64 a1, .int .i64 a2] H Q := by
  refine call ?_
  unfold t
  unfold P at h
  obtain ⟨fu, h⟩ := lim_some h
  revert h
  repeat' first | exact lsV hQ | exact lsF | apply lsG | apply lsC | refine lsAll fun _ => ?_ | refine lsEx fun _ _ => ?_ | exact fun h => PL_ok hQ _ _ _ h
theorem ls {a0 : List (List AV)} {a1 : Int} {a2 : Int} {v : AV} {H : Heap} {k : AV → Option AV} {K : AV → Heap → Prop} (h : ∀ w H, k w = some v → K w H) : (P a0 a1 a2).bind k = some v → C 15 [.sl 0 2 a0, .int .i64 a1, .int .i64 a2] H K := fun e => bind_ls (Cq := fun K => C 15 [.sl 0 2 a0, .int .i64 a1, .int .i64 a2] H K) (fun h => ok h) h e
end F15
/-! ### broker/brokerref39.Heirs: function 18 -/
namespace F18
inductive LS where
  | l0 (x5out : List (List AV)) (x9 : List (List AV)) (x10 : Int) (x11 : Int)
noncomputable def PL (a0 : List (List AV)) (a1 : List (List AV)) : Nat → LS → Option AV
  | 0, _ => none
  | fu + 1, .l0 x5out x9 x10 x11 =>
    if ltI x11 x10 then
    (if leI 0 x11 then (if ltI x11 (lenI x9) then (if (ce (ro x9 x11.toNat) 0).isInt .i64 then ((F27.P a1 ((ce (ro x9 x11.toNat) 0).toInt)).bind fun v_3 =>
      if (v_3).isBool then (if !((v_3).toBool) then
        (if room x5out [[.int .i64 ((ce (ro x9 x11.toNat) 0).toInt)]] 8 then PL a0 a1 fu (.l0 (x5out ++ [[.int .i64 ((ce (ro x9 x11.toNat) 0).toInt)]]) x9 x10 (addW .i64 x11 1)) else none)
        else
        (PL a0 a1 fu (.l0 x5out x9 x10 (addW .i64 x11 1)))) else none) else none) else none) else none)
    else
    (some (.sl 0 1 x5out))
noncomputable def P (a0 : List (List AV)) (a1 : List (List AV)) : Option AV := lim fun fu =>
    (F35.P a0).bind fun v_1 =>
    if (v_1).isSl 1 then PL a0 a1 fu (.l0 [] ((v_1).slXs) (lenI ((v_1).slXs)) 0) else none
theorem PL_ok {a0 : List (List AV)} {a1 : List (List AV)} {Q : AV → Heap → Prop} {v : AV} (hQ : ∀ H, Q v H) : ∀ (fu : Nat) (s : LS) (H : Heap), PL a0 a1 fu s = some v → match s with | .l0 x5out x9 x10 x11 => L0 a0 a1 Q x5out x9 x10 x11 H := by
  intro fu
  induction fu with
  | zero => intro s H h; exact absurd h (by cases s <;> simp only [PL] <;> exact nofun)
  | succ fu ih =>
    intro s H
    cases s with
    | l0 x5out x9 x10 x11 =>
      show PL a0 a1 (fu + 1) (.l0 x5out x9 x10 x11) = some v → L0 a0 a1 Q x5out x9 x10 x11 H
      rw [PL]
      refine fun h => L0_step (?_ : r0 a0 a1 Q x5out x9 x10 x11 H)
      revert h
      unfold r0
      repeat' first | exact lsV hQ | exact lsF | apply lsG | apply lsC | refine F27.ls fun _ _ => ?_ | refine lsAll fun _ => ?_ | refine lsEx fun _ _ => ?_ | exact fun h => ih _ _ h
theorem ok {a0 : List (List AV)} {a1 : List (List AV)} {v : AV} (h : P a0 a1 = some v) {H : Heap} {Q : AV → Heap → Prop} (hQ : ∀ H, Q v H) : C 18 [.sl 0 1 a0, .sl 0 1 a1] H Q := by
  refine call ?_
  unfold t
  unfold P at h
  obtain ⟨fu, h⟩ := lim_some h
  revert h
  repeat' first | exact lsV hQ | exact lsF | apply lsG | apply lsC | refine F35.ls fun _ _ => ?_ | refine lsAll fun _ => ?_ | refine lsEx fun _ _ => ?_ | exact fun h => PL_ok hQ _ _ _ h
theorem ls {a0 : List (List AV)} {a1 : List (List AV)} {v : AV} {H : Heap} {k : AV → Option AV} {K : AV → Heap → Prop} (h : ∀ w H, k w = some v → K w H) : (P a0 a1).bind k = some v → C 18 [.sl 0 1 a0, .sl 0 1 a1] H K := fun e => bind_ls (Cq := fun K => C 18 [.sl 0 1 a0, .sl 0 1 a1] H K) (fun h => ok h) h e
end F18
/-! ### broker/brokerlaw39.MemberAlive: function 4 -/
namespace F4
inductive LS where
  | l0 (x7a : List (List AV)) (x8b : List (List AV)) (x9nodes : List (List AV)) (x36 : Int)
noncomputable def PL (a0 : List (List AV)) (a1_0 : Int) (a1_1 : Int) (a2 : List (List AV)) : Nat → LS → Option AV
  | 0, _ => none
  | fu + 1, .l0 x7a x8b x9nodes x36 =>
    if ltI x36 (lenI a0) then
    (if leI 0 x36 then (if ltI x36 (lenI a0) then (if (ce (ro a0 x36.toNat) 0).isInt .i64 then (if (ce (ro a0 x36.toNat) 1).isInt .i64 then (if room x9nodes [[.int .i64 ((ce (ro a0 x36.toNat) 0).toInt)]] 8 then PL a0 a1_0 a1_1 a2 fu (.l0 x7a x8b (x9nodes ++ [[.int .i64 ((ce (ro a0 x36.toNat) 0).toInt)]]) (addW .i64 x36 1)) else none) else none) else none) else none) else none)
    else
    ((F16.P x7a x8b).bind fun v_9 =>
      if (v_9).isBool then (if (v_9).toBool then
        ((F17.P x8b a2).bind fun v_11 =>
          if (v_11).isSl 1 then ((F18.P x8b a2).bind fun v_13 =>
            if (v_13).isSl 1 then ((F16.P ((v_11).slXs) ((v_13).slXs)).bind fun v_15 =>
              if (v_15).isBool then (if (v_15).toBool then
                ((F17.P x9nodes a2).bind fun v_17 =>
                  if (v_17).isSl 1 then ((F18.P x9nodes a2).bind fun v_19 =>
                    if (v_19).isSl 1 then ((F16.P ((v_17).slXs) ((v_19).slXs)).bind fun v_21 =>
                      if (v_21).isBool then (if (v_21).toBool then
                        ((F10.P).bind fun v_23 =>
                          if (v_23).isBool then some (.bool ((v_23).toBool)) else none)
                        else
                        (some (.bool false))) else none) else none) else none)
                else
                (some (.bool false))) else none) else none) else none)
        else
        (some (.bool false))) else none)
noncomputable def P (a0 : List (List AV)) (a1_0 : Int) (a1_1 : Int) (a2 : List (List AV)) : Option AV := lim fun fu =>
    if ltI 60 (lenI a0) then
    ((F10.P).bind fun v_1 =>
      if (v_1).isBool then some (.bool ((v_1).toBool)) else none)
    else
    (if ltI 60 (lenI a2) then
      ((F10.P).bind fun v_3 =>
        if (v_3).isBool then some (.bool ((v_3).toBool)) else none)
      else
      ((F14.P a0 a1_0 a1_1).bind fun v_5 =>
        if (v_5).isSl 1 then ((F15.P a0 a1_0 a1_1).bind fun v_7 =>
          if (v_7).isSl 1 then PL a0 a1_0 a1_1 a2 fu (.l0 ((v_5).slXs) ((v_7).slXs) [] 0) else none) else none))
theorem PL_ok {a0 : List (List AV)} {a1_0 : Int} {a1_1 : Int} {a2 : List (List AV)} {Q : AV → Heap → Prop} {v : AV} (hQ : ∀ H, Q v H) : ∀ (fu : Nat) (s : LS) (H : Heap), PL a0 a1_0 a1_1 a2 fu s = some v → match s with | .l0 x7a x8b x9nodes x36 => L0 a0 a1_0 a1_1 a2 Q x7a x8b x9nodes x36 H := by
  intro fu
  induction fu with
  | zero => intro s H h; exact absurd h (by cases s <;> simp only [PL] <;> exact nofun)
  | succ fu ih =>
    intro s H
    cases s with
    | l0 x7a x8b x9nodes x36 =>
      show PL a0 a1_0 a1_1 a2 (fu + 1) (.l0 x7a x8b x9nodes x36) = some v → L0 a0 a1_0 a1_1 a2 Q x7a x8b x9nodes x36 H
      rw [PL]
      refine fun h => L0_step (?_ : r0 a0 a1_0 a1_1 a2 Q x7a x8b x9nodes x36 H)
      revert h
      unfold r0
      repeat' first | exact lsV hQ | exact lsF | apply lsG | apply lsC | refine F10.ls fun _ _ => ?_ | refine F16.ls fun _ _ => ?_ | refine F17.ls fun _ _ => ?_ | refine F18.ls fun _ _ => ?_ | refine lsAll fun _ => ?_ | refine lsEx fun _ _ => ?_ | exact fun h => ih _ _ h
theorem ok {a0 : List (List AV)} {a1_0 : Int} {a1_1 : Int} {a2 : List (List AV)} {v : AV} (h : P a0 a1_0 a1_1 a2 = some v) {H : Heap} {Q : AV → Heap → Prop} (hQ : ∀ H, Q v H) : C 4 [.sl 0 2 a0, .agg [.int .i64 a1_0, .int .i64 a1_1], .sl 0 1 a2] H Q := by
  refine call ?_
  unfold t
  unfold P at h
  obtain ⟨fu, h⟩ := lim_some h
  revert h
  repeat' first | exact lsV hQ | exact lsF | apply lsG | apply lsC | refine F10.ls fun _ _ => ?_ | refine F14.ls fun _ _ => ?_ | refine F15.ls fun _ _ => ?_ | refine lsAll fun _ => ?_ | refine lsEx fun _ _ => ?_ | exact fun h => PL_ok hQ _ _ _ h
theorem ls {a0 : List (List AV)} {a1_0 : Int} {a1_1 : Int} {a2 : List (List AV)} {v : AV} {H : Heap} {k : AV → Option AV} {K : AV → Heap → Prop} (h : ∀ w H, k w = some v → K w H) : (P a0 a1_0 a1_1 a2).bind k = some v → C 4 [.sl 0 2 a0, .agg [.int .i64 a1_0, .int .i64 a1_1], .sl 0 1 a2] H K := fun e => bind_ls (Cq := fun K => C 4 [.sl 0 2 a0, .agg [.int .i64 a1_0, .int .i64 a1_1], .sl 0 1 a2] H K) (fun h => ok h) h e
end F4
/-! ### broker/brokerref39.Sides: function 20 -/
namespace F20
inductive LS where
  | l0 (x5low : List (List AV)) (x26 : Int)
  | l1 (x5low : List (List AV)) (x35 : Int)
  | l2 (x5low : List (List AV)) (x35 : Int) (x39 : Int)
  | l3 (x5low : List (List AV)) (x12out : List (List AV)) (x78 : Int)
  | l4 (x5low : List (List AV)) (x12out : List (List AV)) (x13i : Int) (x14side : List (List AV)) (x78 : Int) (x82 : Int)
noncomputable def PL (a0 : Int) (a1 : List (List AV)) : Nat → LS → Option AV
  | 0, _ => none
  | fu + 1, .l0 x5low x26 =>
    if ltI x26 (lenI (List.replicate a0.toNat ([.int .i64 0] : List AV))) then
    (if leI 0 x26 then (if ltI x26 (lenI x5low) then PL a0 a1 fu (.l0 (x5low.set x26.toNat ((ro x5low x26.toNat).set 0 (.int .i64 x26))) (addW .i64 x26 1)) else none) else none)
    else
    (PL a0 a1 fu (.l1 x5low 0))
  | fu + 1, .l1 x5low x35 =>
    if ltI x35 a0 then
    (PL a0 a1 fu (.l2 x5low x35 0))
    else
    (PL a0 a1 fu (.l3 x5low [] 0))
  | fu + 1, .l2 x5low x35 x39 =>
    if ltI x39 (lenI a1) then
    (if leI 0 x39 then (if ltI x39 (lenI a1) then (if (ce (ro a1 x39.toNat) 0).isInt .i64 then (if (ce (ro a1 x39.toNat) 1).isInt .i64 then (if leI 0 (cond (ltI ((ce (ro a1 x39.toNat) 1).toInt) ((ce (ro a1 x39.toNat) 0).toInt)) ((ce (ro a1 x39.toNat) 1).toInt) ((ce (ro a1 x39.toNat) 0).toInt)) then
      (if ltI (cond (ltI ((ce (ro a1 x39.toNat) 0).toInt) ((ce (ro a1 x39.toNat) 1).toInt)) ((ce (ro a1 x39.toNat) 1).toInt) ((ce (ro a1 x39.toNat) 0).toInt)) a0 then
        (if leI 0 ((ce (ro a1 x39.toNat) 0).toInt) then (if ltI ((ce (ro a1 x39.toNat) 0).toInt) (lenI x5low) then (if (ce (ro x5low (((ce (ro a1 x39.toNat) 0).toInt).toNat)) 0).isInt .i64 then (if leI 0 ((ce (ro a1 x39.toNat) 1).toInt) then (if ltI ((ce (ro a1 x39.toNat) 1).toInt) (lenI x5low) then (if (ce (ro x5low (((ce (ro a1 x39.toNat) 1).toInt).toNat)) 0).isInt .i64 then (if leI 0 ((ce (ro a1 x39.toNat) 0).toInt) then (if ltI ((ce (ro a1 x39.toNat) 0).toInt) (lenI x5low) then (if leI 0 ((ce (ro a1 x39.toNat) 1).toInt) then (if ltI ((ce (ro a1 x39.toNat) 1).toInt) (lenI (x5low.set (((ce (ro a1 x39.toNat) 0).toInt).toNat) ((ro x5low (((ce (ro a1 x39.toNat) 0).toInt).toNat)).set 0 (.int .i64 (cond (ltI ((ce (ro x5low (((ce (ro a1 x39.toNat) 1).toInt).toNat)) 0).toInt) ((ce (ro x5low (((ce (ro a1 x39.toNat) 0).toInt).toNat)) 0).toInt)) ((ce (ro x5low (((ce (ro a1 x39.toNat) 1).toInt).toNat)) 0).toInt) ((ce (ro x5low (((ce (ro a1 x39.toNat) 0).toInt).toNat)) 0).toInt)))))) then PL a0 a1 fu (.l2 ((x5low.set (((ce (ro a1 x39.toNat) 0).toInt).toNat) ((ro x5low (((ce (ro a1 x39.toNat) 0).toInt).toNat)).set 0 (.int .i64 (cond (ltI ((ce (ro x5low (((ce (ro a1 x39.toNat) 1).toInt).toNat)) 0).toInt) ((ce (ro x5low (((ce (ro a1 x39.toNat) 0).toInt).toNat)) 0).toInt)) ((ce (ro x5low (((ce (ro a1 x39.toNat) 1).toInt).toNat)) 0).toInt) ((ce (ro x5low (((ce (ro a1 x39.toNat) 0).toInt).toNat)) 0).toInt))))).set (((ce (ro a1 x39.toNat) 1).toInt).toNat) ((ro (x5low.set (((ce (ro a1 x39.toNat) 0).toInt).toNat) ((ro x5low (((ce (ro a1 x39.toNat) 0).toInt).toNat)).set 0 (.int .i64 (cond (ltI ((ce (ro x5low (((ce (ro a1 x39.toNat) 1).toInt).toNat)) 0).toInt) ((ce (ro x5low (((ce (ro a1 x39.toNat) 0).toInt).toNat)) 0).toInt)) ((ce (ro x5low (((ce (ro a1 x39.toNat) 1).toInt).toNat)) 0).toInt) ((ce (ro x5low (((ce (ro a1 x39.toNat) 0).toInt).toNat)) 0).toInt))))) (((ce (ro a1 x39.toNat) 1).toInt).toNat)).set 0 (.int .i64 (cond (ltI ((ce (ro x5low (((ce (ro a1 x39.toNat) 1).toInt).toNat)) 0).toInt) ((ce (ro x5low (((ce (ro a1 x39.toNat) 0).toInt).toNat)) 0).toInt)) ((ce (ro x5low (((ce (ro a1 x39.toNat) 1).toInt).toNat)) 0).toInt) ((ce (ro x5low (((ce (ro a1 x39.toNat) 0).toInt).toNat)) 0).toInt))))) x35 (addW .i64 x39 1)) else none) else none) else none) else none) else none) else none) else none) else none) else none) else none)
        else
        (PL a0 a1 fu (.l2 x5low x35 (addW .i64 x39 1))))
      else
      (PL a0 a1 fu (.l2 x5low x35 (addW .i64 x39 1)))) else none) else none) else none) else none)
    else
    (PL a0 a1 fu (.l1 x5low (addW .i64 x35 1)))
  | fu + 1, .l3 x5low x12out x78 =>
    if ltI x78 a0 then
    (PL a0 a1 fu (.l4 x5low x12out x78 [] x78 0))
    else
    (some (.sl 0 1 x12out))
  | fu + 1, .l4 x5low x12out x13i x14side x78 x82 =>
    if ltI x82 a0 then
    (if leI 0 x82 then (if ltI x82 (lenI x5low) then (if (ce (ro x5low x82.toNat) 0).isInt .i64 then (if eqI ((ce (ro x5low x82.toNat) 0).toInt) x13i then
      (if room x14side [[.int .i64 x82]] 8 then PL a0 a1 fu (.l4 x5low x12out x13i (x14side ++ [[.int .i64 x82]]) x78 (addW .i64 x82 1)) else none)
      else
      (PL a0 a1 fu (.l4 x5low x12out x13i x14side x78 (addW .i64 x82 1)))) else none) else none) else none)
    else
    (if ltI 0 (lenI x14side) then
      (if room x12out [[.sl 0 1 x14side]] 24 then PL a0 a1 fu (.l3 x5low (x12out ++ [[.sl 0 1 x14side]]) (addW .i64 x78 1)) else none)
      else
      (PL a0 a1 fu (.l3 x5low x12out (addW .i64 x78 1))))
noncomputable def P (a0 : Int) (a1 : List (List AV)) : Option AV := lim fun fu =>
    if ltI a0 1 then
    (some (.nilsl))
    else
    (if ltI 7 a0 then
      (some (.nilsl))
      else
      (if leI 0 a0 then (if eqI a0 a0 then (if roomN a0 8 then PL a0 a1 fu (.l0 (List.replicate a0.toNat ([.int .i64 0] : List AV)) 0) else none) else none) else none))
theorem PL_ok {a0 : Int} {a1 : List (List AV)} {Q : AV → Heap → Prop} {v : AV} (hQ : ∀ H, Q v H) : ∀ (fu : Nat) (s : LS) (H : Heap), PL a0 a1 fu s = some v → match s with | .l0 x5low x26 => L0 a0 a1 Q x5low x26 H | .l1 x5low x35 => L1 a0 a1 Q x5low x35 H | .l2 x5low x35 x39 => L2 a0 a1 Q x5low x35 x39 H | .l3 x5low x12out x78 => L3 a0 a1 Q x5low x12out x78 H | .l4 x5low x12out x13i x14side x78 x82 => L4 a0 a1 Q x5low x12out x13i x14side x78 x82 H := by
  intro fu
  induction fu with
  | zero => intro s H h; exact absurd h (by cases s <;> simp only [PL] <;> exact nofun)
  | succ fu ih =>
    intro s H
    cases s with
    | l0 x5low x26 =>
      show PL a0 a1 (fu + 1) (.l0 x5low x26) = some v → L0 a0 a1 Q x5low x26 H
      rw [PL]
      refine fun h => L0_step (?_ : r0 a0 a1 Q x5low x26 H)
      revert h
      unfold r0
      repeat' first | exact lsV hQ | exact lsF | apply lsG | apply lsC | refine lsAll fun _ => ?_ | refine lsEx fun _ _ => ?_ | exact fun h => ih _ _ h
    | l1 x5low x35 =>
      show PL a0 a1 (fu + 1) (.l1 x5low x35) = some v → L1 a0 a1 Q x5low x35 H
      rw [PL]
      refine fun h => L1_step (?_ : r1 a0 a1 Q x5low x35 H)
      revert h
      unfold r1
      repeat' first | exact lsV hQ | exact lsF | apply lsG | apply lsC | refine lsAll fun _ => ?_ | refine lsEx fun _ _ => ?_ | exact fun h => ih _ _ h
    | l2 x5low x35 x39 =>
      show PL a0 a1 (fu + 1) (.l2 x5low x35 x39) = some v → L2 a0 a1 Q x5low x35 x39 H
      rw [PL]
      refine fun h => L2_step (?_ : r2 a0 a1 Q x5low x35 x39 H)
      revert h
      unfold r2
      repeat' first | exact lsV hQ | exact lsF | apply lsG | apply lsC | refine lsAll fun _ => ?_ | refine lsEx fun _ _ => ?_ | exact fun h => ih _ _ h
    | l3 x5low x12out x78 =>
      show PL a0 a1 (fu + 1) (.l3 x5low x12out x78) = some v → L3 a0 a1 Q x5low x12out x78 H
      rw [PL]
      refine fun h => L3_step (?_ : r3 a0 a1 Q x5low x12out x78 H)
      revert h
      unfold r3
      repeat' first | exact lsV hQ | exact lsF | apply lsG | apply lsC | refine lsAll fun _ => ?_ | refine lsEx fun _ _ => ?_ | exact fun h => ih _ _ h
    | l4 x5low x12out x13i x14side x78 x82 =>
      show PL a0 a1 (fu + 1) (.l4 x5low x12out x13i x14side x78 x82) = some v → L4 a0 a1 Q x5low x12out x13i x14side x78 x82 H
      rw [PL]
      refine fun h => L4_step (?_ : r4 a0 a1 Q x5low x12out x13i x14side x78 x82 H)
      revert h
      unfold r4
      repeat' first | exact lsV hQ | exact lsF | apply lsG | apply lsC | refine lsAll fun _ => ?_ | refine lsEx fun _ _ => ?_ | exact fun h => ih _ _ h
theorem ok {a0 : Int} {a1 : List (List AV)} {v : AV} (h : P a0 a1 = some v) {H : Heap} {Q : AV → Heap → Prop} (hQ : ∀ H, Q v H) : C 20 [.int .i64 a0, .sl 0 2 a1] H Q := by
  refine call ?_
  unfold t
  unfold P at h
  obtain ⟨fu, h⟩ := lim_some h
  revert h
  repeat' first | exact lsV hQ | exact lsF | apply lsG | apply lsC | refine lsAll fun _ => ?_ | refine lsEx fun _ _ => ?_ | exact fun h => PL_ok hQ _ _ _ h
theorem ls {a0 : Int} {a1 : List (List AV)} {v : AV} {H : Heap} {k : AV → Option AV} {K : AV → Heap → Prop} (h : ∀ w H, k w = some v → K w H) : (P a0 a1).bind k = some v → C 20 [.int .i64 a0, .sl 0 2 a1] H K := fun e => bind_ls (Cq := fun K => C 20 [.int .i64 a0, .sl 0 2 a1] H K) (fun h => ok h) h e
end F20
/-! ### broker/brokerref39.Quorum: function 25 -/
namespace F25
noncomputable def P (a0 : Int) (a1 : Int) : Option AV :=
    if leI 1 a1 then
    (some (.bool (ltI (IntKind.i64.wrap (Int.tdiv a1 2)) a0)))
    else
    (some (.bool false))
theorem ok {a0 : Int} {a1 : Int} {v : AV} (h : P a0 a1 = some v) {H : Heap} {Q : AV → Heap → Prop} (hQ : ∀ H, Q v H) : C 25 [.int .i64 a0, .int .i64 a1] H Q := by
  refine call ?_
  unfold t
  unfold P at h
  revert h
  repeat' first | exact lsV hQ | exact lsF | apply lsG | apply lsC | refine lsAll fun _ => ?_ | refine lsEx fun _ _ => ?_
theorem ls {a0 : Int} {a1 : Int} {v : AV} {H : Heap} {k : AV → Option AV} {K : AV → Heap → Prop} (h : ∀ w H, k w = some v → K w H) : (P a0 a1).bind k = some v → C 25 [.int .i64 a0, .int .i64 a1] H K := fun e => bind_ls (Cq := fun K => C 25 [.int .i64 a0, .int .i64 a1] H K) (fun h => ok h) h e
end F25
/-! ### broker/brokerref39.Major: function 22 -/
namespace F22
inductive LS where
  | l0 (x10 : Int)
noncomputable def PL (a0 : List (List AV)) (a1 : Int) : Nat → LS → Option AV
  | 0, _ => none
  | fu + 1, .l0 x10 =>
    if ltI x10 (lenI a0) then
    (if leI 0 x10 then (if ltI x10 (lenI a0) then (if (ce (ro a0 x10.toNat) 0).isSl 1 then ((F25.P (lenI ((ce (ro a0 x10.toNat) 0).slXs)) a1).bind fun v_1 =>
      if (v_1).isBool then (if (v_1).toBool then
        ((F36.P ((ce (ro a0 x10.toNat) 0).slXs)).bind fun v_3 =>
          if (v_3).isOwn 1 then some (.tup [.sl 0 1 ((v_3).slXs), .bool true]) else none)
        else
        (PL a0 a1 fu (.l0 (addW .i64 x10 1)))) else none) else none) else none) else none)
    else
    (some (.tup [.nilsl, .bool false]))
noncomputable def P (a0 : List (List AV)) (a1 : Int) : Option AV := lim fun fu =>
    PL a0 a1 fu (.l0 0)
theorem PL_ok {a0 : List (List AV)} {a1 : Int} {Q : AV → Heap → Prop} {v : AV} (hQ : ∀ H, Q v H) : ∀ (fu : Nat) (s : LS) (H : Heap), PL a0 a1 fu s = some v → match s with | .l0 x10 => L0 a0 a1 Q x10 H := by
  intro fu
  induction fu with
  | zero => intro s H h; exact absurd h (by cases s <;> simp only [PL] <;> exact nofun)
  | succ fu ih =>
    intro s H
    cases s with
    | l0 x10 =>
      show PL a0 a1 (fu + 1) (.l0 x10) = some v → L0 a0 a1 Q x10 H
      rw [PL]
      refine fun h => L0_step (?_ : r0 a0 a1 Q x10 H)
      revert h
      unfold r0
      repeat' first | exact lsV hQ | exact lsF | apply lsG | apply lsC | refine F36.ls (fun _ _ => ?_) (fun _ => ?_) | refine F25.ls fun _ _ => ?_ | refine lsAll fun _ => ?_ | refine lsEx fun _ _ => ?_ | exact fun h => ih _ _ h
theorem ok {a0 : List (List AV)} {a1 : Int} {v : AV} (h : P a0 a1 = some v) {H : Heap} {Q : AV → Heap → Prop} (hQ : ∀ H, Q v H) : C 22 [.sl 0 1 a0, .int .i64 a1] H Q := by
  refine call ?_
  unfold t
  unfold P at h
  obtain ⟨fu, h⟩ := lim_some h
  revert h
  repeat' first | exact lsV hQ | exact lsF | apply lsG | apply lsC | refine lsAll fun _ => ?_ | refine lsEx fun _ _ => ?_ | exact fun h => PL_ok hQ _ _ _ h
theorem ls {a0 : List (List AV)} {a1 : Int} {v : AV} {H : Heap} {k : AV → Option AV} {K : AV → Heap → Prop} (h : ∀ w H, k w = some v → K w H) : (P a0 a1).bind k = some v → C 22 [.sl 0 1 a0, .int .i64 a1] H K := fun e => bind_ls (Cq := fun K => C 22 [.sl 0 1 a0, .int .i64 a1] H K) (fun h => ok h) h e
end F22
/-! ### broker/brokerlaw39.MemberSides: function 5 -/
namespace F5
noncomputable def P (a0 : Int) (a1 : List (List AV)) (a2 : Int) : Option AV :=
    if ltI 60 (lenI a1) then
    ((F10.P).bind fun v_1 =>
      if (v_1).isBool then some (.bool ((v_1).toBool)) else none)
    else
    ((F19.P a0 a1).bind fun v_3 =>
      if (v_3).isSl 1 then ((F20.P a0 a1).bind fun v_5 =>
        if (v_5).isSl 1 then ((F21.P ((v_5).slXs) a0).bind fun v_7 =>
          if ((v_7).isTup && Nat.beq (v_7).tupVs.length 2) then (if (((v_7).tupVs).headD .any).isSl 1 then (if ((((v_7).tupVs).tail).headD .any).isBool then ((F22.P ((v_5).slXs) a0).bind fun v_9 =>
            if ((v_9).isTup && Nat.beq (v_9).tupVs.length 2) then (if (((v_9).tupVs).headD .any).isSl 1 then (if ((((v_9).tupVs).tail).headD .any).isBool then ((F23.P ((v_3).slXs) ((v_5).slXs)).bind fun v_11 =>
              if (v_11).isBool then (if (v_11).toBool then
                ((F16.P ((((v_7).tupVs).headD .any).slXs) ((((v_9).tupVs).headD .any).slXs)).bind fun v_13 =>
                  if (v_13).isBool then (if (v_13).toBool then
                    (if (((((v_7).tupVs).tail).headD .any).toBool) == (((((v_9).tupVs).tail).headD .any).toBool) then
                      ((F24.P a2 a0).bind fun v_15 =>
                        if (v_15).isBool then ((F25.P a2 a0).bind fun v_17 =>
                          if (v_17).isBool then (if ((v_15).toBool) == ((v_17).toBool) then
                            ((F10.P).bind fun v_19 =>
                              if (v_19).isBool then some (.bool ((v_19).toBool)) else none)
                            else
                            (some (.bool false))) else none) else none)
                      else
                      (some (.bool false)))
                    else
                    (some (.bool false))) else none)
                else
                (some (.bool false))) else none) else none) else none) else none) else none) else none) else none) else none) else none)
theorem ok {a0 : Int} {a1 : List (List AV)} {a2 : Int} {v : AV} (h : P a0 a1 a2 = some v) {H : Heap} {Q : AV → Heap → Prop} (hQ : ∀ H, Q v H) : C 5 [.int .i64 a0, .sl 0 2 a1, .int .i64 a2] H Q := by
  refine call ?_
  unfold t
  unfold P at h
  revert h
  repeat' first | exact lsV hQ | exact lsF | apply lsG | apply lsC | refine F10.ls fun _ _ => ?_ | refine F16.ls fun _ _ => ?_ | refine F19.ls fun _ _ => ?_ | refine F20.ls fun _ _ => ?_ | refine F21.ls fun _ _ => ?_ | refine F22.ls fun _ _ => ?_ | refine F23.ls fun _ _ => ?_ | refine F24.ls fun _ _ => ?_ | refine F25.ls fun _ _ => ?_ | refine lsAll fun _ => ?_ | refine lsEx fun _ _ => ?_
theorem ls {a0 : Int} {a1 : List (List AV)} {a2 : Int} {v : AV} {H : Heap} {k : AV → Option AV} {K : AV → Heap → Prop} (h : ∀ w H, k w = some v → K w H) : (P a0 a1 a2).bind k = some v → C 5 [.int .i64 a0, .sl 0 2 a1, .int .i64 a2] H K := fun e => bind_ls (Cq := fun K => C 5 [.int .i64 a0, .sl 0 2 a1, .int .i64 a2] H K) (fun h => ok h) h e
end F5
/-! ### broker/brokerlaw39.MemberMajors: function 6 -/
namespace F6
inductive LS where
  | l0 (x17 : Int)
noncomputable def PL (a0 : List (List AV)) (a1 : Int) : Nat → LS → Option AV
  | 0, _ => none
  | fu + 1, .l0 x17 =>
    if ltI x17 (lenI a0) then
    (if leI 0 x17 then (if ltI x17 (lenI a0) then (if (ce (ro a0 x17.toNat) 0).isSl 1 then (if ltI 20 (lenI ((ce (ro a0 x17.toNat) 0).slXs)) then
      ((F10.P).bind fun v_3 =>
        if (v_3).isBool then some (.bool ((v_3).toBool)) else none)
      else
      (PL a0 a1 fu (.l0 (addW .i64 x17 1)))) else none) else none) else none)
    else
    ((F21.P a0 a1).bind fun v_5 =>
      if ((v_5).isTup && Nat.beq (v_5).tupVs.length 2) then (if (((v_5).tupVs).headD .any).isSl 1 then (if ((((v_5).tupVs).tail).headD .any).isBool then ((F22.P a0 a1).bind fun v_7 =>
        if ((v_7).isTup && Nat.beq (v_7).tupVs.length 2) then (if (((v_7).tupVs).headD .any).isSl 1 then (if ((((v_7).tupVs).tail).headD .any).isBool then ((F16.P ((((v_5).tupVs).headD .any).slXs) ((((v_7).tupVs).headD .any).slXs)).bind fun v_9 =>
          if (v_9).isBool then (if (v_9).toBool then
            (if (((((v_5).tupVs).tail).headD .any).toBool) == (((((v_7).tupVs).tail).headD .any).toBool) then
              ((F10.P).bind fun v_11 =>
                if (v_11).isBool then some (.bool ((v_11).toBool)) else none)
              else
              (some (.bool false)))
            else
            (some (.bool false))) else none) else none) else none) else none) else none) else none) else none)
noncomputable def P (a0 : List (List AV)) (a1 : Int) : Option AV := lim fun fu =>
    if ltI 20 (lenI a0) then
    ((F10.P).bind fun v_1 =>
      if (v_1).isBool then some (.bool ((v_1).toBool)) else none)
    else
    (PL a0 a1 fu (.l0 0))
theorem PL_ok {a0 : List (List AV)} {a1 : Int} {Q : AV → Heap → Prop} {v : AV} (hQ : ∀ H, Q v H) : ∀ (fu : Nat) (s : LS) (H : Heap), PL a0 a1 fu s = some v → match s with | .l0 x17 => L0 a0 a1 Q x17 H := by
  intro fu
  induction fu with
  | zero => intro s H h; exact absurd h (by cases s <;> simp only [PL] <;> exact nofun)
  | succ fu ih =>
    intro s H
    cases s with
    | l0 x17 =>
      show PL a0 a1 (fu + 1) (.l0 x17) = some v → L0 a0 a1 Q x17 H
      rw [PL]
      refine fun h => L0_step (?_ : r0 a0 a1 Q x17 H)
      revert h
      unfold r0
      repeat' first | exact lsV hQ | exact lsF | apply lsG | apply lsC | refine F10.ls fun _ _ => ?_ | refine F16.ls fun _ _ => ?_ | refine F21.ls fun _ _ => ?_ | refine F22.ls fun _ _ => ?_ | refine lsAll fun _ => ?_ | refine lsEx fun _ _ => ?_ | exact fun h => ih _ _ h
theorem ok {a0 : List (List AV)} {a1 : Int} {v : AV} (h : P a0 a1 = some v) {H : Heap} {Q : AV → Heap → Prop} (hQ : ∀ H, Q v H) : C 6 [.sl 0 1 a0, .int .i64 a1] H Q := by
  refine call ?_
  unfold t
  unfold P at h
  obtain ⟨fu, h⟩ := lim_some h
  revert h
  repeat' first | exact lsV hQ | exact lsF | apply lsG | apply lsC | refine F10.ls fun _ _ => ?_ | refine lsAll fun _ => ?_ | refine lsEx fun _ _ => ?_ | exact fun h => PL_ok hQ _ _ _ h
theorem ls {a0 : List (List AV)} {a1 : Int} {v : AV} {H : Heap} {k : AV → Option AV} {K : AV → Heap → Prop} (h : ∀ w H, k w = some v → K w H) : (P a0 a1).bind k = some v → C 6 [.sl 0 1 a0, .int .i64 a1] H K := fun e => bind_ls (Cq := fun K => C 6 [.sl 0 1 a0, .int .i64 a1] H K) (fun h => ok h) h e
end F6
/-! ### broker/brokerlaw39.rest: function 28 -/
namespace F28
inductive LS where
  | l0 (x5out : List (List AV)) (x10 : Int)
noncomputable def PL (a0 : List (List AV)) (a1 : Int) : Nat → LS → Option AV
  | 0, _ => none
  | fu + 1, .l0 x5out x10 =>
    if ltI x10 (lenI a0) then
    (if leI 0 x10 then (if ltI x10 (lenI a0) then (if (ce (ro a0 x10.toNat) 0).isInt .i64 then (if (ce (ro a0 x10.toNat) 1).isInt .i64 then (if !(eqI ((ce (ro a0 x10.toNat) 0).toInt) a1) then
      (if room x5out [[.int .i64 ((ce (ro a0 x10.toNat) 0).toInt), .int .i64 ((ce (ro a0 x10.toNat) 1).toInt)]] 16 then PL a0 a1 fu (.l0 (x5out ++ [[.int .i64 ((ce (ro a0 x10.toNat) 0).toInt), .int .i64 ((ce (ro a0 x10.toNat) 1).toInt)]]) (addW .i64 x10 1)) else none)
      else
      (PL a0 a1 fu (.l0 x5out (addW .i64 x10 1)))) else none) else none) else none) else none)
    else
    (some (.sl 0 2 x5out))
noncomputable def P (a0 : List (List AV)) (a1 : Int) : Option AV := lim fun fu =>
    PL a0 a1 fu (.l0 [] 0)
theorem PL_ok {a0 : List (List AV)} {a1 : Int} {Q : AV → Heap → Prop} {v : AV} (hQ : ∀ H, Q v H) : ∀ (fu : Nat) (s : LS) (H : Heap), PL a0 a1 fu s = some v → match s with | .l0 x5out x10 => L0 a0 a1 Q x5out x10 H := by
  intro fu
  induction fu with
  | zero => intro s H h; exact absurd h (by cases s <;> simp only [PL] <;> exact nofun)
  | succ fu ih =>
    intro s H
    cases s with
    | l0 x5out x10 =>
      show PL a0 a1 (fu + 1) (.l0 x5out x10) = some v → L0 a0 a1 Q x5out x10 H
      rw [PL]
      refine fun h => L0_step (?_ : r0 a0 a1 Q x5out x10 H)
      revert h
      unfold r0
      repeat' first | exact lsV hQ | exact lsF | apply lsG | apply lsC | refine lsAll fun _ => ?_ | refine lsEx fun _ _ => ?_ | exact fun h => ih _ _ h
theorem ok {a0 : List (List AV)} {a1 : Int} {v : AV} (h : P a0 a1 = some v) {H : Heap} {Q : AV → Heap → Prop} (hQ : ∀ H, Q v H) : C 28 [.sl 0 2 a0, .int .i64 a1] H Q := by
  refine call ?_
  unfold t
  unfold P at h
  obtain ⟨fu, h⟩ := lim_some h
  revert h
  repeat' first | exact lsV hQ | exact lsF | apply lsG | apply lsC | refine lsAll fun _ => ?_ | refine lsEx fun _ _ => ?_ | exact fun h => PL_ok hQ _ _ _ h
theorem ls {a0 : List (List AV)} {a1 : Int} {v : AV} {H : Heap} {k : AV → Option AV} {K : AV → Heap → Prop} (h : ∀ w H, k w = some v → K w H) : (P a0 a1).bind k = some v → C 28 [.sl 0 2 a0, .int .i64 a1] H K := fun e => bind_ls (Cq := fun K => C 28 [.sl 0 2 a0, .int .i64 a1] H K) (fun h => ok h) h e
end F28
/-! ### broker/brokerlaw39.MemberTimes: function 8 -/
namespace F8
inductive LS where
  | lR3 (x59 : Bool)
  | lR5 (x75 : Bool)
  | lR8 (x13m : List (List AV)) (x103 : Bool)
noncomputable def PL (a0 : List (List AV)) (a1_0 : Int) (a1_1 : Int) (a1_2 : Int) (a2_0 : Int) (a2_1 : Int) : Nat → LS → Option AV
  | 0, _ => none
  | fu + 1, .lR3 x59 =>
    if x59 then
    (some (.bool false))
    else
    (if ltI 30 (lenI a0) then
      (PL a0 a1_0 a1_1 a1_2 a2_0 a2_1 fu (.lR5 true))
      else
      ((F9.P a0).bind fun v_17 =>
        if (v_17).isBool then (if !((v_17).toBool) then
          (PL a0 a1_0 a1_1 a1_2 a2_0 a2_1 fu (.lR5 true))
          else
          (if ltI a1_0 0 then
            (PL a0 a1_0 a1_1 a1_2 a2_0 a2_1 fu (.lR5 true))
            else
            (PL a0 a1_0 a1_1 a1_2 a2_0 a2_1 fu (.lR5 (leI 7 a1_0))))) else none))
  | fu + 1, .lR5 x75 =>
    if x75 then
    ((F10.P).bind fun v_19 =>
      if (v_19).isBool then some (.bool ((v_19).toBool)) else none)
    else
    ((F11.P a0 a1_0 a1_1).bind fun v_21 =>
      if (v_21).isSl 2 then (if leI 0 a1_2 then
        ((F14.P ((v_21).slXs) a1_1 a1_2).bind fun v_23 =>
          if (v_23).isSl 1 then ((F27.P ((v_23).slXs) a1_0).bind fun v_25 =>
            if (v_25).isBool then (if !((v_25).toBool) then
              (PL a0 a1_0 a1_1 a1_2 a2_0 a2_1 fu (.lR8 ((v_21).slXs) true))
              else
              (if ltI a1_2 0 then
                ((F14.P ((v_21).slXs) a1_1 a1_2).bind fun v_27 =>
                  if (v_27).isSl 1 then PL a0 a1_0 a1_1 a1_2 a2_0 a2_1 fu (.lR8 ((v_21).slXs) (ltI 0 (lenI ((v_27).slXs)))) else none)
                else
                (PL a0 a1_0 a1_1 a1_2 a2_0 a2_1 fu (.lR8 ((v_21).slXs) false)))) else none) else none)
        else
        (if ltI a1_2 0 then
          ((F14.P ((v_21).slXs) a1_1 a1_2).bind fun v_29 =>
            if (v_29).isSl 1 then PL a0 a1_0 a1_1 a1_2 a2_0 a2_1 fu (.lR8 ((v_21).slXs) (ltI 0 (lenI ((v_29).slXs)))) else none)
          else
          (PL a0 a1_0 a1_1 a1_2 a2_0 a2_1 fu (.lR8 ((v_21).slXs) false)))) else none)
  | fu + 1, .lR8 x13m x103 =>
    if x103 then
    (some (.bool false))
    else
    ((F28.P a0 a1_0).bind fun v_31 =>
      if (v_31).isSl 2 then ((F28.P x13m a1_0).bind fun v_33 =>
        if (v_33).isSl 2 then ((F12.P ((v_31).slXs) ((v_33).slXs)).bind fun v_35 =>
          if (v_35).isBool then (if (v_35).toBool then
            ((F28.P a0 a1_0).bind fun v_37 =>
              if (v_37).isSl 2 then (if eqI (lenI x13m) (addW .i64 (lenI ((v_37).slXs)) 1) then
                ((F10.P).bind fun v_39 =>
                  if (v_39).isBool then some (.bool ((v_39).toBool)) else none)
                else
                (some (.bool false))) else none)
            else
            (some (.bool false))) else none) else none) else none)
noncomputable def P (a0 : List (List AV)) (a1_0 : Int) (a1_1 : Int) (a1_2 : Int) (a2_0 : Int) (a2_1 : Int) : Option AV := lim fun fu =>
    (F24.P (Int.tmod (IntKind.i64.wrap a2_0) 10) (Int.tmod (IntKind.i64.wrap (Int.tdiv (IntKind.i64.wrap a2_0) 10)) 9)).bind fun v_1 =>
    if (v_1).isBool then (if (v_1).toBool then
      ((F24.P (Int.tmod (IntKind.i64.wrap a2_1) 10) (Int.tmod (IntKind.i64.wrap (Int.tdiv (IntKind.i64.wrap a2_0) 10)) 9)).bind fun v_3 =>
        if (v_3).isBool then (if (v_3).toBool then
          (if leI (addW .i64 (Int.tmod (IntKind.i64.wrap a2_0) 10) (Int.tmod (IntKind.i64.wrap a2_1) 10)) (Int.tmod (IntKind.i64.wrap (Int.tdiv (IntKind.i64.wrap a2_0) 10)) 9) then
            (PL a0 a1_0 a1_1 a1_2 a2_0 a2_1 fu (.lR3 true))
            else
            ((F24.P (Int.tmod (IntKind.i64.wrap a2_0) 10) (Int.tmod (IntKind.i64.wrap (Int.tdiv (IntKind.i64.wrap a2_0) 10)) 9)).bind fun v_5 =>
              if (v_5).isBool then (if (v_5).toBool then
                ((F24.P (subW .i64 (Int.tmod (IntKind.i64.wrap (Int.tdiv (IntKind.i64.wrap a2_0) 10)) 9) (Int.tmod (IntKind.i64.wrap a2_0) 10)) (Int.tmod (IntKind.i64.wrap (Int.tdiv (IntKind.i64.wrap a2_0) 10)) 9)).bind fun v_7 =>
                  if (v_7).isBool then PL a0 a1_0 a1_1 a1_2 a2_0 a2_1 fu (.lR3 ((v_7).toBool)) else none)
                else
                (PL a0 a1_0 a1_1 a1_2 a2_0 a2_1 fu (.lR3 false))) else none))
          else
          ((F24.P (Int.tmod (IntKind.i64.wrap a2_0) 10) (Int.tmod (IntKind.i64.wrap (Int.tdiv (IntKind.i64.wrap a2_0) 10)) 9)).bind fun v_9 =>
            if (v_9).isBool then (if (v_9).toBool then
              ((F24.P (subW .i64 (Int.tmod (IntKind.i64.wrap (Int.tdiv (IntKind.i64.wrap a2_0) 10)) 9) (Int.tmod (IntKind.i64.wrap a2_0) 10)) (Int.tmod (IntKind.i64.wrap (Int.tdiv (IntKind.i64.wrap a2_0) 10)) 9)).bind fun v_11 =>
                if (v_11).isBool then PL a0 a1_0 a1_1 a1_2 a2_0 a2_1 fu (.lR3 ((v_11).toBool)) else none)
              else
              (PL a0 a1_0 a1_1 a1_2 a2_0 a2_1 fu (.lR3 false))) else none)) else none)
      else
      ((F24.P (Int.tmod (IntKind.i64.wrap a2_0) 10) (Int.tmod (IntKind.i64.wrap (Int.tdiv (IntKind.i64.wrap a2_0) 10)) 9)).bind fun v_13 =>
        if (v_13).isBool then (if (v_13).toBool then
          ((F24.P (subW .i64 (Int.tmod (IntKind.i64.wrap (Int.tdiv (IntKind.i64.wrap a2_0) 10)) 9) (Int.tmod (IntKind.i64.wrap a2_0) 10)) (Int.tmod (IntKind.i64.wrap (Int.tdiv (IntKind.i64.wrap a2_0) 10)) 9)).bind fun v_15 =>
            if (v_15).isBool then PL a0 a1_0 a1_1 a1_2 a2_0 a2_1 fu (.lR3 ((v_15).toBool)) else none)
          else
          (PL a0 a1_0 a1_1 a1_2 a2_0 a2_1 fu (.lR3 false))) else none)) else none
theorem PL_ok {a0 : List (List AV)} {a1_0 : Int} {a1_1 : Int} {a1_2 : Int} {a2_0 : Int} {a2_1 : Int} {Q : AV → Heap → Prop} {v : AV} (hQ : ∀ H, Q v H) : ∀ (fu : Nat) (s : LS) (H : Heap), PL a0 a1_0 a1_1 a1_2 a2_0 a2_1 fu s = some v → match s with | .lR3 x59 => JR3 a0 a1_0 a1_1 a1_2 a2_0 a2_1 Q x59 H | .lR5 x75 => JR5 a0 a1_0 a1_1 a1_2 a2_0 a2_1 Q x75 H | .lR8 x13m x103 => JR8 a0 a1_0 a1_1 a1_2 a2_0 a2_1 Q x13m x103 H := by
  intro fu
  induction fu with
  | zero => intro s H h; exact absurd h (by cases s <;> simp only [PL] <;> exact nofun)
  | succ fu ih =>
    intro s H
    cases s with
    | lR3 x59 =>
      show PL a0 a1_0 a1_1 a1_2 a2_0 a2_1 (fu + 1) (.lR3 x59) = some v → JR3 a0 a1_0 a1_1 a1_2 a2_0 a2_1 Q x59 H
      rw [PL]
      refine fun h => JR3_step (?_ : jR3 a0 a1_0 a1_1 a1_2 a2_0 a2_1 Q x59 H)
      revert h
      unfold jR3
      repeat' first | exact lsV hQ | exact lsF | apply lsG | apply lsC | refine F9.ls fun _ _ => ?_ | refine lsAll fun _ => ?_ | refine lsEx fun _ _ => ?_ | exact fun h => ih _ _ h
    | lR5 x75 =>
      show PL a0 a1_0 a1_1 a1_2 a2_0 a2_1 (fu + 1) (.lR5 x75) = some v → JR5 a0 a1_0 a1_1 a1_2 a2_0 a2_1 Q x75 H
      rw [PL]
      refine fun h => JR5_step (?_ : jR5 a0 a1_0 a1_1 a1_2 a2_0 a2_1 Q x75 H)
      revert h
      unfold jR5
      repeat' first | exact lsV hQ | exact lsF | apply lsG | apply lsC | refine F10.ls fun _ _ => ?_ | refine F11.ls fun _ _ => ?_ | refine F14.ls fun _ _ => ?_ | refine F27.ls fun _ _ => ?_ | refine lsAll fun _ => ?_ | refine lsEx fun _ _ => ?_ | exact fun h => ih _ _ h
    | lR8 x13m x103 =>
      show PL a0 a1_0 a1_1 a1_2 a2_0 a2_1 (fu + 1) (.lR8 x13m x103) = some v → JR8 a0 a1_0 a1_1 a1_2 a2_0 a2_1 Q x13m x103 H
      rw [PL]
      refine fun h => JR8_step (?_ : jR8 a0 a1_0 a1_1 a1_2 a2_0 a2_1 Q x13m x103 H)
      revert h
      unfold jR8
      repeat' first | exact lsV hQ | exact lsF | apply lsG | apply lsC | refine F10.ls fun _ _ => ?_ | refine F12.ls fun _ _ => ?_ | refine F28.ls fun _ _ => ?_ | refine lsAll fun _ => ?_ | refine lsEx fun _ _ => ?_ | exact fun h => ih _ _ h
theorem ok {a0 : List (List AV)} {a1_0 : Int} {a1_1 : Int} {a1_2 : Int} {a2_0 : Int} {a2_1 : Int} {v : AV} (h : P a0 a1_0 a1_1 a1_2 a2_0 a2_1 = some v) {H : Heap} {Q : AV → Heap → Prop} (hQ : ∀ H, Q v H) : C 8 [.sl 0 2 a0, .agg [.int .i64 a1_0, .int .i64 a1_1, .int .i64 a1_2], .agg [.int .u8 a2_0, .int .u8 a2_1]] H Q := by
  refine call ?_
  unfold t
  unfold P at h
  obtain ⟨fu, h⟩ := lim_some h
  revert h
  repeat' first | exact lsV hQ | exact lsF | apply lsG | apply lsC | refine F24.ls fun _ _ => ?_ | refine lsAll fun _ => ?_ | refine lsEx fun _ _ => ?_ | exact fun h => PL_ok hQ _ _ _ h
theorem ls {a0 : List (List AV)} {a1_0 : Int} {a1_1 : Int} {a1_2 : Int} {a2_0 : Int} {a2_1 : Int} {v : AV} {H : Heap} {k : AV → Option AV} {K : AV → Heap → Prop} (h : ∀ w H, k w = some v → K w H) : (P a0 a1_0 a1_1 a1_2 a2_0 a2_1).bind k = some v → C 8 [.sl 0 2 a0, .agg [.int .i64 a1_0, .int .i64 a1_1, .int .i64 a1_2], .agg [.int .u8 a2_0, .int .u8 a2_1]] H K := fun e => bind_ls (Cq := fun K => C 8 [.sl 0 2 a0, .agg [.int .i64 a1_0, .int .i64 a1_1, .int .i64 a1_2], .agg [.int .u8 a2_0, .int .u8 a2_1]] H K) (fun h => ok h) h e
end F8
/-! ### slices.Clone[[][2]int,[2]int]: function 26 -/
namespace F26
noncomputable def P (a0 : List (List AV)) : Option AV :=
    anyB a0 fun b_1 =>
    if b_1 then
      (some (.sl 1 2 []))
      else
      (if room [] a0 16 then some (.sl 1 2 a0) else none)
theorem ok {a0 : List (List AV)} {v : AV} (h : P a0 = some v) {H : Heap} {Q : AV → Heap → Prop} (hQ : ∀ H, Q v H) (hQn : v = .sl 1 2 [] → ∀ H, Q .nilsl H) : C 26 [.sl 0 2 a0] H Q := by
  refine call ?_
  unfold t
  unfold P at h
  revert h
  repeat' first | exact lsVn hQn | exact lsV hQ | exact lsF | apply lsG | apply lsC | refine lsAll fun _ => ?_ | refine lsEx fun _ _ => ?_
theorem ls {a0 : List (List AV)} {v : AV} {H : Heap} {k : AV → Option AV} {K : AV → Heap → Prop} (h : ∀ w H, k w = some v → K w H) (h2 : ∀ H, k (.sl 1 2 []) = some v → K .nilsl H) : (P a0).bind k = some v → C 26 [.sl 0 2 a0] H K := fun e => bind_ls2 (Cq := fun K => C 26 [.sl 0 2 a0] H K) (fun {_} h {_} a b => ok h a b) h h2 e
end F26
/-! ### cmp.Less[int]: function 53 -/
namespace F53
noncomputable def P (a0 : Int) (a1 : Int) : Option AV :=
    (F38.P a0).bind fun v_1 =>
    if (v_1).isBool then (if (v_1).toBool then
      ((F38.P a1).bind fun v_3 =>
        if (v_3).isBool then (if !((v_3).toBool) then
          (some (.bool true))
          else
          (some (.bool (ltI a0 a1)))) else none)
      else
      (some (.bool (ltI a0 a1)))) else none
theorem ok {a0 : Int} {a1 : Int} {v : AV} (h : P a0 a1 = some v) {H : Heap} {Q : AV → Heap → Prop} (hQ : ∀ H, Q v H) : C 53 [.int .i64 a0, .int .i64 a1] H Q := by
  refine call ?_
  unfold t
  unfold P at h
  revert h
  repeat' first | exact lsV hQ | exact lsF | apply lsG | apply lsC | refine F38.ls fun _ _ => ?_ | refine lsAll fun _ => ?_ | refine lsEx fun _ _ => ?_
theorem ls {a0 : Int} {a1 : Int} {v : AV} {H : Heap} {k : AV → Option AV} {K : AV → Heap → Prop} (h : ∀ w H, k w = some v → K w H) : (P a0 a1).bind k = some v → C 53 [.int .i64 a0, .int .i64 a1] H K := fun e => bind_ls (Cq := fun K => C 53 [.int .i64 a0, .int .i64 a1] H K) (fun h => ok h) h e
end F53
end Go.Proofs.Ytdiokakekedaaaa.Ab
