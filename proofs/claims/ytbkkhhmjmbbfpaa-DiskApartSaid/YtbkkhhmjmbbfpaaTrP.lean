/- PRINTED by abx.py: the pure functions. -/
import Derived.Test.YtbkkhhmjmbbfpaaTr
import Derived.Test.YtbkkhhmjmbbfpaaAbP
namespace Go.Proofs.Ytbkkhhmjmbbfpaa.Ab
open Go
set_option maxRecDepth 100000
set_option maxHeartbeats 4000000
set_option linter.unusedVariables false
/-! ### broker/brokerlaw36.short: function 14 -/
namespace F14
inductive LS where
  | l0 (x3i : Int)
  | lR6 (x3i : Int) (x46 : Bool)
noncomputable def PL (a0 : List (List AV)) : Nat → LS → Option AV
  | 0, _ => none
  | fu + 1, .l0 x3i =>
    if ltI x3i (lenI a0) then
    (if leI 0 x3i then (if ltI x3i (lenI a0) then (if (ce (ro a0 x3i.toNat) 3).isSl 1 then (if ltI 400 (lenI ((ce (ro a0 x3i.toNat) 3).slXs)) then
      (PL a0 fu (.lR6 x3i true))
      else
      (if leI 0 x3i then (if ltI x3i (lenI a0) then (if (ce (ro a0 x3i.toNat) 1).isStr then (if ltI 400 (sizeI ((ce (ro a0 x3i.toNat) 1).toStr)) then
        (PL a0 fu (.lR6 x3i true))
        else
        (if leI 0 x3i then (if ltI x3i (lenI a0) then (if (ce (ro a0 x3i.toNat) 2).isStr then (if ltI 400 (sizeI ((ce (ro a0 x3i.toNat) 2).toStr)) then
          (PL a0 fu (.lR6 x3i true))
          else
          (if leI 0 x3i then (if ltI x3i (lenI a0) then (if (ce (ro a0 x3i.toNat) 4).isSl 1 then PL a0 fu (.lR6 x3i (ltI 20 (lenI ((ce (ro a0 x3i.toNat) 4).slXs)))) else none) else none) else none)) else none) else none) else none)) else none) else none) else none)) else none) else none) else none)
    else
    (some (.bool true))
  | fu + 1, .lR6 x3i x46 =>
    if x46 then
    (some (.bool false))
    else
    (PL a0 fu (.l0 (addW .i64 x3i 1)))
noncomputable def P (a0 : List (List AV)) : Option AV := lim fun fu =>
    if ltI 40 (lenI a0) then
    (some (.bool false))
    else
    (PL a0 fu (.l0 0))
theorem PL_ok {a0 : List (List AV)} {Q : Qt} {v : AV} (hQ : ∀ H, Q v H) : ∀ (fu : Nat) (s : LS) (H : Heap), PL a0 fu s = some v → match s with | .l0 x3i => L0 a0 Q x3i H | .lR6 x3i x46 => JR6 a0 Q x3i x46 H := by
  intro fu
  induction fu with
  | zero => intro s H h; exact absurd h (by cases s <;> simp only [PL] <;> exact nofun)
  | succ fu ih =>
    intro s H
    cases s with
    | l0 x3i =>
      show PL a0 (fu + 1) (.l0 x3i) = some v → L0 a0 Q x3i H
      rw [PL]
      refine fun h => L0_step (?_ : r0 a0 Q x3i H)
      revert h
      unfold r0
      repeat' first | exact lsV hQ | exact lsF | apply lsG | apply lsC | exact fun h => ih _ _ h
    | lR6 x3i x46 =>
      show PL a0 (fu + 1) (.lR6 x3i x46) = some v → JR6 a0 Q x3i x46 H
      rw [PL]
      refine fun h => JR6_step (?_ : jR6 a0 Q x3i x46 H)
      revert h
      unfold jR6
      repeat' first | exact lsV hQ | exact lsF | apply lsG | apply lsC | exact fun h => ih _ _ h
theorem ok {a0 : List (List AV)} {v : AV} (h : P a0 = some v) {H : Heap} {Q : Qt} (hQ : ∀ H, Q v H) : C 14 [.sl 0 5 a0] H Q := by
  refine call ?_
  unfold t
  unfold P at h
  obtain ⟨fu, h⟩ := lim_some h
  revert h
  repeat' first | exact lsV hQ | exact lsF | apply lsG | apply lsC | exact fun h => PL_ok hQ _ _ _ h
theorem ls {a0 : List (List AV)} {β : Type} {r : β} {H : Heap} {k : AV → Option β} {K : Qt} (h : ∀ w H, k w = some r → K w H) : (P a0).bind k = some r → C 14 [.sl 0 5 a0] H K := fun e => bind_ls (Cq := fun K => C 14 [.sl 0 5 a0] H K) (fun h => ok h) h e
end F14
/-! ### broker/brokerref36.New: function 15 -/
namespace F15
noncomputable def P  : Option AV :=
    some (.agg [.nilsl])
theorem ok  {v : AV} (h : P  = some v) {H : Heap} {Q : Qt} (hQ : ∀ H, Q v H) : C 15 [] H Q := by
  refine call ?_
  unfold t
  unfold P at h
  revert h
  repeat' first | exact lsV hQ | exact lsF | apply lsG | apply lsC
theorem ls  {β : Type} {r : β} {H : Heap} {k : AV → Option β} {K : Qt} (h : ∀ w H, k w = some r → K w H) : (P ).bind k = some r → C 15 [] H K := fun e => bind_ls (Cq := fun K => C 15 [] H K) (fun h => ok h) h e
end F15
/-! ### broker/brokerref36.Crash: function 18 -/
namespace F18
inductive LS where
  | l0 (x5out : List (List AV)) (x6i : Int)
noncomputable def PL (a0_0 a1 : List (List AV)) : Nat → LS → Option AV
  | 0, _ => none
  | fu + 1, .l0 x5out x6i =>
    if ltI x6i (lenI a0_0) then
    (if leI 0 x6i then (if ltI x6i (lenI a0_0) then (if (ce (ro a0_0 x6i.toNat) 0).isStr then (if (ce (ro a0_0 x6i.toNat) 1).isStr then (if (ce (ro a0_0 x6i.toNat) 2).isInt .i64 then (if ltI x6i (lenI a1) then
      (if leI 0 x6i then (if ltI x6i (lenI a1) then (if (ce (ro a1 x6i.toNat) 0).isInt .i64 then (if ltI 0 ((ce (ro a1 x6i.toNat) 0).toInt) then
        (if leI 0 x6i then (if ltI x6i (lenI a1) then (if (ce (ro a1 x6i.toNat) 0).isInt .i64 then (if ltI (subW .i64 (sizeI ((ce (ro a0_0 x6i.toNat) 1).toStr)) ((ce (ro a0_0 x6i.toNat) 2).toInt)) ((ce (ro a1 x6i.toNat) 0).toInt) then
          (if leI 0 (addW .i64 ((ce (ro a0_0 x6i.toNat) 2).toInt) (subW .i64 (sizeI ((ce (ro a0_0 x6i.toNat) 1).toStr)) ((ce (ro a0_0 x6i.toNat) 2).toInt))) then (if leI (addW .i64 ((ce (ro a0_0 x6i.toNat) 2).toInt) (subW .i64 (sizeI ((ce (ro a0_0 x6i.toNat) 1).toStr)) ((ce (ro a0_0 x6i.toNat) 2).toInt))) (sizeI ((ce (ro a0_0 x6i.toNat) 1).toStr)) then (if room x5out [[.str ((ce (ro a0_0 x6i.toNat) 0).toStr), .str (((ce (ro a0_0 x6i.toNat) 1).toStr).extract 0 ((addW .i64 ((ce (ro a0_0 x6i.toNat) 2).toInt) (subW .i64 (sizeI ((ce (ro a0_0 x6i.toNat) 1).toStr)) ((ce (ro a0_0 x6i.toNat) 2).toInt))).toNat)), .int .i64 (sizeI (((ce (ro a0_0 x6i.toNat) 1).toStr).extract 0 ((addW .i64 ((ce (ro a0_0 x6i.toNat) 2).toInt) (subW .i64 (sizeI ((ce (ro a0_0 x6i.toNat) 1).toStr)) ((ce (ro a0_0 x6i.toNat) 2).toInt))).toNat)))]] 40 then PL a0_0 a1 fu (.l0 (x5out ++ [[.str ((ce (ro a0_0 x6i.toNat) 0).toStr), .str (((ce (ro a0_0 x6i.toNat) 1).toStr).extract 0 ((addW .i64 ((ce (ro a0_0 x6i.toNat) 2).toInt) (subW .i64 (sizeI ((ce (ro a0_0 x6i.toNat) 1).toStr)) ((ce (ro a0_0 x6i.toNat) 2).toInt))).toNat)), .int .i64 (sizeI (((ce (ro a0_0 x6i.toNat) 1).toStr).extract 0 ((addW .i64 ((ce (ro a0_0 x6i.toNat) 2).toInt) (subW .i64 (sizeI ((ce (ro a0_0 x6i.toNat) 1).toStr)) ((ce (ro a0_0 x6i.toNat) 2).toInt))).toNat)))]]) (addW .i64 x6i 1)) else none) else none) else none)
          else
          (if leI 0 (addW .i64 ((ce (ro a0_0 x6i.toNat) 2).toInt) ((ce (ro a1 x6i.toNat) 0).toInt)) then (if leI (addW .i64 ((ce (ro a0_0 x6i.toNat) 2).toInt) ((ce (ro a1 x6i.toNat) 0).toInt)) (sizeI ((ce (ro a0_0 x6i.toNat) 1).toStr)) then (if room x5out [[.str ((ce (ro a0_0 x6i.toNat) 0).toStr), .str (((ce (ro a0_0 x6i.toNat) 1).toStr).extract 0 ((addW .i64 ((ce (ro a0_0 x6i.toNat) 2).toInt) ((ce (ro a1 x6i.toNat) 0).toInt)).toNat)), .int .i64 (sizeI (((ce (ro a0_0 x6i.toNat) 1).toStr).extract 0 ((addW .i64 ((ce (ro a0_0 x6i.toNat) 2).toInt) ((ce (ro a1 x6i.toNat) 0).toInt)).toNat)))]] 40 then PL a0_0 a1 fu (.l0 (x5out ++ [[.str ((ce (ro a0_0 x6i.toNat) 0).toStr), .str (((ce (ro a0_0 x6i.toNat) 1).toStr).extract 0 ((addW .i64 ((ce (ro a0_0 x6i.toNat) 2).toInt) ((ce (ro a1 x6i.toNat) 0).toInt)).toNat)), .int .i64 (sizeI (((ce (ro a0_0 x6i.toNat) 1).toStr).extract 0 ((addW .i64 ((ce (ro a0_0 x6i.toNat) 2).toInt) ((ce (ro a1 x6i.toNat) 0).toInt)).toNat)))]]) (addW .i64 x6i 1)) else none) else none) else none)) else none) else none) else none)
        else
        (if ltI (subW .i64 (sizeI ((ce (ro a0_0 x6i.toNat) 1).toStr)) ((ce (ro a0_0 x6i.toNat) 2).toInt)) 0 then
          (if leI 0 (addW .i64 ((ce (ro a0_0 x6i.toNat) 2).toInt) (subW .i64 (sizeI ((ce (ro a0_0 x6i.toNat) 1).toStr)) ((ce (ro a0_0 x6i.toNat) 2).toInt))) then (if leI (addW .i64 ((ce (ro a0_0 x6i.toNat) 2).toInt) (subW .i64 (sizeI ((ce (ro a0_0 x6i.toNat) 1).toStr)) ((ce (ro a0_0 x6i.toNat) 2).toInt))) (sizeI ((ce (ro a0_0 x6i.toNat) 1).toStr)) then (if room x5out [[.str ((ce (ro a0_0 x6i.toNat) 0).toStr), .str (((ce (ro a0_0 x6i.toNat) 1).toStr).extract 0 ((addW .i64 ((ce (ro a0_0 x6i.toNat) 2).toInt) (subW .i64 (sizeI ((ce (ro a0_0 x6i.toNat) 1).toStr)) ((ce (ro a0_0 x6i.toNat) 2).toInt))).toNat)), .int .i64 (sizeI (((ce (ro a0_0 x6i.toNat) 1).toStr).extract 0 ((addW .i64 ((ce (ro a0_0 x6i.toNat) 2).toInt) (subW .i64 (sizeI ((ce (ro a0_0 x6i.toNat) 1).toStr)) ((ce (ro a0_0 x6i.toNat) 2).toInt))).toNat)))]] 40 then PL a0_0 a1 fu (.l0 (x5out ++ [[.str ((ce (ro a0_0 x6i.toNat) 0).toStr), .str (((ce (ro a0_0 x6i.toNat) 1).toStr).extract 0 ((addW .i64 ((ce (ro a0_0 x6i.toNat) 2).toInt) (subW .i64 (sizeI ((ce (ro a0_0 x6i.toNat) 1).toStr)) ((ce (ro a0_0 x6i.toNat) 2).toInt))).toNat)), .int .i64 (sizeI (((ce (ro a0_0 x6i.toNat) 1).toStr).extract 0 ((addW .i64 ((ce (ro a0_0 x6i.toNat) 2).toInt) (subW .i64 (sizeI ((ce (ro a0_0 x6i.toNat) 1).toStr)) ((ce (ro a0_0 x6i.toNat) 2).toInt))).toNat)))]]) (addW .i64 x6i 1)) else none) else none) else none)
          else
          (if leI 0 (addW .i64 ((ce (ro a0_0 x6i.toNat) 2).toInt) 0) then (if leI (addW .i64 ((ce (ro a0_0 x6i.toNat) 2).toInt) 0) (sizeI ((ce (ro a0_0 x6i.toNat) 1).toStr)) then (if room x5out [[.str ((ce (ro a0_0 x6i.toNat) 0).toStr), .str (((ce (ro a0_0 x6i.toNat) 1).toStr).extract 0 ((addW .i64 ((ce (ro a0_0 x6i.toNat) 2).toInt) 0).toNat)), .int .i64 (sizeI (((ce (ro a0_0 x6i.toNat) 1).toStr).extract 0 ((addW .i64 ((ce (ro a0_0 x6i.toNat) 2).toInt) 0).toNat)))]] 40 then PL a0_0 a1 fu (.l0 (x5out ++ [[.str ((ce (ro a0_0 x6i.toNat) 0).toStr), .str (((ce (ro a0_0 x6i.toNat) 1).toStr).extract 0 ((addW .i64 ((ce (ro a0_0 x6i.toNat) 2).toInt) 0).toNat)), .int .i64 (sizeI (((ce (ro a0_0 x6i.toNat) 1).toStr).extract 0 ((addW .i64 ((ce (ro a0_0 x6i.toNat) 2).toInt) 0).toNat)))]]) (addW .i64 x6i 1)) else none) else none) else none))) else none) else none) else none)
      else
      (if ltI (subW .i64 (sizeI ((ce (ro a0_0 x6i.toNat) 1).toStr)) ((ce (ro a0_0 x6i.toNat) 2).toInt)) 0 then
        (if leI 0 (addW .i64 ((ce (ro a0_0 x6i.toNat) 2).toInt) (subW .i64 (sizeI ((ce (ro a0_0 x6i.toNat) 1).toStr)) ((ce (ro a0_0 x6i.toNat) 2).toInt))) then (if leI (addW .i64 ((ce (ro a0_0 x6i.toNat) 2).toInt) (subW .i64 (sizeI ((ce (ro a0_0 x6i.toNat) 1).toStr)) ((ce (ro a0_0 x6i.toNat) 2).toInt))) (sizeI ((ce (ro a0_0 x6i.toNat) 1).toStr)) then (if room x5out [[.str ((ce (ro a0_0 x6i.toNat) 0).toStr), .str (((ce (ro a0_0 x6i.toNat) 1).toStr).extract 0 ((addW .i64 ((ce (ro a0_0 x6i.toNat) 2).toInt) (subW .i64 (sizeI ((ce (ro a0_0 x6i.toNat) 1).toStr)) ((ce (ro a0_0 x6i.toNat) 2).toInt))).toNat)), .int .i64 (sizeI (((ce (ro a0_0 x6i.toNat) 1).toStr).extract 0 ((addW .i64 ((ce (ro a0_0 x6i.toNat) 2).toInt) (subW .i64 (sizeI ((ce (ro a0_0 x6i.toNat) 1).toStr)) ((ce (ro a0_0 x6i.toNat) 2).toInt))).toNat)))]] 40 then PL a0_0 a1 fu (.l0 (x5out ++ [[.str ((ce (ro a0_0 x6i.toNat) 0).toStr), .str (((ce (ro a0_0 x6i.toNat) 1).toStr).extract 0 ((addW .i64 ((ce (ro a0_0 x6i.toNat) 2).toInt) (subW .i64 (sizeI ((ce (ro a0_0 x6i.toNat) 1).toStr)) ((ce (ro a0_0 x6i.toNat) 2).toInt))).toNat)), .int .i64 (sizeI (((ce (ro a0_0 x6i.toNat) 1).toStr).extract 0 ((addW .i64 ((ce (ro a0_0 x6i.toNat) 2).toInt) (subW .i64 (sizeI ((ce (ro a0_0 x6i.toNat) 1).toStr)) ((ce (ro a0_0 x6i.toNat) 2).toInt))).toNat)))]]) (addW .i64 x6i 1)) else none) else none) else none)
        else
        (if leI 0 (addW .i64 ((ce (ro a0_0 x6i.toNat) 2).toInt) 0) then (if leI (addW .i64 ((ce (ro a0_0 x6i.toNat) 2).toInt) 0) (sizeI ((ce (ro a0_0 x6i.toNat) 1).toStr)) then (if room x5out [[.str ((ce (ro a0_0 x6i.toNat) 0).toStr), .str (((ce (ro a0_0 x6i.toNat) 1).toStr).extract 0 ((addW .i64 ((ce (ro a0_0 x6i.toNat) 2).toInt) 0).toNat)), .int .i64 (sizeI (((ce (ro a0_0 x6i.toNat) 1).toStr).extract 0 ((addW .i64 ((ce (ro a0_0 x6i.toNat) 2).toInt) 0).toNat)))]] 40 then PL a0_0 a1 fu (.l0 (x5out ++ [[.str ((ce (ro a0_0 x6i.toNat) 0).toStr), .str (((ce (ro a0_0 x6i.toNat) 1).toStr).extract 0 ((addW .i64 ((ce (ro a0_0 x6i.toNat) 2).toInt) 0).toNat)), .int .i64 (sizeI (((ce (ro a0_0 x6i.toNat) 1).toStr).extract 0 ((addW .i64 ((ce (ro a0_0 x6i.toNat) 2).toInt) 0).toNat)))]]) (addW .i64 x6i 1)) else none) else none) else none))) else none) else none) else none) else none) else none)
    else
    (some (.agg [.sl 0 3 x5out]))
noncomputable def P (a0_0 a1 : List (List AV)) : Option AV := lim fun fu =>
    PL a0_0 a1 fu (.l0 [] 0)
theorem PL_ok {a0_0 a1 : List (List AV)} {Q : Qt} {v : AV} (hQ : ∀ H, Q v H) : ∀ (fu : Nat) (s : LS) (H : Heap), PL a0_0 a1 fu s = some v → match s with | .l0 x5out x6i => L0 a0_0 a1 Q x5out x6i H := by
  intro fu
  induction fu with
  | zero => intro s H h; exact absurd h (by cases s <;> simp only [PL] <;> exact nofun)
  | succ fu ih =>
    intro s H
    cases s with
    | l0 x5out x6i =>
      show PL a0_0 a1 (fu + 1) (.l0 x5out x6i) = some v → L0 a0_0 a1 Q x5out x6i H
      rw [PL]
      refine fun h => L0_step (?_ : r0 a0_0 a1 Q x5out x6i H)
      revert h
      unfold r0
      repeat' first | exact lsV hQ | exact lsF | apply lsG | apply lsC | exact fun h => ih _ _ h
theorem ok {a0_0 a1 : List (List AV)} {v : AV} (h : P a0_0 a1 = some v) {H : Heap} {Q : Qt} (hQ : ∀ H, Q v H) : C 18 [.agg [.sl 0 3 a0_0], .sl 0 1 a1] H Q := by
  refine call ?_
  unfold t
  unfold P at h
  obtain ⟨fu, h⟩ := lim_some h
  revert h
  repeat' first | exact lsV hQ | exact lsF | apply lsG | apply lsC | exact fun h => PL_ok hQ _ _ _ h
theorem ls {a0_0 a1 : List (List AV)} {β : Type} {r : β} {H : Heap} {k : AV → Option β} {K : Qt} (h : ∀ w H, k w = some r → K w H) : (P a0_0 a1).bind k = some r → C 18 [.agg [.sl 0 3 a0_0], .sl 0 1 a1] H K := fun e => bind_ls (Cq := fun K => C 18 [.agg [.sl 0 3 a0_0], .sl 0 1 a1] H K) (fun h => ok h) h e
end F18
/-! ### broker/topic.Name: function 20 -/
namespace F20
inductive LS where
  | l0 (it0 : Nat)
noncomputable def PL (a0 : ByteArray) : Nat → LS → Option AV
  | 0, _ => none
  | fu + 1, .l0 it0 =>
    if Nat.blt it0 a0.size then
    (if leI 97 ((Utf8.decode a0 it0).1 : Int) then
      (if !(leI ((Utf8.decode a0 it0).1 : Int) 122) then
        (if eqI (it0 : Int) 0 then
          (some (.bool false))
          else
          (if !(eqI ((Utf8.decode a0 it0).1 : Int) 45) then
            (if ltI ((Utf8.decode a0 it0).1 : Int) 48 then
              (some (.bool false))
              else
              (if ltI 57 ((Utf8.decode a0 it0).1 : Int) then
                (some (.bool false))
                else
                (PL a0 fu (.l0 (it0 + (Utf8.decode a0 it0).2)))))
            else
            (PL a0 fu (.l0 (it0 + (Utf8.decode a0 it0).2)))))
        else
        (PL a0 fu (.l0 (it0 + (Utf8.decode a0 it0).2))))
      else
      (if eqI (it0 : Int) 0 then
        (some (.bool false))
        else
        (if !(eqI ((Utf8.decode a0 it0).1 : Int) 45) then
          (if ltI ((Utf8.decode a0 it0).1 : Int) 48 then
            (some (.bool false))
            else
            (if ltI 57 ((Utf8.decode a0 it0).1 : Int) then
              (some (.bool false))
              else
              (PL a0 fu (.l0 (it0 + (Utf8.decode a0 it0).2)))))
          else
          (PL a0 fu (.l0 (it0 + (Utf8.decode a0 it0).2))))))
    else
    (some (.bool true))
noncomputable def P (a0 : ByteArray) : Option AV := lim fun fu =>
    if ltI (sizeI a0) 1 then
    (some (.bool false))
    else
    (if ltI 16 (sizeI a0) then
      (some (.bool false))
      else
      (PL a0 fu (.l0 0)))
theorem PL_ok {a0 : ByteArray} {Q : Qt} {v : AV} (hQ : ∀ H, Q v H) : ∀ (fu : Nat) (s : LS) (H : Heap), PL a0 fu s = some v → match s with | .l0 it0 => L0 a0 Q it0 H := by
  intro fu
  induction fu with
  | zero => intro s H h; exact absurd h (by cases s <;> simp only [PL] <;> exact nofun)
  | succ fu ih =>
    intro s H
    cases s with
    | l0 it0 =>
      show PL a0 (fu + 1) (.l0 it0) = some v → L0 a0 Q it0 H
      rw [PL]
      refine fun h => L0_step (?_ : r0 a0 Q it0 H)
      revert h
      unfold r0
      repeat' first | exact lsV hQ | exact lsF | apply lsG | apply lsC | exact fun h => ih _ _ h
theorem ok {a0 : ByteArray} {v : AV} (h : P a0 = some v) {H : Heap} {Q : Qt} (hQ : ∀ H, Q v H) : C 20 [.str a0] H Q := by
  refine call ?_
  unfold t
  unfold P at h
  obtain ⟨fu, h⟩ := lim_some h
  revert h
  repeat' first | exact lsV hQ | exact lsF | apply lsG | apply lsC | exact fun h => PL_ok hQ _ _ _ h
theorem ls {a0 : ByteArray} {β : Type} {r : β} {H : Heap} {k : AV → Option β} {K : Qt} (h : ∀ w H, k w = some r → K w H) : (P a0).bind k = some r → C 20 [.str a0] H K := fun e => bind_ls (Cq := fun K => C 20 [.str a0] H K) (fun h => ok h) h e
end F20
/-! ### broker/brokerref01.Same: function 21 -/
namespace F21
inductive LS where
  | l0 (x5i : Int)
noncomputable def PL (a0 a1 : List (List AV)) : Nat → LS → Option AV
  | 0, _ => none
  | fu + 1, .l0 x5i =>
    if ltI x5i (lenI a0) then
    (if leI 0 x5i then (if ltI x5i (lenI a0) then (if (ce (ro a0 x5i.toNat) 0).isStr then (if leI 0 x5i then (if ltI x5i (lenI a1) then (if (ce (ro a1 x5i.toNat) 0).isStr then (if !(eqS ((ce (ro a0 x5i.toNat) 0).toStr) ((ce (ro a1 x5i.toNat) 0).toStr)) then
      (some (.bool false))
      else
      (PL a0 a1 fu (.l0 (addW .i64 x5i 1)))) else none) else none) else none) else none) else none) else none)
    else
    (some (.bool true))
noncomputable def P (a0 a1 : List (List AV)) : Option AV := lim fun fu =>
    if !(eqI (lenI a0) (lenI a1)) then
    (some (.bool false))
    else
    (PL a0 a1 fu (.l0 0))
theorem PL_ok {a0 a1 : List (List AV)} {Q : Qt} {v : AV} (hQ : ∀ H, Q v H) : ∀ (fu : Nat) (s : LS) (H : Heap), PL a0 a1 fu s = some v → match s with | .l0 x5i => L0 a0 a1 Q x5i H := by
  intro fu
  induction fu with
  | zero => intro s H h; exact absurd h (by cases s <;> simp only [PL] <;> exact nofun)
  | succ fu ih =>
    intro s H
    cases s with
    | l0 x5i =>
      show PL a0 a1 (fu + 1) (.l0 x5i) = some v → L0 a0 a1 Q x5i H
      rw [PL]
      refine fun h => L0_step (?_ : r0 a0 a1 Q x5i H)
      revert h
      unfold r0
      repeat' first | exact lsV hQ | exact lsF | apply lsG | apply lsC | exact fun h => ih _ _ h
theorem ok {a0 a1 : List (List AV)} {v : AV} (h : P a0 a1 = some v) {H : Heap} {Q : Qt} (hQ : ∀ H, Q v H) : C 21 [.sl 0 1 a0, .sl 0 1 a1] H Q := by
  refine call ?_
  unfold t
  unfold P at h
  obtain ⟨fu, h⟩ := lim_some h
  revert h
  repeat' first | exact lsV hQ | exact lsF | apply lsG | apply lsC | exact fun h => PL_ok hQ _ _ _ h
theorem ls {a0 a1 : List (List AV)} {β : Type} {r : β} {H : Heap} {k : AV → Option β} {K : Qt} (h : ∀ w H, k w = some r → K w H) : (P a0 a1).bind k = some r → C 21 [.sl 0 1 a0, .sl 0 1 a1] H K := fun e => bind_ls (Cq := fun K => C 21 [.sl 0 1 a0, .sl 0 1 a1] H K) (fun h => ok h) h e
end F21
/-! ### broker/brokerref36.Names: function 22 -/
namespace F22
inductive LS where
  | l0 (x3out : List (List AV)) (x4i : Int)
noncomputable def PL (a0_0 : List (List AV)) : Nat → LS → Option AV
  | 0, _ => none
  | fu + 1, .l0 x3out x4i =>
    if ltI x4i (lenI a0_0) then
    (if leI 0 x4i then (if ltI x4i (lenI a0_0) then (if (ce (ro a0_0 x4i.toNat) 0).isStr then (if room x3out [[.str ((ce (ro a0_0 x4i.toNat) 0).toStr)]] 16 then PL a0_0 fu (.l0 (x3out ++ [[.str ((ce (ro a0_0 x4i.toNat) 0).toStr)]]) (addW .i64 x4i 1)) else none) else none) else none) else none)
    else
    (some (.sl 0 1 x3out))
noncomputable def P (a0_0 : List (List AV)) : Option AV := lim fun fu =>
    PL a0_0 fu (.l0 [] 0)
theorem PL_ok {a0_0 : List (List AV)} {Q : Qt} {v : AV} (hQ : ∀ H, Q v H) : ∀ (fu : Nat) (s : LS) (H : Heap), PL a0_0 fu s = some v → match s with | .l0 x3out x4i => L0 a0_0 Q x3out x4i H := by
  intro fu
  induction fu with
  | zero => intro s H h; exact absurd h (by cases s <;> simp only [PL] <;> exact nofun)
  | succ fu ih =>
    intro s H
    cases s with
    | l0 x3out x4i =>
      show PL a0_0 (fu + 1) (.l0 x3out x4i) = some v → L0 a0_0 Q x3out x4i H
      rw [PL]
      refine fun h => L0_step (?_ : r0 a0_0 Q x3out x4i H)
      revert h
      unfold r0
      repeat' first | exact lsV hQ | exact lsF | apply lsG | apply lsC | exact fun h => ih _ _ h
theorem ok {a0_0 : List (List AV)} {v : AV} (h : P a0_0 = some v) {H : Heap} {Q : Qt} (hQ : ∀ H, Q v H) : C 22 [.agg [.sl 0 3 a0_0]] H Q := by
  refine call ?_
  unfold t
  unfold P at h
  obtain ⟨fu, h⟩ := lim_some h
  revert h
  repeat' first | exact lsV hQ | exact lsF | apply lsG | apply lsC | exact fun h => PL_ok hQ _ _ _ h
theorem ls {a0_0 : List (List AV)} {β : Type} {r : β} {H : Heap} {k : AV → Option β} {K : Qt} (h : ∀ w H, k w = some r → K w H) : (P a0_0).bind k = some r → C 22 [.agg [.sl 0 3 a0_0]] H K := fun e => bind_ls (Cq := fun K => C 22 [.agg [.sl 0 3 a0_0]] H K) (fun h => ok h) h e
end F22
/-! ### broker/brokerref01.lower: function 37 -/
namespace F37
noncomputable def P (a0 : Int) : Option AV :=
    if leI 97 a0 then
    (some (.bool (leI a0 122)))
    else
    (some (.bool false))
theorem ok {a0 : Int} {v : AV} (h : P a0 = some v) {H : Heap} {Q : Qt} (hQ : ∀ H, Q v H) : C 37 [.int .u8 a0] H Q := by
  refine call ?_
  unfold t
  unfold P at h
  revert h
  repeat' first | exact lsV hQ | exact lsF | apply lsG | apply lsC
theorem ls {a0 : Int} {β : Type} {r : β} {H : Heap} {k : AV → Option β} {K : Qt} (h : ∀ w H, k w = some r → K w H) : (P a0).bind k = some r → C 37 [.int .u8 a0] H K := fun e => bind_ls (Cq := fun K => C 37 [.int .u8 a0] H K) (fun h => ok h) h e
end F37
/-! ### broker/brokerref01.digit: function 38 -/
namespace F38
noncomputable def P (a0 : Int) : Option AV :=
    if leI 48 a0 then
    (some (.bool (leI a0 57)))
    else
    (some (.bool false))
theorem ok {a0 : Int} {v : AV} (h : P a0 = some v) {H : Heap} {Q : Qt} (hQ : ∀ H, Q v H) : C 38 [.int .u8 a0] H Q := by
  refine call ?_
  unfold t
  unfold P at h
  revert h
  repeat' first | exact lsV hQ | exact lsF | apply lsG | apply lsC
theorem ls {a0 : Int} {β : Type} {r : β} {H : Heap} {k : AV → Option β} {K : Qt} (h : ∀ w H, k w = some r → K w H) : (P a0).bind k = some r → C 38 [.int .u8 a0] H K := fun e => bind_ls (Cq := fun K => C 38 [.int .u8 a0] H K) (fun h => ok h) h e
end F38
/-! ### broker/brokerref01.Name: function 31 -/
namespace F31
inductive LS where
  | lR1 (x17 : Bool)
  | l0 (x3i : Int)
  | lR6 (x3i : Int) (x41 : Bool)
noncomputable def PL (a0 : ByteArray) : Nat → LS → Option AV
  | 0, _ => none
  | fu + 1, .lR1 x17 =>
    if x17 then
    (some (.bool false))
    else
    (PL a0 fu (.l0 0))
  | fu + 1, .l0 x3i =>
    if ltI x3i (sizeI a0) then
    (if leI 0 x3i then (if ltI x3i (sizeI a0) then ((F37.P (bt a0 x3i)).bind fun v_3 =>
      if (v_3).isBool then (if !((v_3).toBool) then
        (if leI 0 x3i then (if ltI x3i (sizeI a0) then ((F38.P (bt a0 x3i)).bind fun v_5 =>
          if (v_5).isBool then (if !((v_5).toBool) then
            (if leI 0 x3i then (if ltI x3i (sizeI a0) then PL a0 fu (.lR6 x3i (!(eqI (bt a0 x3i) 45))) else none) else none)
            else
            (PL a0 fu (.lR6 x3i false))) else none) else none) else none)
        else
        (PL a0 fu (.lR6 x3i false))) else none) else none) else none)
    else
    (some (.bool true))
  | fu + 1, .lR6 x3i x41 =>
    if x41 then
    (some (.bool false))
    else
    (PL a0 fu (.l0 (addW .i64 x3i 1)))
noncomputable def P (a0 : ByteArray) : Option AV := lim fun fu =>
    if ltI (sizeI a0) 1 then
    (PL a0 fu (.lR1 true))
    else
    (if ltI 16 (sizeI a0) then
      (PL a0 fu (.lR1 true))
      else
      (if ltI 0 (sizeI a0) then ((F37.P (bt a0 0)).bind fun v_1 =>
        if (v_1).isBool then PL a0 fu (.lR1 (!((v_1).toBool))) else none) else none))
theorem PL_ok {a0 : ByteArray} {Q : Qt} {v : AV} (hQ : ∀ H, Q v H) : ∀ (fu : Nat) (s : LS) (H : Heap), PL a0 fu s = some v → match s with | .lR1 x17 => JR1 a0 Q x17 H | .l0 x3i => L0 a0 Q x3i H | .lR6 x3i x41 => JR6 a0 Q x3i x41 H := by
  intro fu
  induction fu with
  | zero => intro s H h; exact absurd h (by cases s <;> simp only [PL] <;> exact nofun)
  | succ fu ih =>
    intro s H
    cases s with
    | lR1 x17 =>
      show PL a0 (fu + 1) (.lR1 x17) = some v → JR1 a0 Q x17 H
      rw [PL]
      refine fun h => JR1_step (?_ : jR1 a0 Q x17 H)
      revert h
      unfold jR1
      repeat' first | exact lsV hQ | exact lsF | apply lsG | apply lsC | exact fun h => ih _ _ h
    | l0 x3i =>
      show PL a0 (fu + 1) (.l0 x3i) = some v → L0 a0 Q x3i H
      rw [PL]
      refine fun h => L0_step (?_ : r0 a0 Q x3i H)
      revert h
      unfold r0
      repeat' first | exact lsV hQ | exact lsF | apply lsG | apply lsC | refine impP (F37.ls fun _ _ => ?_) | refine impP (F38.ls fun _ _ => ?_) | exact fun h => ih _ _ h
    | lR6 x3i x41 =>
      show PL a0 (fu + 1) (.lR6 x3i x41) = some v → JR6 a0 Q x3i x41 H
      rw [PL]
      refine fun h => JR6_step (?_ : jR6 a0 Q x3i x41 H)
      revert h
      unfold jR6
      repeat' first | exact lsV hQ | exact lsF | apply lsG | apply lsC | exact fun h => ih _ _ h
theorem ok {a0 : ByteArray} {v : AV} (h : P a0 = some v) {H : Heap} {Q : Qt} (hQ : ∀ H, Q v H) : C 31 [.str a0] H Q := by
  refine call ?_
  unfold t
  unfold P at h
  obtain ⟨fu, h⟩ := lim_some h
  revert h
  repeat' first | exact lsV hQ | exact lsF | apply lsG | apply lsC | refine impP (F37.ls fun _ _ => ?_) | exact fun h => PL_ok hQ _ _ _ h
theorem ls {a0 : ByteArray} {β : Type} {r : β} {H : Heap} {k : AV → Option β} {K : Qt} (h : ∀ w H, k w = some r → K w H) : (P a0).bind k = some r → C 31 [.str a0] H K := fun e => bind_ls (Cq := fun K => C 31 [.str a0] H K) (fun h => ok h) h e
end F31
/-! ### broker/brokerref36.At: function 32 -/
namespace F32
inductive LS where
  | l0 (x5i : Int)
noncomputable def PL (a0_0 : List (List AV)) (a1 : ByteArray) : Nat → LS → Option AV
  | 0, _ => none
  | fu + 1, .l0 x5i =>
    if ltI x5i (lenI a0_0) then
    (if leI 0 x5i then (if ltI x5i (lenI a0_0) then (if (ce (ro a0_0 x5i.toNat) 0).isStr then (if eqS ((ce (ro a0_0 x5i.toNat) 0).toStr) a1 then
      (some (.int .i64 x5i))
      else
      (PL a0_0 a1 fu (.l0 (addW .i64 x5i 1)))) else none) else none) else none)
    else
    (some (.int .i64 (-1)))
noncomputable def P (a0_0 : List (List AV)) (a1 : ByteArray) : Option AV := lim fun fu =>
    PL a0_0 a1 fu (.l0 0)
theorem PL_ok {a0_0 : List (List AV)} {a1 : ByteArray} {Q : Qt} {v : AV} (hQ : ∀ H, Q v H) : ∀ (fu : Nat) (s : LS) (H : Heap), PL a0_0 a1 fu s = some v → match s with | .l0 x5i => L0 a0_0 a1 Q x5i H := by
  intro fu
  induction fu with
  | zero => intro s H h; exact absurd h (by cases s <;> simp only [PL] <;> exact nofun)
  | succ fu ih =>
    intro s H
    cases s with
    | l0 x5i =>
      show PL a0_0 a1 (fu + 1) (.l0 x5i) = some v → L0 a0_0 a1 Q x5i H
      rw [PL]
      refine fun h => L0_step (?_ : r0 a0_0 a1 Q x5i H)
      revert h
      unfold r0
      repeat' first | exact lsV hQ | exact lsF | apply lsG | apply lsC | exact fun h => ih _ _ h
theorem ok {a0_0 : List (List AV)} {a1 : ByteArray} {v : AV} (h : P a0_0 a1 = some v) {H : Heap} {Q : Qt} (hQ : ∀ H, Q v H) : C 32 [.agg [.sl 0 3 a0_0], .str a1] H Q := by
  refine call ?_
  unfold t
  unfold P at h
  obtain ⟨fu, h⟩ := lim_some h
  revert h
  repeat' first | exact lsV hQ | exact lsF | apply lsG | apply lsC | exact fun h => PL_ok hQ _ _ _ h
theorem ls {a0_0 : List (List AV)} {a1 : ByteArray} {β : Type} {r : β} {H : Heap} {k : AV → Option β} {K : Qt} (h : ∀ w H, k w = some r → K w H) : (P a0_0 a1).bind k = some r → C 32 [.agg [.sl 0 3 a0_0], .str a1] H K := fun e => bind_ls (Cq := fun K => C 32 [.agg [.sl 0 3 a0_0], .str a1] H K) (fun h => ok h) h e
end F32
/-! ### broker/brokerref36.Without: function 34 -/
namespace F34
inductive LS where
  | l0 (x5out : List (List AV)) (x6i : Int)
noncomputable def PL (a0_0 : List (List AV)) (a1 : ByteArray) : Nat → LS → Option AV
  | 0, _ => none
  | fu + 1, .l0 x5out x6i =>
    if ltI x6i (lenI a0_0) then
    (if leI 0 x6i then (if ltI x6i (lenI a0_0) then (if (ce (ro a0_0 x6i.toNat) 0).isStr then (if !(eqS ((ce (ro a0_0 x6i.toNat) 0).toStr) a1) then
      (if leI 0 x6i then (if ltI x6i (lenI a0_0) then (if (ce (ro a0_0 x6i.toNat) 0).isStr then (if (ce (ro a0_0 x6i.toNat) 1).isStr then (if (ce (ro a0_0 x6i.toNat) 2).isInt .i64 then (if room x5out [[.str ((ce (ro a0_0 x6i.toNat) 0).toStr), .str ((ce (ro a0_0 x6i.toNat) 1).toStr), .int .i64 ((ce (ro a0_0 x6i.toNat) 2).toInt)]] 40 then PL a0_0 a1 fu (.l0 (x5out ++ [[.str ((ce (ro a0_0 x6i.toNat) 0).toStr), .str ((ce (ro a0_0 x6i.toNat) 1).toStr), .int .i64 ((ce (ro a0_0 x6i.toNat) 2).toInt)]]) (addW .i64 x6i 1)) else none) else none) else none) else none) else none) else none)
      else
      (PL a0_0 a1 fu (.l0 x5out (addW .i64 x6i 1)))) else none) else none) else none)
    else
    (some (.agg [.sl 0 3 x5out]))
noncomputable def P (a0_0 : List (List AV)) (a1 : ByteArray) : Option AV := lim fun fu =>
    PL a0_0 a1 fu (.l0 [] 0)
theorem PL_ok {a0_0 : List (List AV)} {a1 : ByteArray} {Q : Qt} {v : AV} (hQ : ∀ H, Q v H) : ∀ (fu : Nat) (s : LS) (H : Heap), PL a0_0 a1 fu s = some v → match s with | .l0 x5out x6i => L0 a0_0 a1 Q x5out x6i H := by
  intro fu
  induction fu with
  | zero => intro s H h; exact absurd h (by cases s <;> simp only [PL] <;> exact nofun)
  | succ fu ih =>
    intro s H
    cases s with
    | l0 x5out x6i =>
      show PL a0_0 a1 (fu + 1) (.l0 x5out x6i) = some v → L0 a0_0 a1 Q x5out x6i H
      rw [PL]
      refine fun h => L0_step (?_ : r0 a0_0 a1 Q x5out x6i H)
      revert h
      unfold r0
      repeat' first | exact lsV hQ | exact lsF | apply lsG | apply lsC | exact fun h => ih _ _ h
theorem ok {a0_0 : List (List AV)} {a1 : ByteArray} {v : AV} (h : P a0_0 a1 = some v) {H : Heap} {Q : Qt} (hQ : ∀ H, Q v H) : C 34 [.agg [.sl 0 3 a0_0], .str a1] H Q := by
  refine call ?_
  unfold t
  unfold P at h
  obtain ⟨fu, h⟩ := lim_some h
  revert h
  repeat' first | exact lsV hQ | exact lsF | apply lsG | apply lsC | exact fun h => PL_ok hQ _ _ _ h
theorem ls {a0_0 : List (List AV)} {a1 : ByteArray} {β : Type} {r : β} {H : Heap} {k : AV → Option β} {K : Qt} (h : ∀ w H, k w = some r → K w H) : (P a0_0 a1).bind k = some r → C 34 [.agg [.sl 0 3 a0_0], .str a1] H K := fun e => bind_ls (Cq := fun K => C 34 [.agg [.sl 0 3 a0_0], .str a1] H K) (fun h => ok h) h e
end F34
/-! ### broker/brokerref36.With: function 33 -/
namespace F33
inductive LS where
  | l0 (x5rest x6out : List (List AV)) (x7i : Int)
  | l1 (x5rest x6out : List (List AV)) (x8i : Int)
noncomputable def PL (a0_0 : List (List AV)) (a1_0 a1_1 : ByteArray) (a1_2 : Int) : Nat → LS → Option AV
  | 0, _ => none
  | fu + 1, .l0 x5rest x6out x7i =>
    if ltI x7i (lenI x5rest) then
    (if leI 0 x7i then (if ltI x7i (lenI x5rest) then (if (ce (ro x5rest x7i.toNat) 0).isStr then (if ltS ((ce (ro x5rest x7i.toNat) 0).toStr) a1_0 then
      (if leI 0 x7i then (if ltI x7i (lenI x5rest) then (if (ce (ro x5rest x7i.toNat) 0).isStr then (if (ce (ro x5rest x7i.toNat) 1).isStr then (if (ce (ro x5rest x7i.toNat) 2).isInt .i64 then (if room x6out [[.str ((ce (ro x5rest x7i.toNat) 0).toStr), .str ((ce (ro x5rest x7i.toNat) 1).toStr), .int .i64 ((ce (ro x5rest x7i.toNat) 2).toInt)]] 40 then PL a0_0 a1_0 a1_1 a1_2 fu (.l0 x5rest (x6out ++ [[.str ((ce (ro x5rest x7i.toNat) 0).toStr), .str ((ce (ro x5rest x7i.toNat) 1).toStr), .int .i64 ((ce (ro x5rest x7i.toNat) 2).toInt)]]) (addW .i64 x7i 1)) else none) else none) else none) else none) else none) else none)
      else
      (PL a0_0 a1_0 a1_1 a1_2 fu (.l0 x5rest x6out (addW .i64 x7i 1)))) else none) else none) else none)
    else
    (if room x6out [[.str a1_0, .str a1_1, .int .i64 a1_2]] 40 then PL a0_0 a1_0 a1_1 a1_2 fu (.l1 x5rest (x6out ++ [[.str a1_0, .str a1_1, .int .i64 a1_2]]) 0) else none)
  | fu + 1, .l1 x5rest x6out x8i =>
    if ltI x8i (lenI x5rest) then
    (if leI 0 x8i then (if ltI x8i (lenI x5rest) then (if (ce (ro x5rest x8i.toNat) 0).isStr then (if ltS a1_0 ((ce (ro x5rest x8i.toNat) 0).toStr) then
      (if leI 0 x8i then (if ltI x8i (lenI x5rest) then (if (ce (ro x5rest x8i.toNat) 0).isStr then (if (ce (ro x5rest x8i.toNat) 1).isStr then (if (ce (ro x5rest x8i.toNat) 2).isInt .i64 then (if room x6out [[.str ((ce (ro x5rest x8i.toNat) 0).toStr), .str ((ce (ro x5rest x8i.toNat) 1).toStr), .int .i64 ((ce (ro x5rest x8i.toNat) 2).toInt)]] 40 then PL a0_0 a1_0 a1_1 a1_2 fu (.l1 x5rest (x6out ++ [[.str ((ce (ro x5rest x8i.toNat) 0).toStr), .str ((ce (ro x5rest x8i.toNat) 1).toStr), .int .i64 ((ce (ro x5rest x8i.toNat) 2).toInt)]]) (addW .i64 x8i 1)) else none) else none) else none) else none) else none) else none)
      else
      (PL a0_0 a1_0 a1_1 a1_2 fu (.l1 x5rest x6out (addW .i64 x8i 1)))) else none) else none) else none)
    else
    (some (.agg [.sl 0 3 x6out]))
noncomputable def P (a0_0 : List (List AV)) (a1_0 a1_1 : ByteArray) (a1_2 : Int) : Option AV := lim fun fu =>
    (F34.P a0_0 a1_0).bind fun v_1 =>
    if ((v_1).isAgg && Nat.beq (v_1).aggCs.length 1) then (if (((v_1).aggCs).headD .any).isSl 3 then PL a0_0 a1_0 a1_1 a1_2 fu (.l0 ((((v_1).aggCs).headD .any).slXs) [] 0) else none) else none
theorem PL_ok {a0_0 : List (List AV)} {a1_0 a1_1 : ByteArray} {a1_2 : Int} {Q : Qt} {v : AV} (hQ : ∀ H, Q v H) : ∀ (fu : Nat) (s : LS) (H : Heap), PL a0_0 a1_0 a1_1 a1_2 fu s = some v → match s with | .l0 x5rest x6out x7i => L0 a0_0 a1_0 a1_1 a1_2 Q x5rest x6out x7i H | .l1 x5rest x6out x8i => L1 a0_0 a1_0 a1_1 a1_2 Q x5rest x6out x8i H := by
  intro fu
  induction fu with
  | zero => intro s H h; exact absurd h (by cases s <;> simp only [PL] <;> exact nofun)
  | succ fu ih =>
    intro s H
    cases s with
    | l0 x5rest x6out x7i =>
      show PL a0_0 a1_0 a1_1 a1_2 (fu + 1) (.l0 x5rest x6out x7i) = some v → L0 a0_0 a1_0 a1_1 a1_2 Q x5rest x6out x7i H
      rw [PL]
      refine fun h => L0_step (?_ : r0 a0_0 a1_0 a1_1 a1_2 Q x5rest x6out x7i H)
      revert h
      unfold r0
      repeat' first | exact lsV hQ | exact lsF | apply lsG | apply lsC | exact fun h => ih _ _ h
    | l1 x5rest x6out x8i =>
      show PL a0_0 a1_0 a1_1 a1_2 (fu + 1) (.l1 x5rest x6out x8i) = some v → L1 a0_0 a1_0 a1_1 a1_2 Q x5rest x6out x8i H
      rw [PL]
      refine fun h => L1_step (?_ : r1 a0_0 a1_0 a1_1 a1_2 Q x5rest x6out x8i H)
      revert h
      unfold r1
      repeat' first | exact lsV hQ | exact lsF | apply lsG | apply lsC | exact fun h => ih _ _ h
theorem ok {a0_0 : List (List AV)} {a1_0 a1_1 : ByteArray} {a1_2 : Int} {v : AV} (h : P a0_0 a1_0 a1_1 a1_2 = some v) {H : Heap} {Q : Qt} (hQ : ∀ H, Q v H) : C 33 [.agg [.sl 0 3 a0_0], .agg [.str a1_0, .str a1_1, .int .i64 a1_2]] H Q := by
  refine call ?_
  unfold t
  unfold P at h
  obtain ⟨fu, h⟩ := lim_some h
  revert h
  repeat' first | exact lsV hQ | exact lsF | apply lsG | apply lsC | refine impP (F34.ls fun _ _ => ?_) | exact fun h => PL_ok hQ _ _ _ h
theorem ls {a0_0 : List (List AV)} {a1_0 a1_1 : ByteArray} {a1_2 : Int} {β : Type} {r : β} {H : Heap} {k : AV → Option β} {K : Qt} (h : ∀ w H, k w = some r → K w H) : (P a0_0 a1_0 a1_1 a1_2).bind k = some r → C 33 [.agg [.sl 0 3 a0_0], .agg [.str a1_0, .str a1_1, .int .i64 a1_2]] H K := fun e => bind_ls (Cq := fun K => C 33 [.agg [.sl 0 3 a0_0], .agg [.str a1_0, .str a1_1, .int .i64 a1_2]] H K) (fun h => ok h) h e
end F33
/-! ### broker/brokerref36.Append: function 23 -/
namespace F23
noncomputable def P (a0_0 : List (List AV)) (a1 : ByteArray) (a2 : List (List AV)) : Option AV :=
    (F31.P a1).bind fun v_1 =>
    if (v_1).isBool then (if !((v_1).toBool) then
      (some (.tup [.agg [.sl 0 3 a0_0], .int .i64 11]))
      else
      ((F32.P a0_0 a1).bind fun v_3 =>
        if (v_3).isInt .i64 then (if leI 0 ((v_3).toInt) then
          (if leI 0 ((v_3).toInt) then (if ltI ((v_3).toInt) (lenI a0_0) then (if (ce (ro a0_0 (((v_3).toInt).toNat)) 0).isStr then (if (ce (ro a0_0 (((v_3).toInt).toNat)) 1).isStr then (if (ce (ro a0_0 (((v_3).toInt).toNat)) 2).isInt .i64 then (if ltI 65536 (addW .i64 (sizeI ((ce (ro a0_0 (((v_3).toInt).toNat)) 1).toStr)) (lenI a2)) then
            (some (.tup [.agg [.sl 0 3 a0_0], .int .i64 6]))
            else
            ((unbytes a2).bind fun s_5 =>
              if Nat.ble (((ce (ro a0_0 (((v_3).toInt).toNat)) 1).toStr).size + s_5.size) 9223372036854775807 then ((F33.P a0_0 ((ce (ro a0_0 (((v_3).toInt).toNat)) 0).toStr) (((ce (ro a0_0 (((v_3).toInt).toNat)) 1).toStr) ++ s_5) ((ce (ro a0_0 (((v_3).toInt).toNat)) 2).toInt)).bind fun v_6 =>
                if ((v_6).isAgg && Nat.beq (v_6).aggCs.length 1) then (if (((v_6).aggCs).headD .any).isSl 3 then some (.tup [.agg [.sl 0 3 ((((v_6).aggCs).headD .any).slXs)], .int .i64 0]) else none) else none) else none)) else none) else none) else none) else none) else none)
          else
          (if ltI 65536 (addW .i64 0 (lenI a2)) then
            (some (.tup [.agg [.sl 0 3 a0_0], .int .i64 6]))
            else
            ((unbytes a2).bind fun s_8 =>
              if Nat.ble ((⟨#[]⟩ : ByteArray).size + s_8.size) 9223372036854775807 then ((F33.P a0_0 a1 ((⟨#[]⟩ : ByteArray) ++ s_8) 0).bind fun v_9 =>
                if ((v_9).isAgg && Nat.beq (v_9).aggCs.length 1) then (if (((v_9).aggCs).headD .any).isSl 3 then some (.tup [.agg [.sl 0 3 ((((v_9).aggCs).headD .any).slXs)], .int .i64 0]) else none) else none) else none))) else none)) else none
theorem ok {a0_0 : List (List AV)} {a1 : ByteArray} {a2 : List (List AV)} {v : AV} (h : P a0_0 a1 a2 = some v) {H : Heap} {Q : Qt} (hQ : ∀ H, Q v H) : C 23 [.agg [.sl 0 3 a0_0], .str a1, .sl 0 1 a2] H Q := by
  refine call ?_
  unfold t
  unfold P at h
  revert h
  repeat' first | exact lsV hQ | exact lsF | apply lsG | apply lsC | refine impP (F31.ls fun _ _ => ?_) | refine impP (F32.ls fun _ _ => ?_) | refine impP (F33.ls fun _ _ => ?_) | refine lsEx fun _ _ => ?_
theorem ls {a0_0 : List (List AV)} {a1 : ByteArray} {a2 : List (List AV)} {β : Type} {r : β} {H : Heap} {k : AV → Option β} {K : Qt} (h : ∀ w H, k w = some r → K w H) : (P a0_0 a1 a2).bind k = some r → C 23 [.agg [.sl 0 3 a0_0], .str a1, .sl 0 1 a2] H K := fun e => bind_ls (Cq := fun K => C 23 [.agg [.sl 0 3 a0_0], .str a1, .sl 0 1 a2] H K) (fun h => ok h) h e
end F23
/-! ### broker/brokerref36.Sync: function 24 -/
namespace F24
noncomputable def P (a0_0 : List (List AV)) (a1 : ByteArray) : Option AV :=
    (F32.P a0_0 a1).bind fun v_1 =>
    if (v_1).isInt .i64 then (if ltI ((v_1).toInt) 0 then
      (some (.tup [.agg [.sl 0 3 a0_0], .int .i64 8]))
      else
      (if leI 0 ((v_1).toInt) then (if ltI ((v_1).toInt) (lenI a0_0) then (if (ce (ro a0_0 (((v_1).toInt).toNat)) 0).isStr then (if (ce (ro a0_0 (((v_1).toInt).toNat)) 1).isStr then (if (ce (ro a0_0 (((v_1).toInt).toNat)) 2).isInt .i64 then ((F33.P a0_0 ((ce (ro a0_0 (((v_1).toInt).toNat)) 0).toStr) ((ce (ro a0_0 (((v_1).toInt).toNat)) 1).toStr) (sizeI ((ce (ro a0_0 (((v_1).toInt).toNat)) 1).toStr))).bind fun v_3 =>
        if ((v_3).isAgg && Nat.beq (v_3).aggCs.length 1) then (if (((v_3).aggCs).headD .any).isSl 3 then some (.tup [.agg [.sl 0 3 ((((v_3).aggCs).headD .any).slXs)], .int .i64 0]) else none) else none) else none) else none) else none) else none) else none)) else none
theorem ok {a0_0 : List (List AV)} {a1 : ByteArray} {v : AV} (h : P a0_0 a1 = some v) {H : Heap} {Q : Qt} (hQ : ∀ H, Q v H) : C 24 [.agg [.sl 0 3 a0_0], .str a1] H Q := by
  refine call ?_
  unfold t
  unfold P at h
  revert h
  repeat' first | exact lsV hQ | exact lsF | apply lsG | apply lsC | refine impP (F32.ls fun _ _ => ?_) | refine impP (F33.ls fun _ _ => ?_)
theorem ls {a0_0 : List (List AV)} {a1 : ByteArray} {β : Type} {r : β} {H : Heap} {k : AV → Option β} {K : Qt} (h : ∀ w H, k w = some r → K w H) : (P a0_0 a1).bind k = some r → C 24 [.agg [.sl 0 3 a0_0], .str a1] H K := fun e => bind_ls (Cq := fun K => C 24 [.agg [.sl 0 3 a0_0], .str a1] H K) (fun h => ok h) h e
end F24
/-! ### broker/brokerref36.Rename: function 26 -/
namespace F26
noncomputable def P (a0_0 : List (List AV)) (a1 a2 : ByteArray) : Option AV :=
    (F32.P a0_0 a1).bind fun v_1 =>
    if (v_1).isInt .i64 then (if ltI ((v_1).toInt) 0 then
      (some (.tup [.agg [.sl 0 3 a0_0], .int .i64 8]))
      else
      ((F31.P a2).bind fun v_3 =>
        if (v_3).isBool then (if !((v_3).toBool) then
          (some (.tup [.agg [.sl 0 3 a0_0], .int .i64 11]))
          else
          (if leI 0 ((v_1).toInt) then (if ltI ((v_1).toInt) (lenI a0_0) then (if (ce (ro a0_0 (((v_1).toInt).toNat)) 0).isStr then (if (ce (ro a0_0 (((v_1).toInt).toNat)) 1).isStr then (if (ce (ro a0_0 (((v_1).toInt).toNat)) 2).isInt .i64 then ((F34.P a0_0 a1).bind fun v_5 =>
            if ((v_5).isAgg && Nat.beq (v_5).aggCs.length 1) then (if (((v_5).aggCs).headD .any).isSl 3 then ((F33.P ((((v_5).aggCs).headD .any).slXs) a2 ((ce (ro a0_0 (((v_1).toInt).toNat)) 1).toStr) ((ce (ro a0_0 (((v_1).toInt).toNat)) 2).toInt)).bind fun v_7 =>
              if ((v_7).isAgg && Nat.beq (v_7).aggCs.length 1) then (if (((v_7).aggCs).headD .any).isSl 3 then some (.tup [.agg [.sl 0 3 ((((v_7).aggCs).headD .any).slXs)], .int .i64 0]) else none) else none) else none) else none) else none) else none) else none) else none) else none)) else none)) else none
theorem ok {a0_0 : List (List AV)} {a1 a2 : ByteArray} {v : AV} (h : P a0_0 a1 a2 = some v) {H : Heap} {Q : Qt} (hQ : ∀ H, Q v H) : C 26 [.agg [.sl 0 3 a0_0], .str a1, .str a2] H Q := by
  refine call ?_
  unfold t
  unfold P at h
  revert h
  repeat' first | exact lsV hQ | exact lsF | apply lsG | apply lsC | refine impP (F31.ls fun _ _ => ?_) | refine impP (F32.ls fun _ _ => ?_) | refine impP (F33.ls fun _ _ => ?_) | refine impP (F34.ls fun _ _ => ?_)
theorem ls {a0_0 : List (List AV)} {a1 a2 : ByteArray} {β : Type} {r : β} {H : Heap} {k : AV → Option β} {K : Qt} (h : ∀ w H, k w = some r → K w H) : (P a0_0 a1 a2).bind k = some r → C 26 [.agg [.sl 0 3 a0_0], .str a1, .str a2] H K := fun e => bind_ls (Cq := fun K => C 26 [.agg [.sl 0 3 a0_0], .str a1, .str a2] H K) (fun h => ok h) h e
end F26
/-! ### broker/brokerref36.Remove: function 28 -/
namespace F28
noncomputable def P (a0_0 : List (List AV)) (a1 : ByteArray) : Option AV :=
    (F32.P a0_0 a1).bind fun v_1 =>
    if (v_1).isInt .i64 then (if ltI ((v_1).toInt) 0 then
      (some (.tup [.agg [.sl 0 3 a0_0], .int .i64 8]))
      else
      ((F34.P a0_0 a1).bind fun v_3 =>
        if ((v_3).isAgg && Nat.beq (v_3).aggCs.length 1) then (if (((v_3).aggCs).headD .any).isSl 3 then some (.tup [.agg [.sl 0 3 ((((v_3).aggCs).headD .any).slXs)], .int .i64 0]) else none) else none)) else none
theorem ok {a0_0 : List (List AV)} {a1 : ByteArray} {v : AV} (h : P a0_0 a1 = some v) {H : Heap} {Q : Qt} (hQ : ∀ H, Q v H) : C 28 [.agg [.sl 0 3 a0_0], .str a1] H Q := by
  refine call ?_
  unfold t
  unfold P at h
  revert h
  repeat' first | exact lsV hQ | exact lsF | apply lsG | apply lsC | refine impP (F32.ls fun _ _ => ?_) | refine impP (F34.ls fun _ _ => ?_)
theorem ls {a0_0 : List (List AV)} {a1 : ByteArray} {β : Type} {r : β} {H : Heap} {k : AV → Option β} {K : Qt} (h : ∀ w H, k w = some r → K w H) : (P a0_0 a1).bind k = some r → C 28 [.agg [.sl 0 3 a0_0], .str a1] H K := fun e => bind_ls (Cq := fun K => C 28 [.agg [.sl 0 3 a0_0], .str a1] H K) (fun h => ok h) h e
end F28
/-! ### broker/brokerref36.Read: function 29 -/
namespace F29
noncomputable def P (a0_0 : List (List AV)) (a1 : ByteArray) : Option AV :=
    (F32.P a0_0 a1).bind fun v_1 =>
    if (v_1).isInt .i64 then (if ltI ((v_1).toInt) 0 then
      (some (.tup [.nilsl, .int .i64 8]))
      else
      (if leI 0 ((v_1).toInt) then (if ltI ((v_1).toInt) (lenI a0_0) then (if (ce (ro a0_0 (((v_1).toInt).toNat)) 1).isStr then (if Nat.ble ((ce (ro a0_0 (((v_1).toInt).toNat)) 1).toStr).size 9223372036854775807 then some (.tup [.sl 0 1 (bytesAV ((ce (ro a0_0 (((v_1).toInt).toNat)) 1).toStr)), .int .i64 0]) else none) else none) else none) else none)) else none
theorem ok {a0_0 : List (List AV)} {a1 : ByteArray} {v : AV} (h : P a0_0 a1 = some v) {H : Heap} {Q : Qt} (hQ : ∀ H, Q v H) : C 29 [.agg [.sl 0 3 a0_0], .str a1] H Q := by
  refine call ?_
  unfold t
  unfold P at h
  revert h
  repeat' first | exact lsV hQ | exact lsF | apply lsG | apply lsC | refine impP (F32.ls fun _ _ => ?_)
theorem ls {a0_0 : List (List AV)} {a1 : ByteArray} {β : Type} {r : β} {H : Heap} {k : AV → Option β} {K : Qt} (h : ∀ w H, k w = some r → K w H) : (P a0_0 a1).bind k = some r → C 29 [.agg [.sl 0 3 a0_0], .str a1] H K := fun e => bind_ls (Cq := fun K => C 29 [.agg [.sl 0 3 a0_0], .str a1] H K) (fun h => ok h) h e
end F29
end Go.Proofs.Ytbkkhhmjmbbfpaa.Ab
