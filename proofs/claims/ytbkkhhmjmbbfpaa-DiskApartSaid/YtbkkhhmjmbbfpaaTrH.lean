/- PRINTED by abx.py: functions over objects. -/
import Derived.Test.YtbkkhhmjmbbfpaaTrP
import Derived.Test.YtbkkhhmjmbbfpaaDkH
namespace Go.Proofs.Ytbkkhhmjmbbfpaa.Ab
open Go
set_option maxRecDepth 100000
set_option maxHeartbeats 4000000
set_option linter.unusedVariables false
/-! ### broker/brokerlaw36.awake: function 8 -/
namespace F8
noncomputable def P  : Option (AV) :=
    NewD.B [] Sg.empty fun v_1 g_1 =>
    if (v_1).isObj then
      (AppD.B [.obj ((v_1).objJ) 0, .str (⟨#[102]⟩ : ByteArray), .sl 0 1 [[.int .u8 97], [.int .u8 98], [.int .u8 99], [.int .u8 100]]] g_1 fun v_3 g_2 =>
        if (v_3).isInt .i64 then (if !(eqI ((v_3).toInt) 0) then
          (some (.bool false))
          else
          (SyncD.B [.obj ((v_1).objJ) 0, .str (⟨#[102]⟩ : ByteArray)] g_2 fun v_5 g_3 =>
            if (v_5).isInt .i64 then (if !(eqI ((v_5).toInt) 0) then
              (some (.bool false))
              else
              (AppD.B [.obj ((v_1).objJ) 0, .str (⟨#[102]⟩ : ByteArray), .sl 0 1 [[.int .u8 120], [.int .u8 121], [.int .u8 122]]] g_3 fun v_7 g_4 =>
                if (v_7).isInt .i64 then (if !(eqI ((v_7).toInt) 0) then
                  (some (.bool false))
                  else
                  (CrashD.B [.obj ((v_1).objJ) 0, .sl 0 1 [[.int .i64 2]]] g_4 fun v_9 g_5 =>
                    if ((v_9).isTup && Nat.beq (v_9).tupVs.length 0) then (ReadD.B [.obj ((v_1).objJ) 0, .str (⟨#[102]⟩ : ByteArray)] g_5 fun v_11 g_6 =>
                      if ((v_11).isTup && Nat.beq (v_11).tupVs.length 2) then (if (((v_11).tupVs).headD .any).isSl 1 then (if ((((v_11).tupVs).tail).headD .any).isInt .i64 then ((unbytes ((((v_11).tupVs).headD .any).slXs)).bind fun s_13 =>
                        if eqS s_13 (⟨#[97, 98, 99, 100, 120, 121]⟩ : ByteArray) then
                          (if eqI (((((v_11).tupVs).tail).headD .any).toInt) 0 then
                            (NamesD.B [.obj ((v_1).objJ) 0] g_6 fun v_14 g_7 =>
                              if (v_14).isSl 1 then some (.bool (eqI (lenI ((v_14).slXs)) 1)) else none)
                            else
                            (some (.bool false)))
                          else
                          (some (.bool false))) else none) else none) else none) else none)) else none)) else none)) else none)
      else
      (if (v_1).isNilp then some (.bool false) else none)
theorem ok  {Q : Qt} {v : AV} (hQ : ∀ H, Q v H) {H : Heap} (h : P  = some v) : C 8 [] H Q := by
  refine call ?_
  unfold t
  unfold P at h
  revert h
  have hH : HR Sg.empty H := HR.empty H
  repeat' first | exact lsV hQ | exact lsF | apply lsG | apply lsC | refine lsEx fun _ _ => ?_ | refine AppD.ls (by first | assumption | (repeat apply HR.past); assumption) fun _ _ _ _ => ?_ | refine CrashD.ls (by first | assumption | (repeat apply HR.past); assumption) fun _ _ _ _ => ?_ | refine NamesD.ls (by first | assumption | (repeat apply HR.past); assumption) fun _ _ _ _ => ?_ | refine NewD.ls (by first | assumption | (repeat apply HR.past); assumption) fun _ _ _ _ => ?_ | refine ReadD.ls (by first | assumption | (repeat apply HR.past); assumption) fun _ _ _ _ => ?_ | refine SyncD.ls (by first | assumption | (repeat apply HR.past); assumption) fun _ _ _ _ => ?_
theorem ls {β : Type} {r : β}  {H : Heap} {k : AV → Option β} {K : Qt} (h : ∀ w H1, HR Sg.empty H1 → k w = some r → K w H1) : (P ).bind k = some r → C 8 [] H K := by
  intro e
  cases hp : P  with
  | none => rw [hp] at e; cases e
  | some w => rw [hp] at e; exact ok (fun H1 => h _ H1 (HR.empty H1) e) hp
end F8
/-! ### broker/brokerlaw36.DiskSafe: function 3 -/
namespace F3
noncomputable def P (a0 a1 : List (List AV)) (a2 : Int) : Option (AV) :=
    if ltI 400 (lenI a0) then
    ((F8.P).bind fun v_1 =>
      if (v_1).isBool then some (.bool ((v_1).toBool)) else none)
    else
    (if ltI 400 (lenI a1) then
      ((F8.P).bind fun v_3 =>
        if (v_3).isBool then some (.bool ((v_3).toBool)) else none)
      else
      (NewD.B [] Sg.empty fun v_5 g_1 =>
        if (v_5).isObj then
          (AppD.B [.obj ((v_5).objJ) 0, .str (⟨#[102]⟩ : ByteArray), .sl 0 1 a0] g_1 fun v_7 g_2 =>
            if (v_7).isInt .i64 then (if !(eqI ((v_7).toInt) 0) then
              (some (.bool false))
              else
              (SyncD.B [.obj ((v_5).objJ) 0, .str (⟨#[102]⟩ : ByteArray)] g_2 fun v_9 g_3 =>
                if (v_9).isInt .i64 then (if !(eqI ((v_9).toInt) 0) then
                  (some (.bool false))
                  else
                  (AppD.B [.obj ((v_5).objJ) 0, .str (⟨#[102]⟩ : ByteArray), .sl 0 1 a1] g_3 fun v_11 g_4 =>
                    if (v_11).isInt .i64 then (if !(eqI ((v_11).toInt) 0) then
                      (some (.bool false))
                      else
                      (if ltI a2 0 then
                        (if ltI (lenI a1) 0 then
                          (CrashD.B [.obj ((v_5).objJ) 0, .sl 0 1 [[.int .i64 a2]]] g_4 fun v_13 g_5 =>
                            if ((v_13).isTup && Nat.beq (v_13).tupVs.length 0) then (ReadD.B [.obj ((v_5).objJ) 0, .str (⟨#[102]⟩ : ByteArray)] g_5 fun v_15 g_6 =>
                              if ((v_15).isTup && Nat.beq (v_15).tupVs.length 2) then (if (((v_15).tupVs).headD .any).isSl 1 then (if ((((v_15).tupVs).tail).headD .any).isInt .i64 then (if eqI (((((v_15).tupVs).tail).headD .any).toInt) 0 then
                                ((unbytes ((((v_15).tupVs).headD .any).slXs)).bind fun s_17 =>
                                  (unbytes a0).bind fun s_18 =>
                                    if leI 0 (lenI a1) then (if leI (lenI a1) (lenI a1) then (if leI (lenI a1) (lenI a1) then ((unbytes ((a1.take ((lenI a1).toNat)).drop 0)).bind fun s_19 =>
                                      if Nat.ble (s_18.size + s_19.size) 9223372036854775807 then (if eqS s_17 (s_18 ++ s_19) then
                                        ((F8.P).bind fun v_20 =>
                                          if (v_20).isBool then some (.bool ((v_20).toBool)) else none)
                                        else
                                        (some (.bool false))) else none) else none) else none) else none)
                                else
                                (some (.bool false))) else none) else none) else none) else none)
                          else
                          (CrashD.B [.obj ((v_5).objJ) 0, .sl 0 1 [[.int .i64 a2]]] g_4 fun v_22 g_7 =>
                            if ((v_22).isTup && Nat.beq (v_22).tupVs.length 0) then (ReadD.B [.obj ((v_5).objJ) 0, .str (⟨#[102]⟩ : ByteArray)] g_7 fun v_24 g_8 =>
                              if ((v_24).isTup && Nat.beq (v_24).tupVs.length 2) then (if (((v_24).tupVs).headD .any).isSl 1 then (if ((((v_24).tupVs).tail).headD .any).isInt .i64 then (if eqI (((((v_24).tupVs).tail).headD .any).toInt) 0 then
                                ((unbytes ((((v_24).tupVs).headD .any).slXs)).bind fun s_26 =>
                                  (unbytes a0).bind fun s_27 =>
                                    if leI 0 (lenI a1) then ((unbytes ((a1.take 0).drop 0)).bind fun s_28 =>
                                      if Nat.ble (s_27.size + s_28.size) 9223372036854775807 then (if eqS s_26 (s_27 ++ s_28) then
                                        ((F8.P).bind fun v_29 =>
                                          if (v_29).isBool then some (.bool ((v_29).toBool)) else none)
                                        else
                                        (some (.bool false))) else none) else none)
                                else
                                (some (.bool false))) else none) else none) else none) else none))
                        else
                        (if ltI (lenI a1) a2 then
                          (CrashD.B [.obj ((v_5).objJ) 0, .sl 0 1 [[.int .i64 a2]]] g_4 fun v_31 g_9 =>
                            if ((v_31).isTup && Nat.beq (v_31).tupVs.length 0) then (ReadD.B [.obj ((v_5).objJ) 0, .str (⟨#[102]⟩ : ByteArray)] g_9 fun v_33 g_10 =>
                              if ((v_33).isTup && Nat.beq (v_33).tupVs.length 2) then (if (((v_33).tupVs).headD .any).isSl 1 then (if ((((v_33).tupVs).tail).headD .any).isInt .i64 then (if eqI (((((v_33).tupVs).tail).headD .any).toInt) 0 then
                                ((unbytes ((((v_33).tupVs).headD .any).slXs)).bind fun s_35 =>
                                  (unbytes a0).bind fun s_36 =>
                                    if leI 0 (lenI a1) then (if leI (lenI a1) (lenI a1) then (if leI (lenI a1) (lenI a1) then ((unbytes ((a1.take ((lenI a1).toNat)).drop 0)).bind fun s_37 =>
                                      if Nat.ble (s_36.size + s_37.size) 9223372036854775807 then (if eqS s_35 (s_36 ++ s_37) then
                                        ((F8.P).bind fun v_38 =>
                                          if (v_38).isBool then some (.bool ((v_38).toBool)) else none)
                                        else
                                        (some (.bool false))) else none) else none) else none) else none)
                                else
                                (some (.bool false))) else none) else none) else none) else none)
                          else
                          (CrashD.B [.obj ((v_5).objJ) 0, .sl 0 1 [[.int .i64 a2]]] g_4 fun v_40 g_11 =>
                            if ((v_40).isTup && Nat.beq (v_40).tupVs.length 0) then (ReadD.B [.obj ((v_5).objJ) 0, .str (⟨#[102]⟩ : ByteArray)] g_11 fun v_42 g_12 =>
                              if ((v_42).isTup && Nat.beq (v_42).tupVs.length 2) then (if (((v_42).tupVs).headD .any).isSl 1 then (if ((((v_42).tupVs).tail).headD .any).isInt .i64 then (if eqI (((((v_42).tupVs).tail).headD .any).toInt) 0 then
                                ((unbytes ((((v_42).tupVs).headD .any).slXs)).bind fun s_44 =>
                                  (unbytes a0).bind fun s_45 =>
                                    if leI 0 a2 then (if leI a2 a2 then (if leI a2 (lenI a1) then ((unbytes ((a1.take a2.toNat).drop 0)).bind fun s_46 =>
                                      if Nat.ble (s_45.size + s_46.size) 9223372036854775807 then (if eqS s_44 (s_45 ++ s_46) then
                                        ((F8.P).bind fun v_47 =>
                                          if (v_47).isBool then some (.bool ((v_47).toBool)) else none)
                                        else
                                        (some (.bool false))) else none) else none) else none) else none)
                                else
                                (some (.bool false))) else none) else none) else none) else none)))) else none)) else none)) else none)
          else
          (if (v_5).isNilp then some (.bool false) else none)))
theorem ok {a0 a1 : List (List AV)} {a2 : Int} {Q : Qt} {v : AV} (hQ : ∀ H, Q v H) {H : Heap} (h : P a0 a1 a2 = some v) : C 3 [.sl 0 1 a0, .sl 0 1 a1, .int .i64 a2] H Q := by
  refine call ?_
  unfold t
  unfold P at h
  revert h
  have hH : HR Sg.empty H := HR.empty H
  repeat' first | exact lsV hQ | exact lsF | apply lsG | apply lsC | refine lsEx fun _ _ => ?_ | refine F8.ls fun _ _ _ => ?_ | refine AppD.ls (by first | assumption | (repeat apply HR.past); assumption) fun _ _ _ _ => ?_ | refine CrashD.ls (by first | assumption | (repeat apply HR.past); assumption) fun _ _ _ _ => ?_ | refine NewD.ls (by first | assumption | (repeat apply HR.past); assumption) fun _ _ _ _ => ?_ | refine ReadD.ls (by first | assumption | (repeat apply HR.past); assumption) fun _ _ _ _ => ?_ | refine SyncD.ls (by first | assumption | (repeat apply HR.past); assumption) fun _ _ _ _ => ?_
theorem ls {β : Type} {r : β} {a0 a1 : List (List AV)} {a2 : Int} {H : Heap} {k : AV → Option β} {K : Qt} (h : ∀ w H1, HR Sg.empty H1 → k w = some r → K w H1) : (P a0 a1 a2).bind k = some r → C 3 [.sl 0 1 a0, .sl 0 1 a1, .int .i64 a2] H K := by
  intro e
  cases hp : P a0 a1 a2 with
  | none => rw [hp] at e; cases e
  | some w => rw [hp] at e; exact ok (fun H1 => h _ H1 (HR.empty H1) e) hp
end F3
/-! ### broker/brokerlaw36.DiskFull: function 4 -/
namespace F4
inductive LS where
  | l0 (x3dj : Nat) (x5total x6i : Int) (g : Sg)
  | lR14 (x2 : Bool) (g : Sg)
def LS.gh : LS → Sg
  | .l0 _ _ _ g => g
  | .lR14 _ g => g
noncomputable def PL (a0 : Int) : Nat → LS → Option (AV)
  | 0, _ => none
  | fu + 1, .l0 x3dj x5total x6i g =>
    if ltI x6i 17 then
    (AppD.B [.obj x3dj 0, .str (⟨#[102]⟩ : ByteArray), .sl 0 1 (List.replicate a0.toNat ([.int .u8 0] : List AV))] g fun v_7 g_1 =>
      if (v_7).isInt .i64 then (if ltI 65536 (addW .i64 x5total a0) then
        (ReadD.B [.obj x3dj 0, .str (⟨#[102]⟩ : ByteArray)] g_1 fun v_9 g_2 =>
          if ((v_9).isTup && Nat.beq (v_9).tupVs.length 2) then (if (((v_9).tupVs).headD .any).isSl 1 then (if ((((v_9).tupVs).tail).headD .any).isInt .i64 then (if eqI ((v_7).toInt) 6 then
            (if eqI (((((v_9).tupVs).tail).headD .any).toInt) 0 then
              (if eqI (lenI ((((v_9).tupVs).headD .any).slXs)) x5total then
                ((F8.P).bind fun v_11 =>
                  if (v_11).isBool then PL a0 fu (.lR14 ((v_11).toBool) Sg.empty) else none)
                else
                (PL a0 fu (.lR14 false g_2)))
              else
              (PL a0 fu (.lR14 false g_2)))
            else
            (PL a0 fu (.lR14 false g_2))) else none) else none) else none)
        else
        (if !(eqI ((v_7).toInt) 0) then
          (some (.bool false))
          else
          (PL a0 fu (.l0 x3dj (addW .i64 x5total a0) (addW .i64 x6i 1) g_1)))) else none)
    else
    (some (.bool false))
  | fu + 1, .lR14 x2 g =>
    some (.bool x2)
noncomputable def P (a0 : Int) : Option (AV) := lim fun fu =>
    if ltI a0 4096 then
    ((F8.P).bind fun v_1 =>
      if (v_1).isBool then some (.bool ((v_1).toBool)) else none)
    else
    (if ltI 8192 a0 then
      ((F8.P).bind fun v_3 =>
        if (v_3).isBool then some (.bool ((v_3).toBool)) else none)
      else
      (NewD.B [] Sg.empty fun v_5 g_3 =>
        if (v_5).isObj then
          (if leI 0 a0 then (if eqI a0 a0 then (if roomN a0 1 then PL a0 fu (.l0 ((v_5).objJ) 0 0 g_3) else none) else none) else none)
          else
          (if (v_5).isNilp then some (.bool false) else none)))
theorem PL_ok {a0 : Int} {Q : Qt} {v : AV} (hQ : ∀ H, Q v H) : ∀ (fu : Nat) (s : LS) (H : Heap), HR s.gh H → PL a0 fu s = some v → match s with | .l0 x3dj x5total x6i _ => L0 a0 Q x3dj x5total x6i H | .lR14 x2 _ => JR14 a0 Q x2 H := by
  intro fu
  induction fu with
  | zero => intro s H _ h; exact absurd h (by cases s <;> simp only [PL] <;> exact nofun)
  | succ fu ih =>
    intro s H hH
    cases s with
    | l0 x3dj x5total x6i g =>
      have hH : HR g H := hH
      show PL a0 (fu + 1) (.l0 x3dj x5total x6i g) = some v → L0 a0 Q x3dj x5total x6i H
      rw [PL]
      refine fun h => L0_step (?_ : r0 a0 Q x3dj x5total x6i H)
      revert h
      unfold r0
      repeat' first | exact lsV hQ | exact lsF | apply lsG | apply lsC | refine F8.ls fun _ _ _ => ?_ | refine AppD.ls (by first | assumption | (repeat apply HR.past); assumption) fun _ _ _ _ => ?_ | refine ReadD.ls (by first | assumption | (repeat apply HR.past); assumption) fun _ _ _ _ => ?_ | exact fun h => ih _ _ (show HR _ _ by first | assumption | (repeat apply HR.past); assumption) h
    | lR14 x2 g =>
      have hH : HR g H := hH
      show PL a0 (fu + 1) (.lR14 x2 g) = some v → JR14 a0 Q x2 H
      rw [PL]
      refine fun h => JR14_step (?_ : jR14 a0 Q x2 H)
      revert h
      unfold jR14
      repeat' first | exact lsV hQ | exact lsF | apply lsG | apply lsC | exact fun h => ih _ _ (show HR _ _ by first | assumption | (repeat apply HR.past); assumption) h
theorem ok {a0 : Int} {Q : Qt} {v : AV} (hQ : ∀ H, Q v H) {H : Heap} (h : P a0 = some v) : C 4 [.int .i64 a0] H Q := by
  refine call ?_
  unfold t
  unfold P at h
  obtain ⟨fu, h⟩ := lim_some h
  revert h
  have hH : HR Sg.empty H := HR.empty H
  repeat' first | exact lsV hQ | exact lsF | apply lsG | apply lsC | refine F8.ls fun _ _ _ => ?_ | refine NewD.ls (by first | assumption | (repeat apply HR.past); assumption) fun _ _ _ _ => ?_ | exact fun h => PL_ok hQ _ _ _ (show HR _ _ by first | assumption | (repeat apply HR.past); assumption) h
theorem ls {β : Type} {r : β} {a0 : Int} {H : Heap} {k : AV → Option β} {K : Qt} (h : ∀ w H1, HR Sg.empty H1 → k w = some r → K w H1) : (P a0).bind k = some r → C 4 [.int .i64 a0] H K := by
  intro e
  cases hp : P a0 with
  | none => rw [hp] at e; cases e
  | some w => rw [hp] at e; exact ok (fun H1 => h _ H1 (HR.empty H1) e) hp
end F4
/-! ### broker/brokerlaw36.same: function 16 -/
namespace F16
inductive LS where
  | l0 (x5i : Int) (g : Sg)
def LS.gh : LS → Sg
  | .l0 _ g => g
noncomputable def PL (a0j : Nat) (a1_0 : List (List AV)) : Nat → LS → Option (AV × Sg)
  | 0, _ => none
  | fu + 1, .l0 x5i g =>
    if ltI x5i (lenI a1_0) then
    (if leI 0 x5i then (if ltI x5i (lenI a1_0) then (if (ce (ro a1_0 x5i.toNat) 0).isStr then (ReadD.B [.obj a0j 0, .str ((ce (ro a1_0 x5i.toNat) 0).toStr)] g fun v_13 g_1 =>
      if ((v_13).isTup && Nat.beq (v_13).tupVs.length 2) then (if (((v_13).tupVs).headD .any).isSl 1 then (if ((((v_13).tupVs).tail).headD .any).isInt .i64 then ((unbytes ((((v_13).tupVs).headD .any).slXs)).bind fun s_15 =>
        if leI 0 x5i then (if ltI x5i (lenI a1_0) then (if (ce (ro a1_0 x5i.toNat) 1).isStr then (if !(eqS s_15 ((ce (ro a1_0 x5i.toNat) 1).toStr)) then
          (some (.bool false, g_1))
          else
          (if !(eqI (((((v_13).tupVs).tail).headD .any).toInt) 0) then
            (some (.bool false, g_1))
            else
            (PL a0j a1_0 fu (.l0 (addW .i64 x5i 1) g_1)))) else none) else none) else none) else none) else none) else none) else none) else none) else none)
    else
    (some (.bool true, g))
noncomputable def P (a0j : Nat) (a1_0 : List (List AV)) (g0 : Sg) : Option (AV × Sg) := lim fun fu =>
    allB
    (NamesD.B [.obj a0j 0] g0 fun v_1 g_2 =>
      if (v_1).isSl 1 then ((F22.P a1_0).bind fun v_3 =>
        if (v_3).isSl 1 then ((F21.P ((v_1).slXs) ((v_3).slXs)).bind fun v_5 =>
          if (v_5).isBool then (if !((v_5).toBool) then
            (some (.bool false, g_2))
            else
            (PL a0j a1_0 fu (.l0 0 g_2))) else none) else none) else none)
    (NamesD.B [.obj a0j 0] g0 fun v_7 g_3 =>
      if (v_7).isSl 1 then ((F22.P a1_0).bind fun v_9 =>
        if (v_9).isSl 1 then ((F21.P ((v_7).slXs) ((v_9).slXs)).bind fun v_11 =>
          if (v_11).isBool then (if !((v_11).toBool) then
            (some (.bool false, g_3))
            else
            (PL a0j a1_0 fu (.l0 0 g_3))) else none) else none) else none)
theorem PL_ok {a0j : Nat} {a1_0 : List (List AV)} {Q : Qt} {v : AV} {g1 : Sg} (hQ : ∀ H, HR g1 H → Q v H) : ∀ (fu : Nat) (s : LS) (H : Heap), HR s.gh H → PL a0j a1_0 fu s = some (v, g1) → match s with | .l0 x5i _ => L0 a0j a1_0 Q x5i H := by
  intro fu
  induction fu with
  | zero => intro s H _ h; exact absurd h (by cases s <;> simp only [PL] <;> exact nofun)
  | succ fu ih =>
    intro s H hH
    cases s with
    | l0 x5i g =>
      have hH : HR g H := hH
      show PL a0j a1_0 (fu + 1) (.l0 x5i g) = some (v, g1) → L0 a0j a1_0 Q x5i H
      rw [PL]
      refine fun h => L0_step (?_ : r0 a0j a1_0 Q x5i H)
      revert h
      unfold r0
      repeat' first | exact lsW hQ (by first | assumption | (repeat apply HR.past); assumption) | exact lsF | apply lsG | apply lsC | refine lsEx fun _ _ => ?_ | refine lsAnd ?_ ?_ | refine ReadD.ls (by first | assumption | (repeat apply HR.past); assumption) fun _ _ _ _ => ?_ | exact fun h => ih _ _ (show HR _ _ by first | assumption | (repeat apply HR.past); assumption) h
theorem ok {a0j : Nat} {a1_0 : List (List AV)} {g0 : Sg} {Q : Qt} {v : AV} {g1 : Sg} (hQ : ∀ H, HR g1 H → Q v H) {H : Heap} (hH : HR g0 H) (h : P a0j a1_0 g0 = some (v, g1)) : C 16 [.obj a0j 0, .agg [.sl 0 3 a1_0]] H Q := by
  refine call ?_
  unfold t
  unfold P at h
  obtain ⟨fu, h⟩ := lim_some h
  revert h
  repeat' first | exact lsW hQ (by first | assumption | (repeat apply HR.past); assumption) | exact lsF | apply lsG | apply lsC | refine lsEx fun _ _ => ?_ | refine lsAnd ?_ ?_ | refine NamesD.ls (by first | assumption | (repeat apply HR.past); assumption) fun _ _ _ _ => ?_ | refine impP (F21.ls fun _ _ => ?_) | refine impP (F22.ls fun _ _ => ?_) | exact fun h => PL_ok hQ _ _ _ (show HR _ _ by first | assumption | (repeat apply HR.past); assumption) h
noncomputable def B {β : Type} (a0j : Nat) (a1_0 : List (List AV)) (g0 : Sg) (k : AV → Sg → Option β) : Option β := (P a0j a1_0 g0).bind fun r => k r.1 r.2
theorem ls {β : Type} {r : β} {a0j : Nat} {a1_0 : List (List AV)} {g0 : Sg} {H : Heap} {k : AV → Sg → Option β} {K : Qt} (hH : HR g0 H) (h : ∀ w g1 H1, HR g1 H1 → k w g1 = some r → K w H1) : B a0j a1_0 g0 k = some r → C 16 [.obj a0j 0, .agg [.sl 0 3 a1_0]] H K := by
  intro e
  unfold B at e
  cases hp : P a0j a1_0 g0 with
  | none => rw [hp] at e; cases e
  | some w => rw [hp] at e; exact ok (fun H1 h1 => h _ _ H1 h1 e) hH hp
end F16
/-! ### broker/brokerlaw36.do: function 17 -/
namespace F17
noncomputable def P (a0j : Nat) (a1_0 : List (List AV)) (a2_0 : Int) (a2_1 a2_2 : ByteArray) (a2_3 a2_4 : List (List AV)) (g0 : Sg) : Option (AV × Sg) :=
    if eqI (Int.tmod a2_0 8) 0 then
    (if eqI (Int.tmod a2_0 8) 0 then
      (AppD.B [.obj a0j 0, .str a2_1, .sl 0 1 a2_3] g0 fun v_1 g_1 =>
        if (v_1).isInt .i64 then ((F23.P a1_0 a2_1 a2_3).bind fun v_3 =>
          if ((v_3).isTup && Nat.beq (v_3).tupVs.length 2) then (if ((((v_3).tupVs).headD .any).isAgg && Nat.beq (((v_3).tupVs).headD .any).aggCs.length 1) then (if (((((v_3).tupVs).headD .any).aggCs).headD .any).isSl 3 then (if ((((v_3).tupVs).tail).headD .any).isInt .i64 then some (.tup [.agg [.sl 0 3 ((((((v_3).tupVs).headD .any).aggCs).headD .any).slXs)], .bool (eqI ((v_1).toInt) (((((v_3).tupVs).tail).headD .any).toInt))], g_1) else none) else none) else none) else none) else none)
      else
      (if eqI (Int.tmod a2_0 8) 3 then
        (SyncD.B [.obj a0j 0, .str a2_1] g0 fun v_5 g_2 =>
          if (v_5).isInt .i64 then ((F24.P a1_0 a2_1).bind fun v_7 =>
            if ((v_7).isTup && Nat.beq (v_7).tupVs.length 2) then (if ((((v_7).tupVs).headD .any).isAgg && Nat.beq (((v_7).tupVs).headD .any).aggCs.length 1) then (if (((((v_7).tupVs).headD .any).aggCs).headD .any).isSl 3 then (if ((((v_7).tupVs).tail).headD .any).isInt .i64 then some (.tup [.agg [.sl 0 3 ((((((v_7).tupVs).headD .any).aggCs).headD .any).slXs)], .bool (eqI ((v_5).toInt) (((((v_7).tupVs).tail).headD .any).toInt))], g_2) else none) else none) else none) else none) else none)
        else
        (if eqI (Int.tmod a2_0 8) 4 then
          (RenD.B [.obj a0j 0, .str a2_1, .str a2_2] g0 fun v_9 g_3 =>
            if (v_9).isInt .i64 then ((F26.P a1_0 a2_1 a2_2).bind fun v_11 =>
              if ((v_11).isTup && Nat.beq (v_11).tupVs.length 2) then (if ((((v_11).tupVs).headD .any).isAgg && Nat.beq (((v_11).tupVs).headD .any).aggCs.length 1) then (if (((((v_11).tupVs).headD .any).aggCs).headD .any).isSl 3 then (if ((((v_11).tupVs).tail).headD .any).isInt .i64 then some (.tup [.agg [.sl 0 3 ((((((v_11).tupVs).headD .any).aggCs).headD .any).slXs)], .bool (eqI ((v_9).toInt) (((((v_11).tupVs).tail).headD .any).toInt))], g_3) else none) else none) else none) else none) else none)
          else
          (if eqI (Int.tmod a2_0 8) 5 then
            (RemD.B [.obj a0j 0, .str a2_1] g0 fun v_13 g_4 =>
              if (v_13).isInt .i64 then ((F28.P a1_0 a2_1).bind fun v_15 =>
                if ((v_15).isTup && Nat.beq (v_15).tupVs.length 2) then (if ((((v_15).tupVs).headD .any).isAgg && Nat.beq (((v_15).tupVs).headD .any).aggCs.length 1) then (if (((((v_15).tupVs).headD .any).aggCs).headD .any).isSl 3 then (if ((((v_15).tupVs).tail).headD .any).isInt .i64 then some (.tup [.agg [.sl 0 3 ((((((v_15).tupVs).headD .any).aggCs).headD .any).slXs)], .bool (eqI ((v_13).toInt) (((((v_15).tupVs).tail).headD .any).toInt))], g_4) else none) else none) else none) else none) else none)
            else
            (if eqI (Int.tmod a2_0 8) 6 then
              (ReadD.B [.obj a0j 0, .str a2_1] g0 fun v_17 g_5 =>
                if ((v_17).isTup && Nat.beq (v_17).tupVs.length 2) then (if (((v_17).tupVs).headD .any).isSl 1 then (if ((((v_17).tupVs).tail).headD .any).isInt .i64 then ((F29.P a1_0 a2_1).bind fun v_19 =>
                  if ((v_19).isTup && Nat.beq (v_19).tupVs.length 2) then (if (((v_19).tupVs).headD .any).isSl 1 then (if ((((v_19).tupVs).tail).headD .any).isInt .i64 then ((unbytes ((((v_17).tupVs).headD .any).slXs)).bind fun s_21 =>
                    (unbytes ((((v_19).tupVs).headD .any).slXs)).bind fun s_22 =>
                      if eqS s_21 s_22 then
                        (some (.tup [.agg [.sl 0 3 a1_0], .bool (eqI (((((v_17).tupVs).tail).headD .any).toInt) (((((v_19).tupVs).tail).headD .any).toInt))], g_5))
                        else
                        (some (.tup [.agg [.sl 0 3 a1_0], .bool false], g_5))) else none) else none) else none) else none) else none) else none)
              else
              (CrashD.B [.obj a0j 0, .sl 0 1 a2_4] g0 fun v_23 g_6 =>
                if ((v_23).isTup && Nat.beq (v_23).tupVs.length 0) then ((F18.P a1_0 a2_4).bind fun v_25 =>
                  if ((v_25).isAgg && Nat.beq (v_25).aggCs.length 1) then (if (((v_25).aggCs).headD .any).isSl 3 then some (.tup [.agg [.sl 0 3 ((((v_25).aggCs).headD .any).slXs)], .bool true], g_6) else none) else none) else none))))))
    else
    (if eqI (Int.tmod a2_0 8) 1 then
      (if eqI (Int.tmod a2_0 8) 1 then
        (AppD.B [.obj a0j 0, .str a2_1, .sl 0 1 a2_3] g0 fun v_27 g_7 =>
          if (v_27).isInt .i64 then ((F23.P a1_0 a2_1 a2_3).bind fun v_29 =>
            if ((v_29).isTup && Nat.beq (v_29).tupVs.length 2) then (if ((((v_29).tupVs).headD .any).isAgg && Nat.beq (((v_29).tupVs).headD .any).aggCs.length 1) then (if (((((v_29).tupVs).headD .any).aggCs).headD .any).isSl 3 then (if ((((v_29).tupVs).tail).headD .any).isInt .i64 then some (.tup [.agg [.sl 0 3 ((((((v_29).tupVs).headD .any).aggCs).headD .any).slXs)], .bool (eqI ((v_27).toInt) (((((v_29).tupVs).tail).headD .any).toInt))], g_7) else none) else none) else none) else none) else none)
        else
        (if eqI (Int.tmod a2_0 8) 3 then
          (SyncD.B [.obj a0j 0, .str a2_1] g0 fun v_31 g_8 =>
            if (v_31).isInt .i64 then ((F24.P a1_0 a2_1).bind fun v_33 =>
              if ((v_33).isTup && Nat.beq (v_33).tupVs.length 2) then (if ((((v_33).tupVs).headD .any).isAgg && Nat.beq (((v_33).tupVs).headD .any).aggCs.length 1) then (if (((((v_33).tupVs).headD .any).aggCs).headD .any).isSl 3 then (if ((((v_33).tupVs).tail).headD .any).isInt .i64 then some (.tup [.agg [.sl 0 3 ((((((v_33).tupVs).headD .any).aggCs).headD .any).slXs)], .bool (eqI ((v_31).toInt) (((((v_33).tupVs).tail).headD .any).toInt))], g_8) else none) else none) else none) else none) else none)
          else
          (if eqI (Int.tmod a2_0 8) 4 then
            (RenD.B [.obj a0j 0, .str a2_1, .str a2_2] g0 fun v_35 g_9 =>
              if (v_35).isInt .i64 then ((F26.P a1_0 a2_1 a2_2).bind fun v_37 =>
                if ((v_37).isTup && Nat.beq (v_37).tupVs.length 2) then (if ((((v_37).tupVs).headD .any).isAgg && Nat.beq (((v_37).tupVs).headD .any).aggCs.length 1) then (if (((((v_37).tupVs).headD .any).aggCs).headD .any).isSl 3 then (if ((((v_37).tupVs).tail).headD .any).isInt .i64 then some (.tup [.agg [.sl 0 3 ((((((v_37).tupVs).headD .any).aggCs).headD .any).slXs)], .bool (eqI ((v_35).toInt) (((((v_37).tupVs).tail).headD .any).toInt))], g_9) else none) else none) else none) else none) else none)
            else
            (if eqI (Int.tmod a2_0 8) 5 then
              (RemD.B [.obj a0j 0, .str a2_1] g0 fun v_39 g_10 =>
                if (v_39).isInt .i64 then ((F28.P a1_0 a2_1).bind fun v_41 =>
                  if ((v_41).isTup && Nat.beq (v_41).tupVs.length 2) then (if ((((v_41).tupVs).headD .any).isAgg && Nat.beq (((v_41).tupVs).headD .any).aggCs.length 1) then (if (((((v_41).tupVs).headD .any).aggCs).headD .any).isSl 3 then (if ((((v_41).tupVs).tail).headD .any).isInt .i64 then some (.tup [.agg [.sl 0 3 ((((((v_41).tupVs).headD .any).aggCs).headD .any).slXs)], .bool (eqI ((v_39).toInt) (((((v_41).tupVs).tail).headD .any).toInt))], g_10) else none) else none) else none) else none) else none)
              else
              (if eqI (Int.tmod a2_0 8) 6 then
                (ReadD.B [.obj a0j 0, .str a2_1] g0 fun v_43 g_11 =>
                  if ((v_43).isTup && Nat.beq (v_43).tupVs.length 2) then (if (((v_43).tupVs).headD .any).isSl 1 then (if ((((v_43).tupVs).tail).headD .any).isInt .i64 then ((F29.P a1_0 a2_1).bind fun v_45 =>
                    if ((v_45).isTup && Nat.beq (v_45).tupVs.length 2) then (if (((v_45).tupVs).headD .any).isSl 1 then (if ((((v_45).tupVs).tail).headD .any).isInt .i64 then ((unbytes ((((v_43).tupVs).headD .any).slXs)).bind fun s_47 =>
                      (unbytes ((((v_45).tupVs).headD .any).slXs)).bind fun s_48 =>
                        if eqS s_47 s_48 then
                          (some (.tup [.agg [.sl 0 3 a1_0], .bool (eqI (((((v_43).tupVs).tail).headD .any).toInt) (((((v_45).tupVs).tail).headD .any).toInt))], g_11))
                          else
                          (some (.tup [.agg [.sl 0 3 a1_0], .bool false], g_11))) else none) else none) else none) else none) else none) else none)
                else
                (CrashD.B [.obj a0j 0, .sl 0 1 a2_4] g0 fun v_49 g_12 =>
                  if ((v_49).isTup && Nat.beq (v_49).tupVs.length 0) then ((F18.P a1_0 a2_4).bind fun v_51 =>
                    if ((v_51).isAgg && Nat.beq (v_51).aggCs.length 1) then (if (((v_51).aggCs).headD .any).isSl 3 then some (.tup [.agg [.sl 0 3 ((((v_51).aggCs).headD .any).slXs)], .bool true], g_12) else none) else none) else none))))))
      else
      (if eqI (Int.tmod a2_0 8) 2 then
        (AppD.B [.obj a0j 0, .str a2_1, .sl 0 1 a2_3] g0 fun v_53 g_13 =>
          if (v_53).isInt .i64 then ((F23.P a1_0 a2_1 a2_3).bind fun v_55 =>
            if ((v_55).isTup && Nat.beq (v_55).tupVs.length 2) then (if ((((v_55).tupVs).headD .any).isAgg && Nat.beq (((v_55).tupVs).headD .any).aggCs.length 1) then (if (((((v_55).tupVs).headD .any).aggCs).headD .any).isSl 3 then (if ((((v_55).tupVs).tail).headD .any).isInt .i64 then some (.tup [.agg [.sl 0 3 ((((((v_55).tupVs).headD .any).aggCs).headD .any).slXs)], .bool (eqI ((v_53).toInt) (((((v_55).tupVs).tail).headD .any).toInt))], g_13) else none) else none) else none) else none) else none)
        else
        (if eqI (Int.tmod a2_0 8) 3 then
          (SyncD.B [.obj a0j 0, .str a2_1] g0 fun v_57 g_14 =>
            if (v_57).isInt .i64 then ((F24.P a1_0 a2_1).bind fun v_59 =>
              if ((v_59).isTup && Nat.beq (v_59).tupVs.length 2) then (if ((((v_59).tupVs).headD .any).isAgg && Nat.beq (((v_59).tupVs).headD .any).aggCs.length 1) then (if (((((v_59).tupVs).headD .any).aggCs).headD .any).isSl 3 then (if ((((v_59).tupVs).tail).headD .any).isInt .i64 then some (.tup [.agg [.sl 0 3 ((((((v_59).tupVs).headD .any).aggCs).headD .any).slXs)], .bool (eqI ((v_57).toInt) (((((v_59).tupVs).tail).headD .any).toInt))], g_14) else none) else none) else none) else none) else none)
          else
          (if eqI (Int.tmod a2_0 8) 4 then
            (RenD.B [.obj a0j 0, .str a2_1, .str a2_2] g0 fun v_61 g_15 =>
              if (v_61).isInt .i64 then ((F26.P a1_0 a2_1 a2_2).bind fun v_63 =>
                if ((v_63).isTup && Nat.beq (v_63).tupVs.length 2) then (if ((((v_63).tupVs).headD .any).isAgg && Nat.beq (((v_63).tupVs).headD .any).aggCs.length 1) then (if (((((v_63).tupVs).headD .any).aggCs).headD .any).isSl 3 then (if ((((v_63).tupVs).tail).headD .any).isInt .i64 then some (.tup [.agg [.sl 0 3 ((((((v_63).tupVs).headD .any).aggCs).headD .any).slXs)], .bool (eqI ((v_61).toInt) (((((v_63).tupVs).tail).headD .any).toInt))], g_15) else none) else none) else none) else none) else none)
            else
            (if eqI (Int.tmod a2_0 8) 5 then
              (RemD.B [.obj a0j 0, .str a2_1] g0 fun v_65 g_16 =>
                if (v_65).isInt .i64 then ((F28.P a1_0 a2_1).bind fun v_67 =>
                  if ((v_67).isTup && Nat.beq (v_67).tupVs.length 2) then (if ((((v_67).tupVs).headD .any).isAgg && Nat.beq (((v_67).tupVs).headD .any).aggCs.length 1) then (if (((((v_67).tupVs).headD .any).aggCs).headD .any).isSl 3 then (if ((((v_67).tupVs).tail).headD .any).isInt .i64 then some (.tup [.agg [.sl 0 3 ((((((v_67).tupVs).headD .any).aggCs).headD .any).slXs)], .bool (eqI ((v_65).toInt) (((((v_67).tupVs).tail).headD .any).toInt))], g_16) else none) else none) else none) else none) else none)
              else
              (if eqI (Int.tmod a2_0 8) 6 then
                (ReadD.B [.obj a0j 0, .str a2_1] g0 fun v_69 g_17 =>
                  if ((v_69).isTup && Nat.beq (v_69).tupVs.length 2) then (if (((v_69).tupVs).headD .any).isSl 1 then (if ((((v_69).tupVs).tail).headD .any).isInt .i64 then ((F29.P a1_0 a2_1).bind fun v_71 =>
                    if ((v_71).isTup && Nat.beq (v_71).tupVs.length 2) then (if (((v_71).tupVs).headD .any).isSl 1 then (if ((((v_71).tupVs).tail).headD .any).isInt .i64 then ((unbytes ((((v_69).tupVs).headD .any).slXs)).bind fun s_73 =>
                      (unbytes ((((v_71).tupVs).headD .any).slXs)).bind fun s_74 =>
                        if eqS s_73 s_74 then
                          (some (.tup [.agg [.sl 0 3 a1_0], .bool (eqI (((((v_69).tupVs).tail).headD .any).toInt) (((((v_71).tupVs).tail).headD .any).toInt))], g_17))
                          else
                          (some (.tup [.agg [.sl 0 3 a1_0], .bool false], g_17))) else none) else none) else none) else none) else none) else none)
                else
                (CrashD.B [.obj a0j 0, .sl 0 1 a2_4] g0 fun v_75 g_18 =>
                  if ((v_75).isTup && Nat.beq (v_75).tupVs.length 0) then ((F18.P a1_0 a2_4).bind fun v_77 =>
                    if ((v_77).isAgg && Nat.beq (v_77).aggCs.length 1) then (if (((v_77).aggCs).headD .any).isSl 3 then some (.tup [.agg [.sl 0 3 ((((v_77).aggCs).headD .any).slXs)], .bool true], g_18) else none) else none) else none)))))))
theorem ok {a0j : Nat} {a1_0 : List (List AV)} {a2_0 : Int} {a2_1 a2_2 : ByteArray} {a2_3 a2_4 : List (List AV)} {g0 : Sg} {Q : Qt} {v : AV} {g1 : Sg} (hQ : ∀ H, HR g1 H → Q v H) {H : Heap} (hH : HR g0 H) (h : P a0j a1_0 a2_0 a2_1 a2_2 a2_3 a2_4 g0 = some (v, g1)) : C 17 [.obj a0j 0, .agg [.sl 0 3 a1_0], .agg [.int .u8 a2_0, .str a2_1, .str a2_2, .sl 0 1 a2_3, .sl 0 1 a2_4]] H Q := by
  refine call ?_
  unfold t
  unfold P at h
  revert h
  repeat' first | exact lsW hQ (by first | assumption | (repeat apply HR.past); assumption) | exact lsF | apply lsG | apply lsC | refine lsEx fun _ _ => ?_ | refine AppD.ls (by first | assumption | (repeat apply HR.past); assumption) fun _ _ _ _ => ?_ | refine CrashD.ls (by first | assumption | (repeat apply HR.past); assumption) fun _ _ _ _ => ?_ | refine ReadD.ls (by first | assumption | (repeat apply HR.past); assumption) fun _ _ _ _ => ?_ | refine RemD.ls (by first | assumption | (repeat apply HR.past); assumption) fun _ _ _ _ => ?_ | refine RenD.ls (by first | assumption | (repeat apply HR.past); assumption) fun _ _ _ _ => ?_ | refine SyncD.ls (by first | assumption | (repeat apply HR.past); assumption) fun _ _ _ _ => ?_ | refine impP (F18.ls fun _ _ => ?_) | refine impP (F23.ls fun _ _ => ?_) | refine impP (F24.ls fun _ _ => ?_) | refine impP (F26.ls fun _ _ => ?_) | refine impP (F28.ls fun _ _ => ?_) | refine impP (F29.ls fun _ _ => ?_)
noncomputable def B {β : Type} (a0j : Nat) (a1_0 : List (List AV)) (a2_0 : Int) (a2_1 a2_2 : ByteArray) (a2_3 a2_4 : List (List AV)) (g0 : Sg) (k : AV → Sg → Option β) : Option β := (P a0j a1_0 a2_0 a2_1 a2_2 a2_3 a2_4 g0).bind fun r => k r.1 r.2
theorem ls {β : Type} {r : β} {a0j : Nat} {a1_0 : List (List AV)} {a2_0 : Int} {a2_1 a2_2 : ByteArray} {a2_3 a2_4 : List (List AV)} {g0 : Sg} {H : Heap} {k : AV → Sg → Option β} {K : Qt} (hH : HR g0 H) (h : ∀ w g1 H1, HR g1 H1 → k w g1 = some r → K w H1) : B a0j a1_0 a2_0 a2_1 a2_2 a2_3 a2_4 g0 k = some r → C 17 [.obj a0j 0, .agg [.sl 0 3 a1_0], .agg [.int .u8 a2_0, .str a2_1, .str a2_2, .sl 0 1 a2_3, .sl 0 1 a2_4]] H K := by
  intro e
  unfold B at e
  cases hp : P a0j a1_0 a2_0 a2_1 a2_2 a2_3 a2_4 g0 with
  | none => rw [hp] at e; cases e
  | some w => rw [hp] at e; exact ok (fun H1 h1 => h _ _ H1 h1 e) hH hp
end F17
/-! ### broker/brokerlaw36.DiskPlays: function 5 -/
namespace F5
inductive LS where
  | l0 (x3dj : Nat) (x5i : Int) (m0_0 : List (List AV)) (g : Sg)
def LS.gh : LS → Sg
  | .l0 _ _ _ g => g
noncomputable def PL (a0 : List (List AV)) : Nat → LS → Option (AV)
  | 0, _ => none
  | fu + 1, .l0 x3dj x5i m0_0 g =>
    if ltI x5i (lenI a0) then
    (if leI 0 x5i then (if ltI x5i (lenI a0) then (if (ce (ro a0 x5i.toNat) 0).isInt .u8 then (if (ce (ro a0 x5i.toNat) 1).isStr then (if (ce (ro a0 x5i.toNat) 2).isStr then (if (ce (ro a0 x5i.toNat) 3).isSl 1 then (if (ce (ro a0 x5i.toNat) 4).isSl 1 then (F17.B x3dj m0_0 ((ce (ro a0 x5i.toNat) 0).toInt) ((ce (ro a0 x5i.toNat) 1).toStr) ((ce (ro a0 x5i.toNat) 2).toStr) ((ce (ro a0 x5i.toNat) 3).slXs) ((ce (ro a0 x5i.toNat) 4).slXs) g fun v_13 g_1 =>
      if ((v_13).isTup && Nat.beq (v_13).tupVs.length 2) then (if ((((v_13).tupVs).headD .any).isAgg && Nat.beq (((v_13).tupVs).headD .any).aggCs.length 1) then (if (((((v_13).tupVs).headD .any).aggCs).headD .any).isSl 3 then (if ((((v_13).tupVs).tail).headD .any).isBool then (if !(((((v_13).tupVs).tail).headD .any).toBool) then
        (some (.bool false))
        else
        (F16.B x3dj ((((((v_13).tupVs).headD .any).aggCs).headD .any).slXs) g_1 fun v_15 g_2 =>
          if (v_15).isBool then (if !((v_15).toBool) then
            (some (.bool false))
            else
            (PL a0 fu (.l0 x3dj (addW .i64 x5i 1) ((((((v_13).tupVs).headD .any).aggCs).headD .any).slXs) g_2))) else none)) else none) else none) else none) else none) else none) else none) else none) else none) else none) else none) else none)
    else
    ((F8.P).bind fun v_17 =>
      if (v_17).isBool then some (.bool ((v_17).toBool)) else none)
noncomputable def P (a0 : List (List AV)) : Option (AV) := lim fun fu =>
    (F14.P a0).bind fun v_1 =>
    if (v_1).isBool then (if !((v_1).toBool) then
      ((F8.P).bind fun v_3 =>
        if (v_3).isBool then some (.bool ((v_3).toBool)) else none)
      else
      (NewD.B [] Sg.empty fun v_5 g_3 =>
        if (v_5).isObj then
          ((F15.P).bind fun v_7 =>
            if ((v_7).isAgg && Nat.beq (v_7).aggCs.length 1) then (if (((v_7).aggCs).headD .any).isSl 3 then (F16.B ((v_5).objJ) ((((v_7).aggCs).headD .any).slXs) g_3 fun v_9 g_4 =>
              if (v_9).isBool then (if !((v_9).toBool) then
                (some (.bool false))
                else
                (PL a0 fu (.l0 ((v_5).objJ) 0 ((((v_7).aggCs).headD .any).slXs) g_4))) else none) else none) else none)
          else
          (if (v_5).isNilp then ((F15.P).bind fun v_11 =>
            if ((v_11).isAgg && Nat.beq (v_11).aggCs.length 1) then (if (((v_11).aggCs).headD .any).isSl 3 then some (.bool false) else none) else none) else none))) else none
theorem PL_ok {a0 : List (List AV)} {Q : Qt} {v : AV} (hQ : ∀ H, Q v H) : ∀ (fu : Nat) (s : LS) (H : Heap), HR s.gh H → PL a0 fu s = some v → match s with | .l0 x3dj x5i m0_0 _ => L0 a0 Q x3dj x5i m0_0 H := by
  intro fu
  induction fu with
  | zero => intro s H _ h; exact absurd h (by cases s <;> simp only [PL] <;> exact nofun)
  | succ fu ih =>
    intro s H hH
    cases s with
    | l0 x3dj x5i m0_0 g =>
      have hH : HR g H := hH
      show PL a0 (fu + 1) (.l0 x3dj x5i m0_0 g) = some v → L0 a0 Q x3dj x5i m0_0 H
      rw [PL]
      refine fun h => L0_step (?_ : r0 a0 Q x3dj x5i m0_0 H)
      revert h
      unfold r0
      repeat' first | exact lsV hQ | exact lsF | apply lsG | apply lsC | refine F8.ls fun _ _ _ => ?_ | refine F16.ls (by first | assumption | (repeat apply HR.past); assumption) fun _ _ _ _ => ?_ | refine F17.ls (by first | assumption | (repeat apply HR.past); assumption) fun _ _ _ _ => ?_ | exact fun h => ih _ _ (show HR _ _ by first | assumption | (repeat apply HR.past); assumption) h
theorem ok {a0 : List (List AV)} {Q : Qt} {v : AV} (hQ : ∀ H, Q v H) {H : Heap} (h : P a0 = some v) : C 5 [.sl 0 5 a0] H Q := by
  refine call ?_
  unfold t
  unfold P at h
  obtain ⟨fu, h⟩ := lim_some h
  revert h
  have hH : HR Sg.empty H := HR.empty H
  repeat' first | exact lsV hQ | exact lsF | apply lsG | apply lsC | refine F8.ls fun _ _ _ => ?_ | refine F16.ls (by first | assumption | (repeat apply HR.past); assumption) fun _ _ _ _ => ?_ | refine NewD.ls (by first | assumption | (repeat apply HR.past); assumption) fun _ _ _ _ => ?_ | refine impP (F14.ls fun _ _ => ?_) | refine impP (F15.ls fun _ _ => ?_) | exact fun h => PL_ok hQ _ _ _ (show HR _ _ by first | assumption | (repeat apply HR.past); assumption) h
theorem ls {β : Type} {r : β} {a0 : List (List AV)} {H : Heap} {k : AV → Option β} {K : Qt} (h : ∀ w H1, HR Sg.empty H1 → k w = some r → K w H1) : (P a0).bind k = some r → C 5 [.sl 0 5 a0] H K := by
  intro e
  cases hp : P a0 with
  | none => rw [hp] at e; cases e
  | some w => rw [hp] at e; exact ok (fun H1 => h _ H1 (HR.empty H1) e) hp
end F5
/-! ### broker/brokerlaw36.DiskCrashes: function 6 -/
namespace F6
inductive LS where
  | l0 (x5dj : Nat) (x7i : Int) (m0_0 : List (List AV)) (g : Sg)
def LS.gh : LS → Sg
  | .l0 _ _ _ g => g
noncomputable def PL (a0 a1 : List (List AV)) : Nat → LS → Option (AV)
  | 0, _ => none
  | fu + 1, .l0 x5dj x7i m0_0 g =>
    if ltI x7i (lenI a0) then
    (if leI 0 x7i then (if ltI x7i (lenI a0) then (if (ce (ro a0 x7i.toNat) 0).isInt .u8 then (if (ce (ro a0 x7i.toNat) 1).isStr then (if (ce (ro a0 x7i.toNat) 2).isStr then (if (ce (ro a0 x7i.toNat) 3).isSl 1 then (if (ce (ro a0 x7i.toNat) 4).isSl 1 then (F17.B x5dj m0_0 ((ce (ro a0 x7i.toNat) 0).toInt) ((ce (ro a0 x7i.toNat) 1).toStr) ((ce (ro a0 x7i.toNat) 2).toStr) ((ce (ro a0 x7i.toNat) 3).slXs) ((ce (ro a0 x7i.toNat) 4).slXs) g fun v_13 g_1 =>
      if ((v_13).isTup && Nat.beq (v_13).tupVs.length 2) then (if ((((v_13).tupVs).headD .any).isAgg && Nat.beq (((v_13).tupVs).headD .any).aggCs.length 1) then (if (((((v_13).tupVs).headD .any).aggCs).headD .any).isSl 3 then (if ((((v_13).tupVs).tail).headD .any).isBool then PL a0 a1 fu (.l0 x5dj (addW .i64 x7i 1) ((((((v_13).tupVs).headD .any).aggCs).headD .any).slXs) g_1) else none) else none) else none) else none) else none) else none) else none) else none) else none) else none) else none)
    else
    (CrashD.B [.obj x5dj 0, .sl 0 1 a1] g fun v_15 g_2 =>
      if ((v_15).isTup && Nat.beq (v_15).tupVs.length 0) then ((F18.P m0_0 a1).bind fun v_17 =>
        if ((v_17).isAgg && Nat.beq (v_17).aggCs.length 1) then (if (((v_17).aggCs).headD .any).isSl 3 then (F16.B x5dj ((((v_17).aggCs).headD .any).slXs) g_2 fun v_19 g_3 =>
          if (v_19).isBool then (if !((v_19).toBool) then
            (some (.bool false))
            else
            (CrashD.B [.obj x5dj 0, .sl 0 1 []] g_3 fun v_21 g_4 =>
              if ((v_21).isTup && Nat.beq (v_21).tupVs.length 0) then (F16.B x5dj ((((v_17).aggCs).headD .any).slXs) g_4 fun v_23 g_5 =>
                if (v_23).isBool then (if (v_23).toBool then
                  ((F8.P).bind fun v_25 =>
                    if (v_25).isBool then some (.bool ((v_25).toBool)) else none)
                  else
                  (some (.bool false))) else none) else none)) else none) else none) else none) else none)
noncomputable def P (a0 a1 : List (List AV)) : Option (AV) := lim fun fu =>
    (F14.P a0).bind fun v_1 =>
    if (v_1).isBool then (if !((v_1).toBool) then
      ((F8.P).bind fun v_3 =>
        if (v_3).isBool then some (.bool ((v_3).toBool)) else none)
      else
      (if ltI 20 (lenI a1) then
        ((F8.P).bind fun v_5 =>
          if (v_5).isBool then some (.bool ((v_5).toBool)) else none)
        else
        (NewD.B [] Sg.empty fun v_7 g_6 =>
          if (v_7).isObj then
            ((F15.P).bind fun v_9 =>
              if ((v_9).isAgg && Nat.beq (v_9).aggCs.length 1) then (if (((v_9).aggCs).headD .any).isSl 3 then PL a0 a1 fu (.l0 ((v_7).objJ) 0 ((((v_9).aggCs).headD .any).slXs) g_6) else none) else none)
            else
            (if (v_7).isNilp then ((F15.P).bind fun v_11 =>
              if ((v_11).isAgg && Nat.beq (v_11).aggCs.length 1) then (if (((v_11).aggCs).headD .any).isSl 3 then some (.bool false) else none) else none) else none)))) else none
theorem PL_ok {a0 a1 : List (List AV)} {Q : Qt} {v : AV} (hQ : ∀ H, Q v H) : ∀ (fu : Nat) (s : LS) (H : Heap), HR s.gh H → PL a0 a1 fu s = some v → match s with | .l0 x5dj x7i m0_0 _ => L0 a0 a1 Q x5dj x7i m0_0 H := by
  intro fu
  induction fu with
  | zero => intro s H _ h; exact absurd h (by cases s <;> simp only [PL] <;> exact nofun)
  | succ fu ih =>
    intro s H hH
    cases s with
    | l0 x5dj x7i m0_0 g =>
      have hH : HR g H := hH
      show PL a0 a1 (fu + 1) (.l0 x5dj x7i m0_0 g) = some v → L0 a0 a1 Q x5dj x7i m0_0 H
      rw [PL]
      refine fun h => L0_step (?_ : r0 a0 a1 Q x5dj x7i m0_0 H)
      revert h
      unfold r0
      repeat' first | exact lsV hQ | exact lsF | apply lsG | apply lsC | refine F8.ls fun _ _ _ => ?_ | refine CrashD.ls (by first | assumption | (repeat apply HR.past); assumption) fun _ _ _ _ => ?_ | refine F16.ls (by first | assumption | (repeat apply HR.past); assumption) fun _ _ _ _ => ?_ | refine F17.ls (by first | assumption | (repeat apply HR.past); assumption) fun _ _ _ _ => ?_ | refine impP (F18.ls fun _ _ => ?_) | exact fun h => ih _ _ (show HR _ _ by first | assumption | (repeat apply HR.past); assumption) h
theorem ok {a0 a1 : List (List AV)} {Q : Qt} {v : AV} (hQ : ∀ H, Q v H) {H : Heap} (h : P a0 a1 = some v) : C 6 [.sl 0 5 a0, .sl 0 1 a1] H Q := by
  refine call ?_
  unfold t
  unfold P at h
  obtain ⟨fu, h⟩ := lim_some h
  revert h
  have hH : HR Sg.empty H := HR.empty H
  repeat' first | exact lsV hQ | exact lsF | apply lsG | apply lsC | refine F8.ls fun _ _ _ => ?_ | refine NewD.ls (by first | assumption | (repeat apply HR.past); assumption) fun _ _ _ _ => ?_ | refine impP (F14.ls fun _ _ => ?_) | refine impP (F15.ls fun _ _ => ?_) | exact fun h => PL_ok hQ _ _ _ (show HR _ _ by first | assumption | (repeat apply HR.past); assumption) h
theorem ls {β : Type} {r : β} {a0 a1 : List (List AV)} {H : Heap} {k : AV → Option β} {K : Qt} (h : ∀ w H1, HR Sg.empty H1 → k w = some r → K w H1) : (P a0 a1).bind k = some r → C 6 [.sl 0 5 a0, .sl 0 1 a1] H K := by
  intro e
  cases hp : P a0 a1 with
  | none => rw [hp] at e; cases e
  | some w => rw [hp] at e; exact ok (fun H1 => h _ H1 (HR.empty H1) e) hp
end F6
/-! ### broker/brokerlaw36.DiskApart: function 7 -/
namespace F7
inductive LS where
  | l0 (x5dj : Nat) (x6i : Int) (g : Sg)
  | lR10 (x5dj : Nat) (x6i : Int) (x51 : Bool) (m0_0 : Int) (m0_1 m0_2 : ByteArray) (m0_3 m0_4 : List (List AV)) (g : Sg)
def LS.gh : LS → Sg
  | .l0 _ _ g => g
  | .lR10 _ _ _ _ _ _ _ _ g => g
noncomputable def PL (a0 a1 : List (List AV)) : Nat → LS → Option (AV)
  | 0, _ => none
  | fu + 1, .l0 x5dj x6i g =>
    if ltI x6i (lenI a0) then
    (if leI 0 x6i then (if ltI x6i (lenI a0) then (if (ce (ro a0 x6i.toNat) 0).isInt .u8 then (if (ce (ro a0 x6i.toNat) 1).isStr then (if (ce (ro a0 x6i.toNat) 2).isStr then (if (ce (ro a0 x6i.toNat) 3).isSl 1 then (if (ce (ro a0 x6i.toNat) 4).isSl 1 then (if !(eqS ((ce (ro a0 x6i.toNat) 1).toStr) (⟨#[111, 119, 110]⟩ : ByteArray)) then
      (if !(eqS ((ce (ro a0 x6i.toNat) 2).toStr) (⟨#[111, 119, 110]⟩ : ByteArray)) then
        (PL a0 a1 fu (.lR10 x5dj x6i (!(eqI (Int.tmod ((ce (ro a0 x6i.toNat) 0).toInt) 8) 7)) ((ce (ro a0 x6i.toNat) 0).toInt) ((ce (ro a0 x6i.toNat) 1).toStr) ((ce (ro a0 x6i.toNat) 2).toStr) ((ce (ro a0 x6i.toNat) 3).slXs) ((ce (ro a0 x6i.toNat) 4).slXs) g))
        else
        (PL a0 a1 fu (.lR10 x5dj x6i false ((ce (ro a0 x6i.toNat) 0).toInt) ((ce (ro a0 x6i.toNat) 1).toStr) ((ce (ro a0 x6i.toNat) 2).toStr) ((ce (ro a0 x6i.toNat) 3).slXs) ((ce (ro a0 x6i.toNat) 4).slXs) g)))
      else
      (PL a0 a1 fu (.lR10 x5dj x6i false ((ce (ro a0 x6i.toNat) 0).toInt) ((ce (ro a0 x6i.toNat) 1).toStr) ((ce (ro a0 x6i.toNat) 2).toStr) ((ce (ro a0 x6i.toNat) 3).slXs) ((ce (ro a0 x6i.toNat) 4).slXs) g))) else none) else none) else none) else none) else none) else none) else none)
    else
    (ReadD.B [.obj x5dj 0, .str (⟨#[111, 119, 110]⟩ : ByteArray)] g fun v_11 g_1 =>
      if ((v_11).isTup && Nat.beq (v_11).tupVs.length 2) then (if (((v_11).tupVs).headD .any).isSl 1 then (if ((((v_11).tupVs).tail).headD .any).isInt .i64 then ((unbytes ((((v_11).tupVs).headD .any).slXs)).bind fun s_13 =>
        (unbytes a1).bind fun s_14 =>
          if eqS s_13 s_14 then
            (if eqI (((((v_11).tupVs).tail).headD .any).toInt) 0 then
              ((F8.P).bind fun v_15 =>
                if (v_15).isBool then some (.bool ((v_15).toBool)) else none)
              else
              (some (.bool false)))
            else
            (some (.bool false))) else none) else none) else none)
  | fu + 1, .lR10 x5dj x6i x51 m0_0 m0_1 m0_2 m0_3 m0_4 g =>
    if x51 then
    ((F15.P).bind fun v_17 =>
      if ((v_17).isAgg && Nat.beq (v_17).aggCs.length 1) then (if (((v_17).aggCs).headD .any).isSl 3 then (F17.B x5dj ((((v_17).aggCs).headD .any).slXs) m0_0 m0_1 m0_2 m0_3 m0_4 g fun v_19 g_2 =>
        if ((v_19).isTup && Nat.beq (v_19).tupVs.length 2) then (if ((((v_19).tupVs).headD .any).isAgg && Nat.beq (((v_19).tupVs).headD .any).aggCs.length 1) then (if (((((v_19).tupVs).headD .any).aggCs).headD .any).isSl 3 then (if ((((v_19).tupVs).tail).headD .any).isBool then PL a0 a1 fu (.l0 x5dj (addW .i64 x6i 1) g_2) else none) else none) else none) else none) else none) else none)
    else
    (PL a0 a1 fu (.l0 x5dj (addW .i64 x6i 1) g))
noncomputable def P (a0 a1 : List (List AV)) : Option (AV) := lim fun fu =>
    (F14.P a0).bind fun v_1 =>
    if (v_1).isBool then (if !((v_1).toBool) then
      ((F8.P).bind fun v_3 =>
        if (v_3).isBool then some (.bool ((v_3).toBool)) else none)
      else
      (if ltI 400 (lenI a1) then
        ((F8.P).bind fun v_5 =>
          if (v_5).isBool then some (.bool ((v_5).toBool)) else none)
        else
        (NewD.B [] Sg.empty fun v_7 g_3 =>
          if (v_7).isObj then
            (AppD.B [.obj ((v_7).objJ) 0, .str (⟨#[111, 119, 110]⟩ : ByteArray), .sl 0 1 a1] g_3 fun v_9 g_4 =>
              if (v_9).isInt .i64 then (if !(eqI ((v_9).toInt) 0) then
                (some (.bool false))
                else
                (PL a0 a1 fu (.l0 ((v_7).objJ) 0 g_4))) else none)
            else
            (if (v_7).isNilp then some (.bool false) else none)))) else none
theorem PL_ok {a0 a1 : List (List AV)} {Q : Qt} {v : AV} (hQ : ∀ H, Q v H) : ∀ (fu : Nat) (s : LS) (H : Heap), HR s.gh H → PL a0 a1 fu s = some v → match s with | .l0 x5dj x6i _ => L0 a0 a1 Q x5dj x6i H | .lR10 x5dj x6i x51 m0_0 m0_1 m0_2 m0_3 m0_4 _ => JR10 a0 a1 Q x5dj x6i x51 m0_0 m0_1 m0_2 m0_3 m0_4 H := by
  intro fu
  induction fu with
  | zero => intro s H _ h; exact absurd h (by cases s <;> simp only [PL] <;> exact nofun)
  | succ fu ih =>
    intro s H hH
    cases s with
    | l0 x5dj x6i g =>
      have hH : HR g H := hH
      show PL a0 a1 (fu + 1) (.l0 x5dj x6i g) = some v → L0 a0 a1 Q x5dj x6i H
      rw [PL]
      refine fun h => L0_step (?_ : r0 a0 a1 Q x5dj x6i H)
      revert h
      unfold r0
      repeat' first | exact lsV hQ | exact lsF | apply lsG | apply lsC | refine lsEx fun _ _ => ?_ | refine F8.ls fun _ _ _ => ?_ | refine ReadD.ls (by first | assumption | (repeat apply HR.past); assumption) fun _ _ _ _ => ?_ | exact fun h => ih _ _ (show HR _ _ by first | assumption | (repeat apply HR.past); assumption) h
    | lR10 x5dj x6i x51 m0_0 m0_1 m0_2 m0_3 m0_4 g =>
      have hH : HR g H := hH
      show PL a0 a1 (fu + 1) (.lR10 x5dj x6i x51 m0_0 m0_1 m0_2 m0_3 m0_4 g) = some v → JR10 a0 a1 Q x5dj x6i x51 m0_0 m0_1 m0_2 m0_3 m0_4 H
      rw [PL]
      refine fun h => JR10_step (?_ : jR10 a0 a1 Q x5dj x6i x51 m0_0 m0_1 m0_2 m0_3 m0_4 H)
      revert h
      unfold jR10
      repeat' first | exact lsV hQ | exact lsF | apply lsG | apply lsC | refine lsEx fun _ _ => ?_ | refine F17.ls (by first | assumption | (repeat apply HR.past); assumption) fun _ _ _ _ => ?_ | refine impP (F15.ls fun _ _ => ?_) | exact fun h => ih _ _ (show HR _ _ by first | assumption | (repeat apply HR.past); assumption) h
theorem ok {a0 a1 : List (List AV)} {Q : Qt} {v : AV} (hQ : ∀ H, Q v H) {H : Heap} (h : P a0 a1 = some v) : C 7 [.sl 0 5 a0, .sl 0 1 a1] H Q := by
  refine call ?_
  unfold t
  unfold P at h
  obtain ⟨fu, h⟩ := lim_some h
  revert h
  have hH : HR Sg.empty H := HR.empty H
  repeat' first | exact lsV hQ | exact lsF | apply lsG | apply lsC | refine lsEx fun _ _ => ?_ | refine F8.ls fun _ _ _ => ?_ | refine AppD.ls (by first | assumption | (repeat apply HR.past); assumption) fun _ _ _ _ => ?_ | refine NewD.ls (by first | assumption | (repeat apply HR.past); assumption) fun _ _ _ _ => ?_ | refine impP (F14.ls fun _ _ => ?_) | exact fun h => PL_ok hQ _ _ _ (show HR _ _ by first | assumption | (repeat apply HR.past); assumption) h
theorem ls {β : Type} {r : β} {a0 a1 : List (List AV)} {H : Heap} {k : AV → Option β} {K : Qt} (h : ∀ w H1, HR Sg.empty H1 → k w = some r → K w H1) : (P a0 a1).bind k = some r → C 7 [.sl 0 5 a0, .sl 0 1 a1] H K := by
  intro e
  cases hp : P a0 a1 with
  | none => rw [hp] at e; cases e
  | some w => rw [hp] at e; exact ok (fun H1 => h _ H1 (HR.empty H1) e) hp
end F7
end Go.Proofs.Ytbkkhhmjmbbfpaa.Ab
