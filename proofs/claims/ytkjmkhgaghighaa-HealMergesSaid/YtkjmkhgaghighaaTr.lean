/- PRINTED by abx.py. -/
import Derived.Test.YtkjmkhgaghighaaAbMono
import Derived.Test.YtkjmkhgaghighaaTab
import Derived.Test.YtkjmkhgaghighaaLeaf
namespace Go.Proofs.Ytkjmkhgaghighaa.Ab
open Go
set_option maxRecDepth 100000
set_option maxHeartbeats 4000000
set_option linter.unusedVariables false
def liveT : Nat → List (List (Nat × Nat))
  | 3 => [[(0, 0), (5, 0), (6, 0), (7, 0)]]
  | 4 => [[(0, 0), (2, 0), (27, 0), (28, 0), (29, 0)]]
  | 6 => [[(0, 0), (1, 0), (7, 0), (62, 0), (63, 0), (64, 0)], [(7, 0), (82, 0), (83, 0), (84, 0)]]
  | 7 => [[(0, 0), (1, 0), (5, 0), (6, 0), (48, 0), (49, 0), (50, 0)], [(0, 0), (1, 0), (6, 0), (73, 0), (74, 0), (75, 0)]]
  | 10 => [[(0, 0), (9, 0), (10, 0), (11, 0)]]
  | 11 => [[(0, 0), (9, 0), (10, 0), (11, 0)]]
  | 12 => [[(5, 0), (6, 0), (7, 0)]]
  | 15 => [[(0, 0), (1, 0), (12, 0), (13, 0)]]
  | 18 => [[(1, 0), (4, 0), (5, 0), (8, 0), (9, 0), (10, 0)]]
  | 19 => [[(4, 0), (5, 0), (10, 0), (11, 0), (12, 0)]]
  | 21 => [[(5, 1), (11, 0), (12, 0), (13, 0)]]
  | 22 => [[(0, 0), (1, 0), (12, 0), (13, 0)]]
  | 24 => [[(0, 0), (1, 0), (5, 3), (12, 0), (13, 0), (14, 0)]]
  | 27 => [[(1, 0), (7, 0), (8, 0), (9, 0)]]
  | 33 => [[(0, 0), (1, 0), (6, 0)]]
  | 36 => [[(1, 0), (7, 0), (8, 0), (9, 0)]]
  | 38 => [[(0, 0), (3, 0), (5, 7), (10, 0), (11, 0), (12, 0)], [(3, 0), (5, 0), (30, 0), (31, 0), (32, 0)]]
  | 42 => [[(0, 0), (1, 0), (2, 0), (3, 0), (4, 0), (11, 7), (12, 0), (13, 0)]]
  | 46 => [[(0, 0), (1, 0), (2, 0), (3, 0), (4, 0), (11, 3), (12, 0), (13, 0)]]
  | 47 => [[(0, 0), (3, 0), (7, 0), (8, 0)]]
  | 48 => [[(0, 0), (1, 0), (7, 0), (8, 0)]]
  | 50 => [[(9, 0)]]
  | 54 => [[(0, 0), (1, 0), (5, 0)]]
  | 55 => [[(3, 0), (15, 0)]]
  | 57 => [[(0, 0), (3, 3), (4, 0), (5, 0)]]
  | _ => []
def ownT (n : Nat) : Bool := Nat.beq n 26 || Nat.beq n 35
def ioT (n : Nat) : Bool := Nat.beq n 35 || Nat.beq n 52 || Nat.beq n 56 || Nat.beq n 58
def purT (n : Nat) : Bool := !(Nat.beq n 35 || Nat.beq n 52 || Nat.beq n 56 || Nat.beq n 58)
def apartT (n : Nat) : Bool := Nat.beq n 51
noncomputable def E0 : Env := ⟨tys, fun f => cond (leafL.elem f) none (fns.getD f none), liveT, ownT, leafT, ioT, purT, apartT⟩
noncomputable abbrev C : Oracle := Call E0
/-! ### broker/brokerlaw44.HealChecks: function 3 -/
namespace F3
def K0 (Q : AV → Heap → Prop) : Ex → St → Prop := (contK E0 C (E0.L 3) [.block 0, .seq (codeAt (bodyOf E0 3) [1, 1]) 1] (finK E0 3 Q))
def L0 (a0 : List (List AV)) (Q : AV → Heap → Prop) (x7 : Int) (Hh : Heap) : Prop := ALoop (fun K s => awp E0 C (E0.L 3) (codeAt (bodyOf E0 3) [1, 0, 1, 0, 0]) 1 s K) (clean [(0, 0), (5, 0), (6, 0), (7, 0)] 0) (K0 Q) ⟨[.sl 0 5 a0, .any, .any, .any, .any, .sl 0 5 a0, .int .i64 (lenI a0), .int .i64 x7, .any, .any, .any, .any, .any, .any, .any, .any, .any, .any, .any, .any, .any, .any, .any, .any, .any, .any, .any, .any, .any, .any, .any, .any, .any, .any, .any], [], Hh⟩
def r0 (a0 : List (List AV)) (Q : AV → Heap → Prop) (x7 : Int) (Hh : Heap) : Prop :=
  cond (ltI x7 (lenI a0))
  (G (leI 0 x7) (G (ltI x7 (lenI a0)) (G (((a0.getD x7.toNat []).getD 0 .any).isStr) (G (((a0.getD x7.toNat []).getD 1 .any).isStr) (G (((a0.getD x7.toNat []).getD 2 .any).isBool) (G (((a0.getD x7.toNat []).getD 3 .any).isInt .i64) (G (((a0.getD x7.toNat []).getD 4 .any).isInt .i64) (cond (ltI 200 (sizeI (((a0.getD x7.toNat []).getD 0 .any).toStr)))
    (C 9 [] Hh.none fun v_1 H_2 =>
      G ((v_1).isBool) (Q (.bool ((v_1).toBool)) (Hh.past H_2)))
    (cond (ltI 5000 (sizeI (((a0.getD x7.toNat []).getD 1 .any).toStr)))
      (C 9 [] Hh.none fun v_3 H_4 =>
        G ((v_3).isBool) (Q (.bool ((v_3).toBool)) (Hh.past H_4)))
      (L0 a0 Q (addW .i64 x7 1) Hh))))))))))
  (cond (ltI 300 (lenI a0))
    (C 9 [] Hh.none fun v_5 H_6 =>
      G ((v_5).isBool) (Q (.bool ((v_5).toBool)) (Hh.past H_6)))
    (C 10 [.sl 0 5 a0] Hh.none fun v_7 H_8 =>
      G ((v_7).isInt .i64) (C 11 [.sl 0 5 a0] ((Hh.past H_8).none) fun v_9 H_10 =>
        G ((v_9).isInt .i64) (cond (eqI ((v_7).toInt) ((v_9).toInt))
          (C 9 [] ((Hh.past H_10).none) fun v_11 H_12 =>
            G ((v_11).isBool) (Q (.bool ((v_11).toBool)) (Hh.past H_12)))
          (Q (.bool false) (Hh.past H_10))))))
theorem r0_eq (a0 : List (List AV)) (Q : AV → Heap → Prop) (x7 : Int) (Hh : Heap) : (fun K s => awp E0 C (E0.L 3) (codeAt (bodyOf E0 3) [1, 0, 1, 0, 0]) 1 s K) (fun e s' => match e with | .normal => ALoop (fun K s => awp E0 C (E0.L 3) (codeAt (bodyOf E0 3) [1, 0, 1, 0, 0]) 1 s K) (clean [(0, 0), (5, 0), (6, 0), (7, 0)] 0) (K0 Q) ((clean [(0, 0), (5, 0), (6, 0), (7, 0)] 0) s') | e => K0 Q e s') ⟨[.sl 0 5 a0, .any, .any, .any, .any, .sl 0 5 a0, .int .i64 (lenI a0), .int .i64 x7, .any, .any, .any, .any, .any, .any, .any, .any, .any, .any, .any, .any, .any, .any, .any, .any, .any, .any, .any, .any, .any, .any, .any, .any, .any, .any, .any], [], Hh⟩ = r0 a0 Q x7 Hh := by kernel_rfl
theorem L0_step {a0 : List (List AV)} {Q : AV → Heap → Prop} {x7 : Int} {Hh : Heap} (h : r0 a0 Q x7 Hh) : L0 a0 Q x7 Hh := ALoop_unfold ((r0_eq a0 Q x7 Hh).mpr h)
def t (a0 : List (List AV)) (H : Heap) (Q : AV → Heap → Prop) : Prop :=
  L0 a0 Q 0 H
theorem t_eq (a0 : List (List AV)) (H : Heap) (Q : AV → Heap → Prop) : aBody E0 C 3 [.sl 0 5 a0] H Q = t a0 H Q := by kernel_rfl
theorem call {a0 : List (List AV)} {H : Heap} {Q : AV → Heap → Prop} (h : t a0 H Q) : C 3 [.sl 0 5 a0] H Q := Call_intro ((t_eq a0 H Q).mpr h)
end F3
/-! ### broker/brokerlaw44.HealSets: function 4 -/
namespace F4
def K0 (Q : AV → Heap → Prop) : Ex → St → Prop := (contK E0 C (E0.L 4) [.block 0, .seq (codeAt (bodyOf E0 4) [1, 1, 1]) 1] (finK E0 4 Q))
def L0 (a0 : List (List AV)) (a1 : List (List AV)) (a2 : Int) (Q : AV → Heap → Prop) (x0l : List (List AV)) (x29 : Int) (Hh : Heap) : Prop := ALoop (fun K s => awp E0 C (E0.L 4) (codeAt (bodyOf E0 4) [1, 1, 0, 1, 0, 0]) 1 s K) (clean [(0, 0), (2, 0), (27, 0), (28, 0), (29, 0)] 0) (K0 Q) ⟨[.sl 0 5 x0l, .any, .int .i64 a2, .any, .any, .any, .any, .any, .any, .any, .any, .any, .any, .any, .any, .any, .any, .any, .any, .any, .any, .any, .any, .any, .any, .any, .any, .sl 0 5 a1, .int .i64 (lenI a1), .int .i64 x29, .any, .any, .any, .any, .any, .any, .any, .any, .any, .any, .any, .any, .any, .any, .any, .any, .any, .any, .any, .any, .any, .any, .any, .any, .any, .any, .any, .any, .any, .any, .any, .any, .any, .any, .any, .any, .any, .any, .any, .any, .any, .any, .any, .any, .any, .any, .any, .any, .any, .any, .any, .any, .any, .any, .any, .any, .any, .any, .any, .any, .any, .any, .any, .any, .any, .any, .any, .any, .any], [], Hh⟩
def r0 (a0 : List (List AV)) (a1 : List (List AV)) (a2 : Int) (Q : AV → Heap → Prop) (x0l : List (List AV)) (x29 : Int) (Hh : Heap) : Prop :=
  cond (ltI x29 (lenI a1))
  (G (leI 0 x29) (G (ltI x29 (lenI a1)) (G (((a1.getD x29.toNat []).getD 0 .any).isStr) (G (((a1.getD x29.toNat []).getD 1 .any).isStr) (G (((a1.getD x29.toNat []).getD 2 .any).isBool) (G (((a1.getD x29.toNat []).getD 3 .any).isInt .i64) (G (((a1.getD x29.toNat []).getD 4 .any).isInt .i64) (C 13 [.sl 0 5 x0l, .agg [.str (((a1.getD x29.toNat []).getD 0 .any).toStr), .str (((a1.getD x29.toNat []).getD 1 .any).toStr), .bool (((a1.getD x29.toNat []).getD 2 .any).toBool), .int .i64 (((a1.getD x29.toNat []).getD 3 .any).toInt), .int .i64 (((a1.getD x29.toNat []).getD 4 .any).toInt)]] Hh.none fun v_7 H_8 =>
    G ((v_7).isTup && Nat.beq (v_7).tupVs.length 2) (G ((((v_7).tupVs).headD .any).isSl 5) (G (((((v_7).tupVs).tail).headD .any).isInt .i64) (C 14 [.sl 0 5 x0l, .agg [.str (((a1.getD x29.toNat []).getD 0 .any).toStr), .str (((a1.getD x29.toNat []).getD 1 .any).toStr), .bool (((a1.getD x29.toNat []).getD 2 .any).toBool), .int .i64 (((a1.getD x29.toNat []).getD 3 .any).toInt), .int .i64 (((a1.getD x29.toNat []).getD 4 .any).toInt)]] ((Hh.past H_8).none) fun v_9 H_10 =>
      G ((v_9).isTup && Nat.beq (v_9).tupVs.length 2) (G ((((v_9).tupVs).headD .any).isSl 5) (G (((((v_9).tupVs).tail).headD .any).isInt .i64) (cond (!(eqI (((((v_7).tupVs).tail).headD .any).toInt) (((((v_9).tupVs).tail).headD .any).toInt)))
        (Q (.bool false) (Hh.past H_10))
        (C 15 [.sl 0 5 ((((v_7).tupVs).headD .any).slXs), .sl 0 5 ((((v_9).tupVs).headD .any).slXs)] ((Hh.past H_10).none) fun v_11 H_12 =>
          G ((v_11).isBool) (cond (!((v_11).toBool))
            (Q (.bool false) (Hh.past H_12))
            (cond (eqI (((((v_9).tupVs).tail).headD .any).toInt) 0)
              (C 16 [.sl 0 5 ((((v_9).tupVs).headD .any).slXs), .str (((a1.getD x29.toNat []).getD 0 .any).toStr)] ((Hh.past H_12).none) fun v_13 H_14 =>
                G ((v_13).isTup && Nat.beq (v_13).tupVs.length 2) (G ((((v_13).tupVs).headD .any).isStr) (G (((((v_13).tupVs).tail).headD .any).isBool) (C 17 [.sl 0 5 ((((v_9).tupVs).headD .any).slXs), .str (((a1.getD x29.toNat []).getD 0 .any).toStr)] ((Hh.past H_14).none) fun v_15 H_16 =>
                  G ((v_15).isTup && Nat.beq (v_15).tupVs.length 2) (G ((((v_15).tupVs).headD .any).isStr) (G (((((v_15).tupVs).tail).headD .any).isBool) (cond (!(eqS ((((v_13).tupVs).headD .any).toStr) ((((v_15).tupVs).headD .any).toStr)))
                    (Q (.bool false) (Hh.past H_16))
                    (cond (!((((((v_13).tupVs).tail).headD .any).toBool) == (((((v_15).tupVs).tail).headD .any).toBool)))
                      (Q (.bool false) (Hh.past H_16))
                      (C 18 [.sl 0 5 ((((v_9).tupVs).headD .any).slXs), .int .i64 a2] ((Hh.past H_16).none) fun v_17 H_18 =>
                        G ((v_17).isAgg && Nat.beq (v_17).aggCs.length 2) (G ((((v_17).aggCs).headD .any).isInt .i64) (G (((((v_17).aggCs).tail).headD .any).isInt .i64) (C 19 [.sl 0 5 ((((v_9).tupVs).headD .any).slXs), .int .i64 a2] ((Hh.past H_18).none) fun v_19 H_20 =>
                          G ((v_19).isAgg && Nat.beq (v_19).aggCs.length 2) (G ((((v_19).aggCs).headD .any).isInt .i64) (G (((((v_19).aggCs).tail).headD .any).isInt .i64) (cond (!((eqI ((((v_17).aggCs).headD .any).toInt) ((((v_19).aggCs).headD .any).toInt)) && ((eqI (((((v_17).aggCs).tail).headD .any).toInt) (((((v_19).aggCs).tail).headD .any).toInt)) && true)))
                            (Q (.bool false) (Hh.past H_20))
                            (L0 a0 a1 a2 Q ((((v_9).tupVs).headD .any).slXs) (addW .i64 x29 1) (Hh.past H_20)))))))))))))))))
              (C 16 [.sl 0 5 x0l, .str (((a1.getD x29.toNat []).getD 0 .any).toStr)] ((Hh.past H_12).none) fun v_21 H_22 =>
                G ((v_21).isTup && Nat.beq (v_21).tupVs.length 2) (G ((((v_21).tupVs).headD .any).isStr) (G (((((v_21).tupVs).tail).headD .any).isBool) (C 17 [.sl 0 5 x0l, .str (((a1.getD x29.toNat []).getD 0 .any).toStr)] ((Hh.past H_22).none) fun v_23 H_24 =>
                  G ((v_23).isTup && Nat.beq (v_23).tupVs.length 2) (G ((((v_23).tupVs).headD .any).isStr) (G (((((v_23).tupVs).tail).headD .any).isBool) (cond (!(eqS ((((v_21).tupVs).headD .any).toStr) ((((v_23).tupVs).headD .any).toStr)))
                    (Q (.bool false) (Hh.past H_24))
                    (cond (!((((((v_21).tupVs).tail).headD .any).toBool) == (((((v_23).tupVs).tail).headD .any).toBool)))
                      (Q (.bool false) (Hh.past H_24))
                      (C 18 [.sl 0 5 x0l, .int .i64 a2] ((Hh.past H_24).none) fun v_25 H_26 =>
                        G ((v_25).isAgg && Nat.beq (v_25).aggCs.length 2) (G ((((v_25).aggCs).headD .any).isInt .i64) (G (((((v_25).aggCs).tail).headD .any).isInt .i64) (C 19 [.sl 0 5 x0l, .int .i64 a2] ((Hh.past H_26).none) fun v_27 H_28 =>
                          G ((v_27).isAgg && Nat.beq (v_27).aggCs.length 2) (G ((((v_27).aggCs).headD .any).isInt .i64) (G (((((v_27).aggCs).tail).headD .any).isInt .i64) (cond (!((eqI ((((v_25).aggCs).headD .any).toInt) ((((v_27).aggCs).headD .any).toInt)) && ((eqI (((((v_25).aggCs).tail).headD .any).toInt) (((((v_27).aggCs).tail).headD .any).toInt)) && true)))
                            (Q (.bool false) (Hh.past H_28))
                            (L0 a0 a1 a2 Q x0l (addW .i64 x29 1) (Hh.past H_28))))))))))))))))))))))))))))))))))
  (C 18 [.sl 0 5 x0l, .int .i64 a2] Hh.none fun v_29 H_30 =>
    G ((v_29).isAgg && Nat.beq (v_29).aggCs.length 2) (G ((((v_29).aggCs).headD .any).isInt .i64) (G (((((v_29).aggCs).tail).headD .any).isInt .i64) (C 19 [.sl 0 5 x0l, .int .i64 a2] ((Hh.past H_30).none) fun v_31 H_32 =>
      G ((v_31).isAgg && Nat.beq (v_31).aggCs.length 2) (G ((((v_31).aggCs).headD .any).isInt .i64) (G (((((v_31).aggCs).tail).headD .any).isInt .i64) (cond ((eqI ((((v_29).aggCs).headD .any).toInt) ((((v_31).aggCs).headD .any).toInt)) && ((eqI (((((v_29).aggCs).tail).headD .any).toInt) (((((v_31).aggCs).tail).headD .any).toInt)) && true))
        (C 9 [] ((Hh.past H_32).none) fun v_33 H_34 =>
          G ((v_33).isBool) (Q (.bool ((v_33).toBool)) (Hh.past H_34)))
        (Q (.bool false) (Hh.past H_32)))))))))
theorem r0_eq (a0 : List (List AV)) (a1 : List (List AV)) (a2 : Int) (Q : AV → Heap → Prop) (x0l : List (List AV)) (x29 : Int) (Hh : Heap) : (fun K s => awp E0 C (E0.L 4) (codeAt (bodyOf E0 4) [1, 1, 0, 1, 0, 0]) 1 s K) (fun e s' => match e with | .normal => ALoop (fun K s => awp E0 C (E0.L 4) (codeAt (bodyOf E0 4) [1, 1, 0, 1, 0, 0]) 1 s K) (clean [(0, 0), (2, 0), (27, 0), (28, 0), (29, 0)] 0) (K0 Q) ((clean [(0, 0), (2, 0), (27, 0), (28, 0), (29, 0)] 0) s') | e => K0 Q e s') ⟨[.sl 0 5 x0l, .any, .int .i64 a2, .any, .any, .any, .any, .any, .any, .any, .any, .any, .any, .any, .any, .any, .any, .any, .any, .any, .any, .any, .any, .any, .any, .any, .any, .sl 0 5 a1, .int .i64 (lenI a1), .int .i64 x29, .any, .any, .any, .any, .any, .any, .any, .any, .any, .any, .any, .any, .any, .any, .any, .any, .any, .any, .any, .any, .any, .any, .any, .any, .any, .any, .any, .any, .any, .any, .any, .any, .any, .any, .any, .any, .any, .any, .any, .any, .any, .any, .any, .any, .any, .any, .any, .any, .any, .any, .any, .any, .any, .any, .any, .any, .any, .any, .any, .any, .any, .any, .any, .any, .any, .any, .any, .any, .any], [], Hh⟩ = r0 a0 a1 a2 Q x0l x29 Hh := by kernel_rfl
theorem L0_step {a0 : List (List AV)} {a1 : List (List AV)} {a2 : Int} {Q : AV → Heap → Prop} {x0l : List (List AV)} {x29 : Int} {Hh : Heap} (h : r0 a0 a1 a2 Q x0l x29 Hh) : L0 a0 a1 a2 Q x0l x29 Hh := ALoop_unfold ((r0_eq a0 a1 a2 Q x0l x29 Hh).mpr h)
def t (a0 : List (List AV)) (a1 : List (List AV)) (a2 : Int) (H : Heap) (Q : AV → Heap → Prop) : Prop :=
  C 12 [.sl 0 1 [[.sl 0 5 a0]]] H.none fun v_1 H_2 =>
  G ((v_1).isBool) (cond (!((v_1).toBool))
    (C 9 [] ((H.past H_2).none) fun v_3 H_4 =>
      G ((v_3).isBool) (Q (.bool ((v_3).toBool)) (H.past H_4)))
    (cond (ltI 40 (lenI a1))
      (C 9 [] ((H.past H_2).none) fun v_5 H_6 =>
        G ((v_5).isBool) (Q (.bool ((v_5).toBool)) (H.past H_6)))
      (L0 a0 a1 a2 Q a0 0 (H.past H_2))))
theorem t_eq (a0 : List (List AV)) (a1 : List (List AV)) (a2 : Int) (H : Heap) (Q : AV → Heap → Prop) : aBody E0 C 4 [.sl 0 5 a0, .sl 0 5 a1, .int .i64 a2] H Q = t a0 a1 a2 H Q := by kernel_rfl
theorem call {a0 : List (List AV)} {a1 : List (List AV)} {a2 : Int} {H : Heap} {Q : AV → Heap → Prop} (h : t a0 a1 a2 H Q) : C 4 [.sl 0 5 a0, .sl 0 5 a1, .int .i64 a2] H Q := Call_intro ((t_eq a0 a1 a2 H Q).mpr h)
end F4
/-! ### broker/brokerlaw44.HealMerges: function 5 -/
namespace F5
def t (a0 : List (List AV)) (a1 : List (List AV)) (H : Heap) (Q : AV → Heap → Prop) : Prop :=
  C 12 [.sl 0 1 [[.sl 0 5 a0], [.sl 0 5 a1]]] H.none fun v_1 H_2 =>
  G ((v_1).isBool) (cond (!((v_1).toBool))
    (C 9 [] ((H.past H_2).none) fun v_3 H_4 =>
      G ((v_3).isBool) (Q (.bool ((v_3).toBool)) (H.past H_4)))
    (C 20 [.sl 0 5 a0, .sl 0 5 a1] ((H.past H_2).none) fun v_5 H_6 =>
      G ((v_5).isSl 5) (C 21 [.sl 0 5 a0, .sl 0 5 a1] ((H.past H_6).none) fun v_7 H_8 =>
        G ((v_7).isSl 5) (C 15 [.sl 0 5 ((v_5).slXs), .sl 0 5 ((v_7).slXs)] ((H.past H_8).none) fun v_9 H_10 =>
          G ((v_9).isBool) (cond ((v_9).toBool)
            (C 23 [.sl 0 5 a0, .sl 0 5 a1] ((H.past H_10).none) fun v_11 H_12 =>
              G ((v_11).isSl 1) (C 24 [.sl 0 5 a0, .sl 0 5 a1] ((H.past H_12).none) fun v_13 H_14 =>
                G ((v_13).isSl 1) (C 22 [.sl 0 1 ((v_11).slXs), .sl 0 1 ((v_13).slXs)] ((H.past H_14).none) fun v_15 H_16 =>
                  G ((v_15).isBool) (cond ((v_15).toBool)
                    (C 9 [] ((H.past H_16).none) fun v_17 H_18 =>
                      G ((v_17).isBool) (Q (.bool ((v_17).toBool)) (H.past H_18)))
                    (Q (.bool false) (H.past H_16))))))
            (Q (.bool false) (H.past H_10)))))))
theorem t_eq (a0 : List (List AV)) (a1 : List (List AV)) (H : Heap) (Q : AV → Heap → Prop) : aBody E0 C 5 [.sl 0 5 a0, .sl 0 5 a1] H Q = t a0 a1 H Q := by kernel_rfl
theorem call {a0 : List (List AV)} {a1 : List (List AV)} {H : Heap} {Q : AV → Heap → Prop} (h : t a0 a1 H Q) : C 5 [.sl 0 5 a0, .sl 0 5 a1] H Q := Call_intro ((t_eq a0 a1 H Q).mpr h)
end F5
/-! ### broker/brokerlaw44.HealMerge: function 6 -/
namespace F6
def K0 (Q : AV → Heap → Prop) : Ex → St → Prop := (contK E0 C (E0.L 6) [.block 0, .seq (codeAt (bodyOf E0 6) [1, 1, 1, 1, 1]) 1] (finK E0 6 Q))
def L0 (a0 : List (List AV)) (a1 : List (List AV)) (a2 : List (List AV)) (Q : AV → Heap → Prop) (x7m : List (List AV)) (x62 : List (List AV)) (x63 : Int) (x64 : Int) (Hh : Heap) : Prop := ALoop (fun K s => awp E0 C (E0.L 6) (codeAt (bodyOf E0 6) [1, 1, 1, 1, 0, 1, 0, 0]) 1 s K) (clean [(0, 0), (1, 0), (7, 0), (62, 0), (63, 0), (64, 0)] 0) (K0 Q) ⟨[.sl 0 5 a0, .sl 0 5 a1, .any, .any, .any, .any, .any, .sl 0 5 x7m, .any, .any, .any, .any, .any, .any, .any, .any, .any, .any, .any, .any, .any, .any, .any, .any, .any, .any, .any, .any, .any, .any, .any, .any, .any, .any, .any, .any, .any, .any, .any, .any, .any, .any, .any, .any, .any, .any, .any, .any, .any, .any, .any, .any, .any, .any, .any, .any, .any, .any, .any, .any, .any, .any, .sl 0 5 x62, .int .i64 x63, .int .i64 x64, .any, .any, .any, .any, .any, .any, .any, .any, .any, .any, .any, .any, .any, .any, .any, .any, .any, .any, .any, .any, .any, .any, .any, .any, .any, .any, .any, .any, .any, .any, .any, .any, .any, .any, .any, .any, .any, .any, .any], [], Hh⟩
def K1 (Q : AV → Heap → Prop) : Ex → St → Prop := (contK E0 C (E0.L 6) [.block 2, .seq (codeAt (bodyOf E0 6) [1, 1, 1, 1, 1, 1]) 2] (finK E0 6 Q))
def L1 (a0 : List (List AV)) (a1 : List (List AV)) (a2 : List (List AV)) (Q : AV → Heap → Prop) (x7m : List (List AV)) (x82 : List (List AV)) (x83 : Int) (x84 : Int) (Hh : Heap) : Prop := ALoop (fun K s => awp E0 C (E0.L 6) (codeAt (bodyOf E0 6) [1, 1, 1, 1, 1, 0, 1, 0, 0]) 2 s K) (clean [(7, 0), (82, 0), (83, 0), (84, 0)] 0) (K1 Q) ⟨[.any, .any, .any, .any, .any, .any, .any, .sl 0 5 x7m, .any, .any, .any, .any, .any, .any, .any, .any, .any, .any, .any, .any, .any, .any, .any, .any, .any, .any, .any, .any, .any, .any, .any, .any, .any, .any, .any, .any, .any, .any, .any, .any, .any, .any, .any, .any, .any, .any, .any, .any, .any, .any, .any, .any, .any, .any, .any, .any, .any, .any, .any, .any, .any, .any, .any, .any, .any, .any, .any, .any, .any, .any, .any, .any, .any, .any, .any, .any, .any, .any, .any, .any, .any, .any, .sl 1 5 x82, .int .i64 x83, .int .i64 x84, .any, .any, .any, .any, .any, .any, .any, .any, .any, .any, .any, .any, .any, .any, .any, .any, .any, .any, .any], [], Hh⟩
def r0 (a0 : List (List AV)) (a1 : List (List AV)) (a2 : List (List AV)) (Q : AV → Heap → Prop) (x7m : List (List AV)) (x62 : List (List AV)) (x63 : Int) (x64 : Int) (Hh : Heap) : Prop :=
  cond (ltI x64 x63)
  (G (leI 0 x64) (G (ltI x64 (lenI x62)) (G (((x62.getD x64.toNat []).getD 0 .any).isStr) (G (((x62.getD x64.toNat []).getD 1 .any).isStr) (G (((x62.getD x64.toNat []).getD 2 .any).isBool) (G (((x62.getD x64.toNat []).getD 3 .any).isInt .i64) (G (((x62.getD x64.toNat []).getD 4 .any).isInt .i64) (C 25 [.sl 0 5 a0, .agg [.str (((x62.getD x64.toNat []).getD 0 .any).toStr), .str (((x62.getD x64.toNat []).getD 1 .any).toStr), .bool (((x62.getD x64.toNat []).getD 2 .any).toBool), .int .i64 (((x62.getD x64.toNat []).getD 3 .any).toInt), .int .i64 (((x62.getD x64.toNat []).getD 4 .any).toInt)]] Hh.none fun v_29 H_30 =>
    G ((v_29).isBool) (cond (!((v_29).toBool))
      (C 25 [.sl 0 5 a1, .agg [.str (((x62.getD x64.toNat []).getD 0 .any).toStr), .str (((x62.getD x64.toNat []).getD 1 .any).toStr), .bool (((x62.getD x64.toNat []).getD 2 .any).toBool), .int .i64 (((x62.getD x64.toNat []).getD 3 .any).toInt), .int .i64 (((x62.getD x64.toNat []).getD 4 .any).toInt)]] ((Hh.past H_30).none) fun v_31 H_32 =>
        G ((v_31).isBool) (cond (!((v_31).toBool))
          (Q (.bool false) (Hh.past H_32))
          (L0 a0 a1 a2 Q x7m x62 x63 (addW .i64 x64 1) (Hh.past H_32))))
      (L0 a0 a1 a2 Q x7m x62 x63 (addW .i64 x64 1) (Hh.past H_30)))))))))))
  (C 26 [.sl 0 5 a0] Hh.none fun v_33 H_34 =>
    G ((v_33).isOwn 5) (G (room ((v_33).slXs) a1 56) (L1 a0 a1 a2 Q x7m (((v_33).slXs) ++ a1) (lenI (((v_33).slXs) ++ a1)) 0 (Hh.past H_34))))
theorem r0_eq (a0 : List (List AV)) (a1 : List (List AV)) (a2 : List (List AV)) (Q : AV → Heap → Prop) (x7m : List (List AV)) (x62 : List (List AV)) (x63 : Int) (x64 : Int) (Hh : Heap) : (fun K s => awp E0 C (E0.L 6) (codeAt (bodyOf E0 6) [1, 1, 1, 1, 0, 1, 0, 0]) 1 s K) (fun e s' => match e with | .normal => ALoop (fun K s => awp E0 C (E0.L 6) (codeAt (bodyOf E0 6) [1, 1, 1, 1, 0, 1, 0, 0]) 1 s K) (clean [(0, 0), (1, 0), (7, 0), (62, 0), (63, 0), (64, 0)] 0) (K0 Q) ((clean [(0, 0), (1, 0), (7, 0), (62, 0), (63, 0), (64, 0)] 0) s') | e => K0 Q e s') ⟨[.sl 0 5 a0, .sl 0 5 a1, .any, .any, .any, .any, .any, .sl 0 5 x7m, .any, .any, .any, .any, .any, .any, .any, .any, .any, .any, .any, .any, .any, .any, .any, .any, .any, .any, .any, .any, .any, .any, .any, .any, .any, .any, .any, .any, .any, .any, .any, .any, .any, .any, .any, .any, .any, .any, .any, .any, .any, .any, .any, .any, .any, .any, .any, .any, .any, .any, .any, .any, .any, .any, .sl 0 5 x62, .int .i64 x63, .int .i64 x64, .any, .any, .any, .any, .any, .any, .any, .any, .any, .any, .any, .any, .any, .any, .any, .any, .any, .any, .any, .any, .any, .any, .any, .any, .any, .any, .any, .any, .any, .any, .any, .any, .any, .any, .any, .any, .any, .any, .any], [], Hh⟩ = r0 a0 a1 a2 Q x7m x62 x63 x64 Hh := by kernel_rfl
theorem L0_step {a0 : List (List AV)} {a1 : List (List AV)} {a2 : List (List AV)} {Q : AV → Heap → Prop} {x7m : List (List AV)} {x62 : List (List AV)} {x63 : Int} {x64 : Int} {Hh : Heap} (h : r0 a0 a1 a2 Q x7m x62 x63 x64 Hh) : L0 a0 a1 a2 Q x7m x62 x63 x64 Hh := ALoop_unfold ((r0_eq a0 a1 a2 Q x7m x62 x63 x64 Hh).mpr h)
def r1 (a0 : List (List AV)) (a1 : List (List AV)) (a2 : List (List AV)) (Q : AV → Heap → Prop) (x7m : List (List AV)) (x82 : List (List AV)) (x83 : Int) (x84 : Int) (Hh : Heap) : Prop :=
  cond (ltI x84 x83)
  (G (leI 0 x84) (G (ltI x84 (lenI x82)) (G (((x82.getD x84.toNat []).getD 0 .any).isStr) (G (((x82.getD x84.toNat []).getD 1 .any).isStr) (G (((x82.getD x84.toNat []).getD 2 .any).isBool) (G (((x82.getD x84.toNat []).getD 3 .any).isInt .i64) (G (((x82.getD x84.toNat []).getD 4 .any).isInt .i64) (C 27 [.sl 0 5 x7m, .str (((x82.getD x84.toNat []).getD 0 .any).toStr)] Hh.none fun v_35 H_36 =>
    G ((v_35).isInt .i64) (cond (ltI ((v_35).toInt) 0)
      (Q (.bool false) (Hh.past H_36))
      (G (leI 0 ((v_35).toInt)) (G (ltI ((v_35).toInt) (lenI x7m)) (G (((x7m.getD (((v_35).toInt).toNat) []).getD 0 .any).isStr) (G (((x7m.getD (((v_35).toInt).toNat) []).getD 1 .any).isStr) (G (((x7m.getD (((v_35).toInt).toNat) []).getD 2 .any).isBool) (G (((x7m.getD (((v_35).toInt).toNat) []).getD 3 .any).isInt .i64) (G (((x7m.getD (((v_35).toInt).toNat) []).getD 4 .any).isInt .i64) (C 28 [.agg [.str (((x82.getD x84.toNat []).getD 0 .any).toStr), .str (((x82.getD x84.toNat []).getD 1 .any).toStr), .bool (((x82.getD x84.toNat []).getD 2 .any).toBool), .int .i64 (((x82.getD x84.toNat []).getD 3 .any).toInt), .int .i64 (((x82.getD x84.toNat []).getD 4 .any).toInt)], .agg [.str (((x7m.getD (((v_35).toInt).toNat) []).getD 0 .any).toStr), .str (((x7m.getD (((v_35).toInt).toNat) []).getD 1 .any).toStr), .bool (((x7m.getD (((v_35).toInt).toNat) []).getD 2 .any).toBool), .int .i64 (((x7m.getD (((v_35).toInt).toNat) []).getD 3 .any).toInt), .int .i64 (((x7m.getD (((v_35).toInt).toNat) []).getD 4 .any).toInt)]] ((Hh.past H_36).none) fun v_37 H_38 =>
        G ((v_37).isBool) (cond ((v_37).toBool)
          (Q (.bool false) (Hh.past H_38))
          (L1 a0 a1 a2 Q x7m x82 x83 (addW .i64 x84 1) (Hh.past H_38))))))))))))))))))))
  (C 9 [] Hh.none fun v_39 H_40 =>
    G ((v_39).isBool) (Q (.bool ((v_39).toBool)) (Hh.past H_40)))
theorem r1_eq (a0 : List (List AV)) (a1 : List (List AV)) (a2 : List (List AV)) (Q : AV → Heap → Prop) (x7m : List (List AV)) (x82 : List (List AV)) (x83 : Int) (x84 : Int) (Hh : Heap) : (fun K s => awp E0 C (E0.L 6) (codeAt (bodyOf E0 6) [1, 1, 1, 1, 1, 0, 1, 0, 0]) 2 s K) (fun e s' => match e with | .normal => ALoop (fun K s => awp E0 C (E0.L 6) (codeAt (bodyOf E0 6) [1, 1, 1, 1, 1, 0, 1, 0, 0]) 2 s K) (clean [(7, 0), (82, 0), (83, 0), (84, 0)] 0) (K1 Q) ((clean [(7, 0), (82, 0), (83, 0), (84, 0)] 0) s') | e => K1 Q e s') ⟨[.any, .any, .any, .any, .any, .any, .any, .sl 0 5 x7m, .any, .any, .any, .any, .any, .any, .any, .any, .any, .any, .any, .any, .any, .any, .any, .any, .any, .any, .any, .any, .any, .any, .any, .any, .any, .any, .any, .any, .any, .any, .any, .any, .any, .any, .any, .any, .any, .any, .any, .any, .any, .any, .any, .any, .any, .any, .any, .any, .any, .any, .any, .any, .any, .any, .any, .any, .any, .any, .any, .any, .any, .any, .any, .any, .any, .any, .any, .any, .any, .any, .any, .any, .any, .any, .sl 1 5 x82, .int .i64 x83, .int .i64 x84, .any, .any, .any, .any, .any, .any, .any, .any, .any, .any, .any, .any, .any, .any, .any, .any, .any, .any, .any], [], Hh⟩ = r1 a0 a1 a2 Q x7m x82 x83 x84 Hh := by kernel_rfl
theorem L1_step {a0 : List (List AV)} {a1 : List (List AV)} {a2 : List (List AV)} {Q : AV → Heap → Prop} {x7m : List (List AV)} {x82 : List (List AV)} {x83 : Int} {x84 : Int} {Hh : Heap} (h : r1 a0 a1 a2 Q x7m x82 x83 x84 Hh) : L1 a0 a1 a2 Q x7m x82 x83 x84 Hh := ALoop_unfold ((r1_eq a0 a1 a2 Q x7m x82 x83 x84 Hh).mpr h)
def t (a0 : List (List AV)) (a1 : List (List AV)) (a2 : List (List AV)) (H : Heap) (Q : AV → Heap → Prop) : Prop :=
  C 12 [.sl 0 1 [[.sl 0 5 a0], [.sl 0 5 a1], [.sl 0 5 a2]]] H.none fun v_1 H_2 =>
  G ((v_1).isBool) (cond (!((v_1).toBool))
    (C 9 [] ((H.past H_2).none) fun v_3 H_4 =>
      G ((v_3).isBool) (Q (.bool ((v_3).toBool)) (H.past H_4)))
    (C 20 [.sl 0 5 a0, .sl 0 5 a1] ((H.past H_2).none) fun v_5 H_6 =>
      G ((v_5).isSl 5) (C 20 [.sl 0 5 a1, .sl 0 5 a0] ((H.past H_6).none) fun v_7 H_8 =>
        G ((v_7).isSl 5) (C 15 [.sl 0 5 ((v_5).slXs), .sl 0 5 ((v_7).slXs)] ((H.past H_8).none) fun v_9 H_10 =>
          G ((v_9).isBool) (cond (!((v_9).toBool))
            (Q (.bool false) (H.past H_10))
            (C 20 [.sl 0 5 a0, .sl 0 5 a0] ((H.past H_10).none) fun v_11 H_12 =>
              G ((v_11).isSl 5) (C 15 [.sl 0 5 ((v_11).slXs), .sl 0 5 a0] ((H.past H_12).none) fun v_13 H_14 =>
                G ((v_13).isBool) (cond (!((v_13).toBool))
                  (Q (.bool false) (H.past H_14))
                  (C 20 [.sl 0 5 ((v_5).slXs), .sl 0 5 a1] ((H.past H_14).none) fun v_15 H_16 =>
                    G ((v_15).isSl 5) (C 15 [.sl 0 5 ((v_15).slXs), .sl 0 5 ((v_5).slXs)] ((H.past H_16).none) fun v_17 H_18 =>
                      G ((v_17).isBool) (cond (!((v_17).toBool))
                        (Q (.bool false) (H.past H_18))
                        (C 20 [.sl 0 5 ((v_5).slXs), .sl 0 5 a2] ((H.past H_18).none) fun v_19 H_20 =>
                          G ((v_19).isSl 5) (C 20 [.sl 0 5 a1, .sl 0 5 a2] ((H.past H_20).none) fun v_21 H_22 =>
                            G ((v_21).isSl 5) (C 20 [.sl 0 5 a0, .sl 0 5 ((v_21).slXs)] ((H.past H_22).none) fun v_23 H_24 =>
                              G ((v_23).isSl 5) (C 15 [.sl 0 5 ((v_19).slXs), .sl 0 5 ((v_23).slXs)] ((H.past H_24).none) fun v_25 H_26 =>
                                G ((v_25).isBool) (cond (!((v_25).toBool))
                                  (Q (.bool false) (H.past H_26))
                                  (C 11 [.sl 0 5 ((v_5).slXs)] ((H.past H_26).none) fun v_27 H_28 =>
                                    G ((v_27).isInt .i64) (cond (!(eqI ((v_27).toInt) 0))
                                      (Q (.bool false) (H.past H_28))
                                      (L0 a0 a1 a2 Q ((v_5).slXs) ((v_5).slXs) (lenI ((v_5).slXs)) 0 (H.past H_28))))))))))))))))))))
theorem t_eq (a0 : List (List AV)) (a1 : List (List AV)) (a2 : List (List AV)) (H : Heap) (Q : AV → Heap → Prop) : aBody E0 C 6 [.sl 0 5 a0, .sl 0 5 a1, .sl 0 5 a2] H Q = t a0 a1 a2 H Q := by kernel_rfl
theorem call {a0 : List (List AV)} {a1 : List (List AV)} {a2 : List (List AV)} {H : Heap} {Q : AV → Heap → Prop} (h : t a0 a1 a2 H Q) : C 6 [.sl 0 5 a0, .sl 0 5 a1, .sl 0 5 a2] H Q := Call_intro ((t_eq a0 a1 a2 H Q).mpr h)
end F6
/-! ### broker/brokerlaw44.HealDiffers: function 7 -/
namespace F7
def K0 (Q : AV → Heap → Prop) : Ex → St → Prop := (contK E0 C (E0.L 7) [.block 0, .seq (codeAt (bodyOf E0 7) [1, 1, 1, 1, 1, 1]) 1] (finK E0 7 Q))
def L0 (a0 : List (List AV)) (a1 : List (List AV)) (Q : AV → Heap → Prop) (x5d : List (List AV)) (x6changed : List (List AV)) (x48 : List (List AV)) (x49 : Int) (x50 : Int) (Hh : Heap) : Prop := ALoop (fun K s => awp E0 C (E0.L 7) (codeAt (bodyOf E0 7) [1, 1, 1, 1, 1, 0, 1, 0, 0]) 1 s K) (clean [(0, 0), (1, 0), (5, 0), (6, 0), (48, 0), (49, 0), (50, 0)] 0) (K0 Q) ⟨[.sl 0 5 a0, .sl 0 5 a1, .any, .any, .any, .sl 0 1 x5d, .sl 0 1 x6changed, .any, .any, .any, .any, .any, .any, .any, .any, .any, .any, .any, .any, .any, .any, .any, .any, .any, .any, .any, .any, .any, .any, .any, .any, .any, .any, .any, .any, .any, .any, .any, .any, .any, .any, .any, .any, .any, .any, .any, .any, .any, .sl 0 1 x48, .int .i64 x49, .int .i64 x50, .any, .any, .any, .any, .any, .any, .any, .any, .any, .any, .any, .any, .any, .any, .any, .any, .any, .any, .any, .any, .any, .any, .any, .any, .any, .any, .any, .any, .any, .any, .any, .any, .any, .any, .any, .any, .any, .any, .any, .any, .any, .any, .any, .any, .any, .any, .any, .any, .any, .any, .any, .any, .any, .any, .any, .any], [], Hh⟩
def K1 (Q : AV → Heap → Prop) : Ex → St → Prop := (contK E0 C (E0.L 7) [.block 2, .seq (codeAt (bodyOf E0 7) [1, 1, 1, 1, 1, 1, 1]) 2] (finK E0 7 Q))
def L1 (a0 : List (List AV)) (a1 : List (List AV)) (Q : AV → Heap → Prop) (x6changed : List (List AV)) (x75 : Int) (Hh : Heap) : Prop := ALoop (fun K s => awp E0 C (E0.L 7) (codeAt (bodyOf E0 7) [1, 1, 1, 1, 1, 1, 0, 1, 0, 0]) 2 s K) (clean [(0, 0), (1, 0), (6, 0), (73, 0), (74, 0), (75, 0)] 0) (K1 Q) ⟨[.sl 0 5 a0, .sl 0 5 a1, .any, .any, .any, .any, .sl 0 1 x6changed, .any, .any, .any, .any, .any, .any, .any, .any, .any, .any, .any, .any, .any, .any, .any, .any, .any, .any, .any, .any, .any, .any, .any, .any, .any, .any, .any, .any, .any, .any, .any, .any, .any, .any, .any, .any, .any, .any, .any, .any, .any, .any, .any, .any, .any, .any, .any, .any, .any, .any, .any, .any, .any, .any, .any, .any, .any, .any, .any, .any, .any, .any, .any, .any, .any, .any, .sl 0 5 a1, .int .i64 (lenI a1), .int .i64 x75, .any, .any, .any, .any, .any, .any, .any, .any, .any, .any, .any, .any, .any, .any, .any, .any, .any, .any, .any, .any, .any, .any, .any, .any, .any, .any, .any, .any, .any, .any, .any], [], Hh⟩
def r0 (a0 : List (List AV)) (a1 : List (List AV)) (Q : AV → Heap → Prop) (x5d : List (List AV)) (x6changed : List (List AV)) (x48 : List (List AV)) (x49 : Int) (x50 : Int) (Hh : Heap) : Prop :=
  cond (ltI x50 x49)
  (G (leI 0 x50) (G (ltI x50 (lenI x48)) (G (((x48.getD x50.toNat []).getD 0 .any).isStr) (cond (ltI 0 x50)
    (G (leI 0 (subW .i64 x50 1)) (G (ltI (subW .i64 x50 1) (lenI x6changed)) (G (((x6changed.getD ((subW .i64 x50 1).toNat) []).getD 0 .any).isStr) (cond (!(ltS (((x6changed.getD ((subW .i64 x50 1).toNat) []).getD 0 .any).toStr) (((x48.getD x50.toNat []).getD 0 .any).toStr)))
      (Q (.bool false) Hh)
      (C 29 [.sl 0 1 x5d, .str (((x48.getD x50.toNat []).getD 0 .any).toStr)] Hh.none fun v_19 H_20 =>
        G ((v_19).isBool) (cond (!((v_19).toBool))
          (Q (.bool false) (Hh.past H_20))
          (L0 a0 a1 Q x5d x6changed x48 x49 (addW .i64 x50 1) (Hh.past H_20))))))))
    (C 29 [.sl 0 1 x5d, .str (((x48.getD x50.toNat []).getD 0 .any).toStr)] Hh.none fun v_21 H_22 =>
      G ((v_21).isBool) (cond (!((v_21).toBool))
        (Q (.bool false) (Hh.past H_22))
        (L0 a0 a1 Q x5d x6changed x48 x49 (addW .i64 x50 1) (Hh.past H_22))))))))
  (L1 a0 a1 Q x6changed 0 Hh)
theorem r0_eq (a0 : List (List AV)) (a1 : List (List AV)) (Q : AV → Heap → Prop) (x5d : List (List AV)) (x6changed : List (List AV)) (x48 : List (List AV)) (x49 : Int) (x50 : Int) (Hh : Heap) : (fun K s => awp E0 C (E0.L 7) (codeAt (bodyOf E0 7) [1, 1, 1, 1, 1, 0, 1, 0, 0]) 1 s K) (fun e s' => match e with | .normal => ALoop (fun K s => awp E0 C (E0.L 7) (codeAt (bodyOf E0 7) [1, 1, 1, 1, 1, 0, 1, 0, 0]) 1 s K) (clean [(0, 0), (1, 0), (5, 0), (6, 0), (48, 0), (49, 0), (50, 0)] 0) (K0 Q) ((clean [(0, 0), (1, 0), (5, 0), (6, 0), (48, 0), (49, 0), (50, 0)] 0) s') | e => K0 Q e s') ⟨[.sl 0 5 a0, .sl 0 5 a1, .any, .any, .any, .sl 0 1 x5d, .sl 0 1 x6changed, .any, .any, .any, .any, .any, .any, .any, .any, .any, .any, .any, .any, .any, .any, .any, .any, .any, .any, .any, .any, .any, .any, .any, .any, .any, .any, .any, .any, .any, .any, .any, .any, .any, .any, .any, .any, .any, .any, .any, .any, .any, .sl 0 1 x48, .int .i64 x49, .int .i64 x50, .any, .any, .any, .any, .any, .any, .any, .any, .any, .any, .any, .any, .any, .any, .any, .any, .any, .any, .any, .any, .any, .any, .any, .any, .any, .any, .any, .any, .any, .any, .any, .any, .any, .any, .any, .any, .any, .any, .any, .any, .any, .any, .any, .any, .any, .any, .any, .any, .any, .any, .any, .any, .any, .any, .any, .any], [], Hh⟩ = r0 a0 a1 Q x5d x6changed x48 x49 x50 Hh := by kernel_rfl
theorem L0_step {a0 : List (List AV)} {a1 : List (List AV)} {Q : AV → Heap → Prop} {x5d : List (List AV)} {x6changed : List (List AV)} {x48 : List (List AV)} {x49 : Int} {x50 : Int} {Hh : Heap} (h : r0 a0 a1 Q x5d x6changed x48 x49 x50 Hh) : L0 a0 a1 Q x5d x6changed x48 x49 x50 Hh := ALoop_unfold ((r0_eq a0 a1 Q x5d x6changed x48 x49 x50 Hh).mpr h)
def r1 (a0 : List (List AV)) (a1 : List (List AV)) (Q : AV → Heap → Prop) (x6changed : List (List AV)) (x75 : Int) (Hh : Heap) : Prop :=
  cond (ltI x75 (lenI a1))
  (G (leI 0 x75) (G (ltI x75 (lenI a1)) (G (((a1.getD x75.toNat []).getD 0 .any).isStr) (G (((a1.getD x75.toNat []).getD 1 .any).isStr) (G (((a1.getD x75.toNat []).getD 2 .any).isBool) (G (((a1.getD x75.toNat []).getD 3 .any).isInt .i64) (G (((a1.getD x75.toNat []).getD 4 .any).isInt .i64) (C 27 [.sl 0 5 a0, .str (((a1.getD x75.toNat []).getD 0 .any).toStr)] Hh.none fun v_23 H_24 =>
    G ((v_23).isInt .i64) (cond (ltI ((v_23).toInt) 0)
      (C 29 [.sl 0 1 x6changed, .str (((a1.getD x75.toNat []).getD 0 .any).toStr)] ((Hh.past H_24).none) fun v_25 H_26 =>
        G ((v_25).isBool) (cond (!(true == ((v_25).toBool)))
          (Q (.bool false) (Hh.past H_26))
          (L1 a0 a1 Q x6changed (addW .i64 x75 1) (Hh.past H_26))))
      (G (leI 0 ((v_23).toInt)) (G (ltI ((v_23).toInt) (lenI a0)) (G (((a0.getD (((v_23).toInt).toNat) []).getD 0 .any).isStr) (G (((a0.getD (((v_23).toInt).toNat) []).getD 1 .any).isStr) (G (((a0.getD (((v_23).toInt).toNat) []).getD 2 .any).isBool) (G (((a0.getD (((v_23).toInt).toNat) []).getD 3 .any).isInt .i64) (G (((a0.getD (((v_23).toInt).toNat) []).getD 4 .any).isInt .i64) (C 28 [.agg [.str (((a1.getD x75.toNat []).getD 0 .any).toStr), .str (((a1.getD x75.toNat []).getD 1 .any).toStr), .bool (((a1.getD x75.toNat []).getD 2 .any).toBool), .int .i64 (((a1.getD x75.toNat []).getD 3 .any).toInt), .int .i64 (((a1.getD x75.toNat []).getD 4 .any).toInt)], .agg [.str (((a0.getD (((v_23).toInt).toNat) []).getD 0 .any).toStr), .str (((a0.getD (((v_23).toInt).toNat) []).getD 1 .any).toStr), .bool (((a0.getD (((v_23).toInt).toNat) []).getD 2 .any).toBool), .int .i64 (((a0.getD (((v_23).toInt).toNat) []).getD 3 .any).toInt), .int .i64 (((a0.getD (((v_23).toInt).toNat) []).getD 4 .any).toInt)]] ((Hh.past H_24).none) fun v_27 H_28 =>
        G ((v_27).isBool) (C 29 [.sl 0 1 x6changed, .str (((a1.getD x75.toNat []).getD 0 .any).toStr)] ((Hh.past H_28).none) fun v_29 H_30 =>
          G ((v_29).isBool) (cond (!(((v_27).toBool) == ((v_29).toBool)))
            (Q (.bool false) (Hh.past H_30))
            (L1 a0 a1 Q x6changed (addW .i64 x75 1) (Hh.past H_30)))))))))))))))))))))
  (cond (leI (lenI x6changed) (lenI a1))
    (C 9 [] Hh.none fun v_31 H_32 =>
      G ((v_31).isBool) (Q (.bool ((v_31).toBool)) (Hh.past H_32)))
    (Q (.bool false) Hh))
theorem r1_eq (a0 : List (List AV)) (a1 : List (List AV)) (Q : AV → Heap → Prop) (x6changed : List (List AV)) (x75 : Int) (Hh : Heap) : (fun K s => awp E0 C (E0.L 7) (codeAt (bodyOf E0 7) [1, 1, 1, 1, 1, 1, 0, 1, 0, 0]) 2 s K) (fun e s' => match e with | .normal => ALoop (fun K s => awp E0 C (E0.L 7) (codeAt (bodyOf E0 7) [1, 1, 1, 1, 1, 1, 0, 1, 0, 0]) 2 s K) (clean [(0, 0), (1, 0), (6, 0), (73, 0), (74, 0), (75, 0)] 0) (K1 Q) ((clean [(0, 0), (1, 0), (6, 0), (73, 0), (74, 0), (75, 0)] 0) s') | e => K1 Q e s') ⟨[.sl 0 5 a0, .sl 0 5 a1, .any, .any, .any, .any, .sl 0 1 x6changed, .any, .any, .any, .any, .any, .any, .any, .any, .any, .any, .any, .any, .any, .any, .any, .any, .any, .any, .any, .any, .any, .any, .any, .any, .any, .any, .any, .any, .any, .any, .any, .any, .any, .any, .any, .any, .any, .any, .any, .any, .any, .any, .any, .any, .any, .any, .any, .any, .any, .any, .any, .any, .any, .any, .any, .any, .any, .any, .any, .any, .any, .any, .any, .any, .any, .any, .sl 0 5 a1, .int .i64 (lenI a1), .int .i64 x75, .any, .any, .any, .any, .any, .any, .any, .any, .any, .any, .any, .any, .any, .any, .any, .any, .any, .any, .any, .any, .any, .any, .any, .any, .any, .any, .any, .any, .any, .any, .any], [], Hh⟩ = r1 a0 a1 Q x6changed x75 Hh := by kernel_rfl
theorem L1_step {a0 : List (List AV)} {a1 : List (List AV)} {Q : AV → Heap → Prop} {x6changed : List (List AV)} {x75 : Int} {Hh : Heap} (h : r1 a0 a1 Q x6changed x75 Hh) : L1 a0 a1 Q x6changed x75 Hh := ALoop_unfold ((r1_eq a0 a1 Q x6changed x75 Hh).mpr h)
def t (a0 : List (List AV)) (a1 : List (List AV)) (H : Heap) (Q : AV → Heap → Prop) : Prop :=
  C 12 [.sl 0 1 [[.sl 0 5 a0], [.sl 0 5 a1]]] H.none fun v_1 H_2 =>
  G ((v_1).isBool) (cond (!((v_1).toBool))
    (C 9 [] ((H.past H_2).none) fun v_3 H_4 =>
      G ((v_3).isBool) (Q (.bool ((v_3).toBool)) (H.past H_4)))
    (C 23 [.sl 0 5 a0, .sl 0 5 a1] ((H.past H_2).none) fun v_5 H_6 =>
      G ((v_5).isSl 1) (C 23 [.sl 0 5 a1, .sl 0 5 a0] ((H.past H_6).none) fun v_7 H_8 =>
        G ((v_7).isSl 1) (C 22 [.sl 0 1 ((v_5).slXs), .sl 0 1 ((v_7).slXs)] ((H.past H_8).none) fun v_9 H_10 =>
          G ((v_9).isBool) (cond (!((v_9).toBool))
            (Q (.bool false) (H.past H_10))
            (C 23 [.sl 0 5 a0, .sl 0 5 a0] ((H.past H_10).none) fun v_11 H_12 =>
              G ((v_11).isSl 1) (cond (!(eqI (lenI ((v_11).slXs)) 0))
                (Q (.bool false) (H.past H_12))
                (C 15 [.sl 0 5 a0, .sl 0 5 a1] ((H.past H_12).none) fun v_13 H_14 =>
                  G ((v_13).isBool) (cond (!((eqI (lenI ((v_5).slXs)) 0) == ((v_13).toBool)))
                    (Q (.bool false) (H.past H_14))
                    (C 20 [.sl 0 5 a0, .sl 0 5 a1] ((H.past H_14).none) fun v_15 H_16 =>
                      G ((v_15).isSl 5) (C 23 [.sl 0 5 a0, .sl 0 5 ((v_15).slXs)] ((H.past H_16).none) fun v_17 H_18 =>
                        G ((v_17).isSl 1) (L0 a0 a1 Q ((v_5).slXs) ((v_17).slXs) ((v_17).slXs) (lenI ((v_17).slXs)) 0 (H.past H_18)))))))))))))
theorem t_eq (a0 : List (List AV)) (a1 : List (List AV)) (H : Heap) (Q : AV → Heap → Prop) : aBody E0 C 7 [.sl 0 5 a0, .sl 0 5 a1] H Q = t a0 a1 H Q := by kernel_rfl
theorem call {a0 : List (List AV)} {a1 : List (List AV)} {H : Heap} {Q : AV → Heap → Prop} (h : t a0 a1 H Q) : C 7 [.sl 0 5 a0, .sl 0 5 a1] H Q := Call_intro ((t_eq a0 a1 H Q).mpr h)
end F7
/-! ### broker/brokerlaw44.HealPrevails: function 8 -/
namespace F8
def t (a0 : List (List AV)) (a1 : List (List AV)) (a2_0 : ByteArray) (a2_1 : ByteArray) (a2_2 : Bool) (a2_3 : Int) (a2_4 : Int) (H : Heap) (Q : AV → Heap → Prop) : Prop :=
  C 12 [.sl 0 1 [[.sl 0 5 a0], [.sl 0 5 a1]]] H.none fun v_1 H_2 =>
  G ((v_1).isBool) (cond (!((v_1).toBool))
    (C 9 [] ((H.past H_2).none) fun v_3 H_4 =>
      G ((v_3).isBool) (Q (.bool ((v_3).toBool)) (H.past H_4)))
    (C 30 [.agg [.str a2_0, .str a2_1, .bool a2_2, .int .i64 a2_3, .int .i64 a2_4]] ((H.past H_2).none) fun v_5 H_6 =>
      G ((v_5).isInt .i64) (cond (!(eqI ((v_5).toInt) 0))
        (C 9 [] ((H.past H_6).none) fun v_7 H_8 =>
          G ((v_7).isBool) (Q (.bool ((v_7).toBool)) (H.past H_8)))
        (C 18 [.sl 0 5 a0, .int .i64 a2_4] ((H.past H_6).none) fun v_9 H_10 =>
          G ((v_9).isAgg && Nat.beq (v_9).aggCs.length 2) (G ((((v_9).aggCs).headD .any).isInt .i64) (G (((((v_9).aggCs).tail).headD .any).isInt .i64) (C 18 [.sl 0 5 a1, .int .i64 (((((v_9).aggCs).tail).headD .any).toInt)] ((H.past H_10).none) fun v_11 H_12 =>
            G ((v_11).isAgg && Nat.beq (v_11).aggCs.length 2) (G ((((v_11).aggCs).headD .any).isInt .i64) (G (((((v_11).aggCs).tail).headD .any).isInt .i64) (cond (ltI ((((v_9).aggCs).headD .any).toInt) ((((v_11).aggCs).headD .any).toInt))
              (cond (ltI 1099511627776 ((((v_11).aggCs).headD .any).toInt))
                (C 9 [] ((H.past H_12).none) fun v_13 H_14 =>
                  G ((v_13).isBool) (Q (.bool ((v_13).toBool)) (H.past H_14)))
                (C 13 [.sl 0 5 a0, .agg [.str a2_0, .str a2_1, .bool a2_2, .int .i64 ((((v_11).aggCs).headD .any).toInt), .int .i64 (((((v_11).aggCs).tail).headD .any).toInt)]] ((H.past H_12).none) fun v_15 H_16 =>
                  G ((v_15).isTup && Nat.beq (v_15).tupVs.length 2) (G ((((v_15).tupVs).headD .any).isSl 5) (G (((((v_15).tupVs).tail).headD .any).isInt .i64) (cond (!(eqI (((((v_15).tupVs).tail).headD .any).toInt) 0))
                    (Q (.bool false) (H.past H_16))
                    (C 25 [.sl 0 5 ((((v_15).tupVs).headD .any).slXs), .agg [.str a2_0, .str a2_1, .bool a2_2, .int .i64 ((((v_11).aggCs).headD .any).toInt), .int .i64 (((((v_11).aggCs).tail).headD .any).toInt)]] ((H.past H_16).none) fun v_17 H_18 =>
                      G ((v_17).isBool) (cond (!((v_17).toBool))
                        (Q (.bool false) (H.past H_18))
                        (C 11 [.sl 0 5 ((((v_15).tupVs).headD .any).slXs)] ((H.past H_18).none) fun v_19 H_20 =>
                          G ((v_19).isInt .i64) (cond (!(eqI ((v_19).toInt) 0))
                            (Q (.bool false) (H.past H_20))
                            (C 16 [.sl 0 5 ((((v_15).tupVs).headD .any).slXs), .str a2_0] ((H.past H_20).none) fun v_21 H_22 =>
                              G ((v_21).isTup && Nat.beq (v_21).tupVs.length 2) (G ((((v_21).tupVs).headD .any).isStr) (G (((((v_21).tupVs).tail).headD .any).isBool) (cond (!((((((v_21).tupVs).tail).headD .any).toBool) == a2_2))
                                (cond (eqS ((((v_21).tupVs).headD .any).toStr) a2_1)
                                  (C 20 [.sl 0 5 a0, .sl 0 5 ((((v_15).tupVs).headD .any).slXs)] ((H.past H_22).none) fun v_23 H_24 =>
                                    G ((v_23).isSl 5) (C 25 [.sl 0 5 ((v_23).slXs), .agg [.str a2_0, .str a2_1, .bool a2_2, .int .i64 ((((v_11).aggCs).headD .any).toInt), .int .i64 (((((v_11).aggCs).tail).headD .any).toInt)]] ((H.past H_24).none) fun v_25 H_26 =>
                                      G ((v_25).isBool) (cond ((v_25).toBool)
                                        (C 20 [.sl 0 5 ((((v_15).tupVs).headD .any).slXs), .sl 0 5 a1] ((H.past H_26).none) fun v_27 H_28 =>
                                          G ((v_27).isSl 5) (C 25 [.sl 0 5 ((v_27).slXs), .agg [.str a2_0, .str a2_1, .bool a2_2, .int .i64 ((((v_11).aggCs).headD .any).toInt), .int .i64 (((((v_11).aggCs).tail).headD .any).toInt)]] ((H.past H_28).none) fun v_29 H_30 =>
                                            G ((v_29).isBool) (cond ((v_29).toBool)
                                              (C 20 [.sl 0 5 a1, .sl 0 5 ((((v_15).tupVs).headD .any).slXs)] ((H.past H_30).none) fun v_31 H_32 =>
                                                G ((v_31).isSl 5) (C 25 [.sl 0 5 ((v_31).slXs), .agg [.str a2_0, .str a2_1, .bool a2_2, .int .i64 ((((v_11).aggCs).headD .any).toInt), .int .i64 (((((v_11).aggCs).tail).headD .any).toInt)]] ((H.past H_32).none) fun v_33 H_34 =>
                                                  G ((v_33).isBool) (cond ((v_33).toBool)
                                                    (C 9 [] ((H.past H_34).none) fun v_35 H_36 =>
                                                      G ((v_35).isBool) (Q (.bool ((v_35).toBool)) (H.past H_36)))
                                                    (Q (.bool false) (H.past H_34)))))
                                              (Q (.bool false) (H.past H_30)))))
                                        (Q (.bool false) (H.past H_26)))))
                                  (Q (.bool false) (H.past H_22)))
                                (Q (.bool false) (H.past H_22)))))))))))))))
              (cond (ltI 1099511627776 ((((v_9).aggCs).headD .any).toInt))
                (C 9 [] ((H.past H_12).none) fun v_37 H_38 =>
                  G ((v_37).isBool) (Q (.bool ((v_37).toBool)) (H.past H_38)))
                (C 13 [.sl 0 5 a0, .agg [.str a2_0, .str a2_1, .bool a2_2, .int .i64 ((((v_9).aggCs).headD .any).toInt), .int .i64 (((((v_9).aggCs).tail).headD .any).toInt)]] ((H.past H_12).none) fun v_39 H_40 =>
                  G ((v_39).isTup && Nat.beq (v_39).tupVs.length 2) (G ((((v_39).tupVs).headD .any).isSl 5) (G (((((v_39).tupVs).tail).headD .any).isInt .i64) (cond (!(eqI (((((v_39).tupVs).tail).headD .any).toInt) 0))
                    (Q (.bool false) (H.past H_40))
                    (C 25 [.sl 0 5 ((((v_39).tupVs).headD .any).slXs), .agg [.str a2_0, .str a2_1, .bool a2_2, .int .i64 ((((v_9).aggCs).headD .any).toInt), .int .i64 (((((v_9).aggCs).tail).headD .any).toInt)]] ((H.past H_40).none) fun v_41 H_42 =>
                      G ((v_41).isBool) (cond (!((v_41).toBool))
                        (Q (.bool false) (H.past H_42))
                        (C 11 [.sl 0 5 ((((v_39).tupVs).headD .any).slXs)] ((H.past H_42).none) fun v_43 H_44 =>
                          G ((v_43).isInt .i64) (cond (!(eqI ((v_43).toInt) 0))
                            (Q (.bool false) (H.past H_44))
                            (C 16 [.sl 0 5 ((((v_39).tupVs).headD .any).slXs), .str a2_0] ((H.past H_44).none) fun v_45 H_46 =>
                              G ((v_45).isTup && Nat.beq (v_45).tupVs.length 2) (G ((((v_45).tupVs).headD .any).isStr) (G (((((v_45).tupVs).tail).headD .any).isBool) (cond (!((((((v_45).tupVs).tail).headD .any).toBool) == a2_2))
                                (cond (eqS ((((v_45).tupVs).headD .any).toStr) a2_1)
                                  (C 20 [.sl 0 5 a0, .sl 0 5 ((((v_39).tupVs).headD .any).slXs)] ((H.past H_46).none) fun v_47 H_48 =>
                                    G ((v_47).isSl 5) (C 25 [.sl 0 5 ((v_47).slXs), .agg [.str a2_0, .str a2_1, .bool a2_2, .int .i64 ((((v_9).aggCs).headD .any).toInt), .int .i64 (((((v_9).aggCs).tail).headD .any).toInt)]] ((H.past H_48).none) fun v_49 H_50 =>
                                      G ((v_49).isBool) (cond ((v_49).toBool)
                                        (C 20 [.sl 0 5 ((((v_39).tupVs).headD .any).slXs), .sl 0 5 a1] ((H.past H_50).none) fun v_51 H_52 =>
                                          G ((v_51).isSl 5) (C 25 [.sl 0 5 ((v_51).slXs), .agg [.str a2_0, .str a2_1, .bool a2_2, .int .i64 ((((v_9).aggCs).headD .any).toInt), .int .i64 (((((v_9).aggCs).tail).headD .any).toInt)]] ((H.past H_52).none) fun v_53 H_54 =>
                                            G ((v_53).isBool) (cond ((v_53).toBool)
                                              (C 20 [.sl 0 5 a1, .sl 0 5 ((((v_39).tupVs).headD .any).slXs)] ((H.past H_54).none) fun v_55 H_56 =>
                                                G ((v_55).isSl 5) (C 25 [.sl 0 5 ((v_55).slXs), .agg [.str a2_0, .str a2_1, .bool a2_2, .int .i64 ((((v_9).aggCs).headD .any).toInt), .int .i64 (((((v_9).aggCs).tail).headD .any).toInt)]] ((H.past H_56).none) fun v_57 H_58 =>
                                                  G ((v_57).isBool) (cond ((v_57).toBool)
                                                    (C 9 [] ((H.past H_58).none) fun v_59 H_60 =>
                                                      G ((v_59).isBool) (Q (.bool ((v_59).toBool)) (H.past H_60)))
                                                    (Q (.bool false) (H.past H_58)))))
                                              (Q (.bool false) (H.past H_54)))))
                                        (Q (.bool false) (H.past H_50)))))
                                  (Q (.bool false) (H.past H_46)))
                                (Q (.bool false) (H.past H_46)))))))))))))))))))))))))
theorem t_eq (a0 : List (List AV)) (a1 : List (List AV)) (a2_0 : ByteArray) (a2_1 : ByteArray) (a2_2 : Bool) (a2_3 : Int) (a2_4 : Int) (H : Heap) (Q : AV → Heap → Prop) : aBody E0 C 8 [.sl 0 5 a0, .sl 0 5 a1, .agg [.str a2_0, .str a2_1, .bool a2_2, .int .i64 a2_3, .int .i64 a2_4]] H Q = t a0 a1 a2_0 a2_1 a2_2 a2_3 a2_4 H Q := by kernel_rfl
theorem call {a0 : List (List AV)} {a1 : List (List AV)} {a2_0 : ByteArray} {a2_1 : ByteArray} {a2_2 : Bool} {a2_3 : Int} {a2_4 : Int} {H : Heap} {Q : AV → Heap → Prop} (h : t a0 a1 a2_0 a2_1 a2_2 a2_3 a2_4 H Q) : C 8 [.sl 0 5 a0, .sl 0 5 a1, .agg [.str a2_0, .str a2_1, .bool a2_2, .int .i64 a2_3, .int .i64 a2_4]] H Q := Call_intro ((t_eq a0 a1 a2_0 a2_1 a2_2 a2_3 a2_4 H Q).mpr h)
end F8
/-! ### broker/brokerlaw44.exampleHolds: function 9 -/
namespace F9
def t  (H : Heap) (Q : AV → Heap → Prop) : Prop :=
  C 31 [.str (⟨#[49]⟩ : ByteArray), .int .i64 1, .int .i64 0] H.none fun v_1 H_2 =>
  G ((v_1).isAgg && Nat.beq (v_1).aggCs.length 5) (G ((((v_1).aggCs).headD .any).isStr) (G (((((v_1).aggCs).tail).headD .any).isStr) (G ((((((v_1).aggCs).tail).tail).headD .any).isBool) (G (((((((v_1).aggCs).tail).tail).tail).headD .any).isInt .i64) (G ((((((((v_1).aggCs).tail).tail).tail).tail).headD .any).isInt .i64) (C 31 [.str (⟨#[50]⟩ : ByteArray), .int .i64 1, .int .i64 2] ((H.past H_2).none) fun v_3 H_4 =>
    G ((v_3).isAgg && Nat.beq (v_3).aggCs.length 5) (G ((((v_3).aggCs).headD .any).isStr) (G (((((v_3).aggCs).tail).headD .any).isStr) (G ((((((v_3).aggCs).tail).tail).headD .any).isBool) (G (((((((v_3).aggCs).tail).tail).tail).headD .any).isInt .i64) (G ((((((((v_3).aggCs).tail).tail).tail).tail).headD .any).isInt .i64) (C 20 [.sl 0 5 [[.str ((((v_1).aggCs).headD .any).toStr), .str (((((v_1).aggCs).tail).headD .any).toStr), .bool ((((((v_1).aggCs).tail).tail).headD .any).toBool), .int .i64 (((((((v_1).aggCs).tail).tail).tail).headD .any).toInt), .int .i64 ((((((((v_1).aggCs).tail).tail).tail).tail).headD .any).toInt)]], .sl 0 5 [[.str ((((v_3).aggCs).headD .any).toStr), .str (((((v_3).aggCs).tail).headD .any).toStr), .bool ((((((v_3).aggCs).tail).tail).headD .any).toBool), .int .i64 (((((((v_3).aggCs).tail).tail).tail).headD .any).toInt), .int .i64 ((((((((v_3).aggCs).tail).tail).tail).tail).headD .any).toInt)]]] ((H.past H_4).none) fun v_5 H_6 =>
      G ((v_5).isSl 5) (C 31 [.str (⟨#[50]⟩ : ByteArray), .int .i64 1, .int .i64 0] ((H.past H_6).none) fun v_7 H_8 =>
        G ((v_7).isAgg && Nat.beq (v_7).aggCs.length 5) (G ((((v_7).aggCs).headD .any).isStr) (G (((((v_7).aggCs).tail).headD .any).isStr) (G ((((((v_7).aggCs).tail).tail).headD .any).isBool) (G (((((((v_7).aggCs).tail).tail).tail).headD .any).isInt .i64) (G ((((((((v_7).aggCs).tail).tail).tail).tail).headD .any).isInt .i64) (C 20 [.sl 0 5 [[.str ((((v_7).aggCs).headD .any).toStr), .str (((((v_7).aggCs).tail).headD .any).toStr), .bool ((((((v_7).aggCs).tail).tail).headD .any).toBool), .int .i64 (((((((v_7).aggCs).tail).tail).tail).headD .any).toInt), .int .i64 ((((((((v_7).aggCs).tail).tail).tail).tail).headD .any).toInt)]], .sl 0 5 [[.str ((((v_1).aggCs).headD .any).toStr), .str (((((v_1).aggCs).tail).headD .any).toStr), .bool ((((((v_1).aggCs).tail).tail).headD .any).toBool), .int .i64 (((((((v_1).aggCs).tail).tail).tail).headD .any).toInt), .int .i64 ((((((((v_1).aggCs).tail).tail).tail).tail).headD .any).toInt)]]] ((H.past H_8).none) fun v_9 H_10 =>
          G ((v_9).isSl 5) (C 20 [.sl 0 5 [[.str (⟨#[97]⟩ : ByteArray), .str (⟨#[]⟩ : ByteArray), .bool true, .int .i64 1, .int .i64 0]], .sl 0 5 [[.str ((((v_1).aggCs).headD .any).toStr), .str (((((v_1).aggCs).tail).headD .any).toStr), .bool ((((((v_1).aggCs).tail).tail).headD .any).toBool), .int .i64 (((((((v_1).aggCs).tail).tail).tail).headD .any).toInt), .int .i64 ((((((((v_1).aggCs).tail).tail).tail).tail).headD .any).toInt)]]] ((H.past H_10).none) fun v_11 H_12 =>
            G ((v_11).isSl 5) (C 31 [.str (⟨#[51]⟩ : ByteArray), .int .i64 1, .int .i64 0] ((H.past H_12).none) fun v_13 H_14 =>
              G ((v_13).isAgg && Nat.beq (v_13).aggCs.length 5) (G ((((v_13).aggCs).headD .any).isStr) (G (((((v_13).aggCs).tail).headD .any).isStr) (G ((((((v_13).aggCs).tail).tail).headD .any).isBool) (G (((((((v_13).aggCs).tail).tail).tail).headD .any).isInt .i64) (G ((((((((v_13).aggCs).tail).tail).tail).tail).headD .any).isInt .i64) (C 13 [.sl 0 5 [[.str ((((v_1).aggCs).headD .any).toStr), .str (((((v_1).aggCs).tail).headD .any).toStr), .bool ((((((v_1).aggCs).tail).tail).headD .any).toBool), .int .i64 (((((((v_1).aggCs).tail).tail).tail).headD .any).toInt), .int .i64 ((((((((v_1).aggCs).tail).tail).tail).tail).headD .any).toInt)]], .agg [.str ((((v_13).aggCs).headD .any).toStr), .str (((((v_13).aggCs).tail).headD .any).toStr), .bool ((((((v_13).aggCs).tail).tail).headD .any).toBool), .int .i64 (((((((v_13).aggCs).tail).tail).tail).headD .any).toInt), .int .i64 ((((((((v_13).aggCs).tail).tail).tail).tail).headD .any).toInt)]] ((H.past H_14).none) fun v_15 H_16 =>
                G ((v_15).isTup && Nat.beq (v_15).tupVs.length 2) (G ((((v_15).tupVs).headD .any).isSl 5) (G (((((v_15).tupVs).tail).headD .any).isInt .i64) (C 13 [.sl 0 5 [[.str ((((v_1).aggCs).headD .any).toStr), .str (((((v_1).aggCs).tail).headD .any).toStr), .bool ((((((v_1).aggCs).tail).tail).headD .any).toBool), .int .i64 (((((((v_1).aggCs).tail).tail).tail).headD .any).toInt), .int .i64 ((((((((v_1).aggCs).tail).tail).tail).tail).headD .any).toInt)]], .agg [.str (⟨#[98]⟩ : ByteArray), .str (⟨#[]⟩ : ByteArray), .bool true, .int .i64 7, .int .i64 0]] ((H.past H_16).none) fun v_17 H_18 =>
                  G ((v_17).isTup && Nat.beq (v_17).tupVs.length 2) (G ((((v_17).tupVs).headD .any).isSl 5) (G (((((v_17).tupVs).tail).headD .any).isInt .i64) (C 16 [.sl 0 5 ((v_5).slXs), .str (⟨#[97]⟩ : ByteArray)] ((H.past H_18).none) fun v_19 H_20 =>
                    G ((v_19).isTup && Nat.beq (v_19).tupVs.length 2) (G ((((v_19).tupVs).headD .any).isStr) (G (((((v_19).tupVs).tail).headD .any).isBool) (C 16 [.sl 0 5 ((((v_17).tupVs).headD .any).slXs), .str (⟨#[98]⟩ : ByteArray)] ((H.past H_20).none) fun v_21 H_22 =>
                      G ((v_21).isTup && Nat.beq (v_21).tupVs.length 2) (G ((((v_21).tupVs).headD .any).isStr) (G (((((v_21).tupVs).tail).headD .any).isBool) (cond (eqI (lenI ((v_5).slXs)) 1)
                        (cond (eqI (lenI ((v_9).slXs)) 1)
                          (G (ltI 0 (lenI ((v_9).slXs))) (G (((((v_9).slXs).getD 0 []).getD 1 .any).isStr) (cond (eqS (((((v_9).slXs).getD 0 []).getD 1 .any).toStr) (⟨#[50]⟩ : ByteArray))
                            (C 15 [.sl 0 5 ((v_11).slXs), .sl 0 5 [[.str ((((v_1).aggCs).headD .any).toStr), .str (((((v_1).aggCs).tail).headD .any).toStr), .bool ((((((v_1).aggCs).tail).tail).headD .any).toBool), .int .i64 (((((((v_1).aggCs).tail).tail).tail).headD .any).toInt), .int .i64 ((((((((v_1).aggCs).tail).tail).tail).tail).headD .any).toInt)]]] ((H.past H_22).none) fun v_23 H_24 =>
                              G ((v_23).isBool) (cond ((v_23).toBool)
                                (cond (eqI (((((v_15).tupVs).tail).headD .any).toInt) 25)
                                  (cond (eqI (((((v_17).tupVs).tail).headD .any).toInt) 0)
                                    (cond (eqI (lenI ((((v_17).tupVs).headD .any).slXs)) 2)
                                      (cond (eqS ((((v_19).tupVs).headD .any).toStr) (⟨#[50]⟩ : ByteArray))
                                        (cond (((((v_19).tupVs).tail).headD .any).toBool)
                                          (cond (!(((((v_21).tupVs).tail).headD .any).toBool))
                                            (C 18 [.sl 0 5 ((((v_17).tupVs).headD .any).slXs), .int .i64 5] ((H.past H_24).none) fun v_25 H_26 =>
                                              G ((v_25).isAgg && Nat.beq (v_25).aggCs.length 2) (G ((((v_25).aggCs).headD .any).isInt .i64) (G (((((v_25).aggCs).tail).headD .any).isInt .i64) (cond ((eqI ((((v_25).aggCs).headD .any).toInt) 8) && ((eqI (((((v_25).aggCs).tail).headD .any).toInt) 5) && true))
                                                (C 23 [.sl 0 5 ((((v_17).tupVs).headD .any).slXs), .sl 0 5 [[.str ((((v_1).aggCs).headD .any).toStr), .str (((((v_1).aggCs).tail).headD .any).toStr), .bool ((((((v_1).aggCs).tail).tail).headD .any).toBool), .int .i64 (((((((v_1).aggCs).tail).tail).tail).headD .any).toInt), .int .i64 ((((((((v_1).aggCs).tail).tail).tail).tail).headD .any).toInt)]]] ((H.past H_26).none) fun v_27 H_28 =>
                                                  G ((v_27).isSl 1) (C 22 [.sl 0 1 ((v_27).slXs), .sl 0 1 [[.str (⟨#[98]⟩ : ByteArray)]]] ((H.past H_28).none) fun v_29 H_30 =>
                                                    G ((v_29).isBool) (cond ((v_29).toBool)
                                                      (C 10 [.sl 0 5 ((((v_17).tupVs).headD .any).slXs)] ((H.past H_30).none) fun v_31 H_32 =>
                                                        G ((v_31).isInt .i64) (Q (.bool (eqI ((v_31).toInt) 0)) (H.past H_32)))
                                                      (Q (.bool false) (H.past H_30)))))
                                                (Q (.bool false) (H.past H_26))))))
                                            (Q (.bool false) (H.past H_24)))
                                          (Q (.bool false) (H.past H_24)))
                                        (Q (.bool false) (H.past H_24)))
                                      (Q (.bool false) (H.past H_24)))
                                    (Q (.bool false) (H.past H_24)))
                                  (Q (.bool false) (H.past H_24)))
                                (Q (.bool false) (H.past H_24))))
                            (Q (.bool false) (H.past H_22)))))
                          (Q (.bool false) (H.past H_22)))
                        (Q (.bool false) (H.past H_22)))))))))))))))))))))))))))))))))))))))))
theorem t_eq  (H : Heap) (Q : AV → Heap → Prop) : aBody E0 C 9 [] H Q = t  H Q := by kernel_rfl
theorem call  {H : Heap} {Q : AV → Heap → Prop} (h : t  H Q) : C 9 [] H Q := Call_intro ((t_eq  H Q).mpr h)
end F9
/-! ### broker/heal.Check: function 10 -/
namespace F10
def K0 (Q : AV → Heap → Prop) : Ex → St → Prop := (contK E0 C (E0.L 10) [.block 0, .seq (codeAt (bodyOf E0 10) [1, 1, 1]) 1] (finK E0 10 Q))
def L0 (a0 : List (List AV)) (Q : AV → Heap → Prop) (x11 : Int) (Hh : Heap) : Prop := ALoop (fun K s => awp E0 C (E0.L 10) (codeAt (bodyOf E0 10) [1, 1, 0, 1, 0, 0]) 1 s K) (clean [(0, 0), (9, 0), (10, 0), (11, 0)] 0) (K0 Q) ⟨[.sl 0 5 a0, .any, .any, .any, .any, .any, .any, .any, .any, .sl 0 5 a0, .int .i64 (lenI a0), .int .i64 x11, .any, .any, .any, .any, .any, .any, .any, .any, .any, .any, .any, .any, .any, .any, .any, .any, .any, .any, .any, .any, .any, .any, .any], [], Hh⟩
def r0 (a0 : List (List AV)) (Q : AV → Heap → Prop) (x11 : Int) (Hh : Heap) : Prop :=
  cond (ltI x11 (lenI a0))
  (G (leI 0 x11) (G (ltI x11 (lenI a0)) (G (((a0.getD x11.toNat []).getD 0 .any).isStr) (G (((a0.getD x11.toNat []).getD 1 .any).isStr) (G (((a0.getD x11.toNat []).getD 2 .any).isBool) (G (((a0.getD x11.toNat []).getD 3 .any).isInt .i64) (G (((a0.getD x11.toNat []).getD 4 .any).isInt .i64) (C 32 [.agg [.str (((a0.getD x11.toNat []).getD 0 .any).toStr), .str (((a0.getD x11.toNat []).getD 1 .any).toStr), .bool (((a0.getD x11.toNat []).getD 2 .any).toBool), .int .i64 (((a0.getD x11.toNat []).getD 3 .any).toInt), .int .i64 (((a0.getD x11.toNat []).getD 4 .any).toInt)]] Hh.none fun v_1 H_2 =>
    G ((v_1).isInt .i64) (cond (!(eqI ((v_1).toInt) 0))
      (Q (.int .i64 ((v_1).toInt)) (Hh.past H_2))
      (cond (ltI 0 x11)
        (G (leI 0 (subW .i64 x11 1)) (G (ltI (subW .i64 x11 1) (lenI a0)) (G (((a0.getD ((subW .i64 x11 1).toNat) []).getD 0 .any).isStr) (cond (!(ltS (((a0.getD ((subW .i64 x11 1).toNat) []).getD 0 .any).toStr) (((a0.getD x11.toNat []).getD 0 .any).toStr)))
          (Q (.int .i64 22) (Hh.past H_2))
          (L0 a0 Q (addW .i64 x11 1) (Hh.past H_2))))))
        (L0 a0 Q (addW .i64 x11 1) (Hh.past H_2))))))))))))
  (Q (.int .i64 0) Hh)
theorem r0_eq (a0 : List (List AV)) (Q : AV → Heap → Prop) (x11 : Int) (Hh : Heap) : (fun K s => awp E0 C (E0.L 10) (codeAt (bodyOf E0 10) [1, 1, 0, 1, 0, 0]) 1 s K) (fun e s' => match e with | .normal => ALoop (fun K s => awp E0 C (E0.L 10) (codeAt (bodyOf E0 10) [1, 1, 0, 1, 0, 0]) 1 s K) (clean [(0, 0), (9, 0), (10, 0), (11, 0)] 0) (K0 Q) ((clean [(0, 0), (9, 0), (10, 0), (11, 0)] 0) s') | e => K0 Q e s') ⟨[.sl 0 5 a0, .any, .any, .any, .any, .any, .any, .any, .any, .sl 0 5 a0, .int .i64 (lenI a0), .int .i64 x11, .any, .any, .any, .any, .any, .any, .any, .any, .any, .any, .any, .any, .any, .any, .any, .any, .any, .any, .any, .any, .any, .any, .any], [], Hh⟩ = r0 a0 Q x11 Hh := by kernel_rfl
theorem L0_step {a0 : List (List AV)} {Q : AV → Heap → Prop} {x11 : Int} {Hh : Heap} (h : r0 a0 Q x11 Hh) : L0 a0 Q x11 Hh := ALoop_unfold ((r0_eq a0 Q x11 Hh).mpr h)
def t (a0 : List (List AV)) (H : Heap) (Q : AV → Heap → Prop) : Prop :=
  cond (ltI 256 (lenI a0))
  (Q (.int .i64 5) H)
  (L0 a0 Q 0 H)
theorem t_eq (a0 : List (List AV)) (H : Heap) (Q : AV → Heap → Prop) : aBody E0 C 10 [.sl 0 5 a0] H Q = t a0 H Q := by kernel_rfl
theorem call {a0 : List (List AV)} {H : Heap} {Q : AV → Heap → Prop} (h : t a0 H Q) : C 10 [.sl 0 5 a0] H Q := Call_intro ((t_eq a0 H Q).mpr h)
end F10
/-! ### broker/brokerref44.Check: function 11 -/
namespace F11
def K0 (Q : AV → Heap → Prop) : Ex → St → Prop := (contK E0 C (E0.L 11) [.block 0, .seq (codeAt (bodyOf E0 11) [1, 1, 1]) 1] (finK E0 11 Q))
def L0 (a0 : List (List AV)) (Q : AV → Heap → Prop) (x11 : Int) (Hh : Heap) : Prop := ALoop (fun K s => awp E0 C (E0.L 11) (codeAt (bodyOf E0 11) [1, 1, 0, 1, 0, 0]) 1 s K) (clean [(0, 0), (9, 0), (10, 0), (11, 0)] 0) (K0 Q) ⟨[.sl 0 5 a0, .any, .any, .any, .any, .any, .any, .any, .any, .sl 0 5 a0, .int .i64 (lenI a0), .int .i64 x11, .any, .any, .any, .any, .any, .any, .any, .any, .any, .any, .any, .any, .any, .any, .any, .any, .any, .any, .any, .any, .any, .any, .any], [], Hh⟩
def r0 (a0 : List (List AV)) (Q : AV → Heap → Prop) (x11 : Int) (Hh : Heap) : Prop :=
  cond (ltI x11 (lenI a0))
  (G (leI 0 x11) (G (ltI x11 (lenI a0)) (G (((a0.getD x11.toNat []).getD 0 .any).isStr) (G (((a0.getD x11.toNat []).getD 1 .any).isStr) (G (((a0.getD x11.toNat []).getD 2 .any).isBool) (G (((a0.getD x11.toNat []).getD 3 .any).isInt .i64) (G (((a0.getD x11.toNat []).getD 4 .any).isInt .i64) (C 30 [.agg [.str (((a0.getD x11.toNat []).getD 0 .any).toStr), .str (((a0.getD x11.toNat []).getD 1 .any).toStr), .bool (((a0.getD x11.toNat []).getD 2 .any).toBool), .int .i64 (((a0.getD x11.toNat []).getD 3 .any).toInt), .int .i64 (((a0.getD x11.toNat []).getD 4 .any).toInt)]] Hh.none fun v_1 H_2 =>
    G ((v_1).isInt .i64) (cond (!(eqI ((v_1).toInt) 0))
      (Q (.int .i64 ((v_1).toInt)) (Hh.past H_2))
      (cond (ltI 0 x11)
        (G (leI 0 (subW .i64 x11 1)) (G (ltI (subW .i64 x11 1) (lenI a0)) (G (((a0.getD ((subW .i64 x11 1).toNat) []).getD 0 .any).isStr) (cond (!(ltS (((a0.getD ((subW .i64 x11 1).toNat) []).getD 0 .any).toStr) (((a0.getD x11.toNat []).getD 0 .any).toStr)))
          (Q (.int .i64 22) (Hh.past H_2))
          (L0 a0 Q (addW .i64 x11 1) (Hh.past H_2))))))
        (L0 a0 Q (addW .i64 x11 1) (Hh.past H_2))))))))))))
  (Q (.int .i64 0) Hh)
theorem r0_eq (a0 : List (List AV)) (Q : AV → Heap → Prop) (x11 : Int) (Hh : Heap) : (fun K s => awp E0 C (E0.L 11) (codeAt (bodyOf E0 11) [1, 1, 0, 1, 0, 0]) 1 s K) (fun e s' => match e with | .normal => ALoop (fun K s => awp E0 C (E0.L 11) (codeAt (bodyOf E0 11) [1, 1, 0, 1, 0, 0]) 1 s K) (clean [(0, 0), (9, 0), (10, 0), (11, 0)] 0) (K0 Q) ((clean [(0, 0), (9, 0), (10, 0), (11, 0)] 0) s') | e => K0 Q e s') ⟨[.sl 0 5 a0, .any, .any, .any, .any, .any, .any, .any, .any, .sl 0 5 a0, .int .i64 (lenI a0), .int .i64 x11, .any, .any, .any, .any, .any, .any, .any, .any, .any, .any, .any, .any, .any, .any, .any, .any, .any, .any, .any, .any, .any, .any, .any], [], Hh⟩ = r0 a0 Q x11 Hh := by kernel_rfl
theorem L0_step {a0 : List (List AV)} {Q : AV → Heap → Prop} {x11 : Int} {Hh : Heap} (h : r0 a0 Q x11 Hh) : L0 a0 Q x11 Hh := ALoop_unfold ((r0_eq a0 Q x11 Hh).mpr h)
def t (a0 : List (List AV)) (H : Heap) (Q : AV → Heap → Prop) : Prop :=
  cond (ltI 256 (lenI a0))
  (Q (.int .i64 5) H)
  (L0 a0 Q 0 H)
theorem t_eq (a0 : List (List AV)) (H : Heap) (Q : AV → Heap → Prop) : aBody E0 C 11 [.sl 0 5 a0] H Q = t a0 H Q := by kernel_rfl
theorem call {a0 : List (List AV)} {H : Heap} {Q : AV → Heap → Prop} (h : t a0 H Q) : C 11 [.sl 0 5 a0] H Q := Call_intro ((t_eq a0 H Q).mpr h)
end F11
/-! ### broker/brokerlaw44.small: function 12 -/
namespace F12
def K0 (Q : AV → Heap → Prop) : Ex → St → Prop := (contK E0 C (E0.L 12) [.block 0, .seq (codeAt (bodyOf E0 12) [1, 1]) 1] (finK E0 12 Q))
def L0 (a0 : List (List AV)) (Q : AV → Heap → Prop) (x7 : Int) (Hh : Heap) : Prop := ALoop (fun K s => awp E0 C (E0.L 12) (codeAt (bodyOf E0 12) [1, 0, 1, 0, 0]) 1 s K) (clean [(5, 0), (6, 0), (7, 0)] 0) (K0 Q) ⟨[.any, .any, .any, .any, .any, .sl 0 1 a0, .int .i64 (lenI a0), .int .i64 x7, .any, .any, .any, .any, .any, .any, .any, .any, .any, .any, .any, .any], [], Hh⟩
def r0 (a0 : List (List AV)) (Q : AV → Heap → Prop) (x7 : Int) (Hh : Heap) : Prop :=
  cond (ltI x7 (lenI a0))
  (G (leI 0 x7) (G (ltI x7 (lenI a0)) (G (((a0.getD x7.toNat []).getD 0 .any).isSl 5) (cond (ltI 40 (lenI (((a0.getD x7.toNat []).getD 0 .any).slXs)))
    (Q (.bool false) Hh)
    (C 11 [.sl 0 5 (((a0.getD x7.toNat []).getD 0 .any).slXs)] Hh.none fun v_1 H_2 =>
      G ((v_1).isInt .i64) (cond (!(eqI ((v_1).toInt) 0))
        (Q (.bool false) (Hh.past H_2))
        (L0 a0 Q (addW .i64 x7 1) (Hh.past H_2))))))))
  (Q (.bool true) Hh)
theorem r0_eq (a0 : List (List AV)) (Q : AV → Heap → Prop) (x7 : Int) (Hh : Heap) : (fun K s => awp E0 C (E0.L 12) (codeAt (bodyOf E0 12) [1, 0, 1, 0, 0]) 1 s K) (fun e s' => match e with | .normal => ALoop (fun K s => awp E0 C (E0.L 12) (codeAt (bodyOf E0 12) [1, 0, 1, 0, 0]) 1 s K) (clean [(5, 0), (6, 0), (7, 0)] 0) (K0 Q) ((clean [(5, 0), (6, 0), (7, 0)] 0) s') | e => K0 Q e s') ⟨[.any, .any, .any, .any, .any, .sl 0 1 a0, .int .i64 (lenI a0), .int .i64 x7, .any, .any, .any, .any, .any, .any, .any, .any, .any, .any, .any, .any], [], Hh⟩ = r0 a0 Q x7 Hh := by kernel_rfl
theorem L0_step {a0 : List (List AV)} {Q : AV → Heap → Prop} {x7 : Int} {Hh : Heap} (h : r0 a0 Q x7 Hh) : L0 a0 Q x7 Hh := ALoop_unfold ((r0_eq a0 Q x7 Hh).mpr h)
def t (a0 : List (List AV)) (H : Heap) (Q : AV → Heap → Prop) : Prop :=
  L0 a0 Q 0 H
theorem t_eq (a0 : List (List AV)) (H : Heap) (Q : AV → Heap → Prop) : aBody E0 C 12 [.sl 0 1 a0] H Q = t a0 H Q := by kernel_rfl
theorem call {a0 : List (List AV)} {H : Heap} {Q : AV → Heap → Prop} (h : t a0 H Q) : C 12 [.sl 0 1 a0] H Q := Call_intro ((t_eq a0 H Q).mpr h)
end F12
/-! ### broker/heal.Set: function 13 -/
namespace F13
def t (a0 : List (List AV)) (a1_0 : ByteArray) (a1_1 : ByteArray) (a1_2 : Bool) (a1_3 : Int) (a1_4 : Int) (H : Heap) (Q : AV → Heap → Prop) : Prop :=
  C 32 [.agg [.str a1_0, .str a1_1, .bool a1_2, .int .i64 a1_3, .int .i64 a1_4]] H.none fun v_1 H_2 =>
  G ((v_1).isInt .i64) (cond (!(eqI ((v_1).toInt) 0))
    (Q (.tup [.nilsl, .int .i64 ((v_1).toInt)]) (H.past H_2))
    (C 33 [.sl 0 5 a0, .str a1_0] ((H.past H_2).none) fun v_3 H_4 =>
      G ((v_3).isTup && Nat.beq (v_3).tupVs.length 2) (G ((((v_3).tupVs).headD .any).isInt .i64) (G (((((v_3).tupVs).tail).headD .any).isBool) (cond (((((v_3).tupVs).tail).headD .any).toBool)
        (G (leI 0 ((((v_3).tupVs).headD .any).toInt)) (G (ltI ((((v_3).tupVs).headD .any).toInt) (lenI a0)) (G (((a0.getD (((((v_3).tupVs).headD .any).toInt).toNat) []).getD 3 .any).isInt .i64) (G (((a0.getD (((((v_3).tupVs).headD .any).toInt).toNat) []).getD 4 .any).isInt .i64) (C 34 [.agg [.int .i64 a1_3, .int .i64 a1_4], .agg [.int .i64 (((a0.getD (((((v_3).tupVs).headD .any).toInt).toNat) []).getD 3 .any).toInt), .int .i64 (((a0.getD (((((v_3).tupVs).headD .any).toInt).toNat) []).getD 4 .any).toInt)]] ((H.past H_4).none) fun v_5 H_6 =>
          G ((v_5).isBool) (cond (!((v_5).toBool))
            (Q (.tup [.nilsl, .int .i64 25]) (H.past H_6))
            (cond (!(((((v_3).tupVs).tail).headD .any).toBool))
              (cond (leI 256 (lenI a0))
                (Q (.tup [.nilsl, .int .i64 6]) (H.past H_6))
                (C 26 [.sl 0 5 a0] ((H.past H_6).none) fun v_7 H_8 =>
                  G ((v_7).isOwn 5) (cond (((((v_3).tupVs).tail).headD .any).toBool)
                    (G (leI 0 ((((v_3).tupVs).headD .any).toInt)) (G (ltI ((((v_3).tupVs).headD .any).toInt) (lenI ((v_7).slXs))) (Q (.tup [.sl 0 5 (((v_7).slXs).set (((((v_3).tupVs).headD .any).toInt).toNat) ((((((((v_7).slXs).getD (((((v_3).tupVs).headD .any).toInt).toNat) []).set 0 (.str a1_0)).set 1 (.str a1_1)).set 2 (.bool a1_2)).set 3 (.int .i64 a1_3)).set 4 (.int .i64 a1_4))), .int .i64 0]) (H.past H_8))))
                    (ioBack C 35 5 ((v_7).slXs) [.int .i64 ((((v_3).tupVs).headD .any).toInt), .sl 0 5 [[.str a1_0, .str a1_1, .bool a1_2, .int .i64 a1_3, .int .i64 a1_4]]] (H.past H_8) fun y_9 H_10 =>
                      Q (.tup [.sl 0 5 y_9, .int .i64 0]) H_10))))
              (C 26 [.sl 0 5 a0] ((H.past H_6).none) fun v_11 H_12 =>
                G ((v_11).isOwn 5) (cond (((((v_3).tupVs).tail).headD .any).toBool)
                  (G (leI 0 ((((v_3).tupVs).headD .any).toInt)) (G (ltI ((((v_3).tupVs).headD .any).toInt) (lenI ((v_11).slXs))) (Q (.tup [.sl 0 5 (((v_11).slXs).set (((((v_3).tupVs).headD .any).toInt).toNat) ((((((((v_11).slXs).getD (((((v_3).tupVs).headD .any).toInt).toNat) []).set 0 (.str a1_0)).set 1 (.str a1_1)).set 2 (.bool a1_2)).set 3 (.int .i64 a1_3)).set 4 (.int .i64 a1_4))), .int .i64 0]) (H.past H_12))))
                  (ioBack C 35 5 ((v_11).slXs) [.int .i64 ((((v_3).tupVs).headD .any).toInt), .sl 0 5 [[.str a1_0, .str a1_1, .bool a1_2, .int .i64 a1_3, .int .i64 a1_4]]] (H.past H_12) fun y_13 H_14 =>
                    Q (.tup [.sl 0 5 y_13, .int .i64 0]) H_14))))))))))
        (cond (!(((((v_3).tupVs).tail).headD .any).toBool))
          (cond (leI 256 (lenI a0))
            (Q (.tup [.nilsl, .int .i64 6]) (H.past H_4))
            (C 26 [.sl 0 5 a0] ((H.past H_4).none) fun v_15 H_16 =>
              G ((v_15).isOwn 5) (cond (((((v_3).tupVs).tail).headD .any).toBool)
                (G (leI 0 ((((v_3).tupVs).headD .any).toInt)) (G (ltI ((((v_3).tupVs).headD .any).toInt) (lenI ((v_15).slXs))) (Q (.tup [.sl 0 5 (((v_15).slXs).set (((((v_3).tupVs).headD .any).toInt).toNat) ((((((((v_15).slXs).getD (((((v_3).tupVs).headD .any).toInt).toNat) []).set 0 (.str a1_0)).set 1 (.str a1_1)).set 2 (.bool a1_2)).set 3 (.int .i64 a1_3)).set 4 (.int .i64 a1_4))), .int .i64 0]) (H.past H_16))))
                (ioBack C 35 5 ((v_15).slXs) [.int .i64 ((((v_3).tupVs).headD .any).toInt), .sl 0 5 [[.str a1_0, .str a1_1, .bool a1_2, .int .i64 a1_3, .int .i64 a1_4]]] (H.past H_16) fun y_17 H_18 =>
                  Q (.tup [.sl 0 5 y_17, .int .i64 0]) H_18))))
          (C 26 [.sl 0 5 a0] ((H.past H_4).none) fun v_19 H_20 =>
            G ((v_19).isOwn 5) (cond (((((v_3).tupVs).tail).headD .any).toBool)
              (G (leI 0 ((((v_3).tupVs).headD .any).toInt)) (G (ltI ((((v_3).tupVs).headD .any).toInt) (lenI ((v_19).slXs))) (Q (.tup [.sl 0 5 (((v_19).slXs).set (((((v_3).tupVs).headD .any).toInt).toNat) ((((((((v_19).slXs).getD (((((v_3).tupVs).headD .any).toInt).toNat) []).set 0 (.str a1_0)).set 1 (.str a1_1)).set 2 (.bool a1_2)).set 3 (.int .i64 a1_3)).set 4 (.int .i64 a1_4))), .int .i64 0]) (H.past H_20))))
              (ioBack C 35 5 ((v_19).slXs) [.int .i64 ((((v_3).tupVs).headD .any).toInt), .sl 0 5 [[.str a1_0, .str a1_1, .bool a1_2, .int .i64 a1_3, .int .i64 a1_4]]] (H.past H_20) fun y_21 H_22 =>
                Q (.tup [.sl 0 5 y_21, .int .i64 0]) H_22)))))))))
theorem t_eq (a0 : List (List AV)) (a1_0 : ByteArray) (a1_1 : ByteArray) (a1_2 : Bool) (a1_3 : Int) (a1_4 : Int) (H : Heap) (Q : AV → Heap → Prop) : aBody E0 C 13 [.sl 0 5 a0, .agg [.str a1_0, .str a1_1, .bool a1_2, .int .i64 a1_3, .int .i64 a1_4]] H Q = t a0 a1_0 a1_1 a1_2 a1_3 a1_4 H Q := by kernel_rfl
theorem call {a0 : List (List AV)} {a1_0 : ByteArray} {a1_1 : ByteArray} {a1_2 : Bool} {a1_3 : Int} {a1_4 : Int} {H : Heap} {Q : AV → Heap → Prop} (h : t a0 a1_0 a1_1 a1_2 a1_3 a1_4 H Q) : C 13 [.sl 0 5 a0, .agg [.str a1_0, .str a1_1, .bool a1_2, .int .i64 a1_3, .int .i64 a1_4]] H Q := Call_intro ((t_eq a0 a1_0 a1_1 a1_2 a1_3 a1_4 H Q).mpr h)
end F13
/-! ### broker/brokerref44.Set: function 14 -/
namespace F14
def t (a0 : List (List AV)) (a1_0 : ByteArray) (a1_1 : ByteArray) (a1_2 : Bool) (a1_3 : Int) (a1_4 : Int) (H : Heap) (Q : AV → Heap → Prop) : Prop :=
  C 30 [.agg [.str a1_0, .str a1_1, .bool a1_2, .int .i64 a1_3, .int .i64 a1_4]] H.none fun v_1 H_2 =>
  G ((v_1).isInt .i64) (cond (!(eqI ((v_1).toInt) 0))
    (Q (.tup [.nilsl, .int .i64 ((v_1).toInt)]) (H.past H_2))
    (C 36 [.sl 0 5 a0, .str a1_0] ((H.past H_2).none) fun v_3 H_4 =>
      G ((v_3).isInt .i64) (cond (leI 0 ((v_3).toInt))
        (G (leI 0 ((v_3).toInt)) (G (ltI ((v_3).toInt) (lenI a0)) (G (((a0.getD (((v_3).toInt).toNat) []).getD 3 .any).isInt .i64) (G (((a0.getD (((v_3).toInt).toNat) []).getD 4 .any).isInt .i64) (C 37 [.agg [.int .i64 a1_3, .int .i64 a1_4], .agg [.int .i64 (((a0.getD (((v_3).toInt).toNat) []).getD 3 .any).toInt), .int .i64 (((a0.getD (((v_3).toInt).toNat) []).getD 4 .any).toInt)]] ((H.past H_4).none) fun v_5 H_6 =>
          G ((v_5).isBool) (cond (!((v_5).toBool))
            (Q (.tup [.nilsl, .int .i64 25]) (H.past H_6))
            (cond (ltI ((v_3).toInt) 0)
              (cond (leI 256 (lenI a0))
                (Q (.tup [.nilsl, .int .i64 6]) (H.past H_6))
                (C 38 [.sl 0 5 a0, .agg [.str a1_0, .str a1_1, .bool a1_2, .int .i64 a1_3, .int .i64 a1_4]] ((H.past H_6).none) fun v_7 H_8 =>
                  G ((v_7).isSl 5) (Q (.tup [.sl 0 5 ((v_7).slXs), .int .i64 0]) (H.past H_8))))
              (C 38 [.sl 0 5 a0, .agg [.str a1_0, .str a1_1, .bool a1_2, .int .i64 a1_3, .int .i64 a1_4]] ((H.past H_6).none) fun v_9 H_10 =>
                G ((v_9).isSl 5) (Q (.tup [.sl 0 5 ((v_9).slXs), .int .i64 0]) (H.past H_10))))))))))
        (cond (ltI ((v_3).toInt) 0)
          (cond (leI 256 (lenI a0))
            (Q (.tup [.nilsl, .int .i64 6]) (H.past H_4))
            (C 38 [.sl 0 5 a0, .agg [.str a1_0, .str a1_1, .bool a1_2, .int .i64 a1_3, .int .i64 a1_4]] ((H.past H_4).none) fun v_11 H_12 =>
              G ((v_11).isSl 5) (Q (.tup [.sl 0 5 ((v_11).slXs), .int .i64 0]) (H.past H_12))))
          (C 38 [.sl 0 5 a0, .agg [.str a1_0, .str a1_1, .bool a1_2, .int .i64 a1_3, .int .i64 a1_4]] ((H.past H_4).none) fun v_13 H_14 =>
            G ((v_13).isSl 5) (Q (.tup [.sl 0 5 ((v_13).slXs), .int .i64 0]) (H.past H_14)))))))
theorem t_eq (a0 : List (List AV)) (a1_0 : ByteArray) (a1_1 : ByteArray) (a1_2 : Bool) (a1_3 : Int) (a1_4 : Int) (H : Heap) (Q : AV → Heap → Prop) : aBody E0 C 14 [.sl 0 5 a0, .agg [.str a1_0, .str a1_1, .bool a1_2, .int .i64 a1_3, .int .i64 a1_4]] H Q = t a0 a1_0 a1_1 a1_2 a1_3 a1_4 H Q := by kernel_rfl
theorem call {a0 : List (List AV)} {a1_0 : ByteArray} {a1_1 : ByteArray} {a1_2 : Bool} {a1_3 : Int} {a1_4 : Int} {H : Heap} {Q : AV → Heap → Prop} (h : t a0 a1_0 a1_1 a1_2 a1_3 a1_4 H Q) : C 14 [.sl 0 5 a0, .agg [.str a1_0, .str a1_1, .bool a1_2, .int .i64 a1_3, .int .i64 a1_4]] H Q := Call_intro ((t_eq a0 a1_0 a1_1 a1_2 a1_3 a1_4 H Q).mpr h)
end F14
/-! ### slices.Equal[[]broker/api.Cell,broker/api.Cell]: function 15 -/
namespace F15
def K0 (Q : AV → Heap → Prop) : Ex → St → Prop := (contK E0 C (E0.L 15) [.block 0, .seq (codeAt (bodyOf E0 15) [1, 1, 1]) 1] (finK E0 15 Q))
def L0 (a0 : List (List AV)) (a1 : List (List AV)) (Q : AV → Heap → Prop) (x13 : Int) (Hh : Heap) : Prop := ALoop (fun K s => awp E0 C (E0.L 15) (codeAt (bodyOf E0 15) [1, 1, 0, 1, 0, 0]) 1 s K) (clean [(0, 0), (1, 0), (12, 0), (13, 0)] 0) (K0 Q) ⟨[.sl 0 5 a0, .sl 0 5 a1, .any, .any, .any, .any, .any, .any, .any, .any, .any, .any, .int .i64 (lenI a0), .int .i64 x13, .any, .any, .any, .any, .any, .any, .any, .any, .any, .any, .any, .any], [], Hh⟩
def r0 (a0 : List (List AV)) (a1 : List (List AV)) (Q : AV → Heap → Prop) (x13 : Int) (Hh : Heap) : Prop :=
  cond (ltI x13 (lenI a0))
  (G (leI 0 x13) (G (ltI x13 (lenI a0)) (G (((a0.getD x13.toNat []).getD 0 .any).isStr) (G (((a0.getD x13.toNat []).getD 1 .any).isStr) (G (((a0.getD x13.toNat []).getD 2 .any).isBool) (G (((a0.getD x13.toNat []).getD 3 .any).isInt .i64) (G (((a0.getD x13.toNat []).getD 4 .any).isInt .i64) (G (leI 0 x13) (G (ltI x13 (lenI a1)) (G (((a1.getD x13.toNat []).getD 0 .any).isStr) (G (((a1.getD x13.toNat []).getD 1 .any).isStr) (G (((a1.getD x13.toNat []).getD 2 .any).isBool) (G (((a1.getD x13.toNat []).getD 3 .any).isInt .i64) (G (((a1.getD x13.toNat []).getD 4 .any).isInt .i64) (cond (!((eqS (((a0.getD x13.toNat []).getD 0 .any).toStr) (((a1.getD x13.toNat []).getD 0 .any).toStr)) && ((eqS (((a0.getD x13.toNat []).getD 1 .any).toStr) (((a1.getD x13.toNat []).getD 1 .any).toStr)) && (((((a0.getD x13.toNat []).getD 2 .any).toBool) == (((a1.getD x13.toNat []).getD 2 .any).toBool)) && ((eqI (((a0.getD x13.toNat []).getD 3 .any).toInt) (((a1.getD x13.toNat []).getD 3 .any).toInt)) && ((eqI (((a0.getD x13.toNat []).getD 4 .any).toInt) (((a1.getD x13.toNat []).getD 4 .any).toInt)) && true))))))
    (Q (.bool false) Hh)
    (L0 a0 a1 Q (addW .i64 x13 1) Hh))))))))))))))))
  (Q (.bool true) Hh)
theorem r0_eq (a0 : List (List AV)) (a1 : List (List AV)) (Q : AV → Heap → Prop) (x13 : Int) (Hh : Heap) : (fun K s => awp E0 C (E0.L 15) (codeAt (bodyOf E0 15) [1, 1, 0, 1, 0, 0]) 1 s K) (fun e s' => match e with | .normal => ALoop (fun K s => awp E0 C (E0.L 15) (codeAt (bodyOf E0 15) [1, 1, 0, 1, 0, 0]) 1 s K) (clean [(0, 0), (1, 0), (12, 0), (13, 0)] 0) (K0 Q) ((clean [(0, 0), (1, 0), (12, 0), (13, 0)] 0) s') | e => K0 Q e s') ⟨[.sl 0 5 a0, .sl 0 5 a1, .any, .any, .any, .any, .any, .any, .any, .any, .any, .any, .int .i64 (lenI a0), .int .i64 x13, .any, .any, .any, .any, .any, .any, .any, .any, .any, .any, .any, .any], [], Hh⟩ = r0 a0 a1 Q x13 Hh := by kernel_rfl
theorem L0_step {a0 : List (List AV)} {a1 : List (List AV)} {Q : AV → Heap → Prop} {x13 : Int} {Hh : Heap} (h : r0 a0 a1 Q x13 Hh) : L0 a0 a1 Q x13 Hh := ALoop_unfold ((r0_eq a0 a1 Q x13 Hh).mpr h)
def t (a0 : List (List AV)) (a1 : List (List AV)) (H : Heap) (Q : AV → Heap → Prop) : Prop :=
  cond (!(eqI (lenI a0) (lenI a1)))
  (Q (.bool false) H)
  (L0 a0 a1 Q 0 H)
theorem t_eq (a0 : List (List AV)) (a1 : List (List AV)) (H : Heap) (Q : AV → Heap → Prop) : aBody E0 C 15 [.sl 0 5 a0, .sl 0 5 a1] H Q = t a0 a1 H Q := by kernel_rfl
theorem call {a0 : List (List AV)} {a1 : List (List AV)} {H : Heap} {Q : AV → Heap → Prop} (h : t a0 a1 H Q) : C 15 [.sl 0 5 a0, .sl 0 5 a1] H Q := Call_intro ((t_eq a0 a1 H Q).mpr h)
end F15
/-! ### broker/heal.Get: function 16 -/
namespace F16
def t (a0 : List (List AV)) (a1 : ByteArray) (H : Heap) (Q : AV → Heap → Prop) : Prop :=
  C 33 [.sl 0 5 a0, .str a1] H.none fun v_1 H_2 =>
  G ((v_1).isTup && Nat.beq (v_1).tupVs.length 2) (G ((((v_1).tupVs).headD .any).isInt .i64) (G (((((v_1).tupVs).tail).headD .any).isBool) (cond (!(((((v_1).tupVs).tail).headD .any).toBool))
    (Q (.tup [.str (⟨#[]⟩ : ByteArray), .bool false]) (H.past H_2))
    (G (leI 0 ((((v_1).tupVs).headD .any).toInt)) (G (ltI ((((v_1).tupVs).headD .any).toInt) (lenI a0)) (G (((a0.getD (((((v_1).tupVs).headD .any).toInt).toNat) []).getD 2 .any).isBool) (cond (((a0.getD (((((v_1).tupVs).headD .any).toInt).toNat) []).getD 2 .any).toBool)
      (Q (.tup [.str (⟨#[]⟩ : ByteArray), .bool false]) (H.past H_2))
      (G (leI 0 ((((v_1).tupVs).headD .any).toInt)) (G (ltI ((((v_1).tupVs).headD .any).toInt) (lenI a0)) (G (((a0.getD (((((v_1).tupVs).headD .any).toInt).toNat) []).getD 1 .any).isStr) (Q (.tup [.str (((a0.getD (((((v_1).tupVs).headD .any).toInt).toNat) []).getD 1 .any).toStr), .bool true]) (H.past H_2))))))))))))
theorem t_eq (a0 : List (List AV)) (a1 : ByteArray) (H : Heap) (Q : AV → Heap → Prop) : aBody E0 C 16 [.sl 0 5 a0, .str a1] H Q = t a0 a1 H Q := by kernel_rfl
theorem call {a0 : List (List AV)} {a1 : ByteArray} {H : Heap} {Q : AV → Heap → Prop} (h : t a0 a1 H Q) : C 16 [.sl 0 5 a0, .str a1] H Q := Call_intro ((t_eq a0 a1 H Q).mpr h)
end F16
/-! ### broker/brokerref44.Get: function 17 -/
namespace F17
def t (a0 : List (List AV)) (a1 : ByteArray) (H : Heap) (Q : AV → Heap → Prop) : Prop :=
  C 36 [.sl 0 5 a0, .str a1] H.none fun v_1 H_2 =>
  G ((v_1).isInt .i64) (cond (ltI ((v_1).toInt) 0)
    (Q (.tup [.str (⟨#[]⟩ : ByteArray), .bool false]) (H.past H_2))
    (G (leI 0 ((v_1).toInt)) (G (ltI ((v_1).toInt) (lenI a0)) (G (((a0.getD (((v_1).toInt).toNat) []).getD 2 .any).isBool) (cond (((a0.getD (((v_1).toInt).toNat) []).getD 2 .any).toBool)
      (Q (.tup [.str (⟨#[]⟩ : ByteArray), .bool false]) (H.past H_2))
      (G (leI 0 ((v_1).toInt)) (G (ltI ((v_1).toInt) (lenI a0)) (G (((a0.getD (((v_1).toInt).toNat) []).getD 1 .any).isStr) (Q (.tup [.str (((a0.getD (((v_1).toInt).toNat) []).getD 1 .any).toStr), .bool true]) (H.past H_2))))))))))
theorem t_eq (a0 : List (List AV)) (a1 : ByteArray) (H : Heap) (Q : AV → Heap → Prop) : aBody E0 C 17 [.sl 0 5 a0, .str a1] H Q = t a0 a1 H Q := by kernel_rfl
theorem call {a0 : List (List AV)} {a1 : ByteArray} {H : Heap} {Q : AV → Heap → Prop} (h : t a0 a1 H Q) : C 17 [.sl 0 5 a0, .str a1] H Q := Call_intro ((t_eq a0 a1 H Q).mpr h)
end F17
/-! ### broker/heal.Above: function 18 -/
namespace F18
def K0 (Q : AV → Heap → Prop) : Ex → St → Prop := (contK E0 C (E0.L 18) [.block 0, .seq (codeAt (bodyOf E0 18) [1, 1, 1]) 1] (finK E0 18 Q))
def L0 (a0 : List (List AV)) (a1 : Int) (Q : AV → Heap → Prop) (x5epoch : Int) (x10 : Int) (Hh : Heap) : Prop := ALoop (fun K s => awp E0 C (E0.L 18) (codeAt (bodyOf E0 18) [1, 1, 0, 1, 0, 0]) 1 s K) (clean [(1, 0), (4, 0), (5, 0), (8, 0), (9, 0), (10, 0)] 1) (K0 Q) ⟨[.any, .int .i64 a1, .any, .any, .ptr 0 0, .int .i64 x5epoch, .any, .any, .sl 0 5 a0, .int .i64 (lenI a0), .int .i64 x10, .any, .any, .any, .any, .any, .any, .any, .any, .any, .any, .any, .any, .any], [.cells [.int .i64 0, .int .i64 0]], Hh⟩
def r0 (a0 : List (List AV)) (a1 : Int) (Q : AV → Heap → Prop) (x5epoch : Int) (x10 : Int) (Hh : Heap) : Prop :=
  cond (ltI x10 (lenI a0))
  (G (leI 0 x10) (G (ltI x10 (lenI a0)) (G (((a0.getD x10.toNat []).getD 0 .any).isStr) (G (((a0.getD x10.toNat []).getD 1 .any).isStr) (G (((a0.getD x10.toNat []).getD 2 .any).isBool) (G (((a0.getD x10.toNat []).getD 3 .any).isInt .i64) (G (((a0.getD x10.toNat []).getD 4 .any).isInt .i64) (L0 a0 a1 Q (cond (ltI x5epoch (((a0.getD x10.toNat []).getD 3 .any).toInt)) (((a0.getD x10.toNat []).getD 3 .any).toInt) x5epoch) (addW .i64 x10 1) Hh))))))))
  (Q (.agg [.int .i64 (addW .i64 x5epoch 1), .int .i64 a1]) Hh)
theorem r0_eq (a0 : List (List AV)) (a1 : Int) (Q : AV → Heap → Prop) (x5epoch : Int) (x10 : Int) (Hh : Heap) : (fun K s => awp E0 C (E0.L 18) (codeAt (bodyOf E0 18) [1, 1, 0, 1, 0, 0]) 1 s K) (fun e s' => match e with | .normal => ALoop (fun K s => awp E0 C (E0.L 18) (codeAt (bodyOf E0 18) [1, 1, 0, 1, 0, 0]) 1 s K) (clean [(1, 0), (4, 0), (5, 0), (8, 0), (9, 0), (10, 0)] 1) (K0 Q) ((clean [(1, 0), (4, 0), (5, 0), (8, 0), (9, 0), (10, 0)] 1) s') | e => K0 Q e s') ⟨[.any, .int .i64 a1, .any, .any, .ptr 0 0, .int .i64 x5epoch, .any, .any, .sl 0 5 a0, .int .i64 (lenI a0), .int .i64 x10, .any, .any, .any, .any, .any, .any, .any, .any, .any, .any, .any, .any, .any], [.cells [.int .i64 0, .int .i64 0]], Hh⟩ = r0 a0 a1 Q x5epoch x10 Hh := by kernel_rfl
theorem L0_step {a0 : List (List AV)} {a1 : Int} {Q : AV → Heap → Prop} {x5epoch : Int} {x10 : Int} {Hh : Heap} (h : r0 a0 a1 Q x5epoch x10 Hh) : L0 a0 a1 Q x5epoch x10 Hh := ALoop_unfold ((r0_eq a0 a1 Q x5epoch x10 Hh).mpr h)
def t (a0 : List (List AV)) (a1 : Int) (H : Heap) (Q : AV → Heap → Prop) : Prop :=
  L0 a0 a1 Q 0 0 H
theorem t_eq (a0 : List (List AV)) (a1 : Int) (H : Heap) (Q : AV → Heap → Prop) : aBody E0 C 18 [.sl 0 5 a0, .int .i64 a1] H Q = t a0 a1 H Q := by kernel_rfl
theorem call {a0 : List (List AV)} {a1 : Int} {H : Heap} {Q : AV → Heap → Prop} (h : t a0 a1 H Q) : C 18 [.sl 0 5 a0, .int .i64 a1] H Q := Call_intro ((t_eq a0 a1 H Q).mpr h)
end F18
/-! ### broker/brokerref44.Above: function 19 -/
namespace F19
def K0 (Q : AV → Heap → Prop) : Ex → St → Prop := (contK E0 C (E0.L 19) [.block 0, .seq (codeAt (bodyOf E0 19) [1, 1, 1]) 1] (finK E0 19 Q))
def L0 (a0 : List (List AV)) (a1 : Int) (Q : AV → Heap → Prop) (x12 : Int) (m1_0 : Int) (Hh : Heap) : Prop := ALoop (fun K s => awp E0 C (E0.L 19) (codeAt (bodyOf E0 19) [1, 1, 0, 1, 0, 0]) 1 s K) (clean [(4, 0), (5, 0), (10, 0), (11, 0), (12, 0)] 2) (K0 Q) ⟨[.any, .any, .any, .any, .ptr 0 0, .ptr 1 0, .any, .any, .any, .any, .sl 0 5 a0, .int .i64 (lenI a0), .int .i64 x12, .any, .any, .any, .any, .any, .any, .any, .any, .any, .any, .any, .any, .any], [.cells [.int .i64 0, .int .i64 0], .cells [.int .i64 m1_0, .int .i64 a1]], Hh⟩
def r0 (a0 : List (List AV)) (a1 : Int) (Q : AV → Heap → Prop) (x12 : Int) (m1_0 : Int) (Hh : Heap) : Prop :=
  cond (ltI x12 (lenI a0))
  (G (leI 0 x12) (G (ltI x12 (lenI a0)) (G (((a0.getD x12.toNat []).getD 0 .any).isStr) (G (((a0.getD x12.toNat []).getD 1 .any).isStr) (G (((a0.getD x12.toNat []).getD 2 .any).isBool) (G (((a0.getD x12.toNat []).getD 3 .any).isInt .i64) (G (((a0.getD x12.toNat []).getD 4 .any).isInt .i64) (L0 a0 a1 Q (addW .i64 x12 1) (cond (ltI m1_0 (addW .i64 (((a0.getD x12.toNat []).getD 3 .any).toInt) 1)) (addW .i64 (((a0.getD x12.toNat []).getD 3 .any).toInt) 1) m1_0) Hh))))))))
  (Q (.agg [.int .i64 m1_0, .int .i64 a1]) Hh)
theorem r0_eq (a0 : List (List AV)) (a1 : Int) (Q : AV → Heap → Prop) (x12 : Int) (m1_0 : Int) (Hh : Heap) : (fun K s => awp E0 C (E0.L 19) (codeAt (bodyOf E0 19) [1, 1, 0, 1, 0, 0]) 1 s K) (fun e s' => match e with | .normal => ALoop (fun K s => awp E0 C (E0.L 19) (codeAt (bodyOf E0 19) [1, 1, 0, 1, 0, 0]) 1 s K) (clean [(4, 0), (5, 0), (10, 0), (11, 0), (12, 0)] 2) (K0 Q) ((clean [(4, 0), (5, 0), (10, 0), (11, 0), (12, 0)] 2) s') | e => K0 Q e s') ⟨[.any, .any, .any, .any, .ptr 0 0, .ptr 1 0, .any, .any, .any, .any, .sl 0 5 a0, .int .i64 (lenI a0), .int .i64 x12, .any, .any, .any, .any, .any, .any, .any, .any, .any, .any, .any, .any, .any], [.cells [.int .i64 0, .int .i64 0], .cells [.int .i64 m1_0, .int .i64 a1]], Hh⟩ = r0 a0 a1 Q x12 m1_0 Hh := by kernel_rfl
theorem L0_step {a0 : List (List AV)} {a1 : Int} {Q : AV → Heap → Prop} {x12 : Int} {m1_0 : Int} {Hh : Heap} (h : r0 a0 a1 Q x12 m1_0 Hh) : L0 a0 a1 Q x12 m1_0 Hh := ALoop_unfold ((r0_eq a0 a1 Q x12 m1_0 Hh).mpr h)
def t (a0 : List (List AV)) (a1 : Int) (H : Heap) (Q : AV → Heap → Prop) : Prop :=
  L0 a0 a1 Q 0 1 H
theorem t_eq (a0 : List (List AV)) (a1 : Int) (H : Heap) (Q : AV → Heap → Prop) : aBody E0 C 19 [.sl 0 5 a0, .int .i64 a1] H Q = t a0 a1 H Q := by kernel_rfl
theorem call {a0 : List (List AV)} {a1 : Int} {H : Heap} {Q : AV → Heap → Prop} (h : t a0 a1 H Q) : C 19 [.sl 0 5 a0, .int .i64 a1] H Q := Call_intro ((t_eq a0 a1 H Q).mpr h)
end F19
/-! ### broker/heal.Merge: function 20 -/
namespace F20
def t (a0 : List (List AV)) (a1 : List (List AV)) (H : Heap) (Q : AV → Heap → Prop) : Prop :=
  C 42 [.sl 0 5 a0, .sl 0 5 a1, .fn 43 [], .fn 39 [], .fn 40 []] H.none fun v_1 H_2 =>
  G ((v_1).isSl 5) (Q (.sl 0 5 ((v_1).slXs)) (H.past H_2))
theorem t_eq (a0 : List (List AV)) (a1 : List (List AV)) (H : Heap) (Q : AV → Heap → Prop) : aBody E0 C 20 [.sl 0 5 a0, .sl 0 5 a1] H Q = t a0 a1 H Q := by kernel_rfl
theorem call {a0 : List (List AV)} {a1 : List (List AV)} {H : Heap} {Q : AV → Heap → Prop} (h : t a0 a1 H Q) : C 20 [.sl 0 5 a0, .sl 0 5 a1] H Q := Call_intro ((t_eq a0 a1 H Q).mpr h)
end F20
/-! ### broker/brokerref44.Merge: function 21 -/
namespace F21
def K0 (Q : AV → Heap → Prop) : Ex → St → Prop := (contK E0 C (E0.L 21) [.block 0, .seq (codeAt (bodyOf E0 21) [1, 1, 1]) 1] (finK E0 21 Q))
def L0 (a0 : List (List AV)) (a1 : List (List AV)) (Q : AV → Heap → Prop) (x5out : List (List AV)) (x13 : Int) (Hh : Heap) : Prop := ALoop (fun K s => awp E0 C (E0.L 21) (codeAt (bodyOf E0 21) [1, 1, 0, 1, 0, 0]) 1 s K) (clean [(5, 1), (11, 0), (12, 0), (13, 0)] 0) (K0 Q) ⟨[.any, .any, .any, .any, .any, .sl 0 5 x5out, .any, .any, .any, .any, .any, .sl 0 5 a1, .int .i64 (lenI a1), .int .i64 x13, .any, .any, .any, .any, .any, .any, .any, .any, .any, .any, .any, .any, .any, .any, .any, .any, .any, .any, .any, .any, .any, .any], [], Hh⟩
def r0 (a0 : List (List AV)) (a1 : List (List AV)) (Q : AV → Heap → Prop) (x5out : List (List AV)) (x13 : Int) (Hh : Heap) : Prop :=
  cond (ltI x13 (lenI a1))
  (G (leI 0 x13) (G (ltI x13 (lenI a1)) (G (((a1.getD x13.toNat []).getD 0 .any).isStr) (G (((a1.getD x13.toNat []).getD 1 .any).isStr) (G (((a1.getD x13.toNat []).getD 2 .any).isBool) (G (((a1.getD x13.toNat []).getD 3 .any).isInt .i64) (G (((a1.getD x13.toNat []).getD 4 .any).isInt .i64) (C 36 [.sl 0 5 x5out, .str (((a1.getD x13.toNat []).getD 0 .any).toStr)] Hh.none fun v_3 H_4 =>
    G ((v_3).isInt .i64) (cond (ltI ((v_3).toInt) 0)
      (C 38 [.sl 0 5 x5out, .agg [.str (((a1.getD x13.toNat []).getD 0 .any).toStr), .str (((a1.getD x13.toNat []).getD 1 .any).toStr), .bool (((a1.getD x13.toNat []).getD 2 .any).toBool), .int .i64 (((a1.getD x13.toNat []).getD 3 .any).toInt), .int .i64 (((a1.getD x13.toNat []).getD 4 .any).toInt)]] ((Hh.past H_4).none) fun v_5 H_6 =>
        G ((v_5).isSl 5) (L0 a0 a1 Q ((v_5).slXs) (addW .i64 x13 1) (Hh.past H_6)))
      (G (leI 0 ((v_3).toInt)) (G (ltI ((v_3).toInt) (lenI x5out)) (G (((x5out.getD (((v_3).toInt).toNat) []).getD 0 .any).isStr) (G (((x5out.getD (((v_3).toInt).toNat) []).getD 1 .any).isStr) (G (((x5out.getD (((v_3).toInt).toNat) []).getD 2 .any).isBool) (G (((x5out.getD (((v_3).toInt).toNat) []).getD 3 .any).isInt .i64) (G (((x5out.getD (((v_3).toInt).toNat) []).getD 4 .any).isInt .i64) (C 28 [.agg [.str (((a1.getD x13.toNat []).getD 0 .any).toStr), .str (((a1.getD x13.toNat []).getD 1 .any).toStr), .bool (((a1.getD x13.toNat []).getD 2 .any).toBool), .int .i64 (((a1.getD x13.toNat []).getD 3 .any).toInt), .int .i64 (((a1.getD x13.toNat []).getD 4 .any).toInt)], .agg [.str (((x5out.getD (((v_3).toInt).toNat) []).getD 0 .any).toStr), .str (((x5out.getD (((v_3).toInt).toNat) []).getD 1 .any).toStr), .bool (((x5out.getD (((v_3).toInt).toNat) []).getD 2 .any).toBool), .int .i64 (((x5out.getD (((v_3).toInt).toNat) []).getD 3 .any).toInt), .int .i64 (((x5out.getD (((v_3).toInt).toNat) []).getD 4 .any).toInt)]] ((Hh.past H_4).none) fun v_7 H_8 =>
        G ((v_7).isBool) (cond ((v_7).toBool)
          (C 38 [.sl 0 5 x5out, .agg [.str (((a1.getD x13.toNat []).getD 0 .any).toStr), .str (((a1.getD x13.toNat []).getD 1 .any).toStr), .bool (((a1.getD x13.toNat []).getD 2 .any).toBool), .int .i64 (((a1.getD x13.toNat []).getD 3 .any).toInt), .int .i64 (((a1.getD x13.toNat []).getD 4 .any).toInt)]] ((Hh.past H_8).none) fun v_9 H_10 =>
            G ((v_9).isSl 5) (L0 a0 a1 Q ((v_9).slXs) (addW .i64 x13 1) (Hh.past H_10)))
          (L0 a0 a1 Q x5out (addW .i64 x13 1) (Hh.past H_8))))))))))))))))))))
  (Q (.sl 0 5 x5out) Hh)
theorem r0_eq (a0 : List (List AV)) (a1 : List (List AV)) (Q : AV → Heap → Prop) (x5out : List (List AV)) (x13 : Int) (Hh : Heap) : (fun K s => awp E0 C (E0.L 21) (codeAt (bodyOf E0 21) [1, 1, 0, 1, 0, 0]) 1 s K) (fun e s' => match e with | .normal => ALoop (fun K s => awp E0 C (E0.L 21) (codeAt (bodyOf E0 21) [1, 1, 0, 1, 0, 0]) 1 s K) (clean [(5, 1), (11, 0), (12, 0), (13, 0)] 0) (K0 Q) ((clean [(5, 1), (11, 0), (12, 0), (13, 0)] 0) s') | e => K0 Q e s') ⟨[.any, .any, .any, .any, .any, .sl 0 5 x5out, .any, .any, .any, .any, .any, .sl 0 5 a1, .int .i64 (lenI a1), .int .i64 x13, .any, .any, .any, .any, .any, .any, .any, .any, .any, .any, .any, .any, .any, .any, .any, .any, .any, .any, .any, .any, .any, .any], [], Hh⟩ = r0 a0 a1 Q x5out x13 Hh := by kernel_rfl
theorem L0_step {a0 : List (List AV)} {a1 : List (List AV)} {Q : AV → Heap → Prop} {x5out : List (List AV)} {x13 : Int} {Hh : Heap} (h : r0 a0 a1 Q x5out x13 Hh) : L0 a0 a1 Q x5out x13 Hh := ALoop_unfold ((r0_eq a0 a1 Q x5out x13 Hh).mpr h)
def t (a0 : List (List AV)) (a1 : List (List AV)) (H : Heap) (Q : AV → Heap → Prop) : Prop :=
  C 26 [.sl 0 5 a0] H.none fun v_1 H_2 =>
  G ((v_1).isOwn 5) (L0 a0 a1 Q ((v_1).slXs) 0 (H.past H_2))
theorem t_eq (a0 : List (List AV)) (a1 : List (List AV)) (H : Heap) (Q : AV → Heap → Prop) : aBody E0 C 21 [.sl 0 5 a0, .sl 0 5 a1] H Q = t a0 a1 H Q := by kernel_rfl
theorem call {a0 : List (List AV)} {a1 : List (List AV)} {H : Heap} {Q : AV → Heap → Prop} (h : t a0 a1 H Q) : C 21 [.sl 0 5 a0, .sl 0 5 a1] H Q := Call_intro ((t_eq a0 a1 H Q).mpr h)
end F21
/-! ### slices.Equal[[]string,string]: function 22 -/
namespace F22
def K0 (Q : AV → Heap → Prop) : Ex → St → Prop := (contK E0 C (E0.L 22) [.block 0, .seq (codeAt (bodyOf E0 22) [1, 1, 1]) 1] (finK E0 22 Q))
def L0 (a0 : List (List AV)) (a1 : List (List AV)) (Q : AV → Heap → Prop) (x13 : Int) (Hh : Heap) : Prop := ALoop (fun K s => awp E0 C (E0.L 22) (codeAt (bodyOf E0 22) [1, 1, 0, 1, 0, 0]) 1 s K) (clean [(0, 0), (1, 0), (12, 0), (13, 0)] 0) (K0 Q) ⟨[.sl 0 1 a0, .sl 0 1 a1, .any, .any, .any, .any, .any, .any, .any, .any, .any, .any, .int .i64 (lenI a0), .int .i64 x13, .any, .any, .any, .any, .any, .any, .any, .any, .any, .any, .any, .any], [], Hh⟩
def r0 (a0 : List (List AV)) (a1 : List (List AV)) (Q : AV → Heap → Prop) (x13 : Int) (Hh : Heap) : Prop :=
  cond (ltI x13 (lenI a0))
  (G (leI 0 x13) (G (ltI x13 (lenI a0)) (G (((a0.getD x13.toNat []).getD 0 .any).isStr) (G (leI 0 x13) (G (ltI x13 (lenI a1)) (G (((a1.getD x13.toNat []).getD 0 .any).isStr) (cond (!(eqS (((a0.getD x13.toNat []).getD 0 .any).toStr) (((a1.getD x13.toNat []).getD 0 .any).toStr)))
    (Q (.bool false) Hh)
    (L0 a0 a1 Q (addW .i64 x13 1) Hh))))))))
  (Q (.bool true) Hh)
theorem r0_eq (a0 : List (List AV)) (a1 : List (List AV)) (Q : AV → Heap → Prop) (x13 : Int) (Hh : Heap) : (fun K s => awp E0 C (E0.L 22) (codeAt (bodyOf E0 22) [1, 1, 0, 1, 0, 0]) 1 s K) (fun e s' => match e with | .normal => ALoop (fun K s => awp E0 C (E0.L 22) (codeAt (bodyOf E0 22) [1, 1, 0, 1, 0, 0]) 1 s K) (clean [(0, 0), (1, 0), (12, 0), (13, 0)] 0) (K0 Q) ((clean [(0, 0), (1, 0), (12, 0), (13, 0)] 0) s') | e => K0 Q e s') ⟨[.sl 0 1 a0, .sl 0 1 a1, .any, .any, .any, .any, .any, .any, .any, .any, .any, .any, .int .i64 (lenI a0), .int .i64 x13, .any, .any, .any, .any, .any, .any, .any, .any, .any, .any, .any, .any], [], Hh⟩ = r0 a0 a1 Q x13 Hh := by kernel_rfl
theorem L0_step {a0 : List (List AV)} {a1 : List (List AV)} {Q : AV → Heap → Prop} {x13 : Int} {Hh : Heap} (h : r0 a0 a1 Q x13 Hh) : L0 a0 a1 Q x13 Hh := ALoop_unfold ((r0_eq a0 a1 Q x13 Hh).mpr h)
def t (a0 : List (List AV)) (a1 : List (List AV)) (H : Heap) (Q : AV → Heap → Prop) : Prop :=
  cond (!(eqI (lenI a0) (lenI a1)))
  (Q (.bool false) H)
  (L0 a0 a1 Q 0 H)
theorem t_eq (a0 : List (List AV)) (a1 : List (List AV)) (H : Heap) (Q : AV → Heap → Prop) : aBody E0 C 22 [.sl 0 1 a0, .sl 0 1 a1] H Q = t a0 a1 H Q := by kernel_rfl
theorem call {a0 : List (List AV)} {a1 : List (List AV)} {H : Heap} {Q : AV → Heap → Prop} (h : t a0 a1 H Q) : C 22 [.sl 0 1 a0, .sl 0 1 a1] H Q := Call_intro ((t_eq a0 a1 H Q).mpr h)
end F22
/-! ### broker/heal.Diff: function 23 -/
namespace F23
def t (a0 : List (List AV)) (a1 : List (List AV)) (H : Heap) (Q : AV → Heap → Prop) : Prop :=
  C 46 [.sl 0 5 a0, .sl 0 5 a1, .fn 43 [], .fn 44 [], .fn 45 []] H.none fun v_1 H_2 =>
  G ((v_1).isSl 1) (Q (.sl 0 1 ((v_1).slXs)) (H.past H_2))
theorem t_eq (a0 : List (List AV)) (a1 : List (List AV)) (H : Heap) (Q : AV → Heap → Prop) : aBody E0 C 23 [.sl 0 5 a0, .sl 0 5 a1] H Q = t a0 a1 H Q := by kernel_rfl
theorem call {a0 : List (List AV)} {a1 : List (List AV)} {H : Heap} {Q : AV → Heap → Prop} (h : t a0 a1 H Q) : C 23 [.sl 0 5 a0, .sl 0 5 a1] H Q := Call_intro ((t_eq a0 a1 H Q).mpr h)
end F23
/-! ### broker/brokerref44.Diff: function 24 -/
namespace F24
def K0 (Q : AV → Heap → Prop) : Ex → St → Prop := (contK E0 C (E0.L 24) [.block 0, .seq (codeAt (bodyOf E0 24) [1, 1, 1]) 1] (finK E0 24 Q))
def L0 (a0 : List (List AV)) (a1 : List (List AV)) (Q : AV → Heap → Prop) (x5out : List (List AV)) (x12 : List (List AV)) (x13 : Int) (x14 : Int) (Hh : Heap) : Prop := ALoop (fun K s => awp E0 C (E0.L 24) (codeAt (bodyOf E0 24) [1, 1, 0, 1, 0, 0]) 1 s K) (clean [(0, 0), (1, 0), (5, 3), (12, 0), (13, 0), (14, 0)] 0) (K0 Q) ⟨[.sl 0 5 a0, .sl 0 5 a1, .any, .any, .any, .sl 1 1 x5out, .any, .any, .any, .any, .any, .any, .sl 0 5 x12, .int .i64 x13, .int .i64 x14, .any, .any, .any, .any, .any, .any, .any, .any, .any, .any, .any, .any, .any, .any, .any, .any, .any, .any, .any, .any, .any, .any, .any, .any, .any, .any, .any, .any, .any, .any, .any, .any, .any, .any, .any], [], Hh⟩
def r0 (a0 : List (List AV)) (a1 : List (List AV)) (Q : AV → Heap → Prop) (x5out : List (List AV)) (x12 : List (List AV)) (x13 : Int) (x14 : Int) (Hh : Heap) : Prop :=
  cond (ltI x14 x13)
  (G (leI 0 x14) (G (ltI x14 (lenI x12)) (G (((x12.getD x14.toNat []).getD 0 .any).isStr) (G (((x12.getD x14.toNat []).getD 1 .any).isStr) (G (((x12.getD x14.toNat []).getD 2 .any).isBool) (G (((x12.getD x14.toNat []).getD 3 .any).isInt .i64) (G (((x12.getD x14.toNat []).getD 4 .any).isInt .i64) (C 36 [.sl 0 5 a0, .str (((x12.getD x14.toNat []).getD 0 .any).toStr)] Hh.none fun v_3 H_4 =>
    G ((v_3).isInt .i64) (C 36 [.sl 0 5 a1, .str (((x12.getD x14.toNat []).getD 0 .any).toStr)] ((Hh.past H_4).none) fun v_5 H_6 =>
      G ((v_5).isInt .i64) (cond (ltI ((v_3).toInt) 0)
        (G (room x5out [[.str (((x12.getD x14.toNat []).getD 0 .any).toStr)]] 16) (L0 a0 a1 Q (x5out ++ [[.str (((x12.getD x14.toNat []).getD 0 .any).toStr)]]) x12 x13 (addW .i64 x14 1) (Hh.past H_6)))
        (cond (ltI ((v_5).toInt) 0)
          (G (room x5out [[.str (((x12.getD x14.toNat []).getD 0 .any).toStr)]] 16) (L0 a0 a1 Q (x5out ++ [[.str (((x12.getD x14.toNat []).getD 0 .any).toStr)]]) x12 x13 (addW .i64 x14 1) (Hh.past H_6)))
          (G (leI 0 ((v_3).toInt)) (G (ltI ((v_3).toInt) (lenI a0)) (G (((a0.getD (((v_3).toInt).toNat) []).getD 0 .any).isStr) (G (((a0.getD (((v_3).toInt).toNat) []).getD 1 .any).isStr) (G (((a0.getD (((v_3).toInt).toNat) []).getD 2 .any).isBool) (G (((a0.getD (((v_3).toInt).toNat) []).getD 3 .any).isInt .i64) (G (((a0.getD (((v_3).toInt).toNat) []).getD 4 .any).isInt .i64) (G (leI 0 ((v_5).toInt)) (G (ltI ((v_5).toInt) (lenI a1)) (G (((a1.getD (((v_5).toInt).toNat) []).getD 0 .any).isStr) (G (((a1.getD (((v_5).toInt).toNat) []).getD 1 .any).isStr) (G (((a1.getD (((v_5).toInt).toNat) []).getD 2 .any).isBool) (G (((a1.getD (((v_5).toInt).toNat) []).getD 3 .any).isInt .i64) (G (((a1.getD (((v_5).toInt).toNat) []).getD 4 .any).isInt .i64) (cond (!((eqS (((a0.getD (((v_3).toInt).toNat) []).getD 0 .any).toStr) (((a1.getD (((v_5).toInt).toNat) []).getD 0 .any).toStr)) && ((eqS (((a0.getD (((v_3).toInt).toNat) []).getD 1 .any).toStr) (((a1.getD (((v_5).toInt).toNat) []).getD 1 .any).toStr)) && (((((a0.getD (((v_3).toInt).toNat) []).getD 2 .any).toBool) == (((a1.getD (((v_5).toInt).toNat) []).getD 2 .any).toBool)) && ((eqI (((a0.getD (((v_3).toInt).toNat) []).getD 3 .any).toInt) (((a1.getD (((v_5).toInt).toNat) []).getD 3 .any).toInt)) && ((eqI (((a0.getD (((v_3).toInt).toNat) []).getD 4 .any).toInt) (((a1.getD (((v_5).toInt).toNat) []).getD 4 .any).toInt)) && true))))))
            (G (room x5out [[.str (((x12.getD x14.toNat []).getD 0 .any).toStr)]] 16) (L0 a0 a1 Q (x5out ++ [[.str (((x12.getD x14.toNat []).getD 0 .any).toStr)]]) x12 x13 (addW .i64 x14 1) (Hh.past H_6)))
            (L0 a0 a1 Q x5out x12 x13 (addW .i64 x14 1) (Hh.past H_6))))))))))))))))))))))))))))
  (Q (.sl 0 1 x5out) Hh)
theorem r0_eq (a0 : List (List AV)) (a1 : List (List AV)) (Q : AV → Heap → Prop) (x5out : List (List AV)) (x12 : List (List AV)) (x13 : Int) (x14 : Int) (Hh : Heap) : (fun K s => awp E0 C (E0.L 24) (codeAt (bodyOf E0 24) [1, 1, 0, 1, 0, 0]) 1 s K) (fun e s' => match e with | .normal => ALoop (fun K s => awp E0 C (E0.L 24) (codeAt (bodyOf E0 24) [1, 1, 0, 1, 0, 0]) 1 s K) (clean [(0, 0), (1, 0), (5, 3), (12, 0), (13, 0), (14, 0)] 0) (K0 Q) ((clean [(0, 0), (1, 0), (5, 3), (12, 0), (13, 0), (14, 0)] 0) s') | e => K0 Q e s') ⟨[.sl 0 5 a0, .sl 0 5 a1, .any, .any, .any, .sl 1 1 x5out, .any, .any, .any, .any, .any, .any, .sl 0 5 x12, .int .i64 x13, .int .i64 x14, .any, .any, .any, .any, .any, .any, .any, .any, .any, .any, .any, .any, .any, .any, .any, .any, .any, .any, .any, .any, .any, .any, .any, .any, .any, .any, .any, .any, .any, .any, .any, .any, .any, .any, .any], [], Hh⟩ = r0 a0 a1 Q x5out x12 x13 x14 Hh := by kernel_rfl
theorem L0_step {a0 : List (List AV)} {a1 : List (List AV)} {Q : AV → Heap → Prop} {x5out : List (List AV)} {x12 : List (List AV)} {x13 : Int} {x14 : Int} {Hh : Heap} (h : r0 a0 a1 Q x5out x12 x13 x14 Hh) : L0 a0 a1 Q x5out x12 x13 x14 Hh := ALoop_unfold ((r0_eq a0 a1 Q x5out x12 x13 x14 Hh).mpr h)
def t (a0 : List (List AV)) (a1 : List (List AV)) (H : Heap) (Q : AV → Heap → Prop) : Prop :=
  C 21 [.sl 0 5 a0, .sl 0 5 a1] H.none fun v_1 H_2 =>
  G ((v_1).isSl 5) (L0 a0 a1 Q [] ((v_1).slXs) (lenI ((v_1).slXs)) 0 (H.past H_2))
theorem t_eq (a0 : List (List AV)) (a1 : List (List AV)) (H : Heap) (Q : AV → Heap → Prop) : aBody E0 C 24 [.sl 0 5 a0, .sl 0 5 a1] H Q = t a0 a1 H Q := by kernel_rfl
theorem call {a0 : List (List AV)} {a1 : List (List AV)} {H : Heap} {Q : AV → Heap → Prop} (h : t a0 a1 H Q) : C 24 [.sl 0 5 a0, .sl 0 5 a1] H Q := Call_intro ((t_eq a0 a1 H Q).mpr h)
end F24
/-! ### slices.Contains[[]broker/api.Cell,broker/api.Cell]: function 25 -/
namespace F25
def t (a0 : List (List AV)) (a1_0 : ByteArray) (a1_1 : ByteArray) (a1_2 : Bool) (a1_3 : Int) (a1_4 : Int) (H : Heap) (Q : AV → Heap → Prop) : Prop :=
  C 47 [.sl 0 5 a0, .agg [.str a1_0, .str a1_1, .bool a1_2, .int .i64 a1_3, .int .i64 a1_4]] H.none fun v_1 H_2 =>
  G ((v_1).isInt .i64) (Q (.bool (leI 0 ((v_1).toInt))) (H.past H_2))
theorem t_eq (a0 : List (List AV)) (a1_0 : ByteArray) (a1_1 : ByteArray) (a1_2 : Bool) (a1_3 : Int) (a1_4 : Int) (H : Heap) (Q : AV → Heap → Prop) : aBody E0 C 25 [.sl 0 5 a0, .agg [.str a1_0, .str a1_1, .bool a1_2, .int .i64 a1_3, .int .i64 a1_4]] H Q = t a0 a1_0 a1_1 a1_2 a1_3 a1_4 H Q := by kernel_rfl
theorem call {a0 : List (List AV)} {a1_0 : ByteArray} {a1_1 : ByteArray} {a1_2 : Bool} {a1_3 : Int} {a1_4 : Int} {H : Heap} {Q : AV → Heap → Prop} (h : t a0 a1_0 a1_1 a1_2 a1_3 a1_4 H Q) : C 25 [.sl 0 5 a0, .agg [.str a1_0, .str a1_1, .bool a1_2, .int .i64 a1_3, .int .i64 a1_4]] H Q := Call_intro ((t_eq a0 a1_0 a1_1 a1_2 a1_3 a1_4 H Q).mpr h)
end F25
/-! ### slices.Clone[[]broker/api.Cell,broker/api.Cell]: function 26 -/
namespace F26
def t (a0 : List (List AV)) (H : Heap) (Q : AV → Heap → Prop) : Prop :=
  ∀ b_1 : Bool, (b_1 = true → a0 = []) → (cond b_1
  (Q (.nilsl) H)
  (G (room [] a0 56) (Q (.sl 1 5 a0) H)))
theorem t_eq (a0 : List (List AV)) (H : Heap) (Q : AV → Heap → Prop) : aBody E0 C 26 [.sl 0 5 a0] H Q = t a0 H Q := by kernel_rfl
theorem call {a0 : List (List AV)} {H : Heap} {Q : AV → Heap → Prop} (h : t a0 H Q) : C 26 [.sl 0 5 a0] H Q := Call_intro ((t_eq a0 H Q).mpr h)
end F26
/-! ### broker/brokerlaw44.find: function 27 -/
namespace F27
def K0 (Q : AV → Heap → Prop) : Ex → St → Prop := (contK E0 C (E0.L 27) [.block 0, .seq (codeAt (bodyOf E0 27) [1, 1]) 1] (finK E0 27 Q))
def L0 (a0 : List (List AV)) (a1 : ByteArray) (Q : AV → Heap → Prop) (x9 : Int) (Hh : Heap) : Prop := ALoop (fun K s => awp E0 C (E0.L 27) (codeAt (bodyOf E0 27) [1, 0, 1, 0, 0]) 1 s K) (clean [(1, 0), (7, 0), (8, 0), (9, 0)] 0) (K0 Q) ⟨[.any, .str a1, .any, .any, .any, .any, .any, .sl 0 5 a0, .int .i64 (lenI a0), .int .i64 x9, .any, .any, .any, .any, .any, .any, .any, .any, .any, .any], [], Hh⟩
def r0 (a0 : List (List AV)) (a1 : ByteArray) (Q : AV → Heap → Prop) (x9 : Int) (Hh : Heap) : Prop :=
  cond (ltI x9 (lenI a0))
  (G (leI 0 x9) (G (ltI x9 (lenI a0)) (G (((a0.getD x9.toNat []).getD 0 .any).isStr) (G (((a0.getD x9.toNat []).getD 1 .any).isStr) (G (((a0.getD x9.toNat []).getD 2 .any).isBool) (G (((a0.getD x9.toNat []).getD 3 .any).isInt .i64) (G (((a0.getD x9.toNat []).getD 4 .any).isInt .i64) (cond (eqS (((a0.getD x9.toNat []).getD 0 .any).toStr) a1)
    (Q (.int .i64 x9) Hh)
    (L0 a0 a1 Q (addW .i64 x9 1) Hh)))))))))
  (Q (.int .i64 (-1)) Hh)
theorem r0_eq (a0 : List (List AV)) (a1 : ByteArray) (Q : AV → Heap → Prop) (x9 : Int) (Hh : Heap) : (fun K s => awp E0 C (E0.L 27) (codeAt (bodyOf E0 27) [1, 0, 1, 0, 0]) 1 s K) (fun e s' => match e with | .normal => ALoop (fun K s => awp E0 C (E0.L 27) (codeAt (bodyOf E0 27) [1, 0, 1, 0, 0]) 1 s K) (clean [(1, 0), (7, 0), (8, 0), (9, 0)] 0) (K0 Q) ((clean [(1, 0), (7, 0), (8, 0), (9, 0)] 0) s') | e => K0 Q e s') ⟨[.any, .str a1, .any, .any, .any, .any, .any, .sl 0 5 a0, .int .i64 (lenI a0), .int .i64 x9, .any, .any, .any, .any, .any, .any, .any, .any, .any, .any], [], Hh⟩ = r0 a0 a1 Q x9 Hh := by kernel_rfl
theorem L0_step {a0 : List (List AV)} {a1 : ByteArray} {Q : AV → Heap → Prop} {x9 : Int} {Hh : Heap} (h : r0 a0 a1 Q x9 Hh) : L0 a0 a1 Q x9 Hh := ALoop_unfold ((r0_eq a0 a1 Q x9 Hh).mpr h)
def t (a0 : List (List AV)) (a1 : ByteArray) (H : Heap) (Q : AV → Heap → Prop) : Prop :=
  L0 a0 a1 Q 0 H
theorem t_eq (a0 : List (List AV)) (a1 : ByteArray) (H : Heap) (Q : AV → Heap → Prop) : aBody E0 C 27 [.sl 0 5 a0, .str a1] H Q = t a0 a1 H Q := by kernel_rfl
theorem call {a0 : List (List AV)} {a1 : ByteArray} {H : Heap} {Q : AV → Heap → Prop} (h : t a0 a1 H Q) : C 27 [.sl 0 5 a0, .str a1] H Q := Call_intro ((t_eq a0 a1 H Q).mpr h)
end F27
/-! ### broker/brokerref44.Prevails: function 28 -/
namespace F28
def t (a0_0 : ByteArray) (a0_1 : ByteArray) (a0_2 : Bool) (a0_3 : Int) (a0_4 : Int) (a1_0 : ByteArray) (a1_1 : ByteArray) (a1_2 : Bool) (a1_3 : Int) (a1_4 : Int) (H : Heap) (Q : AV → Heap → Prop) : Prop :=
  cond (!((eqI a0_3 a1_3) && ((eqI a0_4 a1_4) && true)))
  (C 37 [.agg [.int .i64 a0_3, .int .i64 a0_4], .agg [.int .i64 a1_3, .int .i64 a1_4]] H.none fun v_1 H_2 =>
    G ((v_1).isBool) (Q (.bool ((v_1).toBool)) (H.past H_2)))
  (cond (!(a0_2 == a1_2))
    (Q (.bool a1_2) H)
    (Q (.bool (ltS a1_1 a0_1)) H))
theorem t_eq (a0_0 : ByteArray) (a0_1 : ByteArray) (a0_2 : Bool) (a0_3 : Int) (a0_4 : Int) (a1_0 : ByteArray) (a1_1 : ByteArray) (a1_2 : Bool) (a1_3 : Int) (a1_4 : Int) (H : Heap) (Q : AV → Heap → Prop) : aBody E0 C 28 [.agg [.str a0_0, .str a0_1, .bool a0_2, .int .i64 a0_3, .int .i64 a0_4], .agg [.str a1_0, .str a1_1, .bool a1_2, .int .i64 a1_3, .int .i64 a1_4]] H Q = t a0_0 a0_1 a0_2 a0_3 a0_4 a1_0 a1_1 a1_2 a1_3 a1_4 H Q := by kernel_rfl
theorem call {a0_0 : ByteArray} {a0_1 : ByteArray} {a0_2 : Bool} {a0_3 : Int} {a0_4 : Int} {a1_0 : ByteArray} {a1_1 : ByteArray} {a1_2 : Bool} {a1_3 : Int} {a1_4 : Int} {H : Heap} {Q : AV → Heap → Prop} (h : t a0_0 a0_1 a0_2 a0_3 a0_4 a1_0 a1_1 a1_2 a1_3 a1_4 H Q) : C 28 [.agg [.str a0_0, .str a0_1, .bool a0_2, .int .i64 a0_3, .int .i64 a0_4], .agg [.str a1_0, .str a1_1, .bool a1_2, .int .i64 a1_3, .int .i64 a1_4]] H Q := Call_intro ((t_eq a0_0 a0_1 a0_2 a0_3 a0_4 a1_0 a1_1 a1_2 a1_3 a1_4 H Q).mpr h)
end F28
/-! ### slices.Contains[[]string,string]: function 29 -/
namespace F29
def t (a0 : List (List AV)) (a1 : ByteArray) (H : Heap) (Q : AV → Heap → Prop) : Prop :=
  C 48 [.sl 0 1 a0, .str a1] H.none fun v_1 H_2 =>
  G ((v_1).isInt .i64) (Q (.bool (leI 0 ((v_1).toInt))) (H.past H_2))
theorem t_eq (a0 : List (List AV)) (a1 : ByteArray) (H : Heap) (Q : AV → Heap → Prop) : aBody E0 C 29 [.sl 0 1 a0, .str a1] H Q = t a0 a1 H Q := by kernel_rfl
theorem call {a0 : List (List AV)} {a1 : ByteArray} {H : Heap} {Q : AV → Heap → Prop} (h : t a0 a1 H Q) : C 29 [.sl 0 1 a0, .str a1] H Q := Call_intro ((t_eq a0 a1 H Q).mpr h)
end F29
/-! ### broker/brokerref44.One: function 30 -/
namespace F30
def t (a0_0 : ByteArray) (a0_1 : ByteArray) (a0_2 : Bool) (a0_3 : Int) (a0_4 : Int) (H : Heap) (Q : AV → Heap → Prop) : Prop :=
  C 49 [.str a0_0] H.none fun v_1 H_2 =>
  G ((v_1).isBool) (cond (!((v_1).toBool))
    (Q (.int .i64 12) (H.past H_2))
    (cond (ltI 4096 (sizeI a0_1))
      (Q (.int .i64 5) (H.past H_2))
      (cond a0_2
        (cond (!(eqS a0_1 (⟨#[]⟩ : ByteArray)))
          (Q (.int .i64 28) (H.past H_2))
          (cond (ltI a0_3 1)
            (Q (.int .i64 1) (H.past H_2))
            (cond (ltI 1099511627776 a0_3)
              (Q (.int .i64 1) (H.past H_2))
              (cond (ltI a0_4 0)
                (Q (.int .i64 1) (H.past H_2))
                (cond (leI 7 a0_4)
                  (Q (.int .i64 1) (H.past H_2))
                  (Q (.int .i64 0) (H.past H_2)))))))
        (cond (ltI a0_3 1)
          (Q (.int .i64 1) (H.past H_2))
          (cond (ltI 1099511627776 a0_3)
            (Q (.int .i64 1) (H.past H_2))
            (cond (ltI a0_4 0)
              (Q (.int .i64 1) (H.past H_2))
              (cond (leI 7 a0_4)
                (Q (.int .i64 1) (H.past H_2))
                (Q (.int .i64 0) (H.past H_2)))))))))
theorem t_eq (a0_0 : ByteArray) (a0_1 : ByteArray) (a0_2 : Bool) (a0_3 : Int) (a0_4 : Int) (H : Heap) (Q : AV → Heap → Prop) : aBody E0 C 30 [.agg [.str a0_0, .str a0_1, .bool a0_2, .int .i64 a0_3, .int .i64 a0_4]] H Q = t a0_0 a0_1 a0_2 a0_3 a0_4 H Q := by kernel_rfl
theorem call {a0_0 : ByteArray} {a0_1 : ByteArray} {a0_2 : Bool} {a0_3 : Int} {a0_4 : Int} {H : Heap} {Q : AV → Heap → Prop} (h : t a0_0 a0_1 a0_2 a0_3 a0_4 H Q) : C 30 [.agg [.str a0_0, .str a0_1, .bool a0_2, .int .i64 a0_3, .int .i64 a0_4]] H Q := Call_intro ((t_eq a0_0 a0_1 a0_2 a0_3 a0_4 H Q).mpr h)
end F30
/-! ### broker/brokerlaw44.cell: function 31 -/
namespace F31
def t (a0 : ByteArray) (a1 : Int) (a2 : Int) (H : Heap) (Q : AV → Heap → Prop) : Prop :=
  Q (.agg [.str (⟨#[97]⟩ : ByteArray), .str a0, .bool false, .int .i64 a1, .int .i64 a2]) H
theorem t_eq (a0 : ByteArray) (a1 : Int) (a2 : Int) (H : Heap) (Q : AV → Heap → Prop) : aBody E0 C 31 [.str a0, .int .i64 a1, .int .i64 a2] H Q = t a0 a1 a2 H Q := by kernel_rfl
theorem call {a0 : ByteArray} {a1 : Int} {a2 : Int} {H : Heap} {Q : AV → Heap → Prop} (h : t a0 a1 a2 H Q) : C 31 [.str a0, .int .i64 a1, .int .i64 a2] H Q := Call_intro ((t_eq a0 a1 a2 H Q).mpr h)
end F31
/-! ### broker/heal.valid: function 32 -/
namespace F32
def t (a0_0 : ByteArray) (a0_1 : ByteArray) (a0_2 : Bool) (a0_3 : Int) (a0_4 : Int) (H : Heap) (Q : AV → Heap → Prop) : Prop :=
  C 50 [.str a0_0] H.none fun v_1 H_2 =>
  G ((v_1).isBool) (cond (!((v_1).toBool))
    (Q (.int .i64 12) (H.past H_2))
    (cond (ltI 4096 (sizeI a0_1))
      (Q (.int .i64 5) (H.past H_2))
      (cond a0_2
        (cond (!(eqS a0_1 (⟨#[]⟩ : ByteArray)))
          (Q (.int .i64 28) (H.past H_2))
          (cond (ltI a0_3 1)
            (Q (.int .i64 1) (H.past H_2))
            (cond (ltI 1099511627776 a0_3)
              (Q (.int .i64 1) (H.past H_2))
              (cond (ltI a0_4 0)
                (Q (.int .i64 1) (H.past H_2))
                (cond (leI 7 a0_4)
                  (Q (.int .i64 1) (H.past H_2))
                  (Q (.int .i64 0) (H.past H_2)))))))
        (cond (ltI a0_3 1)
          (Q (.int .i64 1) (H.past H_2))
          (cond (ltI 1099511627776 a0_3)
            (Q (.int .i64 1) (H.past H_2))
            (cond (ltI a0_4 0)
              (Q (.int .i64 1) (H.past H_2))
              (cond (leI 7 a0_4)
                (Q (.int .i64 1) (H.past H_2))
                (Q (.int .i64 0) (H.past H_2)))))))))
theorem t_eq (a0_0 : ByteArray) (a0_1 : ByteArray) (a0_2 : Bool) (a0_3 : Int) (a0_4 : Int) (H : Heap) (Q : AV → Heap → Prop) : aBody E0 C 32 [.agg [.str a0_0, .str a0_1, .bool a0_2, .int .i64 a0_3, .int .i64 a0_4]] H Q = t a0_0 a0_1 a0_2 a0_3 a0_4 H Q := by kernel_rfl
theorem call {a0_0 : ByteArray} {a0_1 : ByteArray} {a0_2 : Bool} {a0_3 : Int} {a0_4 : Int} {H : Heap} {Q : AV → Heap → Prop} (h : t a0_0 a0_1 a0_2 a0_3 a0_4 H Q) : C 32 [.agg [.str a0_0, .str a0_1, .bool a0_2, .int .i64 a0_3, .int .i64 a0_4]] H Q := Call_intro ((t_eq a0_0 a0_1 a0_2 a0_3 a0_4 H Q).mpr h)
end F32
/-! ### broker/heal.find: function 33 -/
namespace F33
def K0 (Q : AV → Heap → Prop) : Ex → St → Prop := (contK E0 C (E0.L 33) [.block 0, .seq (codeAt (bodyOf E0 33) [1, 1, 1]) 1] (finK E0 33 Q))
def L0 (a0 : List (List AV)) (a1 : ByteArray) (Q : AV → Heap → Prop) (x6i : Int) (Hh : Heap) : Prop := ALoop (fun K s => awp E0 C (E0.L 33) (codeAt (bodyOf E0 33) [1, 1, 0, 0, 0]) 1 s K) (clean [(0, 0), (1, 0), (6, 0)] 0) (K0 Q) ⟨[.sl 0 5 a0, .str a1, .any, .any, .any, .any, .int .i64 x6i, .any, .any, .any, .any, .any, .any, .any, .any, .any, .any, .any, .any, .any, .any, .any, .any, .any, .any, .any, .any, .any, .any, .any, .any, .any, .any, .any, .any, .any], [], Hh⟩
def r0 (a0 : List (List AV)) (a1 : ByteArray) (Q : AV → Heap → Prop) (x6i : Int) (Hh : Heap) : Prop :=
  cond (ltI x6i (lenI a0))
  (G (leI 0 x6i) (G (ltI x6i (lenI a0)) (G (((a0.getD x6i.toNat []).getD 0 .any).isStr) (cond (ltS (((a0.getD x6i.toNat []).getD 0 .any).toStr) a1)
    (L0 a0 a1 Q (addW .i64 x6i 1) Hh)
    (cond (ltI x6i (lenI a0))
      (G (leI 0 x6i) (G (ltI x6i (lenI a0)) (G (((a0.getD x6i.toNat []).getD 0 .any).isStr) (Q (.tup [.int .i64 x6i, .bool (eqS (((a0.getD x6i.toNat []).getD 0 .any).toStr) a1)]) Hh))))
      (Q (.tup [.int .i64 x6i, .bool false]) Hh))))))
  (cond (ltI x6i (lenI a0))
    (G (leI 0 x6i) (G (ltI x6i (lenI a0)) (G (((a0.getD x6i.toNat []).getD 0 .any).isStr) (Q (.tup [.int .i64 x6i, .bool (eqS (((a0.getD x6i.toNat []).getD 0 .any).toStr) a1)]) Hh))))
    (Q (.tup [.int .i64 x6i, .bool false]) Hh))
theorem r0_eq (a0 : List (List AV)) (a1 : ByteArray) (Q : AV → Heap → Prop) (x6i : Int) (Hh : Heap) : (fun K s => awp E0 C (E0.L 33) (codeAt (bodyOf E0 33) [1, 1, 0, 0, 0]) 1 s K) (fun e s' => match e with | .normal => ALoop (fun K s => awp E0 C (E0.L 33) (codeAt (bodyOf E0 33) [1, 1, 0, 0, 0]) 1 s K) (clean [(0, 0), (1, 0), (6, 0)] 0) (K0 Q) ((clean [(0, 0), (1, 0), (6, 0)] 0) s') | e => K0 Q e s') ⟨[.sl 0 5 a0, .str a1, .any, .any, .any, .any, .int .i64 x6i, .any, .any, .any, .any, .any, .any, .any, .any, .any, .any, .any, .any, .any, .any, .any, .any, .any, .any, .any, .any, .any, .any, .any, .any, .any, .any, .any, .any, .any], [], Hh⟩ = r0 a0 a1 Q x6i Hh := by kernel_rfl
theorem L0_step {a0 : List (List AV)} {a1 : ByteArray} {Q : AV → Heap → Prop} {x6i : Int} {Hh : Heap} (h : r0 a0 a1 Q x6i Hh) : L0 a0 a1 Q x6i Hh := ALoop_unfold ((r0_eq a0 a1 Q x6i Hh).mpr h)
def t (a0 : List (List AV)) (a1 : ByteArray) (H : Heap) (Q : AV → Heap → Prop) : Prop :=
  L0 a0 a1 Q 0 H
theorem t_eq (a0 : List (List AV)) (a1 : ByteArray) (H : Heap) (Q : AV → Heap → Prop) : aBody E0 C 33 [.sl 0 5 a0, .str a1] H Q = t a0 a1 H Q := by kernel_rfl
theorem call {a0 : List (List AV)} {a1 : ByteArray} {H : Heap} {Q : AV → Heap → Prop} (h : t a0 a1 H Q) : C 33 [.sl 0 5 a0, .str a1] H Q := Call_intro ((t_eq a0 a1 H Q).mpr h)
end F33
/-! ### broker/heal.greater: function 34 -/
namespace F34
def t (a0_0 : Int) (a0_1 : Int) (a1_0 : Int) (a1_1 : Int) (H : Heap) (Q : AV → Heap → Prop) : Prop :=
  cond (ltI a1_0 a0_0)
  (Q (.bool true) H)
  (cond (eqI a0_0 a1_0)
    (Q (.bool (ltI a1_1 a0_1)) H)
    (Q (.bool false) H))
theorem t_eq (a0_0 : Int) (a0_1 : Int) (a1_0 : Int) (a1_1 : Int) (H : Heap) (Q : AV → Heap → Prop) : aBody E0 C 34 [.agg [.int .i64 a0_0, .int .i64 a0_1], .agg [.int .i64 a1_0, .int .i64 a1_1]] H Q = t a0_0 a0_1 a1_0 a1_1 H Q := by kernel_rfl
theorem call {a0_0 : Int} {a0_1 : Int} {a1_0 : Int} {a1_1 : Int} {H : Heap} {Q : AV → Heap → Prop} (h : t a0_0 a0_1 a1_0 a1_1 H Q) : C 34 [.agg [.int .i64 a0_0, .int .i64 a0_1], .agg [.int .i64 a1_0, .int .i64 a1_1]] H Q := Call_intro ((t_eq a0_0 a0_1 a1_0 a1_1 H Q).mpr h)
end F34
/-! ### slices.Insert[[]broker/api.Cell,broker/api.Cell]: function 35h -/
namespace F35h
def t (a0j : Nat) (a0n : Nat) (a0c : Nat) (a1 : Int) (a2 : List (List AV)) (H : Heap) (Q : AV → Heap → Prop) : Prop :=
  G (leI 0 a1) (G (leI a1 ((a0n : Nat) : Int)) (G (leI ((a0n : Nat) : Int) ((a0c : Nat) : Int)) (G (leI ((a0c : Nat) : Int) ((a0c : Nat) : Int)) (cond (eqI (lenI a2) 0)
  (Q (.hs a0j 0 a0n a0c 5) H)
  (cond (eqI a1 ((a0n : Nat) : Int))
    (G ((H.get a0j).isRows 5) (cond (Nat.ble (a0n + a2.length) a0c)
      (G (Nat.ble ((0 + a0n) + a2.length) (H.get a0j).xs.length) (Q (.hs a0j 0 (a0n + a2.length) a0c 5) (H.set a0j (.rows 5 (splice (H.get a0j).xs (0 + a0n) a2)))))
      (G (room (((H.get a0j).xs.drop 0).take a0n) a2 56) (G (Nat.ble (0 + a0n) (H.get a0j).xs.length) (∀ c_1 : Nat, a0n + a2.length ≤ c_1 → (a0n + a2.length ≤ 140737488355328 → c_1 ≤ 9223372036854775807) → (Q (.hs H.next 0 (a0n + a2.length) c_1 5) (H.push (.rows 5 (pad 5 c_1 ((((H.get a0j).xs.drop 0).take a0n) ++ a2))))))))))
    (cond (ltI ((a0c : Nat) : Int) (addW .i64 ((a0n : Nat) : Int) (lenI a2)))
      (G (leI 0 a1) (G (leI a1 ((a0c : Nat) : Int)) (G (leI ((a0c : Nat) : Int) ((a0c : Nat) : Int)) (G ((H.get a0j).isRows 5) (G (leI 0 (subW .i64 (addW .i64 ((a0n : Nat) : Int) (lenI a2)) a1)) (G (roomN (subW .i64 (addW .i64 ((a0n : Nat) : Int) (lenI a2)) a1) 56) (cond (Nat.ble (a1.toNat + ((List.replicate ((subW .i64 (addW .i64 ((a0n : Nat) : Int) (lenI a2)) a1).toNat) ([.str (⟨#[]⟩ : ByteArray), .str (⟨#[]⟩ : ByteArray), .bool false, .int .i64 0, .int .i64 0] : List AV)).length)) a0c)
        (G (Nat.ble ((0 + a1.toNat) + ((List.replicate ((subW .i64 (addW .i64 ((a0n : Nat) : Int) (lenI a2)) a1).toNat) ([.str (⟨#[]⟩ : ByteArray), .str (⟨#[]⟩ : ByteArray), .bool false, .int .i64 0, .int .i64 0] : List AV)).length)) (H.get a0j).xs.length) (G (leI 0 a1) (G (leI a1 ((a1.toNat + ((List.replicate ((subW .i64 (addW .i64 ((a0n : Nat) : Int) (lenI a2)) a1).toNat) ([.str (⟨#[]⟩ : ByteArray), .str (⟨#[]⟩ : ByteArray), .bool false, .int .i64 0, .int .i64 0] : List AV)).length) : Nat) : Int)) (G (leI ((a1.toNat + ((List.replicate ((subW .i64 (addW .i64 ((a0n : Nat) : Int) (lenI a2)) a1).toNat) ([.str (⟨#[]⟩ : ByteArray), .str (⟨#[]⟩ : ByteArray), .bool false, .int .i64 0, .int .i64 0] : List AV)).length) : Nat) : Int) ((a0c : Nat) : Int)) (G (leI ((a0c : Nat) : Int) ((a0c : Nat) : Int)) (G (((H.set a0j (.rows 5 (splice (H.get a0j).xs (0 + a1.toNat) (List.replicate ((subW .i64 (addW .i64 ((a0n : Nat) : Int) (lenI a2)) a1).toNat) ([.str (⟨#[]⟩ : ByteArray), .str (⟨#[]⟩ : ByteArray), .bool false, .int .i64 0, .int .i64 0] : List AV))))).get a0j).isRows 5) (G (Nat.ble ((0 + a1.toNat) + ((((a1.toNat + ((List.replicate ((subW .i64 (addW .i64 ((a0n : Nat) : Int) (lenI a2)) a1).toNat) ([.str (⟨#[]⟩ : ByteArray), .str (⟨#[]⟩ : ByteArray), .bool false, .int .i64 0, .int .i64 0] : List AV)).length) : Nat) : Int).toNat) - a1.toNat)) ((H.set a0j (.rows 5 (splice (H.get a0j).xs (0 + a1.toNat) (List.replicate ((subW .i64 (addW .i64 ((a0n : Nat) : Int) (lenI a2)) a1).toNat) ([.str (⟨#[]⟩ : ByteArray), .str (⟨#[]⟩ : ByteArray), .bool false, .int .i64 0, .int .i64 0] : List AV))))).get a0j).xs.length) (G (leI 0 (addW .i64 a1 (lenI a2))) (G (leI (addW .i64 a1 (lenI a2)) ((a1.toNat + ((List.replicate ((subW .i64 (addW .i64 ((a0n : Nat) : Int) (lenI a2)) a1).toNat) ([.str (⟨#[]⟩ : ByteArray), .str (⟨#[]⟩ : ByteArray), .bool false, .int .i64 0, .int .i64 0] : List AV)).length) : Nat) : Int)) (G (leI ((a1.toNat + ((List.replicate ((subW .i64 (addW .i64 ((a0n : Nat) : Int) (lenI a2)) a1).toNat) ([.str (⟨#[]⟩ : ByteArray), .str (⟨#[]⟩ : ByteArray), .bool false, .int .i64 0, .int .i64 0] : List AV)).length) : Nat) : Int) ((a0c : Nat) : Int)) (G (leI ((a0c : Nat) : Int) ((a0c : Nat) : Int)) (G (leI 0 a1) (G (leI a1 ((a0n : Nat) : Int)) (G (leI ((a0n : Nat) : Int) ((a0c : Nat) : Int)) (G (leI ((a0c : Nat) : Int) ((a0c : Nat) : Int)) (G ((((H.set a0j (.rows 5 (splice (H.get a0j).xs (0 + a1.toNat) (List.replicate ((subW .i64 (addW .i64 ((a0n : Nat) : Int) (lenI a2)) a1).toNat) ([.str (⟨#[]⟩ : ByteArray), .str (⟨#[]⟩ : ByteArray), .bool false, .int .i64 0, .int .i64 0] : List AV))))).set a0j (.rows 5 (splice ((H.set a0j (.rows 5 (splice (H.get a0j).xs (0 + a1.toNat) (List.replicate ((subW .i64 (addW .i64 ((a0n : Nat) : Int) (lenI a2)) a1).toNat) ([.str (⟨#[]⟩ : ByteArray), .str (⟨#[]⟩ : ByteArray), .bool false, .int .i64 0, .int .i64 0] : List AV))))).get a0j).xs (0 + a1.toNat) (a2.take ((((a1.toNat + ((List.replicate ((subW .i64 (addW .i64 ((a0n : Nat) : Int) (lenI a2)) a1).toNat) ([.str (⟨#[]⟩ : ByteArray), .str (⟨#[]⟩ : ByteArray), .bool false, .int .i64 0, .int .i64 0] : List AV)).length) : Nat) : Int).toNat) - a1.toNat))))).get a0j).isRows 5) (G (Nat.ble ((0 + ((addW .i64 a1 (lenI a2)).toNat)) + ((((a1.toNat + ((List.replicate ((subW .i64 (addW .i64 ((a0n : Nat) : Int) (lenI a2)) a1).toNat) ([.str (⟨#[]⟩ : ByteArray), .str (⟨#[]⟩ : ByteArray), .bool false, .int .i64 0, .int .i64 0] : List AV)).length) : Nat) : Int).toNat) - ((addW .i64 a1 (lenI a2)).toNat))) (((H.set a0j (.rows 5 (splice (H.get a0j).xs (0 + a1.toNat) (List.replicate ((subW .i64 (addW .i64 ((a0n : Nat) : Int) (lenI a2)) a1).toNat) ([.str (⟨#[]⟩ : ByteArray), .str (⟨#[]⟩ : ByteArray), .bool false, .int .i64 0, .int .i64 0] : List AV))))).set a0j (.rows 5 (splice ((H.set a0j (.rows 5 (splice (H.get a0j).xs (0 + a1.toNat) (List.replicate ((subW .i64 (addW .i64 ((a0n : Nat) : Int) (lenI a2)) a1).toNat) ([.str (⟨#[]⟩ : ByteArray), .str (⟨#[]⟩ : ByteArray), .bool false, .int .i64 0, .int .i64 0] : List AV))))).get a0j).xs (0 + a1.toNat) (a2.take ((((a1.toNat + ((List.replicate ((subW .i64 (addW .i64 ((a0n : Nat) : Int) (lenI a2)) a1).toNat) ([.str (⟨#[]⟩ : ByteArray), .str (⟨#[]⟩ : ByteArray), .bool false, .int .i64 0, .int .i64 0] : List AV)).length) : Nat) : Int).toNat) - a1.toNat))))).get a0j).xs.length) (G ((((H.set a0j (.rows 5 (splice (H.get a0j).xs (0 + a1.toNat) (List.replicate ((subW .i64 (addW .i64 ((a0n : Nat) : Int) (lenI a2)) a1).toNat) ([.str (⟨#[]⟩ : ByteArray), .str (⟨#[]⟩ : ByteArray), .bool false, .int .i64 0, .int .i64 0] : List AV))))).set a0j (.rows 5 (splice ((H.set a0j (.rows 5 (splice (H.get a0j).xs (0 + a1.toNat) (List.replicate ((subW .i64 (addW .i64 ((a0n : Nat) : Int) (lenI a2)) a1).toNat) ([.str (⟨#[]⟩ : ByteArray), .str (⟨#[]⟩ : ByteArray), .bool false, .int .i64 0, .int .i64 0] : List AV))))).get a0j).xs (0 + a1.toNat) (a2.take ((((a1.toNat + ((List.replicate ((subW .i64 (addW .i64 ((a0n : Nat) : Int) (lenI a2)) a1).toNat) ([.str (⟨#[]⟩ : ByteArray), .str (⟨#[]⟩ : ByteArray), .bool false, .int .i64 0, .int .i64 0] : List AV)).length) : Nat) : Int).toNat) - a1.toNat))))).get a0j).isRows 5) (G (Nat.ble ((0 + a1.toNat) + (a0n - a1.toNat)) (((H.set a0j (.rows 5 (splice (H.get a0j).xs (0 + a1.toNat) (List.replicate ((subW .i64 (addW .i64 ((a0n : Nat) : Int) (lenI a2)) a1).toNat) ([.str (⟨#[]⟩ : ByteArray), .str (⟨#[]⟩ : ByteArray), .bool false, .int .i64 0, .int .i64 0] : List AV))))).set a0j (.rows 5 (splice ((H.set a0j (.rows 5 (splice (H.get a0j).xs (0 + a1.toNat) (List.replicate ((subW .i64 (addW .i64 ((a0n : Nat) : Int) (lenI a2)) a1).toNat) ([.str (⟨#[]⟩ : ByteArray), .str (⟨#[]⟩ : ByteArray), .bool false, .int .i64 0, .int .i64 0] : List AV))))).get a0j).xs (0 + a1.toNat) (a2.take ((((a1.toNat + ((List.replicate ((subW .i64 (addW .i64 ((a0n : Nat) : Int) (lenI a2)) a1).toNat) ([.str (⟨#[]⟩ : ByteArray), .str (⟨#[]⟩ : ByteArray), .bool false, .int .i64 0, .int .i64 0] : List AV)).length) : Nat) : Int).toNat) - a1.toNat))))).get a0j).xs.length) (Q (.hs a0j 0 (a1.toNat + ((List.replicate ((subW .i64 (addW .i64 ((a0n : Nat) : Int) (lenI a2)) a1).toNat) ([.str (⟨#[]⟩ : ByteArray), .str (⟨#[]⟩ : ByteArray), .bool false, .int .i64 0, .int .i64 0] : List AV)).length)) a0c 5) (((H.set a0j (.rows 5 (splice (H.get a0j).xs (0 + a1.toNat) (List.replicate ((subW .i64 (addW .i64 ((a0n : Nat) : Int) (lenI a2)) a1).toNat) ([.str (⟨#[]⟩ : ByteArray), .str (⟨#[]⟩ : ByteArray), .bool false, .int .i64 0, .int .i64 0] : List AV))))).set a0j (.rows 5 (splice ((H.set a0j (.rows 5 (splice (H.get a0j).xs (0 + a1.toNat) (List.replicate ((subW .i64 (addW .i64 ((a0n : Nat) : Int) (lenI a2)) a1).toNat) ([.str (⟨#[]⟩ : ByteArray), .str (⟨#[]⟩ : ByteArray), .bool false, .int .i64 0, .int .i64 0] : List AV))))).get a0j).xs (0 + a1.toNat) (a2.take ((((a1.toNat + ((List.replicate ((subW .i64 (addW .i64 ((a0n : Nat) : Int) (lenI a2)) a1).toNat) ([.str (⟨#[]⟩ : ByteArray), .str (⟨#[]⟩ : ByteArray), .bool false, .int .i64 0, .int .i64 0] : List AV)).length) : Nat) : Int).toNat) - a1.toNat))))).set a0j (.rows 5 (splice (((H.set a0j (.rows 5 (splice (H.get a0j).xs (0 + a1.toNat) (List.replicate ((subW .i64 (addW .i64 ((a0n : Nat) : Int) (lenI a2)) a1).toNat) ([.str (⟨#[]⟩ : ByteArray), .str (⟨#[]⟩ : ByteArray), .bool false, .int .i64 0, .int .i64 0] : List AV))))).set a0j (.rows 5 (splice ((H.set a0j (.rows 5 (splice (H.get a0j).xs (0 + a1.toNat) (List.replicate ((subW .i64 (addW .i64 ((a0n : Nat) : Int) (lenI a2)) a1).toNat) ([.str (⟨#[]⟩ : ByteArray), .str (⟨#[]⟩ : ByteArray), .bool false, .int .i64 0, .int .i64 0] : List AV))))).get a0j).xs (0 + a1.toNat) (a2.take ((((a1.toNat + ((List.replicate ((subW .i64 (addW .i64 ((a0n : Nat) : Int) (lenI a2)) a1).toNat) ([.str (⟨#[]⟩ : ByteArray), .str (⟨#[]⟩ : ByteArray), .bool false, .int .i64 0, .int .i64 0] : List AV)).length) : Nat) : Int).toNat) - a1.toNat))))).get a0j).xs (0 + ((addW .i64 a1 (lenI a2)).toNat)) ((((((H.set a0j (.rows 5 (splice (H.get a0j).xs (0 + a1.toNat) (List.replicate ((subW .i64 (addW .i64 ((a0n : Nat) : Int) (lenI a2)) a1).toNat) ([.str (⟨#[]⟩ : ByteArray), .str (⟨#[]⟩ : ByteArray), .bool false, .int .i64 0, .int .i64 0] : List AV))))).set a0j (.rows 5 (splice ((H.set a0j (.rows 5 (splice (H.get a0j).xs (0 + a1.toNat) (List.replicate ((subW .i64 (addW .i64 ((a0n : Nat) : Int) (lenI a2)) a1).toNat) ([.str (⟨#[]⟩ : ByteArray), .str (⟨#[]⟩ : ByteArray), .bool false, .int .i64 0, .int .i64 0] : List AV))))).get a0j).xs (0 + a1.toNat) (a2.take ((((a1.toNat + ((List.replicate ((subW .i64 (addW .i64 ((a0n : Nat) : Int) (lenI a2)) a1).toNat) ([.str (⟨#[]⟩ : ByteArray), .str (⟨#[]⟩ : ByteArray), .bool false, .int .i64 0, .int .i64 0] : List AV)).length) : Nat) : Int).toNat) - a1.toNat))))).get a0j).xs.drop (0 + a1.toNat)).take (a0n - a1.toNat)).take ((((a1.toNat + ((List.replicate ((subW .i64 (addW .i64 ((a0n : Nat) : Int) (lenI a2)) a1).toNat) ([.str (⟨#[]⟩ : ByteArray), .str (⟨#[]⟩ : ByteArray), .bool false, .int .i64 0, .int .i64 0] : List AV)).length) : Nat) : Int).toNat) - ((addW .i64 a1 (lenI a2)).toNat))))))))))))))))))))))))))
        (G (room (((H.get a0j).xs.drop 0).take a1.toNat) (List.replicate ((subW .i64 (addW .i64 ((a0n : Nat) : Int) (lenI a2)) a1).toNat) ([.str (⟨#[]⟩ : ByteArray), .str (⟨#[]⟩ : ByteArray), .bool false, .int .i64 0, .int .i64 0] : List AV)) 56) (G (Nat.ble (0 + a1.toNat) (H.get a0j).xs.length) (∀ c_2 : Nat, a1.toNat + ((List.replicate ((subW .i64 (addW .i64 ((a0n : Nat) : Int) (lenI a2)) a1).toNat) ([.str (⟨#[]⟩ : ByteArray), .str (⟨#[]⟩ : ByteArray), .bool false, .int .i64 0, .int .i64 0] : List AV)).length) ≤ c_2 → (a1.toNat + ((List.replicate ((subW .i64 (addW .i64 ((a0n : Nat) : Int) (lenI a2)) a1).toNat) ([.str (⟨#[]⟩ : ByteArray), .str (⟨#[]⟩ : ByteArray), .bool false, .int .i64 0, .int .i64 0] : List AV)).length) ≤ 140737488355328 → c_2 ≤ 9223372036854775807) → (G (leI 0 a1) (G (leI a1 ((a1.toNat + ((List.replicate ((subW .i64 (addW .i64 ((a0n : Nat) : Int) (lenI a2)) a1).toNat) ([.str (⟨#[]⟩ : ByteArray), .str (⟨#[]⟩ : ByteArray), .bool false, .int .i64 0, .int .i64 0] : List AV)).length) : Nat) : Int)) (G (leI ((a1.toNat + ((List.replicate ((subW .i64 (addW .i64 ((a0n : Nat) : Int) (lenI a2)) a1).toNat) ([.str (⟨#[]⟩ : ByteArray), .str (⟨#[]⟩ : ByteArray), .bool false, .int .i64 0, .int .i64 0] : List AV)).length) : Nat) : Int) ((c_2 : Nat) : Int)) (G (leI ((c_2 : Nat) : Int) ((c_2 : Nat) : Int)) (G (((H.push (.rows 5 (pad 5 c_2 ((((H.get a0j).xs.drop 0).take a1.toNat) ++ (List.replicate ((subW .i64 (addW .i64 ((a0n : Nat) : Int) (lenI a2)) a1).toNat) ([.str (⟨#[]⟩ : ByteArray), .str (⟨#[]⟩ : ByteArray), .bool false, .int .i64 0, .int .i64 0] : List AV)))))).get H.next).isRows 5) (G (Nat.ble ((0 + a1.toNat) + ((((a1.toNat + ((List.replicate ((subW .i64 (addW .i64 ((a0n : Nat) : Int) (lenI a2)) a1).toNat) ([.str (⟨#[]⟩ : ByteArray), .str (⟨#[]⟩ : ByteArray), .bool false, .int .i64 0, .int .i64 0] : List AV)).length) : Nat) : Int).toNat) - a1.toNat)) ((H.push (.rows 5 (pad 5 c_2 ((((H.get a0j).xs.drop 0).take a1.toNat) ++ (List.replicate ((subW .i64 (addW .i64 ((a0n : Nat) : Int) (lenI a2)) a1).toNat) ([.str (⟨#[]⟩ : ByteArray), .str (⟨#[]⟩ : ByteArray), .bool false, .int .i64 0, .int .i64 0] : List AV)))))).get H.next).xs.length) (G (leI 0 (addW .i64 a1 (lenI a2))) (G (leI (addW .i64 a1 (lenI a2)) ((a1.toNat + ((List.replicate ((subW .i64 (addW .i64 ((a0n : Nat) : Int) (lenI a2)) a1).toNat) ([.str (⟨#[]⟩ : ByteArray), .str (⟨#[]⟩ : ByteArray), .bool false, .int .i64 0, .int .i64 0] : List AV)).length) : Nat) : Int)) (G (leI ((a1.toNat + ((List.replicate ((subW .i64 (addW .i64 ((a0n : Nat) : Int) (lenI a2)) a1).toNat) ([.str (⟨#[]⟩ : ByteArray), .str (⟨#[]⟩ : ByteArray), .bool false, .int .i64 0, .int .i64 0] : List AV)).length) : Nat) : Int) ((c_2 : Nat) : Int)) (G (leI ((c_2 : Nat) : Int) ((c_2 : Nat) : Int)) (G (leI 0 a1) (G (leI a1 ((a0n : Nat) : Int)) (G (leI ((a0n : Nat) : Int) ((a0c : Nat) : Int)) (G (leI ((a0c : Nat) : Int) ((a0c : Nat) : Int)) (G ((((H.push (.rows 5 (pad 5 c_2 ((((H.get a0j).xs.drop 0).take a1.toNat) ++ (List.replicate ((subW .i64 (addW .i64 ((a0n : Nat) : Int) (lenI a2)) a1).toNat) ([.str (⟨#[]⟩ : ByteArray), .str (⟨#[]⟩ : ByteArray), .bool false, .int .i64 0, .int .i64 0] : List AV)))))).set H.next (.rows 5 (splice ((H.push (.rows 5 (pad 5 c_2 ((((H.get a0j).xs.drop 0).take a1.toNat) ++ (List.replicate ((subW .i64 (addW .i64 ((a0n : Nat) : Int) (lenI a2)) a1).toNat) ([.str (⟨#[]⟩ : ByteArray), .str (⟨#[]⟩ : ByteArray), .bool false, .int .i64 0, .int .i64 0] : List AV)))))).get H.next).xs (0 + a1.toNat) (a2.take ((((a1.toNat + ((List.replicate ((subW .i64 (addW .i64 ((a0n : Nat) : Int) (lenI a2)) a1).toNat) ([.str (⟨#[]⟩ : ByteArray), .str (⟨#[]⟩ : ByteArray), .bool false, .int .i64 0, .int .i64 0] : List AV)).length) : Nat) : Int).toNat) - a1.toNat))))).get H.next).isRows 5) (G (Nat.ble ((0 + ((addW .i64 a1 (lenI a2)).toNat)) + ((((a1.toNat + ((List.replicate ((subW .i64 (addW .i64 ((a0n : Nat) : Int) (lenI a2)) a1).toNat) ([.str (⟨#[]⟩ : ByteArray), .str (⟨#[]⟩ : ByteArray), .bool false, .int .i64 0, .int .i64 0] : List AV)).length) : Nat) : Int).toNat) - ((addW .i64 a1 (lenI a2)).toNat))) (((H.push (.rows 5 (pad 5 c_2 ((((H.get a0j).xs.drop 0).take a1.toNat) ++ (List.replicate ((subW .i64 (addW .i64 ((a0n : Nat) : Int) (lenI a2)) a1).toNat) ([.str (⟨#[]⟩ : ByteArray), .str (⟨#[]⟩ : ByteArray), .bool false, .int .i64 0, .int .i64 0] : List AV)))))).set H.next (.rows 5 (splice ((H.push (.rows 5 (pad 5 c_2 ((((H.get a0j).xs.drop 0).take a1.toNat) ++ (List.replicate ((subW .i64 (addW .i64 ((a0n : Nat) : Int) (lenI a2)) a1).toNat) ([.str (⟨#[]⟩ : ByteArray), .str (⟨#[]⟩ : ByteArray), .bool false, .int .i64 0, .int .i64 0] : List AV)))))).get H.next).xs (0 + a1.toNat) (a2.take ((((a1.toNat + ((List.replicate ((subW .i64 (addW .i64 ((a0n : Nat) : Int) (lenI a2)) a1).toNat) ([.str (⟨#[]⟩ : ByteArray), .str (⟨#[]⟩ : ByteArray), .bool false, .int .i64 0, .int .i64 0] : List AV)).length) : Nat) : Int).toNat) - a1.toNat))))).get H.next).xs.length) (G ((((H.push (.rows 5 (pad 5 c_2 ((((H.get a0j).xs.drop 0).take a1.toNat) ++ (List.replicate ((subW .i64 (addW .i64 ((a0n : Nat) : Int) (lenI a2)) a1).toNat) ([.str (⟨#[]⟩ : ByteArray), .str (⟨#[]⟩ : ByteArray), .bool false, .int .i64 0, .int .i64 0] : List AV)))))).set H.next (.rows 5 (splice ((H.push (.rows 5 (pad 5 c_2 ((((H.get a0j).xs.drop 0).take a1.toNat) ++ (List.replicate ((subW .i64 (addW .i64 ((a0n : Nat) : Int) (lenI a2)) a1).toNat) ([.str (⟨#[]⟩ : ByteArray), .str (⟨#[]⟩ : ByteArray), .bool false, .int .i64 0, .int .i64 0] : List AV)))))).get H.next).xs (0 + a1.toNat) (a2.take ((((a1.toNat + ((List.replicate ((subW .i64 (addW .i64 ((a0n : Nat) : Int) (lenI a2)) a1).toNat) ([.str (⟨#[]⟩ : ByteArray), .str (⟨#[]⟩ : ByteArray), .bool false, .int .i64 0, .int .i64 0] : List AV)).length) : Nat) : Int).toNat) - a1.toNat))))).get a0j).isRows 5) (G (Nat.ble ((0 + a1.toNat) + (a0n - a1.toNat)) (((H.push (.rows 5 (pad 5 c_2 ((((H.get a0j).xs.drop 0).take a1.toNat) ++ (List.replicate ((subW .i64 (addW .i64 ((a0n : Nat) : Int) (lenI a2)) a1).toNat) ([.str (⟨#[]⟩ : ByteArray), .str (⟨#[]⟩ : ByteArray), .bool false, .int .i64 0, .int .i64 0] : List AV)))))).set H.next (.rows 5 (splice ((H.push (.rows 5 (pad 5 c_2 ((((H.get a0j).xs.drop 0).take a1.toNat) ++ (List.replicate ((subW .i64 (addW .i64 ((a0n : Nat) : Int) (lenI a2)) a1).toNat) ([.str (⟨#[]⟩ : ByteArray), .str (⟨#[]⟩ : ByteArray), .bool false, .int .i64 0, .int .i64 0] : List AV)))))).get H.next).xs (0 + a1.toNat) (a2.take ((((a1.toNat + ((List.replicate ((subW .i64 (addW .i64 ((a0n : Nat) : Int) (lenI a2)) a1).toNat) ([.str (⟨#[]⟩ : ByteArray), .str (⟨#[]⟩ : ByteArray), .bool false, .int .i64 0, .int .i64 0] : List AV)).length) : Nat) : Int).toNat) - a1.toNat))))).get a0j).xs.length) (Q (.hs H.next 0 (a1.toNat + ((List.replicate ((subW .i64 (addW .i64 ((a0n : Nat) : Int) (lenI a2)) a1).toNat) ([.str (⟨#[]⟩ : ByteArray), .str (⟨#[]⟩ : ByteArray), .bool false, .int .i64 0, .int .i64 0] : List AV)).length)) c_2 5) (((H.push (.rows 5 (pad 5 c_2 ((((H.get a0j).xs.drop 0).take a1.toNat) ++ (List.replicate ((subW .i64 (addW .i64 ((a0n : Nat) : Int) (lenI a2)) a1).toNat) ([.str (⟨#[]⟩ : ByteArray), .str (⟨#[]⟩ : ByteArray), .bool false, .int .i64 0, .int .i64 0] : List AV)))))).set H.next (.rows 5 (splice ((H.push (.rows 5 (pad 5 c_2 ((((H.get a0j).xs.drop 0).take a1.toNat) ++ (List.replicate ((subW .i64 (addW .i64 ((a0n : Nat) : Int) (lenI a2)) a1).toNat) ([.str (⟨#[]⟩ : ByteArray), .str (⟨#[]⟩ : ByteArray), .bool false, .int .i64 0, .int .i64 0] : List AV)))))).get H.next).xs (0 + a1.toNat) (a2.take ((((a1.toNat + ((List.replicate ((subW .i64 (addW .i64 ((a0n : Nat) : Int) (lenI a2)) a1).toNat) ([.str (⟨#[]⟩ : ByteArray), .str (⟨#[]⟩ : ByteArray), .bool false, .int .i64 0, .int .i64 0] : List AV)).length) : Nat) : Int).toNat) - a1.toNat))))).set H.next (.rows 5 (splice (((H.push (.rows 5 (pad 5 c_2 ((((H.get a0j).xs.drop 0).take a1.toNat) ++ (List.replicate ((subW .i64 (addW .i64 ((a0n : Nat) : Int) (lenI a2)) a1).toNat) ([.str (⟨#[]⟩ : ByteArray), .str (⟨#[]⟩ : ByteArray), .bool false, .int .i64 0, .int .i64 0] : List AV)))))).set H.next (.rows 5 (splice ((H.push (.rows 5 (pad 5 c_2 ((((H.get a0j).xs.drop 0).take a1.toNat) ++ (List.replicate ((subW .i64 (addW .i64 ((a0n : Nat) : Int) (lenI a2)) a1).toNat) ([.str (⟨#[]⟩ : ByteArray), .str (⟨#[]⟩ : ByteArray), .bool false, .int .i64 0, .int .i64 0] : List AV)))))).get H.next).xs (0 + a1.toNat) (a2.take ((((a1.toNat + ((List.replicate ((subW .i64 (addW .i64 ((a0n : Nat) : Int) (lenI a2)) a1).toNat) ([.str (⟨#[]⟩ : ByteArray), .str (⟨#[]⟩ : ByteArray), .bool false, .int .i64 0, .int .i64 0] : List AV)).length) : Nat) : Int).toNat) - a1.toNat))))).get H.next).xs (0 + ((addW .i64 a1 (lenI a2)).toNat)) ((((((H.push (.rows 5 (pad 5 c_2 ((((H.get a0j).xs.drop 0).take a1.toNat) ++ (List.replicate ((subW .i64 (addW .i64 ((a0n : Nat) : Int) (lenI a2)) a1).toNat) ([.str (⟨#[]⟩ : ByteArray), .str (⟨#[]⟩ : ByteArray), .bool false, .int .i64 0, .int .i64 0] : List AV)))))).set H.next (.rows 5 (splice ((H.push (.rows 5 (pad 5 c_2 ((((H.get a0j).xs.drop 0).take a1.toNat) ++ (List.replicate ((subW .i64 (addW .i64 ((a0n : Nat) : Int) (lenI a2)) a1).toNat) ([.str (⟨#[]⟩ : ByteArray), .str (⟨#[]⟩ : ByteArray), .bool false, .int .i64 0, .int .i64 0] : List AV)))))).get H.next).xs (0 + a1.toNat) (a2.take ((((a1.toNat + ((List.replicate ((subW .i64 (addW .i64 ((a0n : Nat) : Int) (lenI a2)) a1).toNat) ([.str (⟨#[]⟩ : ByteArray), .str (⟨#[]⟩ : ByteArray), .bool false, .int .i64 0, .int .i64 0] : List AV)).length) : Nat) : Int).toNat) - a1.toNat))))).get a0j).xs.drop (0 + a1.toNat)).take (a0n - a1.toNat)).take ((((a1.toNat + ((List.replicate ((subW .i64 (addW .i64 ((a0n : Nat) : Int) (lenI a2)) a1).toNat) ([.str (⟨#[]⟩ : ByteArray), .str (⟨#[]⟩ : ByteArray), .bool false, .int .i64 0, .int .i64 0] : List AV)).length) : Nat) : Int).toNat) - ((addW .i64 a1 (lenI a2)).toNat)))))))))))))))))))))))))))))))))))
      (G (leI 0 (addW .i64 ((a0n : Nat) : Int) (lenI a2))) (G (leI (addW .i64 ((a0n : Nat) : Int) (lenI a2)) ((a0c : Nat) : Int)) (G (leI ((a0c : Nat) : Int) ((a0c : Nat) : Int)) (G (leI 0 (addW .i64 a1 (lenI a2))) (G (leI (addW .i64 a1 (lenI a2)) (((addW .i64 ((a0n : Nat) : Int) (lenI a2)).toNat : Nat) : Int)) (G (leI (((addW .i64 ((a0n : Nat) : Int) (lenI a2)).toNat : Nat) : Int) ((a0c : Nat) : Int)) (G (leI ((a0c : Nat) : Int) ((a0c : Nat) : Int)) (G ((H.get a0j).isRows 5) (G (leI 0 (addW .i64 a1 (lenI a2))) (G (leI (addW .i64 a1 (lenI a2)) (((addW .i64 ((a0n : Nat) : Int) (lenI a2)).toNat : Nat) : Int)) (G (leI (((addW .i64 ((a0n : Nat) : Int) (lenI a2)).toNat : Nat) : Int) ((a0c : Nat) : Int)) (G (leI ((a0c : Nat) : Int) ((a0c : Nat) : Int)) (G (leI 0 a1) (G (leI a1 (((addW .i64 ((a0n : Nat) : Int) (lenI a2)).toNat : Nat) : Int)) (G (leI (((addW .i64 ((a0n : Nat) : Int) (lenI a2)).toNat : Nat) : Int) ((a0c : Nat) : Int)) (G (leI ((a0c : Nat) : Int) ((a0c : Nat) : Int)) (G ((H.get a0j).isRows 5) (G (Nat.ble ((0 + ((addW .i64 a1 (lenI a2)).toNat)) + (((((addW .i64 ((a0n : Nat) : Int) (lenI a2)).toNat : Nat) : Int).toNat) - ((addW .i64 a1 (lenI a2)).toNat))) (H.get a0j).xs.length) (G ((H.get a0j).isRows 5) (G (Nat.ble ((0 + a1.toNat) + (((((addW .i64 ((a0n : Nat) : Int) (lenI a2)).toNat : Nat) : Int).toNat) - a1.toNat)) (H.get a0j).xs.length) (G (leI 0 a1) (G (leI a1 (((addW .i64 ((a0n : Nat) : Int) (lenI a2)).toNat : Nat) : Int)) (G (leI (((addW .i64 ((a0n : Nat) : Int) (lenI a2)).toNat : Nat) : Int) ((a0c : Nat) : Int)) (G (leI ((a0c : Nat) : Int) ((a0c : Nat) : Int)) (G (((H.set a0j (.rows 5 (splice (H.get a0j).xs (0 + ((addW .i64 a1 (lenI a2)).toNat)) ((((H.get a0j).xs.drop (0 + a1.toNat)).take (((((addW .i64 ((a0n : Nat) : Int) (lenI a2)).toNat : Nat) : Int).toNat) - a1.toNat)).take (((((addW .i64 ((a0n : Nat) : Int) (lenI a2)).toNat : Nat) : Int).toNat) - ((addW .i64 a1 (lenI a2)).toNat)))))).get a0j).isRows 5) (G (Nat.ble ((0 + a1.toNat) + (((((addW .i64 ((a0n : Nat) : Int) (lenI a2)).toNat : Nat) : Int).toNat) - a1.toNat)) ((H.set a0j (.rows 5 (splice (H.get a0j).xs (0 + ((addW .i64 a1 (lenI a2)).toNat)) ((((H.get a0j).xs.drop (0 + a1.toNat)).take (((((addW .i64 ((a0n : Nat) : Int) (lenI a2)).toNat : Nat) : Int).toNat) - a1.toNat)).take (((((addW .i64 ((a0n : Nat) : Int) (lenI a2)).toNat : Nat) : Int).toNat) - ((addW .i64 a1 (lenI a2)).toNat)))))).get a0j).xs.length) (Q (.hs a0j 0 ((addW .i64 ((a0n : Nat) : Int) (lenI a2)).toNat) a0c 5) ((H.set a0j (.rows 5 (splice (H.get a0j).xs (0 + ((addW .i64 a1 (lenI a2)).toNat)) ((((H.get a0j).xs.drop (0 + a1.toNat)).take (((((addW .i64 ((a0n : Nat) : Int) (lenI a2)).toNat : Nat) : Int).toNat) - a1.toNat)).take (((((addW .i64 ((a0n : Nat) : Int) (lenI a2)).toNat : Nat) : Int).toNat) - ((addW .i64 a1 (lenI a2)).toNat)))))).set a0j (.rows 5 (splice ((H.set a0j (.rows 5 (splice (H.get a0j).xs (0 + ((addW .i64 a1 (lenI a2)).toNat)) ((((H.get a0j).xs.drop (0 + a1.toNat)).take (((((addW .i64 ((a0n : Nat) : Int) (lenI a2)).toNat : Nat) : Int).toNat) - a1.toNat)).take (((((addW .i64 ((a0n : Nat) : Int) (lenI a2)).toNat : Nat) : Int).toNat) - ((addW .i64 a1 (lenI a2)).toNat)))))).get a0j).xs (0 + a1.toNat) (a2.take (((((addW .i64 ((a0n : Nat) : Int) (lenI a2)).toNat : Nat) : Int).toNat) - a1.toNat))))))))))))))))))))))))))))))))))))))
theorem t_eq (a0j : Nat) (a0n : Nat) (a0c : Nat) (a1 : Int) (a2 : List (List AV)) (H : Heap) (Q : AV → Heap → Prop) : aBody E0 C 35 [.hs a0j 0 a0n a0c 5, .int .i64 a1, .sl 0 5 a2] H Q = t a0j a0n a0c a1 a2 H Q := by kernel_rfl
theorem call {a0j : Nat} {a0n : Nat} {a0c : Nat} {a1 : Int} {a2 : List (List AV)} {H : Heap} {Q : AV → Heap → Prop} (h : t a0j a0n a0c a1 a2 H Q) : C 35 [.hs a0j 0 a0n a0c 5, .int .i64 a1, .sl 0 5 a2] H Q := Call_intro ((t_eq a0j a0n a0c a1 a2 H Q).mpr h)
end F35h
/-! ### slices.Insert[[]broker/api.Cell,broker/api.Cell]: function 35n -/
namespace F35n
def t (a1 : Int) (a2 : List (List AV)) (H : Heap) (Q : AV → Heap → Prop) : Prop :=
  G (eqI a1 0) (cond (eqI (lenI a2) 0)
  (Q (.nilsl) H)
  (cond (eqI a1 0)
    (G (room [] a2 56) (Q (.sl 1 5 a2) H))
    (cond (ltI 0 (addW .i64 0 (lenI a2)))
      (G (eqI a1 0) (False))
      (G (eqI (addW .i64 0 (lenI a2)) 0) (G (eqI (addW .i64 a1 (lenI a2)) 0) (G (eqI (addW .i64 a1 (lenI a2)) 0) (G (eqI a1 0) (G (eqI a1 0) (Q (.nilsl) H)))))))))
theorem t_eq (a1 : Int) (a2 : List (List AV)) (H : Heap) (Q : AV → Heap → Prop) : aBody E0 C 35 [.nilsl, .int .i64 a1, .sl 0 5 a2] H Q = t a1 a2 H Q := by kernel_rfl
theorem call {a1 : Int} {a2 : List (List AV)} {H : Heap} {Q : AV → Heap → Prop} (h : t a1 a2 H Q) : C 35 [.nilsl, .int .i64 a1, .sl 0 5 a2] H Q := Call_intro ((t_eq a1 a2 H Q).mpr h)
end F35n
/-! ### broker/brokerref44.find: function 36 -/
namespace F36
def K0 (Q : AV → Heap → Prop) : Ex → St → Prop := (contK E0 C (E0.L 36) [.block 0, .seq (codeAt (bodyOf E0 36) [1, 1]) 1] (finK E0 36 Q))
def L0 (a0 : List (List AV)) (a1 : ByteArray) (Q : AV → Heap → Prop) (x9 : Int) (Hh : Heap) : Prop := ALoop (fun K s => awp E0 C (E0.L 36) (codeAt (bodyOf E0 36) [1, 0, 1, 0, 0]) 1 s K) (clean [(1, 0), (7, 0), (8, 0), (9, 0)] 0) (K0 Q) ⟨[.any, .str a1, .any, .any, .any, .any, .any, .sl 0 5 a0, .int .i64 (lenI a0), .int .i64 x9, .any, .any, .any, .any, .any, .any, .any, .any, .any, .any], [], Hh⟩
def r0 (a0 : List (List AV)) (a1 : ByteArray) (Q : AV → Heap → Prop) (x9 : Int) (Hh : Heap) : Prop :=
  cond (ltI x9 (lenI a0))
  (G (leI 0 x9) (G (ltI x9 (lenI a0)) (G (((a0.getD x9.toNat []).getD 0 .any).isStr) (G (((a0.getD x9.toNat []).getD 1 .any).isStr) (G (((a0.getD x9.toNat []).getD 2 .any).isBool) (G (((a0.getD x9.toNat []).getD 3 .any).isInt .i64) (G (((a0.getD x9.toNat []).getD 4 .any).isInt .i64) (cond (eqS (((a0.getD x9.toNat []).getD 0 .any).toStr) a1)
    (Q (.int .i64 x9) Hh)
    (L0 a0 a1 Q (addW .i64 x9 1) Hh)))))))))
  (Q (.int .i64 (-1)) Hh)
theorem r0_eq (a0 : List (List AV)) (a1 : ByteArray) (Q : AV → Heap → Prop) (x9 : Int) (Hh : Heap) : (fun K s => awp E0 C (E0.L 36) (codeAt (bodyOf E0 36) [1, 0, 1, 0, 0]) 1 s K) (fun e s' => match e with | .normal => ALoop (fun K s => awp E0 C (E0.L 36) (codeAt (bodyOf E0 36) [1, 0, 1, 0, 0]) 1 s K) (clean [(1, 0), (7, 0), (8, 0), (9, 0)] 0) (K0 Q) ((clean [(1, 0), (7, 0), (8, 0), (9, 0)] 0) s') | e => K0 Q e s') ⟨[.any, .str a1, .any, .any, .any, .any, .any, .sl 0 5 a0, .int .i64 (lenI a0), .int .i64 x9, .any, .any, .any, .any, .any, .any, .any, .any, .any, .any], [], Hh⟩ = r0 a0 a1 Q x9 Hh := by kernel_rfl
theorem L0_step {a0 : List (List AV)} {a1 : ByteArray} {Q : AV → Heap → Prop} {x9 : Int} {Hh : Heap} (h : r0 a0 a1 Q x9 Hh) : L0 a0 a1 Q x9 Hh := ALoop_unfold ((r0_eq a0 a1 Q x9 Hh).mpr h)
def t (a0 : List (List AV)) (a1 : ByteArray) (H : Heap) (Q : AV → Heap → Prop) : Prop :=
  L0 a0 a1 Q 0 H
theorem t_eq (a0 : List (List AV)) (a1 : ByteArray) (H : Heap) (Q : AV → Heap → Prop) : aBody E0 C 36 [.sl 0 5 a0, .str a1] H Q = t a0 a1 H Q := by kernel_rfl
theorem call {a0 : List (List AV)} {a1 : ByteArray} {H : Heap} {Q : AV → Heap → Prop} (h : t a0 a1 H Q) : C 36 [.sl 0 5 a0, .str a1] H Q := Call_intro ((t_eq a0 a1 H Q).mpr h)
end F36
/-! ### broker/brokerref44.Higher: function 37 -/
namespace F37
def t (a0_0 : Int) (a0_1 : Int) (a1_0 : Int) (a1_1 : Int) (H : Heap) (Q : AV → Heap → Prop) : Prop :=
  cond (ltI a1_0 a0_0)
  (Q (.bool true) H)
  (cond (eqI a0_0 a1_0)
    (Q (.bool (ltI a1_1 a0_1)) H)
    (Q (.bool false) H))
theorem t_eq (a0_0 : Int) (a0_1 : Int) (a1_0 : Int) (a1_1 : Int) (H : Heap) (Q : AV → Heap → Prop) : aBody E0 C 37 [.agg [.int .i64 a0_0, .int .i64 a0_1], .agg [.int .i64 a1_0, .int .i64 a1_1]] H Q = t a0_0 a0_1 a1_0 a1_1 H Q := by kernel_rfl
theorem call {a0_0 : Int} {a0_1 : Int} {a1_0 : Int} {a1_1 : Int} {H : Heap} {Q : AV → Heap → Prop} (h : t a0_0 a0_1 a1_0 a1_1 H Q) : C 37 [.agg [.int .i64 a0_0, .int .i64 a0_1], .agg [.int .i64 a1_0, .int .i64 a1_1]] H Q := Call_intro ((t_eq a0_0 a0_1 a1_0 a1_1 H Q).mpr h)
end F37
/-! ### broker/brokerref44.put: function 38 -/
namespace F38
def K0 (Q : AV → Heap → Prop) : Ex → St → Prop := (contK E0 C (E0.L 38) [.block 0, .seq (codeAt (bodyOf E0 38) [1, 1, 1]) 1] (finK E0 38 Q))
def L0 (a0 : List (List AV)) (a1_0 : ByteArray) (a1_1 : ByteArray) (a1_2 : Bool) (a1_3 : Int) (a1_4 : Int) (Q : AV → Heap → Prop) (x5out : List (List AV)) (x12 : Int) (Hh : Heap) : Prop := ALoop (fun K s => awp E0 C (E0.L 38) (codeAt (bodyOf E0 38) [1, 1, 0, 1, 0, 0]) 1 s K) (clean [(0, 0), (3, 0), (5, 7), (10, 0), (11, 0), (12, 0)] 1) (K0 Q) ⟨[.sl 0 5 a0, .any, .any, .ptr 0 0, .any, .sl 1 5 x5out, .any, .any, .any, .any, .sl 0 5 a0, .int .i64 (lenI a0), .int .i64 x12, .any, .any, .any, .any, .any, .any, .any, .any, .any, .any, .any, .any, .any, .any, .any, .any, .any, .any, .any, .any, .any, .any, .any, .any, .any, .any, .any, .any, .any, .any, .any, .any, .any, .any], [.cells [.str a1_0, .str a1_1, .bool a1_2, .int .i64 a1_3, .int .i64 a1_4]], Hh⟩
def K1 (Q : AV → Heap → Prop) : Ex → St → Prop := (contK E0 C (E0.L 38) [.block 2, .seq (codeAt (bodyOf E0 38) [1, 1, 1, 1, 1]) 2] (finK E0 38 Q))
def L1 (a0 : List (List AV)) (a1_0 : ByteArray) (a1_1 : ByteArray) (a1_2 : Bool) (a1_3 : Int) (a1_4 : Int) (Q : AV → Heap → Prop) (x5out : List (List AV)) (x32 : Int) (Hh : Heap) : Prop := ALoop (fun K s => awp E0 C (E0.L 38) (codeAt (bodyOf E0 38) [1, 1, 1, 1, 0, 1, 0, 0]) 2 s K) (clean [(3, 0), (5, 0), (30, 0), (31, 0), (32, 0)] 1) (K1 Q) ⟨[.any, .any, .any, .ptr 0 0, .any, .sl 1 5 x5out, .any, .any, .any, .any, .any, .any, .any, .any, .any, .any, .any, .any, .any, .any, .any, .any, .any, .any, .any, .any, .any, .any, .any, .any, .sl 0 5 a0, .int .i64 (lenI a0), .int .i64 x32, .any, .any, .any, .any, .any, .any, .any, .any, .any, .any, .any, .any, .any, .any], [.cells [.str a1_0, .str a1_1, .bool a1_2, .int .i64 a1_3, .int .i64 a1_4]], Hh⟩
def r0 (a0 : List (List AV)) (a1_0 : ByteArray) (a1_1 : ByteArray) (a1_2 : Bool) (a1_3 : Int) (a1_4 : Int) (Q : AV → Heap → Prop) (x5out : List (List AV)) (x12 : Int) (Hh : Heap) : Prop :=
  cond (ltI x12 (lenI a0))
  (G (leI 0 x12) (G (ltI x12 (lenI a0)) (G (((a0.getD x12.toNat []).getD 0 .any).isStr) (G (((a0.getD x12.toNat []).getD 1 .any).isStr) (G (((a0.getD x12.toNat []).getD 2 .any).isBool) (G (((a0.getD x12.toNat []).getD 3 .any).isInt .i64) (G (((a0.getD x12.toNat []).getD 4 .any).isInt .i64) (cond (ltS (((a0.getD x12.toNat []).getD 0 .any).toStr) a1_0)
    (G (room x5out [[.str (((a0.getD x12.toNat []).getD 0 .any).toStr), .str (((a0.getD x12.toNat []).getD 1 .any).toStr), .bool (((a0.getD x12.toNat []).getD 2 .any).toBool), .int .i64 (((a0.getD x12.toNat []).getD 3 .any).toInt), .int .i64 (((a0.getD x12.toNat []).getD 4 .any).toInt)]] 56) (L0 a0 a1_0 a1_1 a1_2 a1_3 a1_4 Q (x5out ++ [[.str (((a0.getD x12.toNat []).getD 0 .any).toStr), .str (((a0.getD x12.toNat []).getD 1 .any).toStr), .bool (((a0.getD x12.toNat []).getD 2 .any).toBool), .int .i64 (((a0.getD x12.toNat []).getD 3 .any).toInt), .int .i64 (((a0.getD x12.toNat []).getD 4 .any).toInt)]]) (addW .i64 x12 1) Hh))
    (L0 a0 a1_0 a1_1 a1_2 a1_3 a1_4 Q x5out (addW .i64 x12 1) Hh)))))))))
  (G (room x5out [[.str a1_0, .str a1_1, .bool a1_2, .int .i64 a1_3, .int .i64 a1_4]] 56) (L1 a0 a1_0 a1_1 a1_2 a1_3 a1_4 Q (x5out ++ [[.str a1_0, .str a1_1, .bool a1_2, .int .i64 a1_3, .int .i64 a1_4]]) 0 Hh))
theorem r0_eq (a0 : List (List AV)) (a1_0 : ByteArray) (a1_1 : ByteArray) (a1_2 : Bool) (a1_3 : Int) (a1_4 : Int) (Q : AV → Heap → Prop) (x5out : List (List AV)) (x12 : Int) (Hh : Heap) : (fun K s => awp E0 C (E0.L 38) (codeAt (bodyOf E0 38) [1, 1, 0, 1, 0, 0]) 1 s K) (fun e s' => match e with | .normal => ALoop (fun K s => awp E0 C (E0.L 38) (codeAt (bodyOf E0 38) [1, 1, 0, 1, 0, 0]) 1 s K) (clean [(0, 0), (3, 0), (5, 7), (10, 0), (11, 0), (12, 0)] 1) (K0 Q) ((clean [(0, 0), (3, 0), (5, 7), (10, 0), (11, 0), (12, 0)] 1) s') | e => K0 Q e s') ⟨[.sl 0 5 a0, .any, .any, .ptr 0 0, .any, .sl 1 5 x5out, .any, .any, .any, .any, .sl 0 5 a0, .int .i64 (lenI a0), .int .i64 x12, .any, .any, .any, .any, .any, .any, .any, .any, .any, .any, .any, .any, .any, .any, .any, .any, .any, .any, .any, .any, .any, .any, .any, .any, .any, .any, .any, .any, .any, .any, .any, .any, .any, .any], [.cells [.str a1_0, .str a1_1, .bool a1_2, .int .i64 a1_3, .int .i64 a1_4]], Hh⟩ = r0 a0 a1_0 a1_1 a1_2 a1_3 a1_4 Q x5out x12 Hh := by kernel_rfl
theorem L0_step {a0 : List (List AV)} {a1_0 : ByteArray} {a1_1 : ByteArray} {a1_2 : Bool} {a1_3 : Int} {a1_4 : Int} {Q : AV → Heap → Prop} {x5out : List (List AV)} {x12 : Int} {Hh : Heap} (h : r0 a0 a1_0 a1_1 a1_2 a1_3 a1_4 Q x5out x12 Hh) : L0 a0 a1_0 a1_1 a1_2 a1_3 a1_4 Q x5out x12 Hh := ALoop_unfold ((r0_eq a0 a1_0 a1_1 a1_2 a1_3 a1_4 Q x5out x12 Hh).mpr h)
def r1 (a0 : List (List AV)) (a1_0 : ByteArray) (a1_1 : ByteArray) (a1_2 : Bool) (a1_3 : Int) (a1_4 : Int) (Q : AV → Heap → Prop) (x5out : List (List AV)) (x32 : Int) (Hh : Heap) : Prop :=
  cond (ltI x32 (lenI a0))
  (G (leI 0 x32) (G (ltI x32 (lenI a0)) (G (((a0.getD x32.toNat []).getD 0 .any).isStr) (G (((a0.getD x32.toNat []).getD 1 .any).isStr) (G (((a0.getD x32.toNat []).getD 2 .any).isBool) (G (((a0.getD x32.toNat []).getD 3 .any).isInt .i64) (G (((a0.getD x32.toNat []).getD 4 .any).isInt .i64) (cond (ltS a1_0 (((a0.getD x32.toNat []).getD 0 .any).toStr))
    (G (room x5out [[.str (((a0.getD x32.toNat []).getD 0 .any).toStr), .str (((a0.getD x32.toNat []).getD 1 .any).toStr), .bool (((a0.getD x32.toNat []).getD 2 .any).toBool), .int .i64 (((a0.getD x32.toNat []).getD 3 .any).toInt), .int .i64 (((a0.getD x32.toNat []).getD 4 .any).toInt)]] 56) (L1 a0 a1_0 a1_1 a1_2 a1_3 a1_4 Q (x5out ++ [[.str (((a0.getD x32.toNat []).getD 0 .any).toStr), .str (((a0.getD x32.toNat []).getD 1 .any).toStr), .bool (((a0.getD x32.toNat []).getD 2 .any).toBool), .int .i64 (((a0.getD x32.toNat []).getD 3 .any).toInt), .int .i64 (((a0.getD x32.toNat []).getD 4 .any).toInt)]]) (addW .i64 x32 1) Hh))
    (L1 a0 a1_0 a1_1 a1_2 a1_3 a1_4 Q x5out (addW .i64 x32 1) Hh)))))))))
  (Q (.sl 0 5 x5out) Hh)
theorem r1_eq (a0 : List (List AV)) (a1_0 : ByteArray) (a1_1 : ByteArray) (a1_2 : Bool) (a1_3 : Int) (a1_4 : Int) (Q : AV → Heap → Prop) (x5out : List (List AV)) (x32 : Int) (Hh : Heap) : (fun K s => awp E0 C (E0.L 38) (codeAt (bodyOf E0 38) [1, 1, 1, 1, 0, 1, 0, 0]) 2 s K) (fun e s' => match e with | .normal => ALoop (fun K s => awp E0 C (E0.L 38) (codeAt (bodyOf E0 38) [1, 1, 1, 1, 0, 1, 0, 0]) 2 s K) (clean [(3, 0), (5, 0), (30, 0), (31, 0), (32, 0)] 1) (K1 Q) ((clean [(3, 0), (5, 0), (30, 0), (31, 0), (32, 0)] 1) s') | e => K1 Q e s') ⟨[.any, .any, .any, .ptr 0 0, .any, .sl 1 5 x5out, .any, .any, .any, .any, .any, .any, .any, .any, .any, .any, .any, .any, .any, .any, .any, .any, .any, .any, .any, .any, .any, .any, .any, .any, .sl 0 5 a0, .int .i64 (lenI a0), .int .i64 x32, .any, .any, .any, .any, .any, .any, .any, .any, .any, .any, .any, .any, .any, .any], [.cells [.str a1_0, .str a1_1, .bool a1_2, .int .i64 a1_3, .int .i64 a1_4]], Hh⟩ = r1 a0 a1_0 a1_1 a1_2 a1_3 a1_4 Q x5out x32 Hh := by kernel_rfl
theorem L1_step {a0 : List (List AV)} {a1_0 : ByteArray} {a1_1 : ByteArray} {a1_2 : Bool} {a1_3 : Int} {a1_4 : Int} {Q : AV → Heap → Prop} {x5out : List (List AV)} {x32 : Int} {Hh : Heap} (h : r1 a0 a1_0 a1_1 a1_2 a1_3 a1_4 Q x5out x32 Hh) : L1 a0 a1_0 a1_1 a1_2 a1_3 a1_4 Q x5out x32 Hh := ALoop_unfold ((r1_eq a0 a1_0 a1_1 a1_2 a1_3 a1_4 Q x5out x32 Hh).mpr h)
def t (a0 : List (List AV)) (a1_0 : ByteArray) (a1_1 : ByteArray) (a1_2 : Bool) (a1_3 : Int) (a1_4 : Int) (H : Heap) (Q : AV → Heap → Prop) : Prop :=
  L0 a0 a1_0 a1_1 a1_2 a1_3 a1_4 Q [] 0 H
theorem t_eq (a0 : List (List AV)) (a1_0 : ByteArray) (a1_1 : ByteArray) (a1_2 : Bool) (a1_3 : Int) (a1_4 : Int) (H : Heap) (Q : AV → Heap → Prop) : aBody E0 C 38 [.sl 0 5 a0, .agg [.str a1_0, .str a1_1, .bool a1_2, .int .i64 a1_3, .int .i64 a1_4]] H Q = t a0 a1_0 a1_1 a1_2 a1_3 a1_4 H Q := by kernel_rfl
theorem call {a0 : List (List AV)} {a1_0 : ByteArray} {a1_1 : ByteArray} {a1_2 : Bool} {a1_3 : Int} {a1_4 : Int} {H : Heap} {Q : AV → Heap → Prop} (h : t a0 a1_0 a1_1 a1_2 a1_3 a1_4 H Q) : C 38 [.sl 0 5 a0, .agg [.str a1_0, .str a1_1, .bool a1_2, .int .i64 a1_3, .int .i64 a1_4]] H Q := Call_intro ((t_eq a0 a1_0 a1_1 a1_2 a1_3 a1_4 H Q).mpr h)
end F38
/-! ### broker/heal.Merge$1: function 39 -/
namespace F39
def t (a0_0 : ByteArray) (a0_1 : ByteArray) (a0_2 : Bool) (a0_3 : Int) (a0_4 : Int) (H : Heap) (Q : AV → Heap → Prop) : Prop :=
  Q (.sl 0 5 [[.str a0_0, .str a0_1, .bool a0_2, .int .i64 a0_3, .int .i64 a0_4]]) H
theorem t_eq (a0_0 : ByteArray) (a0_1 : ByteArray) (a0_2 : Bool) (a0_3 : Int) (a0_4 : Int) (H : Heap) (Q : AV → Heap → Prop) : aBody E0 C 39 [.agg [.str a0_0, .str a0_1, .bool a0_2, .int .i64 a0_3, .int .i64 a0_4]] H Q = t a0_0 a0_1 a0_2 a0_3 a0_4 H Q := by kernel_rfl
theorem call {a0_0 : ByteArray} {a0_1 : ByteArray} {a0_2 : Bool} {a0_3 : Int} {a0_4 : Int} {H : Heap} {Q : AV → Heap → Prop} (h : t a0_0 a0_1 a0_2 a0_3 a0_4 H Q) : C 39 [.agg [.str a0_0, .str a0_1, .bool a0_2, .int .i64 a0_3, .int .i64 a0_4]] H Q := Call_intro ((t_eq a0_0 a0_1 a0_2 a0_3 a0_4 H Q).mpr h)
end F39
/-! ### broker/heal.Merge$2: function 40 -/
namespace F40
def t (a0_0 : ByteArray) (a0_1 : ByteArray) (a0_2 : Bool) (a0_3 : Int) (a0_4 : Int) (a1_0 : ByteArray) (a1_1 : ByteArray) (a1_2 : Bool) (a1_3 : Int) (a1_4 : Int) (H : Heap) (Q : AV → Heap → Prop) : Prop :=
  C 41 [.agg [.str a1_0, .str a1_1, .bool a1_2, .int .i64 a1_3, .int .i64 a1_4], .agg [.str a0_0, .str a0_1, .bool a0_2, .int .i64 a0_3, .int .i64 a0_4]] H.none fun v_1 H_2 =>
  G ((v_1).isBool) (cond ((v_1).toBool)
    (Q (.sl 0 5 [[.str a1_0, .str a1_1, .bool a1_2, .int .i64 a1_3, .int .i64 a1_4]]) (H.past H_2))
    (Q (.sl 0 5 [[.str a0_0, .str a0_1, .bool a0_2, .int .i64 a0_3, .int .i64 a0_4]]) (H.past H_2)))
theorem t_eq (a0_0 : ByteArray) (a0_1 : ByteArray) (a0_2 : Bool) (a0_3 : Int) (a0_4 : Int) (a1_0 : ByteArray) (a1_1 : ByteArray) (a1_2 : Bool) (a1_3 : Int) (a1_4 : Int) (H : Heap) (Q : AV → Heap → Prop) : aBody E0 C 40 [.agg [.str a0_0, .str a0_1, .bool a0_2, .int .i64 a0_3, .int .i64 a0_4], .agg [.str a1_0, .str a1_1, .bool a1_2, .int .i64 a1_3, .int .i64 a1_4]] H Q = t a0_0 a0_1 a0_2 a0_3 a0_4 a1_0 a1_1 a1_2 a1_3 a1_4 H Q := by kernel_rfl
theorem call {a0_0 : ByteArray} {a0_1 : ByteArray} {a0_2 : Bool} {a0_3 : Int} {a0_4 : Int} {a1_0 : ByteArray} {a1_1 : ByteArray} {a1_2 : Bool} {a1_3 : Int} {a1_4 : Int} {H : Heap} {Q : AV → Heap → Prop} (h : t a0_0 a0_1 a0_2 a0_3 a0_4 a1_0 a1_1 a1_2 a1_3 a1_4 H Q) : C 40 [.agg [.str a0_0, .str a0_1, .bool a0_2, .int .i64 a0_3, .int .i64 a0_4], .agg [.str a1_0, .str a1_1, .bool a1_2, .int .i64 a1_3, .int .i64 a1_4]] H Q := Call_intro ((t_eq a0_0 a0_1 a0_2 a0_3 a0_4 a1_0 a1_1 a1_2 a1_3 a1_4 H Q).mpr h)
end F40
/-! ### broker/heal.prevails: function 41 -/
namespace F41
def t (a0_0 : ByteArray) (a0_1 : ByteArray) (a0_2 : Bool) (a0_3 : Int) (a0_4 : Int) (a1_0 : ByteArray) (a1_1 : ByteArray) (a1_2 : Bool) (a1_3 : Int) (a1_4 : Int) (H : Heap) (Q : AV → Heap → Prop) : Prop :=
  cond (!((eqI a0_3 a1_3) && ((eqI a0_4 a1_4) && true)))
  (C 34 [.agg [.int .i64 a0_3, .int .i64 a0_4], .agg [.int .i64 a1_3, .int .i64 a1_4]] H.none fun v_1 H_2 =>
    G ((v_1).isBool) (Q (.bool ((v_1).toBool)) (H.past H_2)))
  (cond (!(a0_2 == a1_2))
    (Q (.bool a1_2) H)
    (Q (.bool (ltS a1_1 a0_1)) H))
theorem t_eq (a0_0 : ByteArray) (a0_1 : ByteArray) (a0_2 : Bool) (a0_3 : Int) (a0_4 : Int) (a1_0 : ByteArray) (a1_1 : ByteArray) (a1_2 : Bool) (a1_3 : Int) (a1_4 : Int) (H : Heap) (Q : AV → Heap → Prop) : aBody E0 C 41 [.agg [.str a0_0, .str a0_1, .bool a0_2, .int .i64 a0_3, .int .i64 a0_4], .agg [.str a1_0, .str a1_1, .bool a1_2, .int .i64 a1_3, .int .i64 a1_4]] H Q = t a0_0 a0_1 a0_2 a0_3 a0_4 a1_0 a1_1 a1_2 a1_3 a1_4 H Q := by kernel_rfl
theorem call {a0_0 : ByteArray} {a0_1 : ByteArray} {a0_2 : Bool} {a0_3 : Int} {a0_4 : Int} {a1_0 : ByteArray} {a1_1 : ByteArray} {a1_2 : Bool} {a1_3 : Int} {a1_4 : Int} {H : Heap} {Q : AV → Heap → Prop} (h : t a0_0 a0_1 a0_2 a0_3 a0_4 a1_0 a1_1 a1_2 a1_3 a1_4 H Q) : C 41 [.agg [.str a0_0, .str a0_1, .bool a0_2, .int .i64 a0_3, .int .i64 a0_4], .agg [.str a1_0, .str a1_1, .bool a1_2, .int .i64 a1_3, .int .i64 a1_4]] H Q := Call_intro ((t_eq a0_0 a0_1 a0_2 a0_3 a0_4 a1_0 a1_1 a1_2 a1_3 a1_4 H Q).mpr h)
end F41
/-! ### broker/heal.merge[broker/api.Cell,broker/api.Cell]: function 42 -/
namespace F42
def K0 (Q : AV → Heap → Prop) : Ex → St → Prop := (contK E0 C (E0.L 42) [.block 0, .seq (codeAt (bodyOf E0 42) [1, 1, 1, 1]) 1] (finK E0 42 Q))
def L0 (a0 : List (List AV)) (a1 : List (List AV)) (Q : AV → Heap → Prop) (x11out : List (List AV)) (x12i : Int) (x13k : Int) (Hh : Heap) : Prop := ALoop (fun K s => awp E0 C (E0.L 42) (codeAt (bodyOf E0 42) [1, 1, 1, 0, 0, 0]) 1 s K) (clean [(0, 0), (1, 0), (2, 0), (3, 0), (4, 0), (11, 7), (12, 0), (13, 0)] 0) (K0 Q) ⟨[.sl 0 5 a0, .sl 0 5 a1, .fn 43 [], .fn 39 [], .fn 40 [], .any, .any, .any, .any, .any, .any, .sl 1 5 x11out, .int .i64 x12i, .int .i64 x13k, .any, .any, .any, .any, .any, .any, .any, .any, .any, .any, .any, .any, .any, .any, .any, .any, .any, .any, .any, .any, .any, .any, .any, .any, .any, .any, .any, .any, .any, .any, .any, .any, .any, .any, .any, .any, .any, .any, .any, .any, .any, .any, .any, .any, .any, .any, .any, .any, .any, .any, .any, .any, .any, .any, .any, .any, .any, .any, .any, .any, .any, .any, .any, .any, .any, .any, .any, .any, .any, .any, .any, .any, .any, .any, .any, .any, .any, .any, .any, .any, .any, .any, .any, .any, .any, .any, .any, .any, .any, .any, .any, .any, .any], [], Hh⟩
def r0 (a0 : List (List AV)) (a1 : List (List AV)) (Q : AV → Heap → Prop) (x11out : List (List AV)) (x12i : Int) (x13k : Int) (Hh : Heap) : Prop :=
  cond (ltI x12i (lenI a0))
  (cond (eqI x13k (lenI a1))
    (G (leI 0 x12i) (G (ltI x12i (lenI a0)) (G (((a0.getD x12i.toNat []).getD 0 .any).isStr) (G (((a0.getD x12i.toNat []).getD 1 .any).isStr) (G (((a0.getD x12i.toNat []).getD 2 .any).isBool) (G (((a0.getD x12i.toNat []).getD 3 .any).isInt .i64) (G (((a0.getD x12i.toNat []).getD 4 .any).isInt .i64) (C 39 [.agg [.str (((a0.getD x12i.toNat []).getD 0 .any).toStr), .str (((a0.getD x12i.toNat []).getD 1 .any).toStr), .bool (((a0.getD x12i.toNat []).getD 2 .any).toBool), .int .i64 (((a0.getD x12i.toNat []).getD 3 .any).toInt), .int .i64 (((a0.getD x12i.toNat []).getD 4 .any).toInt)]] Hh.none fun v_1 H_2 =>
      G ((v_1).isSl 5) (G (room x11out ((v_1).slXs) 56) (L0 a0 a1 Q (x11out ++ ((v_1).slXs)) (addW .i64 x12i 1) x13k (Hh.past H_2)))))))))))
    (cond (ltI x12i (lenI a0))
      (G (leI 0 x12i) (G (ltI x12i (lenI a0)) (G (((a0.getD x12i.toNat []).getD 0 .any).isStr) (G (((a0.getD x12i.toNat []).getD 1 .any).isStr) (G (((a0.getD x12i.toNat []).getD 2 .any).isBool) (G (((a0.getD x12i.toNat []).getD 3 .any).isInt .i64) (G (((a0.getD x12i.toNat []).getD 4 .any).isInt .i64) (C 43 [.agg [.str (((a0.getD x12i.toNat []).getD 0 .any).toStr), .str (((a0.getD x12i.toNat []).getD 1 .any).toStr), .bool (((a0.getD x12i.toNat []).getD 2 .any).toBool), .int .i64 (((a0.getD x12i.toNat []).getD 3 .any).toInt), .int .i64 (((a0.getD x12i.toNat []).getD 4 .any).toInt)]] Hh.none fun v_3 H_4 =>
        G ((v_3).isStr) (G (leI 0 x13k) (G (ltI x13k (lenI a1)) (G (((a1.getD x13k.toNat []).getD 0 .any).isStr) (G (((a1.getD x13k.toNat []).getD 1 .any).isStr) (G (((a1.getD x13k.toNat []).getD 2 .any).isBool) (G (((a1.getD x13k.toNat []).getD 3 .any).isInt .i64) (G (((a1.getD x13k.toNat []).getD 4 .any).isInt .i64) (C 43 [.agg [.str (((a1.getD x13k.toNat []).getD 0 .any).toStr), .str (((a1.getD x13k.toNat []).getD 1 .any).toStr), .bool (((a1.getD x13k.toNat []).getD 2 .any).toBool), .int .i64 (((a1.getD x13k.toNat []).getD 3 .any).toInt), .int .i64 (((a1.getD x13k.toNat []).getD 4 .any).toInt)]] ((Hh.past H_4).none) fun v_5 H_6 =>
          G ((v_5).isStr) (cond (ltS ((v_3).toStr) ((v_5).toStr))
            (G (leI 0 x12i) (G (ltI x12i (lenI a0)) (G (((a0.getD x12i.toNat []).getD 0 .any).isStr) (G (((a0.getD x12i.toNat []).getD 1 .any).isStr) (G (((a0.getD x12i.toNat []).getD 2 .any).isBool) (G (((a0.getD x12i.toNat []).getD 3 .any).isInt .i64) (G (((a0.getD x12i.toNat []).getD 4 .any).isInt .i64) (C 39 [.agg [.str (((a0.getD x12i.toNat []).getD 0 .any).toStr), .str (((a0.getD x12i.toNat []).getD 1 .any).toStr), .bool (((a0.getD x12i.toNat []).getD 2 .any).toBool), .int .i64 (((a0.getD x12i.toNat []).getD 3 .any).toInt), .int .i64 (((a0.getD x12i.toNat []).getD 4 .any).toInt)]] ((Hh.past H_6).none) fun v_7 H_8 =>
              G ((v_7).isSl 5) (G (room x11out ((v_7).slXs) 56) (L0 a0 a1 Q (x11out ++ ((v_7).slXs)) (addW .i64 x12i 1) x13k (Hh.past H_8)))))))))))
            (cond (eqI x12i (lenI a0))
              (G (leI 0 x13k) (G (ltI x13k (lenI a1)) (G (((a1.getD x13k.toNat []).getD 0 .any).isStr) (G (((a1.getD x13k.toNat []).getD 1 .any).isStr) (G (((a1.getD x13k.toNat []).getD 2 .any).isBool) (G (((a1.getD x13k.toNat []).getD 3 .any).isInt .i64) (G (((a1.getD x13k.toNat []).getD 4 .any).isInt .i64) (C 39 [.agg [.str (((a1.getD x13k.toNat []).getD 0 .any).toStr), .str (((a1.getD x13k.toNat []).getD 1 .any).toStr), .bool (((a1.getD x13k.toNat []).getD 2 .any).toBool), .int .i64 (((a1.getD x13k.toNat []).getD 3 .any).toInt), .int .i64 (((a1.getD x13k.toNat []).getD 4 .any).toInt)]] ((Hh.past H_6).none) fun v_9 H_10 =>
                G ((v_9).isSl 5) (G (room x11out ((v_9).slXs) 56) (L0 a0 a1 Q (x11out ++ ((v_9).slXs)) x12i (addW .i64 x13k 1) (Hh.past H_10)))))))))))
              (G (leI 0 x13k) (G (ltI x13k (lenI a1)) (G (((a1.getD x13k.toNat []).getD 0 .any).isStr) (G (((a1.getD x13k.toNat []).getD 1 .any).isStr) (G (((a1.getD x13k.toNat []).getD 2 .any).isBool) (G (((a1.getD x13k.toNat []).getD 3 .any).isInt .i64) (G (((a1.getD x13k.toNat []).getD 4 .any).isInt .i64) (C 43 [.agg [.str (((a1.getD x13k.toNat []).getD 0 .any).toStr), .str (((a1.getD x13k.toNat []).getD 1 .any).toStr), .bool (((a1.getD x13k.toNat []).getD 2 .any).toBool), .int .i64 (((a1.getD x13k.toNat []).getD 3 .any).toInt), .int .i64 (((a1.getD x13k.toNat []).getD 4 .any).toInt)]] ((Hh.past H_6).none) fun v_11 H_12 =>
                G ((v_11).isStr) (G (leI 0 x12i) (G (ltI x12i (lenI a0)) (G (((a0.getD x12i.toNat []).getD 0 .any).isStr) (G (((a0.getD x12i.toNat []).getD 1 .any).isStr) (G (((a0.getD x12i.toNat []).getD 2 .any).isBool) (G (((a0.getD x12i.toNat []).getD 3 .any).isInt .i64) (G (((a0.getD x12i.toNat []).getD 4 .any).isInt .i64) (C 43 [.agg [.str (((a0.getD x12i.toNat []).getD 0 .any).toStr), .str (((a0.getD x12i.toNat []).getD 1 .any).toStr), .bool (((a0.getD x12i.toNat []).getD 2 .any).toBool), .int .i64 (((a0.getD x12i.toNat []).getD 3 .any).toInt), .int .i64 (((a0.getD x12i.toNat []).getD 4 .any).toInt)]] ((Hh.past H_12).none) fun v_13 H_14 =>
                  G ((v_13).isStr) (cond (ltS ((v_11).toStr) ((v_13).toStr))
                    (G (leI 0 x13k) (G (ltI x13k (lenI a1)) (G (((a1.getD x13k.toNat []).getD 0 .any).isStr) (G (((a1.getD x13k.toNat []).getD 1 .any).isStr) (G (((a1.getD x13k.toNat []).getD 2 .any).isBool) (G (((a1.getD x13k.toNat []).getD 3 .any).isInt .i64) (G (((a1.getD x13k.toNat []).getD 4 .any).isInt .i64) (C 39 [.agg [.str (((a1.getD x13k.toNat []).getD 0 .any).toStr), .str (((a1.getD x13k.toNat []).getD 1 .any).toStr), .bool (((a1.getD x13k.toNat []).getD 2 .any).toBool), .int .i64 (((a1.getD x13k.toNat []).getD 3 .any).toInt), .int .i64 (((a1.getD x13k.toNat []).getD 4 .any).toInt)]] ((Hh.past H_14).none) fun v_15 H_16 =>
                      G ((v_15).isSl 5) (G (room x11out ((v_15).slXs) 56) (L0 a0 a1 Q (x11out ++ ((v_15).slXs)) x12i (addW .i64 x13k 1) (Hh.past H_16)))))))))))
                    (G (leI 0 x12i) (G (ltI x12i (lenI a0)) (G (((a0.getD x12i.toNat []).getD 0 .any).isStr) (G (((a0.getD x12i.toNat []).getD 1 .any).isStr) (G (((a0.getD x12i.toNat []).getD 2 .any).isBool) (G (((a0.getD x12i.toNat []).getD 3 .any).isInt .i64) (G (((a0.getD x12i.toNat []).getD 4 .any).isInt .i64) (G (leI 0 x13k) (G (ltI x13k (lenI a1)) (G (((a1.getD x13k.toNat []).getD 0 .any).isStr) (G (((a1.getD x13k.toNat []).getD 1 .any).isStr) (G (((a1.getD x13k.toNat []).getD 2 .any).isBool) (G (((a1.getD x13k.toNat []).getD 3 .any).isInt .i64) (G (((a1.getD x13k.toNat []).getD 4 .any).isInt .i64) (C 40 [.agg [.str (((a0.getD x12i.toNat []).getD 0 .any).toStr), .str (((a0.getD x12i.toNat []).getD 1 .any).toStr), .bool (((a0.getD x12i.toNat []).getD 2 .any).toBool), .int .i64 (((a0.getD x12i.toNat []).getD 3 .any).toInt), .int .i64 (((a0.getD x12i.toNat []).getD 4 .any).toInt)], .agg [.str (((a1.getD x13k.toNat []).getD 0 .any).toStr), .str (((a1.getD x13k.toNat []).getD 1 .any).toStr), .bool (((a1.getD x13k.toNat []).getD 2 .any).toBool), .int .i64 (((a1.getD x13k.toNat []).getD 3 .any).toInt), .int .i64 (((a1.getD x13k.toNat []).getD 4 .any).toInt)]] ((Hh.past H_14).none) fun v_17 H_18 =>
                      G ((v_17).isSl 5) (G (room x11out ((v_17).slXs) 56) (L0 a0 a1 Q (x11out ++ ((v_17).slXs)) (addW .i64 x12i 1) (addW .i64 x13k 1) (Hh.past H_18)))))))))))))))))))))))))))))))))))))))))))))))))))))
      (cond (eqI x12i (lenI a0))
        (G (leI 0 x13k) (G (ltI x13k (lenI a1)) (G (((a1.getD x13k.toNat []).getD 0 .any).isStr) (G (((a1.getD x13k.toNat []).getD 1 .any).isStr) (G (((a1.getD x13k.toNat []).getD 2 .any).isBool) (G (((a1.getD x13k.toNat []).getD 3 .any).isInt .i64) (G (((a1.getD x13k.toNat []).getD 4 .any).isInt .i64) (C 39 [.agg [.str (((a1.getD x13k.toNat []).getD 0 .any).toStr), .str (((a1.getD x13k.toNat []).getD 1 .any).toStr), .bool (((a1.getD x13k.toNat []).getD 2 .any).toBool), .int .i64 (((a1.getD x13k.toNat []).getD 3 .any).toInt), .int .i64 (((a1.getD x13k.toNat []).getD 4 .any).toInt)]] Hh.none fun v_19 H_20 =>
          G ((v_19).isSl 5) (G (room x11out ((v_19).slXs) 56) (L0 a0 a1 Q (x11out ++ ((v_19).slXs)) x12i (addW .i64 x13k 1) (Hh.past H_20)))))))))))
        (G (leI 0 x13k) (G (ltI x13k (lenI a1)) (G (((a1.getD x13k.toNat []).getD 0 .any).isStr) (G (((a1.getD x13k.toNat []).getD 1 .any).isStr) (G (((a1.getD x13k.toNat []).getD 2 .any).isBool) (G (((a1.getD x13k.toNat []).getD 3 .any).isInt .i64) (G (((a1.getD x13k.toNat []).getD 4 .any).isInt .i64) (C 43 [.agg [.str (((a1.getD x13k.toNat []).getD 0 .any).toStr), .str (((a1.getD x13k.toNat []).getD 1 .any).toStr), .bool (((a1.getD x13k.toNat []).getD 2 .any).toBool), .int .i64 (((a1.getD x13k.toNat []).getD 3 .any).toInt), .int .i64 (((a1.getD x13k.toNat []).getD 4 .any).toInt)]] Hh.none fun v_21 H_22 =>
          G ((v_21).isStr) (G (leI 0 x12i) (G (ltI x12i (lenI a0)) (G (((a0.getD x12i.toNat []).getD 0 .any).isStr) (G (((a0.getD x12i.toNat []).getD 1 .any).isStr) (G (((a0.getD x12i.toNat []).getD 2 .any).isBool) (G (((a0.getD x12i.toNat []).getD 3 .any).isInt .i64) (G (((a0.getD x12i.toNat []).getD 4 .any).isInt .i64) (C 43 [.agg [.str (((a0.getD x12i.toNat []).getD 0 .any).toStr), .str (((a0.getD x12i.toNat []).getD 1 .any).toStr), .bool (((a0.getD x12i.toNat []).getD 2 .any).toBool), .int .i64 (((a0.getD x12i.toNat []).getD 3 .any).toInt), .int .i64 (((a0.getD x12i.toNat []).getD 4 .any).toInt)]] ((Hh.past H_22).none) fun v_23 H_24 =>
            G ((v_23).isStr) (cond (ltS ((v_21).toStr) ((v_23).toStr))
              (G (leI 0 x13k) (G (ltI x13k (lenI a1)) (G (((a1.getD x13k.toNat []).getD 0 .any).isStr) (G (((a1.getD x13k.toNat []).getD 1 .any).isStr) (G (((a1.getD x13k.toNat []).getD 2 .any).isBool) (G (((a1.getD x13k.toNat []).getD 3 .any).isInt .i64) (G (((a1.getD x13k.toNat []).getD 4 .any).isInt .i64) (C 39 [.agg [.str (((a1.getD x13k.toNat []).getD 0 .any).toStr), .str (((a1.getD x13k.toNat []).getD 1 .any).toStr), .bool (((a1.getD x13k.toNat []).getD 2 .any).toBool), .int .i64 (((a1.getD x13k.toNat []).getD 3 .any).toInt), .int .i64 (((a1.getD x13k.toNat []).getD 4 .any).toInt)]] ((Hh.past H_24).none) fun v_25 H_26 =>
                G ((v_25).isSl 5) (G (room x11out ((v_25).slXs) 56) (L0 a0 a1 Q (x11out ++ ((v_25).slXs)) x12i (addW .i64 x13k 1) (Hh.past H_26)))))))))))
              (G (leI 0 x12i) (G (ltI x12i (lenI a0)) (G (((a0.getD x12i.toNat []).getD 0 .any).isStr) (G (((a0.getD x12i.toNat []).getD 1 .any).isStr) (G (((a0.getD x12i.toNat []).getD 2 .any).isBool) (G (((a0.getD x12i.toNat []).getD 3 .any).isInt .i64) (G (((a0.getD x12i.toNat []).getD 4 .any).isInt .i64) (G (leI 0 x13k) (G (ltI x13k (lenI a1)) (G (((a1.getD x13k.toNat []).getD 0 .any).isStr) (G (((a1.getD x13k.toNat []).getD 1 .any).isStr) (G (((a1.getD x13k.toNat []).getD 2 .any).isBool) (G (((a1.getD x13k.toNat []).getD 3 .any).isInt .i64) (G (((a1.getD x13k.toNat []).getD 4 .any).isInt .i64) (C 40 [.agg [.str (((a0.getD x12i.toNat []).getD 0 .any).toStr), .str (((a0.getD x12i.toNat []).getD 1 .any).toStr), .bool (((a0.getD x12i.toNat []).getD 2 .any).toBool), .int .i64 (((a0.getD x12i.toNat []).getD 3 .any).toInt), .int .i64 (((a0.getD x12i.toNat []).getD 4 .any).toInt)], .agg [.str (((a1.getD x13k.toNat []).getD 0 .any).toStr), .str (((a1.getD x13k.toNat []).getD 1 .any).toStr), .bool (((a1.getD x13k.toNat []).getD 2 .any).toBool), .int .i64 (((a1.getD x13k.toNat []).getD 3 .any).toInt), .int .i64 (((a1.getD x13k.toNat []).getD 4 .any).toInt)]] ((Hh.past H_24).none) fun v_27 H_28 =>
                G ((v_27).isSl 5) (G (room x11out ((v_27).slXs) 56) (L0 a0 a1 Q (x11out ++ ((v_27).slXs)) (addW .i64 x12i 1) (addW .i64 x13k 1) (Hh.past H_28))))))))))))))))))))))))))))))))))))))
  (cond (ltI x13k (lenI a1))
    (cond (eqI x13k (lenI a1))
      (G (leI 0 x12i) (G (ltI x12i (lenI a0)) (G (((a0.getD x12i.toNat []).getD 0 .any).isStr) (G (((a0.getD x12i.toNat []).getD 1 .any).isStr) (G (((a0.getD x12i.toNat []).getD 2 .any).isBool) (G (((a0.getD x12i.toNat []).getD 3 .any).isInt .i64) (G (((a0.getD x12i.toNat []).getD 4 .any).isInt .i64) (C 39 [.agg [.str (((a0.getD x12i.toNat []).getD 0 .any).toStr), .str (((a0.getD x12i.toNat []).getD 1 .any).toStr), .bool (((a0.getD x12i.toNat []).getD 2 .any).toBool), .int .i64 (((a0.getD x12i.toNat []).getD 3 .any).toInt), .int .i64 (((a0.getD x12i.toNat []).getD 4 .any).toInt)]] Hh.none fun v_29 H_30 =>
        G ((v_29).isSl 5) (G (room x11out ((v_29).slXs) 56) (L0 a0 a1 Q (x11out ++ ((v_29).slXs)) (addW .i64 x12i 1) x13k (Hh.past H_30)))))))))))
      (cond (ltI x12i (lenI a0))
        (G (leI 0 x12i) (G (ltI x12i (lenI a0)) (G (((a0.getD x12i.toNat []).getD 0 .any).isStr) (G (((a0.getD x12i.toNat []).getD 1 .any).isStr) (G (((a0.getD x12i.toNat []).getD 2 .any).isBool) (G (((a0.getD x12i.toNat []).getD 3 .any).isInt .i64) (G (((a0.getD x12i.toNat []).getD 4 .any).isInt .i64) (C 43 [.agg [.str (((a0.getD x12i.toNat []).getD 0 .any).toStr), .str (((a0.getD x12i.toNat []).getD 1 .any).toStr), .bool (((a0.getD x12i.toNat []).getD 2 .any).toBool), .int .i64 (((a0.getD x12i.toNat []).getD 3 .any).toInt), .int .i64 (((a0.getD x12i.toNat []).getD 4 .any).toInt)]] Hh.none fun v_31 H_32 =>
          G ((v_31).isStr) (G (leI 0 x13k) (G (ltI x13k (lenI a1)) (G (((a1.getD x13k.toNat []).getD 0 .any).isStr) (G (((a1.getD x13k.toNat []).getD 1 .any).isStr) (G (((a1.getD x13k.toNat []).getD 2 .any).isBool) (G (((a1.getD x13k.toNat []).getD 3 .any).isInt .i64) (G (((a1.getD x13k.toNat []).getD 4 .any).isInt .i64) (C 43 [.agg [.str (((a1.getD x13k.toNat []).getD 0 .any).toStr), .str (((a1.getD x13k.toNat []).getD 1 .any).toStr), .bool (((a1.getD x13k.toNat []).getD 2 .any).toBool), .int .i64 (((a1.getD x13k.toNat []).getD 3 .any).toInt), .int .i64 (((a1.getD x13k.toNat []).getD 4 .any).toInt)]] ((Hh.past H_32).none) fun v_33 H_34 =>
            G ((v_33).isStr) (cond (ltS ((v_31).toStr) ((v_33).toStr))
              (G (leI 0 x12i) (G (ltI x12i (lenI a0)) (G (((a0.getD x12i.toNat []).getD 0 .any).isStr) (G (((a0.getD x12i.toNat []).getD 1 .any).isStr) (G (((a0.getD x12i.toNat []).getD 2 .any).isBool) (G (((a0.getD x12i.toNat []).getD 3 .any).isInt .i64) (G (((a0.getD x12i.toNat []).getD 4 .any).isInt .i64) (C 39 [.agg [.str (((a0.getD x12i.toNat []).getD 0 .any).toStr), .str (((a0.getD x12i.toNat []).getD 1 .any).toStr), .bool (((a0.getD x12i.toNat []).getD 2 .any).toBool), .int .i64 (((a0.getD x12i.toNat []).getD 3 .any).toInt), .int .i64 (((a0.getD x12i.toNat []).getD 4 .any).toInt)]] ((Hh.past H_34).none) fun v_35 H_36 =>
                G ((v_35).isSl 5) (G (room x11out ((v_35).slXs) 56) (L0 a0 a1 Q (x11out ++ ((v_35).slXs)) (addW .i64 x12i 1) x13k (Hh.past H_36)))))))))))
              (cond (eqI x12i (lenI a0))
                (G (leI 0 x13k) (G (ltI x13k (lenI a1)) (G (((a1.getD x13k.toNat []).getD 0 .any).isStr) (G (((a1.getD x13k.toNat []).getD 1 .any).isStr) (G (((a1.getD x13k.toNat []).getD 2 .any).isBool) (G (((a1.getD x13k.toNat []).getD 3 .any).isInt .i64) (G (((a1.getD x13k.toNat []).getD 4 .any).isInt .i64) (C 39 [.agg [.str (((a1.getD x13k.toNat []).getD 0 .any).toStr), .str (((a1.getD x13k.toNat []).getD 1 .any).toStr), .bool (((a1.getD x13k.toNat []).getD 2 .any).toBool), .int .i64 (((a1.getD x13k.toNat []).getD 3 .any).toInt), .int .i64 (((a1.getD x13k.toNat []).getD 4 .any).toInt)]] ((Hh.past H_34).none) fun v_37 H_38 =>
                  G ((v_37).isSl 5) (G (room x11out ((v_37).slXs) 56) (L0 a0 a1 Q (x11out ++ ((v_37).slXs)) x12i (addW .i64 x13k 1) (Hh.past H_38)))))))))))
                (G (leI 0 x13k) (G (ltI x13k (lenI a1)) (G (((a1.getD x13k.toNat []).getD 0 .any).isStr) (G (((a1.getD x13k.toNat []).getD 1 .any).isStr) (G (((a1.getD x13k.toNat []).getD 2 .any).isBool) (G (((a1.getD x13k.toNat []).getD 3 .any).isInt .i64) (G (((a1.getD x13k.toNat []).getD 4 .any).isInt .i64) (C 43 [.agg [.str (((a1.getD x13k.toNat []).getD 0 .any).toStr), .str (((a1.getD x13k.toNat []).getD 1 .any).toStr), .bool (((a1.getD x13k.toNat []).getD 2 .any).toBool), .int .i64 (((a1.getD x13k.toNat []).getD 3 .any).toInt), .int .i64 (((a1.getD x13k.toNat []).getD 4 .any).toInt)]] ((Hh.past H_34).none) fun v_39 H_40 =>
                  G ((v_39).isStr) (G (leI 0 x12i) (G (ltI x12i (lenI a0)) (G (((a0.getD x12i.toNat []).getD 0 .any).isStr) (G (((a0.getD x12i.toNat []).getD 1 .any).isStr) (G (((a0.getD x12i.toNat []).getD 2 .any).isBool) (G (((a0.getD x12i.toNat []).getD 3 .any).isInt .i64) (G (((a0.getD x12i.toNat []).getD 4 .any).isInt .i64) (C 43 [.agg [.str (((a0.getD x12i.toNat []).getD 0 .any).toStr), .str (((a0.getD x12i.toNat []).getD 1 .any).toStr), .bool (((a0.getD x12i.toNat []).getD 2 .any).toBool), .int .i64 (((a0.getD x12i.toNat []).getD 3 .any).toInt), .int .i64 (((a0.getD x12i.toNat []).getD 4 .any).toInt)]] ((Hh.past H_40).none) fun v_41 H_42 =>
                    G ((v_41).isStr) (cond (ltS ((v_39).toStr) ((v_41).toStr))
                      (G (leI 0 x13k) (G (ltI x13k (lenI a1)) (G (((a1.getD x13k.toNat []).getD 0 .any).isStr) (G (((a1.getD x13k.toNat []).getD 1 .any).isStr) (G (((a1.getD x13k.toNat []).getD 2 .any).isBool) (G (((a1.getD x13k.toNat []).getD 3 .any).isInt .i64) (G (((a1.getD x13k.toNat []).getD 4 .any).isInt .i64) (C 39 [.agg [.str (((a1.getD x13k.toNat []).getD 0 .any).toStr), .str (((a1.getD x13k.toNat []).getD 1 .any).toStr), .bool (((a1.getD x13k.toNat []).getD 2 .any).toBool), .int .i64 (((a1.getD x13k.toNat []).getD 3 .any).toInt), .int .i64 (((a1.getD x13k.toNat []).getD 4 .any).toInt)]] ((Hh.past H_42).none) fun v_43 H_44 =>
                        G ((v_43).isSl 5) (G (room x11out ((v_43).slXs) 56) (L0 a0 a1 Q (x11out ++ ((v_43).slXs)) x12i (addW .i64 x13k 1) (Hh.past H_44)))))))))))
                      (G (leI 0 x12i) (G (ltI x12i (lenI a0)) (G (((a0.getD x12i.toNat []).getD 0 .any).isStr) (G (((a0.getD x12i.toNat []).getD 1 .any).isStr) (G (((a0.getD x12i.toNat []).getD 2 .any).isBool) (G (((a0.getD x12i.toNat []).getD 3 .any).isInt .i64) (G (((a0.getD x12i.toNat []).getD 4 .any).isInt .i64) (G (leI 0 x13k) (G (ltI x13k (lenI a1)) (G (((a1.getD x13k.toNat []).getD 0 .any).isStr) (G (((a1.getD x13k.toNat []).getD 1 .any).isStr) (G (((a1.getD x13k.toNat []).getD 2 .any).isBool) (G (((a1.getD x13k.toNat []).getD 3 .any).isInt .i64) (G (((a1.getD x13k.toNat []).getD 4 .any).isInt .i64) (C 40 [.agg [.str (((a0.getD x12i.toNat []).getD 0 .any).toStr), .str (((a0.getD x12i.toNat []).getD 1 .any).toStr), .bool (((a0.getD x12i.toNat []).getD 2 .any).toBool), .int .i64 (((a0.getD x12i.toNat []).getD 3 .any).toInt), .int .i64 (((a0.getD x12i.toNat []).getD 4 .any).toInt)], .agg [.str (((a1.getD x13k.toNat []).getD 0 .any).toStr), .str (((a1.getD x13k.toNat []).getD 1 .any).toStr), .bool (((a1.getD x13k.toNat []).getD 2 .any).toBool), .int .i64 (((a1.getD x13k.toNat []).getD 3 .any).toInt), .int .i64 (((a1.getD x13k.toNat []).getD 4 .any).toInt)]] ((Hh.past H_42).none) fun v_45 H_46 =>
                        G ((v_45).isSl 5) (G (room x11out ((v_45).slXs) 56) (L0 a0 a1 Q (x11out ++ ((v_45).slXs)) (addW .i64 x12i 1) (addW .i64 x13k 1) (Hh.past H_46)))))))))))))))))))))))))))))))))))))))))))))))))))))
        (cond (eqI x12i (lenI a0))
          (G (leI 0 x13k) (G (ltI x13k (lenI a1)) (G (((a1.getD x13k.toNat []).getD 0 .any).isStr) (G (((a1.getD x13k.toNat []).getD 1 .any).isStr) (G (((a1.getD x13k.toNat []).getD 2 .any).isBool) (G (((a1.getD x13k.toNat []).getD 3 .any).isInt .i64) (G (((a1.getD x13k.toNat []).getD 4 .any).isInt .i64) (C 39 [.agg [.str (((a1.getD x13k.toNat []).getD 0 .any).toStr), .str (((a1.getD x13k.toNat []).getD 1 .any).toStr), .bool (((a1.getD x13k.toNat []).getD 2 .any).toBool), .int .i64 (((a1.getD x13k.toNat []).getD 3 .any).toInt), .int .i64 (((a1.getD x13k.toNat []).getD 4 .any).toInt)]] Hh.none fun v_47 H_48 =>
            G ((v_47).isSl 5) (G (room x11out ((v_47).slXs) 56) (L0 a0 a1 Q (x11out ++ ((v_47).slXs)) x12i (addW .i64 x13k 1) (Hh.past H_48)))))))))))
          (G (leI 0 x13k) (G (ltI x13k (lenI a1)) (G (((a1.getD x13k.toNat []).getD 0 .any).isStr) (G (((a1.getD x13k.toNat []).getD 1 .any).isStr) (G (((a1.getD x13k.toNat []).getD 2 .any).isBool) (G (((a1.getD x13k.toNat []).getD 3 .any).isInt .i64) (G (((a1.getD x13k.toNat []).getD 4 .any).isInt .i64) (C 43 [.agg [.str (((a1.getD x13k.toNat []).getD 0 .any).toStr), .str (((a1.getD x13k.toNat []).getD 1 .any).toStr), .bool (((a1.getD x13k.toNat []).getD 2 .any).toBool), .int .i64 (((a1.getD x13k.toNat []).getD 3 .any).toInt), .int .i64 (((a1.getD x13k.toNat []).getD 4 .any).toInt)]] Hh.none fun v_49 H_50 =>
            G ((v_49).isStr) (G (leI 0 x12i) (G (ltI x12i (lenI a0)) (G (((a0.getD x12i.toNat []).getD 0 .any).isStr) (G (((a0.getD x12i.toNat []).getD 1 .any).isStr) (G (((a0.getD x12i.toNat []).getD 2 .any).isBool) (G (((a0.getD x12i.toNat []).getD 3 .any).isInt .i64) (G (((a0.getD x12i.toNat []).getD 4 .any).isInt .i64) (C 43 [.agg [.str (((a0.getD x12i.toNat []).getD 0 .any).toStr), .str (((a0.getD x12i.toNat []).getD 1 .any).toStr), .bool (((a0.getD x12i.toNat []).getD 2 .any).toBool), .int .i64 (((a0.getD x12i.toNat []).getD 3 .any).toInt), .int .i64 (((a0.getD x12i.toNat []).getD 4 .any).toInt)]] ((Hh.past H_50).none) fun v_51 H_52 =>
              G ((v_51).isStr) (cond (ltS ((v_49).toStr) ((v_51).toStr))
                (G (leI 0 x13k) (G (ltI x13k (lenI a1)) (G (((a1.getD x13k.toNat []).getD 0 .any).isStr) (G (((a1.getD x13k.toNat []).getD 1 .any).isStr) (G (((a1.getD x13k.toNat []).getD 2 .any).isBool) (G (((a1.getD x13k.toNat []).getD 3 .any).isInt .i64) (G (((a1.getD x13k.toNat []).getD 4 .any).isInt .i64) (C 39 [.agg [.str (((a1.getD x13k.toNat []).getD 0 .any).toStr), .str (((a1.getD x13k.toNat []).getD 1 .any).toStr), .bool (((a1.getD x13k.toNat []).getD 2 .any).toBool), .int .i64 (((a1.getD x13k.toNat []).getD 3 .any).toInt), .int .i64 (((a1.getD x13k.toNat []).getD 4 .any).toInt)]] ((Hh.past H_52).none) fun v_53 H_54 =>
                  G ((v_53).isSl 5) (G (room x11out ((v_53).slXs) 56) (L0 a0 a1 Q (x11out ++ ((v_53).slXs)) x12i (addW .i64 x13k 1) (Hh.past H_54)))))))))))
                (G (leI 0 x12i) (G (ltI x12i (lenI a0)) (G (((a0.getD x12i.toNat []).getD 0 .any).isStr) (G (((a0.getD x12i.toNat []).getD 1 .any).isStr) (G (((a0.getD x12i.toNat []).getD 2 .any).isBool) (G (((a0.getD x12i.toNat []).getD 3 .any).isInt .i64) (G (((a0.getD x12i.toNat []).getD 4 .any).isInt .i64) (G (leI 0 x13k) (G (ltI x13k (lenI a1)) (G (((a1.getD x13k.toNat []).getD 0 .any).isStr) (G (((a1.getD x13k.toNat []).getD 1 .any).isStr) (G (((a1.getD x13k.toNat []).getD 2 .any).isBool) (G (((a1.getD x13k.toNat []).getD 3 .any).isInt .i64) (G (((a1.getD x13k.toNat []).getD 4 .any).isInt .i64) (C 40 [.agg [.str (((a0.getD x12i.toNat []).getD 0 .any).toStr), .str (((a0.getD x12i.toNat []).getD 1 .any).toStr), .bool (((a0.getD x12i.toNat []).getD 2 .any).toBool), .int .i64 (((a0.getD x12i.toNat []).getD 3 .any).toInt), .int .i64 (((a0.getD x12i.toNat []).getD 4 .any).toInt)], .agg [.str (((a1.getD x13k.toNat []).getD 0 .any).toStr), .str (((a1.getD x13k.toNat []).getD 1 .any).toStr), .bool (((a1.getD x13k.toNat []).getD 2 .any).toBool), .int .i64 (((a1.getD x13k.toNat []).getD 3 .any).toInt), .int .i64 (((a1.getD x13k.toNat []).getD 4 .any).toInt)]] ((Hh.past H_52).none) fun v_55 H_56 =>
                  G ((v_55).isSl 5) (G (room x11out ((v_55).slXs) 56) (L0 a0 a1 Q (x11out ++ ((v_55).slXs)) (addW .i64 x12i 1) (addW .i64 x13k 1) (Hh.past H_56))))))))))))))))))))))))))))))))))))))
    (Q (.sl 0 5 x11out) Hh))
theorem r0_eq (a0 : List (List AV)) (a1 : List (List AV)) (Q : AV → Heap → Prop) (x11out : List (List AV)) (x12i : Int) (x13k : Int) (Hh : Heap) : (fun K s => awp E0 C (E0.L 42) (codeAt (bodyOf E0 42) [1, 1, 1, 0, 0, 0]) 1 s K) (fun e s' => match e with | .normal => ALoop (fun K s => awp E0 C (E0.L 42) (codeAt (bodyOf E0 42) [1, 1, 1, 0, 0, 0]) 1 s K) (clean [(0, 0), (1, 0), (2, 0), (3, 0), (4, 0), (11, 7), (12, 0), (13, 0)] 0) (K0 Q) ((clean [(0, 0), (1, 0), (2, 0), (3, 0), (4, 0), (11, 7), (12, 0), (13, 0)] 0) s') | e => K0 Q e s') ⟨[.sl 0 5 a0, .sl 0 5 a1, .fn 43 [], .fn 39 [], .fn 40 [], .any, .any, .any, .any, .any, .any, .sl 1 5 x11out, .int .i64 x12i, .int .i64 x13k, .any, .any, .any, .any, .any, .any, .any, .any, .any, .any, .any, .any, .any, .any, .any, .any, .any, .any, .any, .any, .any, .any, .any, .any, .any, .any, .any, .any, .any, .any, .any, .any, .any, .any, .any, .any, .any, .any, .any, .any, .any, .any, .any, .any, .any, .any, .any, .any, .any, .any, .any, .any, .any, .any, .any, .any, .any, .any, .any, .any, .any, .any, .any, .any, .any, .any, .any, .any, .any, .any, .any, .any, .any, .any, .any, .any, .any, .any, .any, .any, .any, .any, .any, .any, .any, .any, .any, .any, .any, .any, .any, .any, .any], [], Hh⟩ = r0 a0 a1 Q x11out x12i x13k Hh := by kernel_rfl
theorem L0_step {a0 : List (List AV)} {a1 : List (List AV)} {Q : AV → Heap → Prop} {x11out : List (List AV)} {x12i : Int} {x13k : Int} {Hh : Heap} (h : r0 a0 a1 Q x11out x12i x13k Hh) : L0 a0 a1 Q x11out x12i x13k Hh := ALoop_unfold ((r0_eq a0 a1 Q x11out x12i x13k Hh).mpr h)
def t (a0 : List (List AV)) (a1 : List (List AV)) (H : Heap) (Q : AV → Heap → Prop) : Prop :=
  L0 a0 a1 Q [] 0 0 H
theorem t_eq (a0 : List (List AV)) (a1 : List (List AV)) (H : Heap) (Q : AV → Heap → Prop) : aBody E0 C 42 [.sl 0 5 a0, .sl 0 5 a1, .fn 43 [], .fn 39 [], .fn 40 []] H Q = t a0 a1 H Q := by kernel_rfl
theorem call {a0 : List (List AV)} {a1 : List (List AV)} {H : Heap} {Q : AV → Heap → Prop} (h : t a0 a1 H Q) : C 42 [.sl 0 5 a0, .sl 0 5 a1, .fn 43 [], .fn 39 [], .fn 40 []] H Q := Call_intro ((t_eq a0 a1 H Q).mpr h)
end F42
/-! ### broker/heal.keyOf: function 43 -/
namespace F43
def t (a0_0 : ByteArray) (a0_1 : ByteArray) (a0_2 : Bool) (a0_3 : Int) (a0_4 : Int) (H : Heap) (Q : AV → Heap → Prop) : Prop :=
  Q (.str a0_0) H
theorem t_eq (a0_0 : ByteArray) (a0_1 : ByteArray) (a0_2 : Bool) (a0_3 : Int) (a0_4 : Int) (H : Heap) (Q : AV → Heap → Prop) : aBody E0 C 43 [.agg [.str a0_0, .str a0_1, .bool a0_2, .int .i64 a0_3, .int .i64 a0_4]] H Q = t a0_0 a0_1 a0_2 a0_3 a0_4 H Q := by kernel_rfl
theorem call {a0_0 : ByteArray} {a0_1 : ByteArray} {a0_2 : Bool} {a0_3 : Int} {a0_4 : Int} {H : Heap} {Q : AV → Heap → Prop} (h : t a0_0 a0_1 a0_2 a0_3 a0_4 H Q) : C 43 [.agg [.str a0_0, .str a0_1, .bool a0_2, .int .i64 a0_3, .int .i64 a0_4]] H Q := Call_intro ((t_eq a0_0 a0_1 a0_2 a0_3 a0_4 H Q).mpr h)
end F43
/-! ### broker/heal.Diff$1: function 44 -/
namespace F44
def t (a0_0 : ByteArray) (a0_1 : ByteArray) (a0_2 : Bool) (a0_3 : Int) (a0_4 : Int) (H : Heap) (Q : AV → Heap → Prop) : Prop :=
  Q (.sl 0 1 [[.str a0_0]]) H
theorem t_eq (a0_0 : ByteArray) (a0_1 : ByteArray) (a0_2 : Bool) (a0_3 : Int) (a0_4 : Int) (H : Heap) (Q : AV → Heap → Prop) : aBody E0 C 44 [.agg [.str a0_0, .str a0_1, .bool a0_2, .int .i64 a0_3, .int .i64 a0_4]] H Q = t a0_0 a0_1 a0_2 a0_3 a0_4 H Q := by kernel_rfl
theorem call {a0_0 : ByteArray} {a0_1 : ByteArray} {a0_2 : Bool} {a0_3 : Int} {a0_4 : Int} {H : Heap} {Q : AV → Heap → Prop} (h : t a0_0 a0_1 a0_2 a0_3 a0_4 H Q) : C 44 [.agg [.str a0_0, .str a0_1, .bool a0_2, .int .i64 a0_3, .int .i64 a0_4]] H Q := Call_intro ((t_eq a0_0 a0_1 a0_2 a0_3 a0_4 H Q).mpr h)
end F44
/-! ### broker/heal.Diff$2: function 45 -/
namespace F45
def t (a0_0 : ByteArray) (a0_1 : ByteArray) (a0_2 : Bool) (a0_3 : Int) (a0_4 : Int) (a1_0 : ByteArray) (a1_1 : ByteArray) (a1_2 : Bool) (a1_3 : Int) (a1_4 : Int) (H : Heap) (Q : AV → Heap → Prop) : Prop :=
  cond ((eqS a0_0 a1_0) && ((eqS a0_1 a1_1) && ((a0_2 == a1_2) && ((eqI a0_3 a1_3) && ((eqI a0_4 a1_4) && true)))))
  (Q (.nilsl) H)
  (Q (.sl 0 1 [[.str a0_0]]) H)
theorem t_eq (a0_0 : ByteArray) (a0_1 : ByteArray) (a0_2 : Bool) (a0_3 : Int) (a0_4 : Int) (a1_0 : ByteArray) (a1_1 : ByteArray) (a1_2 : Bool) (a1_3 : Int) (a1_4 : Int) (H : Heap) (Q : AV → Heap → Prop) : aBody E0 C 45 [.agg [.str a0_0, .str a0_1, .bool a0_2, .int .i64 a0_3, .int .i64 a0_4], .agg [.str a1_0, .str a1_1, .bool a1_2, .int .i64 a1_3, .int .i64 a1_4]] H Q = t a0_0 a0_1 a0_2 a0_3 a0_4 a1_0 a1_1 a1_2 a1_3 a1_4 H Q := by kernel_rfl
theorem call {a0_0 : ByteArray} {a0_1 : ByteArray} {a0_2 : Bool} {a0_3 : Int} {a0_4 : Int} {a1_0 : ByteArray} {a1_1 : ByteArray} {a1_2 : Bool} {a1_3 : Int} {a1_4 : Int} {H : Heap} {Q : AV → Heap → Prop} (h : t a0_0 a0_1 a0_2 a0_3 a0_4 a1_0 a1_1 a1_2 a1_3 a1_4 H Q) : C 45 [.agg [.str a0_0, .str a0_1, .bool a0_2, .int .i64 a0_3, .int .i64 a0_4], .agg [.str a1_0, .str a1_1, .bool a1_2, .int .i64 a1_3, .int .i64 a1_4]] H Q := Call_intro ((t_eq a0_0 a0_1 a0_2 a0_3 a0_4 a1_0 a1_1 a1_2 a1_3 a1_4 H Q).mpr h)
end F45
/-! ### broker/heal.merge[broker/api.Cell,string]: function 46 -/
namespace F46
def K0 (Q : AV → Heap → Prop) : Ex → St → Prop := (contK E0 C (E0.L 46) [.block 0, .seq (codeAt (bodyOf E0 46) [1, 1, 1, 1]) 1] (finK E0 46 Q))
def L0 (a0 : List (List AV)) (a1 : List (List AV)) (Q : AV → Heap → Prop) (x11out : List (List AV)) (x12i : Int) (x13k : Int) (Hh : Heap) : Prop := ALoop (fun K s => awp E0 C (E0.L 46) (codeAt (bodyOf E0 46) [1, 1, 1, 0, 0, 0]) 1 s K) (clean [(0, 0), (1, 0), (2, 0), (3, 0), (4, 0), (11, 3), (12, 0), (13, 0)] 0) (K0 Q) ⟨[.sl 0 5 a0, .sl 0 5 a1, .fn 43 [], .fn 44 [], .fn 45 [], .any, .any, .any, .any, .any, .any, .sl 1 1 x11out, .int .i64 x12i, .int .i64 x13k, .any, .any, .any, .any, .any, .any, .any, .any, .any, .any, .any, .any, .any, .any, .any, .any, .any, .any, .any, .any, .any, .any, .any, .any, .any, .any, .any, .any, .any, .any, .any, .any, .any, .any, .any, .any, .any, .any, .any, .any, .any, .any, .any, .any, .any, .any, .any, .any, .any, .any, .any, .any, .any, .any, .any, .any, .any, .any, .any, .any, .any, .any, .any, .any, .any, .any, .any, .any, .any, .any, .any, .any, .any, .any, .any, .any, .any, .any, .any, .any, .any, .any, .any, .any, .any, .any, .any, .any, .any, .any, .any, .any, .any], [], Hh⟩
def r0 (a0 : List (List AV)) (a1 : List (List AV)) (Q : AV → Heap → Prop) (x11out : List (List AV)) (x12i : Int) (x13k : Int) (Hh : Heap) : Prop :=
  cond (ltI x12i (lenI a0))
  (cond (eqI x13k (lenI a1))
    (G (leI 0 x12i) (G (ltI x12i (lenI a0)) (G (((a0.getD x12i.toNat []).getD 0 .any).isStr) (G (((a0.getD x12i.toNat []).getD 1 .any).isStr) (G (((a0.getD x12i.toNat []).getD 2 .any).isBool) (G (((a0.getD x12i.toNat []).getD 3 .any).isInt .i64) (G (((a0.getD x12i.toNat []).getD 4 .any).isInt .i64) (C 44 [.agg [.str (((a0.getD x12i.toNat []).getD 0 .any).toStr), .str (((a0.getD x12i.toNat []).getD 1 .any).toStr), .bool (((a0.getD x12i.toNat []).getD 2 .any).toBool), .int .i64 (((a0.getD x12i.toNat []).getD 3 .any).toInt), .int .i64 (((a0.getD x12i.toNat []).getD 4 .any).toInt)]] Hh.none fun v_1 H_2 =>
      G ((v_1).isSl 1) (G (room x11out ((v_1).slXs) 16) (L0 a0 a1 Q (x11out ++ ((v_1).slXs)) (addW .i64 x12i 1) x13k (Hh.past H_2)))))))))))
    (cond (ltI x12i (lenI a0))
      (G (leI 0 x12i) (G (ltI x12i (lenI a0)) (G (((a0.getD x12i.toNat []).getD 0 .any).isStr) (G (((a0.getD x12i.toNat []).getD 1 .any).isStr) (G (((a0.getD x12i.toNat []).getD 2 .any).isBool) (G (((a0.getD x12i.toNat []).getD 3 .any).isInt .i64) (G (((a0.getD x12i.toNat []).getD 4 .any).isInt .i64) (C 43 [.agg [.str (((a0.getD x12i.toNat []).getD 0 .any).toStr), .str (((a0.getD x12i.toNat []).getD 1 .any).toStr), .bool (((a0.getD x12i.toNat []).getD 2 .any).toBool), .int .i64 (((a0.getD x12i.toNat []).getD 3 .any).toInt), .int .i64 (((a0.getD x12i.toNat []).getD 4 .any).toInt)]] Hh.none fun v_3 H_4 =>
        G ((v_3).isStr) (G (leI 0 x13k) (G (ltI x13k (lenI a1)) (G (((a1.getD x13k.toNat []).getD 0 .any).isStr) (G (((a1.getD x13k.toNat []).getD 1 .any).isStr) (G (((a1.getD x13k.toNat []).getD 2 .any).isBool) (G (((a1.getD x13k.toNat []).getD 3 .any).isInt .i64) (G (((a1.getD x13k.toNat []).getD 4 .any).isInt .i64) (C 43 [.agg [.str (((a1.getD x13k.toNat []).getD 0 .any).toStr), .str (((a1.getD x13k.toNat []).getD 1 .any).toStr), .bool (((a1.getD x13k.toNat []).getD 2 .any).toBool), .int .i64 (((a1.getD x13k.toNat []).getD 3 .any).toInt), .int .i64 (((a1.getD x13k.toNat []).getD 4 .any).toInt)]] ((Hh.past H_4).none) fun v_5 H_6 =>
          G ((v_5).isStr) (cond (ltS ((v_3).toStr) ((v_5).toStr))
            (G (leI 0 x12i) (G (ltI x12i (lenI a0)) (G (((a0.getD x12i.toNat []).getD 0 .any).isStr) (G (((a0.getD x12i.toNat []).getD 1 .any).isStr) (G (((a0.getD x12i.toNat []).getD 2 .any).isBool) (G (((a0.getD x12i.toNat []).getD 3 .any).isInt .i64) (G (((a0.getD x12i.toNat []).getD 4 .any).isInt .i64) (C 44 [.agg [.str (((a0.getD x12i.toNat []).getD 0 .any).toStr), .str (((a0.getD x12i.toNat []).getD 1 .any).toStr), .bool (((a0.getD x12i.toNat []).getD 2 .any).toBool), .int .i64 (((a0.getD x12i.toNat []).getD 3 .any).toInt), .int .i64 (((a0.getD x12i.toNat []).getD 4 .any).toInt)]] ((Hh.past H_6).none) fun v_7 H_8 =>
              G ((v_7).isSl 1) (G (room x11out ((v_7).slXs) 16) (L0 a0 a1 Q (x11out ++ ((v_7).slXs)) (addW .i64 x12i 1) x13k (Hh.past H_8)))))))))))
            (cond (eqI x12i (lenI a0))
              (G (leI 0 x13k) (G (ltI x13k (lenI a1)) (G (((a1.getD x13k.toNat []).getD 0 .any).isStr) (G (((a1.getD x13k.toNat []).getD 1 .any).isStr) (G (((a1.getD x13k.toNat []).getD 2 .any).isBool) (G (((a1.getD x13k.toNat []).getD 3 .any).isInt .i64) (G (((a1.getD x13k.toNat []).getD 4 .any).isInt .i64) (C 44 [.agg [.str (((a1.getD x13k.toNat []).getD 0 .any).toStr), .str (((a1.getD x13k.toNat []).getD 1 .any).toStr), .bool (((a1.getD x13k.toNat []).getD 2 .any).toBool), .int .i64 (((a1.getD x13k.toNat []).getD 3 .any).toInt), .int .i64 (((a1.getD x13k.toNat []).getD 4 .any).toInt)]] ((Hh.past H_6).none) fun v_9 H_10 =>
                G ((v_9).isSl 1) (G (room x11out ((v_9).slXs) 16) (L0 a0 a1 Q (x11out ++ ((v_9).slXs)) x12i (addW .i64 x13k 1) (Hh.past H_10)))))))))))
              (G (leI 0 x13k) (G (ltI x13k (lenI a1)) (G (((a1.getD x13k.toNat []).getD 0 .any).isStr) (G (((a1.getD x13k.toNat []).getD 1 .any).isStr) (G (((a1.getD x13k.toNat []).getD 2 .any).isBool) (G (((a1.getD x13k.toNat []).getD 3 .any).isInt .i64) (G (((a1.getD x13k.toNat []).getD 4 .any).isInt .i64) (C 43 [.agg [.str (((a1.getD x13k.toNat []).getD 0 .any).toStr), .str (((a1.getD x13k.toNat []).getD 1 .any).toStr), .bool (((a1.getD x13k.toNat []).getD 2 .any).toBool), .int .i64 (((a1.getD x13k.toNat []).getD 3 .any).toInt), .int .i64 (((a1.getD x13k.toNat []).getD 4 .any).toInt)]] ((Hh.past H_6).none) fun v_11 H_12 =>
                G ((v_11).isStr) (G (leI 0 x12i) (G (ltI x12i (lenI a0)) (G (((a0.getD x12i.toNat []).getD 0 .any).isStr) (G (((a0.getD x12i.toNat []).getD 1 .any).isStr) (G (((a0.getD x12i.toNat []).getD 2 .any).isBool) (G (((a0.getD x12i.toNat []).getD 3 .any).isInt .i64) (G (((a0.getD x12i.toNat []).getD 4 .any).isInt .i64) (C 43 [.agg [.str (((a0.getD x12i.toNat []).getD 0 .any).toStr), .str (((a0.getD x12i.toNat []).getD 1 .any).toStr), .bool (((a0.getD x12i.toNat []).getD 2 .any).toBool), .int .i64 (((a0.getD x12i.toNat []).getD 3 .any).toInt), .int .i64 (((a0.getD x12i.toNat []).getD 4 .any).toInt)]] ((Hh.past H_12).none) fun v_13 H_14 =>
                  G ((v_13).isStr) (cond (ltS ((v_11).toStr) ((v_13).toStr))
                    (G (leI 0 x13k) (G (ltI x13k (lenI a1)) (G (((a1.getD x13k.toNat []).getD 0 .any).isStr) (G (((a1.getD x13k.toNat []).getD 1 .any).isStr) (G (((a1.getD x13k.toNat []).getD 2 .any).isBool) (G (((a1.getD x13k.toNat []).getD 3 .any).isInt .i64) (G (((a1.getD x13k.toNat []).getD 4 .any).isInt .i64) (C 44 [.agg [.str (((a1.getD x13k.toNat []).getD 0 .any).toStr), .str (((a1.getD x13k.toNat []).getD 1 .any).toStr), .bool (((a1.getD x13k.toNat []).getD 2 .any).toBool), .int .i64 (((a1.getD x13k.toNat []).getD 3 .any).toInt), .int .i64 (((a1.getD x13k.toNat []).getD 4 .any).toInt)]] ((Hh.past H_14).none) fun v_15 H_16 =>
                      G ((v_15).isSl 1) (G (room x11out ((v_15).slXs) 16) (L0 a0 a1 Q (x11out ++ ((v_15).slXs)) x12i (addW .i64 x13k 1) (Hh.past H_16)))))))))))
                    (G (leI 0 x12i) (G (ltI x12i (lenI a0)) (G (((a0.getD x12i.toNat []).getD 0 .any).isStr) (G (((a0.getD x12i.toNat []).getD 1 .any).isStr) (G (((a0.getD x12i.toNat []).getD 2 .any).isBool) (G (((a0.getD x12i.toNat []).getD 3 .any).isInt .i64) (G (((a0.getD x12i.toNat []).getD 4 .any).isInt .i64) (G (leI 0 x13k) (G (ltI x13k (lenI a1)) (G (((a1.getD x13k.toNat []).getD 0 .any).isStr) (G (((a1.getD x13k.toNat []).getD 1 .any).isStr) (G (((a1.getD x13k.toNat []).getD 2 .any).isBool) (G (((a1.getD x13k.toNat []).getD 3 .any).isInt .i64) (G (((a1.getD x13k.toNat []).getD 4 .any).isInt .i64) (C 45 [.agg [.str (((a0.getD x12i.toNat []).getD 0 .any).toStr), .str (((a0.getD x12i.toNat []).getD 1 .any).toStr), .bool (((a0.getD x12i.toNat []).getD 2 .any).toBool), .int .i64 (((a0.getD x12i.toNat []).getD 3 .any).toInt), .int .i64 (((a0.getD x12i.toNat []).getD 4 .any).toInt)], .agg [.str (((a1.getD x13k.toNat []).getD 0 .any).toStr), .str (((a1.getD x13k.toNat []).getD 1 .any).toStr), .bool (((a1.getD x13k.toNat []).getD 2 .any).toBool), .int .i64 (((a1.getD x13k.toNat []).getD 3 .any).toInt), .int .i64 (((a1.getD x13k.toNat []).getD 4 .any).toInt)]] ((Hh.past H_14).none) fun v_17 H_18 =>
                      G ((v_17).isSl 1) (G (room x11out ((v_17).slXs) 16) (L0 a0 a1 Q (x11out ++ ((v_17).slXs)) (addW .i64 x12i 1) (addW .i64 x13k 1) (Hh.past H_18)))))))))))))))))))))))))))))))))))))))))))))))))))))
      (cond (eqI x12i (lenI a0))
        (G (leI 0 x13k) (G (ltI x13k (lenI a1)) (G (((a1.getD x13k.toNat []).getD 0 .any).isStr) (G (((a1.getD x13k.toNat []).getD 1 .any).isStr) (G (((a1.getD x13k.toNat []).getD 2 .any).isBool) (G (((a1.getD x13k.toNat []).getD 3 .any).isInt .i64) (G (((a1.getD x13k.toNat []).getD 4 .any).isInt .i64) (C 44 [.agg [.str (((a1.getD x13k.toNat []).getD 0 .any).toStr), .str (((a1.getD x13k.toNat []).getD 1 .any).toStr), .bool (((a1.getD x13k.toNat []).getD 2 .any).toBool), .int .i64 (((a1.getD x13k.toNat []).getD 3 .any).toInt), .int .i64 (((a1.getD x13k.toNat []).getD 4 .any).toInt)]] Hh.none fun v_19 H_20 =>
          G ((v_19).isSl 1) (G (room x11out ((v_19).slXs) 16) (L0 a0 a1 Q (x11out ++ ((v_19).slXs)) x12i (addW .i64 x13k 1) (Hh.past H_20)))))))))))
        (G (leI 0 x13k) (G (ltI x13k (lenI a1)) (G (((a1.getD x13k.toNat []).getD 0 .any).isStr) (G (((a1.getD x13k.toNat []).getD 1 .any).isStr) (G (((a1.getD x13k.toNat []).getD 2 .any).isBool) (G (((a1.getD x13k.toNat []).getD 3 .any).isInt .i64) (G (((a1.getD x13k.toNat []).getD 4 .any).isInt .i64) (C 43 [.agg [.str (((a1.getD x13k.toNat []).getD 0 .any).toStr), .str (((a1.getD x13k.toNat []).getD 1 .any).toStr), .bool (((a1.getD x13k.toNat []).getD 2 .any).toBool), .int .i64 (((a1.getD x13k.toNat []).getD 3 .any).toInt), .int .i64 (((a1.getD x13k.toNat []).getD 4 .any).toInt)]] Hh.none fun v_21 H_22 =>
          G ((v_21).isStr) (G (leI 0 x12i) (G (ltI x12i (lenI a0)) (G (((a0.getD x12i.toNat []).getD 0 .any).isStr) (G (((a0.getD x12i.toNat []).getD 1 .any).isStr) (G (((a0.getD x12i.toNat []).getD 2 .any).isBool) (G (((a0.getD x12i.toNat []).getD 3 .any).isInt .i64) (G (((a0.getD x12i.toNat []).getD 4 .any).isInt .i64) (C 43 [.agg [.str (((a0.getD x12i.toNat []).getD 0 .any).toStr), .str (((a0.getD x12i.toNat []).getD 1 .any).toStr), .bool (((a0.getD x12i.toNat []).getD 2 .any).toBool), .int .i64 (((a0.getD x12i.toNat []).getD 3 .any).toInt), .int .i64 (((a0.getD x12i.toNat []).getD 4 .any).toInt)]] ((Hh.past H_22).none) fun v_23 H_24 =>
            G ((v_23).isStr) (cond (ltS ((v_21).toStr) ((v_23).toStr))
              (G (leI 0 x13k) (G (ltI x13k (lenI a1)) (G (((a1.getD x13k.toNat []).getD 0 .any).isStr) (G (((a1.getD x13k.toNat []).getD 1 .any).isStr) (G (((a1.getD x13k.toNat []).getD 2 .any).isBool) (G (((a1.getD x13k.toNat []).getD 3 .any).isInt .i64) (G (((a1.getD x13k.toNat []).getD 4 .any).isInt .i64) (C 44 [.agg [.str (((a1.getD x13k.toNat []).getD 0 .any).toStr), .str (((a1.getD x13k.toNat []).getD 1 .any).toStr), .bool (((a1.getD x13k.toNat []).getD 2 .any).toBool), .int .i64 (((a1.getD x13k.toNat []).getD 3 .any).toInt), .int .i64 (((a1.getD x13k.toNat []).getD 4 .any).toInt)]] ((Hh.past H_24).none) fun v_25 H_26 =>
                G ((v_25).isSl 1) (G (room x11out ((v_25).slXs) 16) (L0 a0 a1 Q (x11out ++ ((v_25).slXs)) x12i (addW .i64 x13k 1) (Hh.past H_26)))))))))))
              (G (leI 0 x12i) (G (ltI x12i (lenI a0)) (G (((a0.getD x12i.toNat []).getD 0 .any).isStr) (G (((a0.getD x12i.toNat []).getD 1 .any).isStr) (G (((a0.getD x12i.toNat []).getD 2 .any).isBool) (G (((a0.getD x12i.toNat []).getD 3 .any).isInt .i64) (G (((a0.getD x12i.toNat []).getD 4 .any).isInt .i64) (G (leI 0 x13k) (G (ltI x13k (lenI a1)) (G (((a1.getD x13k.toNat []).getD 0 .any).isStr) (G (((a1.getD x13k.toNat []).getD 1 .any).isStr) (G (((a1.getD x13k.toNat []).getD 2 .any).isBool) (G (((a1.getD x13k.toNat []).getD 3 .any).isInt .i64) (G (((a1.getD x13k.toNat []).getD 4 .any).isInt .i64) (C 45 [.agg [.str (((a0.getD x12i.toNat []).getD 0 .any).toStr), .str (((a0.getD x12i.toNat []).getD 1 .any).toStr), .bool (((a0.getD x12i.toNat []).getD 2 .any).toBool), .int .i64 (((a0.getD x12i.toNat []).getD 3 .any).toInt), .int .i64 (((a0.getD x12i.toNat []).getD 4 .any).toInt)], .agg [.str (((a1.getD x13k.toNat []).getD 0 .any).toStr), .str (((a1.getD x13k.toNat []).getD 1 .any).toStr), .bool (((a1.getD x13k.toNat []).getD 2 .any).toBool), .int .i64 (((a1.getD x13k.toNat []).getD 3 .any).toInt), .int .i64 (((a1.getD x13k.toNat []).getD 4 .any).toInt)]] ((Hh.past H_24).none) fun v_27 H_28 =>
                G ((v_27).isSl 1) (G (room x11out ((v_27).slXs) 16) (L0 a0 a1 Q (x11out ++ ((v_27).slXs)) (addW .i64 x12i 1) (addW .i64 x13k 1) (Hh.past H_28))))))))))))))))))))))))))))))))))))))
  (cond (ltI x13k (lenI a1))
    (cond (eqI x13k (lenI a1))
      (G (leI 0 x12i) (G (ltI x12i (lenI a0)) (G (((a0.getD x12i.toNat []).getD 0 .any).isStr) (G (((a0.getD x12i.toNat []).getD 1 .any).isStr) (G (((a0.getD x12i.toNat []).getD 2 .any).isBool) (G (((a0.getD x12i.toNat []).getD 3 .any).isInt .i64) (G (((a0.getD x12i.toNat []).getD 4 .any).isInt .i64) (C 44 [.agg [.str (((a0.getD x12i.toNat []).getD 0 .any).toStr), .str (((a0.getD x12i.toNat []).getD 1 .any).toStr), .bool (((a0.getD x12i.toNat []).getD 2 .any).toBool), .int .i64 (((a0.getD x12i.toNat []).getD 3 .any).toInt), .int .i64 (((a0.getD x12i.toNat []).getD 4 .any).toInt)]] Hh.none fun v_29 H_30 =>
        G ((v_29).isSl 1) (G (room x11out ((v_29).slXs) 16) (L0 a0 a1 Q (x11out ++ ((v_29).slXs)) (addW .i64 x12i 1) x13k (Hh.past H_30)))))))))))
      (cond (ltI x12i (lenI a0))
        (G (leI 0 x12i) (G (ltI x12i (lenI a0)) (G (((a0.getD x12i.toNat []).getD 0 .any).isStr) (G (((a0.getD x12i.toNat []).getD 1 .any).isStr) (G (((a0.getD x12i.toNat []).getD 2 .any).isBool) (G (((a0.getD x12i.toNat []).getD 3 .any).isInt .i64) (G (((a0.getD x12i.toNat []).getD 4 .any).isInt .i64) (C 43 [.agg [.str (((a0.getD x12i.toNat []).getD 0 .any).toStr), .str (((a0.getD x12i.toNat []).getD 1 .any).toStr), .bool (((a0.getD x12i.toNat []).getD 2 .any).toBool), .int .i64 (((a0.getD x12i.toNat []).getD 3 .any).toInt), .int .i64 (((a0.getD x12i.toNat []).getD 4 .any).toInt)]] Hh.none fun v_31 H_32 =>
          G ((v_31).isStr) (G (leI 0 x13k) (G (ltI x13k (lenI a1)) (G (((a1.getD x13k.toNat []).getD 0 .any).isStr) (G (((a1.getD x13k.toNat []).getD 1 .any).isStr) (G (((a1.getD x13k.toNat []).getD 2 .any).isBool) (G (((a1.getD x13k.toNat []).getD 3 .any).isInt .i64) (G (((a1.getD x13k.toNat []).getD 4 .any).isInt .i64) (C 43 [.agg [.str (((a1.getD x13k.toNat []).getD 0 .any).toStr), .str (((a1.getD x13k.toNat []).getD 1 .any).toStr), .bool (((a1.getD x13k.toNat []).getD 2 .any).toBool), .int .i64 (((a1.getD x13k.toNat []).getD 3 .any).toInt), .int .i64 (((a1.getD x13k.toNat []).getD 4 .any).toInt)]] ((Hh.past H_32).none) fun v_33 H_34 =>
            G ((v_33).isStr) (cond (ltS ((v_31).toStr) ((v_33).toStr))
              (G (leI 0 x12i) (G (ltI x12i (lenI a0)) (G (((a0.getD x12i.toNat []).getD 0 .any).isStr) (G (((a0.getD x12i.toNat []).getD 1 .any).isStr) (G (((a0.getD x12i.toNat []).getD 2 .any).isBool) (G (((a0.getD x12i.toNat []).getD 3 .any).isInt .i64) (G (((a0.getD x12i.toNat []).getD 4 .any).isInt .i64) (C 44 [.agg [.str (((a0.getD x12i.toNat []).getD 0 .any).toStr), .str (((a0.getD x12i.toNat []).getD 1 .any).toStr), .bool (((a0.getD x12i.toNat []).getD 2 .any).toBool), .int .i64 (((a0.getD x12i.toNat []).getD 3 .any).toInt), .int .i64 (((a0.getD x12i.toNat []).getD 4 .any).toInt)]] ((Hh.past H_34).none) fun v_35 H_36 =>
                G ((v_35).isSl 1) (G (room x11out ((v_35).slXs) 16) (L0 a0 a1 Q (x11out ++ ((v_35).slXs)) (addW .i64 x12i 1) x13k (Hh.past H_36)))))))))))
              (cond (eqI x12i (lenI a0))
                (G (leI 0 x13k) (G (ltI x13k (lenI a1)) (G (((a1.getD x13k.toNat []).getD 0 .any).isStr) (G (((a1.getD x13k.toNat []).getD 1 .any).isStr) (G (((a1.getD x13k.toNat []).getD 2 .any).isBool) (G (((a1.getD x13k.toNat []).getD 3 .any).isInt .i64) (G (((a1.getD x13k.toNat []).getD 4 .any).isInt .i64) (C 44 [.agg [.str (((a1.getD x13k.toNat []).getD 0 .any).toStr), .str (((a1.getD x13k.toNat []).getD 1 .any).toStr), .bool (((a1.getD x13k.toNat []).getD 2 .any).toBool), .int .i64 (((a1.getD x13k.toNat []).getD 3 .any).toInt), .int .i64 (((a1.getD x13k.toNat []).getD 4 .any).toInt)]] ((Hh.past H_34).none) fun v_37 H_38 =>
                  G ((v_37).isSl 1) (G (room x11out ((v_37).slXs) 16) (L0 a0 a1 Q (x11out ++ ((v_37).slXs)) x12i (addW .i64 x13k 1) (Hh.past H_38)))))))))))
                (G (leI 0 x13k) (G (ltI x13k (lenI a1)) (G (((a1.getD x13k.toNat []).getD 0 .any).isStr) (G (((a1.getD x13k.toNat []).getD 1 .any).isStr) (G (((a1.getD x13k.toNat []).getD 2 .any).isBool) (G (((a1.getD x13k.toNat []).getD 3 .any).isInt .i64) (G (((a1.getD x13k.toNat []).getD 4 .any).isInt .i64) (C 43 [.agg [.str (((a1.getD x13k.toNat []).getD 0 .any).toStr), .str (((a1.getD x13k.toNat []).getD 1 .any).toStr), .bool (((a1.getD x13k.toNat []).getD 2 .any).toBool), .int .i64 (((a1.getD x13k.toNat []).getD 3 .any).toInt), .int .i64 (((a1.getD x13k.toNat []).getD 4 .any).toInt)]] ((Hh.past H_34).none) fun v_39 H_40 =>
                  G ((v_39).isStr) (G (leI 0 x12i) (G (ltI x12i (lenI a0)) (G (((a0.getD x12i.toNat []).getD 0 .any).isStr) (G (((a0.getD x12i.toNat []).getD 1 .any).isStr) (G (((a0.getD x12i.toNat []).getD 2 .any).isBool) (G (((a0.getD x12i.toNat []).getD 3 .any).isInt .i64) (G (((a0.getD x12i.toNat []).getD 4 .any).isInt .i64) (C 43 [.agg [.str (((a0.getD x12i.toNat []).getD 0 .any).toStr), .str (((a0.getD x12i.toNat []).getD 1 .any).toStr), .bool (((a0.getD x12i.toNat []).getD 2 .any).toBool), .int .i64 (((a0.getD x12i.toNat []).getD 3 .any).toInt), .int .i64 (((a0.getD x12i.toNat []).getD 4 .any).toInt)]] ((Hh.past H_40).none) fun v_41 H_42 =>
                    G ((v_41).isStr) (cond (ltS ((v_39).toStr) ((v_41).toStr))
                      (G (leI 0 x13k) (G (ltI x13k (lenI a1)) (G (((a1.getD x13k.toNat []).getD 0 .any).isStr) (G (((a1.getD x13k.toNat []).getD 1 .any).isStr) (G (((a1.getD x13k.toNat []).getD 2 .any).isBool) (G (((a1.getD x13k.toNat []).getD 3 .any).isInt .i64) (G (((a1.getD x13k.toNat []).getD 4 .any).isInt .i64) (C 44 [.agg [.str (((a1.getD x13k.toNat []).getD 0 .any).toStr), .str (((a1.getD x13k.toNat []).getD 1 .any).toStr), .bool (((a1.getD x13k.toNat []).getD 2 .any).toBool), .int .i64 (((a1.getD x13k.toNat []).getD 3 .any).toInt), .int .i64 (((a1.getD x13k.toNat []).getD 4 .any).toInt)]] ((Hh.past H_42).none) fun v_43 H_44 =>
                        G ((v_43).isSl 1) (G (room x11out ((v_43).slXs) 16) (L0 a0 a1 Q (x11out ++ ((v_43).slXs)) x12i (addW .i64 x13k 1) (Hh.past H_44)))))))))))
                      (G (leI 0 x12i) (G (ltI x12i (lenI a0)) (G (((a0.getD x12i.toNat []).getD 0 .any).isStr) (G (((a0.getD x12i.toNat []).getD 1 .any).isStr) (G (((a0.getD x12i.toNat []).getD 2 .any).isBool) (G (((a0.getD x12i.toNat []).getD 3 .any).isInt .i64) (G (((a0.getD x12i.toNat []).getD 4 .any).isInt .i64) (G (leI 0 x13k) (G (ltI x13k (lenI a1)) (G (((a1.getD x13k.toNat []).getD 0 .any).isStr) (G (((a1.getD x13k.toNat []).getD 1 .any).isStr) (G (((a1.getD x13k.toNat []).getD 2 .any).isBool) (G (((a1.getD x13k.toNat []).getD 3 .any).isInt .i64) (G (((a1.getD x13k.toNat []).getD 4 .any).isInt .i64) (C 45 [.agg [.str (((a0.getD x12i.toNat []).getD 0 .any).toStr), .str (((a0.getD x12i.toNat []).getD 1 .any).toStr), .bool (((a0.getD x12i.toNat []).getD 2 .any).toBool), .int .i64 (((a0.getD x12i.toNat []).getD 3 .any).toInt), .int .i64 (((a0.getD x12i.toNat []).getD 4 .any).toInt)], .agg [.str (((a1.getD x13k.toNat []).getD 0 .any).toStr), .str (((a1.getD x13k.toNat []).getD 1 .any).toStr), .bool (((a1.getD x13k.toNat []).getD 2 .any).toBool), .int .i64 (((a1.getD x13k.toNat []).getD 3 .any).toInt), .int .i64 (((a1.getD x13k.toNat []).getD 4 .any).toInt)]] ((Hh.past H_42).none) fun v_45 H_46 =>
                        G ((v_45).isSl 1) (G (room x11out ((v_45).slXs) 16) (L0 a0 a1 Q (x11out ++ ((v_45).slXs)) (addW .i64 x12i 1) (addW .i64 x13k 1) (Hh.past H_46)))))))))))))))))))))))))))))))))))))))))))))))))))))
        (cond (eqI x12i (lenI a0))
          (G (leI 0 x13k) (G (ltI x13k (lenI a1)) (G (((a1.getD x13k.toNat []).getD 0 .any).isStr) (G (((a1.getD x13k.toNat []).getD 1 .any).isStr) (G (((a1.getD x13k.toNat []).getD 2 .any).isBool) (G (((a1.getD x13k.toNat []).getD 3 .any).isInt .i64) (G (((a1.getD x13k.toNat []).getD 4 .any).isInt .i64) (C 44 [.agg [.str (((a1.getD x13k.toNat []).getD 0 .any).toStr), .str (((a1.getD x13k.toNat []).getD 1 .any).toStr), .bool (((a1.getD x13k.toNat []).getD 2 .any).toBool), .int .i64 (((a1.getD x13k.toNat []).getD 3 .any).toInt), .int .i64 (((a1.getD x13k.toNat []).getD 4 .any).toInt)]] Hh.none fun v_47 H_48 =>
            G ((v_47).isSl 1) (G (room x11out ((v_47).slXs) 16) (L0 a0 a1 Q (x11out ++ ((v_47).slXs)) x12i (addW .i64 x13k 1) (Hh.past H_48)))))))))))
          (G (leI 0 x13k) (G (ltI x13k (lenI a1)) (G (((a1.getD x13k.toNat []).getD 0 .any).isStr) (G (((a1.getD x13k.toNat []).getD 1 .any).isStr) (G (((a1.getD x13k.toNat []).getD 2 .any).isBool) (G (((a1.getD x13k.toNat []).getD 3 .any).isInt .i64) (G (((a1.getD x13k.toNat []).getD 4 .any).isInt .i64) (C 43 [.agg [.str (((a1.getD x13k.toNat []).getD 0 .any).toStr), .str (((a1.getD x13k.toNat []).getD 1 .any).toStr), .bool (((a1.getD x13k.toNat []).getD 2 .any).toBool), .int .i64 (((a1.getD x13k.toNat []).getD 3 .any).toInt), .int .i64 (((a1.getD x13k.toNat []).getD 4 .any).toInt)]] Hh.none fun v_49 H_50 =>
            G ((v_49).isStr) (G (leI 0 x12i) (G (ltI x12i (lenI a0)) (G (((a0.getD x12i.toNat []).getD 0 .any).isStr) (G (((a0.getD x12i.toNat []).getD 1 .any).isStr) (G (((a0.getD x12i.toNat []).getD 2 .any).isBool) (G (((a0.getD x12i.toNat []).getD 3 .any).isInt .i64) (G (((a0.getD x12i.toNat []).getD 4 .any).isInt .i64) (C 43 [.agg [.str (((a0.getD x12i.toNat []).getD 0 .any).toStr), .str (((a0.getD x12i.toNat []).getD 1 .any).toStr), .bool (((a0.getD x12i.toNat []).getD 2 .any).toBool), .int .i64 (((a0.getD x12i.toNat []).getD 3 .any).toInt), .int .i64 (((a0.getD x12i.toNat []).getD 4 .any).toInt)]] ((Hh.past H_50).none) fun v_51 H_52 =>
              G ((v_51).isStr) (cond (ltS ((v_49).toStr) ((v_51).toStr))
                (G (leI 0 x13k) (G (ltI x13k (lenI a1)) (G (((a1.getD x13k.toNat []).getD 0 .any).isStr) (G (((a1.getD x13k.toNat []).getD 1 .any).isStr) (G (((a1.getD x13k.toNat []).getD 2 .any).isBool) (G (((a1.getD x13k.toNat []).getD 3 .any).isInt .i64) (G (((a1.getD x13k.toNat []).getD 4 .any).isInt .i64) (C 44 [.agg [.str (((a1.getD x13k.toNat []).getD 0 .any).toStr), .str (((a1.getD x13k.toNat []).getD 1 .any).toStr), .bool (((a1.getD x13k.toNat []).getD 2 .any).toBool), .int .i64 (((a1.getD x13k.toNat []).getD 3 .any).toInt), .int .i64 (((a1.getD x13k.toNat []).getD 4 .any).toInt)]] ((Hh.past H_52).none) fun v_53 H_54 =>
                  G ((v_53).isSl 1) (G (room x11out ((v_53).slXs) 16) (L0 a0 a1 Q (x11out ++ ((v_53).slXs)) x12i (addW .i64 x13k 1) (Hh.past H_54)))))))))))
                (G (leI 0 x12i) (G (ltI x12i (lenI a0)) (G (((a0.getD x12i.toNat []).getD 0 .any).isStr) (G (((a0.getD x12i.toNat []).getD 1 .any).isStr) (G (((a0.getD x12i.toNat []).getD 2 .any).isBool) (G (((a0.getD x12i.toNat []).getD 3 .any).isInt .i64) (G (((a0.getD x12i.toNat []).getD 4 .any).isInt .i64) (G (leI 0 x13k) (G (ltI x13k (lenI a1)) (G (((a1.getD x13k.toNat []).getD 0 .any).isStr) (G (((a1.getD x13k.toNat []).getD 1 .any).isStr) (G (((a1.getD x13k.toNat []).getD 2 .any).isBool) (G (((a1.getD x13k.toNat []).getD 3 .any).isInt .i64) (G (((a1.getD x13k.toNat []).getD 4 .any).isInt .i64) (C 45 [.agg [.str (((a0.getD x12i.toNat []).getD 0 .any).toStr), .str (((a0.getD x12i.toNat []).getD 1 .any).toStr), .bool (((a0.getD x12i.toNat []).getD 2 .any).toBool), .int .i64 (((a0.getD x12i.toNat []).getD 3 .any).toInt), .int .i64 (((a0.getD x12i.toNat []).getD 4 .any).toInt)], .agg [.str (((a1.getD x13k.toNat []).getD 0 .any).toStr), .str (((a1.getD x13k.toNat []).getD 1 .any).toStr), .bool (((a1.getD x13k.toNat []).getD 2 .any).toBool), .int .i64 (((a1.getD x13k.toNat []).getD 3 .any).toInt), .int .i64 (((a1.getD x13k.toNat []).getD 4 .any).toInt)]] ((Hh.past H_52).none) fun v_55 H_56 =>
                  G ((v_55).isSl 1) (G (room x11out ((v_55).slXs) 16) (L0 a0 a1 Q (x11out ++ ((v_55).slXs)) (addW .i64 x12i 1) (addW .i64 x13k 1) (Hh.past H_56))))))))))))))))))))))))))))))))))))))
    (Q (.sl 0 1 x11out) Hh))
theorem r0_eq (a0 : List (List AV)) (a1 : List (List AV)) (Q : AV → Heap → Prop) (x11out : List (List AV)) (x12i : Int) (x13k : Int) (Hh : Heap) : (fun K s => awp E0 C (E0.L 46) (codeAt (bodyOf E0 46) [1, 1, 1, 0, 0, 0]) 1 s K) (fun e s' => match e with | .normal => ALoop (fun K s => awp E0 C (E0.L 46) (codeAt (bodyOf E0 46) [1, 1, 1, 0, 0, 0]) 1 s K) (clean [(0, 0), (1, 0), (2, 0), (3, 0), (4, 0), (11, 3), (12, 0), (13, 0)] 0) (K0 Q) ((clean [(0, 0), (1, 0), (2, 0), (3, 0), (4, 0), (11, 3), (12, 0), (13, 0)] 0) s') | e => K0 Q e s') ⟨[.sl 0 5 a0, .sl 0 5 a1, .fn 43 [], .fn 44 [], .fn 45 [], .any, .any, .any, .any, .any, .any, .sl 1 1 x11out, .int .i64 x12i, .int .i64 x13k, .any, .any, .any, .any, .any, .any, .any, .any, .any, .any, .any, .any, .any, .any, .any, .any, .any, .any, .any, .any, .any, .any, .any, .any, .any, .any, .any, .any, .any, .any, .any, .any, .any, .any, .any, .any, .any, .any, .any, .any, .any, .any, .any, .any, .any, .any, .any, .any, .any, .any, .any, .any, .any, .any, .any, .any, .any, .any, .any, .any, .any, .any, .any, .any, .any, .any, .any, .any, .any, .any, .any, .any, .any, .any, .any, .any, .any, .any, .any, .any, .any, .any, .any, .any, .any, .any, .any, .any, .any, .any, .any, .any, .any], [], Hh⟩ = r0 a0 a1 Q x11out x12i x13k Hh := by kernel_rfl
theorem L0_step {a0 : List (List AV)} {a1 : List (List AV)} {Q : AV → Heap → Prop} {x11out : List (List AV)} {x12i : Int} {x13k : Int} {Hh : Heap} (h : r0 a0 a1 Q x11out x12i x13k Hh) : L0 a0 a1 Q x11out x12i x13k Hh := ALoop_unfold ((r0_eq a0 a1 Q x11out x12i x13k Hh).mpr h)
def t (a0 : List (List AV)) (a1 : List (List AV)) (H : Heap) (Q : AV → Heap → Prop) : Prop :=
  L0 a0 a1 Q [] 0 0 H
theorem t_eq (a0 : List (List AV)) (a1 : List (List AV)) (H : Heap) (Q : AV → Heap → Prop) : aBody E0 C 46 [.sl 0 5 a0, .sl 0 5 a1, .fn 43 [], .fn 44 [], .fn 45 []] H Q = t a0 a1 H Q := by kernel_rfl
theorem call {a0 : List (List AV)} {a1 : List (List AV)} {H : Heap} {Q : AV → Heap → Prop} (h : t a0 a1 H Q) : C 46 [.sl 0 5 a0, .sl 0 5 a1, .fn 43 [], .fn 44 [], .fn 45 []] H Q := Call_intro ((t_eq a0 a1 H Q).mpr h)
end F46
/-! ### slices.Index[[]broker/api.Cell,broker/api.Cell]: function 47 -/
namespace F47
def K0 (Q : AV → Heap → Prop) : Ex → St → Prop := (contK E0 C (E0.L 47) [.block 0, .seq (codeAt (bodyOf E0 47) [1, 1]) 1] (finK E0 47 Q))
def L0 (a0 : List (List AV)) (a1_0 : ByteArray) (a1_1 : ByteArray) (a1_2 : Bool) (a1_3 : Int) (a1_4 : Int) (Q : AV → Heap → Prop) (x8 : Int) (Hh : Heap) : Prop := ALoop (fun K s => awp E0 C (E0.L 47) (codeAt (bodyOf E0 47) [1, 0, 1, 0, 0]) 1 s K) (clean [(0, 0), (3, 0), (7, 0), (8, 0)] 1) (K0 Q) ⟨[.sl 0 5 a0, .any, .any, .ptr 0 0, .any, .any, .any, .int .i64 (lenI a0), .int .i64 x8, .any, .any, .any, .any, .any, .any, .any, .any, .any, .any], [.cells [.str a1_0, .str a1_1, .bool a1_2, .int .i64 a1_3, .int .i64 a1_4]], Hh⟩
def r0 (a0 : List (List AV)) (a1_0 : ByteArray) (a1_1 : ByteArray) (a1_2 : Bool) (a1_3 : Int) (a1_4 : Int) (Q : AV → Heap → Prop) (x8 : Int) (Hh : Heap) : Prop :=
  cond (ltI x8 (lenI a0))
  (G (leI 0 x8) (G (ltI x8 (lenI a0)) (G (((a0.getD x8.toNat []).getD 0 .any).isStr) (G (((a0.getD x8.toNat []).getD 1 .any).isStr) (G (((a0.getD x8.toNat []).getD 2 .any).isBool) (G (((a0.getD x8.toNat []).getD 3 .any).isInt .i64) (G (((a0.getD x8.toNat []).getD 4 .any).isInt .i64) (cond ((eqS a1_0 (((a0.getD x8.toNat []).getD 0 .any).toStr)) && ((eqS a1_1 (((a0.getD x8.toNat []).getD 1 .any).toStr)) && ((a1_2 == (((a0.getD x8.toNat []).getD 2 .any).toBool)) && ((eqI a1_3 (((a0.getD x8.toNat []).getD 3 .any).toInt)) && ((eqI a1_4 (((a0.getD x8.toNat []).getD 4 .any).toInt)) && true)))))
    (Q (.int .i64 x8) Hh)
    (L0 a0 a1_0 a1_1 a1_2 a1_3 a1_4 Q (addW .i64 x8 1) Hh)))))))))
  (Q (.int .i64 (-1)) Hh)
theorem r0_eq (a0 : List (List AV)) (a1_0 : ByteArray) (a1_1 : ByteArray) (a1_2 : Bool) (a1_3 : Int) (a1_4 : Int) (Q : AV → Heap → Prop) (x8 : Int) (Hh : Heap) : (fun K s => awp E0 C (E0.L 47) (codeAt (bodyOf E0 47) [1, 0, 1, 0, 0]) 1 s K) (fun e s' => match e with | .normal => ALoop (fun K s => awp E0 C (E0.L 47) (codeAt (bodyOf E0 47) [1, 0, 1, 0, 0]) 1 s K) (clean [(0, 0), (3, 0), (7, 0), (8, 0)] 1) (K0 Q) ((clean [(0, 0), (3, 0), (7, 0), (8, 0)] 1) s') | e => K0 Q e s') ⟨[.sl 0 5 a0, .any, .any, .ptr 0 0, .any, .any, .any, .int .i64 (lenI a0), .int .i64 x8, .any, .any, .any, .any, .any, .any, .any, .any, .any, .any], [.cells [.str a1_0, .str a1_1, .bool a1_2, .int .i64 a1_3, .int .i64 a1_4]], Hh⟩ = r0 a0 a1_0 a1_1 a1_2 a1_3 a1_4 Q x8 Hh := by kernel_rfl
theorem L0_step {a0 : List (List AV)} {a1_0 : ByteArray} {a1_1 : ByteArray} {a1_2 : Bool} {a1_3 : Int} {a1_4 : Int} {Q : AV → Heap → Prop} {x8 : Int} {Hh : Heap} (h : r0 a0 a1_0 a1_1 a1_2 a1_3 a1_4 Q x8 Hh) : L0 a0 a1_0 a1_1 a1_2 a1_3 a1_4 Q x8 Hh := ALoop_unfold ((r0_eq a0 a1_0 a1_1 a1_2 a1_3 a1_4 Q x8 Hh).mpr h)
def t (a0 : List (List AV)) (a1_0 : ByteArray) (a1_1 : ByteArray) (a1_2 : Bool) (a1_3 : Int) (a1_4 : Int) (H : Heap) (Q : AV → Heap → Prop) : Prop :=
  L0 a0 a1_0 a1_1 a1_2 a1_3 a1_4 Q 0 H
theorem t_eq (a0 : List (List AV)) (a1_0 : ByteArray) (a1_1 : ByteArray) (a1_2 : Bool) (a1_3 : Int) (a1_4 : Int) (H : Heap) (Q : AV → Heap → Prop) : aBody E0 C 47 [.sl 0 5 a0, .agg [.str a1_0, .str a1_1, .bool a1_2, .int .i64 a1_3, .int .i64 a1_4]] H Q = t a0 a1_0 a1_1 a1_2 a1_3 a1_4 H Q := by kernel_rfl
theorem call {a0 : List (List AV)} {a1_0 : ByteArray} {a1_1 : ByteArray} {a1_2 : Bool} {a1_3 : Int} {a1_4 : Int} {H : Heap} {Q : AV → Heap → Prop} (h : t a0 a1_0 a1_1 a1_2 a1_3 a1_4 H Q) : C 47 [.sl 0 5 a0, .agg [.str a1_0, .str a1_1, .bool a1_2, .int .i64 a1_3, .int .i64 a1_4]] H Q := Call_intro ((t_eq a0 a1_0 a1_1 a1_2 a1_3 a1_4 H Q).mpr h)
end F47
/-! ### slices.Index[[]string,string]: function 48 -/
namespace F48
def K0 (Q : AV → Heap → Prop) : Ex → St → Prop := (contK E0 C (E0.L 48) [.block 0, .seq (codeAt (bodyOf E0 48) [1, 1]) 1] (finK E0 48 Q))
def L0 (a0 : List (List AV)) (a1 : ByteArray) (Q : AV → Heap → Prop) (x8 : Int) (Hh : Heap) : Prop := ALoop (fun K s => awp E0 C (E0.L 48) (codeAt (bodyOf E0 48) [1, 0, 1, 0, 0]) 1 s K) (clean [(0, 0), (1, 0), (7, 0), (8, 0)] 0) (K0 Q) ⟨[.sl 0 1 a0, .str a1, .any, .any, .any, .any, .any, .int .i64 (lenI a0), .int .i64 x8, .any, .any, .any, .any, .any, .any, .any, .any, .any, .any], [], Hh⟩
def r0 (a0 : List (List AV)) (a1 : ByteArray) (Q : AV → Heap → Prop) (x8 : Int) (Hh : Heap) : Prop :=
  cond (ltI x8 (lenI a0))
  (G (leI 0 x8) (G (ltI x8 (lenI a0)) (G (((a0.getD x8.toNat []).getD 0 .any).isStr) (cond (eqS a1 (((a0.getD x8.toNat []).getD 0 .any).toStr))
    (Q (.int .i64 x8) Hh)
    (L0 a0 a1 Q (addW .i64 x8 1) Hh)))))
  (Q (.int .i64 (-1)) Hh)
theorem r0_eq (a0 : List (List AV)) (a1 : ByteArray) (Q : AV → Heap → Prop) (x8 : Int) (Hh : Heap) : (fun K s => awp E0 C (E0.L 48) (codeAt (bodyOf E0 48) [1, 0, 1, 0, 0]) 1 s K) (fun e s' => match e with | .normal => ALoop (fun K s => awp E0 C (E0.L 48) (codeAt (bodyOf E0 48) [1, 0, 1, 0, 0]) 1 s K) (clean [(0, 0), (1, 0), (7, 0), (8, 0)] 0) (K0 Q) ((clean [(0, 0), (1, 0), (7, 0), (8, 0)] 0) s') | e => K0 Q e s') ⟨[.sl 0 1 a0, .str a1, .any, .any, .any, .any, .any, .int .i64 (lenI a0), .int .i64 x8, .any, .any, .any, .any, .any, .any, .any, .any, .any, .any], [], Hh⟩ = r0 a0 a1 Q x8 Hh := by kernel_rfl
theorem L0_step {a0 : List (List AV)} {a1 : ByteArray} {Q : AV → Heap → Prop} {x8 : Int} {Hh : Heap} (h : r0 a0 a1 Q x8 Hh) : L0 a0 a1 Q x8 Hh := ALoop_unfold ((r0_eq a0 a1 Q x8 Hh).mpr h)
def t (a0 : List (List AV)) (a1 : ByteArray) (H : Heap) (Q : AV → Heap → Prop) : Prop :=
  L0 a0 a1 Q 0 H
theorem t_eq (a0 : List (List AV)) (a1 : ByteArray) (H : Heap) (Q : AV → Heap → Prop) : aBody E0 C 48 [.sl 0 1 a0, .str a1] H Q = t a0 a1 H Q := by kernel_rfl
theorem call {a0 : List (List AV)} {a1 : ByteArray} {H : Heap} {Q : AV → Heap → Prop} (h : t a0 a1 H Q) : C 48 [.sl 0 1 a0, .str a1] H Q := Call_intro ((t_eq a0 a1 H Q).mpr h)
end F48
/-! ### broker/brokerref01.Valid: function 49 -/
namespace F49
def t (a0 : ByteArray) (H : Heap) (Q : AV → Heap → Prop) : Prop :=
  C 53 [.str a0] H.none fun v_1 H_2 =>
  G ((v_1).isBool) (cond ((v_1).toBool)
    (C 54 [.str a0, .int .u8 43] ((H.past H_2).none) fun v_3 H_4 =>
      G ((v_3).isBool) (cond (!((v_3).toBool))
        (C 54 [.str a0, .int .u8 35] ((H.past H_4).none) fun v_5 H_6 =>
          G ((v_5).isBool) (Q (.bool (!((v_5).toBool))) (H.past H_6)))
        (Q (.bool false) (H.past H_4))))
    (Q (.bool false) (H.past H_2)))
theorem t_eq (a0 : ByteArray) (H : Heap) (Q : AV → Heap → Prop) : aBody E0 C 49 [.str a0] H Q = t a0 H Q := by kernel_rfl
theorem call {a0 : ByteArray} {H : Heap} {Q : AV → Heap → Prop} (h : t a0 H Q) : C 49 [.str a0] H Q := Call_intro ((t_eq a0 H Q).mpr h)
end F49
/-! ### broker/topic.Valid: function 50 -/
namespace F50
def K0 (Q : AV → Heap → Prop) : Ex → St → Prop := (contK E0 C (E0.L 50) [.block 0, .seq (codeAt (bodyOf E0 50) [1, 1, 1]) 1] (finK E0 50 Q))
def L0 (a0 : ByteArray) (Q : AV → Heap → Prop) (it0 : Nat) (Hh : Heap) : Prop := ALoop (fun K s => awp E0 C (E0.L 50) (codeAt (bodyOf E0 50) [1, 1, 0, 1, 0, 0]) 1 s K) (clean [(9, 0)] 1) (K0 Q) ⟨[.any, .any, .any, .any, .any, .any, .any, .any, .any, .ptr 0 0, .any, .any, .any, .any, .any, .any, .any, .any, .any], [.siter a0 it0], Hh⟩
def r0 (a0 : ByteArray) (Q : AV → Heap → Prop) (it0 : Nat) (Hh : Heap) : Prop :=
  cond (Nat.blt it0 a0.size)
  (cond (eqI ((Utf8.decode a0 it0).1 : Int) 43)
    (Q (.bool false) Hh)
    (cond (eqI ((Utf8.decode a0 it0).1 : Int) 35)
      (Q (.bool false) Hh)
      (L0 a0 Q (it0 + (Utf8.decode a0 it0).2) Hh)))
  (Q (.bool true) Hh)
theorem r0_eq (a0 : ByteArray) (Q : AV → Heap → Prop) (it0 : Nat) (Hh : Heap) : (fun K s => awp E0 C (E0.L 50) (codeAt (bodyOf E0 50) [1, 1, 0, 1, 0, 0]) 1 s K) (fun e s' => match e with | .normal => ALoop (fun K s => awp E0 C (E0.L 50) (codeAt (bodyOf E0 50) [1, 1, 0, 1, 0, 0]) 1 s K) (clean [(9, 0)] 1) (K0 Q) ((clean [(9, 0)] 1) s') | e => K0 Q e s') ⟨[.any, .any, .any, .any, .any, .any, .any, .any, .any, .ptr 0 0, .any, .any, .any, .any, .any, .any, .any, .any, .any], [.siter a0 it0], Hh⟩ = r0 a0 Q it0 Hh := by kernel_rfl
theorem L0_step {a0 : ByteArray} {Q : AV → Heap → Prop} {it0 : Nat} {Hh : Heap} (h : r0 a0 Q it0 Hh) : L0 a0 Q it0 Hh := ALoop_unfold ((r0_eq a0 Q it0 Hh).mpr h)
def t (a0 : ByteArray) (H : Heap) (Q : AV → Heap → Prop) : Prop :=
  C 55 [.str a0] H.none fun v_1 H_2 =>
  G ((v_1).isBool) (cond (!((v_1).toBool))
    (Q (.bool false) (H.past H_2))
    (L0 a0 Q 0 (H.past H_2)))
theorem t_eq (a0 : ByteArray) (H : Heap) (Q : AV → Heap → Prop) : aBody E0 C 50 [.str a0] H Q = t a0 H Q := by kernel_rfl
theorem call {a0 : ByteArray} {H : Heap} {Q : AV → Heap → Prop} (h : t a0 H Q) : C 50 [.str a0] H Q := Call_intro ((t_eq a0 H Q).mpr h)
end F50
/-! ### broker/brokerref01.sized: function 53 -/
namespace F53
def t (a0 : ByteArray) (H : Heap) (Q : AV → Heap → Prop) : Prop :=
  cond (leI 1 (sizeI a0))
  (cond (leI (sizeI a0) 64)
    (C 54 [.str a0, .int .u8 0] H.none fun v_1 H_2 =>
      G ((v_1).isBool) (cond (!((v_1).toBool))
        (C 57 [.str a0] ((H.past H_2).none) fun v_3 H_4 =>
          G ((v_3).isSl 1) (Q (.bool (leI (lenI ((v_3).slXs)) 8)) (H.past H_4)))
        (Q (.bool false) (H.past H_2))))
    (Q (.bool false) H))
  (Q (.bool false) H)
theorem t_eq (a0 : ByteArray) (H : Heap) (Q : AV → Heap → Prop) : aBody E0 C 53 [.str a0] H Q = t a0 H Q := by kernel_rfl
theorem call {a0 : ByteArray} {H : Heap} {Q : AV → Heap → Prop} (h : t a0 H Q) : C 53 [.str a0] H Q := Call_intro ((t_eq a0 H Q).mpr h)
end F53
/-! ### broker/brokerref01.Has: function 54 -/
namespace F54
def K0 (Q : AV → Heap → Prop) : Ex → St → Prop := (contK E0 C (E0.L 54) [.block 0, .seq (codeAt (bodyOf E0 54) [1, 1]) 1] (finK E0 54 Q))
def L0 (a0 : ByteArray) (a1 : Int) (Q : AV → Heap → Prop) (x5i : Int) (Hh : Heap) : Prop := ALoop (fun K s => awp E0 C (E0.L 54) (codeAt (bodyOf E0 54) [1, 0, 1, 0, 0]) 1 s K) (clean [(0, 0), (1, 0), (5, 0)] 0) (K0 Q) ⟨[.str a0, .int .u8 a1, .any, .any, .any, .int .i64 x5i, .any, .any, .any, .any, .any, .any, .any, .any, .any, .any, .any], [], Hh⟩
def r0 (a0 : ByteArray) (a1 : Int) (Q : AV → Heap → Prop) (x5i : Int) (Hh : Heap) : Prop :=
  cond (ltI x5i (sizeI a0))
  (G (leI 0 x5i) (G (ltI x5i (sizeI a0)) (cond (eqI (bt a0 x5i) a1)
    (Q (.bool true) Hh)
    (L0 a0 a1 Q (addW .i64 x5i 1) Hh))))
  (Q (.bool false) Hh)
theorem r0_eq (a0 : ByteArray) (a1 : Int) (Q : AV → Heap → Prop) (x5i : Int) (Hh : Heap) : (fun K s => awp E0 C (E0.L 54) (codeAt (bodyOf E0 54) [1, 0, 1, 0, 0]) 1 s K) (fun e s' => match e with | .normal => ALoop (fun K s => awp E0 C (E0.L 54) (codeAt (bodyOf E0 54) [1, 0, 1, 0, 0]) 1 s K) (clean [(0, 0), (1, 0), (5, 0)] 0) (K0 Q) ((clean [(0, 0), (1, 0), (5, 0)] 0) s') | e => K0 Q e s') ⟨[.str a0, .int .u8 a1, .any, .any, .any, .int .i64 x5i, .any, .any, .any, .any, .any, .any, .any, .any, .any, .any, .any], [], Hh⟩ = r0 a0 a1 Q x5i Hh := by kernel_rfl
theorem L0_step {a0 : ByteArray} {a1 : Int} {Q : AV → Heap → Prop} {x5i : Int} {Hh : Heap} (h : r0 a0 a1 Q x5i Hh) : L0 a0 a1 Q x5i Hh := ALoop_unfold ((r0_eq a0 a1 Q x5i Hh).mpr h)
def t (a0 : ByteArray) (a1 : Int) (H : Heap) (Q : AV → Heap → Prop) : Prop :=
  L0 a0 a1 Q 0 H
theorem t_eq (a0 : ByteArray) (a1 : Int) (H : Heap) (Q : AV → Heap → Prop) : aBody E0 C 54 [.str a0, .int .u8 a1] H Q = t a0 a1 H Q := by kernel_rfl
theorem call {a0 : ByteArray} {a1 : Int} {H : Heap} {Q : AV → Heap → Prop} (h : t a0 a1 H Q) : C 54 [.str a0, .int .u8 a1] H Q := Call_intro ((t_eq a0 a1 H Q).mpr h)
end F54
/-! ### broker/topic.sized: function 55 -/
namespace F55
def K0 (Q : AV → Heap → Prop) : Ex → St → Prop := (contK E0 C (E0.L 55) [.block 0, .seq (codeAt (bodyOf E0 55) [1, 1, 1, 1]) 1] (finK E0 55 Q))
def L0 (a0 : ByteArray) (Q : AV → Heap → Prop) (x3levels : Int) (it0 : Nat) (Hh : Heap) : Prop := ALoop (fun K s => awp E0 C (E0.L 55) (codeAt (bodyOf E0 55) [1, 1, 1, 0, 1, 0, 0]) 1 s K) (clean [(3, 0), (15, 0)] 1) (K0 Q) ⟨[.any, .any, .any, .int .i64 x3levels, .any, .any, .any, .any, .any, .any, .any, .any, .any, .any, .any, .ptr 0 0, .any, .any, .any, .any, .any, .any, .any, .any, .any, .any, .any, .any], [.siter a0 it0], Hh⟩
def r0 (a0 : ByteArray) (Q : AV → Heap → Prop) (x3levels : Int) (it0 : Nat) (Hh : Heap) : Prop :=
  cond (Nat.blt it0 a0.size)
  (cond (eqI ((Utf8.decode a0 it0).1 : Int) 0)
    (Q (.bool false) Hh)
    (cond (eqI ((Utf8.decode a0 it0).1 : Int) 47)
      (L0 a0 Q (addW .i64 x3levels 1) (it0 + (Utf8.decode a0 it0).2) Hh)
      (L0 a0 Q x3levels (it0 + (Utf8.decode a0 it0).2) Hh)))
  (Q (.bool (leI x3levels 8)) Hh)
theorem r0_eq (a0 : ByteArray) (Q : AV → Heap → Prop) (x3levels : Int) (it0 : Nat) (Hh : Heap) : (fun K s => awp E0 C (E0.L 55) (codeAt (bodyOf E0 55) [1, 1, 1, 0, 1, 0, 0]) 1 s K) (fun e s' => match e with | .normal => ALoop (fun K s => awp E0 C (E0.L 55) (codeAt (bodyOf E0 55) [1, 1, 1, 0, 1, 0, 0]) 1 s K) (clean [(3, 0), (15, 0)] 1) (K0 Q) ((clean [(3, 0), (15, 0)] 1) s') | e => K0 Q e s') ⟨[.any, .any, .any, .int .i64 x3levels, .any, .any, .any, .any, .any, .any, .any, .any, .any, .any, .any, .ptr 0 0, .any, .any, .any, .any, .any, .any, .any, .any, .any, .any, .any, .any], [.siter a0 it0], Hh⟩ = r0 a0 Q x3levels it0 Hh := by kernel_rfl
theorem L0_step {a0 : ByteArray} {Q : AV → Heap → Prop} {x3levels : Int} {it0 : Nat} {Hh : Heap} (h : r0 a0 Q x3levels it0 Hh) : L0 a0 Q x3levels it0 Hh := ALoop_unfold ((r0_eq a0 Q x3levels it0 Hh).mpr h)
def t (a0 : ByteArray) (H : Heap) (Q : AV → Heap → Prop) : Prop :=
  cond (ltI (sizeI a0) 1)
  (Q (.bool false) H)
  (cond (ltI 64 (sizeI a0))
    (Q (.bool false) H)
    (L0 a0 Q 1 0 H))
theorem t_eq (a0 : ByteArray) (H : Heap) (Q : AV → Heap → Prop) : aBody E0 C 55 [.str a0] H Q = t a0 H Q := by kernel_rfl
theorem call {a0 : ByteArray} {H : Heap} {Q : AV → Heap → Prop} (h : t a0 H Q) : C 55 [.str a0] H Q := Call_intro ((t_eq a0 H Q).mpr h)
end F55
/-! ### broker/brokerref01.Levels: function 57 -/
namespace F57
def K0 (Q : AV → Heap → Prop) : Ex → St → Prop := (contK E0 C (E0.L 57) [.block 0, .seq (codeAt (bodyOf E0 57) [1, 1, 1, 1]) 1] (finK E0 57 Q))
def L0 (a0 : ByteArray) (Q : AV → Heap → Prop) (x3out : List (List AV)) (x4from : Int) (x5i : Int) (Hh : Heap) : Prop := ALoop (fun K s => awp E0 C (E0.L 57) (codeAt (bodyOf E0 57) [1, 1, 1, 0, 1, 0, 0]) 1 s K) (clean [(0, 0), (3, 3), (4, 0), (5, 0)] 0) (K0 Q) ⟨[.str a0, .any, .any, .sl 1 1 x3out, .int .i64 x4from, .int .i64 x5i, .any, .any, .any, .any, .any, .any, .any, .any, .any, .any, .any, .any, .any, .any, .any, .any, .any, .any, .any, .any, .any, .any, .any, .any, .any], [], Hh⟩
def r0 (a0 : ByteArray) (Q : AV → Heap → Prop) (x3out : List (List AV)) (x4from : Int) (x5i : Int) (Hh : Heap) : Prop :=
  cond (ltI x5i (sizeI a0))
  (G (leI 0 x5i) (G (ltI x5i (sizeI a0)) (cond (eqI (bt a0 x5i) 47)
    (G (leI 0 x4from) (G (leI x4from x5i) (G (leI x5i (sizeI a0)) (G (room x3out [[.str (a0.extract x4from.toNat x5i.toNat)]] 16) (L0 a0 Q (x3out ++ [[.str (a0.extract x4from.toNat x5i.toNat)]]) (addW .i64 x5i 1) (addW .i64 x5i 1) Hh)))))
    (L0 a0 Q x3out x4from (addW .i64 x5i 1) Hh))))
  (G (leI 0 x4from) (G (leI x4from (sizeI a0)) (G (leI (sizeI a0) (sizeI a0)) (G (room x3out [[.str (a0.extract x4from.toNat ((sizeI a0).toNat))]] 16) (Q (.sl 0 1 (x3out ++ [[.str (a0.extract x4from.toNat ((sizeI a0).toNat))]])) Hh)))))
theorem r0_eq (a0 : ByteArray) (Q : AV → Heap → Prop) (x3out : List (List AV)) (x4from : Int) (x5i : Int) (Hh : Heap) : (fun K s => awp E0 C (E0.L 57) (codeAt (bodyOf E0 57) [1, 1, 1, 0, 1, 0, 0]) 1 s K) (fun e s' => match e with | .normal => ALoop (fun K s => awp E0 C (E0.L 57) (codeAt (bodyOf E0 57) [1, 1, 1, 0, 1, 0, 0]) 1 s K) (clean [(0, 0), (3, 3), (4, 0), (5, 0)] 0) (K0 Q) ((clean [(0, 0), (3, 3), (4, 0), (5, 0)] 0) s') | e => K0 Q e s') ⟨[.str a0, .any, .any, .sl 1 1 x3out, .int .i64 x4from, .int .i64 x5i, .any, .any, .any, .any, .any, .any, .any, .any, .any, .any, .any, .any, .any, .any, .any, .any, .any, .any, .any, .any, .any, .any, .any, .any, .any], [], Hh⟩ = r0 a0 Q x3out x4from x5i Hh := by kernel_rfl
theorem L0_step {a0 : ByteArray} {Q : AV → Heap → Prop} {x3out : List (List AV)} {x4from : Int} {x5i : Int} {Hh : Heap} (h : r0 a0 Q x3out x4from x5i Hh) : L0 a0 Q x3out x4from x5i Hh := ALoop_unfold ((r0_eq a0 Q x3out x4from x5i Hh).mpr h)
def t (a0 : ByteArray) (H : Heap) (Q : AV → Heap → Prop) : Prop :=
  L0 a0 Q [] 0 0 H
theorem t_eq (a0 : ByteArray) (H : Heap) (Q : AV → Heap → Prop) : aBody E0 C 57 [.str a0] H Q = t a0 H Q := by kernel_rfl
theorem call {a0 : ByteArray} {H : Heap} {Q : AV → Heap → Prop} (h : t a0 H Q) : C 57 [.str a0] H Q := Call_intro ((t_eq a0 H Q).mpr h)
end F57
end Go.Proofs.Ytkjmkhgaghighaa.Ab
