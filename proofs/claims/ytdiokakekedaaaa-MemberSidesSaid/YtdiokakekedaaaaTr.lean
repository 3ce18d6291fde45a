/- PRINTED by abx.py. -/
import Derived.Test.YtdiokakekedaaaaAbMono
import Derived.Test.YtdiokakekedaaaaTab
import Derived.Test.YtdiokakekedaaaaLeaf
namespace Go.Proofs.Ytdiokakekedaaaa.Ab
open Go
set_option maxRecDepth 100000
set_option maxHeartbeats 4000000
set_option linter.unusedVariables false
def liveT : Nat → Live
  | 4 => ([[(2, 0), (7, 0), (8, 0), (9, 0), (34, 0), (35, 0), (36, 0)]], [])
  | 6 => ([[(0, 0), (1, 0), (15, 0), (16, 0), (17, 0)]], [])
  | 7 => ([[(0, 0), (1, 0), (5, 0), (7, 0), (8, 0), (9, 0), (10, 0), (36, 0), (37, 0), (38, 0)], [(0, 0), (1, 0), (5, 0), (7, 0), (8, 0), (9, 0), (10, 0), (11, 0), (12, 0), (36, 0), (37, 0), (38, 0), (63, 0), (64, 0), (65, 0)], [(0, 0), (1, 0), (5, 0), (7, 0), (8, 0), (15, 0), (111, 0), (112, 0), (113, 0)]], [])
  | 8 => ([], [(7, [(0, 0), (7, 0), (8, 0), (9, 0), (59, 0)]), (11, [(0, 0), (7, 0), (8, 0), (9, 0), (75, 0)]), (17, [(0, 0), (7, 0), (13, 0), (103, 0)])])
  | 9 => ([[(0, 0), (5, 0), (6, 0)]], [])
  | 12 => ([[(0, 0), (1, 0), (12, 0), (13, 0)]], [])
  | 13 => ([[(1, 0), (2, 0), (7, 0), (8, 0)]], [])
  | 14 => ([[(1, 0), (2, 0), (7, 3), (10, 0), (11, 0), (12, 0)]], [(11, [(1, 0), (2, 0), (7, 3), (9, 0), (10, 0), (11, 0), (12, 0), (34, 0)])])
  | 15 => ([[(1, 0), (2, 0), (7, 3), (10, 0), (11, 0), (12, 0)]], [(11, [(1, 0), (2, 0), (7, 3), (9, 0), (10, 0), (11, 0), (12, 0), (34, 0)])])
  | 16 => ([[(0, 0), (1, 0), (12, 0), (13, 0)]], [])
  | 17 => ([[(1, 0), (5, 3), (8, 0), (9, 0), (10, 0)]], [])
  | 18 => ([[(1, 0), (5, 3), (9, 0), (10, 0), (11, 0)]], [])
  | 19 => ([[(0, 0), (1, 0), (5, 0), (24, 0), (25, 0)], [(0, 0), (5, 0), (32, 0), (33, 0), (34, 0)], [(0, 0), (5, 0), (11, 0), (12, 0), (32, 0), (33, 0), (34, 0), (72, 0), (73, 0)], [(0, 0), (5, 0), (14, 3), (86, 0), (87, 0)], [(0, 0), (5, 0), (14, 3), (15, 0), (16, 3), (86, 0), (87, 0), (90, 0), (91, 0)]], [(27, [(0, 0), (5, 0), (9, 0), (10, 0), (32, 0), (33, 0), (34, 0), (57, 0)])])
  | 20 => ([[(0, 0), (1, 0), (5, 0), (25, 0), (26, 0)], [(0, 0), (1, 0), (5, 0), (34, 0), (35, 0)], [(0, 0), (1, 0), (5, 0), (34, 0), (35, 0), (37, 0), (38, 0), (39, 0)], [(0, 0), (5, 0), (12, 3), (77, 0), (78, 0)], [(0, 0), (5, 0), (12, 3), (13, 0), (14, 3), (77, 0), (78, 0), (81, 0), (82, 0)]], [])
  | 21 => ([[(1, 0), (8, 0), (9, 0), (10, 0)]], [])
  | 22 => ([[(1, 0), (8, 0), (9, 0), (10, 0)]], [])
  | 23 => ([[(1, 0), (12, 0), (13, 0), (14, 0)]], [])
  | 28 => ([[(1, 0), (5, 4), (8, 0), (9, 0), (10, 0)]], [])
  | 30 => ([[(0, 0), (1, 0), (2, 0), (8, 0), (9, 0), (10, 0)]], [])
  | 37 => ([[(0, 0), (1, 0), (7, 0), (8, 0)]], [])
  | 42 => ([[(0, 0), (3, 0)], [(0, 0), (3, 0), (4, 0), (5, 0)]], [])
  | _ => ([], [])
def ownT (n : Nat) : Bool := Nat.beq n 26 || Nat.beq n 29 || Nat.beq n 33 || Nat.beq n 34 || Nat.beq n 36 || Nat.beq n 42
def ioT (n : Nat) : Bool := Nat.beq n 33 || Nat.beq n 34 || Nat.beq n 40 || Nat.beq n 41 || Nat.beq n 42 || Nat.beq n 43 || Nat.beq n 46
def purT (n : Nat) : Bool := !(Nat.beq n 33 || Nat.beq n 34 || Nat.beq n 40 || Nat.beq n 41 || Nat.beq n 42 || Nat.beq n 43 || Nat.beq n 46)
def apartT (n : Nat) : Bool := Nat.beq n 39
noncomputable def E0 : Env := ⟨tys, fun f => cond (leafL.elem f) none (fns.getD f none), liveT, ownT, leafT, ioT, purT, apartT⟩
noncomputable abbrev C : Oracle := Call E0
/-! ### broker/brokerlaw39.MemberSees: function 3 -/
namespace F3
def t (a0 : List (List AV)) (a1 : Int) (a2 : Int) (H : Heap) (Q : AV → Heap → Prop) : Prop :=
  cond (ltI 30 (lenI a0))
  (C 10 [] H.none fun v_1 H_2 =>
    G ((v_1).isBool) (Q (.bool ((v_1).toBool)) (H.past H_2)))
  (C 9 [.sl 0 2 a0] H.none fun v_3 H_4 =>
    G ((v_3).isBool) (cond (!((v_3).toBool))
      (C 10 [] ((H.past H_4).none) fun v_5 H_6 =>
        G ((v_5).isBool) (Q (.bool ((v_5).toBool)) (H.past H_6)))
      (C 11 [.sl 0 2 a0, .int .i64 a1, .int .i64 a2] ((H.past H_4).none) fun v_7 H_8 =>
        G ((v_7).isSl 2) (C 13 [.sl 0 2 a0, .int .i64 a1, .int .i64 a2] ((H.past H_8).none) fun v_9 H_10 =>
          G ((v_9).isSl 2) (C 12 [.sl 0 2 ((v_7).slXs), .sl 0 2 ((v_9).slXs)] ((H.past H_10).none) fun v_11 H_12 =>
            G ((v_11).isBool) (cond ((v_11).toBool)
              (C 9 [.sl 0 2 ((v_7).slXs)] ((H.past H_12).none) fun v_13 H_14 =>
                G ((v_13).isBool) (cond ((v_13).toBool)
                  (C 10 [] ((H.past H_14).none) fun v_15 H_16 =>
                    G ((v_15).isBool) (Q (.bool ((v_15).toBool)) (H.past H_16)))
                  (Q (.bool false) (H.past H_14))))
              (Q (.bool false) (H.past H_12))))))))
theorem t_eq (a0 : List (List AV)) (a1 : Int) (a2 : Int) (H : Heap) (Q : AV → Heap → Prop) : aBody E0 C 3 [.sl 0 2 a0, .int .i64 a1, .int .i64 a2] H Q = t a0 a1 a2 H Q := by kernel_rfl
theorem call {a0 : List (List AV)} {a1 : Int} {a2 : Int} {H : Heap} {Q : AV → Heap → Prop} (h : t a0 a1 a2 H Q) : C 3 [.sl 0 2 a0, .int .i64 a1, .int .i64 a2] H Q := Call_intro (E := E0) (by rw [t_eq]; exact h)
end F3
/-! ### broker/brokerlaw39.MemberAlive: function 4 -/
namespace F4
def K0 (Q : AV → Heap → Prop) : Ex → St → Prop := (contK E0 C (E0.L 4) [.block 0 1, .seq (codeAt (bodyOf E0 4) [1, 1, 1, 1, 1]) 1] (finK E0 4 Q))
def L0 (a0 : List (List AV)) (a1_0 : Int) (a1_1 : Int) (a2 : List (List AV)) (Q : AV → Heap → Prop) (x7a : List (List AV)) (x8b : List (List AV)) (x9nodes : List (List AV)) (x36 : Int) (Hh : Heap) : Prop := ALoop (fun K s => awp E0 C (E0.L 4) (codeAt (bodyOf E0 4) [1, 1, 1, 1, 0, 1, 0, 0]) 1 s K) (clean [(2, 0), (7, 0), (8, 0), (9, 0), (34, 0), (35, 0), (36, 0)] 1) (K0 Q) ⟨stt 70 [(2, .sl 0 1 a2), (7, .sl 0 1 x7a), (8, .sl 0 1 x8b), (9, .sl 1 1 x9nodes), (34, .sl 0 2 a0), (35, .int .i64 (lenI a0)), (36, .int .i64 x36)], [.cells [.int .i64 a1_0, .int .i64 a1_1]], Hh⟩
def r0 (a0 : List (List AV)) (a1_0 : Int) (a1_1 : Int) (a2 : List (List AV)) (Q : AV → Heap → Prop) (x7a : List (List AV)) (x8b : List (List AV)) (x9nodes : List (List AV)) (x36 : Int) (Hh : Heap) : Prop :=
  cond (ltI x36 (lenI a0))
  (G (leI 0 x36) (G (ltI x36 (lenI a0)) (G ((ce (ro a0 x36.toNat) 0).isInt .i64) (G ((ce (ro a0 x36.toNat) 1).isInt .i64) (G (room x9nodes [[.int .i64 ((ce (ro a0 x36.toNat) 0).toInt)]] 8) (L0 a0 a1_0 a1_1 a2 Q x7a x8b (x9nodes ++ [[.int .i64 ((ce (ro a0 x36.toNat) 0).toInt)]]) (addW .i64 x36 1) Hh))))))
  (C 16 [.sl 0 1 x7a, .sl 0 1 x8b] Hh.none fun v_9 H_10 =>
    G ((v_9).isBool) (cond ((v_9).toBool)
      (C 17 [.sl 0 1 x8b, .sl 0 1 a2] ((Hh.past H_10).none) fun v_11 H_12 =>
        G ((v_11).isSl 1) (C 18 [.sl 0 1 x8b, .sl 0 1 a2] ((Hh.past H_12).none) fun v_13 H_14 =>
          G ((v_13).isSl 1) (C 16 [.sl 0 1 ((v_11).slXs), .sl 0 1 ((v_13).slXs)] ((Hh.past H_14).none) fun v_15 H_16 =>
            G ((v_15).isBool) (cond ((v_15).toBool)
              (C 17 [.sl 0 1 x9nodes, .sl 0 1 a2] ((Hh.past H_16).none) fun v_17 H_18 =>
                G ((v_17).isSl 1) (C 18 [.sl 0 1 x9nodes, .sl 0 1 a2] ((Hh.past H_18).none) fun v_19 H_20 =>
                  G ((v_19).isSl 1) (C 16 [.sl 0 1 ((v_17).slXs), .sl 0 1 ((v_19).slXs)] ((Hh.past H_20).none) fun v_21 H_22 =>
                    G ((v_21).isBool) (cond ((v_21).toBool)
                      (C 10 [] ((Hh.past H_22).none) fun v_23 H_24 =>
                        G ((v_23).isBool) (Q (.bool ((v_23).toBool)) (Hh.past H_24)))
                      (Q (.bool false) (Hh.past H_22))))))
              (Q (.bool false) (Hh.past H_16))))))
      (Q (.bool false) (Hh.past H_10))))
theorem r0_eq (a0 : List (List AV)) (a1_0 : Int) (a1_1 : Int) (a2 : List (List AV)) (Q : AV → Heap → Prop) (x7a : List (List AV)) (x8b : List (List AV)) (x9nodes : List (List AV)) (x36 : Int) (Hh : Heap) : (fun K s => awp E0 C (E0.L 4) (codeAt (bodyOf E0 4) [1, 1, 1, 1, 0, 1, 0, 0]) 1 s K) (fun e s' => match e with | .normal => ALoop (fun K s => awp E0 C (E0.L 4) (codeAt (bodyOf E0 4) [1, 1, 1, 1, 0, 1, 0, 0]) 1 s K) (clean [(2, 0), (7, 0), (8, 0), (9, 0), (34, 0), (35, 0), (36, 0)] 1) (K0 Q) ((clean [(2, 0), (7, 0), (8, 0), (9, 0), (34, 0), (35, 0), (36, 0)] 1) s') | e => K0 Q e s') ⟨stt 70 [(2, .sl 0 1 a2), (7, .sl 0 1 x7a), (8, .sl 0 1 x8b), (9, .sl 1 1 x9nodes), (34, .sl 0 2 a0), (35, .int .i64 (lenI a0)), (36, .int .i64 x36)], [.cells [.int .i64 a1_0, .int .i64 a1_1]], Hh⟩ = r0 a0 a1_0 a1_1 a2 Q x7a x8b x9nodes x36 Hh := by kernel_rfl
theorem L0_step {a0 : List (List AV)} {a1_0 : Int} {a1_1 : Int} {a2 : List (List AV)} {Q : AV → Heap → Prop} {x7a : List (List AV)} {x8b : List (List AV)} {x9nodes : List (List AV)} {x36 : Int} {Hh : Heap} (h : r0 a0 a1_0 a1_1 a2 Q x7a x8b x9nodes x36 Hh) : L0 a0 a1_0 a1_1 a2 Q x7a x8b x9nodes x36 Hh := ALoop_unfold ((r0_eq a0 a1_0 a1_1 a2 Q x7a x8b x9nodes x36 Hh).mpr h)
def t (a0 : List (List AV)) (a1_0 : Int) (a1_1 : Int) (a2 : List (List AV)) (H : Heap) (Q : AV → Heap → Prop) : Prop :=
  cond (ltI 60 (lenI a0))
  (C 10 [] H.none fun v_1 H_2 =>
    G ((v_1).isBool) (Q (.bool ((v_1).toBool)) (H.past H_2)))
  (cond (ltI 60 (lenI a2))
    (C 10 [] H.none fun v_3 H_4 =>
      G ((v_3).isBool) (Q (.bool ((v_3).toBool)) (H.past H_4)))
    (C 14 [.sl 0 2 a0, .int .i64 a1_0, .int .i64 a1_1] H.none fun v_5 H_6 =>
      G ((v_5).isSl 1) (C 15 [.sl 0 2 a0, .int .i64 a1_0, .int .i64 a1_1] ((H.past H_6).none) fun v_7 H_8 =>
        G ((v_7).isSl 1) (L0 a0 a1_0 a1_1 a2 Q ((v_5).slXs) ((v_7).slXs) [] 0 (H.past H_8)))))
theorem t_eq (a0 : List (List AV)) (a1_0 : Int) (a1_1 : Int) (a2 : List (List AV)) (H : Heap) (Q : AV → Heap → Prop) : aBody E0 C 4 [.sl 0 2 a0, .agg [.int .i64 a1_0, .int .i64 a1_1], .sl 0 1 a2] H Q = t a0 a1_0 a1_1 a2 H Q := by kernel_rfl
theorem call {a0 : List (List AV)} {a1_0 : Int} {a1_1 : Int} {a2 : List (List AV)} {H : Heap} {Q : AV → Heap → Prop} (h : t a0 a1_0 a1_1 a2 H Q) : C 4 [.sl 0 2 a0, .agg [.int .i64 a1_0, .int .i64 a1_1], .sl 0 1 a2] H Q := Call_intro (E := E0) (by rw [t_eq]; exact h)
end F4
/-! ### broker/brokerlaw39.MemberSides: function 5 -/
namespace F5
def t (a0 : Int) (a1 : List (List AV)) (a2 : Int) (H : Heap) (Q : AV → Heap → Prop) : Prop :=
  cond (ltI 60 (lenI a1))
  (C 10 [] H.none fun v_1 H_2 =>
    G ((v_1).isBool) (Q (.bool ((v_1).toBool)) (H.past H_2)))
  (C 19 [.int .i64 a0, .sl 0 2 a1] H.none fun v_3 H_4 =>
    G ((v_3).isSl 1) (C 20 [.int .i64 a0, .sl 0 2 a1] ((H.past H_4).none) fun v_5 H_6 =>
      G ((v_5).isSl 1) (C 21 [.sl 0 1 ((v_5).slXs), .int .i64 a0] ((H.past H_6).none) fun v_7 H_8 =>
        G ((v_7).isTup && Nat.beq (v_7).tupVs.length 2) (G ((((v_7).tupVs).headD .any).isSl 1) (G (((((v_7).tupVs).tail).headD .any).isBool) (C 22 [.sl 0 1 ((v_5).slXs), .int .i64 a0] ((H.past H_8).none) fun v_9 H_10 =>
          G ((v_9).isTup && Nat.beq (v_9).tupVs.length 2) (G ((((v_9).tupVs).headD .any).isSl 1) (G (((((v_9).tupVs).tail).headD .any).isBool) (C 23 [.sl 0 1 ((v_3).slXs), .sl 0 1 ((v_5).slXs)] ((H.past H_10).none) fun v_11 H_12 =>
            G ((v_11).isBool) (cond ((v_11).toBool)
              (C 16 [.sl 0 1 ((((v_7).tupVs).headD .any).slXs), .sl 0 1 ((((v_9).tupVs).headD .any).slXs)] ((H.past H_12).none) fun v_13 H_14 =>
                G ((v_13).isBool) (cond ((v_13).toBool)
                  (cond ((((((v_7).tupVs).tail).headD .any).toBool) == (((((v_9).tupVs).tail).headD .any).toBool))
                    (C 24 [.int .i64 a2, .int .i64 a0] ((H.past H_14).none) fun v_15 H_16 =>
                      G ((v_15).isBool) (C 25 [.int .i64 a2, .int .i64 a0] ((H.past H_16).none) fun v_17 H_18 =>
                        G ((v_17).isBool) (cond (((v_15).toBool) == ((v_17).toBool))
                          (C 10 [] ((H.past H_18).none) fun v_19 H_20 =>
                            G ((v_19).isBool) (Q (.bool ((v_19).toBool)) (H.past H_20)))
                          (Q (.bool false) (H.past H_18)))))
                    (Q (.bool false) (H.past H_14)))
                  (Q (.bool false) (H.past H_14))))
              (Q (.bool false) (H.past H_12))))))))))))
theorem t_eq (a0 : Int) (a1 : List (List AV)) (a2 : Int) (H : Heap) (Q : AV → Heap → Prop) : aBody E0 C 5 [.int .i64 a0, .sl 0 2 a1, .int .i64 a2] H Q = t a0 a1 a2 H Q := by kernel_rfl
theorem call {a0 : Int} {a1 : List (List AV)} {a2 : Int} {H : Heap} {Q : AV → Heap → Prop} (h : t a0 a1 a2 H Q) : C 5 [.int .i64 a0, .sl 0 2 a1, .int .i64 a2] H Q := Call_intro (E := E0) (by rw [t_eq]; exact h)
end F5
/-! ### broker/brokerlaw39.MemberMajors: function 6 -/
namespace F6
def K0 (Q : AV → Heap → Prop) : Ex → St → Prop := (contK E0 C (E0.L 6) [.block 0 0, .seq (codeAt (bodyOf E0 6) [1, 1, 1]) 1] (finK E0 6 Q))
def L0 (a0 : List (List AV)) (a1 : Int) (Q : AV → Heap → Prop) (x17 : Int) (Hh : Heap) : Prop := ALoop (fun K s => awp E0 C (E0.L 6) (codeAt (bodyOf E0 6) [1, 1, 0, 1, 0, 0]) 1 s K) (clean [(0, 0), (1, 0), (15, 0), (16, 0), (17, 0)] 0) (K0 Q) ⟨stt 49 [(0, .sl 0 1 a0), (1, .int .i64 a1), (15, .sl 0 1 a0), (16, .int .i64 (lenI a0)), (17, .int .i64 x17)], [], Hh⟩
def r0 (a0 : List (List AV)) (a1 : Int) (Q : AV → Heap → Prop) (x17 : Int) (Hh : Heap) : Prop :=
  cond (ltI x17 (lenI a0))
  (G (leI 0 x17) (G (ltI x17 (lenI a0)) (G ((ce (ro a0 x17.toNat) 0).isSl 1) (cond (ltI 20 (lenI ((ce (ro a0 x17.toNat) 0).slXs)))
    (C 10 [] Hh.none fun v_3 H_4 =>
      G ((v_3).isBool) (Q (.bool ((v_3).toBool)) (Hh.past H_4)))
    (L0 a0 a1 Q (addW .i64 x17 1) Hh)))))
  (C 21 [.sl 0 1 a0, .int .i64 a1] Hh.none fun v_5 H_6 =>
    G ((v_5).isTup && Nat.beq (v_5).tupVs.length 2) (G ((((v_5).tupVs).headD .any).isSl 1) (G (((((v_5).tupVs).tail).headD .any).isBool) (C 22 [.sl 0 1 a0, .int .i64 a1] ((Hh.past H_6).none) fun v_7 H_8 =>
      G ((v_7).isTup && Nat.beq (v_7).tupVs.length 2) (G ((((v_7).tupVs).headD .any).isSl 1) (G (((((v_7).tupVs).tail).headD .any).isBool) (C 16 [.sl 0 1 ((((v_5).tupVs).headD .any).slXs), .sl 0 1 ((((v_7).tupVs).headD .any).slXs)] ((Hh.past H_8).none) fun v_9 H_10 =>
        G ((v_9).isBool) (cond ((v_9).toBool)
          (cond ((((((v_5).tupVs).tail).headD .any).toBool) == (((((v_7).tupVs).tail).headD .any).toBool))
            (C 10 [] ((Hh.past H_10).none) fun v_11 H_12 =>
              G ((v_11).isBool) (Q (.bool ((v_11).toBool)) (Hh.past H_12)))
            (Q (.bool false) (Hh.past H_10)))
          (Q (.bool false) (Hh.past H_10))))))))))
theorem r0_eq (a0 : List (List AV)) (a1 : Int) (Q : AV → Heap → Prop) (x17 : Int) (Hh : Heap) : (fun K s => awp E0 C (E0.L 6) (codeAt (bodyOf E0 6) [1, 1, 0, 1, 0, 0]) 1 s K) (fun e s' => match e with | .normal => ALoop (fun K s => awp E0 C (E0.L 6) (codeAt (bodyOf E0 6) [1, 1, 0, 1, 0, 0]) 1 s K) (clean [(0, 0), (1, 0), (15, 0), (16, 0), (17, 0)] 0) (K0 Q) ((clean [(0, 0), (1, 0), (15, 0), (16, 0), (17, 0)] 0) s') | e => K0 Q e s') ⟨stt 49 [(0, .sl 0 1 a0), (1, .int .i64 a1), (15, .sl 0 1 a0), (16, .int .i64 (lenI a0)), (17, .int .i64 x17)], [], Hh⟩ = r0 a0 a1 Q x17 Hh := by kernel_rfl
theorem L0_step {a0 : List (List AV)} {a1 : Int} {Q : AV → Heap → Prop} {x17 : Int} {Hh : Heap} (h : r0 a0 a1 Q x17 Hh) : L0 a0 a1 Q x17 Hh := ALoop_unfold ((r0_eq a0 a1 Q x17 Hh).mpr h)
def t (a0 : List (List AV)) (a1 : Int) (H : Heap) (Q : AV → Heap → Prop) : Prop :=
  cond (ltI 20 (lenI a0))
  (C 10 [] H.none fun v_1 H_2 =>
    G ((v_1).isBool) (Q (.bool ((v_1).toBool)) (H.past H_2)))
  (L0 a0 a1 Q 0 H)
theorem t_eq (a0 : List (List AV)) (a1 : Int) (H : Heap) (Q : AV → Heap → Prop) : aBody E0 C 6 [.sl 0 1 a0, .int .i64 a1] H Q = t a0 a1 H Q := by kernel_rfl
theorem call {a0 : List (List AV)} {a1 : Int} {H : Heap} {Q : AV → Heap → Prop} (h : t a0 a1 H Q) : C 6 [.sl 0 1 a0, .int .i64 a1] H Q := Call_intro (E := E0) (by rw [t_eq]; exact h)
end F6
/-! ### broker/brokerlaw39.MemberTimes: function 8 -/
namespace F8
def JR3 (a0 : List (List AV)) (a1_0 : Int) (a1_1 : Int) (a1_2 : Int) (a2_0 : Int) (a2_1 : Int) (Q : AV → Heap → Prop) (x59 : Bool) (Hh : Heap) : Prop := AJoin (contK E0 C (E0.L 8) [.seq (codeAt (bodyOf E0 8) [1, 1, 1, 0, 1]) 0, .seq (codeAt (bodyOf E0 8) [1, 1, 1, 1]) 0] (finK E0 8 Q)) ⟨stt 124 [(0, .sl 0 2 a0), (7, .int .i64 a1_0), (8, .int .i64 a1_1), (9, .int .i64 a1_2), (59, .bool x59)], [.cells [.int .i64 a1_0, .int .i64 a1_1, .int .i64 a1_2], .cells [.int .u8 a2_0, .int .u8 a2_1]], Hh⟩
def JR5 (a0 : List (List AV)) (a1_0 : Int) (a1_1 : Int) (a1_2 : Int) (a2_0 : Int) (a2_1 : Int) (Q : AV → Heap → Prop) (x75 : Bool) (Hh : Heap) : Prop := AJoin (contK E0 C (E0.L 8) [.seq (codeAt (bodyOf E0 8) [1, 1, 1, 1, 0, 1]) 0, .seq (codeAt (bodyOf E0 8) [1, 1, 1, 1, 1]) 0] (finK E0 8 Q)) ⟨stt 124 [(0, .sl 0 2 a0), (7, .int .i64 a1_0), (8, .int .i64 a1_1), (9, .int .i64 a1_2), (75, .bool x75)], [.cells [.int .i64 a1_0, .int .i64 a1_1, .int .i64 a1_2], .cells [.int .u8 a2_0, .int .u8 a2_1]], Hh⟩
def JR8 (a0 : List (List AV)) (a1_0 : Int) (a1_1 : Int) (a1_2 : Int) (a2_0 : Int) (a2_1 : Int) (Q : AV → Heap → Prop) (x13m : List (List AV)) (x103 : Bool) (Hh : Heap) : Prop := AJoin (contK E0 C (E0.L 8) [.seq (codeAt (bodyOf E0 8) [1, 1, 1, 1, 1, 1, 0, 1]) 0, .seq (codeAt (bodyOf E0 8) [1, 1, 1, 1, 1, 1, 1]) 0] (finK E0 8 Q)) ⟨stt 124 [(0, .sl 0 2 a0), (7, .int .i64 a1_0), (13, .sl 0 2 x13m), (103, .bool x103)], [.cells [.int .i64 a1_0, .int .i64 a1_1, .int .i64 a1_2], .cells [.int .u8 a2_0, .int .u8 a2_1]], Hh⟩
def jR3 (a0 : List (List AV)) (a1_0 : Int) (a1_1 : Int) (a1_2 : Int) (a2_0 : Int) (a2_1 : Int) (Q : AV → Heap → Prop) (x59 : Bool) (Hh : Heap) : Prop :=
  cond x59
  (Q (.bool false) Hh)
  (cond (ltI 30 (lenI a0))
    (JR5 a0 a1_0 a1_1 a1_2 a2_0 a2_1 Q true Hh)
    (C 9 [.sl 0 2 a0] Hh.none fun v_17 H_18 =>
      G ((v_17).isBool) (cond (!((v_17).toBool))
        (JR5 a0 a1_0 a1_1 a1_2 a2_0 a2_1 Q true (Hh.past H_18))
        (cond (ltI a1_0 0)
          (JR5 a0 a1_0 a1_1 a1_2 a2_0 a2_1 Q true (Hh.past H_18))
          (JR5 a0 a1_0 a1_1 a1_2 a2_0 a2_1 Q (leI 7 a1_0) (Hh.past H_18))))))
theorem JR3_eq (a0 : List (List AV)) (a1_0 : Int) (a1_1 : Int) (a1_2 : Int) (a2_0 : Int) (a2_1 : Int) (Q : AV → Heap → Prop) (x59 : Bool) (Hh : Heap) : contK E0 C (E0.L 8) [.seq (codeAt (bodyOf E0 8) [1, 1, 1, 0, 1]) 0, .seq (codeAt (bodyOf E0 8) [1, 1, 1, 1]) 0] (finK E0 8 Q) .normal ⟨stt 124 [(0, .sl 0 2 a0), (7, .int .i64 a1_0), (8, .int .i64 a1_1), (9, .int .i64 a1_2), (59, .bool x59)], [.cells [.int .i64 a1_0, .int .i64 a1_1, .int .i64 a1_2], .cells [.int .u8 a2_0, .int .u8 a2_1]], Hh⟩ = jR3 a0 a1_0 a1_1 a1_2 a2_0 a2_1 Q x59 Hh := by kernel_rfl
theorem JR3_step {a0 : List (List AV)} {a1_0 : Int} {a1_1 : Int} {a1_2 : Int} {a2_0 : Int} {a2_1 : Int} {Q : AV → Heap → Prop} {x59 : Bool} {Hh : Heap} (h : jR3 a0 a1_0 a1_1 a1_2 a2_0 a2_1 Q x59 Hh) : JR3 a0 a1_0 a1_1 a1_2 a2_0 a2_1 Q x59 Hh := ⟨(JR3_eq a0 a1_0 a1_1 a1_2 a2_0 a2_1 Q x59 Hh).mpr h⟩
def jR5 (a0 : List (List AV)) (a1_0 : Int) (a1_1 : Int) (a1_2 : Int) (a2_0 : Int) (a2_1 : Int) (Q : AV → Heap → Prop) (x75 : Bool) (Hh : Heap) : Prop :=
  cond x75
  (C 10 [] Hh.none fun v_19 H_20 =>
    G ((v_19).isBool) (Q (.bool ((v_19).toBool)) (Hh.past H_20)))
  (C 11 [.sl 0 2 a0, .int .i64 a1_0, .int .i64 a1_1] Hh.none fun v_21 H_22 =>
    G ((v_21).isSl 2) (cond (leI 0 a1_2)
      (C 14 [.sl 0 2 ((v_21).slXs), .int .i64 a1_1, .int .i64 a1_2] ((Hh.past H_22).none) fun v_23 H_24 =>
        G ((v_23).isSl 1) (C 27 [.sl 0 1 ((v_23).slXs), .int .i64 a1_0] ((Hh.past H_24).none) fun v_25 H_26 =>
          G ((v_25).isBool) (cond (!((v_25).toBool))
            (JR8 a0 a1_0 a1_1 a1_2 a2_0 a2_1 Q ((v_21).slXs) true (Hh.past H_26))
            (cond (ltI a1_2 0)
              (C 14 [.sl 0 2 ((v_21).slXs), .int .i64 a1_1, .int .i64 a1_2] ((Hh.past H_26).none) fun v_27 H_28 =>
                G ((v_27).isSl 1) (JR8 a0 a1_0 a1_1 a1_2 a2_0 a2_1 Q ((v_21).slXs) (ltI 0 (lenI ((v_27).slXs))) (Hh.past H_28)))
              (JR8 a0 a1_0 a1_1 a1_2 a2_0 a2_1 Q ((v_21).slXs) false (Hh.past H_26))))))
      (cond (ltI a1_2 0)
        (C 14 [.sl 0 2 ((v_21).slXs), .int .i64 a1_1, .int .i64 a1_2] ((Hh.past H_22).none) fun v_29 H_30 =>
          G ((v_29).isSl 1) (JR8 a0 a1_0 a1_1 a1_2 a2_0 a2_1 Q ((v_21).slXs) (ltI 0 (lenI ((v_29).slXs))) (Hh.past H_30)))
        (JR8 a0 a1_0 a1_1 a1_2 a2_0 a2_1 Q ((v_21).slXs) false (Hh.past H_22)))))
theorem JR5_eq (a0 : List (List AV)) (a1_0 : Int) (a1_1 : Int) (a1_2 : Int) (a2_0 : Int) (a2_1 : Int) (Q : AV → Heap → Prop) (x75 : Bool) (Hh : Heap) : contK E0 C (E0.L 8) [.seq (codeAt (bodyOf E0 8) [1, 1, 1, 1, 0, 1]) 0, .seq (codeAt (bodyOf E0 8) [1, 1, 1, 1, 1]) 0] (finK E0 8 Q) .normal ⟨stt 124 [(0, .sl 0 2 a0), (7, .int .i64 a1_0), (8, .int .i64 a1_1), (9, .int .i64 a1_2), (75, .bool x75)], [.cells [.int .i64 a1_0, .int .i64 a1_1, .int .i64 a1_2], .cells [.int .u8 a2_0, .int .u8 a2_1]], Hh⟩ = jR5 a0 a1_0 a1_1 a1_2 a2_0 a2_1 Q x75 Hh := by kernel_rfl
theorem JR5_step {a0 : List (List AV)} {a1_0 : Int} {a1_1 : Int} {a1_2 : Int} {a2_0 : Int} {a2_1 : Int} {Q : AV → Heap → Prop} {x75 : Bool} {Hh : Heap} (h : jR5 a0 a1_0 a1_1 a1_2 a2_0 a2_1 Q x75 Hh) : JR5 a0 a1_0 a1_1 a1_2 a2_0 a2_1 Q x75 Hh := ⟨(JR5_eq a0 a1_0 a1_1 a1_2 a2_0 a2_1 Q x75 Hh).mpr h⟩
def jR8 (a0 : List (List AV)) (a1_0 : Int) (a1_1 : Int) (a1_2 : Int) (a2_0 : Int) (a2_1 : Int) (Q : AV → Heap → Prop) (x13m : List (List AV)) (x103 : Bool) (Hh : Heap) : Prop :=
  cond x103
  (Q (.bool false) Hh)
  (C 28 [.sl 0 2 a0, .int .i64 a1_0] Hh.none fun v_31 H_32 =>
    G ((v_31).isSl 2) (C 28 [.sl 0 2 x13m, .int .i64 a1_0] ((Hh.past H_32).none) fun v_33 H_34 =>
      G ((v_33).isSl 2) (C 12 [.sl 0 2 ((v_31).slXs), .sl 0 2 ((v_33).slXs)] ((Hh.past H_34).none) fun v_35 H_36 =>
        G ((v_35).isBool) (cond ((v_35).toBool)
          (C 28 [.sl 0 2 a0, .int .i64 a1_0] ((Hh.past H_36).none) fun v_37 H_38 =>
            G ((v_37).isSl 2) (cond (eqI (lenI x13m) (addW .i64 (lenI ((v_37).slXs)) 1))
              (C 10 [] ((Hh.past H_38).none) fun v_39 H_40 =>
                G ((v_39).isBool) (Q (.bool ((v_39).toBool)) (Hh.past H_40)))
              (Q (.bool false) (Hh.past H_38))))
          (Q (.bool false) (Hh.past H_36))))))
theorem JR8_eq (a0 : List (List AV)) (a1_0 : Int) (a1_1 : Int) (a1_2 : Int) (a2_0 : Int) (a2_1 : Int) (Q : AV → Heap → Prop) (x13m : List (List AV)) (x103 : Bool) (Hh : Heap) : contK E0 C (E0.L 8) [.seq (codeAt (bodyOf E0 8) [1, 1, 1, 1, 1, 1, 0, 1]) 0, .seq (codeAt (bodyOf E0 8) [1, 1, 1, 1, 1, 1, 1]) 0] (finK E0 8 Q) .normal ⟨stt 124 [(0, .sl 0 2 a0), (7, .int .i64 a1_0), (13, .sl 0 2 x13m), (103, .bool x103)], [.cells [.int .i64 a1_0, .int .i64 a1_1, .int .i64 a1_2], .cells [.int .u8 a2_0, .int .u8 a2_1]], Hh⟩ = jR8 a0 a1_0 a1_1 a1_2 a2_0 a2_1 Q x13m x103 Hh := by kernel_rfl
theorem JR8_step {a0 : List (List AV)} {a1_0 : Int} {a1_1 : Int} {a1_2 : Int} {a2_0 : Int} {a2_1 : Int} {Q : AV → Heap → Prop} {x13m : List (List AV)} {x103 : Bool} {Hh : Heap} (h : jR8 a0 a1_0 a1_1 a1_2 a2_0 a2_1 Q x13m x103 Hh) : JR8 a0 a1_0 a1_1 a1_2 a2_0 a2_1 Q x13m x103 Hh := ⟨(JR8_eq a0 a1_0 a1_1 a1_2 a2_0 a2_1 Q x13m x103 Hh).mpr h⟩
def t (a0 : List (List AV)) (a1_0 : Int) (a1_1 : Int) (a1_2 : Int) (a2_0 : Int) (a2_1 : Int) (H : Heap) (Q : AV → Heap → Prop) : Prop :=
  C 24 [.int .i64 (Int.tmod (IntKind.i64.wrap a2_0) 10), .int .i64 (Int.tmod (IntKind.i64.wrap (Int.tdiv (IntKind.i64.wrap a2_0) 10)) 9)] H.none fun v_1 H_2 =>
  G ((v_1).isBool) (cond ((v_1).toBool)
    (C 24 [.int .i64 (Int.tmod (IntKind.i64.wrap a2_1) 10), .int .i64 (Int.tmod (IntKind.i64.wrap (Int.tdiv (IntKind.i64.wrap a2_0) 10)) 9)] ((H.past H_2).none) fun v_3 H_4 =>
      G ((v_3).isBool) (cond ((v_3).toBool)
        (cond (leI (addW .i64 (Int.tmod (IntKind.i64.wrap a2_0) 10) (Int.tmod (IntKind.i64.wrap a2_1) 10)) (Int.tmod (IntKind.i64.wrap (Int.tdiv (IntKind.i64.wrap a2_0) 10)) 9))
          (JR3 a0 a1_0 a1_1 a1_2 a2_0 a2_1 Q true (H.past H_4))
          (C 24 [.int .i64 (Int.tmod (IntKind.i64.wrap a2_0) 10), .int .i64 (Int.tmod (IntKind.i64.wrap (Int.tdiv (IntKind.i64.wrap a2_0) 10)) 9)] ((H.past H_4).none) fun v_5 H_6 =>
            G ((v_5).isBool) (cond ((v_5).toBool)
              (C 24 [.int .i64 (subW .i64 (Int.tmod (IntKind.i64.wrap (Int.tdiv (IntKind.i64.wrap a2_0) 10)) 9) (Int.tmod (IntKind.i64.wrap a2_0) 10)), .int .i64 (Int.tmod (IntKind.i64.wrap (Int.tdiv (IntKind.i64.wrap a2_0) 10)) 9)] ((H.past H_6).none) fun v_7 H_8 =>
                G ((v_7).isBool) (JR3 a0 a1_0 a1_1 a1_2 a2_0 a2_1 Q ((v_7).toBool) (H.past H_8)))
              (JR3 a0 a1_0 a1_1 a1_2 a2_0 a2_1 Q false (H.past H_6)))))
        (C 24 [.int .i64 (Int.tmod (IntKind.i64.wrap a2_0) 10), .int .i64 (Int.tmod (IntKind.i64.wrap (Int.tdiv (IntKind.i64.wrap a2_0) 10)) 9)] ((H.past H_4).none) fun v_9 H_10 =>
          G ((v_9).isBool) (cond ((v_9).toBool)
            (C 24 [.int .i64 (subW .i64 (Int.tmod (IntKind.i64.wrap (Int.tdiv (IntKind.i64.wrap a2_0) 10)) 9) (Int.tmod (IntKind.i64.wrap a2_0) 10)), .int .i64 (Int.tmod (IntKind.i64.wrap (Int.tdiv (IntKind.i64.wrap a2_0) 10)) 9)] ((H.past H_10).none) fun v_11 H_12 =>
              G ((v_11).isBool) (JR3 a0 a1_0 a1_1 a1_2 a2_0 a2_1 Q ((v_11).toBool) (H.past H_12)))
            (JR3 a0 a1_0 a1_1 a1_2 a2_0 a2_1 Q false (H.past H_10))))))
    (C 24 [.int .i64 (Int.tmod (IntKind.i64.wrap a2_0) 10), .int .i64 (Int.tmod (IntKind.i64.wrap (Int.tdiv (IntKind.i64.wrap a2_0) 10)) 9)] ((H.past H_2).none) fun v_13 H_14 =>
      G ((v_13).isBool) (cond ((v_13).toBool)
        (C 24 [.int .i64 (subW .i64 (Int.tmod (IntKind.i64.wrap (Int.tdiv (IntKind.i64.wrap a2_0) 10)) 9) (Int.tmod (IntKind.i64.wrap a2_0) 10)), .int .i64 (Int.tmod (IntKind.i64.wrap (Int.tdiv (IntKind.i64.wrap a2_0) 10)) 9)] ((H.past H_14).none) fun v_15 H_16 =>
          G ((v_15).isBool) (JR3 a0 a1_0 a1_1 a1_2 a2_0 a2_1 Q ((v_15).toBool) (H.past H_16)))
        (JR3 a0 a1_0 a1_1 a1_2 a2_0 a2_1 Q false (H.past H_14)))))
theorem t_eq (a0 : List (List AV)) (a1_0 : Int) (a1_1 : Int) (a1_2 : Int) (a2_0 : Int) (a2_1 : Int) (H : Heap) (Q : AV → Heap → Prop) : aBody E0 C 8 [.sl 0 2 a0, .agg [.int .i64 a1_0, .int .i64 a1_1, .int .i64 a1_2], .agg [.int .u8 a2_0, .int .u8 a2_1]] H Q = t a0 a1_0 a1_1 a1_2 a2_0 a2_1 H Q := by kernel_rfl
theorem call {a0 : List (List AV)} {a1_0 : Int} {a1_1 : Int} {a1_2 : Int} {a2_0 : Int} {a2_1 : Int} {H : Heap} {Q : AV → Heap → Prop} (h : t a0 a1_0 a1_1 a1_2 a2_0 a2_1 H Q) : C 8 [.sl 0 2 a0, .agg [.int .i64 a1_0, .int .i64 a1_1, .int .i64 a1_2], .agg [.int .u8 a2_0, .int .u8 a2_1]] H Q := Call_intro (E := E0) (by rw [t_eq]; exact h)
end F8
/-! ### broker/brokerref39.InOrder: function 9 -/
namespace F9
def K0 (Q : AV → Heap → Prop) : Ex → St → Prop := (contK E0 C (E0.L 9) [.block 0 0, .seq (codeAt (bodyOf E0 9) [1, 1]) 1] (finK E0 9 Q))
def L0 (a0 : List (List AV)) (Q : AV → Heap → Prop) (x6 : Int) (Hh : Heap) : Prop := ALoop (fun K s => awp E0 C (E0.L 9) (codeAt (bodyOf E0 9) [1, 0, 1, 0, 0]) 1 s K) (clean [(0, 0), (5, 0), (6, 0)] 0) (K0 Q) ⟨stt 26 [(0, .sl 0 2 a0), (5, .int .i64 (lenI a0)), (6, .int .i64 x6)], [], Hh⟩
def r0 (a0 : List (List AV)) (Q : AV → Heap → Prop) (x6 : Int) (Hh : Heap) : Prop :=
  cond (ltI x6 (lenI a0))
  (cond (ltI 0 x6)
    (G (leI 0 x6) (G (ltI x6 (lenI a0)) (G ((ce (ro a0 x6.toNat) 0).isInt .i64) (G (leI 0 (subW .i64 x6 1)) (G (ltI (subW .i64 x6 1) (lenI a0)) (G ((ce (ro a0 ((subW .i64 x6 1).toNat)) 0).isInt .i64) (cond (leI ((ce (ro a0 x6.toNat) 0).toInt) ((ce (ro a0 ((subW .i64 x6 1).toNat)) 0).toInt))
      (Q (.bool false) Hh)
      (L0 a0 Q (addW .i64 x6 1) Hh))))))))
    (L0 a0 Q (addW .i64 x6 1) Hh))
  (Q (.bool true) Hh)
theorem r0_eq (a0 : List (List AV)) (Q : AV → Heap → Prop) (x6 : Int) (Hh : Heap) : (fun K s => awp E0 C (E0.L 9) (codeAt (bodyOf E0 9) [1, 0, 1, 0, 0]) 1 s K) (fun e s' => match e with | .normal => ALoop (fun K s => awp E0 C (E0.L 9) (codeAt (bodyOf E0 9) [1, 0, 1, 0, 0]) 1 s K) (clean [(0, 0), (5, 0), (6, 0)] 0) (K0 Q) ((clean [(0, 0), (5, 0), (6, 0)] 0) s') | e => K0 Q e s') ⟨stt 26 [(0, .sl 0 2 a0), (5, .int .i64 (lenI a0)), (6, .int .i64 x6)], [], Hh⟩ = r0 a0 Q x6 Hh := by kernel_rfl
theorem L0_step {a0 : List (List AV)} {Q : AV → Heap → Prop} {x6 : Int} {Hh : Heap} (h : r0 a0 Q x6 Hh) : L0 a0 Q x6 Hh := ALoop_unfold ((r0_eq a0 Q x6 Hh).mpr h)
def t (a0 : List (List AV)) (H : Heap) (Q : AV → Heap → Prop) : Prop :=
  L0 a0 Q 0 H
theorem t_eq (a0 : List (List AV)) (H : Heap) (Q : AV → Heap → Prop) : aBody E0 C 9 [.sl 0 2 a0] H Q = t a0 H Q := by kernel_rfl
theorem call {a0 : List (List AV)} {H : Heap} {Q : AV → Heap → Prop} (h : t a0 H Q) : C 9 [.sl 0 2 a0] H Q := Call_intro (E := E0) (by rw [t_eq]; exact h)
end F9
/-! ### broker/brokerlaw39.exampleHolds: function 10 -/
namespace F10
def t  (H : Heap) (Q : AV → Heap → Prop) : Prop :=
  C 11 [.sl 0 2 [[.int .i64 1, .int .i64 7], [.int .i64 3, .int .i64 1]], .int .i64 2, .int .i64 5] H.none fun v_1 H_2 =>
  G ((v_1).isSl 2) (C 11 [.sl 0 2 [[.int .i64 1, .int .i64 7], [.int .i64 3, .int .i64 1]], .int .i64 1, .int .i64 5] ((H.past H_2).none) fun v_3 H_4 =>
    G ((v_3).isSl 2) (C 19 [.int .i64 5, .sl 0 2 [[.int .i64 0, .int .i64 3], [.int .i64 4, .int .i64 3]]] ((H.past H_4).none) fun v_5 H_6 =>
      G ((v_5).isSl 1) (C 21 [.sl 0 1 ((v_5).slXs), .int .i64 5] ((H.past H_6).none) fun v_7 H_8 =>
        G ((v_7).isTup && Nat.beq (v_7).tupVs.length 2) (G ((((v_7).tupVs).headD .any).isSl 1) (G (((((v_7).tupVs).tail).headD .any).isBool) (C 19 [.int .i64 4, .sl 0 2 [[.int .i64 0, .int .i64 1], [.int .i64 2, .int .i64 3]]] ((H.past H_8).none) fun v_9 H_10 =>
          G ((v_9).isSl 1) (C 21 [.sl 0 1 ((v_9).slXs), .int .i64 4] ((H.past H_10).none) fun v_11 H_12 =>
            G ((v_11).isTup && Nat.beq (v_11).tupVs.length 2) (G ((((v_11).tupVs).headD .any).isSl 1) (G (((((v_11).tupVs).tail).headD .any).isBool) (C 12 [.sl 0 2 ((v_1).slXs), .sl 0 2 [[.int .i64 1, .int .i64 7], [.int .i64 2, .int .i64 5], [.int .i64 3, .int .i64 1]]] ((H.past H_12).none) fun v_13 H_14 =>
              G ((v_13).isBool) (cond ((v_13).toBool)
                (C 12 [.sl 0 2 ((v_3).slXs), .sl 0 2 [[.int .i64 1, .int .i64 7], [.int .i64 3, .int .i64 1]]] ((H.past H_14).none) fun v_15 H_16 =>
                  G ((v_15).isBool) (cond ((v_15).toBool)
                    (C 14 [.sl 0 2 ((v_1).slXs), .int .i64 8, .int .i64 1] ((H.past H_16).none) fun v_17 H_18 =>
                      G ((v_17).isSl 1) (C 16 [.sl 0 1 ((v_17).slXs), .sl 0 1 [[.int .i64 1]]] ((H.past H_18).none) fun v_19 H_20 =>
                        G ((v_19).isBool) (cond ((v_19).toBool)
                          (C 23 [.sl 0 1 ((v_5).slXs), .sl 0 1 [[.sl 0 1 [[.int .i64 0], [.int .i64 3], [.int .i64 4]]], [.sl 0 1 [[.int .i64 1]]], [.sl 0 1 [[.int .i64 2]]]]] ((H.past H_20).none) fun v_21 H_22 =>
                            G ((v_21).isBool) (cond ((v_21).toBool)
                              (cond (((((v_7).tupVs).tail).headD .any).toBool)
                                (C 16 [.sl 0 1 ((((v_7).tupVs).headD .any).slXs), .sl 0 1 [[.int .i64 0], [.int .i64 3], [.int .i64 4]]] ((H.past H_22).none) fun v_23 H_24 =>
                                  G ((v_23).isBool) (cond ((v_23).toBool)
                                    (cond (!(((((v_11).tupVs).tail).headD .any).toBool))
                                      (C 17 [.sl 0 1 [[.int .i64 5], [.int .i64 1], [.int .i64 5], [.int .i64 0]], .sl 0 1 [[.int .i64 1]]] ((H.past H_24).none) fun v_25 H_26 =>
                                        G ((v_25).isSl 1) (C 16 [.sl 0 1 ((v_25).slXs), .sl 0 1 [[.int .i64 0], [.int .i64 5]]] ((H.past H_26).none) fun v_27 H_28 =>
                                          G ((v_27).isBool) (cond ((v_27).toBool)
                                            (C 24 [.int .i64 2, .int .i64 3] ((H.past H_28).none) fun v_29 H_30 =>
                                              G ((v_29).isBool) (cond ((v_29).toBool)
                                                (C 24 [.int .i64 2, .int .i64 4] ((H.past H_30).none) fun v_31 H_32 =>
                                                  G ((v_31).isBool) (Q (.bool (!((v_31).toBool))) (H.past H_32)))
                                                (Q (.bool false) (H.past H_30))))
                                            (Q (.bool false) (H.past H_28)))))
                                      (Q (.bool false) (H.past H_24)))
                                    (Q (.bool false) (H.past H_24))))
                                (Q (.bool false) (H.past H_22)))
                              (Q (.bool false) (H.past H_22))))
                          (Q (.bool false) (H.past H_20)))))
                    (Q (.bool false) (H.past H_16))))
                (Q (.bool false) (H.past H_14)))))))))))))
theorem t_eq  (H : Heap) (Q : AV → Heap → Prop) : aBody E0 C 10 [] H Q = t  H Q := by kernel_rfl
theorem call  {H : Heap} {Q : AV → Heap → Prop} (h : t  H Q) : C 10 [] H Q := Call_intro (E := E0) (by rw [t_eq]; exact h)
end F10
/-! ### broker/member.Seen: function 11 -/
namespace F11
def t (a0 : List (List AV)) (a1 : Int) (a2 : Int) (H : Heap) (Q : AV → Heap → Prop) : Prop :=
  C 29 [.sl 0 2 a0] H.none fun v_1 H_2 =>
  G ((v_1).isOwn 2) (cond (ltI a1 0)
    (Q (.sl 0 2 ((v_1).slXs)) (H.past H_2))
    (cond (leI 7 a1)
      (Q (.sl 0 2 ((v_1).slXs)) (H.past H_2))
      (C 30 [.sl 0 2 ((v_1).slXs), .int .i64 a1, .fn 31 []] ((H.past H_2).none) fun v_3 H_4 =>
        G ((v_3).isTup && Nat.beq (v_3).tupVs.length 2) (G ((((v_3).tupVs).headD .any).isInt .i64) (G (((((v_3).tupVs).tail).headD .any).isBool) (cond (!(((((v_3).tupVs).tail).headD .any).toBool))
          (ioBack C 33 2 ((v_1).slXs) [.int .i64 ((((v_3).tupVs).headD .any).toInt), .sl 0 2 [[.int .i64 a1, .int .i64 a2]]] (H.past H_4) fun y_5 H_6 =>
            Q (.sl 0 2 y_5) H_6)
          (G (leI 0 ((((v_3).tupVs).headD .any).toInt)) (G (ltI ((((v_3).tupVs).headD .any).toInt) (lenI ((v_1).slXs))) (G ((ce (ro ((v_1).slXs) (((((v_3).tupVs).headD .any).toInt).toNat)) 1).isInt .i64) (G (leI 0 ((((v_3).tupVs).headD .any).toInt)) (G (ltI ((((v_3).tupVs).headD .any).toInt) (lenI ((v_1).slXs))) (Q (.sl 0 2 (((v_1).slXs).set (((((v_3).tupVs).headD .any).toInt).toNat) ((ro ((v_1).slXs) (((((v_3).tupVs).headD .any).toInt).toNat)).set 1 (.int .i64 (cond (ltI ((ce (ro ((v_1).slXs) (((((v_3).tupVs).headD .any).toInt).toNat)) 1).toInt) a2) a2 ((ce (ro ((v_1).slXs) (((((v_3).tupVs).headD .any).toInt).toNat)) 1).toInt)))))) (H.past H_4)))))))))))))
theorem t_eq (a0 : List (List AV)) (a1 : Int) (a2 : Int) (H : Heap) (Q : AV → Heap → Prop) : aBody E0 C 11 [.sl 0 2 a0, .int .i64 a1, .int .i64 a2] H Q = t a0 a1 a2 H Q := by kernel_rfl
theorem call {a0 : List (List AV)} {a1 : Int} {a2 : Int} {H : Heap} {Q : AV → Heap → Prop} (h : t a0 a1 a2 H Q) : C 11 [.sl 0 2 a0, .int .i64 a1, .int .i64 a2] H Q := Call_intro (E := E0) (by rw [t_eq]; exact h)
end F11
/-! ### slices.Equal[[]broker/api.Peer,broker/api.Peer]: function 12 -/
namespace F12
def K0 (Q : AV → Heap → Prop) : Ex → St → Prop := (contK E0 C (E0.L 12) [.block 0 0, .seq (codeAt (bodyOf E0 12) [1, 1, 1]) 1] (finK E0 12 Q))
def L0 (a0 : List (List AV)) (a1 : List (List AV)) (Q : AV → Heap → Prop) (x13 : Int) (Hh : Heap) : Prop := ALoop (fun K s => awp E0 C (E0.L 12) (codeAt (bodyOf E0 12) [1, 1, 0, 1, 0, 0]) 1 s K) (clean [(0, 0), (1, 0), (12, 0), (13, 0)] 0) (K0 Q) ⟨stt 26 [(0, .sl 0 2 a0), (1, .sl 0 2 a1), (12, .int .i64 (lenI a0)), (13, .int .i64 x13)], [], Hh⟩
def r0 (a0 : List (List AV)) (a1 : List (List AV)) (Q : AV → Heap → Prop) (x13 : Int) (Hh : Heap) : Prop :=
  cond (ltI x13 (lenI a0))
  (G (leI 0 x13) (G (ltI x13 (lenI a0)) (G ((ce (ro a0 x13.toNat) 0).isInt .i64) (G ((ce (ro a0 x13.toNat) 1).isInt .i64) (G (leI 0 x13) (G (ltI x13 (lenI a1)) (G ((ce (ro a1 x13.toNat) 0).isInt .i64) (G ((ce (ro a1 x13.toNat) 1).isInt .i64) (cond (!((eqI ((ce (ro a0 x13.toNat) 0).toInt) ((ce (ro a1 x13.toNat) 0).toInt)) && ((eqI ((ce (ro a0 x13.toNat) 1).toInt) ((ce (ro a1 x13.toNat) 1).toInt)) && true)))
    (Q (.bool false) Hh)
    (L0 a0 a1 Q (addW .i64 x13 1) Hh))))))))))
  (Q (.bool true) Hh)
theorem r0_eq (a0 : List (List AV)) (a1 : List (List AV)) (Q : AV → Heap → Prop) (x13 : Int) (Hh : Heap) : (fun K s => awp E0 C (E0.L 12) (codeAt (bodyOf E0 12) [1, 1, 0, 1, 0, 0]) 1 s K) (fun e s' => match e with | .normal => ALoop (fun K s => awp E0 C (E0.L 12) (codeAt (bodyOf E0 12) [1, 1, 0, 1, 0, 0]) 1 s K) (clean [(0, 0), (1, 0), (12, 0), (13, 0)] 0) (K0 Q) ((clean [(0, 0), (1, 0), (12, 0), (13, 0)] 0) s') | e => K0 Q e s') ⟨stt 26 [(0, .sl 0 2 a0), (1, .sl 0 2 a1), (12, .int .i64 (lenI a0)), (13, .int .i64 x13)], [], Hh⟩ = r0 a0 a1 Q x13 Hh := by kernel_rfl
theorem L0_step {a0 : List (List AV)} {a1 : List (List AV)} {Q : AV → Heap → Prop} {x13 : Int} {Hh : Heap} (h : r0 a0 a1 Q x13 Hh) : L0 a0 a1 Q x13 Hh := ALoop_unfold ((r0_eq a0 a1 Q x13 Hh).mpr h)
def t (a0 : List (List AV)) (a1 : List (List AV)) (H : Heap) (Q : AV → Heap → Prop) : Prop :=
  cond (!(eqI (lenI a0) (lenI a1)))
  (Q (.bool false) H)
  (L0 a0 a1 Q 0 H)
theorem t_eq (a0 : List (List AV)) (a1 : List (List AV)) (H : Heap) (Q : AV → Heap → Prop) : aBody E0 C 12 [.sl 0 2 a0, .sl 0 2 a1] H Q = t a0 a1 H Q := by kernel_rfl
theorem call {a0 : List (List AV)} {a1 : List (List AV)} {H : Heap} {Q : AV → Heap → Prop} (h : t a0 a1 H Q) : C 12 [.sl 0 2 a0, .sl 0 2 a1] H Q := Call_intro (E := E0) (by rw [t_eq]; exact h)
end F12
/-! ### broker/brokerref39.Seen: function 13 -/
namespace F13
def K0 (Q : AV → Heap → Prop) : Ex → St → Prop := (contK E0 C (E0.L 13) [.block 0 0, .seq (codeAt (bodyOf E0 13) [1, 1, 1, 1, 1]) 1] (finK E0 13 Q))
def L0 (a0 : List (List AV)) (a1 : Int) (a2 : Int) (Q : AV → Heap → Prop) (x7out : List (List AV)) (x8at : Int) (Hh : Heap) : Prop := ALoop (fun K s => awp E0 C (E0.L 13) (codeAt (bodyOf E0 13) [1, 1, 1, 1, 0, 0, 0]) 1 s K) (clean [(1, 0), (2, 0), (7, 0), (8, 0)] 0) (K0 Q) ⟨stt 65 [(1, .int .i64 a1), (2, .int .i64 a2), (7, .sl 1 2 x7out), (8, .int .i64 x8at)], [], Hh⟩
def r0 (a0 : List (List AV)) (a1 : Int) (a2 : Int) (Q : AV → Heap → Prop) (x7out : List (List AV)) (x8at : Int) (Hh : Heap) : Prop :=
  cond (ltI x8at (lenI x7out))
  (G (leI 0 x8at) (G (ltI x8at (lenI x7out)) (G ((ce (ro x7out x8at.toNat) 0).isInt .i64) (cond (ltI ((ce (ro x7out x8at.toNat) 0).toInt) a1)
    (L0 a0 a1 a2 Q x7out (addW .i64 x8at 1) Hh)
    (cond (ltI x8at (lenI x7out))
      (G (leI 0 x8at) (G (ltI x8at (lenI x7out)) (G ((ce (ro x7out x8at.toNat) 0).isInt .i64) (cond (eqI ((ce (ro x7out x8at.toNat) 0).toInt) a1)
        (G (leI 0 x8at) (G (ltI x8at (lenI x7out)) (G ((ce (ro x7out x8at.toNat) 1).isInt .i64) (G (leI 0 x8at) (G (ltI x8at (lenI x7out)) (Q (.sl 0 2 (x7out.set x8at.toNat ((ro x7out x8at.toNat).set 1 (.int .i64 (cond (ltI ((ce (ro x7out x8at.toNat) 1).toInt) a2) a2 ((ce (ro x7out x8at.toNat) 1).toInt)))))) Hh))))))
        (ioBack C 33 2 x7out [.int .i64 x8at, .sl 0 2 [[.int .i64 a1, .int .i64 a2]]] Hh fun y_3 H_4 =>
          Q (.sl 0 2 y_3) H_4)))))
      (ioBack C 33 2 x7out [.int .i64 x8at, .sl 0 2 [[.int .i64 a1, .int .i64 a2]]] Hh fun y_5 H_6 =>
        Q (.sl 0 2 y_5) H_6))))))
  (cond (ltI x8at (lenI x7out))
    (G (leI 0 x8at) (G (ltI x8at (lenI x7out)) (G ((ce (ro x7out x8at.toNat) 0).isInt .i64) (cond (eqI ((ce (ro x7out x8at.toNat) 0).toInt) a1)
      (G (leI 0 x8at) (G (ltI x8at (lenI x7out)) (G ((ce (ro x7out x8at.toNat) 1).isInt .i64) (G (leI 0 x8at) (G (ltI x8at (lenI x7out)) (Q (.sl 0 2 (x7out.set x8at.toNat ((ro x7out x8at.toNat).set 1 (.int .i64 (cond (ltI ((ce (ro x7out x8at.toNat) 1).toInt) a2) a2 ((ce (ro x7out x8at.toNat) 1).toInt)))))) Hh))))))
      (ioBack C 33 2 x7out [.int .i64 x8at, .sl 0 2 [[.int .i64 a1, .int .i64 a2]]] Hh fun y_7 H_8 =>
        Q (.sl 0 2 y_7) H_8)))))
    (ioBack C 33 2 x7out [.int .i64 x8at, .sl 0 2 [[.int .i64 a1, .int .i64 a2]]] Hh fun y_9 H_10 =>
      Q (.sl 0 2 y_9) H_10))
theorem r0_eq (a0 : List (List AV)) (a1 : Int) (a2 : Int) (Q : AV → Heap → Prop) (x7out : List (List AV)) (x8at : Int) (Hh : Heap) : (fun K s => awp E0 C (E0.L 13) (codeAt (bodyOf E0 13) [1, 1, 1, 1, 0, 0, 0]) 1 s K) (fun e s' => match e with | .normal => ALoop (fun K s => awp E0 C (E0.L 13) (codeAt (bodyOf E0 13) [1, 1, 1, 1, 0, 0, 0]) 1 s K) (clean [(1, 0), (2, 0), (7, 0), (8, 0)] 0) (K0 Q) ((clean [(1, 0), (2, 0), (7, 0), (8, 0)] 0) s') | e => K0 Q e s') ⟨stt 65 [(1, .int .i64 a1), (2, .int .i64 a2), (7, .sl 1 2 x7out), (8, .int .i64 x8at)], [], Hh⟩ = r0 a0 a1 a2 Q x7out x8at Hh := by kernel_rfl
theorem L0_step {a0 : List (List AV)} {a1 : Int} {a2 : Int} {Q : AV → Heap → Prop} {x7out : List (List AV)} {x8at : Int} {Hh : Heap} (h : r0 a0 a1 a2 Q x7out x8at Hh) : L0 a0 a1 a2 Q x7out x8at Hh := ALoop_unfold ((r0_eq a0 a1 a2 Q x7out x8at Hh).mpr h)
def t (a0 : List (List AV)) (a1 : Int) (a2 : Int) (H : Heap) (Q : AV → Heap → Prop) : Prop :=
  C 29 [.sl 0 2 a0] H.none fun v_1 H_2 =>
  G ((v_1).isOwn 2) (cond (ltI a1 0)
    (Q (.sl 0 2 ((v_1).slXs)) (H.past H_2))
    (cond (leI 7 a1)
      (Q (.sl 0 2 ((v_1).slXs)) (H.past H_2))
      (L0 a0 a1 a2 Q ((v_1).slXs) 0 (H.past H_2))))
theorem t_eq (a0 : List (List AV)) (a1 : Int) (a2 : Int) (H : Heap) (Q : AV → Heap → Prop) : aBody E0 C 13 [.sl 0 2 a0, .int .i64 a1, .int .i64 a2] H Q = t a0 a1 a2 H Q := by kernel_rfl
theorem call {a0 : List (List AV)} {a1 : Int} {a2 : Int} {H : Heap} {Q : AV → Heap → Prop} (h : t a0 a1 a2 H Q) : C 13 [.sl 0 2 a0, .int .i64 a1, .int .i64 a2] H Q := Call_intro (E := E0) (by rw [t_eq]; exact h)
end F13
/-! ### broker/member.Alive: function 14 -/
namespace F14
def K0 (Q : AV → Heap → Prop) : Ex → St → Prop := (contK E0 C (E0.L 14) [.block 0 0, .seq (codeAt (bodyOf E0 14) [1, 1, 1]) 1] (finK E0 14 Q))
def L0 (a0 : List (List AV)) (a1 : Int) (a2 : Int) (Q : AV → Heap → Prop) (x7out : List (List AV)) (x12 : Int) (Hh : Heap) : Prop := ALoop (fun K s => awp E0 C (E0.L 14) (codeAt (bodyOf E0 14) [1, 1, 0, 1, 0, 0]) 1 s K) (clean [(1, 0), (2, 0), (7, 3), (10, 0), (11, 0), (12, 0)] 0) (K0 Q) ⟨stt 43 [(1, .int .i64 a1), (2, .int .i64 a2), (7, .sl 1 1 x7out), (10, .sl 0 2 a0), (11, .int .i64 (lenI a0)), (12, .int .i64 x12)], [], Hh⟩
def JR5 (a0 : List (List AV)) (a1 : Int) (a2 : Int) (Q : AV → Heap → Prop) (x7out : List (List AV)) (x12 : Int) (x34 : Bool) (m0_0 : Int) (m0_1 : Int) (Hh : Heap) : Prop := AJoin (contK E0 C (E0.L 14) [.seq (codeAt (bodyOf E0 14) [1, 1, 0, 1, 0, 0, 1, 1, 0, 0, 1, 1]) 1, .block 1 0, .seq (codeAt (bodyOf E0 14) [1, 1, 0, 1, 0, 0, 1, 1, 1]) 1, .loop (codeAt (bodyOf E0 14) [1, 1, 0, 1, 0, 0]) 1 [(1, 0), (2, 0), (7, 3), (10, 0), (11, 0), (12, 0)] 0, .block 0 0, .seq (codeAt (bodyOf E0 14) [1, 1, 1]) 1] (finK E0 14 Q)) ⟨stt 43 [(1, .int .i64 a1), (2, .int .i64 a2), (7, .sl 1 1 x7out), (9, .ptr 0 0), (10, .sl 0 2 a0), (11, .int .i64 (lenI a0)), (12, .int .i64 x12), (34, .bool x34)], [.cells [.int .i64 m0_0, .int .i64 m0_1]], Hh⟩
def r0 (a0 : List (List AV)) (a1 : Int) (a2 : Int) (Q : AV → Heap → Prop) (x7out : List (List AV)) (x12 : Int) (Hh : Heap) : Prop :=
  cond (ltI x12 (lenI a0))
  (G (leI 0 x12) (G (ltI x12 (lenI a0)) (G ((ce (ro a0 x12.toNat) 0).isInt .i64) (G ((ce (ro a0 x12.toNat) 1).isInt .i64) (cond (leI 0 a2)
    (cond (leI a1 ((ce (ro a0 x12.toNat) 1).toInt))
      (JR5 a0 a1 a2 Q x7out x12 true ((ce (ro a0 x12.toNat) 0).toInt) ((ce (ro a0 x12.toNat) 1).toInt) Hh)
      (JR5 a0 a1 a2 Q x7out x12 (leI (subW .u64 (IntKind.u64.wrap a1) (IntKind.u64.wrap ((ce (ro a0 x12.toNat) 1).toInt))) (IntKind.u64.wrap a2)) ((ce (ro a0 x12.toNat) 0).toInt) ((ce (ro a0 x12.toNat) 1).toInt) Hh))
    (JR5 a0 a1 a2 Q x7out x12 false ((ce (ro a0 x12.toNat) 0).toInt) ((ce (ro a0 x12.toNat) 1).toInt) Hh))))))
  (ioBack C 34 1 x7out [] Hh fun y_1 H_2 =>
    Q (.sl 0 1 y_1) H_2)
theorem r0_eq (a0 : List (List AV)) (a1 : Int) (a2 : Int) (Q : AV → Heap → Prop) (x7out : List (List AV)) (x12 : Int) (Hh : Heap) : (fun K s => awp E0 C (E0.L 14) (codeAt (bodyOf E0 14) [1, 1, 0, 1, 0, 0]) 1 s K) (fun e s' => match e with | .normal => ALoop (fun K s => awp E0 C (E0.L 14) (codeAt (bodyOf E0 14) [1, 1, 0, 1, 0, 0]) 1 s K) (clean [(1, 0), (2, 0), (7, 3), (10, 0), (11, 0), (12, 0)] 0) (K0 Q) ((clean [(1, 0), (2, 0), (7, 3), (10, 0), (11, 0), (12, 0)] 0) s') | e => K0 Q e s') ⟨stt 43 [(1, .int .i64 a1), (2, .int .i64 a2), (7, .sl 1 1 x7out), (10, .sl 0 2 a0), (11, .int .i64 (lenI a0)), (12, .int .i64 x12)], [], Hh⟩ = r0 a0 a1 a2 Q x7out x12 Hh := by kernel_rfl
theorem L0_step {a0 : List (List AV)} {a1 : Int} {a2 : Int} {Q : AV → Heap → Prop} {x7out : List (List AV)} {x12 : Int} {Hh : Heap} (h : r0 a0 a1 a2 Q x7out x12 Hh) : L0 a0 a1 a2 Q x7out x12 Hh := ALoop_unfold ((r0_eq a0 a1 a2 Q x7out x12 Hh).mpr h)
def jR5 (a0 : List (List AV)) (a1 : Int) (a2 : Int) (Q : AV → Heap → Prop) (x7out : List (List AV)) (x12 : Int) (x34 : Bool) (m0_0 : Int) (m0_1 : Int) (Hh : Heap) : Prop :=
  cond x34
  (G (room x7out [[.int .i64 m0_0]] 8) (L0 a0 a1 a2 Q (x7out ++ [[.int .i64 m0_0]]) (addW .i64 x12 1) Hh))
  (L0 a0 a1 a2 Q x7out (addW .i64 x12 1) Hh)
theorem JR5_eq (a0 : List (List AV)) (a1 : Int) (a2 : Int) (Q : AV → Heap → Prop) (x7out : List (List AV)) (x12 : Int) (x34 : Bool) (m0_0 : Int) (m0_1 : Int) (Hh : Heap) : contK E0 C (E0.L 14) [.seq (codeAt (bodyOf E0 14) [1, 1, 0, 1, 0, 0, 1, 1, 0, 0, 1, 1]) 1, .block 1 0, .seq (codeAt (bodyOf E0 14) [1, 1, 0, 1, 0, 0, 1, 1, 1]) 1, .loop (codeAt (bodyOf E0 14) [1, 1, 0, 1, 0, 0]) 1 [(1, 0), (2, 0), (7, 3), (10, 0), (11, 0), (12, 0)] 0, .block 0 0, .seq (codeAt (bodyOf E0 14) [1, 1, 1]) 1] (finK E0 14 Q) .normal ⟨stt 43 [(1, .int .i64 a1), (2, .int .i64 a2), (7, .sl 1 1 x7out), (9, .ptr 0 0), (10, .sl 0 2 a0), (11, .int .i64 (lenI a0)), (12, .int .i64 x12), (34, .bool x34)], [.cells [.int .i64 m0_0, .int .i64 m0_1]], Hh⟩ = jR5 a0 a1 a2 Q x7out x12 x34 m0_0 m0_1 Hh := by kernel_rfl
theorem JR5_step {a0 : List (List AV)} {a1 : Int} {a2 : Int} {Q : AV → Heap → Prop} {x7out : List (List AV)} {x12 : Int} {x34 : Bool} {m0_0 : Int} {m0_1 : Int} {Hh : Heap} (h : jR5 a0 a1 a2 Q x7out x12 x34 m0_0 m0_1 Hh) : JR5 a0 a1 a2 Q x7out x12 x34 m0_0 m0_1 Hh := ⟨(JR5_eq a0 a1 a2 Q x7out x12 x34 m0_0 m0_1 Hh).mpr h⟩
def t (a0 : List (List AV)) (a1 : Int) (a2 : Int) (H : Heap) (Q : AV → Heap → Prop) : Prop :=
  L0 a0 a1 a2 Q [] 0 H
theorem t_eq (a0 : List (List AV)) (a1 : Int) (a2 : Int) (H : Heap) (Q : AV → Heap → Prop) : aBody E0 C 14 [.sl 0 2 a0, .int .i64 a1, .int .i64 a2] H Q = t a0 a1 a2 H Q := by kernel_rfl
theorem call {a0 : List (List AV)} {a1 : Int} {a2 : Int} {H : Heap} {Q : AV → Heap → Prop} (h : t a0 a1 a2 H Q) : C 14 [.sl 0 2 a0, .int .i64 a1, .int .i64 a2] H Q := Call_intro (E := E0) (by rw [t_eq]; exact h)
end F14
/-! ### broker/brokerref39.Alive: function 15 -/
namespace F15
def K0 (Q : AV → Heap → Prop) : Ex → St → Prop := (contK E0 C (E0.L 15) [.block 0 0, .seq (codeAt (bodyOf E0 15) [1, 1, 1]) 1] (finK E0 15 Q))
def L0 (a0 : List (List AV)) (a1 : Int) (a2 : Int) (Q : AV → Heap → Prop) (x7out : List (List AV)) (x12 : Int) (Hh : Heap) : Prop := ALoop (fun K s => awp E0 C (E0.L 15) (codeAt (bodyOf E0 15) [1, 1, 0, 1, 0, 0]) 1 s K) (clean [(1, 0), (2, 0), (7, 3), (10, 0), (11, 0), (12, 0)] 0) (K0 Q) ⟨stt 43 [(1, .int .i64 a1), (2, .int .i64 a2), (7, .sl 1 1 x7out), (10, .sl 0 2 a0), (11, .int .i64 (lenI a0)), (12, .int .i64 x12)], [], Hh⟩
def JR5 (a0 : List (List AV)) (a1 : Int) (a2 : Int) (Q : AV → Heap → Prop) (x7out : List (List AV)) (x12 : Int) (x34 : Bool) (m0_0 : Int) (m0_1 : Int) (Hh : Heap) : Prop := AJoin (contK E0 C (E0.L 15) [.seq (codeAt (bodyOf E0 15) [1, 1, 0, 1, 0, 0, 1, 1, 0, 0, 1, 1]) 1, .block 1 0, .seq (codeAt (bodyOf E0 15) [1, 1, 0, 1, 0, 0, 1, 1, 1]) 1, .loop (codeAt (bodyOf E0 15) [1, 1, 0, 1, 0, 0]) 1 [(1, 0), (2, 0), (7, 3), (10, 0), (11, 0), (12, 0)] 0, .block 0 0, .seq (codeAt (bodyOf E0 15) [1, 1, 1]) 1] (finK E0 15 Q)) ⟨stt 43 [(1, .int .i64 a1), (2, .int .i64 a2), (7, .sl 1 1 x7out), (9, .ptr 0 0), (10, .sl 0 2 a0), (11, .int .i64 (lenI a0)), (12, .int .i64 x12), (34, .bool x34)], [.cells [.int .i64 m0_0, .int .i64 m0_1]], Hh⟩
def r0 (a0 : List (List AV)) (a1 : Int) (a2 : Int) (Q : AV → Heap → Prop) (x7out : List (List AV)) (x12 : Int) (Hh : Heap) : Prop :=
  cond (ltI x12 (lenI a0))
  (G (leI 0 x12) (G (ltI x12 (lenI a0)) (G ((ce (ro a0 x12.toNat) 0).isInt .i64) (G ((ce (ro a0 x12.toNat) 1).isInt .i64) (cond (leI 0 a2)
    (cond (leI a1 ((ce (ro a0 x12.toNat) 1).toInt))
      (JR5 a0 a1 a2 Q x7out x12 true ((ce (ro a0 x12.toNat) 0).toInt) ((ce (ro a0 x12.toNat) 1).toInt) Hh)
      (JR5 a0 a1 a2 Q x7out x12 (leI (subW .u64 (IntKind.u64.wrap a1) (IntKind.u64.wrap ((ce (ro a0 x12.toNat) 1).toInt))) (IntKind.u64.wrap a2)) ((ce (ro a0 x12.toNat) 0).toInt) ((ce (ro a0 x12.toNat) 1).toInt) Hh))
    (JR5 a0 a1 a2 Q x7out x12 false ((ce (ro a0 x12.toNat) 0).toInt) ((ce (ro a0 x12.toNat) 1).toInt) Hh))))))
  (C 35 [.sl 0 1 x7out] Hh.none fun v_1 H_2 =>
    G ((v_1).isSl 1) (Q (.sl 0 1 ((v_1).slXs)) (Hh.past H_2)))
theorem r0_eq (a0 : List (List AV)) (a1 : Int) (a2 : Int) (Q : AV → Heap → Prop) (x7out : List (List AV)) (x12 : Int) (Hh : Heap) : (fun K s => awp E0 C (E0.L 15) (codeAt (bodyOf E0 15) [1, 1, 0, 1, 0, 0]) 1 s K) (fun e s' => match e with | .normal => ALoop (fun K s => awp E0 C (E0.L 15) (codeAt (bodyOf E0 15) [1, 1, 0, 1, 0, 0]) 1 s K) (clean [(1, 0), (2, 0), (7, 3), (10, 0), (11, 0), (12, 0)] 0) (K0 Q) ((clean [(1, 0), (2, 0), (7, 3), (10, 0), (11, 0), (12, 0)] 0) s') | e => K0 Q e s') ⟨stt 43 [(1, .int .i64 a1), (2, .int .i64 a2), (7, .sl 1 1 x7out), (10, .sl 0 2 a0), (11, .int .i64 (lenI a0)), (12, .int .i64 x12)], [], Hh⟩ = r0 a0 a1 a2 Q x7out x12 Hh := by kernel_rfl
theorem L0_step {a0 : List (List AV)} {a1 : Int} {a2 : Int} {Q : AV → Heap → Prop} {x7out : List (List AV)} {x12 : Int} {Hh : Heap} (h : r0 a0 a1 a2 Q x7out x12 Hh) : L0 a0 a1 a2 Q x7out x12 Hh := ALoop_unfold ((r0_eq a0 a1 a2 Q x7out x12 Hh).mpr h)
def jR5 (a0 : List (List AV)) (a1 : Int) (a2 : Int) (Q : AV → Heap → Prop) (x7out : List (List AV)) (x12 : Int) (x34 : Bool) (m0_0 : Int) (m0_1 : Int) (Hh : Heap) : Prop :=
  cond x34
  (G (room x7out [[.int .i64 m0_0]] 8) (L0 a0 a1 a2 Q (x7out ++ [[.int .i64 m0_0]]) (addW .i64 x12 1) Hh))
  (L0 a0 a1 a2 Q x7out (addW .i64 x12 1) Hh)
theorem JR5_eq (a0 : List (List AV)) (a1 : Int) (a2 : Int) (Q : AV → Heap → Prop) (x7out : List (List AV)) (x12 : Int) (x34 : Bool) (m0_0 : Int) (m0_1 : Int) (Hh : Heap) : contK E0 C (E0.L 15) [.seq (codeAt (bodyOf E0 15) [1, 1, 0, 1, 0, 0, 1, 1, 0, 0, 1, 1]) 1, .block 1 0, .seq (codeAt (bodyOf E0 15) [1, 1, 0, 1, 0, 0, 1, 1, 1]) 1, .loop (codeAt (bodyOf E0 15) [1, 1, 0, 1, 0, 0]) 1 [(1, 0), (2, 0), (7, 3), (10, 0), (11, 0), (12, 0)] 0, .block 0 0, .seq (codeAt (bodyOf E0 15) [1, 1, 1]) 1] (finK E0 15 Q) .normal ⟨stt 43 [(1, .int .i64 a1), (2, .int .i64 a2), (7, .sl 1 1 x7out), (9, .ptr 0 0), (10, .sl 0 2 a0), (11, .int .i64 (lenI a0)), (12, .int .i64 x12), (34, .bool x34)], [.cells [.int .i64 m0_0, .int .i64 m0_1]], Hh⟩ = jR5 a0 a1 a2 Q x7out x12 x34 m0_0 m0_1 Hh := by kernel_rfl
theorem JR5_step {a0 : List (List AV)} {a1 : Int} {a2 : Int} {Q : AV → Heap → Prop} {x7out : List (List AV)} {x12 : Int} {x34 : Bool} {m0_0 : Int} {m0_1 : Int} {Hh : Heap} (h : jR5 a0 a1 a2 Q x7out x12 x34 m0_0 m0_1 Hh) : JR5 a0 a1 a2 Q x7out x12 x34 m0_0 m0_1 Hh := ⟨(JR5_eq a0 a1 a2 Q x7out x12 x34 m0_0 m0_1 Hh).mpr h⟩
def t (a0 : List (List AV)) (a1 : Int) (a2 : Int) (H : Heap) (Q : AV → Heap → Prop) : Prop :=
  L0 a0 a1 a2 Q [] 0 H
theorem t_eq (a0 : List (List AV)) (a1 : Int) (a2 : Int) (H : Heap) (Q : AV → Heap → Prop) : aBody E0 C 15 [.sl 0 2 a0, .int .i64 a1, .int .i64 a2] H Q = t a0 a1 a2 H Q := by kernel_rfl
theorem call {a0 : List (List AV)} {a1 : Int} {a2 : Int} {H : Heap} {Q : AV → Heap → Prop} (h : t a0 a1 a2 H Q) : C 15 [.sl 0 2 a0, .int .i64 a1, .int .i64 a2] H Q := Call_intro (E := E0) (by rw [t_eq]; exact h)
end F15
/-! ### slices.Equal[[]int,int]: function 16 -/
namespace F16
def K0 (Q : AV → Heap → Prop) : Ex → St → Prop := (contK E0 C (E0.L 16) [.block 0 0, .seq (codeAt (bodyOf E0 16) [1, 1, 1]) 1] (finK E0 16 Q))
def L0 (a0 : List (List AV)) (a1 : List (List AV)) (Q : AV → Heap → Prop) (x13 : Int) (Hh : Heap) : Prop := ALoop (fun K s => awp E0 C (E0.L 16) (codeAt (bodyOf E0 16) [1, 1, 0, 1, 0, 0]) 1 s K) (clean [(0, 0), (1, 0), (12, 0), (13, 0)] 0) (K0 Q) ⟨stt 26 [(0, .sl 0 1 a0), (1, .sl 0 1 a1), (12, .int .i64 (lenI a0)), (13, .int .i64 x13)], [], Hh⟩
def r0 (a0 : List (List AV)) (a1 : List (List AV)) (Q : AV → Heap → Prop) (x13 : Int) (Hh : Heap) : Prop :=
  cond (ltI x13 (lenI a0))
  (G (leI 0 x13) (G (ltI x13 (lenI a0)) (G ((ce (ro a0 x13.toNat) 0).isInt .i64) (G (leI 0 x13) (G (ltI x13 (lenI a1)) (G ((ce (ro a1 x13.toNat) 0).isInt .i64) (cond (!(eqI ((ce (ro a0 x13.toNat) 0).toInt) ((ce (ro a1 x13.toNat) 0).toInt)))
    (Q (.bool false) Hh)
    (L0 a0 a1 Q (addW .i64 x13 1) Hh))))))))
  (Q (.bool true) Hh)
theorem r0_eq (a0 : List (List AV)) (a1 : List (List AV)) (Q : AV → Heap → Prop) (x13 : Int) (Hh : Heap) : (fun K s => awp E0 C (E0.L 16) (codeAt (bodyOf E0 16) [1, 1, 0, 1, 0, 0]) 1 s K) (fun e s' => match e with | .normal => ALoop (fun K s => awp E0 C (E0.L 16) (codeAt (bodyOf E0 16) [1, 1, 0, 1, 0, 0]) 1 s K) (clean [(0, 0), (1, 0), (12, 0), (13, 0)] 0) (K0 Q) ((clean [(0, 0), (1, 0), (12, 0), (13, 0)] 0) s') | e => K0 Q e s') ⟨stt 26 [(0, .sl 0 1 a0), (1, .sl 0 1 a1), (12, .int .i64 (lenI a0)), (13, .int .i64 x13)], [], Hh⟩ = r0 a0 a1 Q x13 Hh := by kernel_rfl
theorem L0_step {a0 : List (List AV)} {a1 : List (List AV)} {Q : AV → Heap → Prop} {x13 : Int} {Hh : Heap} (h : r0 a0 a1 Q x13 Hh) : L0 a0 a1 Q x13 Hh := ALoop_unfold ((r0_eq a0 a1 Q x13 Hh).mpr h)
def t (a0 : List (List AV)) (a1 : List (List AV)) (H : Heap) (Q : AV → Heap → Prop) : Prop :=
  cond (!(eqI (lenI a0) (lenI a1)))
  (Q (.bool false) H)
  (L0 a0 a1 Q 0 H)
theorem t_eq (a0 : List (List AV)) (a1 : List (List AV)) (H : Heap) (Q : AV → Heap → Prop) : aBody E0 C 16 [.sl 0 1 a0, .sl 0 1 a1] H Q = t a0 a1 H Q := by kernel_rfl
theorem call {a0 : List (List AV)} {a1 : List (List AV)} {H : Heap} {Q : AV → Heap → Prop} (h : t a0 a1 H Q) : C 16 [.sl 0 1 a0, .sl 0 1 a1] H Q := Call_intro (E := E0) (by rw [t_eq]; exact h)
end F16
/-! ### broker/member.Heirs: function 17 -/
namespace F17
def K0 (Q : AV → Heap → Prop) : Ex → St → Prop := (contK E0 C (E0.L 17) [.block 0 0, .seq (codeAt (bodyOf E0 17) [1, 1, 1]) 1] (finK E0 17 Q))
def L0 (a0 : List (List AV)) (a1 : List (List AV)) (Q : AV → Heap → Prop) (x5out : List (List AV)) (x10 : Int) (Hh : Heap) : Prop := ALoop (fun K s => awp E0 C (E0.L 17) (codeAt (bodyOf E0 17) [1, 1, 0, 1, 0, 0]) 1 s K) (clean [(1, 0), (5, 3), (8, 0), (9, 0), (10, 0)] 0) (K0 Q) ⟨stt 25 [(1, .sl 0 1 a1), (5, .sl 1 1 x5out), (8, .sl 0 1 a0), (9, .int .i64 (lenI a0)), (10, .int .i64 x10)], [], Hh⟩
def r0 (a0 : List (List AV)) (a1 : List (List AV)) (Q : AV → Heap → Prop) (x5out : List (List AV)) (x10 : Int) (Hh : Heap) : Prop :=
  cond (ltI x10 (lenI a0))
  (G (leI 0 x10) (G (ltI x10 (lenI a0)) (G ((ce (ro a0 x10.toNat) 0).isInt .i64) (C 27 [.sl 0 1 a1, .int .i64 ((ce (ro a0 x10.toNat) 0).toInt)] Hh.none fun v_1 H_2 =>
    G ((v_1).isBool) (cond (!((v_1).toBool))
      (G (room x5out [[.int .i64 ((ce (ro a0 x10.toNat) 0).toInt)]] 8) (L0 a0 a1 Q (x5out ++ [[.int .i64 ((ce (ro a0 x10.toNat) 0).toInt)]]) (addW .i64 x10 1) (Hh.past H_2)))
      (L0 a0 a1 Q x5out (addW .i64 x10 1) (Hh.past H_2)))))))
  (ioBack C 34 1 x5out [] Hh fun y_3 H_4 =>
    Q (.sl 0 1 y_3) H_4)
theorem r0_eq (a0 : List (List AV)) (a1 : List (List AV)) (Q : AV → Heap → Prop) (x5out : List (List AV)) (x10 : Int) (Hh : Heap) : (fun K s => awp E0 C (E0.L 17) (codeAt (bodyOf E0 17) [1, 1, 0, 1, 0, 0]) 1 s K) (fun e s' => match e with | .normal => ALoop (fun K s => awp E0 C (E0.L 17) (codeAt (bodyOf E0 17) [1, 1, 0, 1, 0, 0]) 1 s K) (clean [(1, 0), (5, 3), (8, 0), (9, 0), (10, 0)] 0) (K0 Q) ((clean [(1, 0), (5, 3), (8, 0), (9, 0), (10, 0)] 0) s') | e => K0 Q e s') ⟨stt 25 [(1, .sl 0 1 a1), (5, .sl 1 1 x5out), (8, .sl 0 1 a0), (9, .int .i64 (lenI a0)), (10, .int .i64 x10)], [], Hh⟩ = r0 a0 a1 Q x5out x10 Hh := by kernel_rfl
theorem L0_step {a0 : List (List AV)} {a1 : List (List AV)} {Q : AV → Heap → Prop} {x5out : List (List AV)} {x10 : Int} {Hh : Heap} (h : r0 a0 a1 Q x5out x10 Hh) : L0 a0 a1 Q x5out x10 Hh := ALoop_unfold ((r0_eq a0 a1 Q x5out x10 Hh).mpr h)
def t (a0 : List (List AV)) (a1 : List (List AV)) (H : Heap) (Q : AV → Heap → Prop) : Prop :=
  L0 a0 a1 Q [] 0 H
theorem t_eq (a0 : List (List AV)) (a1 : List (List AV)) (H : Heap) (Q : AV → Heap → Prop) : aBody E0 C 17 [.sl 0 1 a0, .sl 0 1 a1] H Q = t a0 a1 H Q := by kernel_rfl
theorem call {a0 : List (List AV)} {a1 : List (List AV)} {H : Heap} {Q : AV → Heap → Prop} (h : t a0 a1 H Q) : C 17 [.sl 0 1 a0, .sl 0 1 a1] H Q := Call_intro (E := E0) (by rw [t_eq]; exact h)
end F17
/-! ### broker/brokerref39.Heirs: function 18 -/
namespace F18
def K0 (Q : AV → Heap → Prop) : Ex → St → Prop := (contK E0 C (E0.L 18) [.block 0 0, .seq (codeAt (bodyOf E0 18) [1, 1, 1]) 1] (finK E0 18 Q))
def L0 (a0 : List (List AV)) (a1 : List (List AV)) (Q : AV → Heap → Prop) (x5out : List (List AV)) (x9 : List (List AV)) (x10 : Int) (x11 : Int) (Hh : Heap) : Prop := ALoop (fun K s => awp E0 C (E0.L 18) (codeAt (bodyOf E0 18) [1, 1, 0, 1, 0, 0]) 1 s K) (clean [(1, 0), (5, 3), (9, 0), (10, 0), (11, 0)] 0) (K0 Q) ⟨stt 25 [(1, .sl 0 1 a1), (5, .sl 1 1 x5out), (9, .sl 0 1 x9), (10, .int .i64 x10), (11, .int .i64 x11)], [], Hh⟩
def r0 (a0 : List (List AV)) (a1 : List (List AV)) (Q : AV → Heap → Prop) (x5out : List (List AV)) (x9 : List (List AV)) (x10 : Int) (x11 : Int) (Hh : Heap) : Prop :=
  cond (ltI x11 x10)
  (G (leI 0 x11) (G (ltI x11 (lenI x9)) (G ((ce (ro x9 x11.toNat) 0).isInt .i64) (C 27 [.sl 0 1 a1, .int .i64 ((ce (ro x9 x11.toNat) 0).toInt)] Hh.none fun v_3 H_4 =>
    G ((v_3).isBool) (cond (!((v_3).toBool))
      (G (room x5out [[.int .i64 ((ce (ro x9 x11.toNat) 0).toInt)]] 8) (L0 a0 a1 Q (x5out ++ [[.int .i64 ((ce (ro x9 x11.toNat) 0).toInt)]]) x9 x10 (addW .i64 x11 1) (Hh.past H_4)))
      (L0 a0 a1 Q x5out x9 x10 (addW .i64 x11 1) (Hh.past H_4)))))))
  (Q (.sl 0 1 x5out) Hh)
theorem r0_eq (a0 : List (List AV)) (a1 : List (List AV)) (Q : AV → Heap → Prop) (x5out : List (List AV)) (x9 : List (List AV)) (x10 : Int) (x11 : Int) (Hh : Heap) : (fun K s => awp E0 C (E0.L 18) (codeAt (bodyOf E0 18) [1, 1, 0, 1, 0, 0]) 1 s K) (fun e s' => match e with | .normal => ALoop (fun K s => awp E0 C (E0.L 18) (codeAt (bodyOf E0 18) [1, 1, 0, 1, 0, 0]) 1 s K) (clean [(1, 0), (5, 3), (9, 0), (10, 0), (11, 0)] 0) (K0 Q) ((clean [(1, 0), (5, 3), (9, 0), (10, 0), (11, 0)] 0) s') | e => K0 Q e s') ⟨stt 25 [(1, .sl 0 1 a1), (5, .sl 1 1 x5out), (9, .sl 0 1 x9), (10, .int .i64 x10), (11, .int .i64 x11)], [], Hh⟩ = r0 a0 a1 Q x5out x9 x10 x11 Hh := by kernel_rfl
theorem L0_step {a0 : List (List AV)} {a1 : List (List AV)} {Q : AV → Heap → Prop} {x5out : List (List AV)} {x9 : List (List AV)} {x10 : Int} {x11 : Int} {Hh : Heap} (h : r0 a0 a1 Q x5out x9 x10 x11 Hh) : L0 a0 a1 Q x5out x9 x10 x11 Hh := ALoop_unfold ((r0_eq a0 a1 Q x5out x9 x10 x11 Hh).mpr h)
def t (a0 : List (List AV)) (a1 : List (List AV)) (H : Heap) (Q : AV → Heap → Prop) : Prop :=
  C 35 [.sl 0 1 a0] H.none fun v_1 H_2 =>
  G ((v_1).isSl 1) (L0 a0 a1 Q [] ((v_1).slXs) (lenI ((v_1).slXs)) 0 (H.past H_2))
theorem t_eq (a0 : List (List AV)) (a1 : List (List AV)) (H : Heap) (Q : AV → Heap → Prop) : aBody E0 C 18 [.sl 0 1 a0, .sl 0 1 a1] H Q = t a0 a1 H Q := by kernel_rfl
theorem call {a0 : List (List AV)} {a1 : List (List AV)} {H : Heap} {Q : AV → Heap → Prop} (h : t a0 a1 H Q) : C 18 [.sl 0 1 a0, .sl 0 1 a1] H Q := Call_intro (E := E0) (by rw [t_eq]; exact h)
end F18
/-! ### broker/member.Sides: function 19 -/
namespace F19
def K0 (Q : AV → Heap → Prop) : Ex → St → Prop := (contK E0 C (E0.L 19) [.block 0 1, .seq (codeAt (bodyOf E0 19) [1, 1, 1, 1]) 1] (finK E0 19 Q))
def L0 (a0 : Int) (a1 : List (List AV)) (Q : AV → Heap → Prop) (x25 : Int) (m0_0 : Int) (m0_1 : Int) (m0_2 : Int) (m0_3 : Int) (m0_4 : Int) (m0_5 : Int) (m0_6 : Int) (Hh : Heap) : Prop := ALoop (fun K s => awp E0 C (E0.L 19) (codeAt (bodyOf E0 19) [1, 1, 1, 0, 1, 0, 0]) 1 s K) (clean [(0, 0), (1, 0), (5, 0), (24, 0), (25, 0)] 1) (K0 Q) ⟨stt 113 [(0, .int .i64 a0), (1, .sl 0 2 a1), (5, .ptr 0 0), (24, .int .i64 a0), (25, .int .i64 x25)], [.cells [.int .i64 m0_0, .int .i64 m0_1, .int .i64 m0_2, .int .i64 m0_3, .int .i64 m0_4, .int .i64 m0_5, .int .i64 m0_6]], Hh⟩
def K1 (Q : AV → Heap → Prop) : Ex → St → Prop := (contK E0 C (E0.L 19) [.block 2 1, .seq (codeAt (bodyOf E0 19) [1, 1, 1, 1, 1]) 3] (finK E0 19 Q))
def L1 (a0 : Int) (a1 : List (List AV)) (Q : AV → Heap → Prop) (x34 : Int) (m0_0 : Int) (m0_1 : Int) (m0_2 : Int) (m0_3 : Int) (m0_4 : Int) (m0_5 : Int) (m0_6 : Int) (Hh : Heap) : Prop := ALoop (fun K s => awp E0 C (E0.L 19) (codeAt (bodyOf E0 19) [1, 1, 1, 1, 0, 1, 0, 0]) 2 s K) (clean [(0, 0), (5, 0), (32, 0), (33, 0), (34, 0)] 1) (K1 Q) ⟨stt 113 [(0, .int .i64 a0), (5, .ptr 0 0), (32, .sl 0 2 a1), (33, .int .i64 (lenI a1)), (34, .int .i64 x34)], [.cells [.int .i64 m0_0, .int .i64 m0_1, .int .i64 m0_2, .int .i64 m0_3, .int .i64 m0_4, .int .i64 m0_5, .int .i64 m0_6]], Hh⟩
def JR13 (a0 : Int) (a1 : List (List AV)) (Q : AV → Heap → Prop) (x9a : Int) (x10b : Int) (x34 : Int) (x57 : Bool) (m0_0 : Int) (m0_1 : Int) (m0_2 : Int) (m0_3 : Int) (m0_4 : Int) (m0_5 : Int) (m0_6 : Int) (m1_0 : Int) (m1_1 : Int) (Hh : Heap) : Prop := AJoin (contK E0 C (E0.L 19) [.seq (codeAt (bodyOf E0 19) [1, 1, 1, 1, 0, 1, 0, 0, 1, 1, 0, 0, 1, 1, 0, 1]) 2, .seq (codeAt (bodyOf E0 19) [1, 1, 1, 1, 0, 1, 0, 0, 1, 1, 0, 0, 1, 1, 1]) 2, .block 3 1, .seq (codeAt (bodyOf E0 19) [1, 1, 1, 1, 0, 1, 0, 0, 1, 1, 1]) 3, .loop (codeAt (bodyOf E0 19) [1, 1, 1, 1, 0, 1, 0, 0]) 2 [(0, 0), (5, 0), (32, 0), (33, 0), (34, 0)] 1, .block 2 1, .seq (codeAt (bodyOf E0 19) [1, 1, 1, 1, 1]) 3] (finK E0 19 Q)) ⟨stt 113 [(0, .int .i64 a0), (5, .ptr 0 0), (9, .int .i64 x9a), (10, .int .i64 x10b), (32, .sl 0 2 a1), (33, .int .i64 (lenI a1)), (34, .int .i64 x34), (57, .bool x57)], [.cells [.int .i64 m0_0, .int .i64 m0_1, .int .i64 m0_2, .int .i64 m0_3, .int .i64 m0_4, .int .i64 m0_5, .int .i64 m0_6], .cells [.int .i64 m1_0, .int .i64 m1_1]], Hh⟩
def K3 (Q : AV → Heap → Prop) : Ex → St → Prop := (contK E0 C (E0.L 19) [.block 6 1, .seq (codeAt (bodyOf E0 19) [1, 1, 1, 1, 1, 1, 1]) 5] (finK E0 19 Q))
def L3 (a0 : Int) (a1 : List (List AV)) (Q : AV → Heap → Prop) (x14out : List (List AV)) (x87 : Int) (m0_0 : Int) (m0_1 : Int) (m0_2 : Int) (m0_3 : Int) (m0_4 : Int) (m0_5 : Int) (m0_6 : Int) (Hh : Heap) : Prop := ALoop (fun K s => awp E0 C (E0.L 19) (codeAt (bodyOf E0 19) [1, 1, 1, 1, 1, 1, 0, 1, 0, 0]) 4 s K) (clean [(0, 0), (5, 0), (14, 3), (86, 0), (87, 0)] 1) (K3 Q) ⟨stt 113 [(0, .int .i64 a0), (5, .ptr 0 0), (14, .sl 1 1 x14out), (86, .int .i64 a0), (87, .int .i64 x87)], [.cells [.int .i64 m0_0, .int .i64 m0_1, .int .i64 m0_2, .int .i64 m0_3, .int .i64 m0_4, .int .i64 m0_5, .int .i64 m0_6]], Hh⟩
def K2 (Q : AV → Heap → Prop) : Ex → St → Prop := (contK E0 C (E0.L 19) [.block 4 2, .block 3 1, .seq (codeAt (bodyOf E0 19) [1, 1, 1, 1, 0, 1, 0, 0, 1, 1, 1]) 3, .loop (codeAt (bodyOf E0 19) [1, 1, 1, 1, 0, 1, 0, 0]) 2 [(0, 0), (5, 0), (32, 0), (33, 0), (34, 0)] 1, .block 2 1, .seq (codeAt (bodyOf E0 19) [1, 1, 1, 1, 1]) 3] (finK E0 19 Q))
def L2 (a0 : Int) (a1 : List (List AV)) (Q : AV → Heap → Prop) (x11from : Int) (x12to : Int) (x34 : Int) (x73 : Int) (m0_0 : Int) (m0_1 : Int) (m0_2 : Int) (m0_3 : Int) (m0_4 : Int) (m0_5 : Int) (m0_6 : Int) (m1_0 : Int) (m1_1 : Int) (Hh : Heap) : Prop := ALoop (fun K s => awp E0 C (E0.L 19) (codeAt (bodyOf E0 19) [1, 1, 1, 1, 0, 1, 0, 0, 1, 1, 0, 0, 1, 1, 1, 1, 1, 0, 0]) 3 s K) (clean [(0, 0), (5, 0), (11, 0), (12, 0), (32, 0), (33, 0), (34, 0), (72, 0), (73, 0)] 2) (K2 Q) ⟨stt 113 [(0, .int .i64 a0), (5, .ptr 0 0), (11, .int .i64 x11from), (12, .int .i64 x12to), (32, .sl 0 2 a1), (33, .int .i64 (lenI a1)), (34, .int .i64 x34), (72, .int .i64 a0), (73, .int .i64 x73)], [.cells [.int .i64 m0_0, .int .i64 m0_1, .int .i64 m0_2, .int .i64 m0_3, .int .i64 m0_4, .int .i64 m0_5, .int .i64 m0_6], .cells [.int .i64 m1_0, .int .i64 m1_1]], Hh⟩
def K4 (Q : AV → Heap → Prop) : Ex → St → Prop := (contK E0 C (E0.L 19) [.block 8 1, .seq (codeAt (bodyOf E0 19) [1, 1, 1, 1, 1, 1, 0, 1, 0, 0, 1, 1, 0, 0, 1, 1, 1]) 5, .block 7 1, .seq (codeAt (bodyOf E0 19) [1, 1, 1, 1, 1, 1, 0, 1, 0, 0, 1, 1, 1]) 5, .loop (codeAt (bodyOf E0 19) [1, 1, 1, 1, 1, 1, 0, 1, 0, 0]) 4 [(0, 0), (5, 0), (14, 3), (86, 0), (87, 0)] 1, .block 6 1, .seq (codeAt (bodyOf E0 19) [1, 1, 1, 1, 1, 1, 1]) 5] (finK E0 19 Q))
def L4 (a0 : Int) (a1 : List (List AV)) (Q : AV → Heap → Prop) (x14out : List (List AV)) (x15i : Int) (x16group : List (List AV)) (x87 : Int) (x91 : Int) (m0_0 : Int) (m0_1 : Int) (m0_2 : Int) (m0_3 : Int) (m0_4 : Int) (m0_5 : Int) (m0_6 : Int) (Hh : Heap) : Prop := ALoop (fun K s => awp E0 C (E0.L 19) (codeAt (bodyOf E0 19) [1, 1, 1, 1, 1, 1, 0, 1, 0, 0, 1, 1, 0, 0, 1, 1, 0, 1, 0, 0]) 5 s K) (clean [(0, 0), (5, 0), (14, 3), (15, 0), (16, 3), (86, 0), (87, 0), (90, 0), (91, 0)] 1) (K4 Q) ⟨stt 113 [(0, .int .i64 a0), (5, .ptr 0 0), (14, .sl 1 1 x14out), (15, .int .i64 x15i), (16, .sl 2 1 x16group), (86, .int .i64 a0), (87, .int .i64 x87), (90, .int .i64 a0), (91, .int .i64 x91)], [.cells [.int .i64 m0_0, .int .i64 m0_1, .int .i64 m0_2, .int .i64 m0_3, .int .i64 m0_4, .int .i64 m0_5, .int .i64 m0_6]], Hh⟩
def r0 (a0 : Int) (a1 : List (List AV)) (Q : AV → Heap → Prop) (x25 : Int) (m0_0 : Int) (m0_1 : Int) (m0_2 : Int) (m0_3 : Int) (m0_4 : Int) (m0_5 : Int) (m0_6 : Int) (Hh : Heap) : Prop :=
  cond (ltI x25 a0)
  (G (leI 0 x25) (G (ltI x25 7) (G (Nat.ble ((0 + (x25.toNat * 1)) + 1) (7)) (L0 a0 a1 Q (addW .i64 x25 1) (cond (Nat.beq (0 + (x25.toNat * 1)) 0) x25 m0_0) (cond (Nat.beq (0 + (x25.toNat * 1)) 1) x25 m0_1) (cond (Nat.beq (0 + (x25.toNat * 1)) 2) x25 m0_2) (cond (Nat.beq (0 + (x25.toNat * 1)) 3) x25 m0_3) (cond (Nat.beq (0 + (x25.toNat * 1)) 4) x25 m0_4) (cond (Nat.beq (0 + (x25.toNat * 1)) 5) x25 m0_5) (cond (Nat.beq (0 + (x25.toNat * 1)) 6) x25 m0_6) Hh))))
  (L1 a0 a1 Q 0 m0_0 m0_1 m0_2 m0_3 m0_4 m0_5 m0_6 Hh)
theorem r0_eq (a0 : Int) (a1 : List (List AV)) (Q : AV → Heap → Prop) (x25 : Int) (m0_0 : Int) (m0_1 : Int) (m0_2 : Int) (m0_3 : Int) (m0_4 : Int) (m0_5 : Int) (m0_6 : Int) (Hh : Heap) : (fun K s => awp E0 C (E0.L 19) (codeAt (bodyOf E0 19) [1, 1, 1, 0, 1, 0, 0]) 1 s K) (fun e s' => match e with | .normal => ALoop (fun K s => awp E0 C (E0.L 19) (codeAt (bodyOf E0 19) [1, 1, 1, 0, 1, 0, 0]) 1 s K) (clean [(0, 0), (1, 0), (5, 0), (24, 0), (25, 0)] 1) (K0 Q) ((clean [(0, 0), (1, 0), (5, 0), (24, 0), (25, 0)] 1) s') | e => K0 Q e s') ⟨stt 113 [(0, .int .i64 a0), (1, .sl 0 2 a1), (5, .ptr 0 0), (24, .int .i64 a0), (25, .int .i64 x25)], [.cells [.int .i64 m0_0, .int .i64 m0_1, .int .i64 m0_2, .int .i64 m0_3, .int .i64 m0_4, .int .i64 m0_5, .int .i64 m0_6]], Hh⟩ = r0 a0 a1 Q x25 m0_0 m0_1 m0_2 m0_3 m0_4 m0_5 m0_6 Hh := by kernel_rfl
theorem L0_step {a0 : Int} {a1 : List (List AV)} {Q : AV → Heap → Prop} {x25 : Int} {m0_0 : Int} {m0_1 : Int} {m0_2 : Int} {m0_3 : Int} {m0_4 : Int} {m0_5 : Int} {m0_6 : Int} {Hh : Heap} (h : r0 a0 a1 Q x25 m0_0 m0_1 m0_2 m0_3 m0_4 m0_5 m0_6 Hh) : L0 a0 a1 Q x25 m0_0 m0_1 m0_2 m0_3 m0_4 m0_5 m0_6 Hh := ALoop_unfold ((r0_eq a0 a1 Q x25 m0_0 m0_1 m0_2 m0_3 m0_4 m0_5 m0_6 Hh).mpr h)
def r1 (a0 : Int) (a1 : List (List AV)) (Q : AV → Heap → Prop) (x34 : Int) (m0_0 : Int) (m0_1 : Int) (m0_2 : Int) (m0_3 : Int) (m0_4 : Int) (m0_5 : Int) (m0_6 : Int) (Hh : Heap) : Prop :=
  cond (ltI x34 (lenI a1))
  (G (leI 0 x34) (G (ltI x34 (lenI a1)) (G ((ce (ro a1 x34.toNat) 0).isInt .i64) (G ((ce (ro a1 x34.toNat) 1).isInt .i64) (cond (ltI ((ce (ro a1 x34.toNat) 0).toInt) 0)
    (JR13 a0 a1 Q ((ce (ro a1 x34.toNat) 0).toInt) ((ce (ro a1 x34.toNat) 1).toInt) x34 true m0_0 m0_1 m0_2 m0_3 m0_4 m0_5 m0_6 ((ce (ro a1 x34.toNat) 0).toInt) ((ce (ro a1 x34.toNat) 1).toInt) Hh)
    (cond (ltI ((ce (ro a1 x34.toNat) 1).toInt) 0)
      (JR13 a0 a1 Q ((ce (ro a1 x34.toNat) 0).toInt) ((ce (ro a1 x34.toNat) 1).toInt) x34 true m0_0 m0_1 m0_2 m0_3 m0_4 m0_5 m0_6 ((ce (ro a1 x34.toNat) 0).toInt) ((ce (ro a1 x34.toNat) 1).toInt) Hh)
      (cond (leI a0 ((ce (ro a1 x34.toNat) 0).toInt))
        (JR13 a0 a1 Q ((ce (ro a1 x34.toNat) 0).toInt) ((ce (ro a1 x34.toNat) 1).toInt) x34 true m0_0 m0_1 m0_2 m0_3 m0_4 m0_5 m0_6 ((ce (ro a1 x34.toNat) 0).toInt) ((ce (ro a1 x34.toNat) 1).toInt) Hh)
        (JR13 a0 a1 Q ((ce (ro a1 x34.toNat) 0).toInt) ((ce (ro a1 x34.toNat) 1).toInt) x34 (leI a0 ((ce (ro a1 x34.toNat) 1).toInt)) m0_0 m0_1 m0_2 m0_3 m0_4 m0_5 m0_6 ((ce (ro a1 x34.toNat) 0).toInt) ((ce (ro a1 x34.toNat) 1).toInt) Hh))))))))
  (L3 a0 a1 Q [] 0 m0_0 m0_1 m0_2 m0_3 m0_4 m0_5 m0_6 Hh)
theorem r1_eq (a0 : Int) (a1 : List (List AV)) (Q : AV → Heap → Prop) (x34 : Int) (m0_0 : Int) (m0_1 : Int) (m0_2 : Int) (m0_3 : Int) (m0_4 : Int) (m0_5 : Int) (m0_6 : Int) (Hh : Heap) : (fun K s => awp E0 C (E0.L 19) (codeAt (bodyOf E0 19) [1, 1, 1, 1, 0, 1, 0, 0]) 2 s K) (fun e s' => match e with | .normal => ALoop (fun K s => awp E0 C (E0.L 19) (codeAt (bodyOf E0 19) [1, 1, 1, 1, 0, 1, 0, 0]) 2 s K) (clean [(0, 0), (5, 0), (32, 0), (33, 0), (34, 0)] 1) (K1 Q) ((clean [(0, 0), (5, 0), (32, 0), (33, 0), (34, 0)] 1) s') | e => K1 Q e s') ⟨stt 113 [(0, .int .i64 a0), (5, .ptr 0 0), (32, .sl 0 2 a1), (33, .int .i64 (lenI a1)), (34, .int .i64 x34)], [.cells [.int .i64 m0_0, .int .i64 m0_1, .int .i64 m0_2, .int .i64 m0_3, .int .i64 m0_4, .int .i64 m0_5, .int .i64 m0_6]], Hh⟩ = r1 a0 a1 Q x34 m0_0 m0_1 m0_2 m0_3 m0_4 m0_5 m0_6 Hh := by kernel_rfl
theorem L1_step {a0 : Int} {a1 : List (List AV)} {Q : AV → Heap → Prop} {x34 : Int} {m0_0 : Int} {m0_1 : Int} {m0_2 : Int} {m0_3 : Int} {m0_4 : Int} {m0_5 : Int} {m0_6 : Int} {Hh : Heap} (h : r1 a0 a1 Q x34 m0_0 m0_1 m0_2 m0_3 m0_4 m0_5 m0_6 Hh) : L1 a0 a1 Q x34 m0_0 m0_1 m0_2 m0_3 m0_4 m0_5 m0_6 Hh := ALoop_unfold ((r1_eq a0 a1 Q x34 m0_0 m0_1 m0_2 m0_3 m0_4 m0_5 m0_6 Hh).mpr h)
def jR13 (a0 : Int) (a1 : List (List AV)) (Q : AV → Heap → Prop) (x9a : Int) (x10b : Int) (x34 : Int) (x57 : Bool) (m0_0 : Int) (m0_1 : Int) (m0_2 : Int) (m0_3 : Int) (m0_4 : Int) (m0_5 : Int) (m0_6 : Int) (m1_0 : Int) (m1_1 : Int) (Hh : Heap) : Prop :=
  cond x57
  (L1 a0 a1 Q (addW .i64 x34 1) m0_0 m0_1 m0_2 m0_3 m0_4 m0_5 m0_6 Hh)
  (G (leI 0 x9a) (G (ltI x9a 7) (G ((ce [.int .i64 m0_0, .int .i64 m0_1, .int .i64 m0_2, .int .i64 m0_3, .int .i64 m0_4, .int .i64 m0_5, .int .i64 m0_6] (0 + (x9a.toNat * 1))).isInt .i64) (G (leI 0 x10b) (G (ltI x10b 7) (G ((ce [.int .i64 m0_0, .int .i64 m0_1, .int .i64 m0_2, .int .i64 m0_3, .int .i64 m0_4, .int .i64 m0_5, .int .i64 m0_6] (0 + (x10b.toNat * 1))).isInt .i64) (G (leI 0 x9a) (G (ltI x9a 7) (G ((ce [.int .i64 m0_0, .int .i64 m0_1, .int .i64 m0_2, .int .i64 m0_3, .int .i64 m0_4, .int .i64 m0_5, .int .i64 m0_6] (0 + (x9a.toNat * 1))).isInt .i64) (G (leI 0 x10b) (G (ltI x10b 7) (G ((ce [.int .i64 m0_0, .int .i64 m0_1, .int .i64 m0_2, .int .i64 m0_3, .int .i64 m0_4, .int .i64 m0_5, .int .i64 m0_6] (0 + (x10b.toNat * 1))).isInt .i64) (L2 a0 a1 Q (cond (ltI ((ce [.int .i64 m0_0, .int .i64 m0_1, .int .i64 m0_2, .int .i64 m0_3, .int .i64 m0_4, .int .i64 m0_5, .int .i64 m0_6] (0 + (x9a.toNat * 1))).toInt) ((ce [.int .i64 m0_0, .int .i64 m0_1, .int .i64 m0_2, .int .i64 m0_3, .int .i64 m0_4, .int .i64 m0_5, .int .i64 m0_6] (0 + (x10b.toNat * 1))).toInt)) ((ce [.int .i64 m0_0, .int .i64 m0_1, .int .i64 m0_2, .int .i64 m0_3, .int .i64 m0_4, .int .i64 m0_5, .int .i64 m0_6] (0 + (x10b.toNat * 1))).toInt) ((ce [.int .i64 m0_0, .int .i64 m0_1, .int .i64 m0_2, .int .i64 m0_3, .int .i64 m0_4, .int .i64 m0_5, .int .i64 m0_6] (0 + (x9a.toNat * 1))).toInt)) (cond (ltI ((ce [.int .i64 m0_0, .int .i64 m0_1, .int .i64 m0_2, .int .i64 m0_3, .int .i64 m0_4, .int .i64 m0_5, .int .i64 m0_6] (0 + (x10b.toNat * 1))).toInt) ((ce [.int .i64 m0_0, .int .i64 m0_1, .int .i64 m0_2, .int .i64 m0_3, .int .i64 m0_4, .int .i64 m0_5, .int .i64 m0_6] (0 + (x9a.toNat * 1))).toInt)) ((ce [.int .i64 m0_0, .int .i64 m0_1, .int .i64 m0_2, .int .i64 m0_3, .int .i64 m0_4, .int .i64 m0_5, .int .i64 m0_6] (0 + (x10b.toNat * 1))).toInt) ((ce [.int .i64 m0_0, .int .i64 m0_1, .int .i64 m0_2, .int .i64 m0_3, .int .i64 m0_4, .int .i64 m0_5, .int .i64 m0_6] (0 + (x9a.toNat * 1))).toInt)) x34 0 m0_0 m0_1 m0_2 m0_3 m0_4 m0_5 m0_6 m1_0 m1_1 Hh)))))))))))))
theorem JR13_eq (a0 : Int) (a1 : List (List AV)) (Q : AV → Heap → Prop) (x9a : Int) (x10b : Int) (x34 : Int) (x57 : Bool) (m0_0 : Int) (m0_1 : Int) (m0_2 : Int) (m0_3 : Int) (m0_4 : Int) (m0_5 : Int) (m0_6 : Int) (m1_0 : Int) (m1_1 : Int) (Hh : Heap) : contK E0 C (E0.L 19) [.seq (codeAt (bodyOf E0 19) [1, 1, 1, 1, 0, 1, 0, 0, 1, 1, 0, 0, 1, 1, 0, 1]) 2, .seq (codeAt (bodyOf E0 19) [1, 1, 1, 1, 0, 1, 0, 0, 1, 1, 0, 0, 1, 1, 1]) 2, .block 3 1, .seq (codeAt (bodyOf E0 19) [1, 1, 1, 1, 0, 1, 0, 0, 1, 1, 1]) 3, .loop (codeAt (bodyOf E0 19) [1, 1, 1, 1, 0, 1, 0, 0]) 2 [(0, 0), (5, 0), (32, 0), (33, 0), (34, 0)] 1, .block 2 1, .seq (codeAt (bodyOf E0 19) [1, 1, 1, 1, 1]) 3] (finK E0 19 Q) .normal ⟨stt 113 [(0, .int .i64 a0), (5, .ptr 0 0), (9, .int .i64 x9a), (10, .int .i64 x10b), (32, .sl 0 2 a1), (33, .int .i64 (lenI a1)), (34, .int .i64 x34), (57, .bool x57)], [.cells [.int .i64 m0_0, .int .i64 m0_1, .int .i64 m0_2, .int .i64 m0_3, .int .i64 m0_4, .int .i64 m0_5, .int .i64 m0_6], .cells [.int .i64 m1_0, .int .i64 m1_1]], Hh⟩ = jR13 a0 a1 Q x9a x10b x34 x57 m0_0 m0_1 m0_2 m0_3 m0_4 m0_5 m0_6 m1_0 m1_1 Hh := by kernel_rfl
theorem JR13_step {a0 : Int} {a1 : List (List AV)} {Q : AV → Heap → Prop} {x9a : Int} {x10b : Int} {x34 : Int} {x57 : Bool} {m0_0 : Int} {m0_1 : Int} {m0_2 : Int} {m0_3 : Int} {m0_4 : Int} {m0_5 : Int} {m0_6 : Int} {m1_0 : Int} {m1_1 : Int} {Hh : Heap} (h : jR13 a0 a1 Q x9a x10b x34 x57 m0_0 m0_1 m0_2 m0_3 m0_4 m0_5 m0_6 m1_0 m1_1 Hh) : JR13 a0 a1 Q x9a x10b x34 x57 m0_0 m0_1 m0_2 m0_3 m0_4 m0_5 m0_6 m1_0 m1_1 Hh := ⟨(JR13_eq a0 a1 Q x9a x10b x34 x57 m0_0 m0_1 m0_2 m0_3 m0_4 m0_5 m0_6 m1_0 m1_1 Hh).mpr h⟩
def r3 (a0 : Int) (a1 : List (List AV)) (Q : AV → Heap → Prop) (x14out : List (List AV)) (x87 : Int) (m0_0 : Int) (m0_1 : Int) (m0_2 : Int) (m0_3 : Int) (m0_4 : Int) (m0_5 : Int) (m0_6 : Int) (Hh : Heap) : Prop :=
  cond (ltI x87 a0)
  (L4 a0 a1 Q x14out x87 [] x87 0 m0_0 m0_1 m0_2 m0_3 m0_4 m0_5 m0_6 Hh)
  (Q (.sl 0 1 x14out) Hh)
theorem r3_eq (a0 : Int) (a1 : List (List AV)) (Q : AV → Heap → Prop) (x14out : List (List AV)) (x87 : Int) (m0_0 : Int) (m0_1 : Int) (m0_2 : Int) (m0_3 : Int) (m0_4 : Int) (m0_5 : Int) (m0_6 : Int) (Hh : Heap) : (fun K s => awp E0 C (E0.L 19) (codeAt (bodyOf E0 19) [1, 1, 1, 1, 1, 1, 0, 1, 0, 0]) 4 s K) (fun e s' => match e with | .normal => ALoop (fun K s => awp E0 C (E0.L 19) (codeAt (bodyOf E0 19) [1, 1, 1, 1, 1, 1, 0, 1, 0, 0]) 4 s K) (clean [(0, 0), (5, 0), (14, 3), (86, 0), (87, 0)] 1) (K3 Q) ((clean [(0, 0), (5, 0), (14, 3), (86, 0), (87, 0)] 1) s') | e => K3 Q e s') ⟨stt 113 [(0, .int .i64 a0), (5, .ptr 0 0), (14, .sl 1 1 x14out), (86, .int .i64 a0), (87, .int .i64 x87)], [.cells [.int .i64 m0_0, .int .i64 m0_1, .int .i64 m0_2, .int .i64 m0_3, .int .i64 m0_4, .int .i64 m0_5, .int .i64 m0_6]], Hh⟩ = r3 a0 a1 Q x14out x87 m0_0 m0_1 m0_2 m0_3 m0_4 m0_5 m0_6 Hh := by kernel_rfl
theorem L3_step {a0 : Int} {a1 : List (List AV)} {Q : AV → Heap → Prop} {x14out : List (List AV)} {x87 : Int} {m0_0 : Int} {m0_1 : Int} {m0_2 : Int} {m0_3 : Int} {m0_4 : Int} {m0_5 : Int} {m0_6 : Int} {Hh : Heap} (h : r3 a0 a1 Q x14out x87 m0_0 m0_1 m0_2 m0_3 m0_4 m0_5 m0_6 Hh) : L3 a0 a1 Q x14out x87 m0_0 m0_1 m0_2 m0_3 m0_4 m0_5 m0_6 Hh := ALoop_unfold ((r3_eq a0 a1 Q x14out x87 m0_0 m0_1 m0_2 m0_3 m0_4 m0_5 m0_6 Hh).mpr h)
def r2 (a0 : Int) (a1 : List (List AV)) (Q : AV → Heap → Prop) (x11from : Int) (x12to : Int) (x34 : Int) (x73 : Int) (m0_0 : Int) (m0_1 : Int) (m0_2 : Int) (m0_3 : Int) (m0_4 : Int) (m0_5 : Int) (m0_6 : Int) (m1_0 : Int) (m1_1 : Int) (Hh : Heap) : Prop :=
  cond (ltI x73 a0)
  (G (leI 0 x73) (G (ltI x73 7) (G ((ce [.int .i64 m0_0, .int .i64 m0_1, .int .i64 m0_2, .int .i64 m0_3, .int .i64 m0_4, .int .i64 m0_5, .int .i64 m0_6] (0 + (x73.toNat * 1))).isInt .i64) (cond (eqI ((ce [.int .i64 m0_0, .int .i64 m0_1, .int .i64 m0_2, .int .i64 m0_3, .int .i64 m0_4, .int .i64 m0_5, .int .i64 m0_6] (0 + (x73.toNat * 1))).toInt) x11from)
    (G (leI 0 x73) (G (ltI x73 7) (G (Nat.ble ((0 + (x73.toNat * 1)) + 1) (7)) (L2 a0 a1 Q x11from x12to x34 (addW .i64 x73 1) (cond (Nat.beq (0 + (x73.toNat * 1)) 0) x12to m0_0) (cond (Nat.beq (0 + (x73.toNat * 1)) 1) x12to m0_1) (cond (Nat.beq (0 + (x73.toNat * 1)) 2) x12to m0_2) (cond (Nat.beq (0 + (x73.toNat * 1)) 3) x12to m0_3) (cond (Nat.beq (0 + (x73.toNat * 1)) 4) x12to m0_4) (cond (Nat.beq (0 + (x73.toNat * 1)) 5) x12to m0_5) (cond (Nat.beq (0 + (x73.toNat * 1)) 6) x12to m0_6) m1_0 m1_1 Hh))))
    (L2 a0 a1 Q x11from x12to x34 (addW .i64 x73 1) m0_0 m0_1 m0_2 m0_3 m0_4 m0_5 m0_6 m1_0 m1_1 Hh)))))
  (L1 a0 a1 Q (addW .i64 x34 1) m0_0 m0_1 m0_2 m0_3 m0_4 m0_5 m0_6 Hh)
theorem r2_eq (a0 : Int) (a1 : List (List AV)) (Q : AV → Heap → Prop) (x11from : Int) (x12to : Int) (x34 : Int) (x73 : Int) (m0_0 : Int) (m0_1 : Int) (m0_2 : Int) (m0_3 : Int) (m0_4 : Int) (m0_5 : Int) (m0_6 : Int) (m1_0 : Int) (m1_1 : Int) (Hh : Heap) : (fun K s => awp E0 C (E0.L 19) (codeAt (bodyOf E0 19) [1, 1, 1, 1, 0, 1, 0, 0, 1, 1, 0, 0, 1, 1, 1, 1, 1, 0, 0]) 3 s K) (fun e s' => match e with | .normal => ALoop (fun K s => awp E0 C (E0.L 19) (codeAt (bodyOf E0 19) [1, 1, 1, 1, 0, 1, 0, 0, 1, 1, 0, 0, 1, 1, 1, 1, 1, 0, 0]) 3 s K) (clean [(0, 0), (5, 0), (11, 0), (12, 0), (32, 0), (33, 0), (34, 0), (72, 0), (73, 0)] 2) (K2 Q) ((clean [(0, 0), (5, 0), (11, 0), (12, 0), (32, 0), (33, 0), (34, 0), (72, 0), (73, 0)] 2) s') | e => K2 Q e s') ⟨stt 113 [(0, .int .i64 a0), (5, .ptr 0 0), (11, .int .i64 x11from), (12, .int .i64 x12to), (32, .sl 0 2 a1), (33, .int .i64 (lenI a1)), (34, .int .i64 x34), (72, .int .i64 a0), (73, .int .i64 x73)], [.cells [.int .i64 m0_0, .int .i64 m0_1, .int .i64 m0_2, .int .i64 m0_3, .int .i64 m0_4, .int .i64 m0_5, .int .i64 m0_6], .cells [.int .i64 m1_0, .int .i64 m1_1]], Hh⟩ = r2 a0 a1 Q x11from x12to x34 x73 m0_0 m0_1 m0_2 m0_3 m0_4 m0_5 m0_6 m1_0 m1_1 Hh := by kernel_rfl
theorem L2_step {a0 : Int} {a1 : List (List AV)} {Q : AV → Heap → Prop} {x11from : Int} {x12to : Int} {x34 : Int} {x73 : Int} {m0_0 : Int} {m0_1 : Int} {m0_2 : Int} {m0_3 : Int} {m0_4 : Int} {m0_5 : Int} {m0_6 : Int} {m1_0 : Int} {m1_1 : Int} {Hh : Heap} (h : r2 a0 a1 Q x11from x12to x34 x73 m0_0 m0_1 m0_2 m0_3 m0_4 m0_5 m0_6 m1_0 m1_1 Hh) : L2 a0 a1 Q x11from x12to x34 x73 m0_0 m0_1 m0_2 m0_3 m0_4 m0_5 m0_6 m1_0 m1_1 Hh := ALoop_unfold ((r2_eq a0 a1 Q x11from x12to x34 x73 m0_0 m0_1 m0_2 m0_3 m0_4 m0_5 m0_6 m1_0 m1_1 Hh).mpr h)
def r4 (a0 : Int) (a1 : List (List AV)) (Q : AV → Heap → Prop) (x14out : List (List AV)) (x15i : Int) (x16group : List (List AV)) (x87 : Int) (x91 : Int) (m0_0 : Int) (m0_1 : Int) (m0_2 : Int) (m0_3 : Int) (m0_4 : Int) (m0_5 : Int) (m0_6 : Int) (Hh : Heap) : Prop :=
  cond (ltI x91 a0)
  (G (leI 0 x91) (G (ltI x91 7) (G ((ce [.int .i64 m0_0, .int .i64 m0_1, .int .i64 m0_2, .int .i64 m0_3, .int .i64 m0_4, .int .i64 m0_5, .int .i64 m0_6] (0 + (x91.toNat * 1))).isInt .i64) (cond (eqI ((ce [.int .i64 m0_0, .int .i64 m0_1, .int .i64 m0_2, .int .i64 m0_3, .int .i64 m0_4, .int .i64 m0_5, .int .i64 m0_6] (0 + (x91.toNat * 1))).toInt) x15i)
    (G (room x16group [[.int .i64 x91]] 8) (L4 a0 a1 Q x14out x15i (x16group ++ [[.int .i64 x91]]) x87 (addW .i64 x91 1) m0_0 m0_1 m0_2 m0_3 m0_4 m0_5 m0_6 Hh))
    (L4 a0 a1 Q x14out x15i x16group x87 (addW .i64 x91 1) m0_0 m0_1 m0_2 m0_3 m0_4 m0_5 m0_6 Hh)))))
  (cond (ltI 0 (lenI x16group))
    (G (room x14out [[.sl 0 1 x16group]] 24) (L3 a0 a1 Q (x14out ++ [[.sl 0 1 x16group]]) (addW .i64 x87 1) m0_0 m0_1 m0_2 m0_3 m0_4 m0_5 m0_6 Hh))
    (L3 a0 a1 Q x14out (addW .i64 x87 1) m0_0 m0_1 m0_2 m0_3 m0_4 m0_5 m0_6 Hh))
theorem r4_eq (a0 : Int) (a1 : List (List AV)) (Q : AV → Heap → Prop) (x14out : List (List AV)) (x15i : Int) (x16group : List (List AV)) (x87 : Int) (x91 : Int) (m0_0 : Int) (m0_1 : Int) (m0_2 : Int) (m0_3 : Int) (m0_4 : Int) (m0_5 : Int) (m0_6 : Int) (Hh : Heap) : (fun K s => awp E0 C (E0.L 19) (codeAt (bodyOf E0 19) [1, 1, 1, 1, 1, 1, 0, 1, 0, 0, 1, 1, 0, 0, 1, 1, 0, 1, 0, 0]) 5 s K) (fun e s' => match e with | .normal => ALoop (fun K s => awp E0 C (E0.L 19) (codeAt (bodyOf E0 19) [1, 1, 1, 1, 1, 1, 0, 1, 0, 0, 1, 1, 0, 0, 1, 1, 0, 1, 0, 0]) 5 s K) (clean [(0, 0), (5, 0), (14, 3), (15, 0), (16, 3), (86, 0), (87, 0), (90, 0), (91, 0)] 1) (K4 Q) ((clean [(0, 0), (5, 0), (14, 3), (15, 0), (16, 3), (86, 0), (87, 0), (90, 0), (91, 0)] 1) s') | e => K4 Q e s') ⟨stt 113 [(0, .int .i64 a0), (5, .ptr 0 0), (14, .sl 1 1 x14out), (15, .int .i64 x15i), (16, .sl 2 1 x16group), (86, .int .i64 a0), (87, .int .i64 x87), (90, .int .i64 a0), (91, .int .i64 x91)], [.cells [.int .i64 m0_0, .int .i64 m0_1, .int .i64 m0_2, .int .i64 m0_3, .int .i64 m0_4, .int .i64 m0_5, .int .i64 m0_6]], Hh⟩ = r4 a0 a1 Q x14out x15i x16group x87 x91 m0_0 m0_1 m0_2 m0_3 m0_4 m0_5 m0_6 Hh := by kernel_rfl
theorem L4_step {a0 : Int} {a1 : List (List AV)} {Q : AV → Heap → Prop} {x14out : List (List AV)} {x15i : Int} {x16group : List (List AV)} {x87 : Int} {x91 : Int} {m0_0 : Int} {m0_1 : Int} {m0_2 : Int} {m0_3 : Int} {m0_4 : Int} {m0_5 : Int} {m0_6 : Int} {Hh : Heap} (h : r4 a0 a1 Q x14out x15i x16group x87 x91 m0_0 m0_1 m0_2 m0_3 m0_4 m0_5 m0_6 Hh) : L4 a0 a1 Q x14out x15i x16group x87 x91 m0_0 m0_1 m0_2 m0_3 m0_4 m0_5 m0_6 Hh := ALoop_unfold ((r4_eq a0 a1 Q x14out x15i x16group x87 x91 m0_0 m0_1 m0_2 m0_3 m0_4 m0_5 m0_6 Hh).mpr h)
def t (a0 : Int) (a1 : List (List AV)) (H : Heap) (Q : AV → Heap → Prop) : Prop :=
  cond (ltI a0 1)
  (Q (.nilsl) H)
  (cond (ltI 7 a0)
    (Q (.nilsl) H)
    (L0 a0 a1 Q 0 0 0 0 0 0 0 0 H))
theorem t_eq (a0 : Int) (a1 : List (List AV)) (H : Heap) (Q : AV → Heap → Prop) : aBody E0 C 19 [.int .i64 a0, .sl 0 2 a1] H Q = t a0 a1 H Q := by kernel_rfl
theorem call {a0 : Int} {a1 : List (List AV)} {H : Heap} {Q : AV → Heap → Prop} (h : t a0 a1 H Q) : C 19 [.int .i64 a0, .sl 0 2 a1] H Q := Call_intro (E := E0) (by rw [t_eq]; exact h)
end F19
/-! ### broker/brokerref39.Sides: function 20 -/
namespace F20
def K0 (Q : AV → Heap → Prop) : Ex → St → Prop := (contK E0 C (E0.L 20) [.block 0 0, .seq (codeAt (bodyOf E0 20) [1, 1, 1, 1]) 1] (finK E0 20 Q))
def L0 (a0 : Int) (a1 : List (List AV)) (Q : AV → Heap → Prop) (x5low : List (List AV)) (x26 : Int) (Hh : Heap) : Prop := ALoop (fun K s => awp E0 C (E0.L 20) (codeAt (bodyOf E0 20) [1, 1, 1, 0, 1, 0, 0]) 1 s K) (clean [(0, 0), (1, 0), (5, 0), (25, 0), (26, 0)] 0) (K0 Q) ⟨stt 105 [(0, .int .i64 a0), (1, .sl 0 2 a1), (5, .sl 1 1 x5low), (25, .int .i64 (lenI (List.replicate a0.toNat ([.int .i64 0] : List AV)))), (26, .int .i64 x26)], [], Hh⟩
def K1 (Q : AV → Heap → Prop) : Ex → St → Prop := (contK E0 C (E0.L 20) [.block 2 0, .seq (codeAt (bodyOf E0 20) [1, 1, 1, 1, 1]) 3] (finK E0 20 Q))
def L1 (a0 : Int) (a1 : List (List AV)) (Q : AV → Heap → Prop) (x5low : List (List AV)) (x35 : Int) (Hh : Heap) : Prop := ALoop (fun K s => awp E0 C (E0.L 20) (codeAt (bodyOf E0 20) [1, 1, 1, 1, 0, 1, 0, 0]) 2 s K) (clean [(0, 0), (1, 0), (5, 0), (34, 0), (35, 0)] 0) (K1 Q) ⟨stt 105 [(0, .int .i64 a0), (1, .sl 0 2 a1), (5, .sl 1 1 x5low), (34, .int .i64 a0), (35, .int .i64 x35)], [], Hh⟩
def K2 (Q : AV → Heap → Prop) : Ex → St → Prop := (contK E0 C (E0.L 20) [.block 4 0, .block 3 0, .seq (codeAt (bodyOf E0 20) [1, 1, 1, 1, 0, 1, 0, 0, 1, 1, 1]) 3, .loop (codeAt (bodyOf E0 20) [1, 1, 1, 1, 0, 1, 0, 0]) 2 [(0, 0), (1, 0), (5, 0), (34, 0), (35, 0)] 0, .block 2 0, .seq (codeAt (bodyOf E0 20) [1, 1, 1, 1, 1]) 3] (finK E0 20 Q))
def L2 (a0 : Int) (a1 : List (List AV)) (Q : AV → Heap → Prop) (x5low : List (List AV)) (x35 : Int) (x39 : Int) (Hh : Heap) : Prop := ALoop (fun K s => awp E0 C (E0.L 20) (codeAt (bodyOf E0 20) [1, 1, 1, 1, 0, 1, 0, 0, 1, 1, 0, 0, 1, 0, 0]) 3 s K) (clean [(0, 0), (1, 0), (5, 0), (34, 0), (35, 0), (37, 0), (38, 0), (39, 0)] 0) (K2 Q) ⟨stt 105 [(0, .int .i64 a0), (1, .sl 0 2 a1), (5, .sl 1 1 x5low), (34, .int .i64 a0), (35, .int .i64 x35), (37, .sl 0 2 a1), (38, .int .i64 (lenI a1)), (39, .int .i64 x39)], [], Hh⟩
def K3 (Q : AV → Heap → Prop) : Ex → St → Prop := (contK E0 C (E0.L 20) [.block 6 0, .seq (codeAt (bodyOf E0 20) [1, 1, 1, 1, 1, 1, 1]) 5] (finK E0 20 Q))
def L3 (a0 : Int) (a1 : List (List AV)) (Q : AV → Heap → Prop) (x5low : List (List AV)) (x12out : List (List AV)) (x78 : Int) (Hh : Heap) : Prop := ALoop (fun K s => awp E0 C (E0.L 20) (codeAt (bodyOf E0 20) [1, 1, 1, 1, 1, 1, 0, 1, 0, 0]) 4 s K) (clean [(0, 0), (5, 0), (12, 3), (77, 0), (78, 0)] 0) (K3 Q) ⟨stt 105 [(0, .int .i64 a0), (5, .sl 1 1 x5low), (12, .sl 2 1 x12out), (77, .int .i64 a0), (78, .int .i64 x78)], [], Hh⟩
def K4 (Q : AV → Heap → Prop) : Ex → St → Prop := (contK E0 C (E0.L 20) [.block 8 0, .seq (codeAt (bodyOf E0 20) [1, 1, 1, 1, 1, 1, 0, 1, 0, 0, 1, 1, 0, 0, 1, 1, 1]) 5, .block 7 0, .seq (codeAt (bodyOf E0 20) [1, 1, 1, 1, 1, 1, 0, 1, 0, 0, 1, 1, 1]) 5, .loop (codeAt (bodyOf E0 20) [1, 1, 1, 1, 1, 1, 0, 1, 0, 0]) 4 [(0, 0), (5, 0), (12, 3), (77, 0), (78, 0)] 0, .block 6 0, .seq (codeAt (bodyOf E0 20) [1, 1, 1, 1, 1, 1, 1]) 5] (finK E0 20 Q))
def L4 (a0 : Int) (a1 : List (List AV)) (Q : AV → Heap → Prop) (x5low : List (List AV)) (x12out : List (List AV)) (x13i : Int) (x14side : List (List AV)) (x78 : Int) (x82 : Int) (Hh : Heap) : Prop := ALoop (fun K s => awp E0 C (E0.L 20) (codeAt (bodyOf E0 20) [1, 1, 1, 1, 1, 1, 0, 1, 0, 0, 1, 1, 0, 0, 1, 1, 0, 1, 0, 0]) 5 s K) (clean [(0, 0), (5, 0), (12, 3), (13, 0), (14, 3), (77, 0), (78, 0), (81, 0), (82, 0)] 0) (K4 Q) ⟨stt 105 [(0, .int .i64 a0), (5, .sl 1 1 x5low), (12, .sl 2 1 x12out), (13, .int .i64 x13i), (14, .sl 3 1 x14side), (77, .int .i64 a0), (78, .int .i64 x78), (81, .int .i64 a0), (82, .int .i64 x82)], [], Hh⟩
def r0 (a0 : Int) (a1 : List (List AV)) (Q : AV → Heap → Prop) (x5low : List (List AV)) (x26 : Int) (Hh : Heap) : Prop :=
  cond (ltI x26 (lenI (List.replicate a0.toNat ([.int .i64 0] : List AV))))
  (G (leI 0 x26) (G (ltI x26 (lenI x5low)) (L0 a0 a1 Q (x5low.set x26.toNat ((ro x5low x26.toNat).set 0 (.int .i64 x26))) (addW .i64 x26 1) Hh)))
  (L1 a0 a1 Q x5low 0 Hh)
theorem r0_eq (a0 : Int) (a1 : List (List AV)) (Q : AV → Heap → Prop) (x5low : List (List AV)) (x26 : Int) (Hh : Heap) : (fun K s => awp E0 C (E0.L 20) (codeAt (bodyOf E0 20) [1, 1, 1, 0, 1, 0, 0]) 1 s K) (fun e s' => match e with | .normal => ALoop (fun K s => awp E0 C (E0.L 20) (codeAt (bodyOf E0 20) [1, 1, 1, 0, 1, 0, 0]) 1 s K) (clean [(0, 0), (1, 0), (5, 0), (25, 0), (26, 0)] 0) (K0 Q) ((clean [(0, 0), (1, 0), (5, 0), (25, 0), (26, 0)] 0) s') | e => K0 Q e s') ⟨stt 105 [(0, .int .i64 a0), (1, .sl 0 2 a1), (5, .sl 1 1 x5low), (25, .int .i64 (lenI (List.replicate a0.toNat ([.int .i64 0] : List AV)))), (26, .int .i64 x26)], [], Hh⟩ = r0 a0 a1 Q x5low x26 Hh := by kernel_rfl
theorem L0_step {a0 : Int} {a1 : List (List AV)} {Q : AV → Heap → Prop} {x5low : List (List AV)} {x26 : Int} {Hh : Heap} (h : r0 a0 a1 Q x5low x26 Hh) : L0 a0 a1 Q x5low x26 Hh := ALoop_unfold ((r0_eq a0 a1 Q x5low x26 Hh).mpr h)
def r1 (a0 : Int) (a1 : List (List AV)) (Q : AV → Heap → Prop) (x5low : List (List AV)) (x35 : Int) (Hh : Heap) : Prop :=
  cond (ltI x35 a0)
  (L2 a0 a1 Q x5low x35 0 Hh)
  (L3 a0 a1 Q x5low [] 0 Hh)
theorem r1_eq (a0 : Int) (a1 : List (List AV)) (Q : AV → Heap → Prop) (x5low : List (List AV)) (x35 : Int) (Hh : Heap) : (fun K s => awp E0 C (E0.L 20) (codeAt (bodyOf E0 20) [1, 1, 1, 1, 0, 1, 0, 0]) 2 s K) (fun e s' => match e with | .normal => ALoop (fun K s => awp E0 C (E0.L 20) (codeAt (bodyOf E0 20) [1, 1, 1, 1, 0, 1, 0, 0]) 2 s K) (clean [(0, 0), (1, 0), (5, 0), (34, 0), (35, 0)] 0) (K1 Q) ((clean [(0, 0), (1, 0), (5, 0), (34, 0), (35, 0)] 0) s') | e => K1 Q e s') ⟨stt 105 [(0, .int .i64 a0), (1, .sl 0 2 a1), (5, .sl 1 1 x5low), (34, .int .i64 a0), (35, .int .i64 x35)], [], Hh⟩ = r1 a0 a1 Q x5low x35 Hh := by kernel_rfl
theorem L1_step {a0 : Int} {a1 : List (List AV)} {Q : AV → Heap → Prop} {x5low : List (List AV)} {x35 : Int} {Hh : Heap} (h : r1 a0 a1 Q x5low x35 Hh) : L1 a0 a1 Q x5low x35 Hh := ALoop_unfold ((r1_eq a0 a1 Q x5low x35 Hh).mpr h)
def r2 (a0 : Int) (a1 : List (List AV)) (Q : AV → Heap → Prop) (x5low : List (List AV)) (x35 : Int) (x39 : Int) (Hh : Heap) : Prop :=
  cond (ltI x39 (lenI a1))
  (G (leI 0 x39) (G (ltI x39 (lenI a1)) (G ((ce (ro a1 x39.toNat) 0).isInt .i64) (G ((ce (ro a1 x39.toNat) 1).isInt .i64) (cond (leI 0 (cond (ltI ((ce (ro a1 x39.toNat) 1).toInt) ((ce (ro a1 x39.toNat) 0).toInt)) ((ce (ro a1 x39.toNat) 1).toInt) ((ce (ro a1 x39.toNat) 0).toInt)))
    (cond (ltI (cond (ltI ((ce (ro a1 x39.toNat) 0).toInt) ((ce (ro a1 x39.toNat) 1).toInt)) ((ce (ro a1 x39.toNat) 1).toInt) ((ce (ro a1 x39.toNat) 0).toInt)) a0)
      (G (leI 0 ((ce (ro a1 x39.toNat) 0).toInt)) (G (ltI ((ce (ro a1 x39.toNat) 0).toInt) (lenI x5low)) (G ((ce (ro x5low (((ce (ro a1 x39.toNat) 0).toInt).toNat)) 0).isInt .i64) (G (leI 0 ((ce (ro a1 x39.toNat) 1).toInt)) (G (ltI ((ce (ro a1 x39.toNat) 1).toInt) (lenI x5low)) (G ((ce (ro x5low (((ce (ro a1 x39.toNat) 1).toInt).toNat)) 0).isInt .i64) (G (leI 0 ((ce (ro a1 x39.toNat) 0).toInt)) (G (ltI ((ce (ro a1 x39.toNat) 0).toInt) (lenI x5low)) (G (leI 0 ((ce (ro a1 x39.toNat) 1).toInt)) (G (ltI ((ce (ro a1 x39.toNat) 1).toInt) (lenI (x5low.set (((ce (ro a1 x39.toNat) 0).toInt).toNat) ((ro x5low (((ce (ro a1 x39.toNat) 0).toInt).toNat)).set 0 (.int .i64 (cond (ltI ((ce (ro x5low (((ce (ro a1 x39.toNat) 1).toInt).toNat)) 0).toInt) ((ce (ro x5low (((ce (ro a1 x39.toNat) 0).toInt).toNat)) 0).toInt)) ((ce (ro x5low (((ce (ro a1 x39.toNat) 1).toInt).toNat)) 0).toInt) ((ce (ro x5low (((ce (ro a1 x39.toNat) 0).toInt).toNat)) 0).toInt))))))) (L2 a0 a1 Q ((x5low.set (((ce (ro a1 x39.toNat) 0).toInt).toNat) ((ro x5low (((ce (ro a1 x39.toNat) 0).toInt).toNat)).set 0 (.int .i64 (cond (ltI ((ce (ro x5low (((ce (ro a1 x39.toNat) 1).toInt).toNat)) 0).toInt) ((ce (ro x5low (((ce (ro a1 x39.toNat) 0).toInt).toNat)) 0).toInt)) ((ce (ro x5low (((ce (ro a1 x39.toNat) 1).toInt).toNat)) 0).toInt) ((ce (ro x5low (((ce (ro a1 x39.toNat) 0).toInt).toNat)) 0).toInt))))).set (((ce (ro a1 x39.toNat) 1).toInt).toNat) ((ro (x5low.set (((ce (ro a1 x39.toNat) 0).toInt).toNat) ((ro x5low (((ce (ro a1 x39.toNat) 0).toInt).toNat)).set 0 (.int .i64 (cond (ltI ((ce (ro x5low (((ce (ro a1 x39.toNat) 1).toInt).toNat)) 0).toInt) ((ce (ro x5low (((ce (ro a1 x39.toNat) 0).toInt).toNat)) 0).toInt)) ((ce (ro x5low (((ce (ro a1 x39.toNat) 1).toInt).toNat)) 0).toInt) ((ce (ro x5low (((ce (ro a1 x39.toNat) 0).toInt).toNat)) 0).toInt))))) (((ce (ro a1 x39.toNat) 1).toInt).toNat)).set 0 (.int .i64 (cond (ltI ((ce (ro x5low (((ce (ro a1 x39.toNat) 1).toInt).toNat)) 0).toInt) ((ce (ro x5low (((ce (ro a1 x39.toNat) 0).toInt).toNat)) 0).toInt)) ((ce (ro x5low (((ce (ro a1 x39.toNat) 1).toInt).toNat)) 0).toInt) ((ce (ro x5low (((ce (ro a1 x39.toNat) 0).toInt).toNat)) 0).toInt))))) x35 (addW .i64 x39 1) Hh)))))))))))
      (L2 a0 a1 Q x5low x35 (addW .i64 x39 1) Hh))
    (L2 a0 a1 Q x5low x35 (addW .i64 x39 1) Hh))))))
  (L1 a0 a1 Q x5low (addW .i64 x35 1) Hh)
theorem r2_eq (a0 : Int) (a1 : List (List AV)) (Q : AV → Heap → Prop) (x5low : List (List AV)) (x35 : Int) (x39 : Int) (Hh : Heap) : (fun K s => awp E0 C (E0.L 20) (codeAt (bodyOf E0 20) [1, 1, 1, 1, 0, 1, 0, 0, 1, 1, 0, 0, 1, 0, 0]) 3 s K) (fun e s' => match e with | .normal => ALoop (fun K s => awp E0 C (E0.L 20) (codeAt (bodyOf E0 20) [1, 1, 1, 1, 0, 1, 0, 0, 1, 1, 0, 0, 1, 0, 0]) 3 s K) (clean [(0, 0), (1, 0), (5, 0), (34, 0), (35, 0), (37, 0), (38, 0), (39, 0)] 0) (K2 Q) ((clean [(0, 0), (1, 0), (5, 0), (34, 0), (35, 0), (37, 0), (38, 0), (39, 0)] 0) s') | e => K2 Q e s') ⟨stt 105 [(0, .int .i64 a0), (1, .sl 0 2 a1), (5, .sl 1 1 x5low), (34, .int .i64 a0), (35, .int .i64 x35), (37, .sl 0 2 a1), (38, .int .i64 (lenI a1)), (39, .int .i64 x39)], [], Hh⟩ = r2 a0 a1 Q x5low x35 x39 Hh := by kernel_rfl
theorem L2_step {a0 : Int} {a1 : List (List AV)} {Q : AV → Heap → Prop} {x5low : List (List AV)} {x35 : Int} {x39 : Int} {Hh : Heap} (h : r2 a0 a1 Q x5low x35 x39 Hh) : L2 a0 a1 Q x5low x35 x39 Hh := ALoop_unfold ((r2_eq a0 a1 Q x5low x35 x39 Hh).mpr h)
def r3 (a0 : Int) (a1 : List (List AV)) (Q : AV → Heap → Prop) (x5low : List (List AV)) (x12out : List (List AV)) (x78 : Int) (Hh : Heap) : Prop :=
  cond (ltI x78 a0)
  (L4 a0 a1 Q x5low x12out x78 [] x78 0 Hh)
  (Q (.sl 0 1 x12out) Hh)
theorem r3_eq (a0 : Int) (a1 : List (List AV)) (Q : AV → Heap → Prop) (x5low : List (List AV)) (x12out : List (List AV)) (x78 : Int) (Hh : Heap) : (fun K s => awp E0 C (E0.L 20) (codeAt (bodyOf E0 20) [1, 1, 1, 1, 1, 1, 0, 1, 0, 0]) 4 s K) (fun e s' => match e with | .normal => ALoop (fun K s => awp E0 C (E0.L 20) (codeAt (bodyOf E0 20) [1, 1, 1, 1, 1, 1, 0, 1, 0, 0]) 4 s K) (clean [(0, 0), (5, 0), (12, 3), (77, 0), (78, 0)] 0) (K3 Q) ((clean [(0, 0), (5, 0), (12, 3), (77, 0), (78, 0)] 0) s') | e => K3 Q e s') ⟨stt 105 [(0, .int .i64 a0), (5, .sl 1 1 x5low), (12, .sl 2 1 x12out), (77, .int .i64 a0), (78, .int .i64 x78)], [], Hh⟩ = r3 a0 a1 Q x5low x12out x78 Hh := by kernel_rfl
theorem L3_step {a0 : Int} {a1 : List (List AV)} {Q : AV → Heap → Prop} {x5low : List (List AV)} {x12out : List (List AV)} {x78 : Int} {Hh : Heap} (h : r3 a0 a1 Q x5low x12out x78 Hh) : L3 a0 a1 Q x5low x12out x78 Hh := ALoop_unfold ((r3_eq a0 a1 Q x5low x12out x78 Hh).mpr h)
def r4 (a0 : Int) (a1 : List (List AV)) (Q : AV → Heap → Prop) (x5low : List (List AV)) (x12out : List (List AV)) (x13i : Int) (x14side : List (List AV)) (x78 : Int) (x82 : Int) (Hh : Heap) : Prop :=
  cond (ltI x82 a0)
  (G (leI 0 x82) (G (ltI x82 (lenI x5low)) (G ((ce (ro x5low x82.toNat) 0).isInt .i64) (cond (eqI ((ce (ro x5low x82.toNat) 0).toInt) x13i)
    (G (room x14side [[.int .i64 x82]] 8) (L4 a0 a1 Q x5low x12out x13i (x14side ++ [[.int .i64 x82]]) x78 (addW .i64 x82 1) Hh))
    (L4 a0 a1 Q x5low x12out x13i x14side x78 (addW .i64 x82 1) Hh)))))
  (cond (ltI 0 (lenI x14side))
    (G (room x12out [[.sl 0 1 x14side]] 24) (L3 a0 a1 Q x5low (x12out ++ [[.sl 0 1 x14side]]) (addW .i64 x78 1) Hh))
    (L3 a0 a1 Q x5low x12out (addW .i64 x78 1) Hh))
theorem r4_eq (a0 : Int) (a1 : List (List AV)) (Q : AV → Heap → Prop) (x5low : List (List AV)) (x12out : List (List AV)) (x13i : Int) (x14side : List (List AV)) (x78 : Int) (x82 : Int) (Hh : Heap) : (fun K s => awp E0 C (E0.L 20) (codeAt (bodyOf E0 20) [1, 1, 1, 1, 1, 1, 0, 1, 0, 0, 1, 1, 0, 0, 1, 1, 0, 1, 0, 0]) 5 s K) (fun e s' => match e with | .normal => ALoop (fun K s => awp E0 C (E0.L 20) (codeAt (bodyOf E0 20) [1, 1, 1, 1, 1, 1, 0, 1, 0, 0, 1, 1, 0, 0, 1, 1, 0, 1, 0, 0]) 5 s K) (clean [(0, 0), (5, 0), (12, 3), (13, 0), (14, 3), (77, 0), (78, 0), (81, 0), (82, 0)] 0) (K4 Q) ((clean [(0, 0), (5, 0), (12, 3), (13, 0), (14, 3), (77, 0), (78, 0), (81, 0), (82, 0)] 0) s') | e => K4 Q e s') ⟨stt 105 [(0, .int .i64 a0), (5, .sl 1 1 x5low), (12, .sl 2 1 x12out), (13, .int .i64 x13i), (14, .sl 3 1 x14side), (77, .int .i64 a0), (78, .int .i64 x78), (81, .int .i64 a0), (82, .int .i64 x82)], [], Hh⟩ = r4 a0 a1 Q x5low x12out x13i x14side x78 x82 Hh := by kernel_rfl
theorem L4_step {a0 : Int} {a1 : List (List AV)} {Q : AV → Heap → Prop} {x5low : List (List AV)} {x12out : List (List AV)} {x13i : Int} {x14side : List (List AV)} {x78 : Int} {x82 : Int} {Hh : Heap} (h : r4 a0 a1 Q x5low x12out x13i x14side x78 x82 Hh) : L4 a0 a1 Q x5low x12out x13i x14side x78 x82 Hh := ALoop_unfold ((r4_eq a0 a1 Q x5low x12out x13i x14side x78 x82 Hh).mpr h)
def t (a0 : Int) (a1 : List (List AV)) (H : Heap) (Q : AV → Heap → Prop) : Prop :=
  cond (ltI a0 1)
  (Q (.nilsl) H)
  (cond (ltI 7 a0)
    (Q (.nilsl) H)
    (G (leI 0 a0) (G (eqI a0 a0) (G (roomN a0 8) (L0 a0 a1 Q (List.replicate a0.toNat ([.int .i64 0] : List AV)) 0 H)))))
theorem t_eq (a0 : Int) (a1 : List (List AV)) (H : Heap) (Q : AV → Heap → Prop) : aBody E0 C 20 [.int .i64 a0, .sl 0 2 a1] H Q = t a0 a1 H Q := by kernel_rfl
theorem call {a0 : Int} {a1 : List (List AV)} {H : Heap} {Q : AV → Heap → Prop} (h : t a0 a1 H Q) : C 20 [.int .i64 a0, .sl 0 2 a1] H Q := Call_intro (E := E0) (by rw [t_eq]; exact h)
end F20
/-! ### broker/member.Major: function 21 -/
namespace F21
def K0 (Q : AV → Heap → Prop) : Ex → St → Prop := (contK E0 C (E0.L 21) [.block 0 0, .seq (codeAt (bodyOf E0 21) [1, 1]) 1] (finK E0 21 Q))
def L0 (a0 : List (List AV)) (a1 : Int) (Q : AV → Heap → Prop) (x10 : Int) (Hh : Heap) : Prop := ALoop (fun K s => awp E0 C (E0.L 21) (codeAt (bodyOf E0 21) [1, 0, 1, 0, 0]) 1 s K) (clean [(1, 0), (8, 0), (9, 0), (10, 0)] 0) (K0 Q) ⟨stt 21 [(1, .int .i64 a1), (8, .sl 0 1 a0), (9, .int .i64 (lenI a0)), (10, .int .i64 x10)], [], Hh⟩
def r0 (a0 : List (List AV)) (a1 : Int) (Q : AV → Heap → Prop) (x10 : Int) (Hh : Heap) : Prop :=
  cond (ltI x10 (lenI a0))
  (G (leI 0 x10) (G (ltI x10 (lenI a0)) (G ((ce (ro a0 x10.toNat) 0).isSl 1) (C 24 [.int .i64 (lenI ((ce (ro a0 x10.toNat) 0).slXs)), .int .i64 a1] Hh.none fun v_1 H_2 =>
    G ((v_1).isBool) (cond ((v_1).toBool)
      (C 36 [.sl 0 1 ((ce (ro a0 x10.toNat) 0).slXs)] ((Hh.past H_2).none) fun v_3 H_4 =>
        G ((v_3).isOwn 1) (Q (.tup [.sl 0 1 ((v_3).slXs), .bool true]) (Hh.past H_4)))
      (L0 a0 a1 Q (addW .i64 x10 1) (Hh.past H_2)))))))
  (Q (.tup [.nilsl, .bool false]) Hh)
theorem r0_eq (a0 : List (List AV)) (a1 : Int) (Q : AV → Heap → Prop) (x10 : Int) (Hh : Heap) : (fun K s => awp E0 C (E0.L 21) (codeAt (bodyOf E0 21) [1, 0, 1, 0, 0]) 1 s K) (fun e s' => match e with | .normal => ALoop (fun K s => awp E0 C (E0.L 21) (codeAt (bodyOf E0 21) [1, 0, 1, 0, 0]) 1 s K) (clean [(1, 0), (8, 0), (9, 0), (10, 0)] 0) (K0 Q) ((clean [(1, 0), (8, 0), (9, 0), (10, 0)] 0) s') | e => K0 Q e s') ⟨stt 21 [(1, .int .i64 a1), (8, .sl 0 1 a0), (9, .int .i64 (lenI a0)), (10, .int .i64 x10)], [], Hh⟩ = r0 a0 a1 Q x10 Hh := by kernel_rfl
theorem L0_step {a0 : List (List AV)} {a1 : Int} {Q : AV → Heap → Prop} {x10 : Int} {Hh : Heap} (h : r0 a0 a1 Q x10 Hh) : L0 a0 a1 Q x10 Hh := ALoop_unfold ((r0_eq a0 a1 Q x10 Hh).mpr h)
def t (a0 : List (List AV)) (a1 : Int) (H : Heap) (Q : AV → Heap → Prop) : Prop :=
  L0 a0 a1 Q 0 H
theorem t_eq (a0 : List (List AV)) (a1 : Int) (H : Heap) (Q : AV → Heap → Prop) : aBody E0 C 21 [.sl 0 1 a0, .int .i64 a1] H Q = t a0 a1 H Q := by kernel_rfl
theorem call {a0 : List (List AV)} {a1 : Int} {H : Heap} {Q : AV → Heap → Prop} (h : t a0 a1 H Q) : C 21 [.sl 0 1 a0, .int .i64 a1] H Q := Call_intro (E := E0) (by rw [t_eq]; exact h)
end F21
/-! ### broker/brokerref39.Major: function 22 -/
namespace F22
def K0 (Q : AV → Heap → Prop) : Ex → St → Prop := (contK E0 C (E0.L 22) [.block 0 0, .seq (codeAt (bodyOf E0 22) [1, 1]) 1] (finK E0 22 Q))
def L0 (a0 : List (List AV)) (a1 : Int) (Q : AV → Heap → Prop) (x10 : Int) (Hh : Heap) : Prop := ALoop (fun K s => awp E0 C (E0.L 22) (codeAt (bodyOf E0 22) [1, 0, 1, 0, 0]) 1 s K) (clean [(1, 0), (8, 0), (9, 0), (10, 0)] 0) (K0 Q) ⟨stt 21 [(1, .int .i64 a1), (8, .sl 0 1 a0), (9, .int .i64 (lenI a0)), (10, .int .i64 x10)], [], Hh⟩
def r0 (a0 : List (List AV)) (a1 : Int) (Q : AV → Heap → Prop) (x10 : Int) (Hh : Heap) : Prop :=
  cond (ltI x10 (lenI a0))
  (G (leI 0 x10) (G (ltI x10 (lenI a0)) (G ((ce (ro a0 x10.toNat) 0).isSl 1) (C 25 [.int .i64 (lenI ((ce (ro a0 x10.toNat) 0).slXs)), .int .i64 a1] Hh.none fun v_1 H_2 =>
    G ((v_1).isBool) (cond ((v_1).toBool)
      (C 36 [.sl 0 1 ((ce (ro a0 x10.toNat) 0).slXs)] ((Hh.past H_2).none) fun v_3 H_4 =>
        G ((v_3).isOwn 1) (Q (.tup [.sl 0 1 ((v_3).slXs), .bool true]) (Hh.past H_4)))
      (L0 a0 a1 Q (addW .i64 x10 1) (Hh.past H_2)))))))
  (Q (.tup [.nilsl, .bool false]) Hh)
theorem r0_eq (a0 : List (List AV)) (a1 : Int) (Q : AV → Heap → Prop) (x10 : Int) (Hh : Heap) : (fun K s => awp E0 C (E0.L 22) (codeAt (bodyOf E0 22) [1, 0, 1, 0, 0]) 1 s K) (fun e s' => match e with | .normal => ALoop (fun K s => awp E0 C (E0.L 22) (codeAt (bodyOf E0 22) [1, 0, 1, 0, 0]) 1 s K) (clean [(1, 0), (8, 0), (9, 0), (10, 0)] 0) (K0 Q) ((clean [(1, 0), (8, 0), (9, 0), (10, 0)] 0) s') | e => K0 Q e s') ⟨stt 21 [(1, .int .i64 a1), (8, .sl 0 1 a0), (9, .int .i64 (lenI a0)), (10, .int .i64 x10)], [], Hh⟩ = r0 a0 a1 Q x10 Hh := by kernel_rfl
theorem L0_step {a0 : List (List AV)} {a1 : Int} {Q : AV → Heap → Prop} {x10 : Int} {Hh : Heap} (h : r0 a0 a1 Q x10 Hh) : L0 a0 a1 Q x10 Hh := ALoop_unfold ((r0_eq a0 a1 Q x10 Hh).mpr h)
def t (a0 : List (List AV)) (a1 : Int) (H : Heap) (Q : AV → Heap → Prop) : Prop :=
  L0 a0 a1 Q 0 H
theorem t_eq (a0 : List (List AV)) (a1 : Int) (H : Heap) (Q : AV → Heap → Prop) : aBody E0 C 22 [.sl 0 1 a0, .int .i64 a1] H Q = t a0 a1 H Q := by kernel_rfl
theorem call {a0 : List (List AV)} {a1 : Int} {H : Heap} {Q : AV → Heap → Prop} (h : t a0 a1 H Q) : C 22 [.sl 0 1 a0, .int .i64 a1] H Q := Call_intro (E := E0) (by rw [t_eq]; exact h)
end F22
/-! ### broker/brokerref39.Same: function 23 -/
namespace F23
def K0 (Q : AV → Heap → Prop) : Ex → St → Prop := (contK E0 C (E0.L 23) [.block 0 0, .seq (codeAt (bodyOf E0 23) [1, 1, 1]) 1] (finK E0 23 Q))
def L0 (a0 : List (List AV)) (a1 : List (List AV)) (Q : AV → Heap → Prop) (x14 : Int) (Hh : Heap) : Prop := ALoop (fun K s => awp E0 C (E0.L 23) (codeAt (bodyOf E0 23) [1, 1, 0, 1, 0, 0]) 1 s K) (clean [(1, 0), (12, 0), (13, 0), (14, 0)] 0) (K0 Q) ⟨stt 27 [(1, .sl 0 1 a1), (12, .sl 0 1 a0), (13, .int .i64 (lenI a0)), (14, .int .i64 x14)], [], Hh⟩
def r0 (a0 : List (List AV)) (a1 : List (List AV)) (Q : AV → Heap → Prop) (x14 : Int) (Hh : Heap) : Prop :=
  cond (ltI x14 (lenI a0))
  (G (leI 0 x14) (G (ltI x14 (lenI a0)) (G ((ce (ro a0 x14.toNat) 0).isSl 1) (G (leI 0 x14) (G (ltI x14 (lenI a1)) (G ((ce (ro a1 x14.toNat) 0).isSl 1) (C 16 [.sl 0 1 ((ce (ro a0 x14.toNat) 0).slXs), .sl 0 1 ((ce (ro a1 x14.toNat) 0).slXs)] Hh.none fun v_1 H_2 =>
    G ((v_1).isBool) (cond (!((v_1).toBool))
      (Q (.bool false) (Hh.past H_2))
      (L0 a0 a1 Q (addW .i64 x14 1) (Hh.past H_2))))))))))
  (Q (.bool true) Hh)
theorem r0_eq (a0 : List (List AV)) (a1 : List (List AV)) (Q : AV → Heap → Prop) (x14 : Int) (Hh : Heap) : (fun K s => awp E0 C (E0.L 23) (codeAt (bodyOf E0 23) [1, 1, 0, 1, 0, 0]) 1 s K) (fun e s' => match e with | .normal => ALoop (fun K s => awp E0 C (E0.L 23) (codeAt (bodyOf E0 23) [1, 1, 0, 1, 0, 0]) 1 s K) (clean [(1, 0), (12, 0), (13, 0), (14, 0)] 0) (K0 Q) ((clean [(1, 0), (12, 0), (13, 0), (14, 0)] 0) s') | e => K0 Q e s') ⟨stt 27 [(1, .sl 0 1 a1), (12, .sl 0 1 a0), (13, .int .i64 (lenI a0)), (14, .int .i64 x14)], [], Hh⟩ = r0 a0 a1 Q x14 Hh := by kernel_rfl
theorem L0_step {a0 : List (List AV)} {a1 : List (List AV)} {Q : AV → Heap → Prop} {x14 : Int} {Hh : Heap} (h : r0 a0 a1 Q x14 Hh) : L0 a0 a1 Q x14 Hh := ALoop_unfold ((r0_eq a0 a1 Q x14 Hh).mpr h)
def t (a0 : List (List AV)) (a1 : List (List AV)) (H : Heap) (Q : AV → Heap → Prop) : Prop :=
  cond (!(eqI (lenI a0) (lenI a1)))
  (Q (.bool false) H)
  (L0 a0 a1 Q 0 H)
theorem t_eq (a0 : List (List AV)) (a1 : List (List AV)) (H : Heap) (Q : AV → Heap → Prop) : aBody E0 C 23 [.sl 0 1 a0, .sl 0 1 a1] H Q = t a0 a1 H Q := by kernel_rfl
theorem call {a0 : List (List AV)} {a1 : List (List AV)} {H : Heap} {Q : AV → Heap → Prop} (h : t a0 a1 H Q) : C 23 [.sl 0 1 a0, .sl 0 1 a1] H Q := Call_intro (E := E0) (by rw [t_eq]; exact h)
end F23
/-! ### broker/member.Quorum: function 24 -/
namespace F24
def t (a0 : Int) (a1 : Int) (H : Heap) (Q : AV → Heap → Prop) : Prop :=
  cond (leI 1 a1)
  (Q (.bool (ltI (IntKind.i64.wrap (Int.tdiv a1 2)) a0)) H)
  (Q (.bool false) H)
theorem t_eq (a0 : Int) (a1 : Int) (H : Heap) (Q : AV → Heap → Prop) : aBody E0 C 24 [.int .i64 a0, .int .i64 a1] H Q = t a0 a1 H Q := by kernel_rfl
theorem call {a0 : Int} {a1 : Int} {H : Heap} {Q : AV → Heap → Prop} (h : t a0 a1 H Q) : C 24 [.int .i64 a0, .int .i64 a1] H Q := Call_intro (E := E0) (by rw [t_eq]; exact h)
end F24
/-! ### broker/brokerref39.Quorum: function 25 -/
namespace F25
def t (a0 : Int) (a1 : Int) (H : Heap) (Q : AV → Heap → Prop) : Prop :=
  cond (leI 1 a1)
  (Q (.bool (ltI (IntKind.i64.wrap (Int.tdiv a1 2)) a0)) H)
  (Q (.bool false) H)
theorem t_eq (a0 : Int) (a1 : Int) (H : Heap) (Q : AV → Heap → Prop) : aBody E0 C 25 [.int .i64 a0, .int .i64 a1] H Q = t a0 a1 H Q := by kernel_rfl
theorem call {a0 : Int} {a1 : Int} {H : Heap} {Q : AV → Heap → Prop} (h : t a0 a1 H Q) : C 25 [.int .i64 a0, .int .i64 a1] H Q := Call_intro (E := E0) (by rw [t_eq]; exact h)
end F25
/-! ### slices.Clone[[][2]int,[2]int]: function 26 -/
namespace F26
def t (a0 : List (List AV)) (H : Heap) (Q : AV → Heap → Prop) : Prop :=
  ∀ b_1 : Bool, (b_1 = true → a0 = []) → (cond b_1
  (Q (.nilsl) H)
  (G (room [] a0 16) (Q (.sl 1 2 a0) H)))
theorem t_eq (a0 : List (List AV)) (H : Heap) (Q : AV → Heap → Prop) : aBody E0 C 26 [.sl 0 2 a0] H Q = t a0 H Q := by kernel_rfl
theorem call {a0 : List (List AV)} {H : Heap} {Q : AV → Heap → Prop} (h : t a0 H Q) : C 26 [.sl 0 2 a0] H Q := Call_intro (E := E0) (by rw [t_eq]; exact h)
end F26
/-! ### slices.Contains[[]int,int]: function 27 -/
namespace F27
def t (a0 : List (List AV)) (a1 : Int) (H : Heap) (Q : AV → Heap → Prop) : Prop :=
  C 37 [.sl 0 1 a0, .int .i64 a1] H.none fun v_1 H_2 =>
  G ((v_1).isInt .i64) (Q (.bool (leI 0 ((v_1).toInt))) (H.past H_2))
theorem t_eq (a0 : List (List AV)) (a1 : Int) (H : Heap) (Q : AV → Heap → Prop) : aBody E0 C 27 [.sl 0 1 a0, .int .i64 a1] H Q = t a0 a1 H Q := by kernel_rfl
theorem call {a0 : List (List AV)} {a1 : Int} {H : Heap} {Q : AV → Heap → Prop} (h : t a0 a1 H Q) : C 27 [.sl 0 1 a0, .int .i64 a1] H Q := Call_intro (E := E0) (by rw [t_eq]; exact h)
end F27
/-! ### broker/brokerlaw39.rest: function 28 -/
namespace F28
def K0 (Q : AV → Heap → Prop) : Ex → St → Prop := (contK E0 C (E0.L 28) [.block 0 0, .seq (codeAt (bodyOf E0 28) [1, 1, 1]) 1] (finK E0 28 Q))
def L0 (a0 : List (List AV)) (a1 : Int) (Q : AV → Heap → Prop) (x5out : List (List AV)) (x10 : Int) (Hh : Heap) : Prop := ALoop (fun K s => awp E0 C (E0.L 28) (codeAt (bodyOf E0 28) [1, 1, 0, 1, 0, 0]) 1 s K) (clean [(1, 0), (5, 4), (8, 0), (9, 0), (10, 0)] 0) (K0 Q) ⟨stt 24 [(1, .int .i64 a1), (5, .sl 1 2 x5out), (8, .sl 0 2 a0), (9, .int .i64 (lenI a0)), (10, .int .i64 x10)], [], Hh⟩
def r0 (a0 : List (List AV)) (a1 : Int) (Q : AV → Heap → Prop) (x5out : List (List AV)) (x10 : Int) (Hh : Heap) : Prop :=
  cond (ltI x10 (lenI a0))
  (G (leI 0 x10) (G (ltI x10 (lenI a0)) (G ((ce (ro a0 x10.toNat) 0).isInt .i64) (G ((ce (ro a0 x10.toNat) 1).isInt .i64) (cond (!(eqI ((ce (ro a0 x10.toNat) 0).toInt) a1))
    (G (room x5out [[.int .i64 ((ce (ro a0 x10.toNat) 0).toInt), .int .i64 ((ce (ro a0 x10.toNat) 1).toInt)]] 16) (L0 a0 a1 Q (x5out ++ [[.int .i64 ((ce (ro a0 x10.toNat) 0).toInt), .int .i64 ((ce (ro a0 x10.toNat) 1).toInt)]]) (addW .i64 x10 1) Hh))
    (L0 a0 a1 Q x5out (addW .i64 x10 1) Hh))))))
  (Q (.sl 0 2 x5out) Hh)
theorem r0_eq (a0 : List (List AV)) (a1 : Int) (Q : AV → Heap → Prop) (x5out : List (List AV)) (x10 : Int) (Hh : Heap) : (fun K s => awp E0 C (E0.L 28) (codeAt (bodyOf E0 28) [1, 1, 0, 1, 0, 0]) 1 s K) (fun e s' => match e with | .normal => ALoop (fun K s => awp E0 C (E0.L 28) (codeAt (bodyOf E0 28) [1, 1, 0, 1, 0, 0]) 1 s K) (clean [(1, 0), (5, 4), (8, 0), (9, 0), (10, 0)] 0) (K0 Q) ((clean [(1, 0), (5, 4), (8, 0), (9, 0), (10, 0)] 0) s') | e => K0 Q e s') ⟨stt 24 [(1, .int .i64 a1), (5, .sl 1 2 x5out), (8, .sl 0 2 a0), (9, .int .i64 (lenI a0)), (10, .int .i64 x10)], [], Hh⟩ = r0 a0 a1 Q x5out x10 Hh := by kernel_rfl
theorem L0_step {a0 : List (List AV)} {a1 : Int} {Q : AV → Heap → Prop} {x5out : List (List AV)} {x10 : Int} {Hh : Heap} (h : r0 a0 a1 Q x5out x10 Hh) : L0 a0 a1 Q x5out x10 Hh := ALoop_unfold ((r0_eq a0 a1 Q x5out x10 Hh).mpr h)
def t (a0 : List (List AV)) (a1 : Int) (H : Heap) (Q : AV → Heap → Prop) : Prop :=
  L0 a0 a1 Q [] 0 H
theorem t_eq (a0 : List (List AV)) (a1 : Int) (H : Heap) (Q : AV → Heap → Prop) : aBody E0 C 28 [.sl 0 2 a0, .int .i64 a1] H Q = t a0 a1 H Q := by kernel_rfl
theorem call {a0 : List (List AV)} {a1 : Int} {H : Heap} {Q : AV → Heap → Prop} (h : t a0 a1 H Q) : C 28 [.sl 0 2 a0, .int .i64 a1] H Q := Call_intro (E := E0) (by rw [t_eq]; exact h)
end F28
/-! ### slices.Clone[[]broker/api.Peer,broker/api.Peer]: function 29 -/
namespace F29
def t (a0 : List (List AV)) (H : Heap) (Q : AV → Heap → Prop) : Prop :=
  ∀ b_1 : Bool, (b_1 = true → a0 = []) → (cond b_1
  (Q (.nilsl) H)
  (G (room [] a0 16) (Q (.sl 1 2 a0) H)))
theorem t_eq (a0 : List (List AV)) (H : Heap) (Q : AV → Heap → Prop) : aBody E0 C 29 [.sl 0 2 a0] H Q = t a0 H Q := by kernel_rfl
theorem call {a0 : List (List AV)} {H : Heap} {Q : AV → Heap → Prop} (h : t a0 H Q) : C 29 [.sl 0 2 a0] H Q := Call_intro (E := E0) (by rw [t_eq]; exact h)
end F29
/-! ### slices.BinarySearchFunc[[]broker/api.Peer,broker/api.Peer,int]: function 30 -/
namespace F30
def K0 (Q : AV → Heap → Prop) : Ex → St → Prop := (contK E0 C (E0.L 30) [.block 0 0, .seq (codeAt (bodyOf E0 30) [1, 1, 1, 1]) 1] (finK E0 30 Q))
def L0 (a0 : List (List AV)) (a1 : Int) (Q : AV → Heap → Prop) (x9i : Int) (x10j : Int) (Hh : Heap) : Prop := ALoop (fun K s => awp E0 C (E0.L 30) (codeAt (bodyOf E0 30) [1, 1, 1, 0, 0, 0]) 1 s K) (clean [(0, 0), (1, 0), (2, 0), (8, 0), (9, 0), (10, 0)] 0) (K0 Q) ⟨stt 49 [(0, .sl 0 2 a0), (1, .int .i64 a1), (2, .fn 31 []), (8, .int .i64 (lenI a0)), (9, .int .i64 x9i), (10, .int .i64 x10j)], [], Hh⟩
def r0 (a0 : List (List AV)) (a1 : Int) (Q : AV → Heap → Prop) (x9i : Int) (x10j : Int) (Hh : Heap) : Prop :=
  cond (ltI x9i x10j)
  (G (leI 0 (IntKind.i64.wrap (shrW .u64 (IntKind.u64.wrap (addW .i64 x9i x10j)) 1))) (G (ltI (IntKind.i64.wrap (shrW .u64 (IntKind.u64.wrap (addW .i64 x9i x10j)) 1)) (lenI a0)) (G ((ce (ro a0 ((IntKind.i64.wrap (shrW .u64 (IntKind.u64.wrap (addW .i64 x9i x10j)) 1)).toNat)) 0).isInt .i64) (G ((ce (ro a0 ((IntKind.i64.wrap (shrW .u64 (IntKind.u64.wrap (addW .i64 x9i x10j)) 1)).toNat)) 1).isInt .i64) (C 31 [.agg [.int .i64 ((ce (ro a0 ((IntKind.i64.wrap (shrW .u64 (IntKind.u64.wrap (addW .i64 x9i x10j)) 1)).toNat)) 0).toInt), .int .i64 ((ce (ro a0 ((IntKind.i64.wrap (shrW .u64 (IntKind.u64.wrap (addW .i64 x9i x10j)) 1)).toNat)) 1).toInt)], .int .i64 a1] Hh.none fun v_1 H_2 =>
    G ((v_1).isInt .i64) (cond (ltI ((v_1).toInt) 0)
      (L0 a0 a1 Q (addW .i64 (IntKind.i64.wrap (shrW .u64 (IntKind.u64.wrap (addW .i64 x9i x10j)) 1)) 1) x10j (Hh.past H_2))
      (L0 a0 a1 Q x9i (IntKind.i64.wrap (shrW .u64 (IntKind.u64.wrap (addW .i64 x9i x10j)) 1)) (Hh.past H_2))))))))
  (cond (ltI x9i (lenI a0))
    (G (leI 0 x9i) (G (ltI x9i (lenI a0)) (G ((ce (ro a0 x9i.toNat) 0).isInt .i64) (G ((ce (ro a0 x9i.toNat) 1).isInt .i64) (C 31 [.agg [.int .i64 ((ce (ro a0 x9i.toNat) 0).toInt), .int .i64 ((ce (ro a0 x9i.toNat) 1).toInt)], .int .i64 a1] Hh.none fun v_3 H_4 =>
      G ((v_3).isInt .i64) (Q (.tup [.int .i64 x9i, .bool (eqI ((v_3).toInt) 0)]) (Hh.past H_4)))))))
    (Q (.tup [.int .i64 x9i, .bool false]) Hh))
theorem r0_eq (a0 : List (List AV)) (a1 : Int) (Q : AV → Heap → Prop) (x9i : Int) (x10j : Int) (Hh : Heap) : (fun K s => awp E0 C (E0.L 30) (codeAt (bodyOf E0 30) [1, 1, 1, 0, 0, 0]) 1 s K) (fun e s' => match e with | .normal => ALoop (fun K s => awp E0 C (E0.L 30) (codeAt (bodyOf E0 30) [1, 1, 1, 0, 0, 0]) 1 s K) (clean [(0, 0), (1, 0), (2, 0), (8, 0), (9, 0), (10, 0)] 0) (K0 Q) ((clean [(0, 0), (1, 0), (2, 0), (8, 0), (9, 0), (10, 0)] 0) s') | e => K0 Q e s') ⟨stt 49 [(0, .sl 0 2 a0), (1, .int .i64 a1), (2, .fn 31 []), (8, .int .i64 (lenI a0)), (9, .int .i64 x9i), (10, .int .i64 x10j)], [], Hh⟩ = r0 a0 a1 Q x9i x10j Hh := by kernel_rfl
theorem L0_step {a0 : List (List AV)} {a1 : Int} {Q : AV → Heap → Prop} {x9i : Int} {x10j : Int} {Hh : Heap} (h : r0 a0 a1 Q x9i x10j Hh) : L0 a0 a1 Q x9i x10j Hh := ALoop_unfold ((r0_eq a0 a1 Q x9i x10j Hh).mpr h)
def t (a0 : List (List AV)) (a1 : Int) (H : Heap) (Q : AV → Heap → Prop) : Prop :=
  L0 a0 a1 Q 0 (lenI a0) H
theorem t_eq (a0 : List (List AV)) (a1 : Int) (H : Heap) (Q : AV → Heap → Prop) : aBody E0 C 30 [.sl 0 2 a0, .int .i64 a1, .fn 31 []] H Q = t a0 a1 H Q := by kernel_rfl
theorem call {a0 : List (List AV)} {a1 : Int} {H : Heap} {Q : AV → Heap → Prop} (h : t a0 a1 H Q) : C 30 [.sl 0 2 a0, .int .i64 a1, .fn 31 []] H Q := Call_intro (E := E0) (by rw [t_eq]; exact h)
end F30
/-! ### broker/member.Seen$1: function 31 -/
namespace F31
def t (a0_0 : Int) (a0_1 : Int) (a1 : Int) (H : Heap) (Q : AV → Heap → Prop) : Prop :=
  C 32 [.int .i64 a0_0, .int .i64 a1] H.none fun v_1 H_2 =>
  G ((v_1).isInt .i64) (Q (.int .i64 ((v_1).toInt)) (H.past H_2))
theorem t_eq (a0_0 : Int) (a0_1 : Int) (a1 : Int) (H : Heap) (Q : AV → Heap → Prop) : aBody E0 C 31 [.agg [.int .i64 a0_0, .int .i64 a0_1], .int .i64 a1] H Q = t a0_0 a0_1 a1 H Q := by kernel_rfl
theorem call {a0_0 : Int} {a0_1 : Int} {a1 : Int} {H : Heap} {Q : AV → Heap → Prop} (h : t a0_0 a0_1 a1 H Q) : C 31 [.agg [.int .i64 a0_0, .int .i64 a0_1], .int .i64 a1] H Q := Call_intro (E := E0) (by rw [t_eq]; exact h)
end F31
/-! ### cmp.Compare[int]: function 32 -/
namespace F32
def t (a0 : Int) (a1 : Int) (H : Heap) (Q : AV → Heap → Prop) : Prop :=
  C 38 [.int .i64 a0] H.none fun v_1 H_2 =>
  G ((v_1).isBool) (C 38 [.int .i64 a1] ((H.past H_2).none) fun v_3 H_4 =>
    G ((v_3).isBool) (cond ((v_1).toBool)
      (cond ((v_3).toBool)
        (Q (.int .i64 0) (H.past H_4))
        (Q (.int .i64 (-1)) (H.past H_4)))
      (cond ((v_3).toBool)
        (Q (.int .i64 1) (H.past H_4))
        (cond (ltI a0 a1)
          (Q (.int .i64 (-1)) (H.past H_4))
          (cond (ltI a1 a0)
            (Q (.int .i64 1) (H.past H_4))
            (Q (.int .i64 0) (H.past H_4)))))))
theorem t_eq (a0 : Int) (a1 : Int) (H : Heap) (Q : AV → Heap → Prop) : aBody E0 C 32 [.int .i64 a0, .int .i64 a1] H Q = t a0 a1 H Q := by kernel_rfl
theorem call {a0 : Int} {a1 : Int} {H : Heap} {Q : AV → Heap → Prop} (h : t a0 a1 H Q) : C 32 [.int .i64 a0, .int .i64 a1] H Q := Call_intro (E := E0) (by rw [t_eq]; exact h)
end F32
/-! ### slices.Insert[[]broker/api.Peer,broker/api.Peer]: function 33h -/
namespace F33h
def t (a0j : Nat) (a0n : Nat) (a0c : Nat) (a1 : Int) (a2 : List (List AV)) (H : Heap) (Q : AV → Heap → Prop) : Prop :=
  G (leI 0 a1) (G (leI a1 ((a0n : Nat) : Int)) (G (leI ((a0n : Nat) : Int) ((a0c : Nat) : Int)) (G (leI ((a0c : Nat) : Int) ((a0c : Nat) : Int)) (cond (eqI (lenI a2) 0)
  (Q (.hs a0j 0 a0n a0c 2) H)
  (cond (eqI a1 ((a0n : Nat) : Int))
    (G ((H.get a0j).isRows 2) (cond (Nat.ble (a0n + a2.length) a0c)
      (G (Nat.ble ((0 + a0n) + a2.length) (H.get a0j).xs.length) (Q (.hs a0j 0 (a0n + a2.length) a0c 2) (H.set a0j (.rows 2 (splice (H.get a0j).xs (0 + a0n) a2)))))
      (G (room (((H.get a0j).xs.drop 0).take a0n) a2 16) (G (Nat.ble (0 + a0n) (H.get a0j).xs.length) (∀ c_1 : Nat, a0n + a2.length ≤ c_1 → (a0n + a2.length ≤ 140737488355328 → c_1 ≤ 9223372036854775807) → (Q (.hs H.next 0 (a0n + a2.length) c_1 2) (H.push (.rows 2 (pad 2 c_1 ((((H.get a0j).xs.drop 0).take a0n) ++ a2))))))))))
    (cond (ltI ((a0c : Nat) : Int) (addW .i64 ((a0n : Nat) : Int) (lenI a2)))
      (G (leI 0 a1) (G (leI a1 ((a0c : Nat) : Int)) (G (leI ((a0c : Nat) : Int) ((a0c : Nat) : Int)) (G ((H.get a0j).isRows 2) (G (leI 0 (subW .i64 (addW .i64 ((a0n : Nat) : Int) (lenI a2)) a1)) (G (roomN (subW .i64 (addW .i64 ((a0n : Nat) : Int) (lenI a2)) a1) 16) (cond (Nat.ble (a1.toNat + ((List.replicate ((subW .i64 (addW .i64 ((a0n : Nat) : Int) (lenI a2)) a1).toNat) ([.int .i64 0, .int .i64 0] : List AV)).length)) a0c)
        (G (Nat.ble ((0 + a1.toNat) + ((List.replicate ((subW .i64 (addW .i64 ((a0n : Nat) : Int) (lenI a2)) a1).toNat) ([.int .i64 0, .int .i64 0] : List AV)).length)) (H.get a0j).xs.length) (G (leI 0 a1) (G (leI a1 ((a1.toNat + ((List.replicate ((subW .i64 (addW .i64 ((a0n : Nat) : Int) (lenI a2)) a1).toNat) ([.int .i64 0, .int .i64 0] : List AV)).length) : Nat) : Int)) (G (leI ((a1.toNat + ((List.replicate ((subW .i64 (addW .i64 ((a0n : Nat) : Int) (lenI a2)) a1).toNat) ([.int .i64 0, .int .i64 0] : List AV)).length) : Nat) : Int) ((a0c : Nat) : Int)) (G (leI ((a0c : Nat) : Int) ((a0c : Nat) : Int)) (G (((H.set a0j (.rows 2 (splice (H.get a0j).xs (0 + a1.toNat) (List.replicate ((subW .i64 (addW .i64 ((a0n : Nat) : Int) (lenI a2)) a1).toNat) ([.int .i64 0, .int .i64 0] : List AV))))).get a0j).isRows 2) (G (Nat.ble ((0 + a1.toNat) + ((((a1.toNat + ((List.replicate ((subW .i64 (addW .i64 ((a0n : Nat) : Int) (lenI a2)) a1).toNat) ([.int .i64 0, .int .i64 0] : List AV)).length) : Nat) : Int).toNat) - a1.toNat)) ((H.set a0j (.rows 2 (splice (H.get a0j).xs (0 + a1.toNat) (List.replicate ((subW .i64 (addW .i64 ((a0n : Nat) : Int) (lenI a2)) a1).toNat) ([.int .i64 0, .int .i64 0] : List AV))))).get a0j).xs.length) (G (leI 0 (addW .i64 a1 (lenI a2))) (G (leI (addW .i64 a1 (lenI a2)) ((a1.toNat + ((List.replicate ((subW .i64 (addW .i64 ((a0n : Nat) : Int) (lenI a2)) a1).toNat) ([.int .i64 0, .int .i64 0] : List AV)).length) : Nat) : Int)) (G (leI ((a1.toNat + ((List.replicate ((subW .i64 (addW .i64 ((a0n : Nat) : Int) (lenI a2)) a1).toNat) ([.int .i64 0, .int .i64 0] : List AV)).length) : Nat) : Int) ((a0c : Nat) : Int)) (G (leI ((a0c : Nat) : Int) ((a0c : Nat) : Int)) (G (leI 0 a1) (G (leI a1 ((a0n : Nat) : Int)) (G (leI ((a0n : Nat) : Int) ((a0c : Nat) : Int)) (G (leI ((a0c : Nat) : Int) ((a0c : Nat) : Int)) (G ((((H.set a0j (.rows 2 (splice (H.get a0j).xs (0 + a1.toNat) (List.replicate ((subW .i64 (addW .i64 ((a0n : Nat) : Int) (lenI a2)) a1).toNat) ([.int .i64 0, .int .i64 0] : List AV))))).set a0j (.rows 2 (splice ((H.set a0j (.rows 2 (splice (H.get a0j).xs (0 + a1.toNat) (List.replicate ((subW .i64 (addW .i64 ((a0n : Nat) : Int) (lenI a2)) a1).toNat) ([.int .i64 0, .int .i64 0] : List AV))))).get a0j).xs (0 + a1.toNat) (a2.take ((((a1.toNat + ((List.replicate ((subW .i64 (addW .i64 ((a0n : Nat) : Int) (lenI a2)) a1).toNat) ([.int .i64 0, .int .i64 0] : List AV)).length) : Nat) : Int).toNat) - a1.toNat))))).get a0j).isRows 2) (G (Nat.ble ((0 + ((addW .i64 a1 (lenI a2)).toNat)) + ((((a1.toNat + ((List.replicate ((subW .i64 (addW .i64 ((a0n : Nat) : Int) (lenI a2)) a1).toNat) ([.int .i64 0, .int .i64 0] : List AV)).length) : Nat) : Int).toNat) - ((addW .i64 a1 (lenI a2)).toNat))) (((H.set a0j (.rows 2 (splice (H.get a0j).xs (0 + a1.toNat) (List.replicate ((subW .i64 (addW .i64 ((a0n : Nat) : Int) (lenI a2)) a1).toNat) ([.int .i64 0, .int .i64 0] : List AV))))).set a0j (.rows 2 (splice ((H.set a0j (.rows 2 (splice (H.get a0j).xs (0 + a1.toNat) (List.replicate ((subW .i64 (addW .i64 ((a0n : Nat) : Int) (lenI a2)) a1).toNat) ([.int .i64 0, .int .i64 0] : List AV))))).get a0j).xs (0 + a1.toNat) (a2.take ((((a1.toNat + ((List.replicate ((subW .i64 (addW .i64 ((a0n : Nat) : Int) (lenI a2)) a1).toNat) ([.int .i64 0, .int .i64 0] : List AV)).length) : Nat) : Int).toNat) - a1.toNat))))).get a0j).xs.length) (G ((((H.set a0j (.rows 2 (splice (H.get a0j).xs (0 + a1.toNat) (List.replicate ((subW .i64 (addW .i64 ((a0n : Nat) : Int) (lenI a2)) a1).toNat) ([.int .i64 0, .int .i64 0] : List AV))))).set a0j (.rows 2 (splice ((H.set a0j (.rows 2 (splice (H.get a0j).xs (0 + a1.toNat) (List.replicate ((subW .i64 (addW .i64 ((a0n : Nat) : Int) (lenI a2)) a1).toNat) ([.int .i64 0, .int .i64 0] : List AV))))).get a0j).xs (0 + a1.toNat) (a2.take ((((a1.toNat + ((List.replicate ((subW .i64 (addW .i64 ((a0n : Nat) : Int) (lenI a2)) a1).toNat) ([.int .i64 0, .int .i64 0] : List AV)).length) : Nat) : Int).toNat) - a1.toNat))))).get a0j).isRows 2) (G (Nat.ble ((0 + a1.toNat) + (a0n - a1.toNat)) (((H.set a0j (.rows 2 (splice (H.get a0j).xs (0 + a1.toNat) (List.replicate ((subW .i64 (addW .i64 ((a0n : Nat) : Int) (lenI a2)) a1).toNat) ([.int .i64 0, .int .i64 0] : List AV))))).set a0j (.rows 2 (splice ((H.set a0j (.rows 2 (splice (H.get a0j).xs (0 + a1.toNat) (List.replicate ((subW .i64 (addW .i64 ((a0n : Nat) : Int) (lenI a2)) a1).toNat) ([.int .i64 0, .int .i64 0] : List AV))))).get a0j).xs (0 + a1.toNat) (a2.take ((((a1.toNat + ((List.replicate ((subW .i64 (addW .i64 ((a0n : Nat) : Int) (lenI a2)) a1).toNat) ([.int .i64 0, .int .i64 0] : List AV)).length) : Nat) : Int).toNat) - a1.toNat))))).get a0j).xs.length) (Q (.hs a0j 0 (a1.toNat + ((List.replicate ((subW .i64 (addW .i64 ((a0n : Nat) : Int) (lenI a2)) a1).toNat) ([.int .i64 0, .int .i64 0] : List AV)).length)) a0c 2) (((H.set a0j (.rows 2 (splice (H.get a0j).xs (0 + a1.toNat) (List.replicate ((subW .i64 (addW .i64 ((a0n : Nat) : Int) (lenI a2)) a1).toNat) ([.int .i64 0, .int .i64 0] : List AV))))).set a0j (.rows 2 (splice ((H.set a0j (.rows 2 (splice (H.get a0j).xs (0 + a1.toNat) (List.replicate ((subW .i64 (addW .i64 ((a0n : Nat) : Int) (lenI a2)) a1).toNat) ([.int .i64 0, .int .i64 0] : List AV))))).get a0j).xs (0 + a1.toNat) (a2.take ((((a1.toNat + ((List.replicate ((subW .i64 (addW .i64 ((a0n : Nat) : Int) (lenI a2)) a1).toNat) ([.int .i64 0, .int .i64 0] : List AV)).length) : Nat) : Int).toNat) - a1.toNat))))).set a0j (.rows 2 (splice (((H.set a0j (.rows 2 (splice (H.get a0j).xs (0 + a1.toNat) (List.replicate ((subW .i64 (addW .i64 ((a0n : Nat) : Int) (lenI a2)) a1).toNat) ([.int .i64 0, .int .i64 0] : List AV))))).set a0j (.rows 2 (splice ((H.set a0j (.rows 2 (splice (H.get a0j).xs (0 + a1.toNat) (List.replicate ((subW .i64 (addW .i64 ((a0n : Nat) : Int) (lenI a2)) a1).toNat) ([.int .i64 0, .int .i64 0] : List AV))))).get a0j).xs (0 + a1.toNat) (a2.take ((((a1.toNat + ((List.replicate ((subW .i64 (addW .i64 ((a0n : Nat) : Int) (lenI a2)) a1).toNat) ([.int .i64 0, .int .i64 0] : List AV)).length) : Nat) : Int).toNat) - a1.toNat))))).get a0j).xs (0 + ((addW .i64 a1 (lenI a2)).toNat)) ((((((H.set a0j (.rows 2 (splice (H.get a0j).xs (0 + a1.toNat) (List.replicate ((subW .i64 (addW .i64 ((a0n : Nat) : Int) (lenI a2)) a1).toNat) ([.int .i64 0, .int .i64 0] : List AV))))).set a0j (.rows 2 (splice ((H.set a0j (.rows 2 (splice (H.get a0j).xs (0 + a1.toNat) (List.replicate ((subW .i64 (addW .i64 ((a0n : Nat) : Int) (lenI a2)) a1).toNat) ([.int .i64 0, .int .i64 0] : List AV))))).get a0j).xs (0 + a1.toNat) (a2.take ((((a1.toNat + ((List.replicate ((subW .i64 (addW .i64 ((a0n : Nat) : Int) (lenI a2)) a1).toNat) ([.int .i64 0, .int .i64 0] : List AV)).length) : Nat) : Int).toNat) - a1.toNat))))).get a0j).xs.drop (0 + a1.toNat)).take (a0n - a1.toNat)).take ((((a1.toNat + ((List.replicate ((subW .i64 (addW .i64 ((a0n : Nat) : Int) (lenI a2)) a1).toNat) ([.int .i64 0, .int .i64 0] : List AV)).length) : Nat) : Int).toNat) - ((addW .i64 a1 (lenI a2)).toNat))))))))))))))))))))))))))
        (G (room (((H.get a0j).xs.drop 0).take a1.toNat) (List.replicate ((subW .i64 (addW .i64 ((a0n : Nat) : Int) (lenI a2)) a1).toNat) ([.int .i64 0, .int .i64 0] : List AV)) 16) (G (Nat.ble (0 + a1.toNat) (H.get a0j).xs.length) (∀ c_2 : Nat, a1.toNat + ((List.replicate ((subW .i64 (addW .i64 ((a0n : Nat) : Int) (lenI a2)) a1).toNat) ([.int .i64 0, .int .i64 0] : List AV)).length) ≤ c_2 → (a1.toNat + ((List.replicate ((subW .i64 (addW .i64 ((a0n : Nat) : Int) (lenI a2)) a1).toNat) ([.int .i64 0, .int .i64 0] : List AV)).length) ≤ 140737488355328 → c_2 ≤ 9223372036854775807) → (G (leI 0 a1) (G (leI a1 ((a1.toNat + ((List.replicate ((subW .i64 (addW .i64 ((a0n : Nat) : Int) (lenI a2)) a1).toNat) ([.int .i64 0, .int .i64 0] : List AV)).length) : Nat) : Int)) (G (leI ((a1.toNat + ((List.replicate ((subW .i64 (addW .i64 ((a0n : Nat) : Int) (lenI a2)) a1).toNat) ([.int .i64 0, .int .i64 0] : List AV)).length) : Nat) : Int) ((c_2 : Nat) : Int)) (G (leI ((c_2 : Nat) : Int) ((c_2 : Nat) : Int)) (G (((H.push (.rows 2 (pad 2 c_2 ((((H.get a0j).xs.drop 0).take a1.toNat) ++ (List.replicate ((subW .i64 (addW .i64 ((a0n : Nat) : Int) (lenI a2)) a1).toNat) ([.int .i64 0, .int .i64 0] : List AV)))))).get H.next).isRows 2) (G (Nat.ble ((0 + a1.toNat) + ((((a1.toNat + ((List.replicate ((subW .i64 (addW .i64 ((a0n : Nat) : Int) (lenI a2)) a1).toNat) ([.int .i64 0, .int .i64 0] : List AV)).length) : Nat) : Int).toNat) - a1.toNat)) ((H.push (.rows 2 (pad 2 c_2 ((((H.get a0j).xs.drop 0).take a1.toNat) ++ (List.replicate ((subW .i64 (addW .i64 ((a0n : Nat) : Int) (lenI a2)) a1).toNat) ([.int .i64 0, .int .i64 0] : List AV)))))).get H.next).xs.length) (G (leI 0 (addW .i64 a1 (lenI a2))) (G (leI (addW .i64 a1 (lenI a2)) ((a1.toNat + ((List.replicate ((subW .i64 (addW .i64 ((a0n : Nat) : Int) (lenI a2)) a1).toNat) ([.int .i64 0, .int .i64 0] : List AV)).length) : Nat) : Int)) (G (leI ((a1.toNat + ((List.replicate ((subW .i64 (addW .i64 ((a0n : Nat) : Int) (lenI a2)) a1).toNat) ([.int .i64 0, .int .i64 0] : List AV)).length) : Nat) : Int) ((c_2 : Nat) : Int)) (G (leI ((c_2 : Nat) : Int) ((c_2 : Nat) : Int)) (G (leI 0 a1) (G (leI a1 ((a0n : Nat) : Int)) (G (leI ((a0n : Nat) : Int) ((a0c : Nat) : Int)) (G (leI ((a0c : Nat) : Int) ((a0c : Nat) : Int)) (G ((((H.push (.rows 2 (pad 2 c_2 ((((H.get a0j).xs.drop 0).take a1.toNat) ++ (List.replicate ((subW .i64 (addW .i64 ((a0n : Nat) : Int) (lenI a2)) a1).toNat) ([.int .i64 0, .int .i64 0] : List AV)))))).set H.next (.rows 2 (splice ((H.push (.rows 2 (pad 2 c_2 ((((H.get a0j).xs.drop 0).take a1.toNat) ++ (List.replicate ((subW .i64 (addW .i64 ((a0n : Nat) : Int) (lenI a2)) a1).toNat) ([.int .i64 0, .int .i64 0] : List AV)))))).get H.next).xs (0 + a1.toNat) (a2.take ((((a1.toNat + ((List.replicate ((subW .i64 (addW .i64 ((a0n : Nat) : Int) (lenI a2)) a1).toNat) ([.int .i64 0, .int .i64 0] : List AV)).length) : Nat) : Int).toNat) - a1.toNat))))).get H.next).isRows 2) (G (Nat.ble ((0 + ((addW .i64 a1 (lenI a2)).toNat)) + ((((a1.toNat + ((List.replicate ((subW .i64 (addW .i64 ((a0n : Nat) : Int) (lenI a2)) a1).toNat) ([.int .i64 0, .int .i64 0] : List AV)).length) : Nat) : Int).toNat) - ((addW .i64 a1 (lenI a2)).toNat))) (((H.push (.rows 2 (pad 2 c_2 ((((H.get a0j).xs.drop 0).take a1.toNat) ++ (List.replicate ((subW .i64 (addW .i64 ((a0n : Nat) : Int) (lenI a2)) a1).toNat) ([.int .i64 0, .int .i64 0] : List AV)))))).set H.next (.rows 2 (splice ((H.push (.rows 2 (pad 2 c_2 ((((H.get a0j).xs.drop 0).take a1.toNat) ++ (List.replicate ((subW .i64 (addW .i64 ((a0n : Nat) : Int) (lenI a2)) a1).toNat) ([.int .i64 0, .int .i64 0] : List AV)))))).get H.next).xs (0 + a1.toNat) (a2.take ((((a1.toNat + ((List.replicate ((subW .i64 (addW .i64 ((a0n : Nat) : Int) (lenI a2)) a1).toNat) ([.int .i64 0, .int .i64 0] : List AV)).length) : Nat) : Int).toNat) - a1.toNat))))).get H.next).xs.length) (G ((((H.push (.rows 2 (pad 2 c_2 ((((H.get a0j).xs.drop 0).take a1.toNat) ++ (List.replicate ((subW .i64 (addW .i64 ((a0n : Nat) : Int) (lenI a2)) a1).toNat) ([.int .i64 0, .int .i64 0] : List AV)))))).set H.next (.rows 2 (splice ((H.push (.rows 2 (pad 2 c_2 ((((H.get a0j).xs.drop 0).take a1.toNat) ++ (List.replicate ((subW .i64 (addW .i64 ((a0n : Nat) : Int) (lenI a2)) a1).toNat) ([.int .i64 0, .int .i64 0] : List AV)))))).get H.next).xs (0 + a1.toNat) (a2.take ((((a1.toNat + ((List.replicate ((subW .i64 (addW .i64 ((a0n : Nat) : Int) (lenI a2)) a1).toNat) ([.int .i64 0, .int .i64 0] : List AV)).length) : Nat) : Int).toNat) - a1.toNat))))).get a0j).isRows 2) (G (Nat.ble ((0 + a1.toNat) + (a0n - a1.toNat)) (((H.push (.rows 2 (pad 2 c_2 ((((H.get a0j).xs.drop 0).take a1.toNat) ++ (List.replicate ((subW .i64 (addW .i64 ((a0n : Nat) : Int) (lenI a2)) a1).toNat) ([.int .i64 0, .int .i64 0] : List AV)))))).set H.next (.rows 2 (splice ((H.push (.rows 2 (pad 2 c_2 ((((H.get a0j).xs.drop 0).take a1.toNat) ++ (List.replicate ((subW .i64 (addW .i64 ((a0n : Nat) : Int) (lenI a2)) a1).toNat) ([.int .i64 0, .int .i64 0] : List AV)))))).get H.next).xs (0 + a1.toNat) (a2.take ((((a1.toNat + ((List.replicate ((subW .i64 (addW .i64 ((a0n : Nat) : Int) (lenI a2)) a1).toNat) ([.int .i64 0, .int .i64 0] : List AV)).length) : Nat) : Int).toNat) - a1.toNat))))).get a0j).xs.length) (Q (.hs H.next 0 (a1.toNat + ((List.replicate ((subW .i64 (addW .i64 ((a0n : Nat) : Int) (lenI a2)) a1).toNat) ([.int .i64 0, .int .i64 0] : List AV)).length)) c_2 2) (((H.push (.rows 2 (pad 2 c_2 ((((H.get a0j).xs.drop 0).take a1.toNat) ++ (List.replicate ((subW .i64 (addW .i64 ((a0n : Nat) : Int) (lenI a2)) a1).toNat) ([.int .i64 0, .int .i64 0] : List AV)))))).set H.next (.rows 2 (splice ((H.push (.rows 2 (pad 2 c_2 ((((H.get a0j).xs.drop 0).take a1.toNat) ++ (List.replicate ((subW .i64 (addW .i64 ((a0n : Nat) : Int) (lenI a2)) a1).toNat) ([.int .i64 0, .int .i64 0] : List AV)))))).get H.next).xs (0 + a1.toNat) (a2.take ((((a1.toNat + ((List.replicate ((subW .i64 (addW .i64 ((a0n : Nat) : Int) (lenI a2)) a1).toNat) ([.int .i64 0, .int .i64 0] : List AV)).length) : Nat) : Int).toNat) - a1.toNat))))).set H.next (.rows 2 (splice (((H.push (.rows 2 (pad 2 c_2 ((((H.get a0j).xs.drop 0).take a1.toNat) ++ (List.replicate ((subW .i64 (addW .i64 ((a0n : Nat) : Int) (lenI a2)) a1).toNat) ([.int .i64 0, .int .i64 0] : List AV)))))).set H.next (.rows 2 (splice ((H.push (.rows 2 (pad 2 c_2 ((((H.get a0j).xs.drop 0).take a1.toNat) ++ (List.replicate ((subW .i64 (addW .i64 ((a0n : Nat) : Int) (lenI a2)) a1).toNat) ([.int .i64 0, .int .i64 0] : List AV)))))).get H.next).xs (0 + a1.toNat) (a2.take ((((a1.toNat + ((List.replicate ((subW .i64 (addW .i64 ((a0n : Nat) : Int) (lenI a2)) a1).toNat) ([.int .i64 0, .int .i64 0] : List AV)).length) : Nat) : Int).toNat) - a1.toNat))))).get H.next).xs (0 + ((addW .i64 a1 (lenI a2)).toNat)) ((((((H.push (.rows 2 (pad 2 c_2 ((((H.get a0j).xs.drop 0).take a1.toNat) ++ (List.replicate ((subW .i64 (addW .i64 ((a0n : Nat) : Int) (lenI a2)) a1).toNat) ([.int .i64 0, .int .i64 0] : List AV)))))).set H.next (.rows 2 (splice ((H.push (.rows 2 (pad 2 c_2 ((((H.get a0j).xs.drop 0).take a1.toNat) ++ (List.replicate ((subW .i64 (addW .i64 ((a0n : Nat) : Int) (lenI a2)) a1).toNat) ([.int .i64 0, .int .i64 0] : List AV)))))).get H.next).xs (0 + a1.toNat) (a2.take ((((a1.toNat + ((List.replicate ((subW .i64 (addW .i64 ((a0n : Nat) : Int) (lenI a2)) a1).toNat) ([.int .i64 0, .int .i64 0] : List AV)).length) : Nat) : Int).toNat) - a1.toNat))))).get a0j).xs.drop (0 + a1.toNat)).take (a0n - a1.toNat)).take ((((a1.toNat + ((List.replicate ((subW .i64 (addW .i64 ((a0n : Nat) : Int) (lenI a2)) a1).toNat) ([.int .i64 0, .int .i64 0] : List AV)).length) : Nat) : Int).toNat) - ((addW .i64 a1 (lenI a2)).toNat)))))))))))))))))))))))))))))))))))
      (G (leI 0 (addW .i64 ((a0n : Nat) : Int) (lenI a2))) (G (leI (addW .i64 ((a0n : Nat) : Int) (lenI a2)) ((a0c : Nat) : Int)) (G (leI ((a0c : Nat) : Int) ((a0c : Nat) : Int)) (G (leI 0 (addW .i64 a1 (lenI a2))) (G (leI (addW .i64 a1 (lenI a2)) (((addW .i64 ((a0n : Nat) : Int) (lenI a2)).toNat : Nat) : Int)) (G (leI (((addW .i64 ((a0n : Nat) : Int) (lenI a2)).toNat : Nat) : Int) ((a0c : Nat) : Int)) (G (leI ((a0c : Nat) : Int) ((a0c : Nat) : Int)) (G ((H.get a0j).isRows 2) (G (leI 0 (addW .i64 a1 (lenI a2))) (G (leI (addW .i64 a1 (lenI a2)) (((addW .i64 ((a0n : Nat) : Int) (lenI a2)).toNat : Nat) : Int)) (G (leI (((addW .i64 ((a0n : Nat) : Int) (lenI a2)).toNat : Nat) : Int) ((a0c : Nat) : Int)) (G (leI ((a0c : Nat) : Int) ((a0c : Nat) : Int)) (G (leI 0 a1) (G (leI a1 (((addW .i64 ((a0n : Nat) : Int) (lenI a2)).toNat : Nat) : Int)) (G (leI (((addW .i64 ((a0n : Nat) : Int) (lenI a2)).toNat : Nat) : Int) ((a0c : Nat) : Int)) (G (leI ((a0c : Nat) : Int) ((a0c : Nat) : Int)) (G ((H.get a0j).isRows 2) (G (Nat.ble ((0 + ((addW .i64 a1 (lenI a2)).toNat)) + (((((addW .i64 ((a0n : Nat) : Int) (lenI a2)).toNat : Nat) : Int).toNat) - ((addW .i64 a1 (lenI a2)).toNat))) (H.get a0j).xs.length) (G ((H.get a0j).isRows 2) (G (Nat.ble ((0 + a1.toNat) + (((((addW .i64 ((a0n : Nat) : Int) (lenI a2)).toNat : Nat) : Int).toNat) - a1.toNat)) (H.get a0j).xs.length) (G (leI 0 a1) (G (leI a1 (((addW .i64 ((a0n : Nat) : Int) (lenI a2)).toNat : Nat) : Int)) (G (leI (((addW .i64 ((a0n : Nat) : Int) (lenI a2)).toNat : Nat) : Int) ((a0c : Nat) : Int)) (G (leI ((a0c : Nat) : Int) ((a0c : Nat) : Int)) (G (((H.set a0j (.rows 2 (splice (H.get a0j).xs (0 + ((addW .i64 a1 (lenI a2)).toNat)) ((((H.get a0j).xs.drop (0 + a1.toNat)).take (((((addW .i64 ((a0n : Nat) : Int) (lenI a2)).toNat : Nat) : Int).toNat) - a1.toNat)).take (((((addW .i64 ((a0n : Nat) : Int) (lenI a2)).toNat : Nat) : Int).toNat) - ((addW .i64 a1 (lenI a2)).toNat)))))).get a0j).isRows 2) (G (Nat.ble ((0 + a1.toNat) + (((((addW .i64 ((a0n : Nat) : Int) (lenI a2)).toNat : Nat) : Int).toNat) - a1.toNat)) ((H.set a0j (.rows 2 (splice (H.get a0j).xs (0 + ((addW .i64 a1 (lenI a2)).toNat)) ((((H.get a0j).xs.drop (0 + a1.toNat)).take (((((addW .i64 ((a0n : Nat) : Int) (lenI a2)).toNat : Nat) : Int).toNat) - a1.toNat)).take (((((addW .i64 ((a0n : Nat) : Int) (lenI a2)).toNat : Nat) : Int).toNat) - ((addW .i64 a1 (lenI a2)).toNat)))))).get a0j).xs.length) (Q (.hs a0j 0 ((addW .i64 ((a0n : Nat) : Int) (lenI a2)).toNat) a0c 2) ((H.set a0j (.rows 2 (splice (H.get a0j).xs (0 + ((addW .i64 a1 (lenI a2)).toNat)) ((((H.get a0j).xs.drop (0 + a1.toNat)).take (((((addW .i64 ((a0n : Nat) : Int) (lenI a2)).toNat : Nat) : Int).toNat) - a1.toNat)).take (((((addW .i64 ((a0n : Nat) : Int) (lenI a2)).toNat : Nat) : Int).toNat) - ((addW .i64 a1 (lenI a2)).toNat)))))).set a0j (.rows 2 (splice ((H.set a0j (.rows 2 (splice (H.get a0j).xs (0 + ((addW .i64 a1 (lenI a2)).toNat)) ((((H.get a0j).xs.drop (0 + a1.toNat)).take (((((addW .i64 ((a0n : Nat) : Int) (lenI a2)).toNat : Nat) : Int).toNat) - a1.toNat)).take (((((addW .i64 ((a0n : Nat) : Int) (lenI a2)).toNat : Nat) : Int).toNat) - ((addW .i64 a1 (lenI a2)).toNat)))))).get a0j).xs (0 + a1.toNat) (a2.take (((((addW .i64 ((a0n : Nat) : Int) (lenI a2)).toNat : Nat) : Int).toNat) - a1.toNat))))))))))))))))))))))))))))))))))))))
theorem t_eq (a0j : Nat) (a0n : Nat) (a0c : Nat) (a1 : Int) (a2 : List (List AV)) (H : Heap) (Q : AV → Heap → Prop) : aBody E0 C 33 [.hs a0j 0 a0n a0c 2, .int .i64 a1, .sl 0 2 a2] H Q = t a0j a0n a0c a1 a2 H Q := by kernel_rfl
theorem call {a0j : Nat} {a0n : Nat} {a0c : Nat} {a1 : Int} {a2 : List (List AV)} {H : Heap} {Q : AV → Heap → Prop} (h : t a0j a0n a0c a1 a2 H Q) : C 33 [.hs a0j 0 a0n a0c 2, .int .i64 a1, .sl 0 2 a2] H Q := Call_intro (E := E0) (by rw [t_eq]; exact h)
end F33h
/-! ### slices.Insert[[]broker/api.Peer,broker/api.Peer]: function 33n -/
namespace F33n
def t (a1 : Int) (a2 : List (List AV)) (H : Heap) (Q : AV → Heap → Prop) : Prop :=
  G (eqI a1 0) (cond (eqI (lenI a2) 0)
  (Q (.nilsl) H)
  (cond (eqI a1 0)
    (G (room [] a2 16) (Q (.sl 1 2 a2) H))
    (cond (ltI 0 (addW .i64 0 (lenI a2)))
      (G (eqI a1 0) (False))
      (G (eqI (addW .i64 0 (lenI a2)) 0) (G (eqI (addW .i64 a1 (lenI a2)) 0) (G (eqI (addW .i64 a1 (lenI a2)) 0) (G (eqI a1 0) (G (eqI a1 0) (Q (.nilsl) H)))))))))
theorem t_eq (a1 : Int) (a2 : List (List AV)) (H : Heap) (Q : AV → Heap → Prop) : aBody E0 C 33 [.nilsl, .int .i64 a1, .sl 0 2 a2] H Q = t a1 a2 H Q := by kernel_rfl
theorem call {a1 : Int} {a2 : List (List AV)} {H : Heap} {Q : AV → Heap → Prop} (h : t a1 a2 H Q) : C 33 [.nilsl, .int .i64 a1, .sl 0 2 a2] H Q := Call_intro (E := E0) (by rw [t_eq]; exact h)
end F33n
/-! ### broker/member.unique: function 34h -/
namespace F34h
def t (a0j : Nat) (a0n : Nat) (a0c : Nat) (H : Heap) (Q : AV → Heap → Prop) : Prop :=
  C 41 [.hs a0j 0 a0n a0c 1] H fun v_1 H_2 =>
  G ((v_1).isTup && Nat.beq (v_1).tupVs.length 0) (C 42 [.hs a0j 0 a0n a0c 1] H_2 fun v_3 H_4 =>
    G ((v_3).isHs 1) (Q (.hs ((v_3).hsJ) ((v_3).hsO) ((v_3).hsN) ((v_3).hsC) 1) H_4))
theorem t_eq (a0j : Nat) (a0n : Nat) (a0c : Nat) (H : Heap) (Q : AV → Heap → Prop) : aBody E0 C 34 [.hs a0j 0 a0n a0c 1] H Q = t a0j a0n a0c H Q := by kernel_rfl
theorem call {a0j : Nat} {a0n : Nat} {a0c : Nat} {H : Heap} {Q : AV → Heap → Prop} (h : t a0j a0n a0c H Q) : C 34 [.hs a0j 0 a0n a0c 1] H Q := Call_intro (E := E0) (by rw [t_eq]; exact h)
end F34h
/-! ### broker/member.unique: function 34n -/
namespace F34n
def t  (H : Heap) (Q : AV → Heap → Prop) : Prop :=
  C 41 [.nilsl] H fun v_1 H_2 =>
  G ((v_1).isTup && Nat.beq (v_1).tupVs.length 0) (C 42 [.nilsl] H_2 fun v_3 H_4 =>
    G ((v_3).isNilsl) (Q (.nilsl) H_4))
theorem t_eq  (H : Heap) (Q : AV → Heap → Prop) : aBody E0 C 34 [.nilsl] H Q = t  H Q := by kernel_rfl
theorem call  {H : Heap} {Q : AV → Heap → Prop} (h : t  H Q) : C 34 [.nilsl] H Q := Call_intro (E := E0) (by rw [t_eq]; exact h)
end F34n
/-! ### broker/brokerref39.Set: function 35 -/
namespace F35
def t (a0 : List (List AV)) (H : Heap) (Q : AV → Heap → Prop) : Prop :=
  C 36 [.sl 0 1 a0] H.none fun v_1 H_2 =>
  G ((v_1).isOwn 1) (ioTurn C 41 1 ((v_1).slXs) [] (H.past H_2) fun y_3 H_4 =>
    ioBack C 42 1 y_3 [] H_4 fun y_5 H_6 =>
      Q (.sl 0 1 y_5) H_6)
theorem t_eq (a0 : List (List AV)) (H : Heap) (Q : AV → Heap → Prop) : aBody E0 C 35 [.sl 0 1 a0] H Q = t a0 H Q := by kernel_rfl
theorem call {a0 : List (List AV)} {H : Heap} {Q : AV → Heap → Prop} (h : t a0 H Q) : C 35 [.sl 0 1 a0] H Q := Call_intro (E := E0) (by rw [t_eq]; exact h)
end F35
/-! ### slices.Clone[[]int,int]: function 36 -/
namespace F36
def t (a0 : List (List AV)) (H : Heap) (Q : AV → Heap → Prop) : Prop :=
  ∀ b_1 : Bool, (b_1 = true → a0 = []) → (cond b_1
  (Q (.nilsl) H)
  (G (room [] a0 8) (Q (.sl 1 1 a0) H)))
theorem t_eq (a0 : List (List AV)) (H : Heap) (Q : AV → Heap → Prop) : aBody E0 C 36 [.sl 0 1 a0] H Q = t a0 H Q := by kernel_rfl
theorem call {a0 : List (List AV)} {H : Heap} {Q : AV → Heap → Prop} (h : t a0 H Q) : C 36 [.sl 0 1 a0] H Q := Call_intro (E := E0) (by rw [t_eq]; exact h)
end F36
/-! ### slices.Index[[]int,int]: function 37 -/
namespace F37
def K0 (Q : AV → Heap → Prop) : Ex → St → Prop := (contK E0 C (E0.L 37) [.block 0 0, .seq (codeAt (bodyOf E0 37) [1, 1]) 1] (finK E0 37 Q))
def L0 (a0 : List (List AV)) (a1 : Int) (Q : AV → Heap → Prop) (x8 : Int) (Hh : Heap) : Prop := ALoop (fun K s => awp E0 C (E0.L 37) (codeAt (bodyOf E0 37) [1, 0, 1, 0, 0]) 1 s K) (clean [(0, 0), (1, 0), (7, 0), (8, 0)] 0) (K0 Q) ⟨stt 19 [(0, .sl 0 1 a0), (1, .int .i64 a1), (7, .int .i64 (lenI a0)), (8, .int .i64 x8)], [], Hh⟩
def r0 (a0 : List (List AV)) (a1 : Int) (Q : AV → Heap → Prop) (x8 : Int) (Hh : Heap) : Prop :=
  cond (ltI x8 (lenI a0))
  (G (leI 0 x8) (G (ltI x8 (lenI a0)) (G ((ce (ro a0 x8.toNat) 0).isInt .i64) (cond (eqI a1 ((ce (ro a0 x8.toNat) 0).toInt))
    (Q (.int .i64 x8) Hh)
    (L0 a0 a1 Q (addW .i64 x8 1) Hh)))))
  (Q (.int .i64 (-1)) Hh)
theorem r0_eq (a0 : List (List AV)) (a1 : Int) (Q : AV → Heap → Prop) (x8 : Int) (Hh : Heap) : (fun K s => awp E0 C (E0.L 37) (codeAt (bodyOf E0 37) [1, 0, 1, 0, 0]) 1 s K) (fun e s' => match e with | .normal => ALoop (fun K s => awp E0 C (E0.L 37) (codeAt (bodyOf E0 37) [1, 0, 1, 0, 0]) 1 s K) (clean [(0, 0), (1, 0), (7, 0), (8, 0)] 0) (K0 Q) ((clean [(0, 0), (1, 0), (7, 0), (8, 0)] 0) s') | e => K0 Q e s') ⟨stt 19 [(0, .sl 0 1 a0), (1, .int .i64 a1), (7, .int .i64 (lenI a0)), (8, .int .i64 x8)], [], Hh⟩ = r0 a0 a1 Q x8 Hh := by kernel_rfl
theorem L0_step {a0 : List (List AV)} {a1 : Int} {Q : AV → Heap → Prop} {x8 : Int} {Hh : Heap} (h : r0 a0 a1 Q x8 Hh) : L0 a0 a1 Q x8 Hh := ALoop_unfold ((r0_eq a0 a1 Q x8 Hh).mpr h)
def t (a0 : List (List AV)) (a1 : Int) (H : Heap) (Q : AV → Heap → Prop) : Prop :=
  L0 a0 a1 Q 0 H
theorem t_eq (a0 : List (List AV)) (a1 : Int) (H : Heap) (Q : AV → Heap → Prop) : aBody E0 C 37 [.sl 0 1 a0, .int .i64 a1] H Q = t a0 a1 H Q := by kernel_rfl
theorem call {a0 : List (List AV)} {a1 : Int} {H : Heap} {Q : AV → Heap → Prop} (h : t a0 a1 H Q) : C 37 [.sl 0 1 a0, .int .i64 a1] H Q := Call_intro (E := E0) (by rw [t_eq]; exact h)
end F37
/-! ### cmp.isNaN[int]: function 38 -/
namespace F38
def t (a0 : Int) (H : Heap) (Q : AV → Heap → Prop) : Prop :=
  Q (.bool (!(eqI a0 a0))) H
theorem t_eq (a0 : Int) (H : Heap) (Q : AV → Heap → Prop) : aBody E0 C 38 [.int .i64 a0] H Q = t a0 H Q := by kernel_rfl
theorem call {a0 : Int} {H : Heap} {Q : AV → Heap → Prop} (h : t a0 H Q) : C 38 [.int .i64 a0] H Q := Call_intro (E := E0) (by rw [t_eq]; exact h)
end F38
/-! ### slices.Compact[[]int,int]: function 42h -/
namespace F42h
def K0 (Q : AV → Heap → Prop) : Ex → St → Prop := (contK E0 C (E0.L 42) [.block 0 0, .seq (codeAt (bodyOf E0 42) [1, 1, 1]) 2] (finK E0 42 Q))
def L0 (a0j : Nat) (a0n : Nat) (a0c : Nat) (Q : AV → Heap → Prop) (x3k : Int) (Hh : Heap) : Prop := ALoop (fun K s => awp E0 C (E0.L 42) (codeAt (bodyOf E0 42) [1, 1, 0, 1, 0, 0]) 1 s K) (clean [(0, 0), (3, 0)] 0) (K0 Q) ⟨stt 61 [(0, .hs a0j 0 a0n a0c 1), (3, .int .i64 x3k)], [], Hh⟩
def K1 (Q : AV → Heap → Prop) : Ex → St → Prop := (contK E0 C (E0.L 42) [.block 2 0, .seq (codeAt (bodyOf E0 42) [1, 1, 0, 1, 0, 0, 1, 0, 0, 1, 0, 1, 1]) 2, .block 1 0, .seq (codeAt (bodyOf E0 42) [1, 1, 0, 1, 0, 0, 1, 1]) 2, .loop (codeAt (bodyOf E0 42) [1, 1, 0, 1, 0, 0]) 1 [(0, 0), (3, 0)] 0, .block 0 0, .seq (codeAt (bodyOf E0 42) [1, 1, 1]) 2] (finK E0 42 Q))
def L1 (a0j : Nat) (a0n : Nat) (a0c : Nat) (Q : AV → Heap → Prop) (x3k : Int) (x4s2j : Nat) (x4s2o : Nat) (x4s2n : Nat) (x4s2c : Nat) (x5k2 : Int) (Hh : Heap) : Prop := ALoop (fun K s => awp E0 C (E0.L 42) (codeAt (bodyOf E0 42) [1, 1, 0, 1, 0, 0, 1, 0, 0, 1, 0, 1, 0, 1, 0, 0]) 2 s K) (clean [(0, 0), (3, 0), (4, 0), (5, 0)] 0) (K1 Q) ⟨stt 61 [(0, .hs a0j 0 a0n a0c 1), (3, .int .i64 x3k), (4, .hs x4s2j x4s2o x4s2n x4s2c 1), (5, .int .i64 x5k2)], [], Hh⟩
def r0 (a0j : Nat) (a0n : Nat) (a0c : Nat) (Q : AV → Heap → Prop) (x3k : Int) (Hh : Heap) : Prop :=
  cond (ltI x3k ((a0n : Nat) : Int))
  (G (leI 0 x3k) (G (ltI x3k ((a0n : Nat) : Int)) (G ((Hh.get a0j).isRows 1) (G ((ce ((Hh.get a0j).xs.getD (0 + x3k.toNat) []) 0).isInt .i64) (G (leI 0 (subW .i64 x3k 1)) (G (ltI (subW .i64 x3k 1) ((a0n : Nat) : Int)) (G ((Hh.get a0j).isRows 1) (G ((ce ((Hh.get a0j).xs.getD (0 + ((subW .i64 x3k 1).toNat)) []) 0).isInt .i64) (cond (eqI ((ce ((Hh.get a0j).xs.getD (0 + x3k.toNat) []) 0).toInt) ((ce ((Hh.get a0j).xs.getD (0 + ((subW .i64 x3k 1).toNat)) []) 0).toInt))
    (G (leI 0 x3k) (G (leI x3k ((a0n : Nat) : Int)) (G (leI ((a0n : Nat) : Int) ((a0c : Nat) : Int)) (G (leI ((a0c : Nat) : Int) ((a0c : Nat) : Int)) (L1 a0j a0n a0c Q x3k a0j (0 + x3k.toNat) (a0n - x3k.toNat) (a0c - x3k.toNat) 1 Hh)))))
    (L0 a0j a0n a0c Q (addW .i64 x3k 1) Hh))))))))))
  (Q (.hs a0j 0 a0n a0c 1) Hh)
theorem r0_eq (a0j : Nat) (a0n : Nat) (a0c : Nat) (Q : AV → Heap → Prop) (x3k : Int) (Hh : Heap) : (fun K s => awp E0 C (E0.L 42) (codeAt (bodyOf E0 42) [1, 1, 0, 1, 0, 0]) 1 s K) (fun e s' => match e with | .normal => ALoop (fun K s => awp E0 C (E0.L 42) (codeAt (bodyOf E0 42) [1, 1, 0, 1, 0, 0]) 1 s K) (clean [(0, 0), (3, 0)] 0) (K0 Q) ((clean [(0, 0), (3, 0)] 0) s') | e => K0 Q e s') ⟨stt 61 [(0, .hs a0j 0 a0n a0c 1), (3, .int .i64 x3k)], [], Hh⟩ = r0 a0j a0n a0c Q x3k Hh := by kernel_rfl
theorem L0_step {a0j : Nat} {a0n : Nat} {a0c : Nat} {Q : AV → Heap → Prop} {x3k : Int} {Hh : Heap} (h : r0 a0j a0n a0c Q x3k Hh) : L0 a0j a0n a0c Q x3k Hh := ALoop_unfold ((r0_eq a0j a0n a0c Q x3k Hh).mpr h)
def r1 (a0j : Nat) (a0n : Nat) (a0c : Nat) (Q : AV → Heap → Prop) (x3k : Int) (x4s2j : Nat) (x4s2o : Nat) (x4s2n : Nat) (x4s2c : Nat) (x5k2 : Int) (Hh : Heap) : Prop :=
  cond (ltI x5k2 ((x4s2n : Nat) : Int))
  (G (leI 0 x5k2) (G (ltI x5k2 ((x4s2n : Nat) : Int)) (G ((Hh.get x4s2j).isRows 1) (G ((ce ((Hh.get x4s2j).xs.getD (x4s2o + x5k2.toNat) []) 0).isInt .i64) (G (leI 0 (subW .i64 x5k2 1)) (G (ltI (subW .i64 x5k2 1) ((x4s2n : Nat) : Int)) (G ((Hh.get x4s2j).isRows 1) (G ((ce ((Hh.get x4s2j).xs.getD (x4s2o + ((subW .i64 x5k2 1).toNat)) []) 0).isInt .i64) (cond (!(eqI ((ce ((Hh.get x4s2j).xs.getD (x4s2o + x5k2.toNat) []) 0).toInt) ((ce ((Hh.get x4s2j).xs.getD (x4s2o + ((subW .i64 x5k2 1).toNat)) []) 0).toInt)))
    (G (leI 0 x5k2) (G (ltI x5k2 ((x4s2n : Nat) : Int)) (G ((Hh.get x4s2j).isRows 1) (G ((ce ((Hh.get x4s2j).xs.getD (x4s2o + x5k2.toNat) []) 0).isInt .i64) (G (leI 0 x3k) (G (ltI x3k ((a0n : Nat) : Int)) (G ((Hh.get a0j).isRows 1) (G (Nat.blt (0 + x3k.toNat) (Hh.get a0j).xs.length) (L1 a0j a0n a0c Q (addW .i64 x3k 1) x4s2j x4s2o x4s2n x4s2c (addW .i64 x5k2 1) (Hh.set a0j (.rows 1 ((Hh.get a0j).xs.set (0 + x3k.toNat) (((Hh.get a0j).xs.getD (0 + x3k.toNat) []).set 0 (.int .i64 ((ce ((Hh.get x4s2j).xs.getD (x4s2o + x5k2.toNat) []) 0).toInt)))))))))))))))
    (L1 a0j a0n a0c Q x3k x4s2j x4s2o x4s2n x4s2c (addW .i64 x5k2 1) Hh))))))))))
  (G (leI 0 x3k) (G (leI x3k ((a0n : Nat) : Int)) (G (leI ((a0n : Nat) : Int) ((a0c : Nat) : Int)) (G (leI ((a0c : Nat) : Int) ((a0c : Nat) : Int)) (G ((Hh.get a0j).isRows 1) (G (Nat.ble ((0 + x3k.toNat) + (a0n - x3k.toNat)) (Hh.get a0j).xs.length) (G (leI 0 x3k) (G (leI x3k ((a0c : Nat) : Int)) (G (leI ((a0c : Nat) : Int) ((a0c : Nat) : Int)) (Q (.hs a0j 0 x3k.toNat a0c 1) (Hh.set a0j (.rows 1 (splice (Hh.get a0j).xs (0 + x3k.toNat) (List.replicate (a0n - x3k.toNat) ([.int .i64 0] : List AV)))))))))))))))
theorem r1_eq (a0j : Nat) (a0n : Nat) (a0c : Nat) (Q : AV → Heap → Prop) (x3k : Int) (x4s2j : Nat) (x4s2o : Nat) (x4s2n : Nat) (x4s2c : Nat) (x5k2 : Int) (Hh : Heap) : (fun K s => awp E0 C (E0.L 42) (codeAt (bodyOf E0 42) [1, 1, 0, 1, 0, 0, 1, 0, 0, 1, 0, 1, 0, 1, 0, 0]) 2 s K) (fun e s' => match e with | .normal => ALoop (fun K s => awp E0 C (E0.L 42) (codeAt (bodyOf E0 42) [1, 1, 0, 1, 0, 0, 1, 0, 0, 1, 0, 1, 0, 1, 0, 0]) 2 s K) (clean [(0, 0), (3, 0), (4, 0), (5, 0)] 0) (K1 Q) ((clean [(0, 0), (3, 0), (4, 0), (5, 0)] 0) s') | e => K1 Q e s') ⟨stt 61 [(0, .hs a0j 0 a0n a0c 1), (3, .int .i64 x3k), (4, .hs x4s2j x4s2o x4s2n x4s2c 1), (5, .int .i64 x5k2)], [], Hh⟩ = r1 a0j a0n a0c Q x3k x4s2j x4s2o x4s2n x4s2c x5k2 Hh := by kernel_rfl
theorem L1_step {a0j : Nat} {a0n : Nat} {a0c : Nat} {Q : AV → Heap → Prop} {x3k : Int} {x4s2j : Nat} {x4s2o : Nat} {x4s2n : Nat} {x4s2c : Nat} {x5k2 : Int} {Hh : Heap} (h : r1 a0j a0n a0c Q x3k x4s2j x4s2o x4s2n x4s2c x5k2 Hh) : L1 a0j a0n a0c Q x3k x4s2j x4s2o x4s2n x4s2c x5k2 Hh := ALoop_unfold ((r1_eq a0j a0n a0c Q x3k x4s2j x4s2o x4s2n x4s2c x5k2 Hh).mpr h)
def t (a0j : Nat) (a0n : Nat) (a0c : Nat) (H : Heap) (Q : AV → Heap → Prop) : Prop :=
  cond (ltI ((a0n : Nat) : Int) 2)
  (Q (.hs a0j 0 a0n a0c 1) H)
  (L0 a0j a0n a0c Q 1 H)
theorem t_eq (a0j : Nat) (a0n : Nat) (a0c : Nat) (H : Heap) (Q : AV → Heap → Prop) : aBody E0 C 42 [.hs a0j 0 a0n a0c 1] H Q = t a0j a0n a0c H Q := by kernel_rfl
theorem call {a0j : Nat} {a0n : Nat} {a0c : Nat} {H : Heap} {Q : AV → Heap → Prop} (h : t a0j a0n a0c H Q) : C 42 [.hs a0j 0 a0n a0c 1] H Q := Call_intro (E := E0) (by rw [t_eq]; exact h)
end F42h
/-! ### slices.Compact[[]int,int]: function 42n -/
namespace F42n
def t  (H : Heap) (Q : AV → Heap → Prop) : Prop :=
  Q (.nilsl) H
theorem t_eq  (H : Heap) (Q : AV → Heap → Prop) : aBody E0 C 42 [.nilsl] H Q = t  H Q := by kernel_rfl
theorem call  {H : Heap} {Q : AV → Heap → Prop} (h : t  H Q) : C 42 [.nilsl] H Q := Call_intro (E := E0) (by rw [t_eq]; exact h)
end F42n
/-! ### cmp.Less[int]: function 53 -/
namespace F53
def t (a0 : Int) (a1 : Int) (H : Heap) (Q : AV → Heap → Prop) : Prop :=
  C 38 [.int .i64 a0] H.none fun v_1 H_2 =>
  G ((v_1).isBool) (cond ((v_1).toBool)
    (C 38 [.int .i64 a1] ((H.past H_2).none) fun v_3 H_4 =>
      G ((v_3).isBool) (cond (!((v_3).toBool))
        (Q (.bool true) (H.past H_4))
        (Q (.bool (ltI a0 a1)) (H.past H_4))))
    (Q (.bool (ltI a0 a1)) (H.past H_2)))
theorem t_eq (a0 : Int) (a1 : Int) (H : Heap) (Q : AV → Heap → Prop) : aBody E0 C 53 [.int .i64 a0, .int .i64 a1] H Q = t a0 a1 H Q := by kernel_rfl
theorem call {a0 : Int} {a1 : Int} {H : Heap} {Q : AV → Heap → Prop} (h : t a0 a1 H Q) : C 53 [.int .i64 a0, .int .i64 a1] H Q := Call_intro (E := E0) (by rw [t_eq]; exact h)
end F53
end Go.Proofs.Ytdiokakekedaaaa.Ab
