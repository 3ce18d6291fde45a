/- PRINTED by abx.py. -/
import Derived.Test.YtlaieomjooeofaaDoorAbMono
import Derived.Test.YtlaieomjooeofaaDoorTab
import Derived.Test.YtlaieomjooeofaaDoorLeaf
namespace Go.Proofs.YtlaieomjooeofaaDoor.Ab
open Go
set_option maxRecDepth 100000
set_option maxHeartbeats 4000000
set_option linter.unusedVariables false
def liveT : Nat → Live
  | 3 => ([], [(3, [(2, 0), (3, 0), (4, 0), (27, 0)])])
  | 4 => ([[(1, 0), (15, 0), (16, 0), (17, 0)]], [])
  | 5 => ([[(1, 0), (2, 0), (5, 0), (6, 0)]], [])
  | 6 => ([], [(11, [(0, 0), (2, 0), (4, 0), (7, 0), (54, 0)])])
  | 8 => ([], [(7, [(1, 0), (22, 0)])])
  | 9 => ([[(6, 0), (11, 0), (80, 0), (81, 0), (82, 0), (1004008, 4)]], [(19, [(6, 0), (78, 0), (1004008, 4)])])
  | 12 => ([], [(7, [(6, 0), (7, 0), (42, 0)])])
  | 13 => ([], [(5, [(4, 0), (5, 0), (33, 0)])])
  | 14 => ([[(3, 0), (5, 0), (25, 0), (26, 0)]], [(5, [(3, 0), (23, 0)]), (17, [(3, 0), (5, 0), (6, 0), (25, 0), (26, 0), (53, 0)])])
  | 15 => ([[(3, 0), (4, 0), (17, 0), (18, 0)]], [])
  | 21 => ([[(3, 4), (6, 0), (7, 0), (8, 0)]], [])
  | 22 => ([[(0, 0), (1, 0), (12, 0), (13, 0)]], [])
  | 24 => ([[(0, 0), (2, 0), (4, 0), (6, 0), (7, 4), (12, 0), (13, 0), (14, 0)]], [(11, [(0, 0), (2, 0), (4, 0), (6, 0), (7, 4), (9, 0), (12, 0), (13, 0), (14, 0), (30, 0)])])
  | 25 => ([[(0, 0), (3, 0)]], [(3, [(0, 0), (17, 0)]), (13, [(0, 0), (3, 0), (41, 0)])])
  | 30 => ([[(1, 0), (8, 0), (9, 0), (10, 0)]], [])
  | 32 => ([[(15, 0)]], [])
  | 33 => ([[(1, 0), (8, 0), (9, 0), (10, 0)]], [])
  | 35 => ([], [(15, [(1, 0), (36, 0)])])
  | 36 => ([[(1, 0), (5, 4), (9, 0), (10, 0), (11, 0)]], [])
  | 37 => ([[(9, 0)]], [])
  | 39 => ([[(0, 0), (8, 0), (9, 0), (10, 0)]], [])
  | 40 => ([[(0, 0), (1, 0), (5, 0)]], [])
  | 41 => ([[(0, 0), (3, 0), (5, 0)]], [])
  | 44 => ([[(0, 0), (1, 0), (2, 0), (3, 0), (9, 0), (10, 0)]], [])
  | 49 => ([[(0, 0), (3, 0)]], [])
  | 55 => ([[(3, 0), (15, 0)]], [])
  | 56 => ([[(0, 0), (3, 0)]], [(15, [(0, 0), (3, 0), (39, 0)])])
  | 58 => ([[(0, 0), (1, 0), (6, 0), (7, 0)]], [])
  | 64 => ([[(0, 0), (1, 0), (5, 0)]], [])
  | 65 => ([[(0, 0), (3, 0)]], [(15, [(0, 0), (3, 0), (41, 0)])])
  | 66 => ([[(0, 0), (1, 0), (7, 0), (8, 0)]], [])
  | 67 => ([[(0, 0), (1, 0), (2, 0), (3, 0), (4, 0), (10, 0), (11, 0)]], [(31, [(0, 0), (1, 0), (2, 0), (3, 0), (4, 0), (10, 0), (11, 0), (12, 0), (13, 0), (75, 0)])])
  | 72 => ([[(2, 0), (4, 0)]], [])
  | 83 => ([[(0, 0), (3, 3), (4, 0), (5, 0)]], [])
  | 84 => ([[(0, 0), (1, 0), (2, 0), (3, 0), (8, 0)], [(0, 0), (1, 0), (2, 0), (3, 0), (8, 0), (9, 0)]], [])
  | _ => ([], [])
def ownT (n : Nat) : Bool := Nat.beq n 41 || Nat.beq n 57
def ioT (n : Nat) : Bool := Nat.beq n 41 || Nat.beq n 52 || Nat.beq n 57 || Nat.beq n 67 || Nat.beq n 71 || Nat.beq n 84 || Nat.beq n 85 || Nat.beq n 86 || Nat.beq n 88 || Nat.beq n 89 || Nat.beq n 90 || Nat.beq n 91 || Nat.beq n 95 || Nat.beq n 103 || Nat.beq n 108
def purT (n : Nat) : Bool := !(Nat.beq n 41 || Nat.beq n 52 || Nat.beq n 57 || Nat.beq n 67 || Nat.beq n 71 || Nat.beq n 84 || Nat.beq n 85 || Nat.beq n 86 || Nat.beq n 88 || Nat.beq n 89 || Nat.beq n 90 || Nat.beq n 91 || Nat.beq n 95 || Nat.beq n 103 || Nat.beq n 108)
def apartT (n : Nat) : Bool := Nat.beq n 70
noncomputable def E0 : Env := ⟨tys, fun f => cond (leafL.elem f) none (fns.getD f none), liveT, ownT, leafT, ioT, purT, apartT⟩
noncomputable abbrev C : Oracle := Call E0
/-! ### broker/brokerlaw28.DeadReasons: function 3 -/
namespace F3
def JR1 (a0_0 : ByteArray) (a0_1 a0_2 a0_3 : Int) (a0_4 : ByteArray) (a1_0 a1_1 a1_2 : Int) (a1_3 a1_4 : ByteArray) (a1_5 : Int) (a1_6 : Bool) (a1_7 a1_8 : Int) (a1_9 : ByteArray) (a1_10 : Int) (a1_11 : List (List AV)) (a2 : Int) (Q : Qt) (x27 : Bool) (Hh : Heap) : Prop := AJoin (contK E0 C (E0.L 3) [.seq (codeAt (bodyOf E0 3) [1, 0, 1]) 0, .seq (codeAt (bodyOf E0 3) [1, 1]) 0] (finK E0 3 Q)) ⟨stt 41 [(2, .int .i64 a2), (3, .ptr 0 0), (4, .ptr 1 0), (27, .bool x27)], [.cells [.str a0_0, .int .i64 a0_1, .int .i64 a0_2, .int .i64 a0_3, .str a0_4], .cells [.int .i64 a1_0, .int .i64 a1_1, .int .i64 a1_2, .str a1_3, .str a1_4, .int .i64 a1_5, .bool a1_6, .int .i64 a1_7, .int .i64 a1_8, .str a1_9, .int .i64 a1_10, .sl 0 2 a1_11]], Hh⟩
def jR1 (a0_0 : ByteArray) (a0_1 a0_2 a0_3 : Int) (a0_4 : ByteArray) (a1_0 a1_1 a1_2 : Int) (a1_3 a1_4 : ByteArray) (a1_5 : Int) (a1_6 : Bool) (a1_7 a1_8 : Int) (a1_9 : ByteArray) (a1_10 : Int) (a1_11 : List (List AV)) (a2 : Int) (Q : Qt) (x27 : Bool) (Hh : Heap) : Prop :=
  cond x27
  (C 9 [] Hh.none fun v_3 H_4 =>
    G ((v_3).isBool) (Q (.bool ((v_3).toBool)) (Hh.past H_4)))
  (C 10 [.agg [.str a0_0, .int .i64 a0_1, .int .i64 a0_2, .int .i64 a0_3, .str a0_4], .agg [.int .i64 a1_0, .int .i64 a1_1, .int .i64 a1_2, .str a1_3, .str a1_4, .int .i64 a1_5, .bool a1_6, .int .i64 a1_7, .int .i64 a1_8, .str a1_9, .int .i64 a1_10, .sl 0 2 a1_11], .int .i64 a2] Hh.none fun v_5 H_6 =>
    G ((v_5).isInt .i64) (C 11 [.agg [.str a0_0, .int .i64 a0_1, .int .i64 a0_2, .int .i64 a0_3, .str a0_4], .agg [.int .i64 a1_0, .int .i64 a1_1, .int .i64 a1_2, .str a1_3, .str a1_4, .int .i64 a1_5, .bool a1_6, .int .i64 a1_7, .int .i64 a1_8, .str a1_9, .int .i64 a1_10, .sl 0 2 a1_11], .int .i64 a2] ((Hh.past H_6).none) fun v_7 H_8 =>
      G ((v_7).isInt .i64) (cond (eqI ((v_5).toInt) ((v_7).toInt))
        (C 9 [] ((Hh.past H_8).none) fun v_9 H_10 =>
          G ((v_9).isBool) (Q (.bool ((v_9).toBool)) (Hh.past H_10)))
        (Q (.bool false) (Hh.past H_8)))))
theorem JR1_eq (a0_0 : ByteArray) (a0_1 a0_2 a0_3 : Int) (a0_4 : ByteArray) (a1_0 a1_1 a1_2 : Int) (a1_3 a1_4 : ByteArray) (a1_5 : Int) (a1_6 : Bool) (a1_7 a1_8 : Int) (a1_9 : ByteArray) (a1_10 : Int) (a1_11 : List (List AV)) (a2 : Int) (Q : Qt) (x27 : Bool) (Hh : Heap) : contK E0 C (E0.L 3) [.seq (codeAt (bodyOf E0 3) [1, 0, 1]) 0, .seq (codeAt (bodyOf E0 3) [1, 1]) 0] (finK E0 3 Q) .normal ⟨stt 41 [(2, .int .i64 a2), (3, .ptr 0 0), (4, .ptr 1 0), (27, .bool x27)], [.cells [.str a0_0, .int .i64 a0_1, .int .i64 a0_2, .int .i64 a0_3, .str a0_4], .cells [.int .i64 a1_0, .int .i64 a1_1, .int .i64 a1_2, .str a1_3, .str a1_4, .int .i64 a1_5, .bool a1_6, .int .i64 a1_7, .int .i64 a1_8, .str a1_9, .int .i64 a1_10, .sl 0 2 a1_11]], Hh⟩ = jR1 a0_0 a0_1 a0_2 a0_3 a0_4 a1_0 a1_1 a1_2 a1_3 a1_4 a1_5 a1_6 a1_7 a1_8 a1_9 a1_10 a1_11 a2 Q x27 Hh := by kernel_rfl
theorem JR1_step {a0_0 : ByteArray} {a0_1 a0_2 a0_3 : Int} {a0_4 : ByteArray} {a1_0 a1_1 a1_2 : Int} {a1_3 a1_4 : ByteArray} {a1_5 : Int} {a1_6 : Bool} {a1_7 a1_8 : Int} {a1_9 : ByteArray} {a1_10 : Int} {a1_11 : List (List AV)} {a2 : Int} {Q : Qt} {x27 : Bool} {Hh : Heap} (h : jR1 a0_0 a0_1 a0_2 a0_3 a0_4 a1_0 a1_1 a1_2 a1_3 a1_4 a1_5 a1_6 a1_7 a1_8 a1_9 a1_10 a1_11 a2 Q x27 Hh) : JR1 a0_0 a0_1 a0_2 a0_3 a0_4 a1_0 a1_1 a1_2 a1_3 a1_4 a1_5 a1_6 a1_7 a1_8 a1_9 a1_10 a1_11 a2 Q x27 Hh := AJoin_told (JR1_eq a0_0 a0_1 a0_2 a0_3 a0_4 a1_0 a1_1 a1_2 a1_3 a1_4 a1_5 a1_6 a1_7 a1_8 a1_9 a1_10 a1_11 a2 Q x27 Hh) h
def t (a0_0 : ByteArray) (a0_1 a0_2 a0_3 : Int) (a0_4 : ByteArray) (a1_0 a1_1 a1_2 : Int) (a1_3 a1_4 : ByteArray) (a1_5 : Int) (a1_6 : Bool) (a1_7 a1_8 : Int) (a1_9 : ByteArray) (a1_10 : Int) (a1_11 : List (List AV)) (a2 : Int) (H : Heap) (Q : Qt) : Prop :=
  C 8 [.agg [.str a0_0, .int .i64 a0_1, .int .i64 a0_2, .int .i64 a0_3, .str a0_4]] H.none fun v_1 H_2 =>
  G ((v_1).isInt .i64) (cond (!(eqI ((v_1).toInt) 0))
    (JR1 a0_0 a0_1 a0_2 a0_3 a0_4 a1_0 a1_1 a1_2 a1_3 a1_4 a1_5 a1_6 a1_7 a1_8 a1_9 a1_10 a1_11 a2 Q true (H.past H_2))
    (cond (ltI a1_1 0)
      (JR1 a0_0 a0_1 a0_2 a0_3 a0_4 a1_0 a1_1 a1_2 a1_3 a1_4 a1_5 a1_6 a1_7 a1_8 a1_9 a1_10 a1_11 a2 Q true (H.past H_2))
      (cond (ltI 1099511627776 a1_1)
        (JR1 a0_0 a0_1 a0_2 a0_3 a0_4 a1_0 a1_1 a1_2 a1_3 a1_4 a1_5 a1_6 a1_7 a1_8 a1_9 a1_10 a1_11 a2 Q true (H.past H_2))
        (cond (ltI a2 0)
          (JR1 a0_0 a0_1 a0_2 a0_3 a0_4 a1_0 a1_1 a1_2 a1_3 a1_4 a1_5 a1_6 a1_7 a1_8 a1_9 a1_10 a1_11 a2 Q true (H.past H_2))
          (JR1 a0_0 a0_1 a0_2 a0_3 a0_4 a1_0 a1_1 a1_2 a1_3 a1_4 a1_5 a1_6 a1_7 a1_8 a1_9 a1_10 a1_11 a2 Q (ltI 1099511627776 a2) (H.past H_2))))))
theorem t_eq (a0_0 : ByteArray) (a0_1 a0_2 a0_3 : Int) (a0_4 : ByteArray) (a1_0 a1_1 a1_2 : Int) (a1_3 a1_4 : ByteArray) (a1_5 : Int) (a1_6 : Bool) (a1_7 a1_8 : Int) (a1_9 : ByteArray) (a1_10 : Int) (a1_11 : List (List AV)) (a2 : Int) (H : Heap) (Q : Qt) : aBody E0 C 3 [.agg [.str a0_0, .int .i64 a0_1, .int .i64 a0_2, .int .i64 a0_3, .str a0_4], .agg [.int .i64 a1_0, .int .i64 a1_1, .int .i64 a1_2, .str a1_3, .str a1_4, .int .i64 a1_5, .bool a1_6, .int .i64 a1_7, .int .i64 a1_8, .str a1_9, .int .i64 a1_10, .sl 0 2 a1_11], .int .i64 a2] H Q = t a0_0 a0_1 a0_2 a0_3 a0_4 a1_0 a1_1 a1_2 a1_3 a1_4 a1_5 a1_6 a1_7 a1_8 a1_9 a1_10 a1_11 a2 H Q := by kernel_rfl
theorem call {a0_0 : ByteArray} {a0_1 a0_2 a0_3 : Int} {a0_4 : ByteArray} {a1_0 a1_1 a1_2 : Int} {a1_3 a1_4 : ByteArray} {a1_5 : Int} {a1_6 : Bool} {a1_7 a1_8 : Int} {a1_9 : ByteArray} {a1_10 : Int} {a1_11 : List (List AV)} {a2 : Int} {H : Heap} {Q : Qt} (h : t a0_0 a0_1 a0_2 a0_3 a0_4 a1_0 a1_1 a1_2 a1_3 a1_4 a1_5 a1_6 a1_7 a1_8 a1_9 a1_10 a1_11 a2 H Q) : C 3 [.agg [.str a0_0, .int .i64 a0_1, .int .i64 a0_2, .int .i64 a0_3, .str a0_4], .agg [.int .i64 a1_0, .int .i64 a1_1, .int .i64 a1_2, .str a1_3, .str a1_4, .int .i64 a1_5, .bool a1_6, .int .i64 a1_7, .int .i64 a1_8, .str a1_9, .int .i64 a1_10, .sl 0 2 a1_11], .int .i64 a2] H Q := Call_told (E := E0) (t_eq a0_0 a0_1 a0_2 a0_3 a0_4 a1_0 a1_1 a1_2 a1_3 a1_4 a1_5 a1_6 a1_7 a1_8 a1_9 a1_10 a1_11 a2 H Q) h
end F3
/-! ### broker/brokerlaw28.DeadReads: function 4 -/
namespace F4
def K0 (Q : Qt) : Ex → St → Prop := (contK E0 C (E0.L 4) [.block 0 1, .seq (codeAt (bodyOf E0 4) [1, 1, 1]) 1] (finK E0 4 Q))
def L0 (a0_0 a0_1 : ByteArray) (a0_2 : Int) (a0_3 : Bool) (a0_4 a0_5 : Int) (a0_6 : ByteArray) (a0_7 : Int) (a0_8 : List (List AV)) (Q : Qt) (x17 : Int) (Hh : Heap) : Prop := ALoop (fun K s => awp E0 C (E0.L 4) (codeAt (bodyOf E0 4) [1, 1, 0, 1, 0, 0]) 1 s K) (clean [(1, 0), (15, 0), (16, 0), (17, 0)] 1) (K0 Q) ⟨stt 68 [(1, .ptr 0 0), (15, .sl 0 2 a0_8), (16, .int .i64 (lenI a0_8)), (17, .int .i64 x17)], [.cells [.str a0_0, .str a0_1, .int .i64 a0_2, .bool a0_3, .int .i64 a0_4, .int .i64 a0_5, .str a0_6, .int .i64 a0_7, .sl 0 2 a0_8]], Hh⟩
def r0 (a0_0 a0_1 : ByteArray) (a0_2 : Int) (a0_3 : Bool) (a0_4 a0_5 : Int) (a0_6 : ByteArray) (a0_7 : Int) (a0_8 : List (List AV)) (Q : Qt) (x17 : Int) (Hh : Heap) : Prop :=
  cond (ltI x17 (lenI a0_8))
  (G (leI 0 x17) (G (ltI x17 (lenI a0_8)) (G ((ce (ro a0_8 x17.toNat) 0).isStr) (G ((ce (ro a0_8 x17.toNat) 1).isStr) (cond (ltI 300 (sizeI ((ce (ro a0_8 x17.toNat) 0).toStr)))
    (C 9 [] Hh.none fun v_3 H_4 =>
      G ((v_3).isBool) (Q (.bool ((v_3).toBool)) (Hh.past H_4)))
    (cond (ltI 300 (sizeI ((ce (ro a0_8 x17.toNat) 1).toStr)))
      (C 9 [] Hh.none fun v_5 H_6 =>
        G ((v_5).isBool) (Q (.bool ((v_5).toBool)) (Hh.past H_6)))
      (L0 a0_0 a0_1 a0_2 a0_3 a0_4 a0_5 a0_6 a0_7 a0_8 Q (addW .i64 x17 1) Hh)))))))
  (C 12 [.agg [.str a0_0, .str a0_1, .int .i64 a0_2, .bool a0_3, .int .i64 a0_4, .int .i64 a0_5, .str a0_6, .int .i64 a0_7, .sl 0 2 a0_8]] Hh.none fun v_7 H_8 =>
    G ((v_7).isTup && Nat.beq (v_7).tupVs.length 2) (G ((((v_7).tupVs).headD .any).isStr) (G (((((v_7).tupVs).tail).headD .any).isInt .i64) (C 13 [.agg [.str a0_0, .str a0_1, .int .i64 a0_2, .bool a0_3, .int .i64 a0_4, .int .i64 a0_5, .str a0_6, .int .i64 a0_7, .sl 0 2 a0_8]] ((Hh.past H_8).none) fun v_9 H_10 =>
      G ((v_9).isTup && Nat.beq (v_9).tupVs.length 2) (G ((((v_9).tupVs).headD .any).isStr) (G (((((v_9).tupVs).tail).headD .any).isInt .i64) (cond (eqS ((((v_7).tupVs).headD .any).toStr) ((((v_9).tupVs).headD .any).toStr))
        (cond (eqI (((((v_7).tupVs).tail).headD .any).toInt) (((((v_9).tupVs).tail).headD .any).toInt))
          (C 14 [.agg [.str a0_0, .str a0_1, .int .i64 a0_2, .bool a0_3, .int .i64 a0_4, .int .i64 a0_5, .str a0_6, .int .i64 a0_7, .sl 0 2 a0_8]] ((Hh.past H_10).none) fun v_11 H_12 =>
            G ((v_11).isInt .i64) (C 15 [.agg [.str a0_0, .str a0_1, .int .i64 a0_2, .bool a0_3, .int .i64 a0_4, .int .i64 a0_5, .str a0_6, .int .i64 a0_7, .sl 0 2 a0_8]] ((Hh.past H_12).none) fun v_13 H_14 =>
              G ((v_13).isInt .i64) (cond (eqI ((v_11).toInt) ((v_13).toInt))
                (C 16 [.agg [.str a0_0, .str a0_1, .int .i64 a0_2, .bool a0_3, .int .i64 a0_4, .int .i64 a0_5, .str a0_6, .int .i64 a0_7, .sl 0 2 a0_8]] ((Hh.past H_14).none) fun v_15 H_16 =>
                  G ((v_15).isBool) (C 17 [.agg [.str a0_0, .str a0_1, .int .i64 a0_2, .bool a0_3, .int .i64 a0_4, .int .i64 a0_5, .str a0_6, .int .i64 a0_7, .sl 0 2 a0_8]] ((Hh.past H_16).none) fun v_17 H_18 =>
                    G ((v_17).isBool) (cond (((v_15).toBool) == ((v_17).toBool))
                      (C 9 [] ((Hh.past H_18).none) fun v_19 H_20 =>
                        G ((v_19).isBool) (Q (.bool ((v_19).toBool)) (Hh.past H_20)))
                      (Q (.bool false) (Hh.past H_18)))))
                (Q (.bool false) (Hh.past H_14)))))
          (Q (.bool false) (Hh.past H_10)))
        (Q (.bool false) (Hh.past H_10)))))))))
theorem r0_eq (a0_0 a0_1 : ByteArray) (a0_2 : Int) (a0_3 : Bool) (a0_4 a0_5 : Int) (a0_6 : ByteArray) (a0_7 : Int) (a0_8 : List (List AV)) (Q : Qt) (x17 : Int) (Hh : Heap) : (fun K s => awp E0 C (E0.L 4) (codeAt (bodyOf E0 4) [1, 1, 0, 1, 0, 0]) 1 s K) (ALoopK (fun K s => awp E0 C (E0.L 4) (codeAt (bodyOf E0 4) [1, 1, 0, 1, 0, 0]) 1 s K) (clean [(1, 0), (15, 0), (16, 0), (17, 0)] 1) (K0 Q)) ⟨stt 68 [(1, .ptr 0 0), (15, .sl 0 2 a0_8), (16, .int .i64 (lenI a0_8)), (17, .int .i64 x17)], [.cells [.str a0_0, .str a0_1, .int .i64 a0_2, .bool a0_3, .int .i64 a0_4, .int .i64 a0_5, .str a0_6, .int .i64 a0_7, .sl 0 2 a0_8]], Hh⟩ = r0 a0_0 a0_1 a0_2 a0_3 a0_4 a0_5 a0_6 a0_7 a0_8 Q x17 Hh := by kernel_rfl
theorem L0_step {a0_0 a0_1 : ByteArray} {a0_2 : Int} {a0_3 : Bool} {a0_4 a0_5 : Int} {a0_6 : ByteArray} {a0_7 : Int} {a0_8 : List (List AV)} {Q : Qt} {x17 : Int} {Hh : Heap} (h : r0 a0_0 a0_1 a0_2 a0_3 a0_4 a0_5 a0_6 a0_7 a0_8 Q x17 Hh) : L0 a0_0 a0_1 a0_2 a0_3 a0_4 a0_5 a0_6 a0_7 a0_8 Q x17 Hh := ALoop_told (r0_eq a0_0 a0_1 a0_2 a0_3 a0_4 a0_5 a0_6 a0_7 a0_8 Q x17 Hh) h
def t (a0_0 a0_1 : ByteArray) (a0_2 : Int) (a0_3 : Bool) (a0_4 a0_5 : Int) (a0_6 : ByteArray) (a0_7 : Int) (a0_8 : List (List AV)) (H : Heap) (Q : Qt) : Prop :=
  cond (ltI 20 (lenI a0_8))
  (C 9 [] H.none fun v_1 H_2 =>
    G ((v_1).isBool) (Q (.bool ((v_1).toBool)) (H.past H_2)))
  (L0 a0_0 a0_1 a0_2 a0_3 a0_4 a0_5 a0_6 a0_7 a0_8 Q 0 H)
theorem t_eq (a0_0 a0_1 : ByteArray) (a0_2 : Int) (a0_3 : Bool) (a0_4 a0_5 : Int) (a0_6 : ByteArray) (a0_7 : Int) (a0_8 : List (List AV)) (H : Heap) (Q : Qt) : aBody E0 C 4 [.agg [.str a0_0, .str a0_1, .int .i64 a0_2, .bool a0_3, .int .i64 a0_4, .int .i64 a0_5, .str a0_6, .int .i64 a0_7, .sl 0 2 a0_8]] H Q = t a0_0 a0_1 a0_2 a0_3 a0_4 a0_5 a0_6 a0_7 a0_8 H Q := by kernel_rfl
theorem call {a0_0 a0_1 : ByteArray} {a0_2 : Int} {a0_3 : Bool} {a0_4 a0_5 : Int} {a0_6 : ByteArray} {a0_7 : Int} {a0_8 : List (List AV)} {H : Heap} {Q : Qt} (h : t a0_0 a0_1 a0_2 a0_3 a0_4 a0_5 a0_6 a0_7 a0_8 H Q) : C 4 [.agg [.str a0_0, .str a0_1, .int .i64 a0_2, .bool a0_3, .int .i64 a0_4, .int .i64 a0_5, .str a0_6, .int .i64 a0_7, .sl 0 2 a0_8]] H Q := Call_told (E := E0) (t_eq a0_0 a0_1 a0_2 a0_3 a0_4 a0_5 a0_6 a0_7 a0_8 H Q) h
end F4
/-! ### broker/brokerlaw28.DeadEnds: function 5 -/
namespace F5
def K0 (Q : Qt) : Ex → St → Prop := (contK E0 C (E0.L 5) [.block 0 1, .seq (codeAt (bodyOf E0 5) [1, 1, 1, 1]) 1] (finK E0 5 Q))
def L0 (a0_0 a0_1 : ByteArray) (a0_2 : Int) (a0_3 : Bool) (a0_4 a0_5 : Int) (a0_6 : ByteArray) (a0_7 : Int) (a0_8 : List (List AV)) (a1 : Int) (Q : Qt) (x5n x6k : Int) (m0_0 m0_1 : ByteArray) (m0_2 : Int) (m0_3 : Bool) (m0_4 m0_5 : Int) (m0_6 : ByteArray) (m0_7 : Int) (m0_8 : List (List AV)) (Hh : Heap) : Prop := ALoop (fun K s => awp E0 C (E0.L 5) (codeAt (bodyOf E0 5) [1, 1, 1, 0, 1, 0, 0]) 1 s K) (clean [(1, 0), (2, 0), (5, 0), (6, 0)] 1) (K0 Q) ⟨stt 32 [(1, .int .i64 a1), (2, .ptr 0 0), (5, .int .i64 x5n), (6, .int .i64 x6k)], [.cells [.str m0_0, .str m0_1, .int .i64 m0_2, .bool m0_3, .int .i64 m0_4, .int .i64 m0_5, .str m0_6, .int .i64 m0_7, .sl 0 2 m0_8]], Hh⟩
def r0 (a0_0 a0_1 : ByteArray) (a0_2 : Int) (a0_3 : Bool) (a0_4 a0_5 : Int) (a0_6 : ByteArray) (a0_7 : Int) (a0_8 : List (List AV)) (a1 : Int) (Q : Qt) (x5n x6k : Int) (m0_0 m0_1 : ByteArray) (m0_2 : Int) (m0_3 : Bool) (m0_4 m0_5 : Int) (m0_6 : ByteArray) (m0_7 : Int) (m0_8 : List (List AV)) (Hh : Heap) : Prop :=
  cond (leI x6k 8)
  (C 16 [.agg [.str m0_0, .str m0_1, .int .i64 m0_2, .bool m0_3, .int .i64 m0_4, .int .i64 m0_5, .str m0_6, .int .i64 m0_7, .sl 0 2 m0_8]] Hh.none fun v_7 H_8 =>
    G ((v_7).isBool) (cond (!((v_7).toBool))
      (cond (eqI x6k x5n)
        (C 9 [] ((Hh.past H_8).none) fun v_9 H_10 =>
          G ((v_9).isBool) (Q (.bool ((v_9).toBool)) (Hh.past H_10)))
        (Q (.bool false) (Hh.past H_8)))
      (C 19 [.str (⟨#[113]⟩ : ByteArray), .agg [.str m0_0, .str m0_1, .int .i64 m0_2, .bool m0_3, .int .i64 m0_4, .int .i64 m0_5, .str m0_6, .int .i64 m0_7, .sl 0 2 m0_8], .int .i64 a1] ((Hh.past H_8).none) fun v_11 H_12 =>
        G ((v_11).isAgg && Nat.beq (v_11).aggCs.length 9) (G ((((v_11).aggCs).headD .any).isStr) (G (((((v_11).aggCs).tail).headD .any).isStr) (G ((((((v_11).aggCs).tail).tail).headD .any).isInt .i64) (G (((((((v_11).aggCs).tail).tail).tail).headD .any).isBool) (G ((((((((v_11).aggCs).tail).tail).tail).tail).headD .any).isInt .i64) (G (((((((((v_11).aggCs).tail).tail).tail).tail).tail).headD .any).isInt .i64) (G ((((((((((v_11).aggCs).tail).tail).tail).tail).tail).tail).headD .any).isStr) (G (((((((((((v_11).aggCs).tail).tail).tail).tail).tail).tail).tail).headD .any).isInt .i64) (G ((((((((((((v_11).aggCs).tail).tail).tail).tail).tail).tail).tail).tail).headD .any).isSl 2) (L0 a0_0 a0_1 a0_2 a0_3 a0_4 a0_5 a0_6 a0_7 a0_8 a1 Q x5n (addW .i64 x6k 1) ((((v_11).aggCs).headD .any).toStr) (((((v_11).aggCs).tail).headD .any).toStr) ((((((v_11).aggCs).tail).tail).headD .any).toInt) (((((((v_11).aggCs).tail).tail).tail).headD .any).toBool) ((((((((v_11).aggCs).tail).tail).tail).tail).headD .any).toInt) (((((((((v_11).aggCs).tail).tail).tail).tail).tail).headD .any).toInt) ((((((((((v_11).aggCs).tail).tail).tail).tail).tail).tail).headD .any).toStr) (((((((((((v_11).aggCs).tail).tail).tail).tail).tail).tail).tail).headD .any).toInt) ((((((((((((v_11).aggCs).tail).tail).tail).tail).tail).tail).tail).tail).headD .any).slXs) (Hh.past H_12))))))))))))))
  (Q (.bool false) Hh)
theorem r0_eq (a0_0 a0_1 : ByteArray) (a0_2 : Int) (a0_3 : Bool) (a0_4 a0_5 : Int) (a0_6 : ByteArray) (a0_7 : Int) (a0_8 : List (List AV)) (a1 : Int) (Q : Qt) (x5n x6k : Int) (m0_0 m0_1 : ByteArray) (m0_2 : Int) (m0_3 : Bool) (m0_4 m0_5 : Int) (m0_6 : ByteArray) (m0_7 : Int) (m0_8 : List (List AV)) (Hh : Heap) : (fun K s => awp E0 C (E0.L 5) (codeAt (bodyOf E0 5) [1, 1, 1, 0, 1, 0, 0]) 1 s K) (ALoopK (fun K s => awp E0 C (E0.L 5) (codeAt (bodyOf E0 5) [1, 1, 1, 0, 1, 0, 0]) 1 s K) (clean [(1, 0), (2, 0), (5, 0), (6, 0)] 1) (K0 Q)) ⟨stt 32 [(1, .int .i64 a1), (2, .ptr 0 0), (5, .int .i64 x5n), (6, .int .i64 x6k)], [.cells [.str m0_0, .str m0_1, .int .i64 m0_2, .bool m0_3, .int .i64 m0_4, .int .i64 m0_5, .str m0_6, .int .i64 m0_7, .sl 0 2 m0_8]], Hh⟩ = r0 a0_0 a0_1 a0_2 a0_3 a0_4 a0_5 a0_6 a0_7 a0_8 a1 Q x5n x6k m0_0 m0_1 m0_2 m0_3 m0_4 m0_5 m0_6 m0_7 m0_8 Hh := by kernel_rfl
theorem L0_step {a0_0 a0_1 : ByteArray} {a0_2 : Int} {a0_3 : Bool} {a0_4 a0_5 : Int} {a0_6 : ByteArray} {a0_7 : Int} {a0_8 : List (List AV)} {a1 : Int} {Q : Qt} {x5n x6k : Int} {m0_0 m0_1 : ByteArray} {m0_2 : Int} {m0_3 : Bool} {m0_4 m0_5 : Int} {m0_6 : ByteArray} {m0_7 : Int} {m0_8 : List (List AV)} {Hh : Heap} (h : r0 a0_0 a0_1 a0_2 a0_3 a0_4 a0_5 a0_6 a0_7 a0_8 a1 Q x5n x6k m0_0 m0_1 m0_2 m0_3 m0_4 m0_5 m0_6 m0_7 m0_8 Hh) : L0 a0_0 a0_1 a0_2 a0_3 a0_4 a0_5 a0_6 a0_7 a0_8 a1 Q x5n x6k m0_0 m0_1 m0_2 m0_3 m0_4 m0_5 m0_6 m0_7 m0_8 Hh := ALoop_told (r0_eq a0_0 a0_1 a0_2 a0_3 a0_4 a0_5 a0_6 a0_7 a0_8 a1 Q x5n x6k m0_0 m0_1 m0_2 m0_3 m0_4 m0_5 m0_6 m0_7 m0_8 Hh) h
def t (a0_0 a0_1 : ByteArray) (a0_2 : Int) (a0_3 : Bool) (a0_4 a0_5 : Int) (a0_6 : ByteArray) (a0_7 : Int) (a0_8 : List (List AV)) (a1 : Int) (H : Heap) (Q : Qt) : Prop :=
  C 18 [.str (⟨#[113]⟩ : ByteArray), .agg [.str a0_0, .str a0_1, .int .i64 a0_2, .bool a0_3, .int .i64 a0_4, .int .i64 a0_5, .str a0_6, .int .i64 a0_7, .sl 0 2 a0_8], .int .i64 a1] H.none fun v_1 H_2 =>
  G ((v_1).isBool) (cond (!((v_1).toBool))
    (C 9 [] ((H.past H_2).none) fun v_3 H_4 =>
      G ((v_3).isBool) (Q (.bool ((v_3).toBool)) (H.past H_4)))
    (C 14 [.agg [.str a0_0, .str a0_1, .int .i64 a0_2, .bool a0_3, .int .i64 a0_4, .int .i64 a0_5, .str a0_6, .int .i64 a0_7, .sl 0 2 a0_8]] ((H.past H_2).none) fun v_5 H_6 =>
      G ((v_5).isInt .i64) (L0 a0_0 a0_1 a0_2 a0_3 a0_4 a0_5 a0_6 a0_7 a0_8 a1 Q (cond (ltI (subW .i64 8 ((v_5).toInt)) 0) 0 (subW .i64 8 ((v_5).toInt))) 0 a0_0 a0_1 a0_2 a0_3 a0_4 a0_5 a0_6 a0_7 a0_8 (H.past H_6))))
theorem t_eq (a0_0 a0_1 : ByteArray) (a0_2 : Int) (a0_3 : Bool) (a0_4 a0_5 : Int) (a0_6 : ByteArray) (a0_7 : Int) (a0_8 : List (List AV)) (a1 : Int) (H : Heap) (Q : Qt) : aBody E0 C 5 [.agg [.str a0_0, .str a0_1, .int .i64 a0_2, .bool a0_3, .int .i64 a0_4, .int .i64 a0_5, .str a0_6, .int .i64 a0_7, .sl 0 2 a0_8], .int .i64 a1] H Q = t a0_0 a0_1 a0_2 a0_3 a0_4 a0_5 a0_6 a0_7 a0_8 a1 H Q := by kernel_rfl
theorem call {a0_0 a0_1 : ByteArray} {a0_2 : Int} {a0_3 : Bool} {a0_4 a0_5 : Int} {a0_6 : ByteArray} {a0_7 : Int} {a0_8 : List (List AV)} {a1 : Int} {H : Heap} {Q : Qt} (h : t a0_0 a0_1 a0_2 a0_3 a0_4 a0_5 a0_6 a0_7 a0_8 a1 H Q) : C 5 [.agg [.str a0_0, .str a0_1, .int .i64 a0_2, .bool a0_3, .int .i64 a0_4, .int .i64 a0_5, .str a0_6, .int .i64 a0_7, .sl 0 2 a0_8], .int .i64 a1] H Q := Call_told (E := E0) (t_eq a0_0 a0_1 a0_2 a0_3 a0_4 a0_5 a0_6 a0_7 a0_8 a1 H Q) h
end F5
/-! ### broker/brokerlaw28.DeadKeeps: function 6 -/
namespace F6
def JR5 (a0 a1_0 a1_1 : ByteArray) (a1_2 : Int) (a1_3 : Bool) (a1_4 a1_5 : Int) (a1_6 : ByteArray) (a1_7 : Int) (a1_8 : List (List AV)) (a2 : Int) (Q : Qt) (x54 : Bool) (m1_0 m1_1 : ByteArray) (m1_2 : Int) (m1_3 : Bool) (m1_4 m1_5 : Int) (m1_6 : ByteArray) (m1_7 : Int) (m1_8 : List (List AV)) (Hh : Heap) : Prop := AJoin (contK E0 C (E0.L 6) [.seq (codeAt (bodyOf E0 6) [1, 1, 1, 1, 0, 1]) 0, .seq (codeAt (bodyOf E0 6) [1, 1, 1, 1, 1]) 0] (finK E0 6 Q)) ⟨stt 91 [(0, .str a0), (2, .int .i64 a2), (4, .ptr 0 0), (7, .ptr 1 0), (54, .bool x54)], [.cells [.str a1_0, .str a1_1, .int .i64 a1_2, .bool a1_3, .int .i64 a1_4, .int .i64 a1_5, .str a1_6, .int .i64 a1_7, .sl 0 2 a1_8], .cells [.str m1_0, .str m1_1, .int .i64 m1_2, .bool m1_3, .int .i64 m1_4, .int .i64 m1_5, .str m1_6, .int .i64 m1_7, .sl 0 2 m1_8]], Hh⟩
def jR5 (a0 a1_0 a1_1 : ByteArray) (a1_2 : Int) (a1_3 : Bool) (a1_4 a1_5 : Int) (a1_6 : ByteArray) (a1_7 : Int) (a1_8 : List (List AV)) (a2 : Int) (Q : Qt) (x54 : Bool) (m1_0 m1_1 : ByteArray) (m1_2 : Int) (m1_3 : Bool) (m1_4 m1_5 : Int) (m1_6 : ByteArray) (m1_7 : Int) (m1_8 : List (List AV)) (Hh : Heap) : Prop :=
  cond x54
  (Q (.bool false) Hh)
  (C 21 [.sl 0 2 a1_8] Hh.none fun v_15 H_16 =>
    G ((v_15).isSl 2) (C 21 [.sl 0 2 m1_8] ((Hh.past H_16).none) fun v_17 H_18 =>
      G ((v_17).isSl 2) (G (leI 0 (cond (ltI 6 (lenI ((v_15).slXs))) 6 (lenI ((v_15).slXs)))) (G (leI (cond (ltI 6 (lenI ((v_15).slXs))) 6 (lenI ((v_15).slXs))) (cond (ltI 6 (lenI ((v_15).slXs))) 6 (lenI ((v_15).slXs)))) (G (leI (cond (ltI 6 (lenI ((v_15).slXs))) 6 (lenI ((v_15).slXs))) (lenI ((v_15).slXs))) (C 22 [.sl 0 2 ((v_17).slXs), .sl 0 2 ((((v_15).slXs).take ((cond (ltI 6 (lenI ((v_15).slXs))) 6 (lenI ((v_15).slXs))).toNat)).drop 0)] ((Hh.past H_18).none) fun v_19 H_20 =>
        G ((v_19).isBool) (cond (!((v_19).toBool))
          (Q (.bool false) (Hh.past H_20))
          (C 19 [.str a0, .agg [.str m1_0, .str m1_1, .int .i64 m1_2, .bool m1_3, .int .i64 m1_4, .int .i64 m1_5, .str m1_6, .int .i64 m1_7, .sl 0 2 m1_8], .int .i64 a2] ((Hh.past H_20).none) fun v_21 H_22 =>
            G ((v_21).isAgg && Nat.beq (v_21).aggCs.length 9) (G ((((v_21).aggCs).headD .any).isStr) (G (((((v_21).aggCs).tail).headD .any).isStr) (G ((((((v_21).aggCs).tail).tail).headD .any).isInt .i64) (G (((((((v_21).aggCs).tail).tail).tail).headD .any).isBool) (G ((((((((v_21).aggCs).tail).tail).tail).tail).headD .any).isInt .i64) (G (((((((((v_21).aggCs).tail).tail).tail).tail).tail).headD .any).isInt .i64) (G ((((((((((v_21).aggCs).tail).tail).tail).tail).tail).tail).headD .any).isStr) (G (((((((((((v_21).aggCs).tail).tail).tail).tail).tail).tail).tail).headD .any).isInt .i64) (G ((((((((((((v_21).aggCs).tail).tail).tail).tail).tail).tail).tail).tail).headD .any).isSl 2) (C 21 [.sl 0 2 ((((((((((((v_21).aggCs).tail).tail).tail).tail).tail).tail).tail).tail).headD .any).slXs)] ((Hh.past H_22).none) fun v_23 H_24 =>
              G ((v_23).isSl 2) (C 22 [.sl 0 2 ((v_23).slXs), .sl 0 2 ((v_17).slXs)] ((Hh.past H_24).none) fun v_25 H_26 =>
                G ((v_25).isBool) (cond (!((v_25).toBool))
                  (Q (.bool false) (Hh.past H_26))
                  (C 23 [.agg [.str m1_0, .str m1_1, .int .i64 m1_2, .bool m1_3, .int .i64 m1_4, .int .i64 a1_5, .str m1_6, .int .i64 m1_7, .sl 0 2 a1_8], .agg [.str a1_0, .str a1_1, .int .i64 a1_2, .bool a1_3, .int .i64 a1_4, .int .i64 a1_5, .str a1_6, .int .i64 a1_7, .sl 0 2 a1_8]] ((Hh.past H_26).none) fun v_27 H_28 =>
                    G ((v_27).isBool) (cond ((v_27).toBool)
                      (C 9 [] ((Hh.past H_28).none) fun v_29 H_30 =>
                        G ((v_29).isBool) (Q (.bool ((v_29).toBool)) (Hh.past H_30)))
                      (Q (.bool false) (Hh.past H_28))))))))))))))))))))))))
theorem JR5_eq (a0 a1_0 a1_1 : ByteArray) (a1_2 : Int) (a1_3 : Bool) (a1_4 a1_5 : Int) (a1_6 : ByteArray) (a1_7 : Int) (a1_8 : List (List AV)) (a2 : Int) (Q : Qt) (x54 : Bool) (m1_0 m1_1 : ByteArray) (m1_2 : Int) (m1_3 : Bool) (m1_4 m1_5 : Int) (m1_6 : ByteArray) (m1_7 : Int) (m1_8 : List (List AV)) (Hh : Heap) : contK E0 C (E0.L 6) [.seq (codeAt (bodyOf E0 6) [1, 1, 1, 1, 0, 1]) 0, .seq (codeAt (bodyOf E0 6) [1, 1, 1, 1, 1]) 0] (finK E0 6 Q) .normal ⟨stt 91 [(0, .str a0), (2, .int .i64 a2), (4, .ptr 0 0), (7, .ptr 1 0), (54, .bool x54)], [.cells [.str a1_0, .str a1_1, .int .i64 a1_2, .bool a1_3, .int .i64 a1_4, .int .i64 a1_5, .str a1_6, .int .i64 a1_7, .sl 0 2 a1_8], .cells [.str m1_0, .str m1_1, .int .i64 m1_2, .bool m1_3, .int .i64 m1_4, .int .i64 m1_5, .str m1_6, .int .i64 m1_7, .sl 0 2 m1_8]], Hh⟩ = jR5 a0 a1_0 a1_1 a1_2 a1_3 a1_4 a1_5 a1_6 a1_7 a1_8 a2 Q x54 m1_0 m1_1 m1_2 m1_3 m1_4 m1_5 m1_6 m1_7 m1_8 Hh := by kernel_rfl
theorem JR5_step {a0 a1_0 a1_1 : ByteArray} {a1_2 : Int} {a1_3 : Bool} {a1_4 a1_5 : Int} {a1_6 : ByteArray} {a1_7 : Int} {a1_8 : List (List AV)} {a2 : Int} {Q : Qt} {x54 : Bool} {m1_0 m1_1 : ByteArray} {m1_2 : Int} {m1_3 : Bool} {m1_4 m1_5 : Int} {m1_6 : ByteArray} {m1_7 : Int} {m1_8 : List (List AV)} {Hh : Heap} (h : jR5 a0 a1_0 a1_1 a1_2 a1_3 a1_4 a1_5 a1_6 a1_7 a1_8 a2 Q x54 m1_0 m1_1 m1_2 m1_3 m1_4 m1_5 m1_6 m1_7 m1_8 Hh) : JR5 a0 a1_0 a1_1 a1_2 a1_3 a1_4 a1_5 a1_6 a1_7 a1_8 a2 Q x54 m1_0 m1_1 m1_2 m1_3 m1_4 m1_5 m1_6 m1_7 m1_8 Hh := AJoin_told (JR5_eq a0 a1_0 a1_1 a1_2 a1_3 a1_4 a1_5 a1_6 a1_7 a1_8 a2 Q x54 m1_0 m1_1 m1_2 m1_3 m1_4 m1_5 m1_6 m1_7 m1_8 Hh) h
def t (a0 a1_0 a1_1 : ByteArray) (a1_2 : Int) (a1_3 : Bool) (a1_4 a1_5 : Int) (a1_6 : ByteArray) (a1_7 : Int) (a1_8 : List (List AV)) (a2 : Int) (H : Heap) (Q : Qt) : Prop :=
  C 18 [.str a0, .agg [.str a1_0, .str a1_1, .int .i64 a1_2, .bool a1_3, .int .i64 a1_4, .int .i64 a1_5, .str a1_6, .int .i64 a1_7, .sl 0 2 a1_8], .int .i64 a2] H.none fun v_1 H_2 =>
  G ((v_1).isBool) (cond (!((v_1).toBool))
    (C 9 [] ((H.past H_2).none) fun v_3 H_4 =>
      G ((v_3).isBool) (Q (.bool ((v_3).toBool)) (H.past H_4)))
    (C 19 [.str a0, .agg [.str a1_0, .str a1_1, .int .i64 a1_2, .bool a1_3, .int .i64 a1_4, .int .i64 a1_5, .str a1_6, .int .i64 a1_7, .sl 0 2 a1_8], .int .i64 a2] ((H.past H_2).none) fun v_5 H_6 =>
      G ((v_5).isAgg && Nat.beq (v_5).aggCs.length 9) (G ((((v_5).aggCs).headD .any).isStr) (G (((((v_5).aggCs).tail).headD .any).isStr) (G ((((((v_5).aggCs).tail).tail).headD .any).isInt .i64) (G (((((((v_5).aggCs).tail).tail).tail).headD .any).isBool) (G ((((((((v_5).aggCs).tail).tail).tail).tail).headD .any).isInt .i64) (G (((((((((v_5).aggCs).tail).tail).tail).tail).tail).headD .any).isInt .i64) (G ((((((((((v_5).aggCs).tail).tail).tail).tail).tail).tail).headD .any).isStr) (G (((((((((((v_5).aggCs).tail).tail).tail).tail).tail).tail).tail).headD .any).isInt .i64) (G ((((((((((((v_5).aggCs).tail).tail).tail).tail).tail).tail).tail).tail).headD .any).isSl 2) (C 12 [.agg [.str ((((v_5).aggCs).headD .any).toStr), .str (((((v_5).aggCs).tail).headD .any).toStr), .int .i64 ((((((v_5).aggCs).tail).tail).headD .any).toInt), .bool (((((((v_5).aggCs).tail).tail).tail).headD .any).toBool), .int .i64 ((((((((v_5).aggCs).tail).tail).tail).tail).headD .any).toInt), .int .i64 (((((((((v_5).aggCs).tail).tail).tail).tail).tail).headD .any).toInt), .str ((((((((((v_5).aggCs).tail).tail).tail).tail).tail).tail).headD .any).toStr), .int .i64 (((((((((((v_5).aggCs).tail).tail).tail).tail).tail).tail).tail).headD .any).toInt), .sl 0 2 ((((((((((((v_5).aggCs).tail).tail).tail).tail).tail).tail).tail).tail).headD .any).slXs)]] ((H.past H_6).none) fun v_7 H_8 =>
        G ((v_7).isTup && Nat.beq (v_7).tupVs.length 2) (G ((((v_7).tupVs).headD .any).isStr) (G (((((v_7).tupVs).tail).headD .any).isInt .i64) (C 20 [.agg [.str ((((v_5).aggCs).headD .any).toStr), .str (((((v_5).aggCs).tail).headD .any).toStr), .int .i64 ((((((v_5).aggCs).tail).tail).headD .any).toInt), .bool (((((((v_5).aggCs).tail).tail).tail).headD .any).toBool), .int .i64 ((((((((v_5).aggCs).tail).tail).tail).tail).headD .any).toInt), .int .i64 (((((((((v_5).aggCs).tail).tail).tail).tail).tail).headD .any).toInt), .str ((((((((((v_5).aggCs).tail).tail).tail).tail).tail).tail).headD .any).toStr), .int .i64 (((((((((((v_5).aggCs).tail).tail).tail).tail).tail).tail).tail).headD .any).toInt), .sl 0 2 ((((((((((((v_5).aggCs).tail).tail).tail).tail).tail).tail).tail).tail).headD .any).slXs)]] ((H.past H_8).none) fun v_9 H_10 =>
          G ((v_9).isInt .i64) (cond (!(eqI ((v_9).toInt) 0))
            (JR5 a0 a1_0 a1_1 a1_2 a1_3 a1_4 a1_5 a1_6 a1_7 a1_8 a2 Q true ((((v_5).aggCs).headD .any).toStr) (((((v_5).aggCs).tail).headD .any).toStr) ((((((v_5).aggCs).tail).tail).headD .any).toInt) (((((((v_5).aggCs).tail).tail).tail).headD .any).toBool) ((((((((v_5).aggCs).tail).tail).tail).tail).headD .any).toInt) (((((((((v_5).aggCs).tail).tail).tail).tail).tail).headD .any).toInt) ((((((((((v_5).aggCs).tail).tail).tail).tail).tail).tail).headD .any).toStr) (((((((((((v_5).aggCs).tail).tail).tail).tail).tail).tail).tail).headD .any).toInt) ((((((((((((v_5).aggCs).tail).tail).tail).tail).tail).tail).tail).tail).headD .any).slXs) (H.past H_10))
            (cond (!(eqS ((((v_7).tupVs).headD .any).toStr) a0))
              (JR5 a0 a1_0 a1_1 a1_2 a1_3 a1_4 a1_5 a1_6 a1_7 a1_8 a2 Q true ((((v_5).aggCs).headD .any).toStr) (((((v_5).aggCs).tail).headD .any).toStr) ((((((v_5).aggCs).tail).tail).headD .any).toInt) (((((((v_5).aggCs).tail).tail).tail).headD .any).toBool) ((((((((v_5).aggCs).tail).tail).tail).tail).headD .any).toInt) (((((((((v_5).aggCs).tail).tail).tail).tail).tail).headD .any).toInt) ((((((((((v_5).aggCs).tail).tail).tail).tail).tail).tail).headD .any).toStr) (((((((((((v_5).aggCs).tail).tail).tail).tail).tail).tail).tail).headD .any).toInt) ((((((((((((v_5).aggCs).tail).tail).tail).tail).tail).tail).tail).tail).headD .any).slXs) (H.past H_10))
              (cond (!(eqI (((((v_7).tupVs).tail).headD .any).toInt) a2))
                (JR5 a0 a1_0 a1_1 a1_2 a1_3 a1_4 a1_5 a1_6 a1_7 a1_8 a2 Q true ((((v_5).aggCs).headD .any).toStr) (((((v_5).aggCs).tail).headD .any).toStr) ((((((v_5).aggCs).tail).tail).headD .any).toInt) (((((((v_5).aggCs).tail).tail).tail).headD .any).toBool) ((((((((v_5).aggCs).tail).tail).tail).tail).headD .any).toInt) (((((((((v_5).aggCs).tail).tail).tail).tail).tail).headD .any).toInt) ((((((((((v_5).aggCs).tail).tail).tail).tail).tail).tail).headD .any).toStr) (((((((((((v_5).aggCs).tail).tail).tail).tail).tail).tail).tail).headD .any).toInt) ((((((((((((v_5).aggCs).tail).tail).tail).tail).tail).tail).tail).tail).headD .any).slXs) (H.past H_10))
                (cond (!(eqI (((((((((v_5).aggCs).tail).tail).tail).tail).tail).headD .any).toInt) 0))
                  (JR5 a0 a1_0 a1_1 a1_2 a1_3 a1_4 a1_5 a1_6 a1_7 a1_8 a2 Q true ((((v_5).aggCs).headD .any).toStr) (((((v_5).aggCs).tail).headD .any).toStr) ((((((v_5).aggCs).tail).tail).headD .any).toInt) (((((((v_5).aggCs).tail).tail).tail).headD .any).toBool) ((((((((v_5).aggCs).tail).tail).tail).tail).headD .any).toInt) (((((((((v_5).aggCs).tail).tail).tail).tail).tail).headD .any).toInt) ((((((((((v_5).aggCs).tail).tail).tail).tail).tail).tail).headD .any).toStr) (((((((((((v_5).aggCs).tail).tail).tail).tail).tail).tail).tail).headD .any).toInt) ((((((((((((v_5).aggCs).tail).tail).tail).tail).tail).tail).tail).tail).headD .any).slXs) (H.past H_10))
                  (C 14 [.agg [.str ((((v_5).aggCs).headD .any).toStr), .str (((((v_5).aggCs).tail).headD .any).toStr), .int .i64 ((((((v_5).aggCs).tail).tail).headD .any).toInt), .bool (((((((v_5).aggCs).tail).tail).tail).headD .any).toBool), .int .i64 ((((((((v_5).aggCs).tail).tail).tail).tail).headD .any).toInt), .int .i64 (((((((((v_5).aggCs).tail).tail).tail).tail).tail).headD .any).toInt), .str ((((((((((v_5).aggCs).tail).tail).tail).tail).tail).tail).headD .any).toStr), .int .i64 (((((((((((v_5).aggCs).tail).tail).tail).tail).tail).tail).tail).headD .any).toInt), .sl 0 2 ((((((((((((v_5).aggCs).tail).tail).tail).tail).tail).tail).tail).tail).headD .any).slXs)]] ((H.past H_10).none) fun v_11 H_12 =>
                    G ((v_11).isInt .i64) (C 14 [.agg [.str a1_0, .str a1_1, .int .i64 a1_2, .bool a1_3, .int .i64 a1_4, .int .i64 a1_5, .str a1_6, .int .i64 a1_7, .sl 0 2 a1_8]] ((H.past H_12).none) fun v_13 H_14 =>
                      G ((v_13).isInt .i64) (JR5 a0 a1_0 a1_1 a1_2 a1_3 a1_4 a1_5 a1_6 a1_7 a1_8 a2 Q (!(eqI ((v_11).toInt) (cond (ltI 1099511627776 (addW .i64 ((v_13).toInt) 1)) 1099511627776 (addW .i64 ((v_13).toInt) 1)))) ((((v_5).aggCs).headD .any).toStr) (((((v_5).aggCs).tail).headD .any).toStr) ((((((v_5).aggCs).tail).tail).headD .any).toInt) (((((((v_5).aggCs).tail).tail).tail).headD .any).toBool) ((((((((v_5).aggCs).tail).tail).tail).tail).headD .any).toInt) (((((((((v_5).aggCs).tail).tail).tail).tail).tail).headD .any).toInt) ((((((((((v_5).aggCs).tail).tail).tail).tail).tail).tail).headD .any).toStr) (((((((((((v_5).aggCs).tail).tail).tail).tail).tail).tail).tail).headD .any).toInt) ((((((((((((v_5).aggCs).tail).tail).tail).tail).tail).tail).tail).tail).headD .any).slXs) (H.past H_14)))))))))))))))))))))))
theorem t_eq (a0 a1_0 a1_1 : ByteArray) (a1_2 : Int) (a1_3 : Bool) (a1_4 a1_5 : Int) (a1_6 : ByteArray) (a1_7 : Int) (a1_8 : List (List AV)) (a2 : Int) (H : Heap) (Q : Qt) : aBody E0 C 6 [.str a0, .agg [.str a1_0, .str a1_1, .int .i64 a1_2, .bool a1_3, .int .i64 a1_4, .int .i64 a1_5, .str a1_6, .int .i64 a1_7, .sl 0 2 a1_8], .int .i64 a2] H Q = t a0 a1_0 a1_1 a1_2 a1_3 a1_4 a1_5 a1_6 a1_7 a1_8 a2 H Q := by kernel_rfl
theorem call {a0 a1_0 a1_1 : ByteArray} {a1_2 : Int} {a1_3 : Bool} {a1_4 a1_5 : Int} {a1_6 : ByteArray} {a1_7 : Int} {a1_8 : List (List AV)} {a2 : Int} {H : Heap} {Q : Qt} (h : t a0 a1_0 a1_1 a1_2 a1_3 a1_4 a1_5 a1_6 a1_7 a1_8 a2 H Q) : C 6 [.str a0, .agg [.str a1_0, .str a1_1, .int .i64 a1_2, .bool a1_3, .int .i64 a1_4, .int .i64 a1_5, .str a1_6, .int .i64 a1_7, .sl 0 2 a1_8], .int .i64 a2] H Q := Call_told (E := E0) (t_eq a0 a1_0 a1_1 a1_2 a1_3 a1_4 a1_5 a1_6 a1_7 a1_8 a2 H Q) h
end F6
/-! ### broker/brokerlaw28.DeadMarks: function 7 -/
namespace F7
def t (a0 a1_0 a1_1 : ByteArray) (a1_2 : Int) (a1_3 : Bool) (a1_4 a1_5 : Int) (a1_6 : ByteArray) (a1_7 : Int) (a1_8 : List (List AV)) (a2 : Int) (H : Heap) (Q : Qt) : Prop :=
  C 18 [.str a0, .agg [.str a1_0, .str a1_1, .int .i64 a1_2, .bool a1_3, .int .i64 a1_4, .int .i64 a1_5, .str a1_6, .int .i64 a1_7, .sl 0 2 a1_8], .int .i64 a2] H.none fun v_1 H_2 =>
  G ((v_1).isBool) (cond (!((v_1).toBool))
    (C 9 [] ((H.past H_2).none) fun v_3 H_4 =>
      G ((v_3).isBool) (Q (.bool ((v_3).toBool)) (H.past H_4)))
    (C 19 [.str a0, .agg [.str a1_0, .str a1_1, .int .i64 a1_2, .bool a1_3, .int .i64 a1_4, .int .i64 a1_5, .str a1_6, .int .i64 a1_7, .sl 0 2 a1_8], .int .i64 a2] ((H.past H_2).none) fun v_5 H_6 =>
      G ((v_5).isAgg && Nat.beq (v_5).aggCs.length 9) (G ((((v_5).aggCs).headD .any).isStr) (G (((((v_5).aggCs).tail).headD .any).isStr) (G ((((((v_5).aggCs).tail).tail).headD .any).isInt .i64) (G (((((((v_5).aggCs).tail).tail).tail).headD .any).isBool) (G ((((((((v_5).aggCs).tail).tail).tail).tail).headD .any).isInt .i64) (G (((((((((v_5).aggCs).tail).tail).tail).tail).tail).headD .any).isInt .i64) (G ((((((((((v_5).aggCs).tail).tail).tail).tail).tail).tail).headD .any).isStr) (G (((((((((((v_5).aggCs).tail).tail).tail).tail).tail).tail).tail).headD .any).isInt .i64) (G ((((((((((((v_5).aggCs).tail).tail).tail).tail).tail).tail).tail).tail).headD .any).isSl 2) (C 24 [.str a0, .agg [.str a1_0, .str a1_1, .int .i64 a1_2, .bool a1_3, .int .i64 a1_4, .int .i64 a1_5, .str a1_6, .int .i64 a1_7, .sl 0 2 a1_8], .int .i64 a2] ((H.past H_6).none) fun v_7 H_8 =>
        G ((v_7).isAgg && Nat.beq (v_7).aggCs.length 9) (G ((((v_7).aggCs).headD .any).isStr) (G (((((v_7).aggCs).tail).headD .any).isStr) (G ((((((v_7).aggCs).tail).tail).headD .any).isInt .i64) (G (((((((v_7).aggCs).tail).tail).tail).headD .any).isBool) (G ((((((((v_7).aggCs).tail).tail).tail).tail).headD .any).isInt .i64) (G (((((((((v_7).aggCs).tail).tail).tail).tail).tail).headD .any).isInt .i64) (G ((((((((((v_7).aggCs).tail).tail).tail).tail).tail).tail).headD .any).isStr) (G (((((((((((v_7).aggCs).tail).tail).tail).tail).tail).tail).tail).headD .any).isInt .i64) (G ((((((((((((v_7).aggCs).tail).tail).tail).tail).tail).tail).tail).tail).headD .any).isSl 2) (C 23 [.agg [.str ((((v_5).aggCs).headD .any).toStr), .str (((((v_5).aggCs).tail).headD .any).toStr), .int .i64 ((((((v_5).aggCs).tail).tail).headD .any).toInt), .bool (((((((v_5).aggCs).tail).tail).tail).headD .any).toBool), .int .i64 ((((((((v_5).aggCs).tail).tail).tail).tail).headD .any).toInt), .int .i64 (((((((((v_5).aggCs).tail).tail).tail).tail).tail).headD .any).toInt), .str ((((((((((v_5).aggCs).tail).tail).tail).tail).tail).tail).headD .any).toStr), .int .i64 (((((((((((v_5).aggCs).tail).tail).tail).tail).tail).tail).tail).headD .any).toInt), .sl 0 2 ((((((((((((v_5).aggCs).tail).tail).tail).tail).tail).tail).tail).tail).headD .any).slXs)], .agg [.str ((((v_7).aggCs).headD .any).toStr), .str (((((v_7).aggCs).tail).headD .any).toStr), .int .i64 ((((((v_7).aggCs).tail).tail).headD .any).toInt), .bool (((((((v_7).aggCs).tail).tail).tail).headD .any).toBool), .int .i64 ((((((((v_7).aggCs).tail).tail).tail).tail).headD .any).toInt), .int .i64 (((((((((v_7).aggCs).tail).tail).tail).tail).tail).headD .any).toInt), .str ((((((((((v_7).aggCs).tail).tail).tail).tail).tail).tail).headD .any).toStr), .int .i64 (((((((((((v_7).aggCs).tail).tail).tail).tail).tail).tail).tail).headD .any).toInt), .sl 0 2 ((((((((((((v_7).aggCs).tail).tail).tail).tail).tail).tail).tail).tail).headD .any).slXs)]] ((H.past H_8).none) fun v_9 H_10 =>
          G ((v_9).isBool) (cond ((v_9).toBool)
            (C 9 [] ((H.past H_10).none) fun v_11 H_12 =>
              G ((v_11).isBool) (Q (.bool ((v_11).toBool)) (H.past H_12)))
            (Q (.bool false) (H.past H_10)))))))))))))))))))))))))
theorem t_eq (a0 a1_0 a1_1 : ByteArray) (a1_2 : Int) (a1_3 : Bool) (a1_4 a1_5 : Int) (a1_6 : ByteArray) (a1_7 : Int) (a1_8 : List (List AV)) (a2 : Int) (H : Heap) (Q : Qt) : aBody E0 C 7 [.str a0, .agg [.str a1_0, .str a1_1, .int .i64 a1_2, .bool a1_3, .int .i64 a1_4, .int .i64 a1_5, .str a1_6, .int .i64 a1_7, .sl 0 2 a1_8], .int .i64 a2] H Q = t a0 a1_0 a1_1 a1_2 a1_3 a1_4 a1_5 a1_6 a1_7 a1_8 a2 H Q := by kernel_rfl
theorem call {a0 a1_0 a1_1 : ByteArray} {a1_2 : Int} {a1_3 : Bool} {a1_4 a1_5 : Int} {a1_6 : ByteArray} {a1_7 : Int} {a1_8 : List (List AV)} {a2 : Int} {H : Heap} {Q : Qt} (h : t a0 a1_0 a1_1 a1_2 a1_3 a1_4 a1_5 a1_6 a1_7 a1_8 a2 H Q) : C 7 [.str a0, .agg [.str a1_0, .str a1_1, .int .i64 a1_2, .bool a1_3, .int .i64 a1_4, .int .i64 a1_5, .str a1_6, .int .i64 a1_7, .sl 0 2 a1_8], .int .i64 a2] H Q := Call_told (E := E0) (t_eq a0 a1_0 a1_1 a1_2 a1_3 a1_4 a1_5 a1_6 a1_7 a1_8 a2 H Q) h
end F7
/-! ### broker/brokerref25.Check: function 8 -/
namespace F8
def JR3 (a0_0 : ByteArray) (a0_1 a0_2 a0_3 : Int) (a0_4 : ByteArray) (Q : Qt) (x22 : Bool) (Hh : Heap) : Prop := AJoin (contK E0 C (E0.L 8) [.seq (codeAt (bodyOf E0 8) [1, 1, 0, 1]) 0, .seq (codeAt (bodyOf E0 8) [1, 1, 1]) 0] (finK E0 8 Q)) ⟨stt 32 [(1, .ptr 0 0), (22, .bool x22)], [.cells [.str a0_0, .int .i64 a0_1, .int .i64 a0_2, .int .i64 a0_3, .str a0_4]], Hh⟩
def jR3 (a0_0 : ByteArray) (a0_1 a0_2 a0_3 : Int) (a0_4 : ByteArray) (Q : Qt) (x22 : Bool) (Hh : Heap) : Prop :=
  cond x22
  (Q (.int .i64 1) Hh)
  (cond (!(eqS a0_4 (⟨#[]⟩ : ByteArray)))
    (C 25 [.str a0_4] Hh.none fun v_9 H_10 =>
      G ((v_9).isBool) (cond (!((v_9).toBool))
        (Q (.int .i64 11) (Hh.past H_10))
        (Q (.int .i64 0) (Hh.past H_10))))
    (Q (.int .i64 0) Hh))
theorem JR3_eq (a0_0 : ByteArray) (a0_1 a0_2 a0_3 : Int) (a0_4 : ByteArray) (Q : Qt) (x22 : Bool) (Hh : Heap) : contK E0 C (E0.L 8) [.seq (codeAt (bodyOf E0 8) [1, 1, 0, 1]) 0, .seq (codeAt (bodyOf E0 8) [1, 1, 1]) 0] (finK E0 8 Q) .normal ⟨stt 32 [(1, .ptr 0 0), (22, .bool x22)], [.cells [.str a0_0, .int .i64 a0_1, .int .i64 a0_2, .int .i64 a0_3, .str a0_4]], Hh⟩ = jR3 a0_0 a0_1 a0_2 a0_3 a0_4 Q x22 Hh := by kernel_rfl
theorem JR3_step {a0_0 : ByteArray} {a0_1 a0_2 a0_3 : Int} {a0_4 : ByteArray} {Q : Qt} {x22 : Bool} {Hh : Heap} (h : jR3 a0_0 a0_1 a0_2 a0_3 a0_4 Q x22 Hh) : JR3 a0_0 a0_1 a0_2 a0_3 a0_4 Q x22 Hh := AJoin_told (JR3_eq a0_0 a0_1 a0_2 a0_3 a0_4 Q x22 Hh) h
def t (a0_0 : ByteArray) (a0_1 a0_2 a0_3 : Int) (a0_4 : ByteArray) (H : Heap) (Q : Qt) : Prop :=
  C 25 [.str a0_0] H.none fun v_1 H_2 =>
  G ((v_1).isBool) (cond (!((v_1).toBool))
    (Q (.int .i64 11) (H.past H_2))
    (C 26 [.int .i64 a0_1, .int .i64 1, .int .i64 256] ((H.past H_2).none) fun v_3 H_4 =>
      G ((v_3).isBool) (cond (!((v_3).toBool))
        (JR3 a0_0 a0_1 a0_2 a0_3 a0_4 Q true (H.past H_4))
        (C 26 [.int .i64 a0_2, .int .i64 0, .int .i64 1099511627776] ((H.past H_4).none) fun v_5 H_6 =>
          G ((v_5).isBool) (cond (!((v_5).toBool))
            (JR3 a0_0 a0_1 a0_2 a0_3 a0_4 Q true (H.past H_6))
            (C 26 [.int .i64 a0_3, .int .i64 0, .int .i64 1099511627776] ((H.past H_6).none) fun v_7 H_8 =>
              G ((v_7).isBool) (JR3 a0_0 a0_1 a0_2 a0_3 a0_4 Q (!((v_7).toBool)) (H.past H_8))))))))
theorem t_eq (a0_0 : ByteArray) (a0_1 a0_2 a0_3 : Int) (a0_4 : ByteArray) (H : Heap) (Q : Qt) : aBody E0 C 8 [.agg [.str a0_0, .int .i64 a0_1, .int .i64 a0_2, .int .i64 a0_3, .str a0_4]] H Q = t a0_0 a0_1 a0_2 a0_3 a0_4 H Q := by kernel_rfl
theorem call {a0_0 : ByteArray} {a0_1 a0_2 a0_3 : Int} {a0_4 : ByteArray} {H : Heap} {Q : Qt} (h : t a0_0 a0_1 a0_2 a0_3 a0_4 H Q) : C 8 [.agg [.str a0_0, .int .i64 a0_1, .int .i64 a0_2, .int .i64 a0_3, .str a0_4]] H Q := Call_told (E := E0) (t_eq a0_0 a0_1 a0_2 a0_3 a0_4 H Q) h
end F8
/-! ### broker/brokerlaw28.exampleHolds: function 9 -/
namespace F9
def JR9  (Q : Qt) (x78 : Bool) (m2_0 m2_1 : ByteArray) (m2_2 : Int) (m2_3 : Bool) (m2_4 m2_5 : Int) (m2_6 : ByteArray) (m2_7 : Int) (m2_8 : List (List AV)) (m3_0 m3_1 : ByteArray) (m3_2 : Int) (m3_3 : Bool) (m3_4 m3_5 : Int) (m3_6 : ByteArray) (m3_7 : Int) (m3_8 : List (List AV)) (Hh : Heap) : Prop := AJoin (contK E0 C (E0.L 9) [.seq (codeAt (bodyOf E0 9) [1, 1, 1, 1, 1, 1, 1, 1, 1, 0, 1]) 0, .seq (codeAt (bodyOf E0 9) [1, 1, 1, 1, 1, 1, 1, 1, 1, 1]) 0] (finK E0 9 Q)) ⟨stt 137 [(6, .ptr 3 0), (78, .bool x78)], [.cells [.str (⟨#[113]⟩ : ByteArray), .int .i64 1, .int .i64 10, .int .i64 2, .str (⟨#[]⟩ : ByteArray)], .cells [.int .i64 1, .int .i64 5, .int .i64 2, .str (⟨#[116]⟩ : ByteArray), .str (⟨#[]⟩ : ByteArray), .int .i64 0, .bool false, .int .i64 0, .int .i64 0, .str (⟨#[]⟩ : ByteArray), .int .i64 0, .nilsl], .cells [.str m2_0, .str m2_1, .int .i64 m2_2, .bool m2_3, .int .i64 m2_4, .int .i64 m2_5, .str m2_6, .int .i64 m2_7, .sl 0 2 m2_8], .cells [.str m3_0, .str m3_1, .int .i64 m3_2, .bool m3_3, .int .i64 m3_4, .int .i64 m3_5, .str m3_6, .int .i64 m3_7, .sl 0 2 m3_8]], Hh⟩
def K0 (Q : Qt) : Ex → St → Prop := (contK E0 C (E0.L 9) [.block 0 5, .seq (codeAt (bodyOf E0 9) [1, 1, 1, 1, 1, 1, 1, 1, 1, 1, 1, 1]) 1] (finK E0 9 Q))
def L0  (Q : Qt) (x80 : List (List AV)) (x81 x82 : Int) (m2_0 m2_1 : ByteArray) (m2_2 : Int) (m2_3 : Bool) (m2_4 m2_5 : Int) (m2_6 : ByteArray) (m2_7 : Int) (m2_8 : List (List AV)) (m3_0 m3_1 : ByteArray) (m3_2 : Int) (m3_3 : Bool) (m3_4 m3_5 : Int) (m3_6 : ByteArray) (m3_7 : Int) (m3_8 m4_8 : List (List AV)) (Hh : Heap) : Prop := ALoop (fun K s => awp E0 C (E0.L 9) (codeAt (bodyOf E0 9) [1, 1, 1, 1, 1, 1, 1, 1, 1, 1, 1, 0, 1, 0, 0]) 1 s K) (clean [(6, 0), (11, 0), (80, 0), (81, 0), (82, 0), (1004008, 4)] 5) (K0 Q) ⟨stt 137 [(6, .ptr 3 0), (11, .ptr 4 0), (80, .sl 0 1 x80), (81, .int .i64 x81), (82, .int .i64 x82)], [.cells [.str (⟨#[113]⟩ : ByteArray), .int .i64 1, .int .i64 10, .int .i64 2, .str (⟨#[]⟩ : ByteArray)], .cells [.int .i64 1, .int .i64 5, .int .i64 2, .str (⟨#[116]⟩ : ByteArray), .str (⟨#[]⟩ : ByteArray), .int .i64 0, .bool false, .int .i64 0, .int .i64 0, .str (⟨#[]⟩ : ByteArray), .int .i64 0, .nilsl], .cells [.str m2_0, .str m2_1, .int .i64 m2_2, .bool m2_3, .int .i64 m2_4, .int .i64 m2_5, .str m2_6, .int .i64 m2_7, .sl 0 2 m2_8], .cells [.str m3_0, .str m3_1, .int .i64 m3_2, .bool m3_3, .int .i64 m3_4, .int .i64 m3_5, .str m3_6, .int .i64 m3_7, .sl 0 2 m3_8], .cells [.str (⟨#[116]⟩ : ByteArray), .str (⟨#[]⟩ : ByteArray), .int .i64 0, .bool false, .int .i64 0, .int .i64 0, .str (⟨#[]⟩ : ByteArray), .int .i64 0, .sl 1 2 m4_8]], Hh⟩
def jR9  (Q : Qt) (x78 : Bool) (m2_0 m2_1 : ByteArray) (m2_2 : Int) (m2_3 : Bool) (m2_4 m2_5 : Int) (m2_6 : ByteArray) (m2_7 : Int) (m2_8 : List (List AV)) (m3_0 m3_1 : ByteArray) (m3_2 : Int) (m3_3 : Bool) (m3_4 m3_5 : Int) (m3_6 : ByteArray) (m3_7 : Int) (m3_8 : List (List AV)) (Hh : Heap) : Prop :=
  cond x78
  (Q (.bool false) Hh)
  (C 27 [.str (⟨#[97, 98, 99, 100, 101, 102, 103, 104]⟩ : ByteArray), .str (⟨#[]⟩ : ByteArray)] Hh.none fun v_19 H_20 =>
    G ((v_19).isSl 1) (L0 Q ((v_19).slXs) (lenI ((v_19).slXs)) 0 m2_0 m2_1 m2_2 m2_3 m2_4 m2_5 m2_6 m2_7 m2_8 m3_0 m3_1 m3_2 m3_3 m3_4 m3_5 m3_6 m3_7 m3_8 [] (Hh.past H_20)))
theorem JR9_eq  (Q : Qt) (x78 : Bool) (m2_0 m2_1 : ByteArray) (m2_2 : Int) (m2_3 : Bool) (m2_4 m2_5 : Int) (m2_6 : ByteArray) (m2_7 : Int) (m2_8 : List (List AV)) (m3_0 m3_1 : ByteArray) (m3_2 : Int) (m3_3 : Bool) (m3_4 m3_5 : Int) (m3_6 : ByteArray) (m3_7 : Int) (m3_8 : List (List AV)) (Hh : Heap) : contK E0 C (E0.L 9) [.seq (codeAt (bodyOf E0 9) [1, 1, 1, 1, 1, 1, 1, 1, 1, 0, 1]) 0, .seq (codeAt (bodyOf E0 9) [1, 1, 1, 1, 1, 1, 1, 1, 1, 1]) 0] (finK E0 9 Q) .normal ⟨stt 137 [(6, .ptr 3 0), (78, .bool x78)], [.cells [.str (⟨#[113]⟩ : ByteArray), .int .i64 1, .int .i64 10, .int .i64 2, .str (⟨#[]⟩ : ByteArray)], .cells [.int .i64 1, .int .i64 5, .int .i64 2, .str (⟨#[116]⟩ : ByteArray), .str (⟨#[]⟩ : ByteArray), .int .i64 0, .bool false, .int .i64 0, .int .i64 0, .str (⟨#[]⟩ : ByteArray), .int .i64 0, .nilsl], .cells [.str m2_0, .str m2_1, .int .i64 m2_2, .bool m2_3, .int .i64 m2_4, .int .i64 m2_5, .str m2_6, .int .i64 m2_7, .sl 0 2 m2_8], .cells [.str m3_0, .str m3_1, .int .i64 m3_2, .bool m3_3, .int .i64 m3_4, .int .i64 m3_5, .str m3_6, .int .i64 m3_7, .sl 0 2 m3_8]], Hh⟩ = jR9  Q x78 m2_0 m2_1 m2_2 m2_3 m2_4 m2_5 m2_6 m2_7 m2_8 m3_0 m3_1 m3_2 m3_3 m3_4 m3_5 m3_6 m3_7 m3_8 Hh := by kernel_rfl
theorem JR9_step {Q : Qt} {x78 : Bool} {m2_0 m2_1 : ByteArray} {m2_2 : Int} {m2_3 : Bool} {m2_4 m2_5 : Int} {m2_6 : ByteArray} {m2_7 : Int} {m2_8 : List (List AV)} {m3_0 m3_1 : ByteArray} {m3_2 : Int} {m3_3 : Bool} {m3_4 m3_5 : Int} {m3_6 : ByteArray} {m3_7 : Int} {m3_8 : List (List AV)} {Hh : Heap} (h : jR9  Q x78 m2_0 m2_1 m2_2 m2_3 m2_4 m2_5 m2_6 m2_7 m2_8 m3_0 m3_1 m3_2 m3_3 m3_4 m3_5 m3_6 m3_7 m3_8 Hh) : JR9  Q x78 m2_0 m2_1 m2_2 m2_3 m2_4 m2_5 m2_6 m2_7 m2_8 m3_0 m3_1 m3_2 m3_3 m3_4 m3_5 m3_6 m3_7 m3_8 Hh := AJoin_told (JR9_eq  Q x78 m2_0 m2_1 m2_2 m2_3 m2_4 m2_5 m2_6 m2_7 m2_8 m3_0 m3_1 m3_2 m3_3 m3_4 m3_5 m3_6 m3_7 m3_8 Hh) h
def r0  (Q : Qt) (x80 : List (List AV)) (x81 x82 : Int) (m2_0 m2_1 : ByteArray) (m2_2 : Int) (m2_3 : Bool) (m2_4 m2_5 : Int) (m2_6 : ByteArray) (m2_7 : Int) (m2_8 : List (List AV)) (m3_0 m3_1 : ByteArray) (m3_2 : Int) (m3_3 : Bool) (m3_4 m3_5 : Int) (m3_6 : ByteArray) (m3_7 : Int) (m3_8 m4_8 : List (List AV)) (Hh : Heap) : Prop :=
  cond (ltI x82 x81)
  (G (leI 0 x82) (G (ltI x82 (lenI x80)) (G ((ce (ro x80 x82.toNat) 0).isStr) (G (room m4_8 [[.str ((ce (ro x80 x82.toNat) 0).toStr), .str (⟨#[]⟩ : ByteArray)]] 32) (L0 Q x80 x81 (addW .i64 x82 1) m2_0 m2_1 m2_2 m2_3 m2_4 m2_5 m2_6 m2_7 m2_8 m3_0 m3_1 m3_2 m3_3 m3_4 m3_5 m3_6 m3_7 m3_8 (m4_8 ++ [[.str ((ce (ro x80 x82.toNat) 0).toStr), .str (⟨#[]⟩ : ByteArray)]]) Hh)))))
  (C 19 [.str (⟨#[113]⟩ : ByteArray), .agg [.str (⟨#[116]⟩ : ByteArray), .str (⟨#[]⟩ : ByteArray), .int .i64 0, .bool false, .int .i64 0, .int .i64 0, .str (⟨#[]⟩ : ByteArray), .int .i64 0, .sl 0 2 m4_8], .int .i64 3] Hh.none fun v_21 H_22 =>
    G ((v_21).isAgg && Nat.beq (v_21).aggCs.length 9) (G ((((v_21).aggCs).headD .any).isStr) (G (((((v_21).aggCs).tail).headD .any).isStr) (G ((((((v_21).aggCs).tail).tail).headD .any).isInt .i64) (G (((((((v_21).aggCs).tail).tail).tail).headD .any).isBool) (G ((((((((v_21).aggCs).tail).tail).tail).tail).headD .any).isInt .i64) (G (((((((((v_21).aggCs).tail).tail).tail).tail).tail).headD .any).isInt .i64) (G ((((((((((v_21).aggCs).tail).tail).tail).tail).tail).tail).headD .any).isStr) (G (((((((((((v_21).aggCs).tail).tail).tail).tail).tail).tail).tail).headD .any).isInt .i64) (G ((((((((((((v_21).aggCs).tail).tail).tail).tail).tail).tail).tail).tail).headD .any).isSl 2) (C 19 [.str (⟨#[113]⟩ : ByteArray), .agg [.str (⟨#[116]⟩ : ByteArray), .str (⟨#[]⟩ : ByteArray), .int .i64 0, .bool false, .int .i64 0, .int .i64 0, .str (⟨#[]⟩ : ByteArray), .int .i64 0, .sl 0 2 [[.str (⟨#[100, 101, 97, 116, 104, 115]⟩ : ByteArray), .str (⟨#[48, 55]⟩ : ByteArray)]]], .int .i64 3] ((Hh.past H_22).none) fun v_23 H_24 =>
      G ((v_23).isAgg && Nat.beq (v_23).aggCs.length 9) (G ((((v_23).aggCs).headD .any).isStr) (G (((((v_23).aggCs).tail).headD .any).isStr) (G ((((((v_23).aggCs).tail).tail).headD .any).isInt .i64) (G (((((((v_23).aggCs).tail).tail).tail).headD .any).isBool) (G ((((((((v_23).aggCs).tail).tail).tail).tail).headD .any).isInt .i64) (G (((((((((v_23).aggCs).tail).tail).tail).tail).tail).headD .any).isInt .i64) (G ((((((((((v_23).aggCs).tail).tail).tail).tail).tail).tail).headD .any).isStr) (G (((((((((((v_23).aggCs).tail).tail).tail).tail).tail).tail).tail).headD .any).isInt .i64) (G ((((((((((((v_23).aggCs).tail).tail).tail).tail).tail).tail).tail).tail).headD .any).isSl 2) (cond (eqI (lenI ((((((((((((v_21).aggCs).tail).tail).tail).tail).tail).tail).tail).tail).headD .any).slXs)) 8)
        (G (ltI 3 (lenI ((((((((((((v_21).aggCs).tail).tail).tail).tail).tail).tail).tail).tail).headD .any).slXs))) (G ((ce (ro ((((((((((((v_21).aggCs).tail).tail).tail).tail).tail).tail).tail).tail).headD .any).slXs) 3) 0).isStr) (cond (eqS ((ce (ro ((((((((((((v_21).aggCs).tail).tail).tail).tail).tail).tail).tail).tail).headD .any).slXs) 3) 0).toStr) (⟨#[100]⟩ : ByteArray))
          (G (ltI 4 (lenI ((((((((((((v_21).aggCs).tail).tail).tail).tail).tail).tail).tail).tail).headD .any).slXs))) (G ((ce (ro ((((((((((((v_21).aggCs).tail).tail).tail).tail).tail).tail).tail).tail).headD .any).slXs) 4) 0).isStr) (cond (eqS ((ce (ro ((((((((((((v_21).aggCs).tail).tail).tail).tail).tail).tail).tail).tail).headD .any).slXs) 4) 0).toStr) (⟨#[100, 101, 97, 116, 104, 115]⟩ : ByteArray))
            (G (ltI 7 (lenI ((((((((((((v_21).aggCs).tail).tail).tail).tail).tail).tail).tail).tail).headD .any).slXs))) (G ((ce (ro ((((((((((((v_21).aggCs).tail).tail).tail).tail).tail).tail).tail).tail).headD .any).slXs) 7) 0).isStr) (cond (eqS ((ce (ro ((((((((((((v_21).aggCs).tail).tail).tail).tail).tail).tail).tail).tail).headD .any).slXs) 7) 0).toStr) (⟨#[102]⟩ : ByteArray))
              (C 14 [.agg [.str ((((v_23).aggCs).headD .any).toStr), .str (((((v_23).aggCs).tail).headD .any).toStr), .int .i64 ((((((v_23).aggCs).tail).tail).headD .any).toInt), .bool (((((((v_23).aggCs).tail).tail).tail).headD .any).toBool), .int .i64 ((((((((v_23).aggCs).tail).tail).tail).tail).headD .any).toInt), .int .i64 (((((((((v_23).aggCs).tail).tail).tail).tail).tail).headD .any).toInt), .str ((((((((((v_23).aggCs).tail).tail).tail).tail).tail).tail).headD .any).toStr), .int .i64 (((((((((((v_23).aggCs).tail).tail).tail).tail).tail).tail).tail).headD .any).toInt), .sl 0 2 ((((((((((((v_23).aggCs).tail).tail).tail).tail).tail).tail).tail).tail).headD .any).slXs)]] ((Hh.past H_24).none) fun v_25 H_26 =>
                G ((v_25).isInt .i64) (cond (eqI ((v_25).toInt) 1)
                  (C 16 [.agg [.str m3_0, .str m3_1, .int .i64 m3_2, .bool m3_3, .int .i64 m3_4, .int .i64 m3_5, .str m3_6, .int .i64 m3_7, .sl 0 2 m3_8]] ((Hh.past H_26).none) fun v_27 H_28 =>
                    G ((v_27).isBool) (Q (.bool ((v_27).toBool)) (Hh.past H_28)))
                  (Q (.bool false) (Hh.past H_26))))
              (Q (.bool false) (Hh.past H_24)))))
            (Q (.bool false) (Hh.past H_24)))))
          (Q (.bool false) (Hh.past H_24)))))
        (Q (.bool false) (Hh.past H_24)))))))))))))))))))))))
theorem r0_eq  (Q : Qt) (x80 : List (List AV)) (x81 x82 : Int) (m2_0 m2_1 : ByteArray) (m2_2 : Int) (m2_3 : Bool) (m2_4 m2_5 : Int) (m2_6 : ByteArray) (m2_7 : Int) (m2_8 : List (List AV)) (m3_0 m3_1 : ByteArray) (m3_2 : Int) (m3_3 : Bool) (m3_4 m3_5 : Int) (m3_6 : ByteArray) (m3_7 : Int) (m3_8 m4_8 : List (List AV)) (Hh : Heap) : (fun K s => awp E0 C (E0.L 9) (codeAt (bodyOf E0 9) [1, 1, 1, 1, 1, 1, 1, 1, 1, 1, 1, 0, 1, 0, 0]) 1 s K) (ALoopK (fun K s => awp E0 C (E0.L 9) (codeAt (bodyOf E0 9) [1, 1, 1, 1, 1, 1, 1, 1, 1, 1, 1, 0, 1, 0, 0]) 1 s K) (clean [(6, 0), (11, 0), (80, 0), (81, 0), (82, 0), (1004008, 4)] 5) (K0 Q)) ⟨stt 137 [(6, .ptr 3 0), (11, .ptr 4 0), (80, .sl 0 1 x80), (81, .int .i64 x81), (82, .int .i64 x82)], [.cells [.str (⟨#[113]⟩ : ByteArray), .int .i64 1, .int .i64 10, .int .i64 2, .str (⟨#[]⟩ : ByteArray)], .cells [.int .i64 1, .int .i64 5, .int .i64 2, .str (⟨#[116]⟩ : ByteArray), .str (⟨#[]⟩ : ByteArray), .int .i64 0, .bool false, .int .i64 0, .int .i64 0, .str (⟨#[]⟩ : ByteArray), .int .i64 0, .nilsl], .cells [.str m2_0, .str m2_1, .int .i64 m2_2, .bool m2_3, .int .i64 m2_4, .int .i64 m2_5, .str m2_6, .int .i64 m2_7, .sl 0 2 m2_8], .cells [.str m3_0, .str m3_1, .int .i64 m3_2, .bool m3_3, .int .i64 m3_4, .int .i64 m3_5, .str m3_6, .int .i64 m3_7, .sl 0 2 m3_8], .cells [.str (⟨#[116]⟩ : ByteArray), .str (⟨#[]⟩ : ByteArray), .int .i64 0, .bool false, .int .i64 0, .int .i64 0, .str (⟨#[]⟩ : ByteArray), .int .i64 0, .sl 1 2 m4_8]], Hh⟩ = r0  Q x80 x81 x82 m2_0 m2_1 m2_2 m2_3 m2_4 m2_5 m2_6 m2_7 m2_8 m3_0 m3_1 m3_2 m3_3 m3_4 m3_5 m3_6 m3_7 m3_8 m4_8 Hh := by kernel_rfl
theorem L0_step {Q : Qt} {x80 : List (List AV)} {x81 x82 : Int} {m2_0 m2_1 : ByteArray} {m2_2 : Int} {m2_3 : Bool} {m2_4 m2_5 : Int} {m2_6 : ByteArray} {m2_7 : Int} {m2_8 : List (List AV)} {m3_0 m3_1 : ByteArray} {m3_2 : Int} {m3_3 : Bool} {m3_4 m3_5 : Int} {m3_6 : ByteArray} {m3_7 : Int} {m3_8 m4_8 : List (List AV)} {Hh : Heap} (h : r0 Q x80 x81 x82 m2_0 m2_1 m2_2 m2_3 m2_4 m2_5 m2_6 m2_7 m2_8 m3_0 m3_1 m3_2 m3_3 m3_4 m3_5 m3_6 m3_7 m3_8 m4_8 Hh) : L0 Q x80 x81 x82 m2_0 m2_1 m2_2 m2_3 m2_4 m2_5 m2_6 m2_7 m2_8 m3_0 m3_1 m3_2 m3_3 m3_4 m3_5 m3_6 m3_7 m3_8 m4_8 Hh := ALoop_told (r0_eq Q x80 x81 x82 m2_0 m2_1 m2_2 m2_3 m2_4 m2_5 m2_6 m2_7 m2_8 m3_0 m3_1 m3_2 m3_3 m3_4 m3_5 m3_6 m3_7 m3_8 m4_8 Hh) h
def t  (H : Heap) (Q : Qt) : Prop :=
  C 10 [.agg [.str (⟨#[113]⟩ : ByteArray), .int .i64 1, .int .i64 10, .int .i64 2, .str (⟨#[]⟩ : ByteArray)], .agg [.int .i64 1, .int .i64 5, .int .i64 1, .str (⟨#[116]⟩ : ByteArray), .str (⟨#[]⟩ : ByteArray), .int .i64 0, .bool false, .int .i64 0, .int .i64 0, .str (⟨#[]⟩ : ByteArray), .int .i64 0, .sl 0 2 []], .int .i64 14] H.none fun v_1 H_2 =>
  G ((v_1).isInt .i64) (C 10 [.agg [.str (⟨#[113]⟩ : ByteArray), .int .i64 1, .int .i64 10, .int .i64 2, .str (⟨#[]⟩ : ByteArray)], .agg [.int .i64 1, .int .i64 5, .int .i64 1, .str (⟨#[116]⟩ : ByteArray), .str (⟨#[]⟩ : ByteArray), .int .i64 0, .bool false, .int .i64 0, .int .i64 0, .str (⟨#[]⟩ : ByteArray), .int .i64 0, .sl 0 2 []], .int .i64 15] ((H.past H_2).none) fun v_3 H_4 =>
    G ((v_3).isInt .i64) (C 19 [.str (⟨#[113]⟩ : ByteArray), .agg [.str (⟨#[116]⟩ : ByteArray), .str (⟨#[]⟩ : ByteArray), .int .i64 0, .bool false, .int .i64 0, .int .i64 0, .str (⟨#[]⟩ : ByteArray), .int .i64 0, .sl 0 2 []], .int .i64 1] ((H.past H_4).none) fun v_5 H_6 =>
      G ((v_5).isAgg && Nat.beq (v_5).aggCs.length 9) (G ((((v_5).aggCs).headD .any).isStr) (G (((((v_5).aggCs).tail).headD .any).isStr) (G ((((((v_5).aggCs).tail).tail).headD .any).isInt .i64) (G (((((((v_5).aggCs).tail).tail).tail).headD .any).isBool) (G ((((((((v_5).aggCs).tail).tail).tail).tail).headD .any).isInt .i64) (G (((((((((v_5).aggCs).tail).tail).tail).tail).tail).headD .any).isInt .i64) (G ((((((((((v_5).aggCs).tail).tail).tail).tail).tail).tail).headD .any).isStr) (G (((((((((((v_5).aggCs).tail).tail).tail).tail).tail).tail).tail).headD .any).isInt .i64) (G ((((((((((((v_5).aggCs).tail).tail).tail).tail).tail).tail).tail).tail).headD .any).isSl 2) (C 19 [.str (⟨#[112]⟩ : ByteArray), .agg [.str ((((v_5).aggCs).headD .any).toStr), .str (((((v_5).aggCs).tail).headD .any).toStr), .int .i64 ((((((v_5).aggCs).tail).tail).headD .any).toInt), .bool (((((((v_5).aggCs).tail).tail).tail).headD .any).toBool), .int .i64 ((((((((v_5).aggCs).tail).tail).tail).tail).headD .any).toInt), .int .i64 (((((((((v_5).aggCs).tail).tail).tail).tail).tail).headD .any).toInt), .str ((((((((((v_5).aggCs).tail).tail).tail).tail).tail).tail).headD .any).toStr), .int .i64 (((((((((((v_5).aggCs).tail).tail).tail).tail).tail).tail).tail).headD .any).toInt), .sl 0 2 ((((((((((((v_5).aggCs).tail).tail).tail).tail).tail).tail).tail).tail).headD .any).slXs)], .int .i64 2] ((H.past H_6).none) fun v_7 H_8 =>
        G ((v_7).isAgg && Nat.beq (v_7).aggCs.length 9) (G ((((v_7).aggCs).headD .any).isStr) (G (((((v_7).aggCs).tail).headD .any).isStr) (G ((((((v_7).aggCs).tail).tail).headD .any).isInt .i64) (G (((((((v_7).aggCs).tail).tail).tail).headD .any).isBool) (G ((((((((v_7).aggCs).tail).tail).tail).tail).headD .any).isInt .i64) (G (((((((((v_7).aggCs).tail).tail).tail).tail).tail).headD .any).isInt .i64) (G ((((((((((v_7).aggCs).tail).tail).tail).tail).tail).tail).headD .any).isStr) (G (((((((((((v_7).aggCs).tail).tail).tail).tail).tail).tail).tail).headD .any).isInt .i64) (G ((((((((((((v_7).aggCs).tail).tail).tail).tail).tail).tail).tail).tail).headD .any).isSl 2) (C 12 [.agg [.str ((((v_5).aggCs).headD .any).toStr), .str (((((v_5).aggCs).tail).headD .any).toStr), .int .i64 ((((((v_5).aggCs).tail).tail).headD .any).toInt), .bool (((((((v_5).aggCs).tail).tail).tail).headD .any).toBool), .int .i64 ((((((((v_5).aggCs).tail).tail).tail).tail).headD .any).toInt), .int .i64 (((((((((v_5).aggCs).tail).tail).tail).tail).tail).headD .any).toInt), .str ((((((((((v_5).aggCs).tail).tail).tail).tail).tail).tail).headD .any).toStr), .int .i64 (((((((((((v_5).aggCs).tail).tail).tail).tail).tail).tail).tail).headD .any).toInt), .sl 0 2 ((((((((((((v_5).aggCs).tail).tail).tail).tail).tail).tail).tail).tail).headD .any).slXs)]] ((H.past H_8).none) fun v_9 H_10 =>
          G ((v_9).isTup && Nat.beq (v_9).tupVs.length 2) (G ((((v_9).tupVs).headD .any).isStr) (G (((((v_9).tupVs).tail).headD .any).isInt .i64) (C 12 [.agg [.str ((((v_7).aggCs).headD .any).toStr), .str (((((v_7).aggCs).tail).headD .any).toStr), .int .i64 ((((((v_7).aggCs).tail).tail).headD .any).toInt), .bool (((((((v_7).aggCs).tail).tail).tail).headD .any).toBool), .int .i64 ((((((((v_7).aggCs).tail).tail).tail).tail).headD .any).toInt), .int .i64 (((((((((v_7).aggCs).tail).tail).tail).tail).tail).headD .any).toInt), .str ((((((((((v_7).aggCs).tail).tail).tail).tail).tail).tail).headD .any).toStr), .int .i64 (((((((((((v_7).aggCs).tail).tail).tail).tail).tail).tail).tail).headD .any).toInt), .sl 0 2 ((((((((((((v_7).aggCs).tail).tail).tail).tail).tail).tail).tail).tail).headD .any).slXs)]] ((H.past H_10).none) fun v_11 H_12 =>
            G ((v_11).isTup && Nat.beq (v_11).tupVs.length 2) (G ((((v_11).tupVs).headD .any).isStr) (G (((((v_11).tupVs).tail).headD .any).isInt .i64) (cond (!(eqI ((v_1).toInt) 0))
              (JR9 Q true ((((v_5).aggCs).headD .any).toStr) (((((v_5).aggCs).tail).headD .any).toStr) ((((((v_5).aggCs).tail).tail).headD .any).toInt) (((((((v_5).aggCs).tail).tail).tail).headD .any).toBool) ((((((((v_5).aggCs).tail).tail).tail).tail).headD .any).toInt) (((((((((v_5).aggCs).tail).tail).tail).tail).tail).headD .any).toInt) ((((((((((v_5).aggCs).tail).tail).tail).tail).tail).tail).headD .any).toStr) (((((((((((v_5).aggCs).tail).tail).tail).tail).tail).tail).tail).headD .any).toInt) ((((((((((((v_5).aggCs).tail).tail).tail).tail).tail).tail).tail).tail).headD .any).slXs) ((((v_7).aggCs).headD .any).toStr) (((((v_7).aggCs).tail).headD .any).toStr) ((((((v_7).aggCs).tail).tail).headD .any).toInt) (((((((v_7).aggCs).tail).tail).tail).headD .any).toBool) ((((((((v_7).aggCs).tail).tail).tail).tail).headD .any).toInt) (((((((((v_7).aggCs).tail).tail).tail).tail).tail).headD .any).toInt) ((((((((((v_7).aggCs).tail).tail).tail).tail).tail).tail).headD .any).toStr) (((((((((((v_7).aggCs).tail).tail).tail).tail).tail).tail).tail).headD .any).toInt) ((((((((((((v_7).aggCs).tail).tail).tail).tail).tail).tail).tail).tail).headD .any).slXs) (H.past H_12))
              (cond (!(eqI ((v_3).toInt) 2))
                (JR9 Q true ((((v_5).aggCs).headD .any).toStr) (((((v_5).aggCs).tail).headD .any).toStr) ((((((v_5).aggCs).tail).tail).headD .any).toInt) (((((((v_5).aggCs).tail).tail).tail).headD .any).toBool) ((((((((v_5).aggCs).tail).tail).tail).tail).headD .any).toInt) (((((((((v_5).aggCs).tail).tail).tail).tail).tail).headD .any).toInt) ((((((((((v_5).aggCs).tail).tail).tail).tail).tail).tail).headD .any).toStr) (((((((((((v_5).aggCs).tail).tail).tail).tail).tail).tail).tail).headD .any).toInt) ((((((((((((v_5).aggCs).tail).tail).tail).tail).tail).tail).tail).tail).headD .any).slXs) ((((v_7).aggCs).headD .any).toStr) (((((v_7).aggCs).tail).headD .any).toStr) ((((((v_7).aggCs).tail).tail).headD .any).toInt) (((((((v_7).aggCs).tail).tail).tail).headD .any).toBool) ((((((((v_7).aggCs).tail).tail).tail).tail).headD .any).toInt) (((((((((v_7).aggCs).tail).tail).tail).tail).tail).headD .any).toInt) ((((((((((v_7).aggCs).tail).tail).tail).tail).tail).tail).headD .any).toStr) (((((((((((v_7).aggCs).tail).tail).tail).tail).tail).tail).tail).headD .any).toInt) ((((((((((((v_7).aggCs).tail).tail).tail).tail).tail).tail).tail).tail).headD .any).slXs) (H.past H_12))
                (C 10 [.agg [.str (⟨#[113]⟩ : ByteArray), .int .i64 1, .int .i64 10, .int .i64 2, .str (⟨#[]⟩ : ByteArray)], .agg [.int .i64 1, .int .i64 5, .int .i64 2, .str (⟨#[116]⟩ : ByteArray), .str (⟨#[]⟩ : ByteArray), .int .i64 0, .bool false, .int .i64 0, .int .i64 0, .str (⟨#[]⟩ : ByteArray), .int .i64 0, .sl 0 2 []], .int .i64 5] ((H.past H_12).none) fun v_13 H_14 =>
                  G ((v_13).isInt .i64) (cond (!(eqI ((v_13).toInt) 4))
                    (JR9 Q true ((((v_5).aggCs).headD .any).toStr) (((((v_5).aggCs).tail).headD .any).toStr) ((((((v_5).aggCs).tail).tail).headD .any).toInt) (((((((v_5).aggCs).tail).tail).tail).headD .any).toBool) ((((((((v_5).aggCs).tail).tail).tail).tail).headD .any).toInt) (((((((((v_5).aggCs).tail).tail).tail).tail).tail).headD .any).toInt) ((((((((((v_5).aggCs).tail).tail).tail).tail).tail).tail).headD .any).toStr) (((((((((((v_5).aggCs).tail).tail).tail).tail).tail).tail).tail).headD .any).toInt) ((((((((((((v_5).aggCs).tail).tail).tail).tail).tail).tail).tail).tail).headD .any).slXs) ((((v_7).aggCs).headD .any).toStr) (((((v_7).aggCs).tail).headD .any).toStr) ((((((v_7).aggCs).tail).tail).headD .any).toInt) (((((((v_7).aggCs).tail).tail).tail).headD .any).toBool) ((((((((v_7).aggCs).tail).tail).tail).tail).headD .any).toInt) (((((((((v_7).aggCs).tail).tail).tail).tail).tail).headD .any).toInt) ((((((((((v_7).aggCs).tail).tail).tail).tail).tail).tail).headD .any).toStr) (((((((((((v_7).aggCs).tail).tail).tail).tail).tail).tail).tail).headD .any).toInt) ((((((((((((v_7).aggCs).tail).tail).tail).tail).tail).tail).tail).tail).headD .any).slXs) (H.past H_14))
                    (C 14 [.agg [.str ((((v_5).aggCs).headD .any).toStr), .str (((((v_5).aggCs).tail).headD .any).toStr), .int .i64 ((((((v_5).aggCs).tail).tail).headD .any).toInt), .bool (((((((v_5).aggCs).tail).tail).tail).headD .any).toBool), .int .i64 ((((((((v_5).aggCs).tail).tail).tail).tail).headD .any).toInt), .int .i64 (((((((((v_5).aggCs).tail).tail).tail).tail).tail).headD .any).toInt), .str ((((((((((v_5).aggCs).tail).tail).tail).tail).tail).tail).headD .any).toStr), .int .i64 (((((((((((v_5).aggCs).tail).tail).tail).tail).tail).tail).tail).headD .any).toInt), .sl 0 2 ((((((((((((v_5).aggCs).tail).tail).tail).tail).tail).tail).tail).tail).headD .any).slXs)]] ((H.past H_14).none) fun v_15 H_16 =>
                      G ((v_15).isInt .i64) (cond (!(eqI ((v_15).toInt) 1))
                        (JR9 Q true ((((v_5).aggCs).headD .any).toStr) (((((v_5).aggCs).tail).headD .any).toStr) ((((((v_5).aggCs).tail).tail).headD .any).toInt) (((((((v_5).aggCs).tail).tail).tail).headD .any).toBool) ((((((((v_5).aggCs).tail).tail).tail).tail).headD .any).toInt) (((((((((v_5).aggCs).tail).tail).tail).tail).tail).headD .any).toInt) ((((((((((v_5).aggCs).tail).tail).tail).tail).tail).tail).headD .any).toStr) (((((((((((v_5).aggCs).tail).tail).tail).tail).tail).tail).tail).headD .any).toInt) ((((((((((((v_5).aggCs).tail).tail).tail).tail).tail).tail).tail).tail).headD .any).slXs) ((((v_7).aggCs).headD .any).toStr) (((((v_7).aggCs).tail).headD .any).toStr) ((((((v_7).aggCs).tail).tail).headD .any).toInt) (((((((v_7).aggCs).tail).tail).tail).headD .any).toBool) ((((((((v_7).aggCs).tail).tail).tail).tail).headD .any).toInt) (((((((((v_7).aggCs).tail).tail).tail).tail).tail).headD .any).toInt) ((((((((((v_7).aggCs).tail).tail).tail).tail).tail).tail).headD .any).toStr) (((((((((((v_7).aggCs).tail).tail).tail).tail).tail).tail).tail).headD .any).toInt) ((((((((((((v_7).aggCs).tail).tail).tail).tail).tail).tail).tail).tail).headD .any).slXs) (H.past H_16))
                        (C 14 [.agg [.str ((((v_7).aggCs).headD .any).toStr), .str (((((v_7).aggCs).tail).headD .any).toStr), .int .i64 ((((((v_7).aggCs).tail).tail).headD .any).toInt), .bool (((((((v_7).aggCs).tail).tail).tail).headD .any).toBool), .int .i64 ((((((((v_7).aggCs).tail).tail).tail).tail).headD .any).toInt), .int .i64 (((((((((v_7).aggCs).tail).tail).tail).tail).tail).headD .any).toInt), .str ((((((((((v_7).aggCs).tail).tail).tail).tail).tail).tail).headD .any).toStr), .int .i64 (((((((((((v_7).aggCs).tail).tail).tail).tail).tail).tail).tail).headD .any).toInt), .sl 0 2 ((((((((((((v_7).aggCs).tail).tail).tail).tail).tail).tail).tail).tail).headD .any).slXs)]] ((H.past H_16).none) fun v_17 H_18 =>
                          G ((v_17).isInt .i64) (cond (!(eqI ((v_17).toInt) 2))
                            (JR9 Q true ((((v_5).aggCs).headD .any).toStr) (((((v_5).aggCs).tail).headD .any).toStr) ((((((v_5).aggCs).tail).tail).headD .any).toInt) (((((((v_5).aggCs).tail).tail).tail).headD .any).toBool) ((((((((v_5).aggCs).tail).tail).tail).tail).headD .any).toInt) (((((((((v_5).aggCs).tail).tail).tail).tail).tail).headD .any).toInt) ((((((((((v_5).aggCs).tail).tail).tail).tail).tail).tail).headD .any).toStr) (((((((((((v_5).aggCs).tail).tail).tail).tail).tail).tail).tail).headD .any).toInt) ((((((((((((v_5).aggCs).tail).tail).tail).tail).tail).tail).tail).tail).headD .any).slXs) ((((v_7).aggCs).headD .any).toStr) (((((v_7).aggCs).tail).headD .any).toStr) ((((((v_7).aggCs).tail).tail).headD .any).toInt) (((((((v_7).aggCs).tail).tail).tail).headD .any).toBool) ((((((((v_7).aggCs).tail).tail).tail).tail).headD .any).toInt) (((((((((v_7).aggCs).tail).tail).tail).tail).tail).headD .any).toInt) ((((((((((v_7).aggCs).tail).tail).tail).tail).tail).tail).headD .any).toStr) (((((((((((v_7).aggCs).tail).tail).tail).tail).tail).tail).tail).headD .any).toInt) ((((((((((((v_7).aggCs).tail).tail).tail).tail).tail).tail).tail).tail).headD .any).slXs) (H.past H_18))
                            (cond (!(eqS ((((v_9).tupVs).headD .any).toStr) (⟨#[113]⟩ : ByteArray)))
                              (JR9 Q true ((((v_5).aggCs).headD .any).toStr) (((((v_5).aggCs).tail).headD .any).toStr) ((((((v_5).aggCs).tail).tail).headD .any).toInt) (((((((v_5).aggCs).tail).tail).tail).headD .any).toBool) ((((((((v_5).aggCs).tail).tail).tail).tail).headD .any).toInt) (((((((((v_5).aggCs).tail).tail).tail).tail).tail).headD .any).toInt) ((((((((((v_5).aggCs).tail).tail).tail).tail).tail).tail).headD .any).toStr) (((((((((((v_5).aggCs).tail).tail).tail).tail).tail).tail).tail).headD .any).toInt) ((((((((((((v_5).aggCs).tail).tail).tail).tail).tail).tail).tail).tail).headD .any).slXs) ((((v_7).aggCs).headD .any).toStr) (((((v_7).aggCs).tail).headD .any).toStr) ((((((v_7).aggCs).tail).tail).headD .any).toInt) (((((((v_7).aggCs).tail).tail).tail).headD .any).toBool) ((((((((v_7).aggCs).tail).tail).tail).tail).headD .any).toInt) (((((((((v_7).aggCs).tail).tail).tail).tail).tail).headD .any).toInt) ((((((((((v_7).aggCs).tail).tail).tail).tail).tail).tail).headD .any).toStr) (((((((((((v_7).aggCs).tail).tail).tail).tail).tail).tail).tail).headD .any).toInt) ((((((((((((v_7).aggCs).tail).tail).tail).tail).tail).tail).tail).tail).headD .any).slXs) (H.past H_18))
                              (cond (!(eqI (((((v_9).tupVs).tail).headD .any).toInt) 1))
                                (JR9 Q true ((((v_5).aggCs).headD .any).toStr) (((((v_5).aggCs).tail).headD .any).toStr) ((((((v_5).aggCs).tail).tail).headD .any).toInt) (((((((v_5).aggCs).tail).tail).tail).headD .any).toBool) ((((((((v_5).aggCs).tail).tail).tail).tail).headD .any).toInt) (((((((((v_5).aggCs).tail).tail).tail).tail).tail).headD .any).toInt) ((((((((((v_5).aggCs).tail).tail).tail).tail).tail).tail).headD .any).toStr) (((((((((((v_5).aggCs).tail).tail).tail).tail).tail).tail).tail).headD .any).toInt) ((((((((((((v_5).aggCs).tail).tail).tail).tail).tail).tail).tail).tail).headD .any).slXs) ((((v_7).aggCs).headD .any).toStr) (((((v_7).aggCs).tail).headD .any).toStr) ((((((v_7).aggCs).tail).tail).headD .any).toInt) (((((((v_7).aggCs).tail).tail).tail).headD .any).toBool) ((((((((v_7).aggCs).tail).tail).tail).tail).headD .any).toInt) (((((((((v_7).aggCs).tail).tail).tail).tail).tail).headD .any).toInt) ((((((((((v_7).aggCs).tail).tail).tail).tail).tail).tail).headD .any).toStr) (((((((((((v_7).aggCs).tail).tail).tail).tail).tail).tail).tail).headD .any).toInt) ((((((((((((v_7).aggCs).tail).tail).tail).tail).tail).tail).tail).tail).headD .any).slXs) (H.past H_18))
                                (cond (!(eqS ((((v_11).tupVs).headD .any).toStr) (⟨#[112]⟩ : ByteArray)))
                                  (JR9 Q true ((((v_5).aggCs).headD .any).toStr) (((((v_5).aggCs).tail).headD .any).toStr) ((((((v_5).aggCs).tail).tail).headD .any).toInt) (((((((v_5).aggCs).tail).tail).tail).headD .any).toBool) ((((((((v_5).aggCs).tail).tail).tail).tail).headD .any).toInt) (((((((((v_5).aggCs).tail).tail).tail).tail).tail).headD .any).toInt) ((((((((((v_5).aggCs).tail).tail).tail).tail).tail).tail).headD .any).toStr) (((((((((((v_5).aggCs).tail).tail).tail).tail).tail).tail).tail).headD .any).toInt) ((((((((((((v_5).aggCs).tail).tail).tail).tail).tail).tail).tail).tail).headD .any).slXs) ((((v_7).aggCs).headD .any).toStr) (((((v_7).aggCs).tail).headD .any).toStr) ((((((v_7).aggCs).tail).tail).headD .any).toInt) (((((((v_7).aggCs).tail).tail).tail).headD .any).toBool) ((((((((v_7).aggCs).tail).tail).tail).tail).headD .any).toInt) (((((((((v_7).aggCs).tail).tail).tail).tail).tail).headD .any).toInt) ((((((((((v_7).aggCs).tail).tail).tail).tail).tail).tail).headD .any).toStr) (((((((((((v_7).aggCs).tail).tail).tail).tail).tail).tail).tail).headD .any).toInt) ((((((((((((v_7).aggCs).tail).tail).tail).tail).tail).tail).tail).tail).headD .any).slXs) (H.past H_18))
                                  (JR9 Q (!(eqI (((((v_11).tupVs).tail).headD .any).toInt) 2)) ((((v_5).aggCs).headD .any).toStr) (((((v_5).aggCs).tail).headD .any).toStr) ((((((v_5).aggCs).tail).tail).headD .any).toInt) (((((((v_5).aggCs).tail).tail).tail).headD .any).toBool) ((((((((v_5).aggCs).tail).tail).tail).tail).headD .any).toInt) (((((((((v_5).aggCs).tail).tail).tail).tail).tail).headD .any).toInt) ((((((((((v_5).aggCs).tail).tail).tail).tail).tail).tail).headD .any).toStr) (((((((((((v_5).aggCs).tail).tail).tail).tail).tail).tail).tail).headD .any).toInt) ((((((((((((v_5).aggCs).tail).tail).tail).tail).tail).tail).tail).tail).headD .any).slXs) ((((v_7).aggCs).headD .any).toStr) (((((v_7).aggCs).tail).headD .any).toStr) ((((((v_7).aggCs).tail).tail).headD .any).toInt) (((((((v_7).aggCs).tail).tail).tail).headD .any).toBool) ((((((((v_7).aggCs).tail).tail).tail).tail).headD .any).toInt) (((((((((v_7).aggCs).tail).tail).tail).tail).tail).headD .any).toInt) ((((((((((v_7).aggCs).tail).tail).tail).tail).tail).tail).headD .any).toStr) (((((((((((v_7).aggCs).tail).tail).tail).tail).tail).tail).tail).headD .any).toInt) ((((((((((((v_7).aggCs).tail).tail).tail).tail).tail).tail).tail).tail).headD .any).slXs) (H.past H_18))))))))))))))))))))))))))))))))))))))))
theorem t_eq  (H : Heap) (Q : Qt) : aBody E0 C 9 [] H Q = t  H Q := by kernel_rfl
theorem call  {H : Heap} {Q : Qt} (h : t  H Q) : C 9 [] H Q := Call_told (E := E0) (t_eq  H Q) h
end F9
/-! ### broker/dead.Reason: function 10 -/
namespace F10
def t (a0_0 : ByteArray) (a0_1 a0_2 a0_3 : Int) (a0_4 : ByteArray) (a1_0 a1_1 a1_2 : Int) (a1_3 a1_4 : ByteArray) (a1_5 : Int) (a1_6 : Bool) (a1_7 a1_8 : Int) (a1_9 : ByteArray) (a1_10 : Int) (a1_11 : List (List AV)) (a2 : Int) (H : Heap) (Q : Qt) : Prop :=
  cond (!(eqI a0_3 0))
  (cond (leI a0_3 a1_2)
    (Q (.int .i64 4) H)
    (cond (!(eqI a0_2 0))
      (cond (leI (addW .i64 a1_1 a0_2) a2)
        (Q (.int .i64 2) H)
        (C 28 [.agg [.str a1_3, .str a1_4, .int .i64 a1_5, .bool a1_6, .int .i64 a1_7, .int .i64 a1_8, .str a1_9, .int .i64 a1_10, .sl 0 2 a1_11], .int .i64 a2] H.none fun v_1 H_2 =>
          G ((v_1).isBool) (cond ((v_1).toBool)
            (Q (.int .i64 2) (H.past H_2))
            (Q (.int .i64 0) (H.past H_2)))))
      (C 28 [.agg [.str a1_3, .str a1_4, .int .i64 a1_5, .bool a1_6, .int .i64 a1_7, .int .i64 a1_8, .str a1_9, .int .i64 a1_10, .sl 0 2 a1_11], .int .i64 a2] H.none fun v_3 H_4 =>
        G ((v_3).isBool) (cond ((v_3).toBool)
          (Q (.int .i64 2) (H.past H_4))
          (Q (.int .i64 0) (H.past H_4))))))
  (cond (!(eqI a0_2 0))
    (cond (leI (addW .i64 a1_1 a0_2) a2)
      (Q (.int .i64 2) H)
      (C 28 [.agg [.str a1_3, .str a1_4, .int .i64 a1_5, .bool a1_6, .int .i64 a1_7, .int .i64 a1_8, .str a1_9, .int .i64 a1_10, .sl 0 2 a1_11], .int .i64 a2] H.none fun v_5 H_6 =>
        G ((v_5).isBool) (cond ((v_5).toBool)
          (Q (.int .i64 2) (H.past H_6))
          (Q (.int .i64 0) (H.past H_6)))))
    (C 28 [.agg [.str a1_3, .str a1_4, .int .i64 a1_5, .bool a1_6, .int .i64 a1_7, .int .i64 a1_8, .str a1_9, .int .i64 a1_10, .sl 0 2 a1_11], .int .i64 a2] H.none fun v_7 H_8 =>
      G ((v_7).isBool) (cond ((v_7).toBool)
        (Q (.int .i64 2) (H.past H_8))
        (Q (.int .i64 0) (H.past H_8)))))
theorem t_eq (a0_0 : ByteArray) (a0_1 a0_2 a0_3 : Int) (a0_4 : ByteArray) (a1_0 a1_1 a1_2 : Int) (a1_3 a1_4 : ByteArray) (a1_5 : Int) (a1_6 : Bool) (a1_7 a1_8 : Int) (a1_9 : ByteArray) (a1_10 : Int) (a1_11 : List (List AV)) (a2 : Int) (H : Heap) (Q : Qt) : aBody E0 C 10 [.agg [.str a0_0, .int .i64 a0_1, .int .i64 a0_2, .int .i64 a0_3, .str a0_4], .agg [.int .i64 a1_0, .int .i64 a1_1, .int .i64 a1_2, .str a1_3, .str a1_4, .int .i64 a1_5, .bool a1_6, .int .i64 a1_7, .int .i64 a1_8, .str a1_9, .int .i64 a1_10, .sl 0 2 a1_11], .int .i64 a2] H Q = t a0_0 a0_1 a0_2 a0_3 a0_4 a1_0 a1_1 a1_2 a1_3 a1_4 a1_5 a1_6 a1_7 a1_8 a1_9 a1_10 a1_11 a2 H Q := by kernel_rfl
theorem call {a0_0 : ByteArray} {a0_1 a0_2 a0_3 : Int} {a0_4 : ByteArray} {a1_0 a1_1 a1_2 : Int} {a1_3 a1_4 : ByteArray} {a1_5 : Int} {a1_6 : Bool} {a1_7 a1_8 : Int} {a1_9 : ByteArray} {a1_10 : Int} {a1_11 : List (List AV)} {a2 : Int} {H : Heap} {Q : Qt} (h : t a0_0 a0_1 a0_2 a0_3 a0_4 a1_0 a1_1 a1_2 a1_3 a1_4 a1_5 a1_6 a1_7 a1_8 a1_9 a1_10 a1_11 a2 H Q) : C 10 [.agg [.str a0_0, .int .i64 a0_1, .int .i64 a0_2, .int .i64 a0_3, .str a0_4], .agg [.int .i64 a1_0, .int .i64 a1_1, .int .i64 a1_2, .str a1_3, .str a1_4, .int .i64 a1_5, .bool a1_6, .int .i64 a1_7, .int .i64 a1_8, .str a1_9, .int .i64 a1_10, .sl 0 2 a1_11], .int .i64 a2] H Q := Call_told (E := E0) (t_eq a0_0 a0_1 a0_2 a0_3 a0_4 a1_0 a1_1 a1_2 a1_3 a1_4 a1_5 a1_6 a1_7 a1_8 a1_9 a1_10 a1_11 a2 H Q) h
end F10
/-! ### broker/brokerref28.Reason: function 11 -/
namespace F11
def t (a0_0 : ByteArray) (a0_1 a0_2 a0_3 : Int) (a0_4 : ByteArray) (a1_0 a1_1 a1_2 : Int) (a1_3 a1_4 : ByteArray) (a1_5 : Int) (a1_6 : Bool) (a1_7 a1_8 : Int) (a1_9 : ByteArray) (a1_10 : Int) (a1_11 : List (List AV)) (a2 : Int) (H : Heap) (Q : Qt) : Prop :=
  cond (!(eqI a0_3 0))
  (cond (leI a0_3 a1_2)
    (Q (.int .i64 4) H)
    (C 29 [.agg [.str a0_0, .int .i64 a0_1, .int .i64 a0_2, .int .i64 a0_3, .str a0_4], .agg [.int .i64 a1_0, .int .i64 a1_1, .int .i64 a1_2, .str a1_3, .str a1_4, .int .i64 a1_5, .bool a1_6, .int .i64 a1_7, .int .i64 a1_8, .str a1_9, .int .i64 a1_10, .sl 0 2 a1_11], .int .i64 a2] H.none fun v_1 H_2 =>
      G ((v_1).isBool) (cond ((v_1).toBool)
        (Q (.int .i64 2) (H.past H_2))
        (Q (.int .i64 0) (H.past H_2)))))
  (C 29 [.agg [.str a0_0, .int .i64 a0_1, .int .i64 a0_2, .int .i64 a0_3, .str a0_4], .agg [.int .i64 a1_0, .int .i64 a1_1, .int .i64 a1_2, .str a1_3, .str a1_4, .int .i64 a1_5, .bool a1_6, .int .i64 a1_7, .int .i64 a1_8, .str a1_9, .int .i64 a1_10, .sl 0 2 a1_11], .int .i64 a2] H.none fun v_3 H_4 =>
    G ((v_3).isBool) (cond ((v_3).toBool)
      (Q (.int .i64 2) (H.past H_4))
      (Q (.int .i64 0) (H.past H_4))))
theorem t_eq (a0_0 : ByteArray) (a0_1 a0_2 a0_3 : Int) (a0_4 : ByteArray) (a1_0 a1_1 a1_2 : Int) (a1_3 a1_4 : ByteArray) (a1_5 : Int) (a1_6 : Bool) (a1_7 a1_8 : Int) (a1_9 : ByteArray) (a1_10 : Int) (a1_11 : List (List AV)) (a2 : Int) (H : Heap) (Q : Qt) : aBody E0 C 11 [.agg [.str a0_0, .int .i64 a0_1, .int .i64 a0_2, .int .i64 a0_3, .str a0_4], .agg [.int .i64 a1_0, .int .i64 a1_1, .int .i64 a1_2, .str a1_3, .str a1_4, .int .i64 a1_5, .bool a1_6, .int .i64 a1_7, .int .i64 a1_8, .str a1_9, .int .i64 a1_10, .sl 0 2 a1_11], .int .i64 a2] H Q = t a0_0 a0_1 a0_2 a0_3 a0_4 a1_0 a1_1 a1_2 a1_3 a1_4 a1_5 a1_6 a1_7 a1_8 a1_9 a1_10 a1_11 a2 H Q := by kernel_rfl
theorem call {a0_0 : ByteArray} {a0_1 a0_2 a0_3 : Int} {a0_4 : ByteArray} {a1_0 a1_1 a1_2 : Int} {a1_3 a1_4 : ByteArray} {a1_5 : Int} {a1_6 : Bool} {a1_7 a1_8 : Int} {a1_9 : ByteArray} {a1_10 : Int} {a1_11 : List (List AV)} {a2 : Int} {H : Heap} {Q : Qt} (h : t a0_0 a0_1 a0_2 a0_3 a0_4 a1_0 a1_1 a1_2 a1_3 a1_4 a1_5 a1_6 a1_7 a1_8 a1_9 a1_10 a1_11 a2 H Q) : C 11 [.agg [.str a0_0, .int .i64 a0_1, .int .i64 a0_2, .int .i64 a0_3, .str a0_4], .agg [.int .i64 a1_0, .int .i64 a1_1, .int .i64 a1_2, .str a1_3, .str a1_4, .int .i64 a1_5, .bool a1_6, .int .i64 a1_7, .int .i64 a1_8, .str a1_9, .int .i64 a1_10, .sl 0 2 a1_11], .int .i64 a2] H Q := Call_told (E := E0) (t_eq a0_0 a0_1 a0_2 a0_3 a0_4 a1_0 a1_1 a1_2 a1_3 a1_4 a1_5 a1_6 a1_7 a1_8 a1_9 a1_10 a1_11 a2 H Q) h
end F11
/-! ### broker/dead.From: function 12 -/
namespace F12
def JR3 (a0_0 a0_1 : ByteArray) (a0_2 : Int) (a0_3 : Bool) (a0_4 a0_5 : Int) (a0_6 : ByteArray) (a0_7 : Int) (a0_8 : List (List AV)) (Q : Qt) (x6name x7reason : ByteArray) (x42 : Bool) (Hh : Heap) : Prop := AJoin (contK E0 C (E0.L 12) [.seq (codeAt (bodyOf E0 12) [1, 1, 1, 0, 1]) 0, .seq (codeAt (bodyOf E0 12) [1, 1, 1, 1]) 0] (finK E0 12 Q)) ⟨stt 48 [(6, .str x6name), (7, .str x7reason), (42, .bool x42)], [.cells [.str a0_0, .str a0_1, .int .i64 a0_2, .bool a0_3, .int .i64 a0_4, .int .i64 a0_5, .str a0_6, .int .i64 a0_7, .sl 0 2 a0_8]], Hh⟩
def jR3 (a0_0 a0_1 : ByteArray) (a0_2 : Int) (a0_3 : Bool) (a0_4 a0_5 : Int) (a0_6 : ByteArray) (a0_7 : Int) (a0_8 : List (List AV)) (Q : Qt) (x6name x7reason : ByteArray) (x42 : Bool) (Hh : Heap) : Prop :=
  cond x42
  (Q (.tup [.str (⟨#[]⟩ : ByteArray), .int .i64 0]) Hh)
  (G (ltI 0 (sizeI x7reason)) (Q (.tup [.str x6name, .int .i64 (IntKind.i64.wrap (subW .u8 (bt x7reason 0) 48))]) Hh))
theorem JR3_eq (a0_0 a0_1 : ByteArray) (a0_2 : Int) (a0_3 : Bool) (a0_4 a0_5 : Int) (a0_6 : ByteArray) (a0_7 : Int) (a0_8 : List (List AV)) (Q : Qt) (x6name x7reason : ByteArray) (x42 : Bool) (Hh : Heap) : contK E0 C (E0.L 12) [.seq (codeAt (bodyOf E0 12) [1, 1, 1, 0, 1]) 0, .seq (codeAt (bodyOf E0 12) [1, 1, 1, 1]) 0] (finK E0 12 Q) .normal ⟨stt 48 [(6, .str x6name), (7, .str x7reason), (42, .bool x42)], [.cells [.str a0_0, .str a0_1, .int .i64 a0_2, .bool a0_3, .int .i64 a0_4, .int .i64 a0_5, .str a0_6, .int .i64 a0_7, .sl 0 2 a0_8]], Hh⟩ = jR3 a0_0 a0_1 a0_2 a0_3 a0_4 a0_5 a0_6 a0_7 a0_8 Q x6name x7reason x42 Hh := by kernel_rfl
theorem JR3_step {a0_0 a0_1 : ByteArray} {a0_2 : Int} {a0_3 : Bool} {a0_4 a0_5 : Int} {a0_6 : ByteArray} {a0_7 : Int} {a0_8 : List (List AV)} {Q : Qt} {x6name x7reason : ByteArray} {x42 : Bool} {Hh : Heap} (h : jR3 a0_0 a0_1 a0_2 a0_3 a0_4 a0_5 a0_6 a0_7 a0_8 Q x6name x7reason x42 Hh) : JR3 a0_0 a0_1 a0_2 a0_3 a0_4 a0_5 a0_6 a0_7 a0_8 Q x6name x7reason x42 Hh := AJoin_told (JR3_eq a0_0 a0_1 a0_2 a0_3 a0_4 a0_5 a0_6 a0_7 a0_8 Q x6name x7reason x42 Hh) h
def t (a0_0 a0_1 : ByteArray) (a0_2 : Int) (a0_3 : Bool) (a0_4 a0_5 : Int) (a0_6 : ByteArray) (a0_7 : Int) (a0_8 : List (List AV)) (H : Heap) (Q : Qt) : Prop :=
  C 30 [.sl 0 2 a0_8, .str (⟨#[100, 105, 101, 100]⟩ : ByteArray)] H.none fun v_1 H_2 =>
  G ((v_1).isTup && Nat.beq (v_1).tupVs.length 2) (G ((((v_1).tupVs).headD .any).isStr) (G (((((v_1).tupVs).tail).headD .any).isBool) (C 31 [.str ((((v_1).tupVs).headD .any).toStr), .str (⟨#[32]⟩ : ByteArray)] ((H.past H_2).none) fun v_3 H_4 =>
    G ((v_3).isTup && Nat.beq (v_3).tupVs.length 3) (G ((((v_3).tupVs).headD .any).isStr) (G (((((v_3).tupVs).tail).headD .any).isStr) (G ((((((v_3).tupVs).tail).tail).headD .any).isBool) (cond (!((((((v_3).tupVs).tail).tail).headD .any).toBool))
      (JR3 a0_0 a0_1 a0_2 a0_3 a0_4 a0_5 a0_6 a0_7 a0_8 Q ((((v_3).tupVs).headD .any).toStr) (((((v_3).tupVs).tail).headD .any).toStr) true (H.past H_4))
      (C 32 [.str ((((v_3).tupVs).headD .any).toStr)] ((H.past H_4).none) fun v_5 H_6 =>
        G ((v_5).isBool) (cond (!((v_5).toBool))
          (JR3 a0_0 a0_1 a0_2 a0_3 a0_4 a0_5 a0_6 a0_7 a0_8 Q ((((v_3).tupVs).headD .any).toStr) (((((v_3).tupVs).tail).headD .any).toStr) true (H.past H_6))
          (cond (!(eqI (sizeI (((((v_3).tupVs).tail).headD .any).toStr)) 1))
            (JR3 a0_0 a0_1 a0_2 a0_3 a0_4 a0_5 a0_6 a0_7 a0_8 Q ((((v_3).tupVs).headD .any).toStr) (((((v_3).tupVs).tail).headD .any).toStr) true (H.past H_6))
            (G (ltI 0 (sizeI (((((v_3).tupVs).tail).headD .any).toStr))) (cond (ltI (bt (((((v_3).tupVs).tail).headD .any).toStr) 0) 49)
              (JR3 a0_0 a0_1 a0_2 a0_3 a0_4 a0_5 a0_6 a0_7 a0_8 Q ((((v_3).tupVs).headD .any).toStr) (((((v_3).tupVs).tail).headD .any).toStr) true (H.past H_6))
              (G (ltI 0 (sizeI (((((v_3).tupVs).tail).headD .any).toStr))) (JR3 a0_0 a0_1 a0_2 a0_3 a0_4 a0_5 a0_6 a0_7 a0_8 Q ((((v_3).tupVs).headD .any).toStr) (((((v_3).tupVs).tail).headD .any).toStr) (ltI 52 (bt (((((v_3).tupVs).tail).headD .any).toStr) 0)) (H.past H_6)))))))))))))))
theorem t_eq (a0_0 a0_1 : ByteArray) (a0_2 : Int) (a0_3 : Bool) (a0_4 a0_5 : Int) (a0_6 : ByteArray) (a0_7 : Int) (a0_8 : List (List AV)) (H : Heap) (Q : Qt) : aBody E0 C 12 [.agg [.str a0_0, .str a0_1, .int .i64 a0_2, .bool a0_3, .int .i64 a0_4, .int .i64 a0_5, .str a0_6, .int .i64 a0_7, .sl 0 2 a0_8]] H Q = t a0_0 a0_1 a0_2 a0_3 a0_4 a0_5 a0_6 a0_7 a0_8 H Q := by kernel_rfl
theorem call {a0_0 a0_1 : ByteArray} {a0_2 : Int} {a0_3 : Bool} {a0_4 a0_5 : Int} {a0_6 : ByteArray} {a0_7 : Int} {a0_8 : List (List AV)} {H : Heap} {Q : Qt} (h : t a0_0 a0_1 a0_2 a0_3 a0_4 a0_5 a0_6 a0_7 a0_8 H Q) : C 12 [.agg [.str a0_0, .str a0_1, .int .i64 a0_2, .bool a0_3, .int .i64 a0_4, .int .i64 a0_5, .str a0_6, .int .i64 a0_7, .sl 0 2 a0_8]] H Q := Call_told (E := E0) (t_eq a0_0 a0_1 a0_2 a0_3 a0_4 a0_5 a0_6 a0_7 a0_8 H Q) h
end F12
/-! ### broker/brokerref28.From: function 13 -/
namespace F13
def JR2 (a0_0 a0_1 : ByteArray) (a0_2 : Int) (a0_3 : Bool) (a0_4 a0_5 : Int) (a0_6 : ByteArray) (a0_7 : Int) (a0_8 : List (List AV)) (Q : Qt) (x4name x5reason : ByteArray) (x33 : Bool) (Hh : Heap) : Prop := AJoin (contK E0 C (E0.L 13) [.seq (codeAt (bodyOf E0 13) [1, 1, 0, 1]) 0, .seq (codeAt (bodyOf E0 13) [1, 1, 1]) 0] (finK E0 13 Q)) ⟨stt 39 [(4, .str x4name), (5, .str x5reason), (33, .bool x33)], [.cells [.str a0_0, .str a0_1, .int .i64 a0_2, .bool a0_3, .int .i64 a0_4, .int .i64 a0_5, .str a0_6, .int .i64 a0_7, .sl 0 2 a0_8]], Hh⟩
def jR2 (a0_0 a0_1 : ByteArray) (a0_2 : Int) (a0_3 : Bool) (a0_4 a0_5 : Int) (a0_6 : ByteArray) (a0_7 : Int) (a0_8 : List (List AV)) (Q : Qt) (x4name x5reason : ByteArray) (x33 : Bool) (Hh : Heap) : Prop :=
  cond x33
  (Q (.tup [.str (⟨#[]⟩ : ByteArray), .int .i64 0]) Hh)
  (G (ltI 0 (sizeI x5reason)) (Q (.tup [.str x4name, .int .i64 (IntKind.i64.wrap (subW .u8 (bt x5reason 0) 48))]) Hh))
theorem JR2_eq (a0_0 a0_1 : ByteArray) (a0_2 : Int) (a0_3 : Bool) (a0_4 a0_5 : Int) (a0_6 : ByteArray) (a0_7 : Int) (a0_8 : List (List AV)) (Q : Qt) (x4name x5reason : ByteArray) (x33 : Bool) (Hh : Heap) : contK E0 C (E0.L 13) [.seq (codeAt (bodyOf E0 13) [1, 1, 0, 1]) 0, .seq (codeAt (bodyOf E0 13) [1, 1, 1]) 0] (finK E0 13 Q) .normal ⟨stt 39 [(4, .str x4name), (5, .str x5reason), (33, .bool x33)], [.cells [.str a0_0, .str a0_1, .int .i64 a0_2, .bool a0_3, .int .i64 a0_4, .int .i64 a0_5, .str a0_6, .int .i64 a0_7, .sl 0 2 a0_8]], Hh⟩ = jR2 a0_0 a0_1 a0_2 a0_3 a0_4 a0_5 a0_6 a0_7 a0_8 Q x4name x5reason x33 Hh := by kernel_rfl
theorem JR2_step {a0_0 a0_1 : ByteArray} {a0_2 : Int} {a0_3 : Bool} {a0_4 a0_5 : Int} {a0_6 : ByteArray} {a0_7 : Int} {a0_8 : List (List AV)} {Q : Qt} {x4name x5reason : ByteArray} {x33 : Bool} {Hh : Heap} (h : jR2 a0_0 a0_1 a0_2 a0_3 a0_4 a0_5 a0_6 a0_7 a0_8 Q x4name x5reason x33 Hh) : JR2 a0_0 a0_1 a0_2 a0_3 a0_4 a0_5 a0_6 a0_7 a0_8 Q x4name x5reason x33 Hh := AJoin_told (JR2_eq a0_0 a0_1 a0_2 a0_3 a0_4 a0_5 a0_6 a0_7 a0_8 Q x4name x5reason x33 Hh) h
def t (a0_0 a0_1 : ByteArray) (a0_2 : Int) (a0_3 : Bool) (a0_4 a0_5 : Int) (a0_6 : ByteArray) (a0_7 : Int) (a0_8 : List (List AV)) (H : Heap) (Q : Qt) : Prop :=
  C 33 [.agg [.str a0_0, .str a0_1, .int .i64 a0_2, .bool a0_3, .int .i64 a0_4, .int .i64 a0_5, .str a0_6, .int .i64 a0_7, .sl 0 2 a0_8], .str (⟨#[100, 105, 101, 100]⟩ : ByteArray)] H.none fun v_1 H_2 =>
  G ((v_1).isStr) (C 31 [.str ((v_1).toStr), .str (⟨#[32]⟩ : ByteArray)] ((H.past H_2).none) fun v_3 H_4 =>
    G ((v_3).isTup && Nat.beq (v_3).tupVs.length 3) (G ((((v_3).tupVs).headD .any).isStr) (G (((((v_3).tupVs).tail).headD .any).isStr) (G ((((((v_3).tupVs).tail).tail).headD .any).isBool) (cond (!((((((v_3).tupVs).tail).tail).headD .any).toBool))
      (JR2 a0_0 a0_1 a0_2 a0_3 a0_4 a0_5 a0_6 a0_7 a0_8 Q ((((v_3).tupVs).headD .any).toStr) (((((v_3).tupVs).tail).headD .any).toStr) true (H.past H_4))
      (C 25 [.str ((((v_3).tupVs).headD .any).toStr)] ((H.past H_4).none) fun v_5 H_6 =>
        G ((v_5).isBool) (cond (!((v_5).toBool))
          (JR2 a0_0 a0_1 a0_2 a0_3 a0_4 a0_5 a0_6 a0_7 a0_8 Q ((((v_3).tupVs).headD .any).toStr) (((((v_3).tupVs).tail).headD .any).toStr) true (H.past H_6))
          (cond (!(eqI (sizeI (((((v_3).tupVs).tail).headD .any).toStr)) 1))
            (JR2 a0_0 a0_1 a0_2 a0_3 a0_4 a0_5 a0_6 a0_7 a0_8 Q ((((v_3).tupVs).headD .any).toStr) (((((v_3).tupVs).tail).headD .any).toStr) true (H.past H_6))
            (cond (ltS (((((v_3).tupVs).tail).headD .any).toStr) (⟨#[49]⟩ : ByteArray))
              (JR2 a0_0 a0_1 a0_2 a0_3 a0_4 a0_5 a0_6 a0_7 a0_8 Q ((((v_3).tupVs).headD .any).toStr) (((((v_3).tupVs).tail).headD .any).toStr) true (H.past H_6))
              (JR2 a0_0 a0_1 a0_2 a0_3 a0_4 a0_5 a0_6 a0_7 a0_8 Q ((((v_3).tupVs).headD .any).toStr) (((((v_3).tupVs).tail).headD .any).toStr) (ltS (⟨#[52]⟩ : ByteArray) (((((v_3).tupVs).tail).headD .any).toStr)) (H.past H_6)))))))))))
theorem t_eq (a0_0 a0_1 : ByteArray) (a0_2 : Int) (a0_3 : Bool) (a0_4 a0_5 : Int) (a0_6 : ByteArray) (a0_7 : Int) (a0_8 : List (List AV)) (H : Heap) (Q : Qt) : aBody E0 C 13 [.agg [.str a0_0, .str a0_1, .int .i64 a0_2, .bool a0_3, .int .i64 a0_4, .int .i64 a0_5, .str a0_6, .int .i64 a0_7, .sl 0 2 a0_8]] H Q = t a0_0 a0_1 a0_2 a0_3 a0_4 a0_5 a0_6 a0_7 a0_8 H Q := by kernel_rfl
theorem call {a0_0 a0_1 : ByteArray} {a0_2 : Int} {a0_3 : Bool} {a0_4 a0_5 : Int} {a0_6 : ByteArray} {a0_7 : Int} {a0_8 : List (List AV)} {H : Heap} {Q : Qt} (h : t a0_0 a0_1 a0_2 a0_3 a0_4 a0_5 a0_6 a0_7 a0_8 H Q) : C 13 [.agg [.str a0_0, .str a0_1, .int .i64 a0_2, .bool a0_3, .int .i64 a0_4, .int .i64 a0_5, .str a0_6, .int .i64 a0_7, .sl 0 2 a0_8]] H Q := Call_told (E := E0) (t_eq a0_0 a0_1 a0_2 a0_3 a0_4 a0_5 a0_6 a0_7 a0_8 H Q) h
end F13
/-! ### broker/dead.Deaths: function 14 -/
namespace F14
def JR2 (a0_0 a0_1 : ByteArray) (a0_2 : Int) (a0_3 : Bool) (a0_4 a0_5 : Int) (a0_6 : ByteArray) (a0_7 : Int) (a0_8 : List (List AV)) (Q : Qt) (x3s : ByteArray) (x23 : Bool) (Hh : Heap) : Prop := AJoin (contK E0 C (E0.L 14) [.seq (codeAt (bodyOf E0 14) [1, 1, 0, 1]) 0, .seq (codeAt (bodyOf E0 14) [1, 1, 1]) 0] (finK E0 14 Q)) ⟨stt 66 [(3, .str x3s), (23, .bool x23)], [.cells [.str a0_0, .str a0_1, .int .i64 a0_2, .bool a0_3, .int .i64 a0_4, .int .i64 a0_5, .str a0_6, .int .i64 a0_7, .sl 0 2 a0_8]], Hh⟩
def K0 (Q : Qt) : Ex → St → Prop := (contK E0 C (E0.L 14) [.block 0 1, .seq (codeAt (bodyOf E0 14) [1, 1, 1, 1, 1]) 1] (finK E0 14 Q))
def L0 (a0_0 a0_1 : ByteArray) (a0_2 : Int) (a0_3 : Bool) (a0_4 a0_5 : Int) (a0_6 : ByteArray) (a0_7 : Int) (a0_8 : List (List AV)) (Q : Qt) (x3s : ByteArray) (x5n x25 x26 : Int) (Hh : Heap) : Prop := ALoop (fun K s => awp E0 C (E0.L 14) (codeAt (bodyOf E0 14) [1, 1, 1, 1, 0, 1, 0, 0]) 1 s K) (clean [(3, 0), (5, 0), (25, 0), (26, 0)] 1) (K0 Q) ⟨stt 66 [(3, .str x3s), (5, .int .i64 x5n), (25, .int .i64 x25), (26, .int .i64 x26)], [.cells [.str a0_0, .str a0_1, .int .i64 a0_2, .bool a0_3, .int .i64 a0_4, .int .i64 a0_5, .str a0_6, .int .i64 a0_7, .sl 0 2 a0_8]], Hh⟩
def JR8 (a0_0 a0_1 : ByteArray) (a0_2 : Int) (a0_3 : Bool) (a0_4 a0_5 : Int) (a0_6 : ByteArray) (a0_7 : Int) (a0_8 : List (List AV)) (Q : Qt) (x3s : ByteArray) (x5n x6i : Int) (x25 x26 : Int) (x53 : Bool) (Hh : Heap) : Prop := AJoin (contK E0 C (E0.L 14) [.seq (codeAt (bodyOf E0 14) [1, 1, 1, 1, 0, 1, 0, 0, 1, 1, 0, 0, 1, 0, 1]) 1, .seq (codeAt (bodyOf E0 14) [1, 1, 1, 1, 0, 1, 0, 0, 1, 1, 0, 0, 1, 1]) 1, .block 1 1, .seq (codeAt (bodyOf E0 14) [1, 1, 1, 1, 0, 1, 0, 0, 1, 1, 1]) 1, .loop (codeAt (bodyOf E0 14) [1, 1, 1, 1, 0, 1, 0, 0]) 1 [(3, 0), (5, 0), (25, 0), (26, 0)] 1, .block 0 1, .seq (codeAt (bodyOf E0 14) [1, 1, 1, 1, 1]) 1] (finK E0 14 Q)) ⟨stt 66 [(3, .str x3s), (5, .int .i64 x5n), (6, .int .i64 x6i), (25, .int .i64 x25), (26, .int .i64 x26), (53, .bool x53)], [.cells [.str a0_0, .str a0_1, .int .i64 a0_2, .bool a0_3, .int .i64 a0_4, .int .i64 a0_5, .str a0_6, .int .i64 a0_7, .sl 0 2 a0_8]], Hh⟩
def jR2 (a0_0 a0_1 : ByteArray) (a0_2 : Int) (a0_3 : Bool) (a0_4 a0_5 : Int) (a0_6 : ByteArray) (a0_7 : Int) (a0_8 : List (List AV)) (Q : Qt) (x3s : ByteArray) (x23 : Bool) (Hh : Heap) : Prop :=
  cond x23
  (Q (.int .i64 0) Hh)
  (L0 a0_0 a0_1 a0_2 a0_3 a0_4 a0_5 a0_6 a0_7 a0_8 Q x3s 0 (sizeI x3s) 0 Hh)
theorem JR2_eq (a0_0 a0_1 : ByteArray) (a0_2 : Int) (a0_3 : Bool) (a0_4 a0_5 : Int) (a0_6 : ByteArray) (a0_7 : Int) (a0_8 : List (List AV)) (Q : Qt) (x3s : ByteArray) (x23 : Bool) (Hh : Heap) : contK E0 C (E0.L 14) [.seq (codeAt (bodyOf E0 14) [1, 1, 0, 1]) 0, .seq (codeAt (bodyOf E0 14) [1, 1, 1]) 0] (finK E0 14 Q) .normal ⟨stt 66 [(3, .str x3s), (23, .bool x23)], [.cells [.str a0_0, .str a0_1, .int .i64 a0_2, .bool a0_3, .int .i64 a0_4, .int .i64 a0_5, .str a0_6, .int .i64 a0_7, .sl 0 2 a0_8]], Hh⟩ = jR2 a0_0 a0_1 a0_2 a0_3 a0_4 a0_5 a0_6 a0_7 a0_8 Q x3s x23 Hh := by kernel_rfl
theorem JR2_step {a0_0 a0_1 : ByteArray} {a0_2 : Int} {a0_3 : Bool} {a0_4 a0_5 : Int} {a0_6 : ByteArray} {a0_7 : Int} {a0_8 : List (List AV)} {Q : Qt} {x3s : ByteArray} {x23 : Bool} {Hh : Heap} (h : jR2 a0_0 a0_1 a0_2 a0_3 a0_4 a0_5 a0_6 a0_7 a0_8 Q x3s x23 Hh) : JR2 a0_0 a0_1 a0_2 a0_3 a0_4 a0_5 a0_6 a0_7 a0_8 Q x3s x23 Hh := AJoin_told (JR2_eq a0_0 a0_1 a0_2 a0_3 a0_4 a0_5 a0_6 a0_7 a0_8 Q x3s x23 Hh) h
def r0 (a0_0 a0_1 : ByteArray) (a0_2 : Int) (a0_3 : Bool) (a0_4 a0_5 : Int) (a0_6 : ByteArray) (a0_7 : Int) (a0_8 : List (List AV)) (Q : Qt) (x3s : ByteArray) (x5n x25 x26 : Int) (Hh : Heap) : Prop :=
  cond (ltI x26 x25)
  (G (leI 0 x26) (G (ltI x26 (sizeI x3s)) (cond (ltI (bt x3s x26) 48)
    (JR8 a0_0 a0_1 a0_2 a0_3 a0_4 a0_5 a0_6 a0_7 a0_8 Q x3s x5n x26 x25 x26 true Hh)
    (G (leI 0 x26) (G (ltI x26 (sizeI x3s)) (cond (ltI 57 (bt x3s x26))
      (JR8 a0_0 a0_1 a0_2 a0_3 a0_4 a0_5 a0_6 a0_7 a0_8 Q x3s x5n x26 x25 x26 true Hh)
      (cond (eqI x26 0)
        (G (leI 0 x26) (G (ltI x26 (sizeI x3s)) (cond (eqI (bt x3s x26) 48)
          (JR8 a0_0 a0_1 a0_2 a0_3 a0_4 a0_5 a0_6 a0_7 a0_8 Q x3s x5n x26 x25 x26 (ltI 1 (sizeI x3s)) Hh)
          (JR8 a0_0 a0_1 a0_2 a0_3 a0_4 a0_5 a0_6 a0_7 a0_8 Q x3s x5n x26 x25 x26 false Hh))))
        (JR8 a0_0 a0_1 a0_2 a0_3 a0_4 a0_5 a0_6 a0_7 a0_8 Q x3s x5n x26 x25 x26 false Hh))))))))
  (cond (ltI 1099511627776 x5n)
    (Q (.int .i64 0) Hh)
    (Q (.int .i64 x5n) Hh))
theorem r0_eq (a0_0 a0_1 : ByteArray) (a0_2 : Int) (a0_3 : Bool) (a0_4 a0_5 : Int) (a0_6 : ByteArray) (a0_7 : Int) (a0_8 : List (List AV)) (Q : Qt) (x3s : ByteArray) (x5n x25 x26 : Int) (Hh : Heap) : (fun K s => awp E0 C (E0.L 14) (codeAt (bodyOf E0 14) [1, 1, 1, 1, 0, 1, 0, 0]) 1 s K) (ALoopK (fun K s => awp E0 C (E0.L 14) (codeAt (bodyOf E0 14) [1, 1, 1, 1, 0, 1, 0, 0]) 1 s K) (clean [(3, 0), (5, 0), (25, 0), (26, 0)] 1) (K0 Q)) ⟨stt 66 [(3, .str x3s), (5, .int .i64 x5n), (25, .int .i64 x25), (26, .int .i64 x26)], [.cells [.str a0_0, .str a0_1, .int .i64 a0_2, .bool a0_3, .int .i64 a0_4, .int .i64 a0_5, .str a0_6, .int .i64 a0_7, .sl 0 2 a0_8]], Hh⟩ = r0 a0_0 a0_1 a0_2 a0_3 a0_4 a0_5 a0_6 a0_7 a0_8 Q x3s x5n x25 x26 Hh := by kernel_rfl
theorem L0_step {a0_0 a0_1 : ByteArray} {a0_2 : Int} {a0_3 : Bool} {a0_4 a0_5 : Int} {a0_6 : ByteArray} {a0_7 : Int} {a0_8 : List (List AV)} {Q : Qt} {x3s : ByteArray} {x5n x25 x26 : Int} {Hh : Heap} (h : r0 a0_0 a0_1 a0_2 a0_3 a0_4 a0_5 a0_6 a0_7 a0_8 Q x3s x5n x25 x26 Hh) : L0 a0_0 a0_1 a0_2 a0_3 a0_4 a0_5 a0_6 a0_7 a0_8 Q x3s x5n x25 x26 Hh := ALoop_told (r0_eq a0_0 a0_1 a0_2 a0_3 a0_4 a0_5 a0_6 a0_7 a0_8 Q x3s x5n x25 x26 Hh) h
def jR8 (a0_0 a0_1 : ByteArray) (a0_2 : Int) (a0_3 : Bool) (a0_4 a0_5 : Int) (a0_6 : ByteArray) (a0_7 : Int) (a0_8 : List (List AV)) (Q : Qt) (x3s : ByteArray) (x5n x6i : Int) (x25 x26 : Int) (x53 : Bool) (Hh : Heap) : Prop :=
  cond x53
  (Q (.int .i64 0) Hh)
  (G (leI 0 x6i) (G (ltI x6i (sizeI x3s)) (L0 a0_0 a0_1 a0_2 a0_3 a0_4 a0_5 a0_6 a0_7 a0_8 Q x3s (addW .i64 (mulW .i64 10 x5n) (IntKind.i64.wrap (subW .u8 (bt x3s x6i) 48))) x25 (addW .i64 x26 1) Hh)))
theorem JR8_eq (a0_0 a0_1 : ByteArray) (a0_2 : Int) (a0_3 : Bool) (a0_4 a0_5 : Int) (a0_6 : ByteArray) (a0_7 : Int) (a0_8 : List (List AV)) (Q : Qt) (x3s : ByteArray) (x5n x6i : Int) (x25 x26 : Int) (x53 : Bool) (Hh : Heap) : contK E0 C (E0.L 14) [.seq (codeAt (bodyOf E0 14) [1, 1, 1, 1, 0, 1, 0, 0, 1, 1, 0, 0, 1, 0, 1]) 1, .seq (codeAt (bodyOf E0 14) [1, 1, 1, 1, 0, 1, 0, 0, 1, 1, 0, 0, 1, 1]) 1, .block 1 1, .seq (codeAt (bodyOf E0 14) [1, 1, 1, 1, 0, 1, 0, 0, 1, 1, 1]) 1, .loop (codeAt (bodyOf E0 14) [1, 1, 1, 1, 0, 1, 0, 0]) 1 [(3, 0), (5, 0), (25, 0), (26, 0)] 1, .block 0 1, .seq (codeAt (bodyOf E0 14) [1, 1, 1, 1, 1]) 1] (finK E0 14 Q) .normal ⟨stt 66 [(3, .str x3s), (5, .int .i64 x5n), (6, .int .i64 x6i), (25, .int .i64 x25), (26, .int .i64 x26), (53, .bool x53)], [.cells [.str a0_0, .str a0_1, .int .i64 a0_2, .bool a0_3, .int .i64 a0_4, .int .i64 a0_5, .str a0_6, .int .i64 a0_7, .sl 0 2 a0_8]], Hh⟩ = jR8 a0_0 a0_1 a0_2 a0_3 a0_4 a0_5 a0_6 a0_7 a0_8 Q x3s x5n x6i x25 x26 x53 Hh := by kernel_rfl
theorem JR8_step {a0_0 a0_1 : ByteArray} {a0_2 : Int} {a0_3 : Bool} {a0_4 a0_5 : Int} {a0_6 : ByteArray} {a0_7 : Int} {a0_8 : List (List AV)} {Q : Qt} {x3s : ByteArray} {x5n x6i : Int} {x25 x26 : Int} {x53 : Bool} {Hh : Heap} (h : jR8 a0_0 a0_1 a0_2 a0_3 a0_4 a0_5 a0_6 a0_7 a0_8 Q x3s x5n x6i x25 x26 x53 Hh) : JR8 a0_0 a0_1 a0_2 a0_3 a0_4 a0_5 a0_6 a0_7 a0_8 Q x3s x5n x6i x25 x26 x53 Hh := AJoin_told (JR8_eq a0_0 a0_1 a0_2 a0_3 a0_4 a0_5 a0_6 a0_7 a0_8 Q x3s x5n x6i x25 x26 x53 Hh) h
def t (a0_0 a0_1 : ByteArray) (a0_2 : Int) (a0_3 : Bool) (a0_4 a0_5 : Int) (a0_6 : ByteArray) (a0_7 : Int) (a0_8 : List (List AV)) (H : Heap) (Q : Qt) : Prop :=
  C 30 [.sl 0 2 a0_8, .str (⟨#[100, 101, 97, 116, 104, 115]⟩ : ByteArray)] H.none fun v_1 H_2 =>
  G ((v_1).isTup && Nat.beq (v_1).tupVs.length 2) (G ((((v_1).tupVs).headD .any).isStr) (G (((((v_1).tupVs).tail).headD .any).isBool) (cond (!(((((v_1).tupVs).tail).headD .any).toBool))
    (JR2 a0_0 a0_1 a0_2 a0_3 a0_4 a0_5 a0_6 a0_7 a0_8 Q ((((v_1).tupVs).headD .any).toStr) true (H.past H_2))
    (cond (eqS ((((v_1).tupVs).headD .any).toStr) (⟨#[]⟩ : ByteArray))
      (JR2 a0_0 a0_1 a0_2 a0_3 a0_4 a0_5 a0_6 a0_7 a0_8 Q ((((v_1).tupVs).headD .any).toStr) true (H.past H_2))
      (JR2 a0_0 a0_1 a0_2 a0_3 a0_4 a0_5 a0_6 a0_7 a0_8 Q ((((v_1).tupVs).headD .any).toStr) (ltI 13 (sizeI ((((v_1).tupVs).headD .any).toStr))) (H.past H_2))))))
theorem t_eq (a0_0 a0_1 : ByteArray) (a0_2 : Int) (a0_3 : Bool) (a0_4 a0_5 : Int) (a0_6 : ByteArray) (a0_7 : Int) (a0_8 : List (List AV)) (H : Heap) (Q : Qt) : aBody E0 C 14 [.agg [.str a0_0, .str a0_1, .int .i64 a0_2, .bool a0_3, .int .i64 a0_4, .int .i64 a0_5, .str a0_6, .int .i64 a0_7, .sl 0 2 a0_8]] H Q = t a0_0 a0_1 a0_2 a0_3 a0_4 a0_5 a0_6 a0_7 a0_8 H Q := by kernel_rfl
theorem call {a0_0 a0_1 : ByteArray} {a0_2 : Int} {a0_3 : Bool} {a0_4 a0_5 : Int} {a0_6 : ByteArray} {a0_7 : Int} {a0_8 : List (List AV)} {H : Heap} {Q : Qt} (h : t a0_0 a0_1 a0_2 a0_3 a0_4 a0_5 a0_6 a0_7 a0_8 H Q) : C 14 [.agg [.str a0_0, .str a0_1, .int .i64 a0_2, .bool a0_3, .int .i64 a0_4, .int .i64 a0_5, .str a0_6, .int .i64 a0_7, .sl 0 2 a0_8]] H Q := Call_told (E := E0) (t_eq a0_0 a0_1 a0_2 a0_3 a0_4 a0_5 a0_6 a0_7 a0_8 H Q) h
end F14
/-! ### broker/brokerref28.Deaths: function 15 -/
namespace F15
def K0 (Q : Qt) : Ex → St → Prop := (contK E0 C (E0.L 15) [.block 0 1, .seq (codeAt (bodyOf E0 15) [1, 1, 1, 1, 1]) 1] (finK E0 15 Q))
def L0 (a0_0 a0_1 : ByteArray) (a0_2 : Int) (a0_3 : Bool) (a0_4 a0_5 : Int) (a0_6 : ByteArray) (a0_7 : Int) (a0_8 : List (List AV)) (Q : Qt) (x3s : ByteArray) (x4n x17 x18 : Int) (Hh : Heap) : Prop := ALoop (fun K s => awp E0 C (E0.L 15) (codeAt (bodyOf E0 15) [1, 1, 1, 1, 0, 1, 0, 0]) 1 s K) (clean [(3, 0), (4, 0), (17, 0), (18, 0)] 1) (K0 Q) ⟨stt 49 [(3, .str x3s), (4, .int .i64 x4n), (17, .int .i64 x17), (18, .int .i64 x18)], [.cells [.str a0_0, .str a0_1, .int .i64 a0_2, .bool a0_3, .int .i64 a0_4, .int .i64 a0_5, .str a0_6, .int .i64 a0_7, .sl 0 2 a0_8]], Hh⟩
def r0 (a0_0 a0_1 : ByteArray) (a0_2 : Int) (a0_3 : Bool) (a0_4 a0_5 : Int) (a0_6 : ByteArray) (a0_7 : Int) (a0_8 : List (List AV)) (Q : Qt) (x3s : ByteArray) (x4n x17 x18 : Int) (Hh : Heap) : Prop :=
  cond (ltI x18 x17)
  (G (leI 0 x18) (G (ltI x18 (sizeI x3s)) (cond (ltI (bt x3s x18) 48)
    (Q (.int .i64 0) Hh)
    (G (leI 0 x18) (G (ltI x18 (sizeI x3s)) (cond (ltI 57 (bt x3s x18))
      (Q (.int .i64 0) Hh)
      (G (leI 0 x18) (G (ltI x18 (sizeI x3s)) (L0 a0_0 a0_1 a0_2 a0_3 a0_4 a0_5 a0_6 a0_7 a0_8 Q x3s (addW .i64 (mulW .i64 10 x4n) (IntKind.i64.wrap (subW .u8 (bt x3s x18) 48))) x17 (addW .i64 x18 1) Hh)))))))))
  (C 34 [.int .i64 x4n] Hh.none fun v_3 H_4 =>
    G ((v_3).isStr) (cond (!(eqS ((v_3).toStr) x3s))
      (Q (.int .i64 0) (Hh.past H_4))
      (cond (ltI 1099511627776 x4n)
        (Q (.int .i64 0) (Hh.past H_4))
        (Q (.int .i64 x4n) (Hh.past H_4)))))
theorem r0_eq (a0_0 a0_1 : ByteArray) (a0_2 : Int) (a0_3 : Bool) (a0_4 a0_5 : Int) (a0_6 : ByteArray) (a0_7 : Int) (a0_8 : List (List AV)) (Q : Qt) (x3s : ByteArray) (x4n x17 x18 : Int) (Hh : Heap) : (fun K s => awp E0 C (E0.L 15) (codeAt (bodyOf E0 15) [1, 1, 1, 1, 0, 1, 0, 0]) 1 s K) (ALoopK (fun K s => awp E0 C (E0.L 15) (codeAt (bodyOf E0 15) [1, 1, 1, 1, 0, 1, 0, 0]) 1 s K) (clean [(3, 0), (4, 0), (17, 0), (18, 0)] 1) (K0 Q)) ⟨stt 49 [(3, .str x3s), (4, .int .i64 x4n), (17, .int .i64 x17), (18, .int .i64 x18)], [.cells [.str a0_0, .str a0_1, .int .i64 a0_2, .bool a0_3, .int .i64 a0_4, .int .i64 a0_5, .str a0_6, .int .i64 a0_7, .sl 0 2 a0_8]], Hh⟩ = r0 a0_0 a0_1 a0_2 a0_3 a0_4 a0_5 a0_6 a0_7 a0_8 Q x3s x4n x17 x18 Hh := by kernel_rfl
theorem L0_step {a0_0 a0_1 : ByteArray} {a0_2 : Int} {a0_3 : Bool} {a0_4 a0_5 : Int} {a0_6 : ByteArray} {a0_7 : Int} {a0_8 : List (List AV)} {Q : Qt} {x3s : ByteArray} {x4n x17 x18 : Int} {Hh : Heap} (h : r0 a0_0 a0_1 a0_2 a0_3 a0_4 a0_5 a0_6 a0_7 a0_8 Q x3s x4n x17 x18 Hh) : L0 a0_0 a0_1 a0_2 a0_3 a0_4 a0_5 a0_6 a0_7 a0_8 Q x3s x4n x17 x18 Hh := ALoop_told (r0_eq a0_0 a0_1 a0_2 a0_3 a0_4 a0_5 a0_6 a0_7 a0_8 Q x3s x4n x17 x18 Hh) h
def t (a0_0 a0_1 : ByteArray) (a0_2 : Int) (a0_3 : Bool) (a0_4 a0_5 : Int) (a0_6 : ByteArray) (a0_7 : Int) (a0_8 : List (List AV)) (H : Heap) (Q : Qt) : Prop :=
  C 33 [.agg [.str a0_0, .str a0_1, .int .i64 a0_2, .bool a0_3, .int .i64 a0_4, .int .i64 a0_5, .str a0_6, .int .i64 a0_7, .sl 0 2 a0_8], .str (⟨#[100, 101, 97, 116, 104, 115]⟩ : ByteArray)] H.none fun v_1 H_2 =>
  G ((v_1).isStr) (cond (ltI (sizeI ((v_1).toStr)) 1)
    (Q (.int .i64 0) (H.past H_2))
    (cond (ltI 13 (sizeI ((v_1).toStr)))
      (Q (.int .i64 0) (H.past H_2))
      (L0 a0_0 a0_1 a0_2 a0_3 a0_4 a0_5 a0_6 a0_7 a0_8 Q ((v_1).toStr) 0 (sizeI ((v_1).toStr)) 0 (H.past H_2))))
theorem t_eq (a0_0 a0_1 : ByteArray) (a0_2 : Int) (a0_3 : Bool) (a0_4 a0_5 : Int) (a0_6 : ByteArray) (a0_7 : Int) (a0_8 : List (List AV)) (H : Heap) (Q : Qt) : aBody E0 C 15 [.agg [.str a0_0, .str a0_1, .int .i64 a0_2, .bool a0_3, .int .i64 a0_4, .int .i64 a0_5, .str a0_6, .int .i64 a0_7, .sl 0 2 a0_8]] H Q = t a0_0 a0_1 a0_2 a0_3 a0_4 a0_5 a0_6 a0_7 a0_8 H Q := by kernel_rfl
theorem call {a0_0 a0_1 : ByteArray} {a0_2 : Int} {a0_3 : Bool} {a0_4 a0_5 : Int} {a0_6 : ByteArray} {a0_7 : Int} {a0_8 : List (List AV)} {H : Heap} {Q : Qt} (h : t a0_0 a0_1 a0_2 a0_3 a0_4 a0_5 a0_6 a0_7 a0_8 H Q) : C 15 [.agg [.str a0_0, .str a0_1, .int .i64 a0_2, .bool a0_3, .int .i64 a0_4, .int .i64 a0_5, .str a0_6, .int .i64 a0_7, .sl 0 2 a0_8]] H Q := Call_told (E := E0) (t_eq a0_0 a0_1 a0_2 a0_3 a0_4 a0_5 a0_6 a0_7 a0_8 H Q) h
end F15
/-! ### broker/dead.Again: function 16 -/
namespace F16
def t (a0_0 a0_1 : ByteArray) (a0_2 : Int) (a0_3 : Bool) (a0_4 a0_5 : Int) (a0_6 : ByteArray) (a0_7 : Int) (a0_8 : List (List AV)) (H : Heap) (Q : Qt) : Prop :=
  C 14 [.agg [.str a0_0, .str a0_1, .int .i64 a0_2, .bool a0_3, .int .i64 a0_4, .int .i64 a0_5, .str a0_6, .int .i64 a0_7, .sl 0 2 a0_8]] H.none fun v_1 H_2 =>
  G ((v_1).isInt .i64) (Q (.bool (ltI ((v_1).toInt) 8)) (H.past H_2))
theorem t_eq (a0_0 a0_1 : ByteArray) (a0_2 : Int) (a0_3 : Bool) (a0_4 a0_5 : Int) (a0_6 : ByteArray) (a0_7 : Int) (a0_8 : List (List AV)) (H : Heap) (Q : Qt) : aBody E0 C 16 [.agg [.str a0_0, .str a0_1, .int .i64 a0_2, .bool a0_3, .int .i64 a0_4, .int .i64 a0_5, .str a0_6, .int .i64 a0_7, .sl 0 2 a0_8]] H Q = t a0_0 a0_1 a0_2 a0_3 a0_4 a0_5 a0_6 a0_7 a0_8 H Q := by kernel_rfl
theorem call {a0_0 a0_1 : ByteArray} {a0_2 : Int} {a0_3 : Bool} {a0_4 a0_5 : Int} {a0_6 : ByteArray} {a0_7 : Int} {a0_8 : List (List AV)} {H : Heap} {Q : Qt} (h : t a0_0 a0_1 a0_2 a0_3 a0_4 a0_5 a0_6 a0_7 a0_8 H Q) : C 16 [.agg [.str a0_0, .str a0_1, .int .i64 a0_2, .bool a0_3, .int .i64 a0_4, .int .i64 a0_5, .str a0_6, .int .i64 a0_7, .sl 0 2 a0_8]] H Q := Call_told (E := E0) (t_eq a0_0 a0_1 a0_2 a0_3 a0_4 a0_5 a0_6 a0_7 a0_8 H Q) h
end F16
/-! ### broker/brokerref28.Again: function 17 -/
namespace F17
def t (a0_0 a0_1 : ByteArray) (a0_2 : Int) (a0_3 : Bool) (a0_4 a0_5 : Int) (a0_6 : ByteArray) (a0_7 : Int) (a0_8 : List (List AV)) (H : Heap) (Q : Qt) : Prop :=
  C 15 [.agg [.str a0_0, .str a0_1, .int .i64 a0_2, .bool a0_3, .int .i64 a0_4, .int .i64 a0_5, .str a0_6, .int .i64 a0_7, .sl 0 2 a0_8]] H.none fun v_1 H_2 =>
  G ((v_1).isInt .i64) (Q (.bool (ltI ((v_1).toInt) 8)) (H.past H_2))
theorem t_eq (a0_0 a0_1 : ByteArray) (a0_2 : Int) (a0_3 : Bool) (a0_4 a0_5 : Int) (a0_6 : ByteArray) (a0_7 : Int) (a0_8 : List (List AV)) (H : Heap) (Q : Qt) : aBody E0 C 17 [.agg [.str a0_0, .str a0_1, .int .i64 a0_2, .bool a0_3, .int .i64 a0_4, .int .i64 a0_5, .str a0_6, .int .i64 a0_7, .sl 0 2 a0_8]] H Q = t a0_0 a0_1 a0_2 a0_3 a0_4 a0_5 a0_6 a0_7 a0_8 H Q := by kernel_rfl
theorem call {a0_0 a0_1 : ByteArray} {a0_2 : Int} {a0_3 : Bool} {a0_4 a0_5 : Int} {a0_6 : ByteArray} {a0_7 : Int} {a0_8 : List (List AV)} {H : Heap} {Q : Qt} (h : t a0_0 a0_1 a0_2 a0_3 a0_4 a0_5 a0_6 a0_7 a0_8 H Q) : C 17 [.agg [.str a0_0, .str a0_1, .int .i64 a0_2, .bool a0_3, .int .i64 a0_4, .int .i64 a0_5, .str a0_6, .int .i64 a0_7, .sl 0 2 a0_8]] H Q := Call_told (E := E0) (t_eq a0_0 a0_1 a0_2 a0_3 a0_4 a0_5 a0_6 a0_7 a0_8 H Q) h
end F17
/-! ### broker/brokerlaw28.fits: function 18 -/
namespace F18
def t (a0 a1_0 a1_1 : ByteArray) (a1_2 : Int) (a1_3 : Bool) (a1_4 a1_5 : Int) (a1_6 : ByteArray) (a1_7 : Int) (a1_8 : List (List AV)) (a2 : Int) (H : Heap) (Q : Qt) : Prop :=
  C 25 [.str a0] H.none fun v_1 H_2 =>
  G ((v_1).isBool) (cond ((v_1).toBool)
    (C 35 [.agg [.str a1_0, .str a1_1, .int .i64 a1_2, .bool a1_3, .int .i64 a1_4, .int .i64 a1_5, .str a1_6, .int .i64 a1_7, .sl 0 2 a1_8]] ((H.past H_2).none) fun v_3 H_4 =>
      G ((v_3).isInt .i64) (cond (eqI ((v_3).toInt) 0)
        (cond (leI 1 a2)
          (Q (.bool (leI a2 4)) (H.past H_4))
          (Q (.bool false) (H.past H_4)))
        (Q (.bool false) (H.past H_4))))
    (Q (.bool false) (H.past H_2)))
theorem t_eq (a0 a1_0 a1_1 : ByteArray) (a1_2 : Int) (a1_3 : Bool) (a1_4 a1_5 : Int) (a1_6 : ByteArray) (a1_7 : Int) (a1_8 : List (List AV)) (a2 : Int) (H : Heap) (Q : Qt) : aBody E0 C 18 [.str a0, .agg [.str a1_0, .str a1_1, .int .i64 a1_2, .bool a1_3, .int .i64 a1_4, .int .i64 a1_5, .str a1_6, .int .i64 a1_7, .sl 0 2 a1_8], .int .i64 a2] H Q = t a0 a1_0 a1_1 a1_2 a1_3 a1_4 a1_5 a1_6 a1_7 a1_8 a2 H Q := by kernel_rfl
theorem call {a0 a1_0 a1_1 : ByteArray} {a1_2 : Int} {a1_3 : Bool} {a1_4 a1_5 : Int} {a1_6 : ByteArray} {a1_7 : Int} {a1_8 : List (List AV)} {a2 : Int} {H : Heap} {Q : Qt} (h : t a0 a1_0 a1_1 a1_2 a1_3 a1_4 a1_5 a1_6 a1_7 a1_8 a2 H Q) : C 18 [.str a0, .agg [.str a1_0, .str a1_1, .int .i64 a1_2, .bool a1_3, .int .i64 a1_4, .int .i64 a1_5, .str a1_6, .int .i64 a1_7, .sl 0 2 a1_8], .int .i64 a2] H Q := Call_told (E := E0) (t_eq a0 a1_0 a1_1 a1_2 a1_3 a1_4 a1_5 a1_6 a1_7 a1_8 a2 H Q) h
end F18
/-! ### broker/dead.Mark: function 19 -/
namespace F19
def t (a0 a1_0 a1_1 : ByteArray) (a1_2 : Int) (a1_3 : Bool) (a1_4 a1_5 : Int) (a1_6 : ByteArray) (a1_7 : Int) (a1_8 : List (List AV)) (a2 : Int) (H : Heap) (Q : Qt) : Prop :=
  C 14 [.agg [.str a1_0, .str a1_1, .int .i64 a1_2, .bool a1_3, .int .i64 a1_4, .int .i64 a1_5, .str a1_6, .int .i64 a1_7, .sl 0 2 a1_8]] H.none fun v_1 H_2 =>
  G ((v_1).isInt .i64) (C 34 [.int .i64 (cond (ltI 1099511627776 (addW .i64 ((v_1).toInt) 1)) 1099511627776 (addW .i64 ((v_1).toInt) 1))] ((H.past H_2).none) fun v_3 H_4 =>
    G ((v_3).isStr) (G (Nat.ble (a0.size + (⟨#[32]⟩ : ByteArray).size) 9223372036854775807) (C 34 [.int .i64 a2] ((H.past H_4).none) fun v_5 H_6 =>
      G ((v_5).isStr) (G (Nat.ble ((a0 ++ (⟨#[32]⟩ : ByteArray)).size + ((v_5).toStr).size) 9223372036854775807) (C 36 [.sl 0 2 a1_8, .sl 0 2 [[.str (⟨#[100, 101, 97, 116, 104, 115]⟩ : ByteArray), .str ((v_3).toStr)], [.str (⟨#[100, 105, 101, 100]⟩ : ByteArray), .str ((a0 ++ (⟨#[32]⟩ : ByteArray)) ++ ((v_5).toStr))]]] ((H.past H_6).none) fun v_7 H_8 =>
        G ((v_7).isSl 2) (Q (.agg [.str a1_0, .str a1_1, .int .i64 a1_2, .bool a1_3, .int .i64 a1_4, .int .i64 0, .str a1_6, .int .i64 a1_7, .sl 0 2 ((v_7).slXs)]) (H.past H_8)))))))
theorem t_eq (a0 a1_0 a1_1 : ByteArray) (a1_2 : Int) (a1_3 : Bool) (a1_4 a1_5 : Int) (a1_6 : ByteArray) (a1_7 : Int) (a1_8 : List (List AV)) (a2 : Int) (H : Heap) (Q : Qt) : aBody E0 C 19 [.str a0, .agg [.str a1_0, .str a1_1, .int .i64 a1_2, .bool a1_3, .int .i64 a1_4, .int .i64 a1_5, .str a1_6, .int .i64 a1_7, .sl 0 2 a1_8], .int .i64 a2] H Q = t a0 a1_0 a1_1 a1_2 a1_3 a1_4 a1_5 a1_6 a1_7 a1_8 a2 H Q := by kernel_rfl
theorem call {a0 a1_0 a1_1 : ByteArray} {a1_2 : Int} {a1_3 : Bool} {a1_4 a1_5 : Int} {a1_6 : ByteArray} {a1_7 : Int} {a1_8 : List (List AV)} {a2 : Int} {H : Heap} {Q : Qt} (h : t a0 a1_0 a1_1 a1_2 a1_3 a1_4 a1_5 a1_6 a1_7 a1_8 a2 H Q) : C 19 [.str a0, .agg [.str a1_0, .str a1_1, .int .i64 a1_2, .bool a1_3, .int .i64 a1_4, .int .i64 a1_5, .str a1_6, .int .i64 a1_7, .sl 0 2 a1_8], .int .i64 a2] H Q := Call_told (E := E0) (t_eq a0 a1_0 a1_1 a1_2 a1_3 a1_4 a1_5 a1_6 a1_7 a1_8 a2 H Q) h
end F19
/-! ### broker/message.Check: function 20 -/
namespace F20
def t (a0_0 a0_1 : ByteArray) (a0_2 : Int) (a0_3 : Bool) (a0_4 a0_5 : Int) (a0_6 : ByteArray) (a0_7 : Int) (a0_8 : List (List AV)) (H : Heap) (Q : Qt) : Prop :=
  C 37 [.str a0_0] H.none fun v_1 H_2 =>
  G ((v_1).isBool) (cond (!((v_1).toBool))
    (Q (.int .i64 12) (H.past H_2))
    (cond (ltI 256 (sizeI a0_1))
      (Q (.int .i64 5) (H.past H_2))
      (C 38 [.int .i64 a0_2, .int .i64 2] ((H.past H_2).none) fun v_3 H_4 =>
        G ((v_3).isBool) (cond (!((v_3).toBool))
          (Q (.int .i64 14) (H.past H_4))
          (C 38 [.int .i64 a0_4, .int .i64 9] ((H.past H_4).none) fun v_5 H_6 =>
            G ((v_5).isBool) (cond (!((v_5).toBool))
              (cond (!((v_5).toBool))
                (Q (.int .i64 1) (H.past H_6))
                (cond (!(eqS a0_6 (⟨#[]⟩ : ByteArray)))
                  (C 32 [.str a0_6] ((H.past H_6).none) fun v_7 H_8 =>
                    G ((v_7).isBool) (cond (!((v_7).toBool))
                      (Q (.int .i64 11) (H.past H_8))
                      (C 38 [.int .i64 a0_7, .int .i64 1099511627776] ((H.past H_8).none) fun v_9 H_10 =>
                        G ((v_9).isBool) (cond (!((v_9).toBool))
                          (Q (.int .i64 1) (H.past H_10))
                          (C 39 [.sl 0 2 a0_8] ((H.past H_10).none) fun v_11 H_12 =>
                            G ((v_11).isInt .i64) (Q (.int .i64 ((v_11).toInt)) (H.past H_12)))))))
                  (C 38 [.int .i64 a0_7, .int .i64 1099511627776] ((H.past H_6).none) fun v_13 H_14 =>
                    G ((v_13).isBool) (cond (!((v_13).toBool))
                      (Q (.int .i64 1) (H.past H_14))
                      (C 39 [.sl 0 2 a0_8] ((H.past H_14).none) fun v_15 H_16 =>
                        G ((v_15).isInt .i64) (Q (.int .i64 ((v_15).toInt)) (H.past H_16)))))))
              (C 38 [.int .i64 a0_5, .int .i64 1099511627776] ((H.past H_6).none) fun v_17 H_18 =>
                G ((v_17).isBool) (cond (!((v_17).toBool))
                  (Q (.int .i64 1) (H.past H_18))
                  (cond (!(eqS a0_6 (⟨#[]⟩ : ByteArray)))
                    (C 32 [.str a0_6] ((H.past H_18).none) fun v_19 H_20 =>
                      G ((v_19).isBool) (cond (!((v_19).toBool))
                        (Q (.int .i64 11) (H.past H_20))
                        (C 38 [.int .i64 a0_7, .int .i64 1099511627776] ((H.past H_20).none) fun v_21 H_22 =>
                          G ((v_21).isBool) (cond (!((v_21).toBool))
                            (Q (.int .i64 1) (H.past H_22))
                            (C 39 [.sl 0 2 a0_8] ((H.past H_22).none) fun v_23 H_24 =>
                              G ((v_23).isInt .i64) (Q (.int .i64 ((v_23).toInt)) (H.past H_24)))))))
                    (C 38 [.int .i64 a0_7, .int .i64 1099511627776] ((H.past H_18).none) fun v_25 H_26 =>
                      G ((v_25).isBool) (cond (!((v_25).toBool))
                        (Q (.int .i64 1) (H.past H_26))
                        (C 39 [.sl 0 2 a0_8] ((H.past H_26).none) fun v_27 H_28 =>
                          G ((v_27).isInt .i64) (Q (.int .i64 ((v_27).toInt)) (H.past H_28))))))))))))))
theorem t_eq (a0_0 a0_1 : ByteArray) (a0_2 : Int) (a0_3 : Bool) (a0_4 a0_5 : Int) (a0_6 : ByteArray) (a0_7 : Int) (a0_8 : List (List AV)) (H : Heap) (Q : Qt) : aBody E0 C 20 [.agg [.str a0_0, .str a0_1, .int .i64 a0_2, .bool a0_3, .int .i64 a0_4, .int .i64 a0_5, .str a0_6, .int .i64 a0_7, .sl 0 2 a0_8]] H Q = t a0_0 a0_1 a0_2 a0_3 a0_4 a0_5 a0_6 a0_7 a0_8 H Q := by kernel_rfl
theorem call {a0_0 a0_1 : ByteArray} {a0_2 : Int} {a0_3 : Bool} {a0_4 a0_5 : Int} {a0_6 : ByteArray} {a0_7 : Int} {a0_8 : List (List AV)} {H : Heap} {Q : Qt} (h : t a0_0 a0_1 a0_2 a0_3 a0_4 a0_5 a0_6 a0_7 a0_8 H Q) : C 20 [.agg [.str a0_0, .str a0_1, .int .i64 a0_2, .bool a0_3, .int .i64 a0_4, .int .i64 a0_5, .str a0_6, .int .i64 a0_7, .sl 0 2 a0_8]] H Q := Call_told (E := E0) (t_eq a0_0 a0_1 a0_2 a0_3 a0_4 a0_5 a0_6 a0_7 a0_8 H Q) h
end F20
/-! ### broker/brokerlaw28.bare: function 21 -/
namespace F21
def K0 (Q : Qt) : Ex → St → Prop := (contK E0 C (E0.L 21) [.block 0 0, .seq (codeAt (bodyOf E0 21) [1, 1, 1]) 1] (finK E0 21 Q))
def L0 (a0 : List (List AV)) (Q : Qt) (x3out : List (List AV)) (x8 : Int) (Hh : Heap) : Prop := ALoop (fun K s => awp E0 C (E0.L 21) (codeAt (bodyOf E0 21) [1, 1, 0, 1, 0, 0]) 1 s K) (clean [(3, 4), (6, 0), (7, 0), (8, 0)] 0) (K0 Q) ⟨stt 26 [(3, .sl 1 2 x3out), (6, .sl 0 2 a0), (7, .int .i64 (lenI a0)), (8, .int .i64 x8)], [], Hh⟩
def r0 (a0 : List (List AV)) (Q : Qt) (x3out : List (List AV)) (x8 : Int) (Hh : Heap) : Prop :=
  cond (ltI x8 (lenI a0))
  (G (leI 0 x8) (G (ltI x8 (lenI a0)) (G ((ce (ro a0 x8.toNat) 0).isStr) (G ((ce (ro a0 x8.toNat) 1).isStr) (cond (!(eqS ((ce (ro a0 x8.toNat) 0).toStr) (⟨#[100, 101, 97, 116, 104, 115]⟩ : ByteArray)))
    (cond (!(eqS ((ce (ro a0 x8.toNat) 0).toStr) (⟨#[100, 105, 101, 100]⟩ : ByteArray)))
      (G (room x3out [[.str ((ce (ro a0 x8.toNat) 0).toStr), .str ((ce (ro a0 x8.toNat) 1).toStr)]] 32) (L0 a0 Q (x3out ++ [[.str ((ce (ro a0 x8.toNat) 0).toStr), .str ((ce (ro a0 x8.toNat) 1).toStr)]]) (addW .i64 x8 1) Hh))
      (L0 a0 Q x3out (addW .i64 x8 1) Hh))
    (L0 a0 Q x3out (addW .i64 x8 1) Hh))))))
  (Q (.sl 0 2 x3out) Hh)
theorem r0_eq (a0 : List (List AV)) (Q : Qt) (x3out : List (List AV)) (x8 : Int) (Hh : Heap) : (fun K s => awp E0 C (E0.L 21) (codeAt (bodyOf E0 21) [1, 1, 0, 1, 0, 0]) 1 s K) (ALoopK (fun K s => awp E0 C (E0.L 21) (codeAt (bodyOf E0 21) [1, 1, 0, 1, 0, 0]) 1 s K) (clean [(3, 4), (6, 0), (7, 0), (8, 0)] 0) (K0 Q)) ⟨stt 26 [(3, .sl 1 2 x3out), (6, .sl 0 2 a0), (7, .int .i64 (lenI a0)), (8, .int .i64 x8)], [], Hh⟩ = r0 a0 Q x3out x8 Hh := by kernel_rfl
theorem L0_step {a0 : List (List AV)} {Q : Qt} {x3out : List (List AV)} {x8 : Int} {Hh : Heap} (h : r0 a0 Q x3out x8 Hh) : L0 a0 Q x3out x8 Hh := ALoop_told (r0_eq a0 Q x3out x8 Hh) h
def t (a0 : List (List AV)) (H : Heap) (Q : Qt) : Prop :=
  L0 a0 Q [] 0 H
theorem t_eq (a0 : List (List AV)) (H : Heap) (Q : Qt) : aBody E0 C 21 [.sl 0 2 a0] H Q = t a0 H Q := by kernel_rfl
theorem call {a0 : List (List AV)} {H : Heap} {Q : Qt} (h : t a0 H Q) : C 21 [.sl 0 2 a0] H Q := Call_told (E := E0) (t_eq a0 H Q) h
end F21
/-! ### slices.Equal[[]broker/api.Prop,broker/api.Prop]: function 22 -/
namespace F22
def K0 (Q : Qt) : Ex → St → Prop := (contK E0 C (E0.L 22) [.block 0 0, .seq (codeAt (bodyOf E0 22) [1, 1, 1]) 1] (finK E0 22 Q))
def L0 (a0 a1 : List (List AV)) (Q : Qt) (x13 : Int) (Hh : Heap) : Prop := ALoop (fun K s => awp E0 C (E0.L 22) (codeAt (bodyOf E0 22) [1, 1, 0, 1, 0, 0]) 1 s K) (clean [(0, 0), (1, 0), (12, 0), (13, 0)] 0) (K0 Q) ⟨stt 26 [(0, .sl 0 2 a0), (1, .sl 0 2 a1), (12, .int .i64 (lenI a0)), (13, .int .i64 x13)], [], Hh⟩
def r0 (a0 a1 : List (List AV)) (Q : Qt) (x13 : Int) (Hh : Heap) : Prop :=
  cond (ltI x13 (lenI a0))
  (G (leI 0 x13) (G (ltI x13 (lenI a0)) (G ((ce (ro a0 x13.toNat) 0).isStr) (G ((ce (ro a0 x13.toNat) 1).isStr) (G (leI 0 x13) (G (ltI x13 (lenI a1)) (G ((ce (ro a1 x13.toNat) 0).isStr) (G ((ce (ro a1 x13.toNat) 1).isStr) (cond (!((eqS ((ce (ro a0 x13.toNat) 0).toStr) ((ce (ro a1 x13.toNat) 0).toStr)) && ((eqS ((ce (ro a0 x13.toNat) 1).toStr) ((ce (ro a1 x13.toNat) 1).toStr)) && true)))
    (Q (.bool false) Hh)
    (L0 a0 a1 Q (addW .i64 x13 1) Hh))))))))))
  (Q (.bool true) Hh)
theorem r0_eq (a0 a1 : List (List AV)) (Q : Qt) (x13 : Int) (Hh : Heap) : (fun K s => awp E0 C (E0.L 22) (codeAt (bodyOf E0 22) [1, 1, 0, 1, 0, 0]) 1 s K) (ALoopK (fun K s => awp E0 C (E0.L 22) (codeAt (bodyOf E0 22) [1, 1, 0, 1, 0, 0]) 1 s K) (clean [(0, 0), (1, 0), (12, 0), (13, 0)] 0) (K0 Q)) ⟨stt 26 [(0, .sl 0 2 a0), (1, .sl 0 2 a1), (12, .int .i64 (lenI a0)), (13, .int .i64 x13)], [], Hh⟩ = r0 a0 a1 Q x13 Hh := by kernel_rfl
theorem L0_step {a0 a1 : List (List AV)} {Q : Qt} {x13 : Int} {Hh : Heap} (h : r0 a0 a1 Q x13 Hh) : L0 a0 a1 Q x13 Hh := ALoop_told (r0_eq a0 a1 Q x13 Hh) h
def t (a0 a1 : List (List AV)) (H : Heap) (Q : Qt) : Prop :=
  cond (!(eqI (lenI a0) (lenI a1)))
  (Q (.bool false) H)
  (L0 a0 a1 Q 0 H)
theorem t_eq (a0 a1 : List (List AV)) (H : Heap) (Q : Qt) : aBody E0 C 22 [.sl 0 2 a0, .sl 0 2 a1] H Q = t a0 a1 H Q := by kernel_rfl
theorem call {a0 a1 : List (List AV)} {H : Heap} {Q : Qt} (h : t a0 a1 H Q) : C 22 [.sl 0 2 a0, .sl 0 2 a1] H Q := Call_told (E := E0) (t_eq a0 a1 H Q) h
end F22
/-! ### broker/brokerref05.Same: function 23 -/
namespace F23
def t (a0_0 a0_1 : ByteArray) (a0_2 : Int) (a0_3 : Bool) (a0_4 a0_5 : Int) (a0_6 : ByteArray) (a0_7 : Int) (a0_8 : List (List AV)) (a1_0 a1_1 : ByteArray) (a1_2 : Int) (a1_3 : Bool) (a1_4 a1_5 : Int) (a1_6 : ByteArray) (a1_7 : Int) (a1_8 : List (List AV)) (H : Heap) (Q : Qt) : Prop :=
  cond (eqS a0_0 a1_0)
  (cond (eqS a0_1 a1_1)
    (cond (eqI a0_2 a1_2)
      (cond (a0_3 == a1_3)
        (cond (eqI a0_4 a1_4)
          (cond (eqI a0_5 a1_5)
            (cond (eqS a0_6 a1_6)
              (cond (eqI a0_7 a1_7)
                (C 40 [.sl 0 2 a0_8, .sl 0 2 a1_8] H.none fun v_1 H_2 =>
                  G ((v_1).isBool) (Q (.bool ((v_1).toBool)) (H.past H_2)))
                (Q (.bool false) H))
              (Q (.bool false) H))
            (Q (.bool false) H))
          (Q (.bool false) H))
        (Q (.bool false) H))
      (Q (.bool false) H))
    (Q (.bool false) H))
  (Q (.bool false) H)
theorem t_eq (a0_0 a0_1 : ByteArray) (a0_2 : Int) (a0_3 : Bool) (a0_4 a0_5 : Int) (a0_6 : ByteArray) (a0_7 : Int) (a0_8 : List (List AV)) (a1_0 a1_1 : ByteArray) (a1_2 : Int) (a1_3 : Bool) (a1_4 a1_5 : Int) (a1_6 : ByteArray) (a1_7 : Int) (a1_8 : List (List AV)) (H : Heap) (Q : Qt) : aBody E0 C 23 [.agg [.str a0_0, .str a0_1, .int .i64 a0_2, .bool a0_3, .int .i64 a0_4, .int .i64 a0_5, .str a0_6, .int .i64 a0_7, .sl 0 2 a0_8], .agg [.str a1_0, .str a1_1, .int .i64 a1_2, .bool a1_3, .int .i64 a1_4, .int .i64 a1_5, .str a1_6, .int .i64 a1_7, .sl 0 2 a1_8]] H Q = t a0_0 a0_1 a0_2 a0_3 a0_4 a0_5 a0_6 a0_7 a0_8 a1_0 a1_1 a1_2 a1_3 a1_4 a1_5 a1_6 a1_7 a1_8 H Q := by kernel_rfl
theorem call {a0_0 a0_1 : ByteArray} {a0_2 : Int} {a0_3 : Bool} {a0_4 a0_5 : Int} {a0_6 : ByteArray} {a0_7 : Int} {a0_8 : List (List AV)} {a1_0 a1_1 : ByteArray} {a1_2 : Int} {a1_3 : Bool} {a1_4 a1_5 : Int} {a1_6 : ByteArray} {a1_7 : Int} {a1_8 : List (List AV)} {H : Heap} {Q : Qt} (h : t a0_0 a0_1 a0_2 a0_3 a0_4 a0_5 a0_6 a0_7 a0_8 a1_0 a1_1 a1_2 a1_3 a1_4 a1_5 a1_6 a1_7 a1_8 H Q) : C 23 [.agg [.str a0_0, .str a0_1, .int .i64 a0_2, .bool a0_3, .int .i64 a0_4, .int .i64 a0_5, .str a0_6, .int .i64 a0_7, .sl 0 2 a0_8], .agg [.str a1_0, .str a1_1, .int .i64 a1_2, .bool a1_3, .int .i64 a1_4, .int .i64 a1_5, .str a1_6, .int .i64 a1_7, .sl 0 2 a1_8]] H Q := Call_told (E := E0) (t_eq a0_0 a0_1 a0_2 a0_3 a0_4 a0_5 a0_6 a0_7 a0_8 a1_0 a1_1 a1_2 a1_3 a1_4 a1_5 a1_6 a1_7 a1_8 H Q) h
end F23
/-! ### broker/brokerref28.Mark: function 24 -/
namespace F24
def K0 (Q : Qt) : Ex → St → Prop := (contK E0 C (E0.L 24) [.block 0 2, .seq (codeAt (bodyOf E0 24) [1, 1, 1]) 1] (finK E0 24 Q))
def L0 (a0 a1_0 a1_1 : ByteArray) (a1_2 : Int) (a1_3 : Bool) (a1_4 a1_5 : Int) (a1_6 : ByteArray) (a1_7 : Int) (a1_8 : List (List AV)) (a2 : Int) (Q : Qt) (x7kept : List (List AV)) (x14 : Int) (Hh : Heap) : Prop := ALoop (fun K s => awp E0 C (E0.L 24) (codeAt (bodyOf E0 24) [1, 1, 0, 1, 0, 0]) 1 s K) (clean [(0, 0), (2, 0), (4, 0), (6, 0), (7, 4), (12, 0), (13, 0), (14, 0)] 2) (K0 Q) ⟨stt 56 [(0, .str a0), (2, .int .i64 a2), (4, .ptr 0 0), (6, .ptr 1 0), (7, .sl 1 2 x7kept), (12, .sl 0 2 a1_8), (13, .int .i64 (lenI a1_8)), (14, .int .i64 x14)], [.cells [.str a1_0, .str a1_1, .int .i64 a1_2, .bool a1_3, .int .i64 a1_4, .int .i64 a1_5, .str a1_6, .int .i64 a1_7, .sl 0 2 a1_8], .cells [.str (⟨#[]⟩ : ByteArray), .str (⟨#[]⟩ : ByteArray), .int .i64 0, .bool false, .int .i64 0, .int .i64 0, .str (⟨#[]⟩ : ByteArray), .int .i64 0, .nilsl]], Hh⟩
def JR5 (a0 a1_0 a1_1 : ByteArray) (a1_2 : Int) (a1_3 : Bool) (a1_4 a1_5 : Int) (a1_6 : ByteArray) (a1_7 : Int) (a1_8 : List (List AV)) (a2 : Int) (Q : Qt) (x7kept : List (List AV)) (x14 : Int) (x30 : Bool) (m2_0 m2_1 : ByteArray) (Hh : Heap) : Prop := AJoin (contK E0 C (E0.L 24) [.seq (codeAt (bodyOf E0 24) [1, 1, 0, 1, 0, 0, 1, 1, 0, 0, 1, 1]) 1, .block 1 2, .seq (codeAt (bodyOf E0 24) [1, 1, 0, 1, 0, 0, 1, 1, 1]) 1, .loop (codeAt (bodyOf E0 24) [1, 1, 0, 1, 0, 0]) 1 [(0, 0), (2, 0), (4, 0), (6, 0), (7, 4), (12, 0), (13, 0), (14, 0)] 2, .block 0 2, .seq (codeAt (bodyOf E0 24) [1, 1, 1]) 1] (finK E0 24 Q)) ⟨stt 56 [(0, .str a0), (2, .int .i64 a2), (4, .ptr 0 0), (6, .ptr 1 0), (7, .sl 1 2 x7kept), (9, .ptr 2 0), (12, .sl 0 2 a1_8), (13, .int .i64 (lenI a1_8)), (14, .int .i64 x14), (30, .bool x30)], [.cells [.str a1_0, .str a1_1, .int .i64 a1_2, .bool a1_3, .int .i64 a1_4, .int .i64 a1_5, .str a1_6, .int .i64 a1_7, .sl 0 2 a1_8], .cells [.str (⟨#[]⟩ : ByteArray), .str (⟨#[]⟩ : ByteArray), .int .i64 0, .bool false, .int .i64 0, .int .i64 0, .str (⟨#[]⟩ : ByteArray), .int .i64 0, .nilsl], .cells [.str m2_0, .str m2_1]], Hh⟩
def r0 (a0 a1_0 a1_1 : ByteArray) (a1_2 : Int) (a1_3 : Bool) (a1_4 a1_5 : Int) (a1_6 : ByteArray) (a1_7 : Int) (a1_8 : List (List AV)) (a2 : Int) (Q : Qt) (x7kept : List (List AV)) (x14 : Int) (Hh : Heap) : Prop :=
  cond (ltI x14 (lenI a1_8))
  (G (leI 0 x14) (G (ltI x14 (lenI a1_8)) (G ((ce (ro a1_8 x14.toNat) 0).isStr) (G ((ce (ro a1_8 x14.toNat) 1).isStr) (cond (!(eqS ((ce (ro a1_8 x14.toNat) 0).toStr) (⟨#[100, 101, 97, 116, 104, 115]⟩ : ByteArray)))
    (cond (!(eqS ((ce (ro a1_8 x14.toNat) 0).toStr) (⟨#[100, 105, 101, 100]⟩ : ByteArray)))
      (JR5 a0 a1_0 a1_1 a1_2 a1_3 a1_4 a1_5 a1_6 a1_7 a1_8 a2 Q x7kept x14 (ltI (lenI x7kept) 6) ((ce (ro a1_8 x14.toNat) 0).toStr) ((ce (ro a1_8 x14.toNat) 1).toStr) Hh)
      (JR5 a0 a1_0 a1_1 a1_2 a1_3 a1_4 a1_5 a1_6 a1_7 a1_8 a2 Q x7kept x14 false ((ce (ro a1_8 x14.toNat) 0).toStr) ((ce (ro a1_8 x14.toNat) 1).toStr) Hh))
    (JR5 a0 a1_0 a1_1 a1_2 a1_3 a1_4 a1_5 a1_6 a1_7 a1_8 a2 Q x7kept x14 false ((ce (ro a1_8 x14.toNat) 0).toStr) ((ce (ro a1_8 x14.toNat) 1).toStr) Hh))))))
  (C 15 [.agg [.str a1_0, .str a1_1, .int .i64 a1_2, .bool a1_3, .int .i64 a1_4, .int .i64 a1_5, .str a1_6, .int .i64 a1_7, .sl 0 2 a1_8]] Hh.none fun v_1 H_2 =>
    G ((v_1).isInt .i64) (C 34 [.int .i64 (cond (ltI 1099511627776 (addW .i64 ((v_1).toInt) 1)) 1099511627776 (addW .i64 ((v_1).toInt) 1))] ((Hh.past H_2).none) fun v_3 H_4 =>
      G ((v_3).isStr) (ioBack C 41 2 x7kept [.agg [.str (⟨#[100, 101, 97, 116, 104, 115]⟩ : ByteArray), .str ((v_3).toStr)]] (Hh.past H_4) fun y_5 H_6 =>
        G (Nat.ble (a0.size + (⟨#[32]⟩ : ByteArray).size) 9223372036854775807) (C 34 [.int .i64 a2] H_6.none fun v_7 H_8 =>
          G ((v_7).isStr) (G (Nat.ble ((a0 ++ (⟨#[32]⟩ : ByteArray)).size + ((v_7).toStr).size) 9223372036854775807) (ioBack C 41 2 y_5 [.agg [.str (⟨#[100, 105, 101, 100]⟩ : ByteArray), .str ((a0 ++ (⟨#[32]⟩ : ByteArray)) ++ ((v_7).toStr))]] (H_6.past H_8) fun y_9 H_10 =>
            Q (.agg [.str a1_0, .str a1_1, .int .i64 a1_2, .bool a1_3, .int .i64 a1_4, .int .i64 0, .str a1_6, .int .i64 a1_7, .sl 0 2 y_9]) H_10))))))
theorem r0_eq (a0 a1_0 a1_1 : ByteArray) (a1_2 : Int) (a1_3 : Bool) (a1_4 a1_5 : Int) (a1_6 : ByteArray) (a1_7 : Int) (a1_8 : List (List AV)) (a2 : Int) (Q : Qt) (x7kept : List (List AV)) (x14 : Int) (Hh : Heap) : (fun K s => awp E0 C (E0.L 24) (codeAt (bodyOf E0 24) [1, 1, 0, 1, 0, 0]) 1 s K) (ALoopK (fun K s => awp E0 C (E0.L 24) (codeAt (bodyOf E0 24) [1, 1, 0, 1, 0, 0]) 1 s K) (clean [(0, 0), (2, 0), (4, 0), (6, 0), (7, 4), (12, 0), (13, 0), (14, 0)] 2) (K0 Q)) ⟨stt 56 [(0, .str a0), (2, .int .i64 a2), (4, .ptr 0 0), (6, .ptr 1 0), (7, .sl 1 2 x7kept), (12, .sl 0 2 a1_8), (13, .int .i64 (lenI a1_8)), (14, .int .i64 x14)], [.cells [.str a1_0, .str a1_1, .int .i64 a1_2, .bool a1_3, .int .i64 a1_4, .int .i64 a1_5, .str a1_6, .int .i64 a1_7, .sl 0 2 a1_8], .cells [.str (⟨#[]⟩ : ByteArray), .str (⟨#[]⟩ : ByteArray), .int .i64 0, .bool false, .int .i64 0, .int .i64 0, .str (⟨#[]⟩ : ByteArray), .int .i64 0, .nilsl]], Hh⟩ = r0 a0 a1_0 a1_1 a1_2 a1_3 a1_4 a1_5 a1_6 a1_7 a1_8 a2 Q x7kept x14 Hh := by kernel_rfl
theorem L0_step {a0 a1_0 a1_1 : ByteArray} {a1_2 : Int} {a1_3 : Bool} {a1_4 a1_5 : Int} {a1_6 : ByteArray} {a1_7 : Int} {a1_8 : List (List AV)} {a2 : Int} {Q : Qt} {x7kept : List (List AV)} {x14 : Int} {Hh : Heap} (h : r0 a0 a1_0 a1_1 a1_2 a1_3 a1_4 a1_5 a1_6 a1_7 a1_8 a2 Q x7kept x14 Hh) : L0 a0 a1_0 a1_1 a1_2 a1_3 a1_4 a1_5 a1_6 a1_7 a1_8 a2 Q x7kept x14 Hh := ALoop_told (r0_eq a0 a1_0 a1_1 a1_2 a1_3 a1_4 a1_5 a1_6 a1_7 a1_8 a2 Q x7kept x14 Hh) h
def jR5 (a0 a1_0 a1_1 : ByteArray) (a1_2 : Int) (a1_3 : Bool) (a1_4 a1_5 : Int) (a1_6 : ByteArray) (a1_7 : Int) (a1_8 : List (List AV)) (a2 : Int) (Q : Qt) (x7kept : List (List AV)) (x14 : Int) (x30 : Bool) (m2_0 m2_1 : ByteArray) (Hh : Heap) : Prop :=
  cond x30
  (G (room x7kept [[.str m2_0, .str m2_1]] 32) (L0 a0 a1_0 a1_1 a1_2 a1_3 a1_4 a1_5 a1_6 a1_7 a1_8 a2 Q (x7kept ++ [[.str m2_0, .str m2_1]]) (addW .i64 x14 1) Hh))
  (L0 a0 a1_0 a1_1 a1_2 a1_3 a1_4 a1_5 a1_6 a1_7 a1_8 a2 Q x7kept (addW .i64 x14 1) Hh)
theorem JR5_eq (a0 a1_0 a1_1 : ByteArray) (a1_2 : Int) (a1_3 : Bool) (a1_4 a1_5 : Int) (a1_6 : ByteArray) (a1_7 : Int) (a1_8 : List (List AV)) (a2 : Int) (Q : Qt) (x7kept : List (List AV)) (x14 : Int) (x30 : Bool) (m2_0 m2_1 : ByteArray) (Hh : Heap) : contK E0 C (E0.L 24) [.seq (codeAt (bodyOf E0 24) [1, 1, 0, 1, 0, 0, 1, 1, 0, 0, 1, 1]) 1, .block 1 2, .seq (codeAt (bodyOf E0 24) [1, 1, 0, 1, 0, 0, 1, 1, 1]) 1, .loop (codeAt (bodyOf E0 24) [1, 1, 0, 1, 0, 0]) 1 [(0, 0), (2, 0), (4, 0), (6, 0), (7, 4), (12, 0), (13, 0), (14, 0)] 2, .block 0 2, .seq (codeAt (bodyOf E0 24) [1, 1, 1]) 1] (finK E0 24 Q) .normal ⟨stt 56 [(0, .str a0), (2, .int .i64 a2), (4, .ptr 0 0), (6, .ptr 1 0), (7, .sl 1 2 x7kept), (9, .ptr 2 0), (12, .sl 0 2 a1_8), (13, .int .i64 (lenI a1_8)), (14, .int .i64 x14), (30, .bool x30)], [.cells [.str a1_0, .str a1_1, .int .i64 a1_2, .bool a1_3, .int .i64 a1_4, .int .i64 a1_5, .str a1_6, .int .i64 a1_7, .sl 0 2 a1_8], .cells [.str (⟨#[]⟩ : ByteArray), .str (⟨#[]⟩ : ByteArray), .int .i64 0, .bool false, .int .i64 0, .int .i64 0, .str (⟨#[]⟩ : ByteArray), .int .i64 0, .nilsl], .cells [.str m2_0, .str m2_1]], Hh⟩ = jR5 a0 a1_0 a1_1 a1_2 a1_3 a1_4 a1_5 a1_6 a1_7 a1_8 a2 Q x7kept x14 x30 m2_0 m2_1 Hh := by kernel_rfl
theorem JR5_step {a0 a1_0 a1_1 : ByteArray} {a1_2 : Int} {a1_3 : Bool} {a1_4 a1_5 : Int} {a1_6 : ByteArray} {a1_7 : Int} {a1_8 : List (List AV)} {a2 : Int} {Q : Qt} {x7kept : List (List AV)} {x14 : Int} {x30 : Bool} {m2_0 m2_1 : ByteArray} {Hh : Heap} (h : jR5 a0 a1_0 a1_1 a1_2 a1_3 a1_4 a1_5 a1_6 a1_7 a1_8 a2 Q x7kept x14 x30 m2_0 m2_1 Hh) : JR5 a0 a1_0 a1_1 a1_2 a1_3 a1_4 a1_5 a1_6 a1_7 a1_8 a2 Q x7kept x14 x30 m2_0 m2_1 Hh := AJoin_told (JR5_eq a0 a1_0 a1_1 a1_2 a1_3 a1_4 a1_5 a1_6 a1_7 a1_8 a2 Q x7kept x14 x30 m2_0 m2_1 Hh) h
def t (a0 a1_0 a1_1 : ByteArray) (a1_2 : Int) (a1_3 : Bool) (a1_4 a1_5 : Int) (a1_6 : ByteArray) (a1_7 : Int) (a1_8 : List (List AV)) (a2 : Int) (H : Heap) (Q : Qt) : Prop :=
  L0 a0 a1_0 a1_1 a1_2 a1_3 a1_4 a1_5 a1_6 a1_7 a1_8 a2 Q [] 0 H
theorem t_eq (a0 a1_0 a1_1 : ByteArray) (a1_2 : Int) (a1_3 : Bool) (a1_4 a1_5 : Int) (a1_6 : ByteArray) (a1_7 : Int) (a1_8 : List (List AV)) (a2 : Int) (H : Heap) (Q : Qt) : aBody E0 C 24 [.str a0, .agg [.str a1_0, .str a1_1, .int .i64 a1_2, .bool a1_3, .int .i64 a1_4, .int .i64 a1_5, .str a1_6, .int .i64 a1_7, .sl 0 2 a1_8], .int .i64 a2] H Q = t a0 a1_0 a1_1 a1_2 a1_3 a1_4 a1_5 a1_6 a1_7 a1_8 a2 H Q := by kernel_rfl
theorem call {a0 a1_0 a1_1 : ByteArray} {a1_2 : Int} {a1_3 : Bool} {a1_4 a1_5 : Int} {a1_6 : ByteArray} {a1_7 : Int} {a1_8 : List (List AV)} {a2 : Int} {H : Heap} {Q : Qt} (h : t a0 a1_0 a1_1 a1_2 a1_3 a1_4 a1_5 a1_6 a1_7 a1_8 a2 H Q) : C 24 [.str a0, .agg [.str a1_0, .str a1_1, .int .i64 a1_2, .bool a1_3, .int .i64 a1_4, .int .i64 a1_5, .str a1_6, .int .i64 a1_7, .sl 0 2 a1_8], .int .i64 a2] H Q := Call_told (E := E0) (t_eq a0 a1_0 a1_1 a1_2 a1_3 a1_4 a1_5 a1_6 a1_7 a1_8 a2 H Q) h
end F24
/-! ### broker/brokerref01.Name: function 25 -/
namespace F25
def JR1 (a0 : ByteArray) (Q : Qt) (x17 : Bool) (Hh : Heap) : Prop := AJoin (contK E0 C (E0.L 25) [.seq (codeAt (bodyOf E0 25) [1, 0, 1]) 0, .seq (codeAt (bodyOf E0 25) [1, 1]) 0] (finK E0 25 Q)) ⟨stt 42 [(0, .str a0), (17, .bool x17)], [], Hh⟩
def K0 (Q : Qt) : Ex → St → Prop := (contK E0 C (E0.L 25) [.block 0 0, .seq (codeAt (bodyOf E0 25) [1, 1, 1]) 1] (finK E0 25 Q))
def L0 (a0 : ByteArray) (Q : Qt) (x3i : Int) (Hh : Heap) : Prop := ALoop (fun K s => awp E0 C (E0.L 25) (codeAt (bodyOf E0 25) [1, 1, 0, 1, 0, 0]) 1 s K) (clean [(0, 0), (3, 0)] 0) (K0 Q) ⟨stt 42 [(0, .str a0), (3, .int .i64 x3i)], [], Hh⟩
def JR6 (a0 : ByteArray) (Q : Qt) (x3i : Int) (x41 : Bool) (Hh : Heap) : Prop := AJoin (contK E0 C (E0.L 25) [.seq (codeAt (bodyOf E0 25) [1, 1, 0, 1, 0, 0, 1, 0, 0, 1]) 1, .block 1 0, .seq (codeAt (bodyOf E0 25) [1, 1, 0, 1, 0, 0, 1, 1]) 1, .loop (codeAt (bodyOf E0 25) [1, 1, 0, 1, 0, 0]) 1 [(0, 0), (3, 0)] 0, .block 0 0, .seq (codeAt (bodyOf E0 25) [1, 1, 1]) 1] (finK E0 25 Q)) ⟨stt 42 [(0, .str a0), (3, .int .i64 x3i), (41, .bool x41)], [], Hh⟩
def jR1 (a0 : ByteArray) (Q : Qt) (x17 : Bool) (Hh : Heap) : Prop :=
  cond x17
  (Q (.bool false) Hh)
  (L0 a0 Q 0 Hh)
theorem JR1_eq (a0 : ByteArray) (Q : Qt) (x17 : Bool) (Hh : Heap) : contK E0 C (E0.L 25) [.seq (codeAt (bodyOf E0 25) [1, 0, 1]) 0, .seq (codeAt (bodyOf E0 25) [1, 1]) 0] (finK E0 25 Q) .normal ⟨stt 42 [(0, .str a0), (17, .bool x17)], [], Hh⟩ = jR1 a0 Q x17 Hh := by kernel_rfl
theorem JR1_step {a0 : ByteArray} {Q : Qt} {x17 : Bool} {Hh : Heap} (h : jR1 a0 Q x17 Hh) : JR1 a0 Q x17 Hh := AJoin_told (JR1_eq a0 Q x17 Hh) h
def r0 (a0 : ByteArray) (Q : Qt) (x3i : Int) (Hh : Heap) : Prop :=
  cond (ltI x3i (sizeI a0))
  (G (leI 0 x3i) (G (ltI x3i (sizeI a0)) (C 42 [.int .u8 (bt a0 x3i)] Hh.none fun v_3 H_4 =>
    G ((v_3).isBool) (cond (!((v_3).toBool))
      (G (leI 0 x3i) (G (ltI x3i (sizeI a0)) (C 43 [.int .u8 (bt a0 x3i)] ((Hh.past H_4).none) fun v_5 H_6 =>
        G ((v_5).isBool) (cond (!((v_5).toBool))
          (G (leI 0 x3i) (G (ltI x3i (sizeI a0)) (JR6 a0 Q x3i (!(eqI (bt a0 x3i) 45)) (Hh.past H_6))))
          (JR6 a0 Q x3i false (Hh.past H_6))))))
      (JR6 a0 Q x3i false (Hh.past H_4))))))
  (Q (.bool true) Hh)
theorem r0_eq (a0 : ByteArray) (Q : Qt) (x3i : Int) (Hh : Heap) : (fun K s => awp E0 C (E0.L 25) (codeAt (bodyOf E0 25) [1, 1, 0, 1, 0, 0]) 1 s K) (ALoopK (fun K s => awp E0 C (E0.L 25) (codeAt (bodyOf E0 25) [1, 1, 0, 1, 0, 0]) 1 s K) (clean [(0, 0), (3, 0)] 0) (K0 Q)) ⟨stt 42 [(0, .str a0), (3, .int .i64 x3i)], [], Hh⟩ = r0 a0 Q x3i Hh := by kernel_rfl
theorem L0_step {a0 : ByteArray} {Q : Qt} {x3i : Int} {Hh : Heap} (h : r0 a0 Q x3i Hh) : L0 a0 Q x3i Hh := ALoop_told (r0_eq a0 Q x3i Hh) h
def jR6 (a0 : ByteArray) (Q : Qt) (x3i : Int) (x41 : Bool) (Hh : Heap) : Prop :=
  cond x41
  (Q (.bool false) Hh)
  (L0 a0 Q (addW .i64 x3i 1) Hh)
theorem JR6_eq (a0 : ByteArray) (Q : Qt) (x3i : Int) (x41 : Bool) (Hh : Heap) : contK E0 C (E0.L 25) [.seq (codeAt (bodyOf E0 25) [1, 1, 0, 1, 0, 0, 1, 0, 0, 1]) 1, .block 1 0, .seq (codeAt (bodyOf E0 25) [1, 1, 0, 1, 0, 0, 1, 1]) 1, .loop (codeAt (bodyOf E0 25) [1, 1, 0, 1, 0, 0]) 1 [(0, 0), (3, 0)] 0, .block 0 0, .seq (codeAt (bodyOf E0 25) [1, 1, 1]) 1] (finK E0 25 Q) .normal ⟨stt 42 [(0, .str a0), (3, .int .i64 x3i), (41, .bool x41)], [], Hh⟩ = jR6 a0 Q x3i x41 Hh := by kernel_rfl
theorem JR6_step {a0 : ByteArray} {Q : Qt} {x3i : Int} {x41 : Bool} {Hh : Heap} (h : jR6 a0 Q x3i x41 Hh) : JR6 a0 Q x3i x41 Hh := AJoin_told (JR6_eq a0 Q x3i x41 Hh) h
def t (a0 : ByteArray) (H : Heap) (Q : Qt) : Prop :=
  cond (ltI (sizeI a0) 1)
  (JR1 a0 Q true H)
  (cond (ltI 16 (sizeI a0))
    (JR1 a0 Q true H)
    (G (ltI 0 (sizeI a0)) (C 42 [.int .u8 (bt a0 0)] H.none fun v_1 H_2 =>
      G ((v_1).isBool) (JR1 a0 Q (!((v_1).toBool)) (H.past H_2)))))
theorem t_eq (a0 : ByteArray) (H : Heap) (Q : Qt) : aBody E0 C 25 [.str a0] H Q = t a0 H Q := by kernel_rfl
theorem call {a0 : ByteArray} {H : Heap} {Q : Qt} (h : t a0 H Q) : C 25 [.str a0] H Q := Call_told (E := E0) (t_eq a0 H Q) h
end F25
/-! ### broker/brokerref25.in: function 26 -/
namespace F26
def t (a0 a1 a2 : Int) (H : Heap) (Q : Qt) : Prop :=
  cond (leI a1 a0)
  (Q (.bool (leI a0 a2)) H)
  (Q (.bool false) H)
theorem t_eq (a0 a1 a2 : Int) (H : Heap) (Q : Qt) : aBody E0 C 26 [.int .i64 a0, .int .i64 a1, .int .i64 a2] H Q = t a0 a1 a2 H Q := by kernel_rfl
theorem call {a0 a1 a2 : Int} {H : Heap} {Q : Qt} (h : t a0 a1 a2 H Q) : C 26 [.int .i64 a0, .int .i64 a1, .int .i64 a2] H Q := Call_told (E := E0) (t_eq a0 a1 a2 H Q) h
end F26
/-! ### strings.Split: function 27 -/
namespace F27
def t (a0 a1 : ByteArray) (H : Heap) (Q : Qt) : Prop :=
  C 44 [.str a0, .str a1, .int .i64 0, .int .i64 (-1)] H.none fun v_1 H_2 =>
  G ((v_1).isSl 1) (Q (.sl 0 1 ((v_1).slXs)) (H.past H_2))
theorem t_eq (a0 a1 : ByteArray) (H : Heap) (Q : Qt) : aBody E0 C 27 [.str a0, .str a1] H Q = t a0 a1 H Q := by kernel_rfl
theorem call {a0 a1 : ByteArray} {H : Heap} {Q : Qt} (h : t a0 a1 H Q) : C 27 [.str a0, .str a1] H Q := Call_told (E := E0) (t_eq a0 a1 H Q) h
end F27
/-! ### broker/message.Expired: function 28 -/
namespace F28
def t (a0_0 a0_1 : ByteArray) (a0_2 : Int) (a0_3 : Bool) (a0_4 a0_5 : Int) (a0_6 : ByteArray) (a0_7 : Int) (a0_8 : List (List AV)) (a1 : Int) (H : Heap) (Q : Qt) : Prop :=
  cond (!(eqI a0_5 0))
  (Q (.bool (leI a0_5 a1)) H)
  (Q (.bool false) H)
theorem t_eq (a0_0 a0_1 : ByteArray) (a0_2 : Int) (a0_3 : Bool) (a0_4 a0_5 : Int) (a0_6 : ByteArray) (a0_7 : Int) (a0_8 : List (List AV)) (a1 : Int) (H : Heap) (Q : Qt) : aBody E0 C 28 [.agg [.str a0_0, .str a0_1, .int .i64 a0_2, .bool a0_3, .int .i64 a0_4, .int .i64 a0_5, .str a0_6, .int .i64 a0_7, .sl 0 2 a0_8], .int .i64 a1] H Q = t a0_0 a0_1 a0_2 a0_3 a0_4 a0_5 a0_6 a0_7 a0_8 a1 H Q := by kernel_rfl
theorem call {a0_0 a0_1 : ByteArray} {a0_2 : Int} {a0_3 : Bool} {a0_4 a0_5 : Int} {a0_6 : ByteArray} {a0_7 : Int} {a0_8 : List (List AV)} {a1 : Int} {H : Heap} {Q : Qt} (h : t a0_0 a0_1 a0_2 a0_3 a0_4 a0_5 a0_6 a0_7 a0_8 a1 H Q) : C 28 [.agg [.str a0_0, .str a0_1, .int .i64 a0_2, .bool a0_3, .int .i64 a0_4, .int .i64 a0_5, .str a0_6, .int .i64 a0_7, .sl 0 2 a0_8], .int .i64 a1] H Q := Call_told (E := E0) (t_eq a0_0 a0_1 a0_2 a0_3 a0_4 a0_5 a0_6 a0_7 a0_8 a1 H Q) h
end F28
/-! ### broker/brokerref25.Expired: function 29 -/
namespace F29
def t (a0_0 : ByteArray) (a0_1 a0_2 a0_3 : Int) (a0_4 : ByteArray) (a1_0 a1_1 a1_2 : Int) (a1_3 a1_4 : ByteArray) (a1_5 : Int) (a1_6 : Bool) (a1_7 a1_8 : Int) (a1_9 : ByteArray) (a1_10 : Int) (a1_11 : List (List AV)) (a2 : Int) (H : Heap) (Q : Qt) : Prop :=
  cond (!(eqI a0_2 0))
  (cond (leI (addW .i64 a1_1 a0_2) a2)
    (Q (.bool true) H)
    (C 45 [.agg [.str a1_3, .str a1_4, .int .i64 a1_5, .bool a1_6, .int .i64 a1_7, .int .i64 a1_8, .str a1_9, .int .i64 a1_10, .sl 0 2 a1_11], .int .i64 a2] H.none fun v_1 H_2 =>
      G ((v_1).isBool) (Q (.bool ((v_1).toBool)) (H.past H_2))))
  (C 45 [.agg [.str a1_3, .str a1_4, .int .i64 a1_5, .bool a1_6, .int .i64 a1_7, .int .i64 a1_8, .str a1_9, .int .i64 a1_10, .sl 0 2 a1_11], .int .i64 a2] H.none fun v_3 H_4 =>
    G ((v_3).isBool) (Q (.bool ((v_3).toBool)) (H.past H_4)))
theorem t_eq (a0_0 : ByteArray) (a0_1 a0_2 a0_3 : Int) (a0_4 : ByteArray) (a1_0 a1_1 a1_2 : Int) (a1_3 a1_4 : ByteArray) (a1_5 : Int) (a1_6 : Bool) (a1_7 a1_8 : Int) (a1_9 : ByteArray) (a1_10 : Int) (a1_11 : List (List AV)) (a2 : Int) (H : Heap) (Q : Qt) : aBody E0 C 29 [.agg [.str a0_0, .int .i64 a0_1, .int .i64 a0_2, .int .i64 a0_3, .str a0_4], .agg [.int .i64 a1_0, .int .i64 a1_1, .int .i64 a1_2, .str a1_3, .str a1_4, .int .i64 a1_5, .bool a1_6, .int .i64 a1_7, .int .i64 a1_8, .str a1_9, .int .i64 a1_10, .sl 0 2 a1_11], .int .i64 a2] H Q = t a0_0 a0_1 a0_2 a0_3 a0_4 a1_0 a1_1 a1_2 a1_3 a1_4 a1_5 a1_6 a1_7 a1_8 a1_9 a1_10 a1_11 a2 H Q := by kernel_rfl
theorem call {a0_0 : ByteArray} {a0_1 a0_2 a0_3 : Int} {a0_4 : ByteArray} {a1_0 a1_1 a1_2 : Int} {a1_3 a1_4 : ByteArray} {a1_5 : Int} {a1_6 : Bool} {a1_7 a1_8 : Int} {a1_9 : ByteArray} {a1_10 : Int} {a1_11 : List (List AV)} {a2 : Int} {H : Heap} {Q : Qt} (h : t a0_0 a0_1 a0_2 a0_3 a0_4 a1_0 a1_1 a1_2 a1_3 a1_4 a1_5 a1_6 a1_7 a1_8 a1_9 a1_10 a1_11 a2 H Q) : C 29 [.agg [.str a0_0, .int .i64 a0_1, .int .i64 a0_2, .int .i64 a0_3, .str a0_4], .agg [.int .i64 a1_0, .int .i64 a1_1, .int .i64 a1_2, .str a1_3, .str a1_4, .int .i64 a1_5, .bool a1_6, .int .i64 a1_7, .int .i64 a1_8, .str a1_9, .int .i64 a1_10, .sl 0 2 a1_11], .int .i64 a2] H Q := Call_told (E := E0) (t_eq a0_0 a0_1 a0_2 a0_3 a0_4 a1_0 a1_1 a1_2 a1_3 a1_4 a1_5 a1_6 a1_7 a1_8 a1_9 a1_10 a1_11 a2 H Q) h
end F29
/-! ### broker/message.Get: function 30 -/
namespace F30
def K0 (Q : Qt) : Ex → St → Prop := (contK E0 C (E0.L 30) [.block 0 0, .seq (codeAt (bodyOf E0 30) [1, 1]) 1] (finK E0 30 Q))
def L0 (a0 : List (List AV)) (a1 : ByteArray) (Q : Qt) (x10 : Int) (Hh : Heap) : Prop := ALoop (fun K s => awp E0 C (E0.L 30) (codeAt (bodyOf E0 30) [1, 0, 1, 0, 0]) 1 s K) (clean [(1, 0), (8, 0), (9, 0), (10, 0)] 0) (K0 Q) ⟨stt 21 [(1, .str a1), (8, .sl 0 2 a0), (9, .int .i64 (lenI a0)), (10, .int .i64 x10)], [], Hh⟩
def r0 (a0 : List (List AV)) (a1 : ByteArray) (Q : Qt) (x10 : Int) (Hh : Heap) : Prop :=
  cond (ltI x10 (lenI a0))
  (G (leI 0 x10) (G (ltI x10 (lenI a0)) (G ((ce (ro a0 x10.toNat) 0).isStr) (G ((ce (ro a0 x10.toNat) 1).isStr) (cond (eqS ((ce (ro a0 x10.toNat) 0).toStr) a1)
    (Q (.tup [.str ((ce (ro a0 x10.toNat) 1).toStr), .bool true]) Hh)
    (L0 a0 a1 Q (addW .i64 x10 1) Hh))))))
  (Q (.tup [.str (⟨#[]⟩ : ByteArray), .bool false]) Hh)
theorem r0_eq (a0 : List (List AV)) (a1 : ByteArray) (Q : Qt) (x10 : Int) (Hh : Heap) : (fun K s => awp E0 C (E0.L 30) (codeAt (bodyOf E0 30) [1, 0, 1, 0, 0]) 1 s K) (ALoopK (fun K s => awp E0 C (E0.L 30) (codeAt (bodyOf E0 30) [1, 0, 1, 0, 0]) 1 s K) (clean [(1, 0), (8, 0), (9, 0), (10, 0)] 0) (K0 Q)) ⟨stt 21 [(1, .str a1), (8, .sl 0 2 a0), (9, .int .i64 (lenI a0)), (10, .int .i64 x10)], [], Hh⟩ = r0 a0 a1 Q x10 Hh := by kernel_rfl
theorem L0_step {a0 : List (List AV)} {a1 : ByteArray} {Q : Qt} {x10 : Int} {Hh : Heap} (h : r0 a0 a1 Q x10 Hh) : L0 a0 a1 Q x10 Hh := ALoop_told (r0_eq a0 a1 Q x10 Hh) h
def t (a0 : List (List AV)) (a1 : ByteArray) (H : Heap) (Q : Qt) : Prop :=
  L0 a0 a1 Q 0 H
theorem t_eq (a0 : List (List AV)) (a1 : ByteArray) (H : Heap) (Q : Qt) : aBody E0 C 30 [.sl 0 2 a0, .str a1] H Q = t a0 a1 H Q := by kernel_rfl
theorem call {a0 : List (List AV)} {a1 : ByteArray} {H : Heap} {Q : Qt} (h : t a0 a1 H Q) : C 30 [.sl 0 2 a0, .str a1] H Q := Call_told (E := E0) (t_eq a0 a1 H Q) h
end F30
/-! ### strings.Cut: function 31 -/
namespace F31
def t (a0 a1 : ByteArray) (H : Heap) (Q : Qt) : Prop :=
  C 46 [.str a0, .str a1] H.none fun v_1 H_2 =>
  G ((v_1).isTup && Nat.beq (v_1).tupVs.length 3) (G ((((v_1).tupVs).headD .any).isStr) (G (((((v_1).tupVs).tail).headD .any).isStr) (G ((((((v_1).tupVs).tail).tail).headD .any).isBool) (Q (.tup [.str ((((v_1).tupVs).headD .any).toStr), .str (((((v_1).tupVs).tail).headD .any).toStr), .bool ((((((v_1).tupVs).tail).tail).headD .any).toBool)]) (H.past H_2)))))
theorem t_eq (a0 a1 : ByteArray) (H : Heap) (Q : Qt) : aBody E0 C 31 [.str a0, .str a1] H Q = t a0 a1 H Q := by kernel_rfl
theorem call {a0 a1 : ByteArray} {H : Heap} {Q : Qt} (h : t a0 a1 H Q) : C 31 [.str a0, .str a1] H Q := Call_told (E := E0) (t_eq a0 a1 H Q) h
end F31
/-! ### broker/topic.Name: function 32 -/
namespace F32
def K0 (Q : Qt) : Ex → St → Prop := (contK E0 C (E0.L 32) [.block 0 1, .seq (codeAt (bodyOf E0 32) [1, 1, 1]) 1] (finK E0 32 Q))
def L0 (a0 : ByteArray) (Q : Qt) (it0 : Nat) (Hh : Heap) : Prop := ALoop (fun K s => awp E0 C (E0.L 32) (codeAt (bodyOf E0 32) [1, 1, 0, 1, 0, 0]) 1 s K) (clean [(15, 0)] 1) (K0 Q) ⟨stt 44 [(15, .ptr 0 0)], [.siter a0 it0], Hh⟩
def r0 (a0 : ByteArray) (Q : Qt) (it0 : Nat) (Hh : Heap) : Prop :=
  cond (Nat.blt it0 a0.size)
  (cond (leI 97 ((Utf8.decode a0 it0).1 : Int))
    (cond (!(leI ((Utf8.decode a0 it0).1 : Int) 122))
      (cond (eqI (it0 : Int) 0)
        (Q (.bool false) Hh)
        (cond (!(eqI ((Utf8.decode a0 it0).1 : Int) 45))
          (cond (ltI ((Utf8.decode a0 it0).1 : Int) 48)
            (Q (.bool false) Hh)
            (cond (ltI 57 ((Utf8.decode a0 it0).1 : Int))
              (Q (.bool false) Hh)
              (L0 a0 Q (it0 + (Utf8.decode a0 it0).2) Hh)))
          (L0 a0 Q (it0 + (Utf8.decode a0 it0).2) Hh)))
      (L0 a0 Q (it0 + (Utf8.decode a0 it0).2) Hh))
    (cond (eqI (it0 : Int) 0)
      (Q (.bool false) Hh)
      (cond (!(eqI ((Utf8.decode a0 it0).1 : Int) 45))
        (cond (ltI ((Utf8.decode a0 it0).1 : Int) 48)
          (Q (.bool false) Hh)
          (cond (ltI 57 ((Utf8.decode a0 it0).1 : Int))
            (Q (.bool false) Hh)
            (L0 a0 Q (it0 + (Utf8.decode a0 it0).2) Hh)))
        (L0 a0 Q (it0 + (Utf8.decode a0 it0).2) Hh))))
  (Q (.bool true) Hh)
theorem r0_eq (a0 : ByteArray) (Q : Qt) (it0 : Nat) (Hh : Heap) : (fun K s => awp E0 C (E0.L 32) (codeAt (bodyOf E0 32) [1, 1, 0, 1, 0, 0]) 1 s K) (ALoopK (fun K s => awp E0 C (E0.L 32) (codeAt (bodyOf E0 32) [1, 1, 0, 1, 0, 0]) 1 s K) (clean [(15, 0)] 1) (K0 Q)) ⟨stt 44 [(15, .ptr 0 0)], [.siter a0 it0], Hh⟩ = r0 a0 Q it0 Hh := by kernel_rfl
theorem L0_step {a0 : ByteArray} {Q : Qt} {it0 : Nat} {Hh : Heap} (h : r0 a0 Q it0 Hh) : L0 a0 Q it0 Hh := ALoop_told (r0_eq a0 Q it0 Hh) h
def t (a0 : ByteArray) (H : Heap) (Q : Qt) : Prop :=
  cond (ltI (sizeI a0) 1)
  (Q (.bool false) H)
  (cond (ltI 16 (sizeI a0))
    (Q (.bool false) H)
    (L0 a0 Q 0 H))
theorem t_eq (a0 : ByteArray) (H : Heap) (Q : Qt) : aBody E0 C 32 [.str a0] H Q = t a0 H Q := by kernel_rfl
theorem call {a0 : ByteArray} {H : Heap} {Q : Qt} (h : t a0 H Q) : C 32 [.str a0] H Q := Call_told (E := E0) (t_eq a0 H Q) h
end F32
/-! ### broker/brokerref28.get: function 33 -/
namespace F33
def K0 (Q : Qt) : Ex → St → Prop := (contK E0 C (E0.L 33) [.block 0 1, .seq (codeAt (bodyOf E0 33) [1, 1]) 1] (finK E0 33 Q))
def L0 (a0_0 a0_1 : ByteArray) (a0_2 : Int) (a0_3 : Bool) (a0_4 a0_5 : Int) (a0_6 : ByteArray) (a0_7 : Int) (a0_8 : List (List AV)) (a1 : ByteArray) (Q : Qt) (x10 : Int) (Hh : Heap) : Prop := ALoop (fun K s => awp E0 C (E0.L 33) (codeAt (bodyOf E0 33) [1, 0, 1, 0, 0]) 1 s K) (clean [(1, 0), (8, 0), (9, 0), (10, 0)] 1) (K0 Q) ⟨stt 21 [(1, .str a1), (8, .sl 0 2 a0_8), (9, .int .i64 (lenI a0_8)), (10, .int .i64 x10)], [.cells [.str a0_0, .str a0_1, .int .i64 a0_2, .bool a0_3, .int .i64 a0_4, .int .i64 a0_5, .str a0_6, .int .i64 a0_7, .sl 0 2 a0_8]], Hh⟩
def r0 (a0_0 a0_1 : ByteArray) (a0_2 : Int) (a0_3 : Bool) (a0_4 a0_5 : Int) (a0_6 : ByteArray) (a0_7 : Int) (a0_8 : List (List AV)) (a1 : ByteArray) (Q : Qt) (x10 : Int) (Hh : Heap) : Prop :=
  cond (ltI x10 (lenI a0_8))
  (G (leI 0 x10) (G (ltI x10 (lenI a0_8)) (G ((ce (ro a0_8 x10.toNat) 0).isStr) (G ((ce (ro a0_8 x10.toNat) 1).isStr) (cond (eqS ((ce (ro a0_8 x10.toNat) 0).toStr) a1)
    (Q (.str ((ce (ro a0_8 x10.toNat) 1).toStr)) Hh)
    (L0 a0_0 a0_1 a0_2 a0_3 a0_4 a0_5 a0_6 a0_7 a0_8 a1 Q (addW .i64 x10 1) Hh))))))
  (Q (.str (⟨#[]⟩ : ByteArray)) Hh)
theorem r0_eq (a0_0 a0_1 : ByteArray) (a0_2 : Int) (a0_3 : Bool) (a0_4 a0_5 : Int) (a0_6 : ByteArray) (a0_7 : Int) (a0_8 : List (List AV)) (a1 : ByteArray) (Q : Qt) (x10 : Int) (Hh : Heap) : (fun K s => awp E0 C (E0.L 33) (codeAt (bodyOf E0 33) [1, 0, 1, 0, 0]) 1 s K) (ALoopK (fun K s => awp E0 C (E0.L 33) (codeAt (bodyOf E0 33) [1, 0, 1, 0, 0]) 1 s K) (clean [(1, 0), (8, 0), (9, 0), (10, 0)] 1) (K0 Q)) ⟨stt 21 [(1, .str a1), (8, .sl 0 2 a0_8), (9, .int .i64 (lenI a0_8)), (10, .int .i64 x10)], [.cells [.str a0_0, .str a0_1, .int .i64 a0_2, .bool a0_3, .int .i64 a0_4, .int .i64 a0_5, .str a0_6, .int .i64 a0_7, .sl 0 2 a0_8]], Hh⟩ = r0 a0_0 a0_1 a0_2 a0_3 a0_4 a0_5 a0_6 a0_7 a0_8 a1 Q x10 Hh := by kernel_rfl
theorem L0_step {a0_0 a0_1 : ByteArray} {a0_2 : Int} {a0_3 : Bool} {a0_4 a0_5 : Int} {a0_6 : ByteArray} {a0_7 : Int} {a0_8 : List (List AV)} {a1 : ByteArray} {Q : Qt} {x10 : Int} {Hh : Heap} (h : r0 a0_0 a0_1 a0_2 a0_3 a0_4 a0_5 a0_6 a0_7 a0_8 a1 Q x10 Hh) : L0 a0_0 a0_1 a0_2 a0_3 a0_4 a0_5 a0_6 a0_7 a0_8 a1 Q x10 Hh := ALoop_told (r0_eq a0_0 a0_1 a0_2 a0_3 a0_4 a0_5 a0_6 a0_7 a0_8 a1 Q x10 Hh) h
def t (a0_0 a0_1 : ByteArray) (a0_2 : Int) (a0_3 : Bool) (a0_4 a0_5 : Int) (a0_6 : ByteArray) (a0_7 : Int) (a0_8 : List (List AV)) (a1 : ByteArray) (H : Heap) (Q : Qt) : Prop :=
  L0 a0_0 a0_1 a0_2 a0_3 a0_4 a0_5 a0_6 a0_7 a0_8 a1 Q 0 H
theorem t_eq (a0_0 a0_1 : ByteArray) (a0_2 : Int) (a0_3 : Bool) (a0_4 a0_5 : Int) (a0_6 : ByteArray) (a0_7 : Int) (a0_8 : List (List AV)) (a1 : ByteArray) (H : Heap) (Q : Qt) : aBody E0 C 33 [.agg [.str a0_0, .str a0_1, .int .i64 a0_2, .bool a0_3, .int .i64 a0_4, .int .i64 a0_5, .str a0_6, .int .i64 a0_7, .sl 0 2 a0_8], .str a1] H Q = t a0_0 a0_1 a0_2 a0_3 a0_4 a0_5 a0_6 a0_7 a0_8 a1 H Q := by kernel_rfl
theorem call {a0_0 a0_1 : ByteArray} {a0_2 : Int} {a0_3 : Bool} {a0_4 a0_5 : Int} {a0_6 : ByteArray} {a0_7 : Int} {a0_8 : List (List AV)} {a1 : ByteArray} {H : Heap} {Q : Qt} (h : t a0_0 a0_1 a0_2 a0_3 a0_4 a0_5 a0_6 a0_7 a0_8 a1 H Q) : C 33 [.agg [.str a0_0, .str a0_1, .int .i64 a0_2, .bool a0_3, .int .i64 a0_4, .int .i64 a0_5, .str a0_6, .int .i64 a0_7, .sl 0 2 a0_8], .str a1] H Q := Call_told (E := E0) (t_eq a0_0 a0_1 a0_2 a0_3 a0_4 a0_5 a0_6 a0_7 a0_8 a1 H Q) h
end F33
/-! ### broker/brokerref05.Check: function 35 -/
namespace F35
def JR7 (a0_0 a0_1 : ByteArray) (a0_2 : Int) (a0_3 : Bool) (a0_4 a0_5 : Int) (a0_6 : ByteArray) (a0_7 : Int) (a0_8 : List (List AV)) (Q : Qt) (x36 : Bool) (Hh : Heap) : Prop := AJoin (contK E0 C (E0.L 35) [.seq (codeAt (bodyOf E0 35) [1, 1, 1, 1, 0, 1]) 0, .seq (codeAt (bodyOf E0 35) [1, 1, 1, 1, 1]) 0] (finK E0 35 Q)) ⟨stt 57 [(1, .ptr 0 0), (36, .bool x36)], [.cells [.str a0_0, .str a0_1, .int .i64 a0_2, .bool a0_3, .int .i64 a0_4, .int .i64 a0_5, .str a0_6, .int .i64 a0_7, .sl 0 2 a0_8]], Hh⟩
def jR7 (a0_0 a0_1 : ByteArray) (a0_2 : Int) (a0_3 : Bool) (a0_4 a0_5 : Int) (a0_6 : ByteArray) (a0_7 : Int) (a0_8 : List (List AV)) (Q : Qt) (x36 : Bool) (Hh : Heap) : Prop :=
  cond x36
  (Q (.int .i64 1) Hh)
  (cond (!(eqS a0_6 (⟨#[]⟩ : ByteArray)))
    (C 25 [.str a0_6] Hh.none fun v_3 H_4 =>
      G ((v_3).isBool) (cond (!((v_3).toBool))
        (Q (.int .i64 11) (Hh.past H_4))
        (cond (ltI a0_7 0)
          (Q (.int .i64 1) (Hh.past H_4))
          (cond (ltI 1099511627776 a0_7)
            (Q (.int .i64 1) (Hh.past H_4))
            (C 49 [.sl 0 2 a0_8] ((Hh.past H_4).none) fun v_5 H_6 =>
              G ((v_5).isInt .i64) (Q (.int .i64 ((v_5).toInt)) (Hh.past H_6)))))))
    (cond (ltI a0_7 0)
      (Q (.int .i64 1) Hh)
      (cond (ltI 1099511627776 a0_7)
        (Q (.int .i64 1) Hh)
        (C 49 [.sl 0 2 a0_8] Hh.none fun v_7 H_8 =>
          G ((v_7).isInt .i64) (Q (.int .i64 ((v_7).toInt)) (Hh.past H_8))))))
theorem JR7_eq (a0_0 a0_1 : ByteArray) (a0_2 : Int) (a0_3 : Bool) (a0_4 a0_5 : Int) (a0_6 : ByteArray) (a0_7 : Int) (a0_8 : List (List AV)) (Q : Qt) (x36 : Bool) (Hh : Heap) : contK E0 C (E0.L 35) [.seq (codeAt (bodyOf E0 35) [1, 1, 1, 1, 0, 1]) 0, .seq (codeAt (bodyOf E0 35) [1, 1, 1, 1, 1]) 0] (finK E0 35 Q) .normal ⟨stt 57 [(1, .ptr 0 0), (36, .bool x36)], [.cells [.str a0_0, .str a0_1, .int .i64 a0_2, .bool a0_3, .int .i64 a0_4, .int .i64 a0_5, .str a0_6, .int .i64 a0_7, .sl 0 2 a0_8]], Hh⟩ = jR7 a0_0 a0_1 a0_2 a0_3 a0_4 a0_5 a0_6 a0_7 a0_8 Q x36 Hh := by kernel_rfl
theorem JR7_step {a0_0 a0_1 : ByteArray} {a0_2 : Int} {a0_3 : Bool} {a0_4 a0_5 : Int} {a0_6 : ByteArray} {a0_7 : Int} {a0_8 : List (List AV)} {Q : Qt} {x36 : Bool} {Hh : Heap} (h : jR7 a0_0 a0_1 a0_2 a0_3 a0_4 a0_5 a0_6 a0_7 a0_8 Q x36 Hh) : JR7 a0_0 a0_1 a0_2 a0_3 a0_4 a0_5 a0_6 a0_7 a0_8 Q x36 Hh := AJoin_told (JR7_eq a0_0 a0_1 a0_2 a0_3 a0_4 a0_5 a0_6 a0_7 a0_8 Q x36 Hh) h
def t (a0_0 a0_1 : ByteArray) (a0_2 : Int) (a0_3 : Bool) (a0_4 a0_5 : Int) (a0_6 : ByteArray) (a0_7 : Int) (a0_8 : List (List AV)) (H : Heap) (Q : Qt) : Prop :=
  C 48 [.str a0_0] H.none fun v_1 H_2 =>
  G ((v_1).isBool) (cond (!((v_1).toBool))
    (Q (.int .i64 12) (H.past H_2))
    (cond (ltI 256 (sizeI a0_1))
      (Q (.int .i64 5) (H.past H_2))
      (cond (ltI a0_2 0)
        (Q (.int .i64 14) (H.past H_2))
        (cond (ltI 2 a0_2)
          (Q (.int .i64 14) (H.past H_2))
          (cond (ltI a0_4 0)
            (JR7 a0_0 a0_1 a0_2 a0_3 a0_4 a0_5 a0_6 a0_7 a0_8 Q true (H.past H_2))
            (cond (ltI 9 a0_4)
              (JR7 a0_0 a0_1 a0_2 a0_3 a0_4 a0_5 a0_6 a0_7 a0_8 Q true (H.past H_2))
              (cond (ltI a0_5 0)
                (JR7 a0_0 a0_1 a0_2 a0_3 a0_4 a0_5 a0_6 a0_7 a0_8 Q true (H.past H_2))
                (JR7 a0_0 a0_1 a0_2 a0_3 a0_4 a0_5 a0_6 a0_7 a0_8 Q (ltI 1099511627776 a0_5) (H.past H_2)))))))))
theorem t_eq (a0_0 a0_1 : ByteArray) (a0_2 : Int) (a0_3 : Bool) (a0_4 a0_5 : Int) (a0_6 : ByteArray) (a0_7 : Int) (a0_8 : List (List AV)) (H : Heap) (Q : Qt) : aBody E0 C 35 [.agg [.str a0_0, .str a0_1, .int .i64 a0_2, .bool a0_3, .int .i64 a0_4, .int .i64 a0_5, .str a0_6, .int .i64 a0_7, .sl 0 2 a0_8]] H Q = t a0_0 a0_1 a0_2 a0_3 a0_4 a0_5 a0_6 a0_7 a0_8 H Q := by kernel_rfl
theorem call {a0_0 a0_1 : ByteArray} {a0_2 : Int} {a0_3 : Bool} {a0_4 a0_5 : Int} {a0_6 : ByteArray} {a0_7 : Int} {a0_8 : List (List AV)} {H : Heap} {Q : Qt} (h : t a0_0 a0_1 a0_2 a0_3 a0_4 a0_5 a0_6 a0_7 a0_8 H Q) : C 35 [.agg [.str a0_0, .str a0_1, .int .i64 a0_2, .bool a0_3, .int .i64 a0_4, .int .i64 a0_5, .str a0_6, .int .i64 a0_7, .sl 0 2 a0_8]] H Q := Call_told (E := E0) (t_eq a0_0 a0_1 a0_2 a0_3 a0_4 a0_5 a0_6 a0_7 a0_8 H Q) h
end F35
/-! ### broker/dead.with: function 36 -/
namespace F36
def K0 (Q : Qt) : Ex → St → Prop := (contK E0 C (E0.L 36) [.block 0 0, .seq (codeAt (bodyOf E0 36) [1, 1, 1]) 1] (finK E0 36 Q))
def L0 (a0 a1 : List (List AV)) (Q : Qt) (x5out : List (List AV)) (x11 : Int) (Hh : Heap) : Prop := ALoop (fun K s => awp E0 C (E0.L 36) (codeAt (bodyOf E0 36) [1, 1, 0, 1, 0, 0]) 1 s K) (clean [(1, 0), (5, 4), (9, 0), (10, 0), (11, 0)] 0) (K0 Q) ⟨stt 39 [(1, .sl 0 2 a1), (5, .sl 1 2 x5out), (9, .sl 0 2 a0), (10, .int .i64 (lenI a0)), (11, .int .i64 x11)], [], Hh⟩
def r0 (a0 a1 : List (List AV)) (Q : Qt) (x5out : List (List AV)) (x11 : Int) (Hh : Heap) : Prop :=
  cond (ltI x11 (lenI a0))
  (G (leI 0 x11) (G (ltI x11 (lenI a0)) (G ((ce (ro a0 x11.toNat) 0).isStr) (G ((ce (ro a0 x11.toNat) 1).isStr) (C 50 [.sl 0 2 a1, .fn 51 [.rp [.str ((ce (ro a0 x11.toNat) 0).toStr), .str ((ce (ro a0 x11.toNat) 1).toStr)] 0]] Hh.none fun v_1 H_2 =>
    G ((v_1).isBool) (cond (!((v_1).toBool))
      (cond (ltI (addW .i64 (lenI x5out) (lenI a1)) 8)
        (G (room x5out [[.str ((ce (ro a0 x11.toNat) 0).toStr), .str ((ce (ro a0 x11.toNat) 1).toStr)]] 32) (L0 a0 a1 Q (x5out ++ [[.str ((ce (ro a0 x11.toNat) 0).toStr), .str ((ce (ro a0 x11.toNat) 1).toStr)]]) (addW .i64 x11 1) (Hh.past H_2)))
        (L0 a0 a1 Q x5out (addW .i64 x11 1) (Hh.past H_2)))
      (L0 a0 a1 Q x5out (addW .i64 x11 1) (Hh.past H_2))))))))
  (G (room x5out a1 32) (ioTurn C 52 2 (x5out ++ a1) [.fn 53 []] Hh fun y_3 H_4 =>
    Q (.sl 0 2 y_3) H_4))
theorem r0_eq (a0 a1 : List (List AV)) (Q : Qt) (x5out : List (List AV)) (x11 : Int) (Hh : Heap) : (fun K s => awp E0 C (E0.L 36) (codeAt (bodyOf E0 36) [1, 1, 0, 1, 0, 0]) 1 s K) (ALoopK (fun K s => awp E0 C (E0.L 36) (codeAt (bodyOf E0 36) [1, 1, 0, 1, 0, 0]) 1 s K) (clean [(1, 0), (5, 4), (9, 0), (10, 0), (11, 0)] 0) (K0 Q)) ⟨stt 39 [(1, .sl 0 2 a1), (5, .sl 1 2 x5out), (9, .sl 0 2 a0), (10, .int .i64 (lenI a0)), (11, .int .i64 x11)], [], Hh⟩ = r0 a0 a1 Q x5out x11 Hh := by kernel_rfl
theorem L0_step {a0 a1 : List (List AV)} {Q : Qt} {x5out : List (List AV)} {x11 : Int} {Hh : Heap} (h : r0 a0 a1 Q x5out x11 Hh) : L0 a0 a1 Q x5out x11 Hh := ALoop_told (r0_eq a0 a1 Q x5out x11 Hh) h
def t (a0 a1 : List (List AV)) (H : Heap) (Q : Qt) : Prop :=
  L0 a0 a1 Q [] 0 H
theorem t_eq (a0 a1 : List (List AV)) (H : Heap) (Q : Qt) : aBody E0 C 36 [.sl 0 2 a0, .sl 0 2 a1] H Q = t a0 a1 H Q := by kernel_rfl
theorem call {a0 a1 : List (List AV)} {H : Heap} {Q : Qt} (h : t a0 a1 H Q) : C 36 [.sl 0 2 a0, .sl 0 2 a1] H Q := Call_told (E := E0) (t_eq a0 a1 H Q) h
end F36
/-! ### broker/topic.Valid: function 37 -/
namespace F37
def K0 (Q : Qt) : Ex → St → Prop := (contK E0 C (E0.L 37) [.block 0 1, .seq (codeAt (bodyOf E0 37) [1, 1, 1]) 1] (finK E0 37 Q))
def L0 (a0 : ByteArray) (Q : Qt) (it0 : Nat) (Hh : Heap) : Prop := ALoop (fun K s => awp E0 C (E0.L 37) (codeAt (bodyOf E0 37) [1, 1, 0, 1, 0, 0]) 1 s K) (clean [(9, 0)] 1) (K0 Q) ⟨stt 19 [(9, .ptr 0 0)], [.siter a0 it0], Hh⟩
def r0 (a0 : ByteArray) (Q : Qt) (it0 : Nat) (Hh : Heap) : Prop :=
  cond (Nat.blt it0 a0.size)
  (cond (eqI ((Utf8.decode a0 it0).1 : Int) 43)
    (Q (.bool false) Hh)
    (cond (eqI ((Utf8.decode a0 it0).1 : Int) 35)
      (Q (.bool false) Hh)
      (L0 a0 Q (it0 + (Utf8.decode a0 it0).2) Hh)))
  (Q (.bool true) Hh)
theorem r0_eq (a0 : ByteArray) (Q : Qt) (it0 : Nat) (Hh : Heap) : (fun K s => awp E0 C (E0.L 37) (codeAt (bodyOf E0 37) [1, 1, 0, 1, 0, 0]) 1 s K) (ALoopK (fun K s => awp E0 C (E0.L 37) (codeAt (bodyOf E0 37) [1, 1, 0, 1, 0, 0]) 1 s K) (clean [(9, 0)] 1) (K0 Q)) ⟨stt 19 [(9, .ptr 0 0)], [.siter a0 it0], Hh⟩ = r0 a0 Q it0 Hh := by kernel_rfl
theorem L0_step {a0 : ByteArray} {Q : Qt} {it0 : Nat} {Hh : Heap} (h : r0 a0 Q it0 Hh) : L0 a0 Q it0 Hh := ALoop_told (r0_eq a0 Q it0 Hh) h
def t (a0 : ByteArray) (H : Heap) (Q : Qt) : Prop :=
  C 55 [.str a0] H.none fun v_1 H_2 =>
  G ((v_1).isBool) (cond (!((v_1).toBool))
    (Q (.bool false) (H.past H_2))
    (L0 a0 Q 0 (H.past H_2)))
theorem t_eq (a0 : ByteArray) (H : Heap) (Q : Qt) : aBody E0 C 37 [.str a0] H Q = t a0 H Q := by kernel_rfl
theorem call {a0 : ByteArray} {H : Heap} {Q : Qt} (h : t a0 H Q) : C 37 [.str a0] H Q := Call_told (E := E0) (t_eq a0 H Q) h
end F37
/-! ### broker/message.is: function 38 -/
namespace F38
def t (a0 a1 : Int) (H : Heap) (Q : Qt) : Prop :=
  cond (leI 0 a0)
  (Q (.bool (leI a0 a1)) H)
  (Q (.bool false) H)
theorem t_eq (a0 a1 : Int) (H : Heap) (Q : Qt) : aBody E0 C 38 [.int .i64 a0, .int .i64 a1] H Q = t a0 a1 H Q := by kernel_rfl
theorem call {a0 a1 : Int} {H : Heap} {Q : Qt} (h : t a0 a1 H Q) : C 38 [.int .i64 a0, .int .i64 a1] H Q := Call_told (E := E0) (t_eq a0 a1 H Q) h
end F38
/-! ### broker/message.Props: function 39 -/
namespace F39
def K0 (Q : Qt) : Ex → St → Prop := (contK E0 C (E0.L 39) [.block 0 0, .seq (codeAt (bodyOf E0 39) [1, 1, 1]) 1] (finK E0 39 Q))
def L0 (a0 : List (List AV)) (Q : Qt) (x10 : Int) (Hh : Heap) : Prop := ALoop (fun K s => awp E0 C (E0.L 39) (codeAt (bodyOf E0 39) [1, 1, 0, 1, 0, 0]) 1 s K) (clean [(0, 0), (8, 0), (9, 0), (10, 0)] 0) (K0 Q) ⟨stt 40 [(0, .sl 0 2 a0), (8, .sl 0 2 a0), (9, .int .i64 (lenI a0)), (10, .int .i64 x10)], [], Hh⟩
def r0 (a0 : List (List AV)) (Q : Qt) (x10 : Int) (Hh : Heap) : Prop :=
  cond (ltI x10 (lenI a0))
  (G (leI 0 x10) (G (ltI x10 (lenI a0)) (G ((ce (ro a0 x10.toNat) 0).isStr) (G ((ce (ro a0 x10.toNat) 1).isStr) (C 56 [.str ((ce (ro a0 x10.toNat) 0).toStr)] Hh.none fun v_1 H_2 =>
    G ((v_1).isBool) (cond (!((v_1).toBool))
      (Q (.int .i64 16) (Hh.past H_2))
      (cond (ltI 160 (sizeI ((ce (ro a0 x10.toNat) 1).toStr)))
        (Q (.int .i64 5) (Hh.past H_2))
        (cond (ltI 0 x10)
          (G (leI 0 (subW .i64 x10 1)) (G (ltI (subW .i64 x10 1) (lenI a0)) (G ((ce (ro a0 ((subW .i64 x10 1).toNat)) 0).isStr) (cond (!(ltS ((ce (ro a0 ((subW .i64 x10 1).toNat)) 0).toStr) ((ce (ro a0 x10.toNat) 0).toStr)))
            (Q (.int .i64 16) (Hh.past H_2))
            (L0 a0 Q (addW .i64 x10 1) (Hh.past H_2))))))
          (L0 a0 Q (addW .i64 x10 1) (Hh.past H_2))))))))))
  (Q (.int .i64 0) Hh)
theorem r0_eq (a0 : List (List AV)) (Q : Qt) (x10 : Int) (Hh : Heap) : (fun K s => awp E0 C (E0.L 39) (codeAt (bodyOf E0 39) [1, 1, 0, 1, 0, 0]) 1 s K) (ALoopK (fun K s => awp E0 C (E0.L 39) (codeAt (bodyOf E0 39) [1, 1, 0, 1, 0, 0]) 1 s K) (clean [(0, 0), (8, 0), (9, 0), (10, 0)] 0) (K0 Q)) ⟨stt 40 [(0, .sl 0 2 a0), (8, .sl 0 2 a0), (9, .int .i64 (lenI a0)), (10, .int .i64 x10)], [], Hh⟩ = r0 a0 Q x10 Hh := by kernel_rfl
theorem L0_step {a0 : List (List AV)} {Q : Qt} {x10 : Int} {Hh : Heap} (h : r0 a0 Q x10 Hh) : L0 a0 Q x10 Hh := ALoop_told (r0_eq a0 Q x10 Hh) h
def t (a0 : List (List AV)) (H : Heap) (Q : Qt) : Prop :=
  cond (ltI 8 (lenI a0))
  (Q (.int .i64 5) H)
  (L0 a0 Q 0 H)
theorem t_eq (a0 : List (List AV)) (H : Heap) (Q : Qt) : aBody E0 C 39 [.sl 0 2 a0] H Q = t a0 H Q := by kernel_rfl
theorem call {a0 : List (List AV)} {H : Heap} {Q : Qt} (h : t a0 H Q) : C 39 [.sl 0 2 a0] H Q := Call_told (E := E0) (t_eq a0 H Q) h
end F39
/-! ### broker/brokerref05.SameProps: function 40 -/
namespace F40
def K0 (Q : Qt) : Ex → St → Prop := (contK E0 C (E0.L 40) [.block 0 0, .seq (codeAt (bodyOf E0 40) [1, 1, 1]) 1] (finK E0 40 Q))
def L0 (a0 a1 : List (List AV)) (Q : Qt) (x5i : Int) (Hh : Heap) : Prop := ALoop (fun K s => awp E0 C (E0.L 40) (codeAt (bodyOf E0 40) [1, 1, 0, 1, 0, 0]) 1 s K) (clean [(0, 0), (1, 0), (5, 0)] 0) (K0 Q) ⟨stt 26 [(0, .sl 0 2 a0), (1, .sl 0 2 a1), (5, .int .i64 x5i)], [], Hh⟩
def r0 (a0 a1 : List (List AV)) (Q : Qt) (x5i : Int) (Hh : Heap) : Prop :=
  cond (ltI x5i (lenI a0))
  (G (leI 0 x5i) (G (ltI x5i (lenI a0)) (G ((ce (ro a0 x5i.toNat) 0).isStr) (G ((ce (ro a0 x5i.toNat) 1).isStr) (G (leI 0 x5i) (G (ltI x5i (lenI a1)) (G ((ce (ro a1 x5i.toNat) 0).isStr) (G ((ce (ro a1 x5i.toNat) 1).isStr) (cond (!((eqS ((ce (ro a0 x5i.toNat) 0).toStr) ((ce (ro a1 x5i.toNat) 0).toStr)) && ((eqS ((ce (ro a0 x5i.toNat) 1).toStr) ((ce (ro a1 x5i.toNat) 1).toStr)) && true)))
    (Q (.bool false) Hh)
    (L0 a0 a1 Q (addW .i64 x5i 1) Hh))))))))))
  (Q (.bool true) Hh)
theorem r0_eq (a0 a1 : List (List AV)) (Q : Qt) (x5i : Int) (Hh : Heap) : (fun K s => awp E0 C (E0.L 40) (codeAt (bodyOf E0 40) [1, 1, 0, 1, 0, 0]) 1 s K) (ALoopK (fun K s => awp E0 C (E0.L 40) (codeAt (bodyOf E0 40) [1, 1, 0, 1, 0, 0]) 1 s K) (clean [(0, 0), (1, 0), (5, 0)] 0) (K0 Q)) ⟨stt 26 [(0, .sl 0 2 a0), (1, .sl 0 2 a1), (5, .int .i64 x5i)], [], Hh⟩ = r0 a0 a1 Q x5i Hh := by kernel_rfl
theorem L0_step {a0 a1 : List (List AV)} {Q : Qt} {x5i : Int} {Hh : Heap} (h : r0 a0 a1 Q x5i Hh) : L0 a0 a1 Q x5i Hh := ALoop_told (r0_eq a0 a1 Q x5i Hh) h
def t (a0 a1 : List (List AV)) (H : Heap) (Q : Qt) : Prop :=
  cond (!(eqI (lenI a0) (lenI a1)))
  (Q (.bool false) H)
  (L0 a0 a1 Q 0 H)
theorem t_eq (a0 a1 : List (List AV)) (H : Heap) (Q : Qt) : aBody E0 C 40 [.sl 0 2 a0, .sl 0 2 a1] H Q = t a0 a1 H Q := by kernel_rfl
theorem call {a0 a1 : List (List AV)} {H : Heap} {Q : Qt} (h : t a0 a1 H Q) : C 40 [.sl 0 2 a0, .sl 0 2 a1] H Q := Call_told (E := E0) (t_eq a0 a1 H Q) h
end F40
/-! ### broker/brokerref28.put: function 41h -/
namespace F41h
def K0 (Q : Qt) : Ex → St → Prop := (contK E0 C (E0.L 41) [.block 0 1, .seq (codeAt (bodyOf E0 41) [1, 1, 1]) 1] (finK E0 41 Q))
def L0 (a0j a0n a0c : Nat) (a1_0 a1_1 : ByteArray) (Q : Qt) (x5at : Int) (Hh : Heap) : Prop := ALoop (fun K s => awp E0 C (E0.L 41) (codeAt (bodyOf E0 41) [1, 1, 0, 0, 0]) 1 s K) (clean [(0, 0), (3, 0), (5, 0)] 1) (K0 Q) ⟨stt 27 [(0, .hs a0j 0 a0n a0c 2), (3, .ptr 0 0), (5, .int .i64 x5at)], [.cells [.str a1_0, .str a1_1]], Hh⟩
def r0 (a0j a0n a0c : Nat) (a1_0 a1_1 : ByteArray) (Q : Qt) (x5at : Int) (Hh : Heap) : Prop :=
  cond (ltI x5at ((a0n : Nat) : Int))
  (G (leI 0 x5at) (G (ltI x5at ((a0n : Nat) : Int)) (G ((Hh.get a0j).isRows 2) (G ((ce ((Hh.get a0j).xs.getD (0 + x5at.toNat) []) 0).isStr) (cond (ltS ((ce ((Hh.get a0j).xs.getD (0 + x5at.toNat) []) 0).toStr) a1_0)
    (L0 a0j a0n a0c a1_0 a1_1 Q (addW .i64 x5at 1) Hh)
    (C 57 [.hs a0j 0 a0n a0c 2, .int .i64 x5at, .sl 0 2 [[.str a1_0, .str a1_1]]] Hh fun v_1 H_2 =>
      G ((v_1).isHs 2) (Q (.hs ((v_1).hsJ) ((v_1).hsO) ((v_1).hsN) ((v_1).hsC) 2) H_2)))))))
  (C 57 [.hs a0j 0 a0n a0c 2, .int .i64 x5at, .sl 0 2 [[.str a1_0, .str a1_1]]] Hh fun v_3 H_4 =>
    G ((v_3).isHs 2) (Q (.hs ((v_3).hsJ) ((v_3).hsO) ((v_3).hsN) ((v_3).hsC) 2) H_4))
theorem r0_eq (a0j a0n a0c : Nat) (a1_0 a1_1 : ByteArray) (Q : Qt) (x5at : Int) (Hh : Heap) : (fun K s => awp E0 C (E0.L 41) (codeAt (bodyOf E0 41) [1, 1, 0, 0, 0]) 1 s K) (ALoopK (fun K s => awp E0 C (E0.L 41) (codeAt (bodyOf E0 41) [1, 1, 0, 0, 0]) 1 s K) (clean [(0, 0), (3, 0), (5, 0)] 1) (K0 Q)) ⟨stt 27 [(0, .hs a0j 0 a0n a0c 2), (3, .ptr 0 0), (5, .int .i64 x5at)], [.cells [.str a1_0, .str a1_1]], Hh⟩ = r0 a0j a0n a0c a1_0 a1_1 Q x5at Hh := by kernel_rfl
theorem L0_step {a0j a0n a0c : Nat} {a1_0 a1_1 : ByteArray} {Q : Qt} {x5at : Int} {Hh : Heap} (h : r0 a0j a0n a0c a1_0 a1_1 Q x5at Hh) : L0 a0j a0n a0c a1_0 a1_1 Q x5at Hh := ALoop_told (r0_eq a0j a0n a0c a1_0 a1_1 Q x5at Hh) h
def t (a0j a0n a0c : Nat) (a1_0 a1_1 : ByteArray) (H : Heap) (Q : Qt) : Prop :=
  L0 a0j a0n a0c a1_0 a1_1 Q 0 H
theorem t_eq (a0j a0n a0c : Nat) (a1_0 a1_1 : ByteArray) (H : Heap) (Q : Qt) : aBody E0 C 41 [.hs a0j 0 a0n a0c 2, .agg [.str a1_0, .str a1_1]] H Q = t a0j a0n a0c a1_0 a1_1 H Q := by kernel_rfl
theorem call {a0j a0n a0c : Nat} {a1_0 a1_1 : ByteArray} {H : Heap} {Q : Qt} (h : t a0j a0n a0c a1_0 a1_1 H Q) : C 41 [.hs a0j 0 a0n a0c 2, .agg [.str a1_0, .str a1_1]] H Q := Call_told (E := E0) (t_eq a0j a0n a0c a1_0 a1_1 H Q) h
end F41h
/-! ### broker/brokerref28.put: function 41n -/
namespace F41n
def K0 (Q : Qt) : Ex → St → Prop := (contK E0 C (E0.L 41) [.block 0 1, .seq (codeAt (bodyOf E0 41) [1, 1, 1]) 1] (finK E0 41 Q))
def L0 (a1_0 a1_1 : ByteArray) (Q : Qt) (Hh : Heap) : Prop := ALoop (fun K s => awp E0 C (E0.L 41) (codeAt (bodyOf E0 41) [1, 1, 0, 0, 0]) 1 s K) (clean [(0, 0), (3, 0), (5, 0)] 1) (K0 Q) ⟨stt 27 [(0, .nilsl), (3, .ptr 0 0), (5, .int .i64 0)], [.cells [.str a1_0, .str a1_1]], Hh⟩
def r0 (a1_0 a1_1 : ByteArray) (Q : Qt) (Hh : Heap) : Prop :=
  C 57 [.nilsl, .int .i64 0, .sl 0 2 [[.str a1_0, .str a1_1]]] Hh fun v_1 H_2 =>
  G ((v_1).isOwn 2) (Q (.sl 1 2 ((v_1).slXs)) H_2)
theorem r0_eq (a1_0 a1_1 : ByteArray) (Q : Qt) (Hh : Heap) : (fun K s => awp E0 C (E0.L 41) (codeAt (bodyOf E0 41) [1, 1, 0, 0, 0]) 1 s K) (ALoopK (fun K s => awp E0 C (E0.L 41) (codeAt (bodyOf E0 41) [1, 1, 0, 0, 0]) 1 s K) (clean [(0, 0), (3, 0), (5, 0)] 1) (K0 Q)) ⟨stt 27 [(0, .nilsl), (3, .ptr 0 0), (5, .int .i64 0)], [.cells [.str a1_0, .str a1_1]], Hh⟩ = r0 a1_0 a1_1 Q Hh := by kernel_rfl
theorem L0_step {a1_0 a1_1 : ByteArray} {Q : Qt} {Hh : Heap} (h : r0 a1_0 a1_1 Q Hh) : L0 a1_0 a1_1 Q Hh := ALoop_told (r0_eq a1_0 a1_1 Q Hh) h
def t (a1_0 a1_1 : ByteArray) (H : Heap) (Q : Qt) : Prop :=
  L0 a1_0 a1_1 Q H
theorem t_eq (a1_0 a1_1 : ByteArray) (H : Heap) (Q : Qt) : aBody E0 C 41 [.nilsl, .agg [.str a1_0, .str a1_1]] H Q = t a1_0 a1_1 H Q := by kernel_rfl
theorem call {a1_0 a1_1 : ByteArray} {H : Heap} {Q : Qt} (h : t a1_0 a1_1 H Q) : C 41 [.nilsl, .agg [.str a1_0, .str a1_1]] H Q := Call_told (E := E0) (t_eq a1_0 a1_1 H Q) h
end F41n
/-! ### broker/brokerref01.lower: function 42 -/
namespace F42
def t (a0 : Int) (H : Heap) (Q : Qt) : Prop :=
  cond (leI 97 a0)
  (Q (.bool (leI a0 122)) H)
  (Q (.bool false) H)
theorem t_eq (a0 : Int) (H : Heap) (Q : Qt) : aBody E0 C 42 [.int .u8 a0] H Q = t a0 H Q := by kernel_rfl
theorem call {a0 : Int} {H : Heap} {Q : Qt} (h : t a0 H Q) : C 42 [.int .u8 a0] H Q := Call_told (E := E0) (t_eq a0 H Q) h
end F42
/-! ### broker/brokerref01.digit: function 43 -/
namespace F43
def t (a0 : Int) (H : Heap) (Q : Qt) : Prop :=
  cond (leI 48 a0)
  (Q (.bool (leI a0 57)) H)
  (Q (.bool false) H)
theorem t_eq (a0 : Int) (H : Heap) (Q : Qt) : aBody E0 C 43 [.int .u8 a0] H Q = t a0 H Q := by kernel_rfl
theorem call {a0 : Int} {H : Heap} {Q : Qt} (h : t a0 H Q) : C 43 [.int .u8 a0] H Q := Call_told (E := E0) (t_eq a0 H Q) h
end F43
/-! ### strings.genSplit: function 44 -/
namespace F44
def K0 (Q : Qt) : Ex → St → Prop := (contK E0 C (E0.L 44) [.block 0 0, .seq (codeAt (bodyOf E0 44) [1, 1, 1, 1, 1, 1, 1, 1, 1]) 1] (finK E0 44 Q))
def L0 (a0 a1 : ByteArray) (a2 a3 : Int) (Q : Qt) (x0s : ByteArray) (x3n : Int) (x9a : List (List AV)) (x10i : Int) (Hh : Heap) : Prop := ALoop (fun K s => awp E0 C (E0.L 44) (codeAt (bodyOf E0 44) [1, 1, 1, 1, 1, 1, 1, 1, 0, 0, 0]) 1 s K) (clean [(0, 0), (1, 0), (2, 0), (3, 0), (9, 0), (10, 0)] 0) (K0 Q) ⟨stt 66 [(0, .str x0s), (1, .str a1), (2, .int .i64 a2), (3, .int .i64 x3n), (9, .sl 1 1 x9a), (10, .int .i64 x10i)], [], Hh⟩
def r0 (a0 a1 : ByteArray) (a2 a3 : Int) (Q : Qt) (x0s : ByteArray) (x3n : Int) (x9a : List (List AV)) (x10i : Int) (Hh : Heap) : Prop :=
  cond (ltI x10i x3n)
  (C 60 [.str x0s, .str a1] Hh.none fun v_5 H_6 =>
    G ((v_5).isInt .i64) (cond (ltI ((v_5).toInt) 0)
      (G (leI 0 x10i) (G (ltI x10i (lenI x9a)) (G (leI 0 (addW .i64 x10i 1)) (G (leI (addW .i64 x10i 1) (addW .i64 x10i 1)) (G (leI (addW .i64 x10i 1) (lenI (x9a.set x10i.toNat ((ro x9a x10i.toNat).set 0 (.str x0s))))) (Q (.sl 0 1 (((x9a.set x10i.toNat ((ro x9a x10i.toNat).set 0 (.str x0s))).take ((addW .i64 x10i 1).toNat)).drop 0)) (Hh.past H_6)))))))
      (G (leI 0 (addW .i64 ((v_5).toInt) a2)) (G (leI (addW .i64 ((v_5).toInt) a2) (sizeI x0s)) (G (leI 0 x10i) (G (ltI x10i (lenI x9a)) (G (leI 0 (addW .i64 ((v_5).toInt) (sizeI a1))) (G (leI (addW .i64 ((v_5).toInt) (sizeI a1)) (sizeI x0s)) (G (leI (sizeI x0s) (sizeI x0s)) (L0 a0 a1 a2 a3 Q (x0s.extract ((addW .i64 ((v_5).toInt) (sizeI a1)).toNat) ((sizeI x0s).toNat)) x3n (x9a.set x10i.toNat ((ro x9a x10i.toNat).set 0 (.str (x0s.extract 0 ((addW .i64 ((v_5).toInt) a2).toNat))))) (addW .i64 x10i 1) (Hh.past H_6)))))))))))
  (G (leI 0 x10i) (G (ltI x10i (lenI x9a)) (G (leI 0 (addW .i64 x10i 1)) (G (leI (addW .i64 x10i 1) (addW .i64 x10i 1)) (G (leI (addW .i64 x10i 1) (lenI (x9a.set x10i.toNat ((ro x9a x10i.toNat).set 0 (.str x0s))))) (Q (.sl 0 1 (((x9a.set x10i.toNat ((ro x9a x10i.toNat).set 0 (.str x0s))).take ((addW .i64 x10i 1).toNat)).drop 0)) Hh))))))
theorem r0_eq (a0 a1 : ByteArray) (a2 a3 : Int) (Q : Qt) (x0s : ByteArray) (x3n : Int) (x9a : List (List AV)) (x10i : Int) (Hh : Heap) : (fun K s => awp E0 C (E0.L 44) (codeAt (bodyOf E0 44) [1, 1, 1, 1, 1, 1, 1, 1, 0, 0, 0]) 1 s K) (ALoopK (fun K s => awp E0 C (E0.L 44) (codeAt (bodyOf E0 44) [1, 1, 1, 1, 1, 1, 1, 1, 0, 0, 0]) 1 s K) (clean [(0, 0), (1, 0), (2, 0), (3, 0), (9, 0), (10, 0)] 0) (K0 Q)) ⟨stt 66 [(0, .str x0s), (1, .str a1), (2, .int .i64 a2), (3, .int .i64 x3n), (9, .sl 1 1 x9a), (10, .int .i64 x10i)], [], Hh⟩ = r0 a0 a1 a2 a3 Q x0s x3n x9a x10i Hh := by kernel_rfl
theorem L0_step {a0 a1 : ByteArray} {a2 a3 : Int} {Q : Qt} {x0s : ByteArray} {x3n : Int} {x9a : List (List AV)} {x10i : Int} {Hh : Heap} (h : r0 a0 a1 a2 a3 Q x0s x3n x9a x10i Hh) : L0 a0 a1 a2 a3 Q x0s x3n x9a x10i Hh := ALoop_told (r0_eq a0 a1 a2 a3 Q x0s x3n x9a x10i Hh) h
def t (a0 a1 : ByteArray) (a2 a3 : Int) (H : Heap) (Q : Qt) : Prop :=
  cond (eqI a3 0)
  (Q (.nilsl) H)
  (cond (eqS a1 (⟨#[]⟩ : ByteArray))
    (C 58 [.str a0, .int .i64 a3] H.none fun v_1 H_2 =>
      G ((v_1).isSl 1) (Q (.sl 0 1 ((v_1).slXs)) (H.past H_2)))
    (cond (ltI a3 0)
      (C 59 [.str a0, .str a1] H.none fun v_3 H_4 =>
        G ((v_3).isInt .i64) (G (leI 0 (cond (ltI (addW .i64 (sizeI a0) 1) (addW .i64 ((v_3).toInt) 1)) (addW .i64 (sizeI a0) 1) (addW .i64 ((v_3).toInt) 1))) (G (eqI (cond (ltI (addW .i64 (sizeI a0) 1) (addW .i64 ((v_3).toInt) 1)) (addW .i64 (sizeI a0) 1) (addW .i64 ((v_3).toInt) 1)) (cond (ltI (addW .i64 (sizeI a0) 1) (addW .i64 ((v_3).toInt) 1)) (addW .i64 (sizeI a0) 1) (addW .i64 ((v_3).toInt) 1))) (G (roomN (cond (ltI (addW .i64 (sizeI a0) 1) (addW .i64 ((v_3).toInt) 1)) (addW .i64 (sizeI a0) 1) (addW .i64 ((v_3).toInt) 1)) 16) (L0 a0 a1 a2 a3 Q a0 (subW .i64 (cond (ltI (addW .i64 (sizeI a0) 1) (addW .i64 ((v_3).toInt) 1)) (addW .i64 (sizeI a0) 1) (addW .i64 ((v_3).toInt) 1)) 1) (List.replicate ((cond (ltI (addW .i64 (sizeI a0) 1) (addW .i64 ((v_3).toInt) 1)) (addW .i64 (sizeI a0) 1) (addW .i64 ((v_3).toInt) 1)).toNat) ([.str (⟨#[]⟩ : ByteArray)] : List AV)) 0 (H.past H_4))))))
      (G (leI 0 (cond (ltI (addW .i64 (sizeI a0) 1) a3) (addW .i64 (sizeI a0) 1) a3)) (G (eqI (cond (ltI (addW .i64 (sizeI a0) 1) a3) (addW .i64 (sizeI a0) 1) a3) (cond (ltI (addW .i64 (sizeI a0) 1) a3) (addW .i64 (sizeI a0) 1) a3)) (G (roomN (cond (ltI (addW .i64 (sizeI a0) 1) a3) (addW .i64 (sizeI a0) 1) a3) 16) (L0 a0 a1 a2 a3 Q a0 (subW .i64 (cond (ltI (addW .i64 (sizeI a0) 1) a3) (addW .i64 (sizeI a0) 1) a3) 1) (List.replicate ((cond (ltI (addW .i64 (sizeI a0) 1) a3) (addW .i64 (sizeI a0) 1) a3).toNat) ([.str (⟨#[]⟩ : ByteArray)] : List AV)) 0 H))))))
theorem t_eq (a0 a1 : ByteArray) (a2 a3 : Int) (H : Heap) (Q : Qt) : aBody E0 C 44 [.str a0, .str a1, .int .i64 a2, .int .i64 a3] H Q = t a0 a1 a2 a3 H Q := by kernel_rfl
theorem call {a0 a1 : ByteArray} {a2 a3 : Int} {H : Heap} {Q : Qt} (h : t a0 a1 a2 a3 H Q) : C 44 [.str a0, .str a1, .int .i64 a2, .int .i64 a3] H Q := Call_told (E := E0) (t_eq a0 a1 a2 a3 H Q) h
end F44
/-! ### broker/brokerref05.Expired: function 45 -/
namespace F45
def t (a0_0 a0_1 : ByteArray) (a0_2 : Int) (a0_3 : Bool) (a0_4 a0_5 : Int) (a0_6 : ByteArray) (a0_7 : Int) (a0_8 : List (List AV)) (a1 : Int) (H : Heap) (Q : Qt) : Prop :=
  cond (!(eqI a0_5 0))
  (Q (.bool (leI a0_5 a1)) H)
  (Q (.bool false) H)
theorem t_eq (a0_0 a0_1 : ByteArray) (a0_2 : Int) (a0_3 : Bool) (a0_4 a0_5 : Int) (a0_6 : ByteArray) (a0_7 : Int) (a0_8 : List (List AV)) (a1 : Int) (H : Heap) (Q : Qt) : aBody E0 C 45 [.agg [.str a0_0, .str a0_1, .int .i64 a0_2, .bool a0_3, .int .i64 a0_4, .int .i64 a0_5, .str a0_6, .int .i64 a0_7, .sl 0 2 a0_8], .int .i64 a1] H Q = t a0_0 a0_1 a0_2 a0_3 a0_4 a0_5 a0_6 a0_7 a0_8 a1 H Q := by kernel_rfl
theorem call {a0_0 a0_1 : ByteArray} {a0_2 : Int} {a0_3 : Bool} {a0_4 a0_5 : Int} {a0_6 : ByteArray} {a0_7 : Int} {a0_8 : List (List AV)} {a1 : Int} {H : Heap} {Q : Qt} (h : t a0_0 a0_1 a0_2 a0_3 a0_4 a0_5 a0_6 a0_7 a0_8 a1 H Q) : C 45 [.agg [.str a0_0, .str a0_1, .int .i64 a0_2, .bool a0_3, .int .i64 a0_4, .int .i64 a0_5, .str a0_6, .int .i64 a0_7, .sl 0 2 a0_8], .int .i64 a1] H Q := Call_told (E := E0) (t_eq a0_0 a0_1 a0_2 a0_3 a0_4 a0_5 a0_6 a0_7 a0_8 a1 H Q) h
end F45
/-! ### internal/stringslite.Cut: function 46 -/
namespace F46
def t (a0 a1 : ByteArray) (H : Heap) (Q : Qt) : Prop :=
  C 61 [.str a0, .str a1] H.none fun v_1 H_2 =>
  G ((v_1).isInt .i64) (cond (leI 0 ((v_1).toInt))
    (G (leI 0 ((v_1).toInt)) (G (leI ((v_1).toInt) (sizeI a0)) (G (leI 0 (addW .i64 ((v_1).toInt) (sizeI a1))) (G (leI (addW .i64 ((v_1).toInt) (sizeI a1)) (sizeI a0)) (G (leI (sizeI a0) (sizeI a0)) (Q (.tup [.str (a0.extract 0 (((v_1).toInt).toNat)), .str (a0.extract ((addW .i64 ((v_1).toInt) (sizeI a1)).toNat) ((sizeI a0).toNat)), .bool true]) (H.past H_2)))))))
    (Q (.tup [.str a0, .str (⟨#[]⟩ : ByteArray), .bool false]) (H.past H_2)))
theorem t_eq (a0 a1 : ByteArray) (H : Heap) (Q : Qt) : aBody E0 C 46 [.str a0, .str a1] H Q = t a0 a1 H Q := by kernel_rfl
theorem call {a0 a1 : ByteArray} {H : Heap} {Q : Qt} (h : t a0 a1 H Q) : C 46 [.str a0, .str a1] H Q := Call_told (E := E0) (t_eq a0 a1 H Q) h
end F46
/-! ### broker/brokerref01.Valid: function 48 -/
namespace F48
def t (a0 : ByteArray) (H : Heap) (Q : Qt) : Prop :=
  C 63 [.str a0] H.none fun v_1 H_2 =>
  G ((v_1).isBool) (cond ((v_1).toBool)
    (C 64 [.str a0, .int .u8 43] ((H.past H_2).none) fun v_3 H_4 =>
      G ((v_3).isBool) (cond (!((v_3).toBool))
        (C 64 [.str a0, .int .u8 35] ((H.past H_4).none) fun v_5 H_6 =>
          G ((v_5).isBool) (Q (.bool (!((v_5).toBool))) (H.past H_6)))
        (Q (.bool false) (H.past H_4))))
    (Q (.bool false) (H.past H_2)))
theorem t_eq (a0 : ByteArray) (H : Heap) (Q : Qt) : aBody E0 C 48 [.str a0] H Q = t a0 H Q := by kernel_rfl
theorem call {a0 : ByteArray} {H : Heap} {Q : Qt} (h : t a0 H Q) : C 48 [.str a0] H Q := Call_told (E := E0) (t_eq a0 H Q) h
end F48
/-! ### broker/brokerref05.Props: function 49 -/
namespace F49
def K0 (Q : Qt) : Ex → St → Prop := (contK E0 C (E0.L 49) [.block 0 0, .seq (codeAt (bodyOf E0 49) [1, 1, 1]) 1] (finK E0 49 Q))
def L0 (a0 : List (List AV)) (Q : Qt) (x3i : Int) (Hh : Heap) : Prop := ALoop (fun K s => awp E0 C (E0.L 49) (codeAt (bodyOf E0 49) [1, 1, 0, 1, 0, 0]) 1 s K) (clean [(0, 0), (3, 0)] 0) (K0 Q) ⟨stt 43 [(0, .sl 0 2 a0), (3, .int .i64 x3i)], [], Hh⟩
def r0 (a0 : List (List AV)) (Q : Qt) (x3i : Int) (Hh : Heap) : Prop :=
  cond (ltI x3i (lenI a0))
  (G (leI 0 x3i) (G (ltI x3i (lenI a0)) (G ((ce (ro a0 x3i.toNat) 0).isStr) (C 65 [.str ((ce (ro a0 x3i.toNat) 0).toStr)] Hh.none fun v_1 H_2 =>
    G ((v_1).isBool) (cond (!((v_1).toBool))
      (Q (.int .i64 16) (Hh.past H_2))
      (G (leI 0 x3i) (G (ltI x3i (lenI a0)) (G ((ce (ro a0 x3i.toNat) 1).isStr) (cond (ltI 160 (sizeI ((ce (ro a0 x3i.toNat) 1).toStr)))
        (Q (.int .i64 5) (Hh.past H_2))
        (cond (ltI 0 x3i)
          (G (leI 0 x3i) (G (ltI x3i (lenI a0)) (G ((ce (ro a0 x3i.toNat) 0).isStr) (G (leI 0 (subW .i64 x3i 1)) (G (ltI (subW .i64 x3i 1) (lenI a0)) (G ((ce (ro a0 ((subW .i64 x3i 1).toNat)) 0).isStr) (cond (!(ltS ((ce (ro a0 ((subW .i64 x3i 1).toNat)) 0).toStr) ((ce (ro a0 x3i.toNat) 0).toStr)))
            (Q (.int .i64 16) (Hh.past H_2))
            (L0 a0 Q (addW .i64 x3i 1) (Hh.past H_2)))))))))
          (L0 a0 Q (addW .i64 x3i 1) (Hh.past H_2))))))))))))
  (Q (.int .i64 0) Hh)
theorem r0_eq (a0 : List (List AV)) (Q : Qt) (x3i : Int) (Hh : Heap) : (fun K s => awp E0 C (E0.L 49) (codeAt (bodyOf E0 49) [1, 1, 0, 1, 0, 0]) 1 s K) (ALoopK (fun K s => awp E0 C (E0.L 49) (codeAt (bodyOf E0 49) [1, 1, 0, 1, 0, 0]) 1 s K) (clean [(0, 0), (3, 0)] 0) (K0 Q)) ⟨stt 43 [(0, .sl 0 2 a0), (3, .int .i64 x3i)], [], Hh⟩ = r0 a0 Q x3i Hh := by kernel_rfl
theorem L0_step {a0 : List (List AV)} {Q : Qt} {x3i : Int} {Hh : Heap} (h : r0 a0 Q x3i Hh) : L0 a0 Q x3i Hh := ALoop_told (r0_eq a0 Q x3i Hh) h
def t (a0 : List (List AV)) (H : Heap) (Q : Qt) : Prop :=
  cond (ltI 8 (lenI a0))
  (Q (.int .i64 5) H)
  (L0 a0 Q 0 H)
theorem t_eq (a0 : List (List AV)) (H : Heap) (Q : Qt) : aBody E0 C 49 [.sl 0 2 a0] H Q = t a0 H Q := by kernel_rfl
theorem call {a0 : List (List AV)} {H : Heap} {Q : Qt} (h : t a0 H Q) : C 49 [.sl 0 2 a0] H Q := Call_told (E := E0) (t_eq a0 H Q) h
end F49
/-! ### slices.ContainsFunc[[]broker/api.Prop,broker/api.Prop]: function 50 -/
namespace F50
def t (a0 : List (List AV)) (a1q0 : List AV) (H : Heap) (Q : Qt) : Prop :=
  C 66 [.sl 0 2 a0, .fn 51 [.rp a1q0 0]] H.none fun v_1 H_2 =>
  G ((v_1).isInt .i64) (Q (.bool (leI 0 ((v_1).toInt))) (H.past H_2))
theorem t_eq (a0 : List (List AV)) (a1q0 : List AV) (H : Heap) (Q : Qt) : aBody E0 C 50 [.sl 0 2 a0, .fn 51 [.rp a1q0 0]] H Q = t a0 a1q0 H Q := by kernel_rfl
theorem call {a0 : List (List AV)} {a1q0 : List AV} {H : Heap} {Q : Qt} (h : t a0 a1q0 H Q) : C 50 [.sl 0 2 a0, .fn 51 [.rp a1q0 0]] H Q := Call_told (E := E0) (t_eq a0 a1q0 H Q) h
end F50
/-! ### broker/dead.with$1: function 51 -/
namespace F51
def t (a0_0 a0_1 : ByteArray) (a1 : List AV) (H : Heap) (Q : Qt) : Prop :=
  G ((ce a1 0).isStr) (Q (.bool (eqS a0_0 ((ce a1 0).toStr))) H)
theorem t_eq (a0_0 a0_1 : ByteArray) (a1 : List AV) (H : Heap) (Q : Qt) : aBody E0 C 51 [.agg [.str a0_0, .str a0_1], .rp a1 0] H Q = t a0_0 a0_1 a1 H Q := by kernel_rfl
theorem call {a0_0 a0_1 : ByteArray} {a1 : List AV} {H : Heap} {Q : Qt} (h : t a0_0 a0_1 a1 H Q) : C 51 [.agg [.str a0_0, .str a0_1], .rp a1 0] H Q := Call_told (E := E0) (t_eq a0_0 a0_1 a1 H Q) h
end F51
/-! ### slices.SortFunc[[]broker/api.Prop,broker/api.Prop]: function 52h -/
namespace F52h
def t (a0j a0n a0c : Nat) (H : Heap) (Q : Qt) : Prop :=
  C 68 [.int .u64 (IntKind.u64.wrap ((a0n : Nat) : Int))] H.none fun v_1 H_2 =>
  G ((v_1).isInt .i64) (C 67 [.hs a0j 0 a0n a0c 2, .int .i64 0, .int .i64 ((a0n : Nat) : Int), .int .i64 ((v_1).toInt), .fn 53 []] (H.past H_2) fun v_3 H_4 =>
    G ((v_3).isTup && Nat.beq (v_3).tupVs.length 0) (Q (.tup []) H_4))
theorem t_eq (a0j a0n a0c : Nat) (H : Heap) (Q : Qt) : aBody E0 C 52 [.hs a0j 0 a0n a0c 2, .fn 53 []] H Q = t a0j a0n a0c H Q := by kernel_rfl
theorem call {a0j a0n a0c : Nat} {H : Heap} {Q : Qt} (h : t a0j a0n a0c H Q) : C 52 [.hs a0j 0 a0n a0c 2, .fn 53 []] H Q := Call_told (E := E0) (t_eq a0j a0n a0c H Q) h
end F52h
/-! ### slices.SortFunc[[]broker/api.Prop,broker/api.Prop]: function 52n -/
namespace F52n
def t  (H : Heap) (Q : Qt) : Prop :=
  C 68 [.int .u64 0] H.none fun v_1 H_2 =>
  G ((v_1).isInt .i64) (C 67 [.nilsl, .int .i64 0, .int .i64 0, .int .i64 ((v_1).toInt), .fn 53 []] (H.past H_2) fun v_3 H_4 =>
    G ((v_3).isTup && Nat.beq (v_3).tupVs.length 0) (Q (.tup []) H_4))
theorem t_eq  (H : Heap) (Q : Qt) : aBody E0 C 52 [.nilsl, .fn 53 []] H Q = t  H Q := by kernel_rfl
theorem call  {H : Heap} {Q : Qt} (h : t  H Q) : C 52 [.nilsl, .fn 53 []] H Q := Call_told (E := E0) (t_eq  H Q) h
end F52n
/-! ### broker/dead.with$2: function 53 -/
namespace F53
def t (a0_0 a0_1 : ByteArray) (a1_0 a1_1 : ByteArray) (H : Heap) (Q : Qt) : Prop :=
  C 54 [.str a0_0, .str a1_0] H.none fun v_1 H_2 =>
  G ((v_1).isInt .i64) (Q (.int .i64 ((v_1).toInt)) (H.past H_2))
theorem t_eq (a0_0 a0_1 : ByteArray) (a1_0 a1_1 : ByteArray) (H : Heap) (Q : Qt) : aBody E0 C 53 [.agg [.str a0_0, .str a0_1], .agg [.str a1_0, .str a1_1]] H Q = t a0_0 a0_1 a1_0 a1_1 H Q := by kernel_rfl
theorem call {a0_0 a0_1 : ByteArray} {a1_0 a1_1 : ByteArray} {H : Heap} {Q : Qt} (h : t a0_0 a0_1 a1_0 a1_1 H Q) : C 53 [.agg [.str a0_0, .str a0_1], .agg [.str a1_0, .str a1_1]] H Q := Call_told (E := E0) (t_eq a0_0 a0_1 a1_0 a1_1 H Q) h
end F53
/-! ### broker/topic.sized: function 55 -/
namespace F55
def K0 (Q : Qt) : Ex → St → Prop := (contK E0 C (E0.L 55) [.block 0 1, .seq (codeAt (bodyOf E0 55) [1, 1, 1, 1]) 1] (finK E0 55 Q))
def L0 (a0 : ByteArray) (Q : Qt) (x3levels : Int) (it0 : Nat) (Hh : Heap) : Prop := ALoop (fun K s => awp E0 C (E0.L 55) (codeAt (bodyOf E0 55) [1, 1, 1, 0, 1, 0, 0]) 1 s K) (clean [(3, 0), (15, 0)] 1) (K0 Q) ⟨stt 28 [(3, .int .i64 x3levels), (15, .ptr 0 0)], [.siter a0 it0], Hh⟩
def r0 (a0 : ByteArray) (Q : Qt) (x3levels : Int) (it0 : Nat) (Hh : Heap) : Prop :=
  cond (Nat.blt it0 a0.size)
  (cond (eqI ((Utf8.decode a0 it0).1 : Int) 0)
    (Q (.bool false) Hh)
    (cond (eqI ((Utf8.decode a0 it0).1 : Int) 47)
      (L0 a0 Q (addW .i64 x3levels 1) (it0 + (Utf8.decode a0 it0).2) Hh)
      (L0 a0 Q x3levels (it0 + (Utf8.decode a0 it0).2) Hh)))
  (Q (.bool (leI x3levels 8)) Hh)
theorem r0_eq (a0 : ByteArray) (Q : Qt) (x3levels : Int) (it0 : Nat) (Hh : Heap) : (fun K s => awp E0 C (E0.L 55) (codeAt (bodyOf E0 55) [1, 1, 1, 0, 1, 0, 0]) 1 s K) (ALoopK (fun K s => awp E0 C (E0.L 55) (codeAt (bodyOf E0 55) [1, 1, 1, 0, 1, 0, 0]) 1 s K) (clean [(3, 0), (15, 0)] 1) (K0 Q)) ⟨stt 28 [(3, .int .i64 x3levels), (15, .ptr 0 0)], [.siter a0 it0], Hh⟩ = r0 a0 Q x3levels it0 Hh := by kernel_rfl
theorem L0_step {a0 : ByteArray} {Q : Qt} {x3levels : Int} {it0 : Nat} {Hh : Heap} (h : r0 a0 Q x3levels it0 Hh) : L0 a0 Q x3levels it0 Hh := ALoop_told (r0_eq a0 Q x3levels it0 Hh) h
def t (a0 : ByteArray) (H : Heap) (Q : Qt) : Prop :=
  cond (ltI (sizeI a0) 1)
  (Q (.bool false) H)
  (cond (ltI 64 (sizeI a0))
    (Q (.bool false) H)
    (L0 a0 Q 1 0 H))
theorem t_eq (a0 : ByteArray) (H : Heap) (Q : Qt) : aBody E0 C 55 [.str a0] H Q = t a0 H Q := by kernel_rfl
theorem call {a0 : ByteArray} {H : Heap} {Q : Qt} (h : t a0 H Q) : C 55 [.str a0] H Q := Call_told (E := E0) (t_eq a0 H Q) h
end F55
/-! ### broker/message.key: function 56 -/
namespace F56
def K0 (Q : Qt) : Ex → St → Prop := (contK E0 C (E0.L 56) [.block 0 0, .seq (codeAt (bodyOf E0 56) [1, 1, 1]) 1] (finK E0 56 Q))
def L0 (a0 : ByteArray) (Q : Qt) (x3i : Int) (Hh : Heap) : Prop := ALoop (fun K s => awp E0 C (E0.L 56) (codeAt (bodyOf E0 56) [1, 1, 0, 1, 0, 0]) 1 s K) (clean [(0, 0), (3, 0)] 0) (K0 Q) ⟨stt 40 [(0, .str a0), (3, .int .i64 x3i)], [], Hh⟩
def JR7 (a0 : ByteArray) (Q : Qt) (x3i : Int) (x39 : Bool) (Hh : Heap) : Prop := AJoin (contK E0 C (E0.L 56) [.seq (codeAt (bodyOf E0 56) [1, 1, 0, 1, 0, 0, 1, 0, 0, 1, 1]) 1, .block 1 0, .seq (codeAt (bodyOf E0 56) [1, 1, 0, 1, 0, 0, 1, 1]) 1, .loop (codeAt (bodyOf E0 56) [1, 1, 0, 1, 0, 0]) 1 [(0, 0), (3, 0)] 0, .block 0 0, .seq (codeAt (bodyOf E0 56) [1, 1, 1]) 1] (finK E0 56 Q)) ⟨stt 40 [(0, .str a0), (3, .int .i64 x3i), (39, .bool x39)], [], Hh⟩
def r0 (a0 : ByteArray) (Q : Qt) (x3i : Int) (Hh : Heap) : Prop :=
  cond (ltI x3i (sizeI a0))
  (G (leI 0 x3i) (G (ltI x3i (sizeI a0)) (cond (ltI (bt a0 x3i) 97)
    (cond (ltI (bt a0 x3i) 48)
      (JR7 a0 Q x3i (!(eqI (bt a0 x3i) 45)) Hh)
      (cond (ltI 57 (bt a0 x3i))
        (JR7 a0 Q x3i (!(eqI (bt a0 x3i) 45)) Hh)
        (JR7 a0 Q x3i false Hh)))
    (cond (ltI 122 (bt a0 x3i))
      (cond (ltI (bt a0 x3i) 48)
        (JR7 a0 Q x3i (!(eqI (bt a0 x3i) 45)) Hh)
        (cond (ltI 57 (bt a0 x3i))
          (JR7 a0 Q x3i (!(eqI (bt a0 x3i) 45)) Hh)
          (JR7 a0 Q x3i false Hh)))
      (JR7 a0 Q x3i false Hh)))))
  (Q (.bool true) Hh)
theorem r0_eq (a0 : ByteArray) (Q : Qt) (x3i : Int) (Hh : Heap) : (fun K s => awp E0 C (E0.L 56) (codeAt (bodyOf E0 56) [1, 1, 0, 1, 0, 0]) 1 s K) (ALoopK (fun K s => awp E0 C (E0.L 56) (codeAt (bodyOf E0 56) [1, 1, 0, 1, 0, 0]) 1 s K) (clean [(0, 0), (3, 0)] 0) (K0 Q)) ⟨stt 40 [(0, .str a0), (3, .int .i64 x3i)], [], Hh⟩ = r0 a0 Q x3i Hh := by kernel_rfl
theorem L0_step {a0 : ByteArray} {Q : Qt} {x3i : Int} {Hh : Heap} (h : r0 a0 Q x3i Hh) : L0 a0 Q x3i Hh := ALoop_told (r0_eq a0 Q x3i Hh) h
def jR7 (a0 : ByteArray) (Q : Qt) (x3i : Int) (x39 : Bool) (Hh : Heap) : Prop :=
  cond x39
  (Q (.bool false) Hh)
  (L0 a0 Q (addW .i64 x3i 1) Hh)
theorem JR7_eq (a0 : ByteArray) (Q : Qt) (x3i : Int) (x39 : Bool) (Hh : Heap) : contK E0 C (E0.L 56) [.seq (codeAt (bodyOf E0 56) [1, 1, 0, 1, 0, 0, 1, 0, 0, 1, 1]) 1, .block 1 0, .seq (codeAt (bodyOf E0 56) [1, 1, 0, 1, 0, 0, 1, 1]) 1, .loop (codeAt (bodyOf E0 56) [1, 1, 0, 1, 0, 0]) 1 [(0, 0), (3, 0)] 0, .block 0 0, .seq (codeAt (bodyOf E0 56) [1, 1, 1]) 1] (finK E0 56 Q) .normal ⟨stt 40 [(0, .str a0), (3, .int .i64 x3i), (39, .bool x39)], [], Hh⟩ = jR7 a0 Q x3i x39 Hh := by kernel_rfl
theorem JR7_step {a0 : ByteArray} {Q : Qt} {x3i : Int} {x39 : Bool} {Hh : Heap} (h : jR7 a0 Q x3i x39 Hh) : JR7 a0 Q x3i x39 Hh := AJoin_told (JR7_eq a0 Q x3i x39 Hh) h
def t (a0 : ByteArray) (H : Heap) (Q : Qt) : Prop :=
  cond (ltI (sizeI a0) 1)
  (Q (.bool false) H)
  (cond (ltI 16 (sizeI a0))
    (Q (.bool false) H)
    (L0 a0 Q 0 H))
theorem t_eq (a0 : ByteArray) (H : Heap) (Q : Qt) : aBody E0 C 56 [.str a0] H Q = t a0 H Q := by kernel_rfl
theorem call {a0 : ByteArray} {H : Heap} {Q : Qt} (h : t a0 H Q) : C 56 [.str a0] H Q := Call_told (E := E0) (t_eq a0 H Q) h
end F56
/-! ### slices.Insert[[]broker/api.Prop,broker/api.Prop]: function 57h -/
namespace F57h
def t (a0j a0n a0c : Nat) (a1 : Int) (a2 : List (List AV)) (H : Heap) (Q : Qt) : Prop :=
  G (leI 0 a1) (G (leI a1 ((a0n : Nat) : Int)) (G (leI ((a0n : Nat) : Int) ((a0c : Nat) : Int)) (G (leI ((a0c : Nat) : Int) ((a0c : Nat) : Int)) (cond (eqI (lenI a2) 0)
  (Q (.hs a0j 0 a0n a0c 2) H)
  (cond (eqI a1 ((a0n : Nat) : Int))
    (G ((H.get a0j).isRows 2) (cond (Nat.ble (a0n + a2.length) a0c)
      (G (Nat.ble ((0 + a0n) + a2.length) (H.get a0j).xs.length) (Q (.hs a0j 0 (a0n + a2.length) a0c 2) (H.set a0j (.rows 2 (splice (H.get a0j).xs (0 + a0n) a2)))))
      (G (room (((H.get a0j).xs.drop 0).take a0n) a2 32) (G (Nat.ble (0 + a0n) (H.get a0j).xs.length) (∀ c_1 : Nat, a0n + a2.length ≤ c_1 → (a0n + a2.length ≤ 140737488355328 → c_1 ≤ 9223372036854775807) → (Q (.hs H.next 0 (a0n + a2.length) c_1 2) (H.push (.rows 2 (pad 2 c_1 ((((H.get a0j).xs.drop 0).take a0n) ++ a2))))))))))
    (cond (ltI ((a0c : Nat) : Int) (addW .i64 ((a0n : Nat) : Int) (lenI a2)))
      (G (leI 0 a1) (G (leI a1 ((a0c : Nat) : Int)) (G (leI ((a0c : Nat) : Int) ((a0c : Nat) : Int)) (G ((H.get a0j).isRows 2) (G (leI 0 (subW .i64 (addW .i64 ((a0n : Nat) : Int) (lenI a2)) a1)) (G (roomN (subW .i64 (addW .i64 ((a0n : Nat) : Int) (lenI a2)) a1) 32) (cond (Nat.ble (a1.toNat + ((List.replicate ((subW .i64 (addW .i64 ((a0n : Nat) : Int) (lenI a2)) a1).toNat) ([.str (⟨#[]⟩ : ByteArray), .str (⟨#[]⟩ : ByteArray)] : List AV)).length)) a0c)
        (G (Nat.ble ((0 + a1.toNat) + ((List.replicate ((subW .i64 (addW .i64 ((a0n : Nat) : Int) (lenI a2)) a1).toNat) ([.str (⟨#[]⟩ : ByteArray), .str (⟨#[]⟩ : ByteArray)] : List AV)).length)) (H.get a0j).xs.length) (G (leI 0 a1) (G (leI a1 ((a1.toNat + ((List.replicate ((subW .i64 (addW .i64 ((a0n : Nat) : Int) (lenI a2)) a1).toNat) ([.str (⟨#[]⟩ : ByteArray), .str (⟨#[]⟩ : ByteArray)] : List AV)).length) : Nat) : Int)) (G (leI ((a1.toNat + ((List.replicate ((subW .i64 (addW .i64 ((a0n : Nat) : Int) (lenI a2)) a1).toNat) ([.str (⟨#[]⟩ : ByteArray), .str (⟨#[]⟩ : ByteArray)] : List AV)).length) : Nat) : Int) ((a0c : Nat) : Int)) (G (leI ((a0c : Nat) : Int) ((a0c : Nat) : Int)) (G (((H.set a0j (.rows 2 (splice (H.get a0j).xs (0 + a1.toNat) (List.replicate ((subW .i64 (addW .i64 ((a0n : Nat) : Int) (lenI a2)) a1).toNat) ([.str (⟨#[]⟩ : ByteArray), .str (⟨#[]⟩ : ByteArray)] : List AV))))).get a0j).isRows 2) (G (Nat.ble ((0 + a1.toNat) + ((((a1.toNat + ((List.replicate ((subW .i64 (addW .i64 ((a0n : Nat) : Int) (lenI a2)) a1).toNat) ([.str (⟨#[]⟩ : ByteArray), .str (⟨#[]⟩ : ByteArray)] : List AV)).length) : Nat) : Int).toNat) - a1.toNat)) ((H.set a0j (.rows 2 (splice (H.get a0j).xs (0 + a1.toNat) (List.replicate ((subW .i64 (addW .i64 ((a0n : Nat) : Int) (lenI a2)) a1).toNat) ([.str (⟨#[]⟩ : ByteArray), .str (⟨#[]⟩ : ByteArray)] : List AV))))).get a0j).xs.length) (G (leI 0 (addW .i64 a1 (lenI a2))) (G (leI (addW .i64 a1 (lenI a2)) ((a1.toNat + ((List.replicate ((subW .i64 (addW .i64 ((a0n : Nat) : Int) (lenI a2)) a1).toNat) ([.str (⟨#[]⟩ : ByteArray), .str (⟨#[]⟩ : ByteArray)] : List AV)).length) : Nat) : Int)) (G (leI ((a1.toNat + ((List.replicate ((subW .i64 (addW .i64 ((a0n : Nat) : Int) (lenI a2)) a1).toNat) ([.str (⟨#[]⟩ : ByteArray), .str (⟨#[]⟩ : ByteArray)] : List AV)).length) : Nat) : Int) ((a0c : Nat) : Int)) (G (leI ((a0c : Nat) : Int) ((a0c : Nat) : Int)) (G (leI 0 a1) (G (leI a1 ((a0n : Nat) : Int)) (G (leI ((a0n : Nat) : Int) ((a0c : Nat) : Int)) (G (leI ((a0c : Nat) : Int) ((a0c : Nat) : Int)) (G ((((H.set a0j (.rows 2 (splice (H.get a0j).xs (0 + a1.toNat) (List.replicate ((subW .i64 (addW .i64 ((a0n : Nat) : Int) (lenI a2)) a1).toNat) ([.str (⟨#[]⟩ : ByteArray), .str (⟨#[]⟩ : ByteArray)] : List AV))))).set a0j (.rows 2 (splice ((H.set a0j (.rows 2 (splice (H.get a0j).xs (0 + a1.toNat) (List.replicate ((subW .i64 (addW .i64 ((a0n : Nat) : Int) (lenI a2)) a1).toNat) ([.str (⟨#[]⟩ : ByteArray), .str (⟨#[]⟩ : ByteArray)] : List AV))))).get a0j).xs (0 + a1.toNat) (a2.take ((((a1.toNat + ((List.replicate ((subW .i64 (addW .i64 ((a0n : Nat) : Int) (lenI a2)) a1).toNat) ([.str (⟨#[]⟩ : ByteArray), .str (⟨#[]⟩ : ByteArray)] : List AV)).length) : Nat) : Int).toNat) - a1.toNat))))).get a0j).isRows 2) (G (Nat.ble ((0 + ((addW .i64 a1 (lenI a2)).toNat)) + ((((a1.toNat + ((List.replicate ((subW .i64 (addW .i64 ((a0n : Nat) : Int) (lenI a2)) a1).toNat) ([.str (⟨#[]⟩ : ByteArray), .str (⟨#[]⟩ : ByteArray)] : List AV)).length) : Nat) : Int).toNat) - ((addW .i64 a1 (lenI a2)).toNat))) (((H.set a0j (.rows 2 (splice (H.get a0j).xs (0 + a1.toNat) (List.replicate ((subW .i64 (addW .i64 ((a0n : Nat) : Int) (lenI a2)) a1).toNat) ([.str (⟨#[]⟩ : ByteArray), .str (⟨#[]⟩ : ByteArray)] : List AV))))).set a0j (.rows 2 (splice ((H.set a0j (.rows 2 (splice (H.get a0j).xs (0 + a1.toNat) (List.replicate ((subW .i64 (addW .i64 ((a0n : Nat) : Int) (lenI a2)) a1).toNat) ([.str (⟨#[]⟩ : ByteArray), .str (⟨#[]⟩ : ByteArray)] : List AV))))).get a0j).xs (0 + a1.toNat) (a2.take ((((a1.toNat + ((List.replicate ((subW .i64 (addW .i64 ((a0n : Nat) : Int) (lenI a2)) a1).toNat) ([.str (⟨#[]⟩ : ByteArray), .str (⟨#[]⟩ : ByteArray)] : List AV)).length) : Nat) : Int).toNat) - a1.toNat))))).get a0j).xs.length) (G ((((H.set a0j (.rows 2 (splice (H.get a0j).xs (0 + a1.toNat) (List.replicate ((subW .i64 (addW .i64 ((a0n : Nat) : Int) (lenI a2)) a1).toNat) ([.str (⟨#[]⟩ : ByteArray), .str (⟨#[]⟩ : ByteArray)] : List AV))))).set a0j (.rows 2 (splice ((H.set a0j (.rows 2 (splice (H.get a0j).xs (0 + a1.toNat) (List.replicate ((subW .i64 (addW .i64 ((a0n : Nat) : Int) (lenI a2)) a1).toNat) ([.str (⟨#[]⟩ : ByteArray), .str (⟨#[]⟩ : ByteArray)] : List AV))))).get a0j).xs (0 + a1.toNat) (a2.take ((((a1.toNat + ((List.replicate ((subW .i64 (addW .i64 ((a0n : Nat) : Int) (lenI a2)) a1).toNat) ([.str (⟨#[]⟩ : ByteArray), .str (⟨#[]⟩ : ByteArray)] : List AV)).length) : Nat) : Int).toNat) - a1.toNat))))).get a0j).isRows 2) (G (Nat.ble ((0 + a1.toNat) + (a0n - a1.toNat)) (((H.set a0j (.rows 2 (splice (H.get a0j).xs (0 + a1.toNat) (List.replicate ((subW .i64 (addW .i64 ((a0n : Nat) : Int) (lenI a2)) a1).toNat) ([.str (⟨#[]⟩ : ByteArray), .str (⟨#[]⟩ : ByteArray)] : List AV))))).set a0j (.rows 2 (splice ((H.set a0j (.rows 2 (splice (H.get a0j).xs (0 + a1.toNat) (List.replicate ((subW .i64 (addW .i64 ((a0n : Nat) : Int) (lenI a2)) a1).toNat) ([.str (⟨#[]⟩ : ByteArray), .str (⟨#[]⟩ : ByteArray)] : List AV))))).get a0j).xs (0 + a1.toNat) (a2.take ((((a1.toNat + ((List.replicate ((subW .i64 (addW .i64 ((a0n : Nat) : Int) (lenI a2)) a1).toNat) ([.str (⟨#[]⟩ : ByteArray), .str (⟨#[]⟩ : ByteArray)] : List AV)).length) : Nat) : Int).toNat) - a1.toNat))))).get a0j).xs.length) (Q (.hs a0j 0 (a1.toNat + ((List.replicate ((subW .i64 (addW .i64 ((a0n : Nat) : Int) (lenI a2)) a1).toNat) ([.str (⟨#[]⟩ : ByteArray), .str (⟨#[]⟩ : ByteArray)] : List AV)).length)) a0c 2) (((H.set a0j (.rows 2 (splice (H.get a0j).xs (0 + a1.toNat) (List.replicate ((subW .i64 (addW .i64 ((a0n : Nat) : Int) (lenI a2)) a1).toNat) ([.str (⟨#[]⟩ : ByteArray), .str (⟨#[]⟩ : ByteArray)] : List AV))))).set a0j (.rows 2 (splice ((H.set a0j (.rows 2 (splice (H.get a0j).xs (0 + a1.toNat) (List.replicate ((subW .i64 (addW .i64 ((a0n : Nat) : Int) (lenI a2)) a1).toNat) ([.str (⟨#[]⟩ : ByteArray), .str (⟨#[]⟩ : ByteArray)] : List AV))))).get a0j).xs (0 + a1.toNat) (a2.take ((((a1.toNat + ((List.replicate ((subW .i64 (addW .i64 ((a0n : Nat) : Int) (lenI a2)) a1).toNat) ([.str (⟨#[]⟩ : ByteArray), .str (⟨#[]⟩ : ByteArray)] : List AV)).length) : Nat) : Int).toNat) - a1.toNat))))).set a0j (.rows 2 (splice (((H.set a0j (.rows 2 (splice (H.get a0j).xs (0 + a1.toNat) (List.replicate ((subW .i64 (addW .i64 ((a0n : Nat) : Int) (lenI a2)) a1).toNat) ([.str (⟨#[]⟩ : ByteArray), .str (⟨#[]⟩ : ByteArray)] : List AV))))).set a0j (.rows 2 (splice ((H.set a0j (.rows 2 (splice (H.get a0j).xs (0 + a1.toNat) (List.replicate ((subW .i64 (addW .i64 ((a0n : Nat) : Int) (lenI a2)) a1).toNat) ([.str (⟨#[]⟩ : ByteArray), .str (⟨#[]⟩ : ByteArray)] : List AV))))).get a0j).xs (0 + a1.toNat) (a2.take ((((a1.toNat + ((List.replicate ((subW .i64 (addW .i64 ((a0n : Nat) : Int) (lenI a2)) a1).toNat) ([.str (⟨#[]⟩ : ByteArray), .str (⟨#[]⟩ : ByteArray)] : List AV)).length) : Nat) : Int).toNat) - a1.toNat))))).get a0j).xs (0 + ((addW .i64 a1 (lenI a2)).toNat)) ((((((H.set a0j (.rows 2 (splice (H.get a0j).xs (0 + a1.toNat) (List.replicate ((subW .i64 (addW .i64 ((a0n : Nat) : Int) (lenI a2)) a1).toNat) ([.str (⟨#[]⟩ : ByteArray), .str (⟨#[]⟩ : ByteArray)] : List AV))))).set a0j (.rows 2 (splice ((H.set a0j (.rows 2 (splice (H.get a0j).xs (0 + a1.toNat) (List.replicate ((subW .i64 (addW .i64 ((a0n : Nat) : Int) (lenI a2)) a1).toNat) ([.str (⟨#[]⟩ : ByteArray), .str (⟨#[]⟩ : ByteArray)] : List AV))))).get a0j).xs (0 + a1.toNat) (a2.take ((((a1.toNat + ((List.replicate ((subW .i64 (addW .i64 ((a0n : Nat) : Int) (lenI a2)) a1).toNat) ([.str (⟨#[]⟩ : ByteArray), .str (⟨#[]⟩ : ByteArray)] : List AV)).length) : Nat) : Int).toNat) - a1.toNat))))).get a0j).xs.drop (0 + a1.toNat)).take (a0n - a1.toNat)).take ((((a1.toNat + ((List.replicate ((subW .i64 (addW .i64 ((a0n : Nat) : Int) (lenI a2)) a1).toNat) ([.str (⟨#[]⟩ : ByteArray), .str (⟨#[]⟩ : ByteArray)] : List AV)).length) : Nat) : Int).toNat) - ((addW .i64 a1 (lenI a2)).toNat))))))))))))))))))))))))))
        (G (room (((H.get a0j).xs.drop 0).take a1.toNat) (List.replicate ((subW .i64 (addW .i64 ((a0n : Nat) : Int) (lenI a2)) a1).toNat) ([.str (⟨#[]⟩ : ByteArray), .str (⟨#[]⟩ : ByteArray)] : List AV)) 32) (G (Nat.ble (0 + a1.toNat) (H.get a0j).xs.length) (∀ c_2 : Nat, a1.toNat + ((List.replicate ((subW .i64 (addW .i64 ((a0n : Nat) : Int) (lenI a2)) a1).toNat) ([.str (⟨#[]⟩ : ByteArray), .str (⟨#[]⟩ : ByteArray)] : List AV)).length) ≤ c_2 → (a1.toNat + ((List.replicate ((subW .i64 (addW .i64 ((a0n : Nat) : Int) (lenI a2)) a1).toNat) ([.str (⟨#[]⟩ : ByteArray), .str (⟨#[]⟩ : ByteArray)] : List AV)).length) ≤ 140737488355328 → c_2 ≤ 9223372036854775807) → (G (leI 0 a1) (G (leI a1 ((a1.toNat + ((List.replicate ((subW .i64 (addW .i64 ((a0n : Nat) : Int) (lenI a2)) a1).toNat) ([.str (⟨#[]⟩ : ByteArray), .str (⟨#[]⟩ : ByteArray)] : List AV)).length) : Nat) : Int)) (G (leI ((a1.toNat + ((List.replicate ((subW .i64 (addW .i64 ((a0n : Nat) : Int) (lenI a2)) a1).toNat) ([.str (⟨#[]⟩ : ByteArray), .str (⟨#[]⟩ : ByteArray)] : List AV)).length) : Nat) : Int) ((c_2 : Nat) : Int)) (G (leI ((c_2 : Nat) : Int) ((c_2 : Nat) : Int)) (G (((H.push (.rows 2 (pad 2 c_2 ((((H.get a0j).xs.drop 0).take a1.toNat) ++ (List.replicate ((subW .i64 (addW .i64 ((a0n : Nat) : Int) (lenI a2)) a1).toNat) ([.str (⟨#[]⟩ : ByteArray), .str (⟨#[]⟩ : ByteArray)] : List AV)))))).get H.next).isRows 2) (G (Nat.ble ((0 + a1.toNat) + ((((a1.toNat + ((List.replicate ((subW .i64 (addW .i64 ((a0n : Nat) : Int) (lenI a2)) a1).toNat) ([.str (⟨#[]⟩ : ByteArray), .str (⟨#[]⟩ : ByteArray)] : List AV)).length) : Nat) : Int).toNat) - a1.toNat)) ((H.push (.rows 2 (pad 2 c_2 ((((H.get a0j).xs.drop 0).take a1.toNat) ++ (List.replicate ((subW .i64 (addW .i64 ((a0n : Nat) : Int) (lenI a2)) a1).toNat) ([.str (⟨#[]⟩ : ByteArray), .str (⟨#[]⟩ : ByteArray)] : List AV)))))).get H.next).xs.length) (G (leI 0 (addW .i64 a1 (lenI a2))) (G (leI (addW .i64 a1 (lenI a2)) ((a1.toNat + ((List.replicate ((subW .i64 (addW .i64 ((a0n : Nat) : Int) (lenI a2)) a1).toNat) ([.str (⟨#[]⟩ : ByteArray), .str (⟨#[]⟩ : ByteArray)] : List AV)).length) : Nat) : Int)) (G (leI ((a1.toNat + ((List.replicate ((subW .i64 (addW .i64 ((a0n : Nat) : Int) (lenI a2)) a1).toNat) ([.str (⟨#[]⟩ : ByteArray), .str (⟨#[]⟩ : ByteArray)] : List AV)).length) : Nat) : Int) ((c_2 : Nat) : Int)) (G (leI ((c_2 : Nat) : Int) ((c_2 : Nat) : Int)) (G (leI 0 a1) (G (leI a1 ((a0n : Nat) : Int)) (G (leI ((a0n : Nat) : Int) ((a0c : Nat) : Int)) (G (leI ((a0c : Nat) : Int) ((a0c : Nat) : Int)) (G ((((H.push (.rows 2 (pad 2 c_2 ((((H.get a0j).xs.drop 0).take a1.toNat) ++ (List.replicate ((subW .i64 (addW .i64 ((a0n : Nat) : Int) (lenI a2)) a1).toNat) ([.str (⟨#[]⟩ : ByteArray), .str (⟨#[]⟩ : ByteArray)] : List AV)))))).set H.next (.rows 2 (splice ((H.push (.rows 2 (pad 2 c_2 ((((H.get a0j).xs.drop 0).take a1.toNat) ++ (List.replicate ((subW .i64 (addW .i64 ((a0n : Nat) : Int) (lenI a2)) a1).toNat) ([.str (⟨#[]⟩ : ByteArray), .str (⟨#[]⟩ : ByteArray)] : List AV)))))).get H.next).xs (0 + a1.toNat) (a2.take ((((a1.toNat + ((List.replicate ((subW .i64 (addW .i64 ((a0n : Nat) : Int) (lenI a2)) a1).toNat) ([.str (⟨#[]⟩ : ByteArray), .str (⟨#[]⟩ : ByteArray)] : List AV)).length) : Nat) : Int).toNat) - a1.toNat))))).get H.next).isRows 2) (G (Nat.ble ((0 + ((addW .i64 a1 (lenI a2)).toNat)) + ((((a1.toNat + ((List.replicate ((subW .i64 (addW .i64 ((a0n : Nat) : Int) (lenI a2)) a1).toNat) ([.str (⟨#[]⟩ : ByteArray), .str (⟨#[]⟩ : ByteArray)] : List AV)).length) : Nat) : Int).toNat) - ((addW .i64 a1 (lenI a2)).toNat))) (((H.push (.rows 2 (pad 2 c_2 ((((H.get a0j).xs.drop 0).take a1.toNat) ++ (List.replicate ((subW .i64 (addW .i64 ((a0n : Nat) : Int) (lenI a2)) a1).toNat) ([.str (⟨#[]⟩ : ByteArray), .str (⟨#[]⟩ : ByteArray)] : List AV)))))).set H.next (.rows 2 (splice ((H.push (.rows 2 (pad 2 c_2 ((((H.get a0j).xs.drop 0).take a1.toNat) ++ (List.replicate ((subW .i64 (addW .i64 ((a0n : Nat) : Int) (lenI a2)) a1).toNat) ([.str (⟨#[]⟩ : ByteArray), .str (⟨#[]⟩ : ByteArray)] : List AV)))))).get H.next).xs (0 + a1.toNat) (a2.take ((((a1.toNat + ((List.replicate ((subW .i64 (addW .i64 ((a0n : Nat) : Int) (lenI a2)) a1).toNat) ([.str (⟨#[]⟩ : ByteArray), .str (⟨#[]⟩ : ByteArray)] : List AV)).length) : Nat) : Int).toNat) - a1.toNat))))).get H.next).xs.length) (G ((((H.push (.rows 2 (pad 2 c_2 ((((H.get a0j).xs.drop 0).take a1.toNat) ++ (List.replicate ((subW .i64 (addW .i64 ((a0n : Nat) : Int) (lenI a2)) a1).toNat) ([.str (⟨#[]⟩ : ByteArray), .str (⟨#[]⟩ : ByteArray)] : List AV)))))).set H.next (.rows 2 (splice ((H.push (.rows 2 (pad 2 c_2 ((((H.get a0j).xs.drop 0).take a1.toNat) ++ (List.replicate ((subW .i64 (addW .i64 ((a0n : Nat) : Int) (lenI a2)) a1).toNat) ([.str (⟨#[]⟩ : ByteArray), .str (⟨#[]⟩ : ByteArray)] : List AV)))))).get H.next).xs (0 + a1.toNat) (a2.take ((((a1.toNat + ((List.replicate ((subW .i64 (addW .i64 ((a0n : Nat) : Int) (lenI a2)) a1).toNat) ([.str (⟨#[]⟩ : ByteArray), .str (⟨#[]⟩ : ByteArray)] : List AV)).length) : Nat) : Int).toNat) - a1.toNat))))).get a0j).isRows 2) (G (Nat.ble ((0 + a1.toNat) + (a0n - a1.toNat)) (((H.push (.rows 2 (pad 2 c_2 ((((H.get a0j).xs.drop 0).take a1.toNat) ++ (List.replicate ((subW .i64 (addW .i64 ((a0n : Nat) : Int) (lenI a2)) a1).toNat) ([.str (⟨#[]⟩ : ByteArray), .str (⟨#[]⟩ : ByteArray)] : List AV)))))).set H.next (.rows 2 (splice ((H.push (.rows 2 (pad 2 c_2 ((((H.get a0j).xs.drop 0).take a1.toNat) ++ (List.replicate ((subW .i64 (addW .i64 ((a0n : Nat) : Int) (lenI a2)) a1).toNat) ([.str (⟨#[]⟩ : ByteArray), .str (⟨#[]⟩ : ByteArray)] : List AV)))))).get H.next).xs (0 + a1.toNat) (a2.take ((((a1.toNat + ((List.replicate ((subW .i64 (addW .i64 ((a0n : Nat) : Int) (lenI a2)) a1).toNat) ([.str (⟨#[]⟩ : ByteArray), .str (⟨#[]⟩ : ByteArray)] : List AV)).length) : Nat) : Int).toNat) - a1.toNat))))).get a0j).xs.length) (Q (.hs H.next 0 (a1.toNat + ((List.replicate ((subW .i64 (addW .i64 ((a0n : Nat) : Int) (lenI a2)) a1).toNat) ([.str (⟨#[]⟩ : ByteArray), .str (⟨#[]⟩ : ByteArray)] : List AV)).length)) c_2 2) (((H.push (.rows 2 (pad 2 c_2 ((((H.get a0j).xs.drop 0).take a1.toNat) ++ (List.replicate ((subW .i64 (addW .i64 ((a0n : Nat) : Int) (lenI a2)) a1).toNat) ([.str (⟨#[]⟩ : ByteArray), .str (⟨#[]⟩ : ByteArray)] : List AV)))))).set H.next (.rows 2 (splice ((H.push (.rows 2 (pad 2 c_2 ((((H.get a0j).xs.drop 0).take a1.toNat) ++ (List.replicate ((subW .i64 (addW .i64 ((a0n : Nat) : Int) (lenI a2)) a1).toNat) ([.str (⟨#[]⟩ : ByteArray), .str (⟨#[]⟩ : ByteArray)] : List AV)))))).get H.next).xs (0 + a1.toNat) (a2.take ((((a1.toNat + ((List.replicate ((subW .i64 (addW .i64 ((a0n : Nat) : Int) (lenI a2)) a1).toNat) ([.str (⟨#[]⟩ : ByteArray), .str (⟨#[]⟩ : ByteArray)] : List AV)).length) : Nat) : Int).toNat) - a1.toNat))))).set H.next (.rows 2 (splice (((H.push (.rows 2 (pad 2 c_2 ((((H.get a0j).xs.drop 0).take a1.toNat) ++ (List.replicate ((subW .i64 (addW .i64 ((a0n : Nat) : Int) (lenI a2)) a1).toNat) ([.str (⟨#[]⟩ : ByteArray), .str (⟨#[]⟩ : ByteArray)] : List AV)))))).set H.next (.rows 2 (splice ((H.push (.rows 2 (pad 2 c_2 ((((H.get a0j).xs.drop 0).take a1.toNat) ++ (List.replicate ((subW .i64 (addW .i64 ((a0n : Nat) : Int) (lenI a2)) a1).toNat) ([.str (⟨#[]⟩ : ByteArray), .str (⟨#[]⟩ : ByteArray)] : List AV)))))).get H.next).xs (0 + a1.toNat) (a2.take ((((a1.toNat + ((List.replicate ((subW .i64 (addW .i64 ((a0n : Nat) : Int) (lenI a2)) a1).toNat) ([.str (⟨#[]⟩ : ByteArray), .str (⟨#[]⟩ : ByteArray)] : List AV)).length) : Nat) : Int).toNat) - a1.toNat))))).get H.next).xs (0 + ((addW .i64 a1 (lenI a2)).toNat)) ((((((H.push (.rows 2 (pad 2 c_2 ((((H.get a0j).xs.drop 0).take a1.toNat) ++ (List.replicate ((subW .i64 (addW .i64 ((a0n : Nat) : Int) (lenI a2)) a1).toNat) ([.str (⟨#[]⟩ : ByteArray), .str (⟨#[]⟩ : ByteArray)] : List AV)))))).set H.next (.rows 2 (splice ((H.push (.rows 2 (pad 2 c_2 ((((H.get a0j).xs.drop 0).take a1.toNat) ++ (List.replicate ((subW .i64 (addW .i64 ((a0n : Nat) : Int) (lenI a2)) a1).toNat) ([.str (⟨#[]⟩ : ByteArray), .str (⟨#[]⟩ : ByteArray)] : List AV)))))).get H.next).xs (0 + a1.toNat) (a2.take ((((a1.toNat + ((List.replicate ((subW .i64 (addW .i64 ((a0n : Nat) : Int) (lenI a2)) a1).toNat) ([.str (⟨#[]⟩ : ByteArray), .str (⟨#[]⟩ : ByteArray)] : List AV)).length) : Nat) : Int).toNat) - a1.toNat))))).get a0j).xs.drop (0 + a1.toNat)).take (a0n - a1.toNat)).take ((((a1.toNat + ((List.replicate ((subW .i64 (addW .i64 ((a0n : Nat) : Int) (lenI a2)) a1).toNat) ([.str (⟨#[]⟩ : ByteArray), .str (⟨#[]⟩ : ByteArray)] : List AV)).length) : Nat) : Int).toNat) - ((addW .i64 a1 (lenI a2)).toNat)))))))))))))))))))))))))))))))))))
      (G (leI 0 (addW .i64 ((a0n : Nat) : Int) (lenI a2))) (G (leI (addW .i64 ((a0n : Nat) : Int) (lenI a2)) ((a0c : Nat) : Int)) (G (leI ((a0c : Nat) : Int) ((a0c : Nat) : Int)) (G (leI 0 (addW .i64 a1 (lenI a2))) (G (leI (addW .i64 a1 (lenI a2)) (((addW .i64 ((a0n : Nat) : Int) (lenI a2)).toNat : Nat) : Int)) (G (leI (((addW .i64 ((a0n : Nat) : Int) (lenI a2)).toNat : Nat) : Int) ((a0c : Nat) : Int)) (G (leI ((a0c : Nat) : Int) ((a0c : Nat) : Int)) (G ((H.get a0j).isRows 2) (G (leI 0 (addW .i64 a1 (lenI a2))) (G (leI (addW .i64 a1 (lenI a2)) (((addW .i64 ((a0n : Nat) : Int) (lenI a2)).toNat : Nat) : Int)) (G (leI (((addW .i64 ((a0n : Nat) : Int) (lenI a2)).toNat : Nat) : Int) ((a0c : Nat) : Int)) (G (leI ((a0c : Nat) : Int) ((a0c : Nat) : Int)) (G (leI 0 a1) (G (leI a1 (((addW .i64 ((a0n : Nat) : Int) (lenI a2)).toNat : Nat) : Int)) (G (leI (((addW .i64 ((a0n : Nat) : Int) (lenI a2)).toNat : Nat) : Int) ((a0c : Nat) : Int)) (G (leI ((a0c : Nat) : Int) ((a0c : Nat) : Int)) (G ((H.get a0j).isRows 2) (G (Nat.ble ((0 + ((addW .i64 a1 (lenI a2)).toNat)) + (((((addW .i64 ((a0n : Nat) : Int) (lenI a2)).toNat : Nat) : Int).toNat) - ((addW .i64 a1 (lenI a2)).toNat))) (H.get a0j).xs.length) (G ((H.get a0j).isRows 2) (G (Nat.ble ((0 + a1.toNat) + (((((addW .i64 ((a0n : Nat) : Int) (lenI a2)).toNat : Nat) : Int).toNat) - a1.toNat)) (H.get a0j).xs.length) (G (leI 0 a1) (G (leI a1 (((addW .i64 ((a0n : Nat) : Int) (lenI a2)).toNat : Nat) : Int)) (G (leI (((addW .i64 ((a0n : Nat) : Int) (lenI a2)).toNat : Nat) : Int) ((a0c : Nat) : Int)) (G (leI ((a0c : Nat) : Int) ((a0c : Nat) : Int)) (G (((H.set a0j (.rows 2 (splice (H.get a0j).xs (0 + ((addW .i64 a1 (lenI a2)).toNat)) ((((H.get a0j).xs.drop (0 + a1.toNat)).take (((((addW .i64 ((a0n : Nat) : Int) (lenI a2)).toNat : Nat) : Int).toNat) - a1.toNat)).take (((((addW .i64 ((a0n : Nat) : Int) (lenI a2)).toNat : Nat) : Int).toNat) - ((addW .i64 a1 (lenI a2)).toNat)))))).get a0j).isRows 2) (G (Nat.ble ((0 + a1.toNat) + (((((addW .i64 ((a0n : Nat) : Int) (lenI a2)).toNat : Nat) : Int).toNat) - a1.toNat)) ((H.set a0j (.rows 2 (splice (H.get a0j).xs (0 + ((addW .i64 a1 (lenI a2)).toNat)) ((((H.get a0j).xs.drop (0 + a1.toNat)).take (((((addW .i64 ((a0n : Nat) : Int) (lenI a2)).toNat : Nat) : Int).toNat) - a1.toNat)).take (((((addW .i64 ((a0n : Nat) : Int) (lenI a2)).toNat : Nat) : Int).toNat) - ((addW .i64 a1 (lenI a2)).toNat)))))).get a0j).xs.length) (Q (.hs a0j 0 ((addW .i64 ((a0n : Nat) : Int) (lenI a2)).toNat) a0c 2) ((H.set a0j (.rows 2 (splice (H.get a0j).xs (0 + ((addW .i64 a1 (lenI a2)).toNat)) ((((H.get a0j).xs.drop (0 + a1.toNat)).take (((((addW .i64 ((a0n : Nat) : Int) (lenI a2)).toNat : Nat) : Int).toNat) - a1.toNat)).take (((((addW .i64 ((a0n : Nat) : Int) (lenI a2)).toNat : Nat) : Int).toNat) - ((addW .i64 a1 (lenI a2)).toNat)))))).set a0j (.rows 2 (splice ((H.set a0j (.rows 2 (splice (H.get a0j).xs (0 + ((addW .i64 a1 (lenI a2)).toNat)) ((((H.get a0j).xs.drop (0 + a1.toNat)).take (((((addW .i64 ((a0n : Nat) : Int) (lenI a2)).toNat : Nat) : Int).toNat) - a1.toNat)).take (((((addW .i64 ((a0n : Nat) : Int) (lenI a2)).toNat : Nat) : Int).toNat) - ((addW .i64 a1 (lenI a2)).toNat)))))).get a0j).xs (0 + a1.toNat) (a2.take (((((addW .i64 ((a0n : Nat) : Int) (lenI a2)).toNat : Nat) : Int).toNat) - a1.toNat))))))))))))))))))))))))))))))))))))))
theorem t_eq (a0j a0n a0c : Nat) (a1 : Int) (a2 : List (List AV)) (H : Heap) (Q : Qt) : aBody E0 C 57 [.hs a0j 0 a0n a0c 2, .int .i64 a1, .sl 0 2 a2] H Q = t a0j a0n a0c a1 a2 H Q := by kernel_rfl
theorem call {a0j a0n a0c : Nat} {a1 : Int} {a2 : List (List AV)} {H : Heap} {Q : Qt} (h : t a0j a0n a0c a1 a2 H Q) : C 57 [.hs a0j 0 a0n a0c 2, .int .i64 a1, .sl 0 2 a2] H Q := Call_told (E := E0) (t_eq a0j a0n a0c a1 a2 H Q) h
end F57h
/-! ### slices.Insert[[]broker/api.Prop,broker/api.Prop]: function 57n -/
namespace F57n
def t (a1 : Int) (a2 : List (List AV)) (H : Heap) (Q : Qt) : Prop :=
  G (eqI a1 0) (cond (eqI (lenI a2) 0)
  (Q (.nilsl) H)
  (cond (eqI a1 0)
    (G (room [] a2 32) (Q (.sl 1 2 a2) H))
    (cond (ltI 0 (addW .i64 0 (lenI a2)))
      (G (eqI a1 0) (False))
      (G (eqI (addW .i64 0 (lenI a2)) 0) (G (eqI (addW .i64 a1 (lenI a2)) 0) (G (eqI (addW .i64 a1 (lenI a2)) 0) (G (eqI a1 0) (G (eqI a1 0) (Q (.nilsl) H)))))))))
theorem t_eq (a1 : Int) (a2 : List (List AV)) (H : Heap) (Q : Qt) : aBody E0 C 57 [.nilsl, .int .i64 a1, .sl 0 2 a2] H Q = t a1 a2 H Q := by kernel_rfl
theorem call {a1 : Int} {a2 : List (List AV)} {H : Heap} {Q : Qt} (h : t a1 a2 H Q) : C 57 [.nilsl, .int .i64 a1, .sl 0 2 a2] H Q := Call_told (E := E0) (t_eq a1 a2 H Q) h
end F57n
/-! ### strings.explode: function 58 -/
namespace F58
def K0 (Q : Qt) : Ex → St → Prop := (contK E0 C (E0.L 58) [.block 0 0, .seq (codeAt (bodyOf E0 58) [1, 1, 1, 1, 1]) 1] (finK E0 58 Q))
def L0 (a0 : ByteArray) (a1 : Int) (Q : Qt) (x0s : ByteArray) (x1n : Int) (x6a : List (List AV)) (x7i : Int) (Hh : Heap) : Prop := ALoop (fun K s => awp E0 C (E0.L 58) (codeAt (bodyOf E0 58) [1, 1, 1, 1, 0, 1, 0, 0]) 1 s K) (clean [(0, 0), (1, 0), (6, 0), (7, 0)] 0) (K0 Q) ⟨stt 50 [(0, .str x0s), (1, .int .i64 x1n), (6, .sl 1 1 x6a), (7, .int .i64 x7i)], [], Hh⟩
def r0 (a0 : ByteArray) (a1 : Int) (Q : Qt) (x0s : ByteArray) (x1n : Int) (x6a : List (List AV)) (x7i : Int) (Hh : Heap) : Prop :=
  cond (ltI x7i (subW .i64 x1n 1))
  (C 73 [.str x0s] Hh.none fun v_3 H_4 =>
    G ((v_3).isTup && Nat.beq (v_3).tupVs.length 2) (G ((((v_3).tupVs).headD .any).isInt .i32) (G (((((v_3).tupVs).tail).headD .any).isInt .i64) (G (leI 0 (((((v_3).tupVs).tail).headD .any).toInt)) (G (leI (((((v_3).tupVs).tail).headD .any).toInt) (sizeI x0s)) (G (leI 0 x7i) (G (ltI x7i (lenI x6a)) (G (leI 0 (((((v_3).tupVs).tail).headD .any).toInt)) (G (leI (((((v_3).tupVs).tail).headD .any).toInt) (sizeI x0s)) (G (leI (sizeI x0s) (sizeI x0s)) (L0 a0 a1 Q (x0s.extract ((((((v_3).tupVs).tail).headD .any).toInt).toNat) ((sizeI x0s).toNat)) x1n (x6a.set x7i.toNat ((ro x6a x7i.toNat).set 0 (.str (x0s.extract 0 ((((((v_3).tupVs).tail).headD .any).toInt).toNat))))) (addW .i64 x7i 1) (Hh.past H_4))))))))))))
  (cond (ltI 0 x1n)
    (G (leI 0 (subW .i64 x1n 1)) (G (ltI (subW .i64 x1n 1) (lenI x6a)) (Q (.sl 0 1 (x6a.set ((subW .i64 x1n 1).toNat) ((ro x6a ((subW .i64 x1n 1).toNat)).set 0 (.str x0s)))) Hh)))
    (Q (.sl 0 1 x6a) Hh))
theorem r0_eq (a0 : ByteArray) (a1 : Int) (Q : Qt) (x0s : ByteArray) (x1n : Int) (x6a : List (List AV)) (x7i : Int) (Hh : Heap) : (fun K s => awp E0 C (E0.L 58) (codeAt (bodyOf E0 58) [1, 1, 1, 1, 0, 1, 0, 0]) 1 s K) (ALoopK (fun K s => awp E0 C (E0.L 58) (codeAt (bodyOf E0 58) [1, 1, 1, 1, 0, 1, 0, 0]) 1 s K) (clean [(0, 0), (1, 0), (6, 0), (7, 0)] 0) (K0 Q)) ⟨stt 50 [(0, .str x0s), (1, .int .i64 x1n), (6, .sl 1 1 x6a), (7, .int .i64 x7i)], [], Hh⟩ = r0 a0 a1 Q x0s x1n x6a x7i Hh := by kernel_rfl
theorem L0_step {a0 : ByteArray} {a1 : Int} {Q : Qt} {x0s : ByteArray} {x1n : Int} {x6a : List (List AV)} {x7i : Int} {Hh : Heap} (h : r0 a0 a1 Q x0s x1n x6a x7i Hh) : L0 a0 a1 Q x0s x1n x6a x7i Hh := ALoop_told (r0_eq a0 a1 Q x0s x1n x6a x7i Hh) h
def t (a0 : ByteArray) (a1 : Int) (H : Heap) (Q : Qt) : Prop :=
  C 72 [.str a0] H.none fun v_1 H_2 =>
  G ((v_1).isInt .i64) (cond (ltI a1 0)
    (G (leI 0 ((v_1).toInt)) (G (eqI ((v_1).toInt) ((v_1).toInt)) (G (roomN ((v_1).toInt) 16) (L0 a0 a1 Q a0 ((v_1).toInt) (List.replicate (((v_1).toInt).toNat) ([.str (⟨#[]⟩ : ByteArray)] : List AV)) 0 (H.past H_2)))))
    (cond (ltI ((v_1).toInt) a1)
      (G (leI 0 ((v_1).toInt)) (G (eqI ((v_1).toInt) ((v_1).toInt)) (G (roomN ((v_1).toInt) 16) (L0 a0 a1 Q a0 ((v_1).toInt) (List.replicate (((v_1).toInt).toNat) ([.str (⟨#[]⟩ : ByteArray)] : List AV)) 0 (H.past H_2)))))
      (G (leI 0 a1) (G (eqI a1 a1) (G (roomN a1 16) (L0 a0 a1 Q a0 a1 (List.replicate a1.toNat ([.str (⟨#[]⟩ : ByteArray)] : List AV)) 0 (H.past H_2)))))))
theorem t_eq (a0 : ByteArray) (a1 : Int) (H : Heap) (Q : Qt) : aBody E0 C 58 [.str a0, .int .i64 a1] H Q = t a0 a1 H Q := by kernel_rfl
theorem call {a0 : ByteArray} {a1 : Int} {H : Heap} {Q : Qt} (h : t a0 a1 H Q) : C 58 [.str a0, .int .i64 a1] H Q := Call_told (E := E0) (t_eq a0 a1 H Q) h
end F58
/-! ### strings.Index: function 60 -/
namespace F60
def t (a0 a1 : ByteArray) (H : Heap) (Q : Qt) : Prop :=
  C 61 [.str a0, .str a1] H.none fun v_1 H_2 =>
  G ((v_1).isInt .i64) (Q (.int .i64 ((v_1).toInt)) (H.past H_2))
theorem t_eq (a0 a1 : ByteArray) (H : Heap) (Q : Qt) : aBody E0 C 60 [.str a0, .str a1] H Q = t a0 a1 H Q := by kernel_rfl
theorem call {a0 a1 : ByteArray} {H : Heap} {Q : Qt} (h : t a0 a1 H Q) : C 60 [.str a0, .str a1] H Q := Call_told (E := E0) (t_eq a0 a1 H Q) h
end F60
/-! ### broker/brokerref01.sized: function 63 -/
namespace F63
def t (a0 : ByteArray) (H : Heap) (Q : Qt) : Prop :=
  cond (leI 1 (sizeI a0))
  (cond (leI (sizeI a0) 64)
    (C 64 [.str a0, .int .u8 0] H.none fun v_1 H_2 =>
      G ((v_1).isBool) (cond (!((v_1).toBool))
        (C 83 [.str a0] ((H.past H_2).none) fun v_3 H_4 =>
          G ((v_3).isSl 1) (Q (.bool (leI (lenI ((v_3).slXs)) 8)) (H.past H_4)))
        (Q (.bool false) (H.past H_2))))
    (Q (.bool false) H))
  (Q (.bool false) H)
theorem t_eq (a0 : ByteArray) (H : Heap) (Q : Qt) : aBody E0 C 63 [.str a0] H Q = t a0 H Q := by kernel_rfl
theorem call {a0 : ByteArray} {H : Heap} {Q : Qt} (h : t a0 H Q) : C 63 [.str a0] H Q := Call_told (E := E0) (t_eq a0 H Q) h
end F63
/-! ### broker/brokerref01.Has: function 64 -/
namespace F64
def K0 (Q : Qt) : Ex → St → Prop := (contK E0 C (E0.L 64) [.block 0 0, .seq (codeAt (bodyOf E0 64) [1, 1]) 1] (finK E0 64 Q))
def L0 (a0 : ByteArray) (a1 : Int) (Q : Qt) (x5i : Int) (Hh : Heap) : Prop := ALoop (fun K s => awp E0 C (E0.L 64) (codeAt (bodyOf E0 64) [1, 0, 1, 0, 0]) 1 s K) (clean [(0, 0), (1, 0), (5, 0)] 0) (K0 Q) ⟨stt 17 [(0, .str a0), (1, .int .u8 a1), (5, .int .i64 x5i)], [], Hh⟩
def r0 (a0 : ByteArray) (a1 : Int) (Q : Qt) (x5i : Int) (Hh : Heap) : Prop :=
  cond (ltI x5i (sizeI a0))
  (G (leI 0 x5i) (G (ltI x5i (sizeI a0)) (cond (eqI (bt a0 x5i) a1)
    (Q (.bool true) Hh)
    (L0 a0 a1 Q (addW .i64 x5i 1) Hh))))
  (Q (.bool false) Hh)
theorem r0_eq (a0 : ByteArray) (a1 : Int) (Q : Qt) (x5i : Int) (Hh : Heap) : (fun K s => awp E0 C (E0.L 64) (codeAt (bodyOf E0 64) [1, 0, 1, 0, 0]) 1 s K) (ALoopK (fun K s => awp E0 C (E0.L 64) (codeAt (bodyOf E0 64) [1, 0, 1, 0, 0]) 1 s K) (clean [(0, 0), (1, 0), (5, 0)] 0) (K0 Q)) ⟨stt 17 [(0, .str a0), (1, .int .u8 a1), (5, .int .i64 x5i)], [], Hh⟩ = r0 a0 a1 Q x5i Hh := by kernel_rfl
theorem L0_step {a0 : ByteArray} {a1 : Int} {Q : Qt} {x5i : Int} {Hh : Heap} (h : r0 a0 a1 Q x5i Hh) : L0 a0 a1 Q x5i Hh := ALoop_told (r0_eq a0 a1 Q x5i Hh) h
def t (a0 : ByteArray) (a1 : Int) (H : Heap) (Q : Qt) : Prop :=
  L0 a0 a1 Q 0 H
theorem t_eq (a0 : ByteArray) (a1 : Int) (H : Heap) (Q : Qt) : aBody E0 C 64 [.str a0, .int .u8 a1] H Q = t a0 a1 H Q := by kernel_rfl
theorem call {a0 : ByteArray} {a1 : Int} {H : Heap} {Q : Qt} (h : t a0 a1 H Q) : C 64 [.str a0, .int .u8 a1] H Q := Call_told (E := E0) (t_eq a0 a1 H Q) h
end F64
/-! ### broker/brokerref05.Key: function 65 -/
namespace F65
def K0 (Q : Qt) : Ex → St → Prop := (contK E0 C (E0.L 65) [.block 0 0, .seq (codeAt (bodyOf E0 65) [1, 1, 1]) 1] (finK E0 65 Q))
def L0 (a0 : ByteArray) (Q : Qt) (x3i : Int) (Hh : Heap) : Prop := ALoop (fun K s => awp E0 C (E0.L 65) (codeAt (bodyOf E0 65) [1, 1, 0, 1, 0, 0]) 1 s K) (clean [(0, 0), (3, 0)] 0) (K0 Q) ⟨stt 42 [(0, .str a0), (3, .int .i64 x3i)], [], Hh⟩
def JR7 (a0 : ByteArray) (Q : Qt) (x3i : Int) (x41 : Bool) (Hh : Heap) : Prop := AJoin (contK E0 C (E0.L 65) [.seq (codeAt (bodyOf E0 65) [1, 1, 0, 1, 0, 0, 1, 0, 0, 1, 1]) 1, .block 1 0, .seq (codeAt (bodyOf E0 65) [1, 1, 0, 1, 0, 0, 1, 1]) 1, .loop (codeAt (bodyOf E0 65) [1, 1, 0, 1, 0, 0]) 1 [(0, 0), (3, 0)] 0, .block 0 0, .seq (codeAt (bodyOf E0 65) [1, 1, 1]) 1] (finK E0 65 Q)) ⟨stt 42 [(0, .str a0), (3, .int .i64 x3i), (41, .bool x41)], [], Hh⟩
def r0 (a0 : ByteArray) (Q : Qt) (x3i : Int) (Hh : Heap) : Prop :=
  cond (ltI x3i (sizeI a0))
  (G (leI 0 x3i) (G (ltI x3i (sizeI a0)) (cond (leI 97 (bt a0 x3i))
    (cond (!(leI (bt a0 x3i) 122))
      (cond (leI 48 (bt a0 x3i))
        (cond (!(leI (bt a0 x3i) 57))
          (JR7 a0 Q x3i (!(eqI (bt a0 x3i) 45)) Hh)
          (JR7 a0 Q x3i false Hh))
        (JR7 a0 Q x3i (!(eqI (bt a0 x3i) 45)) Hh))
      (JR7 a0 Q x3i false Hh))
    (cond (leI 48 (bt a0 x3i))
      (cond (!(leI (bt a0 x3i) 57))
        (JR7 a0 Q x3i (!(eqI (bt a0 x3i) 45)) Hh)
        (JR7 a0 Q x3i false Hh))
      (JR7 a0 Q x3i (!(eqI (bt a0 x3i) 45)) Hh)))))
  (Q (.bool true) Hh)
theorem r0_eq (a0 : ByteArray) (Q : Qt) (x3i : Int) (Hh : Heap) : (fun K s => awp E0 C (E0.L 65) (codeAt (bodyOf E0 65) [1, 1, 0, 1, 0, 0]) 1 s K) (ALoopK (fun K s => awp E0 C (E0.L 65) (codeAt (bodyOf E0 65) [1, 1, 0, 1, 0, 0]) 1 s K) (clean [(0, 0), (3, 0)] 0) (K0 Q)) ⟨stt 42 [(0, .str a0), (3, .int .i64 x3i)], [], Hh⟩ = r0 a0 Q x3i Hh := by kernel_rfl
theorem L0_step {a0 : ByteArray} {Q : Qt} {x3i : Int} {Hh : Heap} (h : r0 a0 Q x3i Hh) : L0 a0 Q x3i Hh := ALoop_told (r0_eq a0 Q x3i Hh) h
def jR7 (a0 : ByteArray) (Q : Qt) (x3i : Int) (x41 : Bool) (Hh : Heap) : Prop :=
  cond x41
  (Q (.bool false) Hh)
  (L0 a0 Q (addW .i64 x3i 1) Hh)
theorem JR7_eq (a0 : ByteArray) (Q : Qt) (x3i : Int) (x41 : Bool) (Hh : Heap) : contK E0 C (E0.L 65) [.seq (codeAt (bodyOf E0 65) [1, 1, 0, 1, 0, 0, 1, 0, 0, 1, 1]) 1, .block 1 0, .seq (codeAt (bodyOf E0 65) [1, 1, 0, 1, 0, 0, 1, 1]) 1, .loop (codeAt (bodyOf E0 65) [1, 1, 0, 1, 0, 0]) 1 [(0, 0), (3, 0)] 0, .block 0 0, .seq (codeAt (bodyOf E0 65) [1, 1, 1]) 1] (finK E0 65 Q) .normal ⟨stt 42 [(0, .str a0), (3, .int .i64 x3i), (41, .bool x41)], [], Hh⟩ = jR7 a0 Q x3i x41 Hh := by kernel_rfl
theorem JR7_step {a0 : ByteArray} {Q : Qt} {x3i : Int} {x41 : Bool} {Hh : Heap} (h : jR7 a0 Q x3i x41 Hh) : JR7 a0 Q x3i x41 Hh := AJoin_told (JR7_eq a0 Q x3i x41 Hh) h
def t (a0 : ByteArray) (H : Heap) (Q : Qt) : Prop :=
  cond (ltI (sizeI a0) 1)
  (Q (.bool false) H)
  (cond (ltI 16 (sizeI a0))
    (Q (.bool false) H)
    (L0 a0 Q 0 H))
theorem t_eq (a0 : ByteArray) (H : Heap) (Q : Qt) : aBody E0 C 65 [.str a0] H Q = t a0 H Q := by kernel_rfl
theorem call {a0 : ByteArray} {H : Heap} {Q : Qt} (h : t a0 H Q) : C 65 [.str a0] H Q := Call_told (E := E0) (t_eq a0 H Q) h
end F65
/-! ### slices.IndexFunc[[]broker/api.Prop,broker/api.Prop]: function 66 -/
namespace F66
def K0 (Q : Qt) : Ex → St → Prop := (contK E0 C (E0.L 66) [.block 0 0, .seq (codeAt (bodyOf E0 66) [1, 1]) 1] (finK E0 66 Q))
def L0 (a0 : List (List AV)) (a1q0 : List AV) (Q : Qt) (x8 : Int) (Hh : Heap) : Prop := ALoop (fun K s => awp E0 C (E0.L 66) (codeAt (bodyOf E0 66) [1, 0, 1, 0, 0]) 1 s K) (clean [(0, 0), (1, 0), (7, 0), (8, 0)] 0) (K0 Q) ⟨stt 19 [(0, .sl 0 2 a0), (1, .fn 51 [.rp a1q0 0]), (7, .int .i64 (lenI a0)), (8, .int .i64 x8)], [], Hh⟩
def r0 (a0 : List (List AV)) (a1q0 : List AV) (Q : Qt) (x8 : Int) (Hh : Heap) : Prop :=
  cond (ltI x8 (lenI a0))
  (G (leI 0 x8) (G (ltI x8 (lenI a0)) (G ((ce (ro a0 x8.toNat) 0).isStr) (G ((ce (ro a0 x8.toNat) 1).isStr) (C 51 [.agg [.str ((ce (ro a0 x8.toNat) 0).toStr), .str ((ce (ro a0 x8.toNat) 1).toStr)], .rp a1q0 0] Hh.none fun v_1 H_2 =>
    G ((v_1).isBool) (cond ((v_1).toBool)
      (Q (.int .i64 x8) (Hh.past H_2))
      (L0 a0 a1q0 Q (addW .i64 x8 1) (Hh.past H_2))))))))
  (Q (.int .i64 (-1)) Hh)
theorem r0_eq (a0 : List (List AV)) (a1q0 : List AV) (Q : Qt) (x8 : Int) (Hh : Heap) : (fun K s => awp E0 C (E0.L 66) (codeAt (bodyOf E0 66) [1, 0, 1, 0, 0]) 1 s K) (ALoopK (fun K s => awp E0 C (E0.L 66) (codeAt (bodyOf E0 66) [1, 0, 1, 0, 0]) 1 s K) (clean [(0, 0), (1, 0), (7, 0), (8, 0)] 0) (K0 Q)) ⟨stt 19 [(0, .sl 0 2 a0), (1, .fn 51 [.rp a1q0 0]), (7, .int .i64 (lenI a0)), (8, .int .i64 x8)], [], Hh⟩ = r0 a0 a1q0 Q x8 Hh := by kernel_rfl
theorem L0_step {a0 : List (List AV)} {a1q0 : List AV} {Q : Qt} {x8 : Int} {Hh : Heap} (h : r0 a0 a1q0 Q x8 Hh) : L0 a0 a1q0 Q x8 Hh := ALoop_told (r0_eq a0 a1q0 Q x8 Hh) h
def t (a0 : List (List AV)) (a1q0 : List AV) (H : Heap) (Q : Qt) : Prop :=
  L0 a0 a1q0 Q 0 H
theorem t_eq (a0 : List (List AV)) (a1q0 : List AV) (H : Heap) (Q : Qt) : aBody E0 C 66 [.sl 0 2 a0, .fn 51 [.rp a1q0 0]] H Q = t a0 a1q0 H Q := by kernel_rfl
theorem call {a0 : List (List AV)} {a1q0 : List AV} {H : Heap} {Q : Qt} (h : t a0 a1q0 H Q) : C 66 [.sl 0 2 a0, .fn 51 [.rp a1q0 0]] H Q := Call_told (E := E0) (t_eq a0 a1q0 H Q) h
end F66
/-! ### slices.pdqsortCmpFunc[broker/api.Prop]: function 67h -/
namespace F67h
def K0 (Q : Qt) : Ex → St → Prop := (contK E0 C (E0.L 67) [.block 0 0] (finK E0 67 Q))
def L0 (a0j a0n a0c : Nat) (a1 a2 a3 : Int) (Q : Qt) (x1a x2b x3limit : Int) (x10wasBalanced x11wasPartitioned : Bool) (Hh : Heap) : Prop := ALoop (fun K s => awp E0 C (E0.L 67) (codeAt (bodyOf E0 67) [1, 1, 0, 0]) 1 s K) (clean [(0, 0), (1, 0), (2, 0), (3, 0), (4, 0), (10, 0), (11, 0)] 0) (K0 Q) ⟨stt 148 [(0, .hs a0j 0 a0n a0c 2), (1, .int .i64 x1a), (2, .int .i64 x2b), (3, .int .i64 x3limit), (4, .fn 53 []), (10, .bool x10wasBalanced), (11, .bool x11wasPartitioned)], [], Hh⟩
def JR15 (a0j a0n a0c : Nat) (a1 a2 a3 : Int) (Q : Qt) (x1a x2b x3limit : Int) (x10wasBalanced x11wasPartitioned : Bool) (x12length x13pivot : Int) (x75 : Bool) (Hh : Heap) : Prop := AJoin (contK E0 C (E0.L 67) [.seq (codeAt (bodyOf E0 67) [1, 1, 0, 0, 0, 1, 1, 1, 1, 1, 1, 0, 1]) 1, .seq (codeAt (bodyOf E0 67) [1, 1, 0, 0, 0, 1, 1, 1, 1, 1, 1, 1]) 1, .block 1 0, .loop (codeAt (bodyOf E0 67) [1, 1, 0, 0]) 1 [(0, 0), (1, 0), (2, 0), (3, 0), (4, 0), (10, 0), (11, 0)] 0, .block 0 0] (finK E0 67 Q)) ⟨stt 148 [(0, .hs a0j 0 a0n a0c 2), (1, .int .i64 x1a), (2, .int .i64 x2b), (3, .int .i64 x3limit), (4, .fn 53 []), (10, .bool x10wasBalanced), (11, .bool x11wasPartitioned), (12, .int .i64 x12length), (13, .int .i64 x13pivot), (75, .bool x75)], [], Hh⟩
def r0 (a0j a0n a0c : Nat) (a1 a2 a3 : Int) (Q : Qt) (x1a x2b x3limit : Int) (x10wasBalanced x11wasPartitioned : Bool) (Hh : Heap) : Prop :=
  cond (leI (subW .i64 x2b x1a) 12)
  (C 84 [.hs a0j 0 a0n a0c 2, .int .i64 x1a, .int .i64 x2b, .fn 53 []] Hh fun v_1 H_2 =>
    G ((v_1).isTup && Nat.beq (v_1).tupVs.length 0) (Q (.tup []) H_2))
  (cond (eqI x3limit 0)
    (C 85 [.hs a0j 0 a0n a0c 2, .int .i64 x1a, .int .i64 x2b, .fn 53 []] Hh fun v_3 H_4 =>
      G ((v_3).isTup && Nat.beq (v_3).tupVs.length 0) (Q (.tup []) H_4))
    (cond (!x10wasBalanced)
      (C 86 [.hs a0j 0 a0n a0c 2, .int .i64 x1a, .int .i64 x2b, .fn 53 []] Hh fun v_5 H_6 =>
        G ((v_5).isTup && Nat.beq (v_5).tupVs.length 0) (G (List.all [.hs a0j 0 a0n a0c 2, .int .i64 x1a, .int .i64 x2b, .fn 53 []] (hsOk H_6)) (C 87 [.sl 0 2 (((H_6.get a0j).xs.drop 0).take a0n), .int .i64 x1a, .int .i64 x2b, .fn 53 []] H_6.none fun v_7 H_8 =>
          G ((v_7).isTup && Nat.beq (v_7).tupVs.length 2) (G ((((v_7).tupVs).headD .any).isInt .i64) (G (((((v_7).tupVs).tail).headD .any).isInt .i64) (cond (eqI (((((v_7).tupVs).tail).headD .any).toInt) 2)
            (C 88 [.hs a0j 0 a0n a0c 2, .int .i64 x1a, .int .i64 x2b, .fn 53 []] (H_6.past H_8) fun v_9 H_10 =>
              G ((v_9).isTup && Nat.beq (v_9).tupVs.length 0) (cond x10wasBalanced
                (cond x11wasPartitioned
                  (JR15 a0j a0n a0c a1 a2 a3 Q x1a x2b (subW .i64 x3limit 1) x10wasBalanced x11wasPartitioned (subW .i64 x2b x1a) (subW .i64 (subW .i64 x2b 1) (subW .i64 ((((v_7).tupVs).headD .any).toInt) x1a)) true H_10)
                  (JR15 a0j a0n a0c a1 a2 a3 Q x1a x2b (subW .i64 x3limit 1) x10wasBalanced x11wasPartitioned (subW .i64 x2b x1a) (subW .i64 (subW .i64 x2b 1) (subW .i64 ((((v_7).tupVs).headD .any).toInt) x1a)) false H_10))
                (JR15 a0j a0n a0c a1 a2 a3 Q x1a x2b (subW .i64 x3limit 1) x10wasBalanced x11wasPartitioned (subW .i64 x2b x1a) (subW .i64 (subW .i64 x2b 1) (subW .i64 ((((v_7).tupVs).headD .any).toInt) x1a)) false H_10)))
            (cond x10wasBalanced
              (cond x11wasPartitioned
                (JR15 a0j a0n a0c a1 a2 a3 Q x1a x2b (subW .i64 x3limit 1) x10wasBalanced x11wasPartitioned (subW .i64 x2b x1a) ((((v_7).tupVs).headD .any).toInt) (eqI (((((v_7).tupVs).tail).headD .any).toInt) 1) (H_6.past H_8))
                (JR15 a0j a0n a0c a1 a2 a3 Q x1a x2b (subW .i64 x3limit 1) x10wasBalanced x11wasPartitioned (subW .i64 x2b x1a) ((((v_7).tupVs).headD .any).toInt) false (H_6.past H_8)))
              (JR15 a0j a0n a0c a1 a2 a3 Q x1a x2b (subW .i64 x3limit 1) x10wasBalanced x11wasPartitioned (subW .i64 x2b x1a) ((((v_7).tupVs).headD .any).toInt) false (H_6.past H_8)))))))))
      (G (List.all [.hs a0j 0 a0n a0c 2, .int .i64 x1a, .int .i64 x2b, .fn 53 []] (hsOk Hh)) (C 87 [.sl 0 2 (((Hh.get a0j).xs.drop 0).take a0n), .int .i64 x1a, .int .i64 x2b, .fn 53 []] Hh.none fun v_11 H_12 =>
        G ((v_11).isTup && Nat.beq (v_11).tupVs.length 2) (G ((((v_11).tupVs).headD .any).isInt .i64) (G (((((v_11).tupVs).tail).headD .any).isInt .i64) (cond (eqI (((((v_11).tupVs).tail).headD .any).toInt) 2)
          (C 88 [.hs a0j 0 a0n a0c 2, .int .i64 x1a, .int .i64 x2b, .fn 53 []] (Hh.past H_12) fun v_13 H_14 =>
            G ((v_13).isTup && Nat.beq (v_13).tupVs.length 0) (cond x10wasBalanced
              (cond x11wasPartitioned
                (JR15 a0j a0n a0c a1 a2 a3 Q x1a x2b x3limit x10wasBalanced x11wasPartitioned (subW .i64 x2b x1a) (subW .i64 (subW .i64 x2b 1) (subW .i64 ((((v_11).tupVs).headD .any).toInt) x1a)) true H_14)
                (JR15 a0j a0n a0c a1 a2 a3 Q x1a x2b x3limit x10wasBalanced x11wasPartitioned (subW .i64 x2b x1a) (subW .i64 (subW .i64 x2b 1) (subW .i64 ((((v_11).tupVs).headD .any).toInt) x1a)) false H_14))
              (JR15 a0j a0n a0c a1 a2 a3 Q x1a x2b x3limit x10wasBalanced x11wasPartitioned (subW .i64 x2b x1a) (subW .i64 (subW .i64 x2b 1) (subW .i64 ((((v_11).tupVs).headD .any).toInt) x1a)) false H_14)))
          (cond x10wasBalanced
            (cond x11wasPartitioned
              (JR15 a0j a0n a0c a1 a2 a3 Q x1a x2b x3limit x10wasBalanced x11wasPartitioned (subW .i64 x2b x1a) ((((v_11).tupVs).headD .any).toInt) (eqI (((((v_11).tupVs).tail).headD .any).toInt) 1) (Hh.past H_12))
              (JR15 a0j a0n a0c a1 a2 a3 Q x1a x2b x3limit x10wasBalanced x11wasPartitioned (subW .i64 x2b x1a) ((((v_11).tupVs).headD .any).toInt) false (Hh.past H_12)))
            (JR15 a0j a0n a0c a1 a2 a3 Q x1a x2b x3limit x10wasBalanced x11wasPartitioned (subW .i64 x2b x1a) ((((v_11).tupVs).headD .any).toInt) false (Hh.past H_12))))))))))
theorem r0_eq (a0j a0n a0c : Nat) (a1 a2 a3 : Int) (Q : Qt) (x1a x2b x3limit : Int) (x10wasBalanced x11wasPartitioned : Bool) (Hh : Heap) : (fun K s => awp E0 C (E0.L 67) (codeAt (bodyOf E0 67) [1, 1, 0, 0]) 1 s K) (ALoopK (fun K s => awp E0 C (E0.L 67) (codeAt (bodyOf E0 67) [1, 1, 0, 0]) 1 s K) (clean [(0, 0), (1, 0), (2, 0), (3, 0), (4, 0), (10, 0), (11, 0)] 0) (K0 Q)) ⟨stt 148 [(0, .hs a0j 0 a0n a0c 2), (1, .int .i64 x1a), (2, .int .i64 x2b), (3, .int .i64 x3limit), (4, .fn 53 []), (10, .bool x10wasBalanced), (11, .bool x11wasPartitioned)], [], Hh⟩ = r0 a0j a0n a0c a1 a2 a3 Q x1a x2b x3limit x10wasBalanced x11wasPartitioned Hh := by kernel_rfl
theorem L0_step {a0j a0n a0c : Nat} {a1 a2 a3 : Int} {Q : Qt} {x1a x2b x3limit : Int} {x10wasBalanced x11wasPartitioned : Bool} {Hh : Heap} (h : r0 a0j a0n a0c a1 a2 a3 Q x1a x2b x3limit x10wasBalanced x11wasPartitioned Hh) : L0 a0j a0n a0c a1 a2 a3 Q x1a x2b x3limit x10wasBalanced x11wasPartitioned Hh := ALoop_told (r0_eq a0j a0n a0c a1 a2 a3 Q x1a x2b x3limit x10wasBalanced x11wasPartitioned Hh) h
def jR15 (a0j a0n a0c : Nat) (a1 a2 a3 : Int) (Q : Qt) (x1a x2b x3limit : Int) (x10wasBalanced x11wasPartitioned : Bool) (x12length x13pivot : Int) (x75 : Bool) (Hh : Heap) : Prop :=
  cond x75
  (C 89 [.hs a0j 0 a0n a0c 2, .int .i64 x1a, .int .i64 x2b, .fn 53 []] Hh fun v_15 H_16 =>
    G ((v_15).isBool) (cond ((v_15).toBool)
      (Q (.tup []) H_16)
      (cond (ltI 0 x1a)
        (G (leI 0 (subW .i64 x1a 1)) (G (ltI (subW .i64 x1a 1) ((a0n : Nat) : Int)) (G ((H_16.get a0j).isRows 2) (G ((ce ((H_16.get a0j).xs.getD (0 + ((subW .i64 x1a 1).toNat)) []) 0).isStr) (G ((ce ((H_16.get a0j).xs.getD (0 + ((subW .i64 x1a 1).toNat)) []) 1).isStr) (G (leI 0 x13pivot) (G (ltI x13pivot ((a0n : Nat) : Int)) (G ((H_16.get a0j).isRows 2) (G ((ce ((H_16.get a0j).xs.getD (0 + x13pivot.toNat) []) 0).isStr) (G ((ce ((H_16.get a0j).xs.getD (0 + x13pivot.toNat) []) 1).isStr) (C 53 [.agg [.str ((ce ((H_16.get a0j).xs.getD (0 + ((subW .i64 x1a 1).toNat)) []) 0).toStr), .str ((ce ((H_16.get a0j).xs.getD (0 + ((subW .i64 x1a 1).toNat)) []) 1).toStr)], .agg [.str ((ce ((H_16.get a0j).xs.getD (0 + x13pivot.toNat) []) 0).toStr), .str ((ce ((H_16.get a0j).xs.getD (0 + x13pivot.toNat) []) 1).toStr)]] H_16.none fun v_17 H_18 =>
          G ((v_17).isInt .i64) (cond (!(ltI ((v_17).toInt) 0))
            (C 90 [.hs a0j 0 a0n a0c 2, .int .i64 x1a, .int .i64 x2b, .int .i64 x13pivot, .fn 53 []] (H_16.past H_18) fun v_19 H_20 =>
              G ((v_19).isInt .i64) (L0 a0j a0n a0c a1 a2 a3 Q ((v_19).toInt) x2b x3limit x10wasBalanced x11wasPartitioned H_20))
            (C 91 [.hs a0j 0 a0n a0c 2, .int .i64 x1a, .int .i64 x2b, .int .i64 x13pivot, .fn 53 []] (H_16.past H_18) fun v_21 H_22 =>
              G ((v_21).isTup && Nat.beq (v_21).tupVs.length 2) (G ((((v_21).tupVs).headD .any).isInt .i64) (G (((((v_21).tupVs).tail).headD .any).isBool) (cond (ltI (subW .i64 ((((v_21).tupVs).headD .any).toInt) x1a) (subW .i64 x2b ((((v_21).tupVs).headD .any).toInt)))
                (C 67 [.hs a0j 0 a0n a0c 2, .int .i64 x1a, .int .i64 ((((v_21).tupVs).headD .any).toInt), .int .i64 x3limit, .fn 53 []] H_22 fun v_23 H_24 =>
                  G ((v_23).isTup && Nat.beq (v_23).tupVs.length 0) (L0 a0j a0n a0c a1 a2 a3 Q (addW .i64 ((((v_21).tupVs).headD .any).toInt) 1) x2b x3limit (leI (IntKind.i64.wrap (Int.tdiv x12length 8)) (subW .i64 ((((v_21).tupVs).headD .any).toInt) x1a)) (((((v_21).tupVs).tail).headD .any).toBool) H_24))
                (C 67 [.hs a0j 0 a0n a0c 2, .int .i64 (addW .i64 ((((v_21).tupVs).headD .any).toInt) 1), .int .i64 x2b, .int .i64 x3limit, .fn 53 []] H_22 fun v_25 H_26 =>
                  G ((v_25).isTup && Nat.beq (v_25).tupVs.length 0) (L0 a0j a0n a0c a1 a2 a3 Q x1a ((((v_21).tupVs).headD .any).toInt) x3limit (leI (IntKind.i64.wrap (Int.tdiv x12length 8)) (subW .i64 x2b ((((v_21).tupVs).headD .any).toInt))) (((((v_21).tupVs).tail).headD .any).toBool) H_26))))))))))))))))))
        (C 91 [.hs a0j 0 a0n a0c 2, .int .i64 x1a, .int .i64 x2b, .int .i64 x13pivot, .fn 53 []] H_16 fun v_27 H_28 =>
          G ((v_27).isTup && Nat.beq (v_27).tupVs.length 2) (G ((((v_27).tupVs).headD .any).isInt .i64) (G (((((v_27).tupVs).tail).headD .any).isBool) (cond (ltI (subW .i64 ((((v_27).tupVs).headD .any).toInt) x1a) (subW .i64 x2b ((((v_27).tupVs).headD .any).toInt)))
            (C 67 [.hs a0j 0 a0n a0c 2, .int .i64 x1a, .int .i64 ((((v_27).tupVs).headD .any).toInt), .int .i64 x3limit, .fn 53 []] H_28 fun v_29 H_30 =>
              G ((v_29).isTup && Nat.beq (v_29).tupVs.length 0) (L0 a0j a0n a0c a1 a2 a3 Q (addW .i64 ((((v_27).tupVs).headD .any).toInt) 1) x2b x3limit (leI (IntKind.i64.wrap (Int.tdiv x12length 8)) (subW .i64 ((((v_27).tupVs).headD .any).toInt) x1a)) (((((v_27).tupVs).tail).headD .any).toBool) H_30))
            (C 67 [.hs a0j 0 a0n a0c 2, .int .i64 (addW .i64 ((((v_27).tupVs).headD .any).toInt) 1), .int .i64 x2b, .int .i64 x3limit, .fn 53 []] H_28 fun v_31 H_32 =>
              G ((v_31).isTup && Nat.beq (v_31).tupVs.length 0) (L0 a0j a0n a0c a1 a2 a3 Q x1a ((((v_27).tupVs).headD .any).toInt) x3limit (leI (IntKind.i64.wrap (Int.tdiv x12length 8)) (subW .i64 x2b ((((v_27).tupVs).headD .any).toInt))) (((((v_27).tupVs).tail).headD .any).toBool) H_32)))))))))
  (cond (ltI 0 x1a)
    (G (leI 0 (subW .i64 x1a 1)) (G (ltI (subW .i64 x1a 1) ((a0n : Nat) : Int)) (G ((Hh.get a0j).isRows 2) (G ((ce ((Hh.get a0j).xs.getD (0 + ((subW .i64 x1a 1).toNat)) []) 0).isStr) (G ((ce ((Hh.get a0j).xs.getD (0 + ((subW .i64 x1a 1).toNat)) []) 1).isStr) (G (leI 0 x13pivot) (G (ltI x13pivot ((a0n : Nat) : Int)) (G ((Hh.get a0j).isRows 2) (G ((ce ((Hh.get a0j).xs.getD (0 + x13pivot.toNat) []) 0).isStr) (G ((ce ((Hh.get a0j).xs.getD (0 + x13pivot.toNat) []) 1).isStr) (C 53 [.agg [.str ((ce ((Hh.get a0j).xs.getD (0 + ((subW .i64 x1a 1).toNat)) []) 0).toStr), .str ((ce ((Hh.get a0j).xs.getD (0 + ((subW .i64 x1a 1).toNat)) []) 1).toStr)], .agg [.str ((ce ((Hh.get a0j).xs.getD (0 + x13pivot.toNat) []) 0).toStr), .str ((ce ((Hh.get a0j).xs.getD (0 + x13pivot.toNat) []) 1).toStr)]] Hh.none fun v_33 H_34 =>
      G ((v_33).isInt .i64) (cond (!(ltI ((v_33).toInt) 0))
        (C 90 [.hs a0j 0 a0n a0c 2, .int .i64 x1a, .int .i64 x2b, .int .i64 x13pivot, .fn 53 []] (Hh.past H_34) fun v_35 H_36 =>
          G ((v_35).isInt .i64) (L0 a0j a0n a0c a1 a2 a3 Q ((v_35).toInt) x2b x3limit x10wasBalanced x11wasPartitioned H_36))
        (C 91 [.hs a0j 0 a0n a0c 2, .int .i64 x1a, .int .i64 x2b, .int .i64 x13pivot, .fn 53 []] (Hh.past H_34) fun v_37 H_38 =>
          G ((v_37).isTup && Nat.beq (v_37).tupVs.length 2) (G ((((v_37).tupVs).headD .any).isInt .i64) (G (((((v_37).tupVs).tail).headD .any).isBool) (cond (ltI (subW .i64 ((((v_37).tupVs).headD .any).toInt) x1a) (subW .i64 x2b ((((v_37).tupVs).headD .any).toInt)))
            (C 67 [.hs a0j 0 a0n a0c 2, .int .i64 x1a, .int .i64 ((((v_37).tupVs).headD .any).toInt), .int .i64 x3limit, .fn 53 []] H_38 fun v_39 H_40 =>
              G ((v_39).isTup && Nat.beq (v_39).tupVs.length 0) (L0 a0j a0n a0c a1 a2 a3 Q (addW .i64 ((((v_37).tupVs).headD .any).toInt) 1) x2b x3limit (leI (IntKind.i64.wrap (Int.tdiv x12length 8)) (subW .i64 ((((v_37).tupVs).headD .any).toInt) x1a)) (((((v_37).tupVs).tail).headD .any).toBool) H_40))
            (C 67 [.hs a0j 0 a0n a0c 2, .int .i64 (addW .i64 ((((v_37).tupVs).headD .any).toInt) 1), .int .i64 x2b, .int .i64 x3limit, .fn 53 []] H_38 fun v_41 H_42 =>
              G ((v_41).isTup && Nat.beq (v_41).tupVs.length 0) (L0 a0j a0n a0c a1 a2 a3 Q x1a ((((v_37).tupVs).headD .any).toInt) x3limit (leI (IntKind.i64.wrap (Int.tdiv x12length 8)) (subW .i64 x2b ((((v_37).tupVs).headD .any).toInt))) (((((v_37).tupVs).tail).headD .any).toBool) H_42))))))))))))))))))
    (C 91 [.hs a0j 0 a0n a0c 2, .int .i64 x1a, .int .i64 x2b, .int .i64 x13pivot, .fn 53 []] Hh fun v_43 H_44 =>
      G ((v_43).isTup && Nat.beq (v_43).tupVs.length 2) (G ((((v_43).tupVs).headD .any).isInt .i64) (G (((((v_43).tupVs).tail).headD .any).isBool) (cond (ltI (subW .i64 ((((v_43).tupVs).headD .any).toInt) x1a) (subW .i64 x2b ((((v_43).tupVs).headD .any).toInt)))
        (C 67 [.hs a0j 0 a0n a0c 2, .int .i64 x1a, .int .i64 ((((v_43).tupVs).headD .any).toInt), .int .i64 x3limit, .fn 53 []] H_44 fun v_45 H_46 =>
          G ((v_45).isTup && Nat.beq (v_45).tupVs.length 0) (L0 a0j a0n a0c a1 a2 a3 Q (addW .i64 ((((v_43).tupVs).headD .any).toInt) 1) x2b x3limit (leI (IntKind.i64.wrap (Int.tdiv x12length 8)) (subW .i64 ((((v_43).tupVs).headD .any).toInt) x1a)) (((((v_43).tupVs).tail).headD .any).toBool) H_46))
        (C 67 [.hs a0j 0 a0n a0c 2, .int .i64 (addW .i64 ((((v_43).tupVs).headD .any).toInt) 1), .int .i64 x2b, .int .i64 x3limit, .fn 53 []] H_44 fun v_47 H_48 =>
          G ((v_47).isTup && Nat.beq (v_47).tupVs.length 0) (L0 a0j a0n a0c a1 a2 a3 Q x1a ((((v_43).tupVs).headD .any).toInt) x3limit (leI (IntKind.i64.wrap (Int.tdiv x12length 8)) (subW .i64 x2b ((((v_43).tupVs).headD .any).toInt))) (((((v_43).tupVs).tail).headD .any).toBool) H_48)))))))
theorem JR15_eq (a0j a0n a0c : Nat) (a1 a2 a3 : Int) (Q : Qt) (x1a x2b x3limit : Int) (x10wasBalanced x11wasPartitioned : Bool) (x12length x13pivot : Int) (x75 : Bool) (Hh : Heap) : contK E0 C (E0.L 67) [.seq (codeAt (bodyOf E0 67) [1, 1, 0, 0, 0, 1, 1, 1, 1, 1, 1, 0, 1]) 1, .seq (codeAt (bodyOf E0 67) [1, 1, 0, 0, 0, 1, 1, 1, 1, 1, 1, 1]) 1, .block 1 0, .loop (codeAt (bodyOf E0 67) [1, 1, 0, 0]) 1 [(0, 0), (1, 0), (2, 0), (3, 0), (4, 0), (10, 0), (11, 0)] 0, .block 0 0] (finK E0 67 Q) .normal ⟨stt 148 [(0, .hs a0j 0 a0n a0c 2), (1, .int .i64 x1a), (2, .int .i64 x2b), (3, .int .i64 x3limit), (4, .fn 53 []), (10, .bool x10wasBalanced), (11, .bool x11wasPartitioned), (12, .int .i64 x12length), (13, .int .i64 x13pivot), (75, .bool x75)], [], Hh⟩ = jR15 a0j a0n a0c a1 a2 a3 Q x1a x2b x3limit x10wasBalanced x11wasPartitioned x12length x13pivot x75 Hh := by kernel_rfl
theorem JR15_step {a0j a0n a0c : Nat} {a1 a2 a3 : Int} {Q : Qt} {x1a x2b x3limit : Int} {x10wasBalanced x11wasPartitioned : Bool} {x12length x13pivot : Int} {x75 : Bool} {Hh : Heap} (h : jR15 a0j a0n a0c a1 a2 a3 Q x1a x2b x3limit x10wasBalanced x11wasPartitioned x12length x13pivot x75 Hh) : JR15 a0j a0n a0c a1 a2 a3 Q x1a x2b x3limit x10wasBalanced x11wasPartitioned x12length x13pivot x75 Hh := AJoin_told (JR15_eq a0j a0n a0c a1 a2 a3 Q x1a x2b x3limit x10wasBalanced x11wasPartitioned x12length x13pivot x75 Hh) h
def t (a0j a0n a0c : Nat) (a1 a2 a3 : Int) (H : Heap) (Q : Qt) : Prop :=
  L0 a0j a0n a0c a1 a2 a3 Q a1 a2 a3 true true H
theorem t_eq (a0j a0n a0c : Nat) (a1 a2 a3 : Int) (H : Heap) (Q : Qt) : aBody E0 C 67 [.hs a0j 0 a0n a0c 2, .int .i64 a1, .int .i64 a2, .int .i64 a3, .fn 53 []] H Q = t a0j a0n a0c a1 a2 a3 H Q := by kernel_rfl
theorem call {a0j a0n a0c : Nat} {a1 a2 a3 : Int} {H : Heap} {Q : Qt} (h : t a0j a0n a0c a1 a2 a3 H Q) : C 67 [.hs a0j 0 a0n a0c 2, .int .i64 a1, .int .i64 a2, .int .i64 a3, .fn 53 []] H Q := Call_told (E := E0) (t_eq a0j a0n a0c a1 a2 a3 H Q) h
end F67h
/-! ### slices.pdqsortCmpFunc[broker/api.Prop]: function 67n -/
namespace F67n
def K0 (Q : Qt) : Ex → St → Prop := (contK E0 C (E0.L 67) [.block 0 0] (finK E0 67 Q))
def L0 (a1 a2 a3 : Int) (Q : Qt) (x1a x2b x3limit : Int) (x10wasBalanced x11wasPartitioned : Bool) (Hh : Heap) : Prop := ALoop (fun K s => awp E0 C (E0.L 67) (codeAt (bodyOf E0 67) [1, 1, 0, 0]) 1 s K) (clean [(0, 0), (1, 0), (2, 0), (3, 0), (4, 0), (10, 0), (11, 0)] 0) (K0 Q) ⟨stt 148 [(0, .nilsl), (1, .int .i64 x1a), (2, .int .i64 x2b), (3, .int .i64 x3limit), (4, .fn 53 []), (10, .bool x10wasBalanced), (11, .bool x11wasPartitioned)], [], Hh⟩
def JR15 (a1 a2 a3 : Int) (Q : Qt) (x1a x2b x3limit : Int) (x10wasBalanced x11wasPartitioned : Bool) (x12length x13pivot : Int) (x75 : Bool) (Hh : Heap) : Prop := AJoin (contK E0 C (E0.L 67) [.seq (codeAt (bodyOf E0 67) [1, 1, 0, 0, 0, 1, 1, 1, 1, 1, 1, 0, 1]) 1, .seq (codeAt (bodyOf E0 67) [1, 1, 0, 0, 0, 1, 1, 1, 1, 1, 1, 1]) 1, .block 1 0, .loop (codeAt (bodyOf E0 67) [1, 1, 0, 0]) 1 [(0, 0), (1, 0), (2, 0), (3, 0), (4, 0), (10, 0), (11, 0)] 0, .block 0 0] (finK E0 67 Q)) ⟨stt 148 [(0, .nilsl), (1, .int .i64 x1a), (2, .int .i64 x2b), (3, .int .i64 x3limit), (4, .fn 53 []), (10, .bool x10wasBalanced), (11, .bool x11wasPartitioned), (12, .int .i64 x12length), (13, .int .i64 x13pivot), (75, .bool x75)], [], Hh⟩
def r0 (a1 a2 a3 : Int) (Q : Qt) (x1a x2b x3limit : Int) (x10wasBalanced x11wasPartitioned : Bool) (Hh : Heap) : Prop :=
  cond (leI (subW .i64 x2b x1a) 12)
  (C 84 [.nilsl, .int .i64 x1a, .int .i64 x2b, .fn 53 []] Hh fun v_1 H_2 =>
    G ((v_1).isTup && Nat.beq (v_1).tupVs.length 0) (Q (.tup []) H_2))
  (cond (eqI x3limit 0)
    (C 85 [.nilsl, .int .i64 x1a, .int .i64 x2b, .fn 53 []] Hh fun v_3 H_4 =>
      G ((v_3).isTup && Nat.beq (v_3).tupVs.length 0) (Q (.tup []) H_4))
    (cond (!x10wasBalanced)
      (C 86 [.nilsl, .int .i64 x1a, .int .i64 x2b, .fn 53 []] Hh fun v_5 H_6 =>
        G ((v_5).isTup && Nat.beq (v_5).tupVs.length 0) (C 87 [.sl 0 2 [], .int .i64 x1a, .int .i64 x2b, .fn 53 []] H_6.none fun v_7 H_8 =>
          G ((v_7).isTup && Nat.beq (v_7).tupVs.length 2) (G ((((v_7).tupVs).headD .any).isInt .i64) (G (((((v_7).tupVs).tail).headD .any).isInt .i64) (cond (eqI (((((v_7).tupVs).tail).headD .any).toInt) 2)
            (C 88 [.nilsl, .int .i64 x1a, .int .i64 x2b, .fn 53 []] (H_6.past H_8) fun v_9 H_10 =>
              G ((v_9).isTup && Nat.beq (v_9).tupVs.length 0) (cond x10wasBalanced
                (cond x11wasPartitioned
                  (JR15 a1 a2 a3 Q x1a x2b (subW .i64 x3limit 1) x10wasBalanced x11wasPartitioned (subW .i64 x2b x1a) (subW .i64 (subW .i64 x2b 1) (subW .i64 ((((v_7).tupVs).headD .any).toInt) x1a)) true H_10)
                  (JR15 a1 a2 a3 Q x1a x2b (subW .i64 x3limit 1) x10wasBalanced x11wasPartitioned (subW .i64 x2b x1a) (subW .i64 (subW .i64 x2b 1) (subW .i64 ((((v_7).tupVs).headD .any).toInt) x1a)) false H_10))
                (JR15 a1 a2 a3 Q x1a x2b (subW .i64 x3limit 1) x10wasBalanced x11wasPartitioned (subW .i64 x2b x1a) (subW .i64 (subW .i64 x2b 1) (subW .i64 ((((v_7).tupVs).headD .any).toInt) x1a)) false H_10)))
            (cond x10wasBalanced
              (cond x11wasPartitioned
                (JR15 a1 a2 a3 Q x1a x2b (subW .i64 x3limit 1) x10wasBalanced x11wasPartitioned (subW .i64 x2b x1a) ((((v_7).tupVs).headD .any).toInt) (eqI (((((v_7).tupVs).tail).headD .any).toInt) 1) (H_6.past H_8))
                (JR15 a1 a2 a3 Q x1a x2b (subW .i64 x3limit 1) x10wasBalanced x11wasPartitioned (subW .i64 x2b x1a) ((((v_7).tupVs).headD .any).toInt) false (H_6.past H_8)))
              (JR15 a1 a2 a3 Q x1a x2b (subW .i64 x3limit 1) x10wasBalanced x11wasPartitioned (subW .i64 x2b x1a) ((((v_7).tupVs).headD .any).toInt) false (H_6.past H_8))))))))
      (C 87 [.sl 0 2 [], .int .i64 x1a, .int .i64 x2b, .fn 53 []] Hh.none fun v_11 H_12 =>
        G ((v_11).isTup && Nat.beq (v_11).tupVs.length 2) (G ((((v_11).tupVs).headD .any).isInt .i64) (G (((((v_11).tupVs).tail).headD .any).isInt .i64) (cond (eqI (((((v_11).tupVs).tail).headD .any).toInt) 2)
          (C 88 [.nilsl, .int .i64 x1a, .int .i64 x2b, .fn 53 []] (Hh.past H_12) fun v_13 H_14 =>
            G ((v_13).isTup && Nat.beq (v_13).tupVs.length 0) (cond x10wasBalanced
              (cond x11wasPartitioned
                (JR15 a1 a2 a3 Q x1a x2b x3limit x10wasBalanced x11wasPartitioned (subW .i64 x2b x1a) (subW .i64 (subW .i64 x2b 1) (subW .i64 ((((v_11).tupVs).headD .any).toInt) x1a)) true H_14)
                (JR15 a1 a2 a3 Q x1a x2b x3limit x10wasBalanced x11wasPartitioned (subW .i64 x2b x1a) (subW .i64 (subW .i64 x2b 1) (subW .i64 ((((v_11).tupVs).headD .any).toInt) x1a)) false H_14))
              (JR15 a1 a2 a3 Q x1a x2b x3limit x10wasBalanced x11wasPartitioned (subW .i64 x2b x1a) (subW .i64 (subW .i64 x2b 1) (subW .i64 ((((v_11).tupVs).headD .any).toInt) x1a)) false H_14)))
          (cond x10wasBalanced
            (cond x11wasPartitioned
              (JR15 a1 a2 a3 Q x1a x2b x3limit x10wasBalanced x11wasPartitioned (subW .i64 x2b x1a) ((((v_11).tupVs).headD .any).toInt) (eqI (((((v_11).tupVs).tail).headD .any).toInt) 1) (Hh.past H_12))
              (JR15 a1 a2 a3 Q x1a x2b x3limit x10wasBalanced x11wasPartitioned (subW .i64 x2b x1a) ((((v_11).tupVs).headD .any).toInt) false (Hh.past H_12)))
            (JR15 a1 a2 a3 Q x1a x2b x3limit x10wasBalanced x11wasPartitioned (subW .i64 x2b x1a) ((((v_11).tupVs).headD .any).toInt) false (Hh.past H_12)))))))))
theorem r0_eq (a1 a2 a3 : Int) (Q : Qt) (x1a x2b x3limit : Int) (x10wasBalanced x11wasPartitioned : Bool) (Hh : Heap) : (fun K s => awp E0 C (E0.L 67) (codeAt (bodyOf E0 67) [1, 1, 0, 0]) 1 s K) (ALoopK (fun K s => awp E0 C (E0.L 67) (codeAt (bodyOf E0 67) [1, 1, 0, 0]) 1 s K) (clean [(0, 0), (1, 0), (2, 0), (3, 0), (4, 0), (10, 0), (11, 0)] 0) (K0 Q)) ⟨stt 148 [(0, .nilsl), (1, .int .i64 x1a), (2, .int .i64 x2b), (3, .int .i64 x3limit), (4, .fn 53 []), (10, .bool x10wasBalanced), (11, .bool x11wasPartitioned)], [], Hh⟩ = r0 a1 a2 a3 Q x1a x2b x3limit x10wasBalanced x11wasPartitioned Hh := by kernel_rfl
theorem L0_step {a1 a2 a3 : Int} {Q : Qt} {x1a x2b x3limit : Int} {x10wasBalanced x11wasPartitioned : Bool} {Hh : Heap} (h : r0 a1 a2 a3 Q x1a x2b x3limit x10wasBalanced x11wasPartitioned Hh) : L0 a1 a2 a3 Q x1a x2b x3limit x10wasBalanced x11wasPartitioned Hh := ALoop_told (r0_eq a1 a2 a3 Q x1a x2b x3limit x10wasBalanced x11wasPartitioned Hh) h
def jR15 (a1 a2 a3 : Int) (Q : Qt) (x1a x2b x3limit : Int) (x10wasBalanced x11wasPartitioned : Bool) (x12length x13pivot : Int) (x75 : Bool) (Hh : Heap) : Prop :=
  cond x75
  (C 89 [.nilsl, .int .i64 x1a, .int .i64 x2b, .fn 53 []] Hh fun v_15 H_16 =>
    G ((v_15).isBool) (cond ((v_15).toBool)
      (Q (.tup []) H_16)
      (cond (ltI 0 x1a)
        (False)
        (C 91 [.nilsl, .int .i64 x1a, .int .i64 x2b, .int .i64 x13pivot, .fn 53 []] H_16 fun v_17 H_18 =>
          G ((v_17).isTup && Nat.beq (v_17).tupVs.length 2) (G ((((v_17).tupVs).headD .any).isInt .i64) (G (((((v_17).tupVs).tail).headD .any).isBool) (cond (ltI (subW .i64 ((((v_17).tupVs).headD .any).toInt) x1a) (subW .i64 x2b ((((v_17).tupVs).headD .any).toInt)))
            (C 67 [.nilsl, .int .i64 x1a, .int .i64 ((((v_17).tupVs).headD .any).toInt), .int .i64 x3limit, .fn 53 []] H_18 fun v_19 H_20 =>
              G ((v_19).isTup && Nat.beq (v_19).tupVs.length 0) (L0 a1 a2 a3 Q (addW .i64 ((((v_17).tupVs).headD .any).toInt) 1) x2b x3limit (leI (IntKind.i64.wrap (Int.tdiv x12length 8)) (subW .i64 ((((v_17).tupVs).headD .any).toInt) x1a)) (((((v_17).tupVs).tail).headD .any).toBool) H_20))
            (C 67 [.nilsl, .int .i64 (addW .i64 ((((v_17).tupVs).headD .any).toInt) 1), .int .i64 x2b, .int .i64 x3limit, .fn 53 []] H_18 fun v_21 H_22 =>
              G ((v_21).isTup && Nat.beq (v_21).tupVs.length 0) (L0 a1 a2 a3 Q x1a ((((v_17).tupVs).headD .any).toInt) x3limit (leI (IntKind.i64.wrap (Int.tdiv x12length 8)) (subW .i64 x2b ((((v_17).tupVs).headD .any).toInt))) (((((v_17).tupVs).tail).headD .any).toBool) H_22)))))))))
  (cond (ltI 0 x1a)
    (False)
    (C 91 [.nilsl, .int .i64 x1a, .int .i64 x2b, .int .i64 x13pivot, .fn 53 []] Hh fun v_23 H_24 =>
      G ((v_23).isTup && Nat.beq (v_23).tupVs.length 2) (G ((((v_23).tupVs).headD .any).isInt .i64) (G (((((v_23).tupVs).tail).headD .any).isBool) (cond (ltI (subW .i64 ((((v_23).tupVs).headD .any).toInt) x1a) (subW .i64 x2b ((((v_23).tupVs).headD .any).toInt)))
        (C 67 [.nilsl, .int .i64 x1a, .int .i64 ((((v_23).tupVs).headD .any).toInt), .int .i64 x3limit, .fn 53 []] H_24 fun v_25 H_26 =>
          G ((v_25).isTup && Nat.beq (v_25).tupVs.length 0) (L0 a1 a2 a3 Q (addW .i64 ((((v_23).tupVs).headD .any).toInt) 1) x2b x3limit (leI (IntKind.i64.wrap (Int.tdiv x12length 8)) (subW .i64 ((((v_23).tupVs).headD .any).toInt) x1a)) (((((v_23).tupVs).tail).headD .any).toBool) H_26))
        (C 67 [.nilsl, .int .i64 (addW .i64 ((((v_23).tupVs).headD .any).toInt) 1), .int .i64 x2b, .int .i64 x3limit, .fn 53 []] H_24 fun v_27 H_28 =>
          G ((v_27).isTup && Nat.beq (v_27).tupVs.length 0) (L0 a1 a2 a3 Q x1a ((((v_23).tupVs).headD .any).toInt) x3limit (leI (IntKind.i64.wrap (Int.tdiv x12length 8)) (subW .i64 x2b ((((v_23).tupVs).headD .any).toInt))) (((((v_23).tupVs).tail).headD .any).toBool) H_28)))))))
theorem JR15_eq (a1 a2 a3 : Int) (Q : Qt) (x1a x2b x3limit : Int) (x10wasBalanced x11wasPartitioned : Bool) (x12length x13pivot : Int) (x75 : Bool) (Hh : Heap) : contK E0 C (E0.L 67) [.seq (codeAt (bodyOf E0 67) [1, 1, 0, 0, 0, 1, 1, 1, 1, 1, 1, 0, 1]) 1, .seq (codeAt (bodyOf E0 67) [1, 1, 0, 0, 0, 1, 1, 1, 1, 1, 1, 1]) 1, .block 1 0, .loop (codeAt (bodyOf E0 67) [1, 1, 0, 0]) 1 [(0, 0), (1, 0), (2, 0), (3, 0), (4, 0), (10, 0), (11, 0)] 0, .block 0 0] (finK E0 67 Q) .normal ⟨stt 148 [(0, .nilsl), (1, .int .i64 x1a), (2, .int .i64 x2b), (3, .int .i64 x3limit), (4, .fn 53 []), (10, .bool x10wasBalanced), (11, .bool x11wasPartitioned), (12, .int .i64 x12length), (13, .int .i64 x13pivot), (75, .bool x75)], [], Hh⟩ = jR15 a1 a2 a3 Q x1a x2b x3limit x10wasBalanced x11wasPartitioned x12length x13pivot x75 Hh := by kernel_rfl
theorem JR15_step {a1 a2 a3 : Int} {Q : Qt} {x1a x2b x3limit : Int} {x10wasBalanced x11wasPartitioned : Bool} {x12length x13pivot : Int} {x75 : Bool} {Hh : Heap} (h : jR15 a1 a2 a3 Q x1a x2b x3limit x10wasBalanced x11wasPartitioned x12length x13pivot x75 Hh) : JR15 a1 a2 a3 Q x1a x2b x3limit x10wasBalanced x11wasPartitioned x12length x13pivot x75 Hh := AJoin_told (JR15_eq a1 a2 a3 Q x1a x2b x3limit x10wasBalanced x11wasPartitioned x12length x13pivot x75 Hh) h
def t (a1 a2 a3 : Int) (H : Heap) (Q : Qt) : Prop :=
  L0 a1 a2 a3 Q a1 a2 a3 true true H
theorem t_eq (a1 a2 a3 : Int) (H : Heap) (Q : Qt) : aBody E0 C 67 [.nilsl, .int .i64 a1, .int .i64 a2, .int .i64 a3, .fn 53 []] H Q = t a1 a2 a3 H Q := by kernel_rfl
theorem call {a1 a2 a3 : Int} {H : Heap} {Q : Qt} (h : t a1 a2 a3 H Q) : C 67 [.nilsl, .int .i64 a1, .int .i64 a2, .int .i64 a3, .fn 53 []] H Q := Call_told (E := E0) (t_eq a1 a2 a3 H Q) h
end F67n
/-! ### unicode/utf8.RuneCountInString: function 72 -/
namespace F72
def K0 (Q : Qt) : Ex → St → Prop := (contK E0 C (E0.L 72) [.block 0 1, .seq (codeAt (bodyOf E0 72) [1, 1]) 1] (finK E0 72 Q))
def L0 (a0 : ByteArray) (Q : Qt) (x2n : Int) (it0 : Nat) (Hh : Heap) : Prop := ALoop (fun K s => awp E0 C (E0.L 72) (codeAt (bodyOf E0 72) [1, 0, 1, 0, 0]) 1 s K) (clean [(2, 0), (4, 0)] 1) (K0 Q) ⟨stt 10 [(2, .int .i64 x2n), (4, .ptr 0 0)], [.siter a0 it0], Hh⟩
def r0 (a0 : ByteArray) (Q : Qt) (x2n : Int) (it0 : Nat) (Hh : Heap) : Prop :=
  cond (Nat.blt it0 a0.size)
  (L0 a0 Q (addW .i64 x2n 1) (it0 + (Utf8.decode a0 it0).2) Hh)
  (Q (.int .i64 x2n) Hh)
theorem r0_eq (a0 : ByteArray) (Q : Qt) (x2n : Int) (it0 : Nat) (Hh : Heap) : (fun K s => awp E0 C (E0.L 72) (codeAt (bodyOf E0 72) [1, 0, 1, 0, 0]) 1 s K) (ALoopK (fun K s => awp E0 C (E0.L 72) (codeAt (bodyOf E0 72) [1, 0, 1, 0, 0]) 1 s K) (clean [(2, 0), (4, 0)] 1) (K0 Q)) ⟨stt 10 [(2, .int .i64 x2n), (4, .ptr 0 0)], [.siter a0 it0], Hh⟩ = r0 a0 Q x2n it0 Hh := by kernel_rfl
theorem L0_step {a0 : ByteArray} {Q : Qt} {x2n : Int} {it0 : Nat} {Hh : Heap} (h : r0 a0 Q x2n it0 Hh) : L0 a0 Q x2n it0 Hh := ALoop_told (r0_eq a0 Q x2n it0 Hh) h
def t (a0 : ByteArray) (H : Heap) (Q : Qt) : Prop :=
  L0 a0 Q 0 0 H
theorem t_eq (a0 : ByteArray) (H : Heap) (Q : Qt) : aBody E0 C 72 [.str a0] H Q = t a0 H Q := by kernel_rfl
theorem call {a0 : ByteArray} {H : Heap} {Q : Qt} (h : t a0 H Q) : C 72 [.str a0] H Q := Call_told (E := E0) (t_eq a0 H Q) h
end F72
/-! ### unicode/utf8.DecodeRuneInString: function 73 -/
namespace F73
def t (a0 : ByteArray) (H : Heap) (Q : Qt) : Prop :=
  cond (!(eqS a0 (⟨#[]⟩ : ByteArray)))
  (G (ltI 0 (sizeI a0)) (cond (ltI (bt a0 0) 128)
    (G (ltI 0 (sizeI a0)) (Q (.tup [.int .i32 (IntKind.i32.wrap (bt a0 0)), .int .i64 1]) H))
    (C 96 [.str a0] H.none fun v_1 H_2 =>
      G ((v_1).isTup && Nat.beq (v_1).tupVs.length 2) (G ((((v_1).tupVs).headD .any).isInt .i32) (G (((((v_1).tupVs).tail).headD .any).isInt .i64) (Q (.tup [.int .i32 ((((v_1).tupVs).headD .any).toInt), .int .i64 (((((v_1).tupVs).tail).headD .any).toInt)]) (H.past H_2)))))))
  (C 96 [.str a0] H.none fun v_3 H_4 =>
    G ((v_3).isTup && Nat.beq (v_3).tupVs.length 2) (G ((((v_3).tupVs).headD .any).isInt .i32) (G (((((v_3).tupVs).tail).headD .any).isInt .i64) (Q (.tup [.int .i32 ((((v_3).tupVs).headD .any).toInt), .int .i64 (((((v_3).tupVs).tail).headD .any).toInt)]) (H.past H_4)))))
theorem t_eq (a0 : ByteArray) (H : Heap) (Q : Qt) : aBody E0 C 73 [.str a0] H Q = t a0 H Q := by kernel_rfl
theorem call {a0 : ByteArray} {H : Heap} {Q : Qt} (h : t a0 H Q) : C 73 [.str a0] H Q := Call_told (E := E0) (t_eq a0 H Q) h
end F73
/-! ### broker/brokerref01.Levels: function 83 -/
namespace F83
def K0 (Q : Qt) : Ex → St → Prop := (contK E0 C (E0.L 83) [.block 0 0, .seq (codeAt (bodyOf E0 83) [1, 1, 1, 1]) 1] (finK E0 83 Q))
def L0 (a0 : ByteArray) (Q : Qt) (x3out : List (List AV)) (x4from x5i : Int) (Hh : Heap) : Prop := ALoop (fun K s => awp E0 C (E0.L 83) (codeAt (bodyOf E0 83) [1, 1, 1, 0, 1, 0, 0]) 1 s K) (clean [(0, 0), (3, 3), (4, 0), (5, 0)] 0) (K0 Q) ⟨stt 31 [(0, .str a0), (3, .sl 1 1 x3out), (4, .int .i64 x4from), (5, .int .i64 x5i)], [], Hh⟩
def r0 (a0 : ByteArray) (Q : Qt) (x3out : List (List AV)) (x4from x5i : Int) (Hh : Heap) : Prop :=
  cond (ltI x5i (sizeI a0))
  (G (leI 0 x5i) (G (ltI x5i (sizeI a0)) (cond (eqI (bt a0 x5i) 47)
    (G (leI 0 x4from) (G (leI x4from x5i) (G (leI x5i (sizeI a0)) (G (room x3out [[.str (a0.extract x4from.toNat x5i.toNat)]] 16) (L0 a0 Q (x3out ++ [[.str (a0.extract x4from.toNat x5i.toNat)]]) (addW .i64 x5i 1) (addW .i64 x5i 1) Hh)))))
    (L0 a0 Q x3out x4from (addW .i64 x5i 1) Hh))))
  (G (leI 0 x4from) (G (leI x4from (sizeI a0)) (G (leI (sizeI a0) (sizeI a0)) (G (room x3out [[.str (a0.extract x4from.toNat ((sizeI a0).toNat))]] 16) (Q (.sl 0 1 (x3out ++ [[.str (a0.extract x4from.toNat ((sizeI a0).toNat))]])) Hh)))))
theorem r0_eq (a0 : ByteArray) (Q : Qt) (x3out : List (List AV)) (x4from x5i : Int) (Hh : Heap) : (fun K s => awp E0 C (E0.L 83) (codeAt (bodyOf E0 83) [1, 1, 1, 0, 1, 0, 0]) 1 s K) (ALoopK (fun K s => awp E0 C (E0.L 83) (codeAt (bodyOf E0 83) [1, 1, 1, 0, 1, 0, 0]) 1 s K) (clean [(0, 0), (3, 3), (4, 0), (5, 0)] 0) (K0 Q)) ⟨stt 31 [(0, .str a0), (3, .sl 1 1 x3out), (4, .int .i64 x4from), (5, .int .i64 x5i)], [], Hh⟩ = r0 a0 Q x3out x4from x5i Hh := by kernel_rfl
theorem L0_step {a0 : ByteArray} {Q : Qt} {x3out : List (List AV)} {x4from x5i : Int} {Hh : Heap} (h : r0 a0 Q x3out x4from x5i Hh) : L0 a0 Q x3out x4from x5i Hh := ALoop_told (r0_eq a0 Q x3out x4from x5i Hh) h
def t (a0 : ByteArray) (H : Heap) (Q : Qt) : Prop :=
  L0 a0 Q [] 0 0 H
theorem t_eq (a0 : ByteArray) (H : Heap) (Q : Qt) : aBody E0 C 83 [.str a0] H Q = t a0 H Q := by kernel_rfl
theorem call {a0 : ByteArray} {H : Heap} {Q : Qt} (h : t a0 H Q) : C 83 [.str a0] H Q := Call_told (E := E0) (t_eq a0 H Q) h
end F83
/-! ### slices.insertionSortCmpFunc[broker/api.Prop]: function 84h -/
namespace F84h
def K0 (Q : Qt) : Ex → St → Prop := (contK E0 C (E0.L 84) [.block 0 0] (finK E0 84 Q))
def L0 (a0j a0n a0c : Nat) (a1 a2 : Int) (Q : Qt) (x8i : Int) (Hh : Heap) : Prop := ALoop (fun K s => awp E0 C (E0.L 84) (codeAt (bodyOf E0 84) [1, 0, 0]) 1 s K) (clean [(0, 0), (1, 0), (2, 0), (3, 0), (8, 0)] 0) (K0 Q) ⟨stt 53 [(0, .hs a0j 0 a0n a0c 2), (1, .int .i64 a1), (2, .int .i64 a2), (3, .fn 53 []), (8, .int .i64 x8i)], [], Hh⟩
def K1 (Q : Qt) : Ex → St → Prop := (contK E0 C (E0.L 84) [.block 2 0, .block 1 0, .seq (codeAt (bodyOf E0 84) [1, 0, 0, 1, 1]) 2, .loop (codeAt (bodyOf E0 84) [1, 0, 0]) 1 [(0, 0), (1, 0), (2, 0), (3, 0), (8, 0)] 0, .block 0 0] (finK E0 84 Q))
def L1 (a0j a0n a0c : Nat) (a1 a2 : Int) (Q : Qt) (x8i x9j : Int) (Hh : Heap) : Prop := ALoop (fun K s => awp E0 C (E0.L 84) (codeAt (bodyOf E0 84) [1, 0, 0, 1, 0, 0, 1, 0, 0]) 2 s K) (clean [(0, 0), (1, 0), (2, 0), (3, 0), (8, 0), (9, 0)] 0) (K1 Q) ⟨stt 53 [(0, .hs a0j 0 a0n a0c 2), (1, .int .i64 a1), (2, .int .i64 a2), (3, .fn 53 []), (8, .int .i64 x8i), (9, .int .i64 x9j)], [], Hh⟩
def r0 (a0j a0n a0c : Nat) (a1 a2 : Int) (Q : Qt) (x8i : Int) (Hh : Heap) : Prop :=
  cond (ltI x8i a2)
  (L1 a0j a0n a0c a1 a2 Q x8i x8i Hh)
  (Q (.tup []) Hh)
theorem r0_eq (a0j a0n a0c : Nat) (a1 a2 : Int) (Q : Qt) (x8i : Int) (Hh : Heap) : (fun K s => awp E0 C (E0.L 84) (codeAt (bodyOf E0 84) [1, 0, 0]) 1 s K) (ALoopK (fun K s => awp E0 C (E0.L 84) (codeAt (bodyOf E0 84) [1, 0, 0]) 1 s K) (clean [(0, 0), (1, 0), (2, 0), (3, 0), (8, 0)] 0) (K0 Q)) ⟨stt 53 [(0, .hs a0j 0 a0n a0c 2), (1, .int .i64 a1), (2, .int .i64 a2), (3, .fn 53 []), (8, .int .i64 x8i)], [], Hh⟩ = r0 a0j a0n a0c a1 a2 Q x8i Hh := by kernel_rfl
theorem L0_step {a0j a0n a0c : Nat} {a1 a2 : Int} {Q : Qt} {x8i : Int} {Hh : Heap} (h : r0 a0j a0n a0c a1 a2 Q x8i Hh) : L0 a0j a0n a0c a1 a2 Q x8i Hh := ALoop_told (r0_eq a0j a0n a0c a1 a2 Q x8i Hh) h
def r1 (a0j a0n a0c : Nat) (a1 a2 : Int) (Q : Qt) (x8i x9j : Int) (Hh : Heap) : Prop :=
  cond (ltI a1 x9j)
  (G (leI 0 x9j) (G (ltI x9j ((a0n : Nat) : Int)) (G ((Hh.get a0j).isRows 2) (G ((ce ((Hh.get a0j).xs.getD (0 + x9j.toNat) []) 0).isStr) (G ((ce ((Hh.get a0j).xs.getD (0 + x9j.toNat) []) 1).isStr) (G (leI 0 (subW .i64 x9j 1)) (G (ltI (subW .i64 x9j 1) ((a0n : Nat) : Int)) (G ((Hh.get a0j).isRows 2) (G ((ce ((Hh.get a0j).xs.getD (0 + ((subW .i64 x9j 1).toNat)) []) 0).isStr) (G ((ce ((Hh.get a0j).xs.getD (0 + ((subW .i64 x9j 1).toNat)) []) 1).isStr) (C 53 [.agg [.str ((ce ((Hh.get a0j).xs.getD (0 + x9j.toNat) []) 0).toStr), .str ((ce ((Hh.get a0j).xs.getD (0 + x9j.toNat) []) 1).toStr)], .agg [.str ((ce ((Hh.get a0j).xs.getD (0 + ((subW .i64 x9j 1).toNat)) []) 0).toStr), .str ((ce ((Hh.get a0j).xs.getD (0 + ((subW .i64 x9j 1).toNat)) []) 1).toStr)]] Hh.none fun v_1 H_2 =>
    G ((v_1).isInt .i64) (cond (ltI ((v_1).toInt) 0)
      (G (leI 0 (subW .i64 x9j 1)) (G (ltI (subW .i64 x9j 1) ((a0n : Nat) : Int)) (G (((Hh.past H_2).get a0j).isRows 2) (G ((ce (((Hh.past H_2).get a0j).xs.getD (0 + ((subW .i64 x9j 1).toNat)) []) 0).isStr) (G ((ce (((Hh.past H_2).get a0j).xs.getD (0 + ((subW .i64 x9j 1).toNat)) []) 1).isStr) (G (leI 0 x9j) (G (ltI x9j ((a0n : Nat) : Int)) (G (((Hh.past H_2).get a0j).isRows 2) (G ((ce (((Hh.past H_2).get a0j).xs.getD (0 + x9j.toNat) []) 0).isStr) (G ((ce (((Hh.past H_2).get a0j).xs.getD (0 + x9j.toNat) []) 1).isStr) (G (leI 0 x9j) (G (ltI x9j ((a0n : Nat) : Int)) (G (((Hh.past H_2).get a0j).isRows 2) (G (Nat.blt (0 + x9j.toNat) ((Hh.past H_2).get a0j).xs.length) (G (leI 0 (subW .i64 x9j 1)) (G (ltI (subW .i64 x9j 1) ((a0n : Nat) : Int)) (G ((((Hh.past H_2).set a0j (.rows 2 (((Hh.past H_2).get a0j).xs.set (0 + x9j.toNat) (((((Hh.past H_2).get a0j).xs.getD (0 + x9j.toNat) []).set 0 (.str ((ce (((Hh.past H_2).get a0j).xs.getD (0 + ((subW .i64 x9j 1).toNat)) []) 0).toStr))).set 1 (.str ((ce (((Hh.past H_2).get a0j).xs.getD (0 + ((subW .i64 x9j 1).toNat)) []) 1).toStr)))))).get a0j).isRows 2) (G (Nat.blt (0 + ((subW .i64 x9j 1).toNat)) (((Hh.past H_2).set a0j (.rows 2 (((Hh.past H_2).get a0j).xs.set (0 + x9j.toNat) (((((Hh.past H_2).get a0j).xs.getD (0 + x9j.toNat) []).set 0 (.str ((ce (((Hh.past H_2).get a0j).xs.getD (0 + ((subW .i64 x9j 1).toNat)) []) 0).toStr))).set 1 (.str ((ce (((Hh.past H_2).get a0j).xs.getD (0 + ((subW .i64 x9j 1).toNat)) []) 1).toStr)))))).get a0j).xs.length) (L1 a0j a0n a0c a1 a2 Q x8i (subW .i64 x9j 1) (((Hh.past H_2).set a0j (.rows 2 (((Hh.past H_2).get a0j).xs.set (0 + x9j.toNat) (((((Hh.past H_2).get a0j).xs.getD (0 + x9j.toNat) []).set 0 (.str ((ce (((Hh.past H_2).get a0j).xs.getD (0 + ((subW .i64 x9j 1).toNat)) []) 0).toStr))).set 1 (.str ((ce (((Hh.past H_2).get a0j).xs.getD (0 + ((subW .i64 x9j 1).toNat)) []) 1).toStr)))))).set a0j (.rows 2 ((((Hh.past H_2).set a0j (.rows 2 (((Hh.past H_2).get a0j).xs.set (0 + x9j.toNat) (((((Hh.past H_2).get a0j).xs.getD (0 + x9j.toNat) []).set 0 (.str ((ce (((Hh.past H_2).get a0j).xs.getD (0 + ((subW .i64 x9j 1).toNat)) []) 0).toStr))).set 1 (.str ((ce (((Hh.past H_2).get a0j).xs.getD (0 + ((subW .i64 x9j 1).toNat)) []) 1).toStr)))))).get a0j).xs.set (0 + ((subW .i64 x9j 1).toNat)) ((((((Hh.past H_2).set a0j (.rows 2 (((Hh.past H_2).get a0j).xs.set (0 + x9j.toNat) (((((Hh.past H_2).get a0j).xs.getD (0 + x9j.toNat) []).set 0 (.str ((ce (((Hh.past H_2).get a0j).xs.getD (0 + ((subW .i64 x9j 1).toNat)) []) 0).toStr))).set 1 (.str ((ce (((Hh.past H_2).get a0j).xs.getD (0 + ((subW .i64 x9j 1).toNat)) []) 1).toStr)))))).get a0j).xs.getD (0 + ((subW .i64 x9j 1).toNat)) []).set 0 (.str ((ce (((Hh.past H_2).get a0j).xs.getD (0 + x9j.toNat) []) 0).toStr))).set 1 (.str ((ce (((Hh.past H_2).get a0j).xs.getD (0 + x9j.toNat) []) 1).toStr)))))))))))))))))))))))))
      (L0 a0j a0n a0c a1 a2 Q (addW .i64 x8i 1) (Hh.past H_2))))))))))))))
  (L0 a0j a0n a0c a1 a2 Q (addW .i64 x8i 1) Hh)
theorem r1_eq (a0j a0n a0c : Nat) (a1 a2 : Int) (Q : Qt) (x8i x9j : Int) (Hh : Heap) : (fun K s => awp E0 C (E0.L 84) (codeAt (bodyOf E0 84) [1, 0, 0, 1, 0, 0, 1, 0, 0]) 2 s K) (ALoopK (fun K s => awp E0 C (E0.L 84) (codeAt (bodyOf E0 84) [1, 0, 0, 1, 0, 0, 1, 0, 0]) 2 s K) (clean [(0, 0), (1, 0), (2, 0), (3, 0), (8, 0), (9, 0)] 0) (K1 Q)) ⟨stt 53 [(0, .hs a0j 0 a0n a0c 2), (1, .int .i64 a1), (2, .int .i64 a2), (3, .fn 53 []), (8, .int .i64 x8i), (9, .int .i64 x9j)], [], Hh⟩ = r1 a0j a0n a0c a1 a2 Q x8i x9j Hh := by kernel_rfl
theorem L1_step {a0j a0n a0c : Nat} {a1 a2 : Int} {Q : Qt} {x8i x9j : Int} {Hh : Heap} (h : r1 a0j a0n a0c a1 a2 Q x8i x9j Hh) : L1 a0j a0n a0c a1 a2 Q x8i x9j Hh := ALoop_told (r1_eq a0j a0n a0c a1 a2 Q x8i x9j Hh) h
def t (a0j a0n a0c : Nat) (a1 a2 : Int) (H : Heap) (Q : Qt) : Prop :=
  L0 a0j a0n a0c a1 a2 Q (addW .i64 a1 1) H
theorem t_eq (a0j a0n a0c : Nat) (a1 a2 : Int) (H : Heap) (Q : Qt) : aBody E0 C 84 [.hs a0j 0 a0n a0c 2, .int .i64 a1, .int .i64 a2, .fn 53 []] H Q = t a0j a0n a0c a1 a2 H Q := by kernel_rfl
theorem call {a0j a0n a0c : Nat} {a1 a2 : Int} {H : Heap} {Q : Qt} (h : t a0j a0n a0c a1 a2 H Q) : C 84 [.hs a0j 0 a0n a0c 2, .int .i64 a1, .int .i64 a2, .fn 53 []] H Q := Call_told (E := E0) (t_eq a0j a0n a0c a1 a2 H Q) h
end F84h
/-! ### slices.insertionSortCmpFunc[broker/api.Prop]: function 84n -/
namespace F84n
def K0 (Q : Qt) : Ex → St → Prop := (contK E0 C (E0.L 84) [.block 0 0] (finK E0 84 Q))
def L0 (a1 a2 : Int) (Q : Qt) (x8i : Int) (Hh : Heap) : Prop := ALoop (fun K s => awp E0 C (E0.L 84) (codeAt (bodyOf E0 84) [1, 0, 0]) 1 s K) (clean [(0, 0), (1, 0), (2, 0), (3, 0), (8, 0)] 0) (K0 Q) ⟨stt 53 [(0, .nilsl), (1, .int .i64 a1), (2, .int .i64 a2), (3, .fn 53 []), (8, .int .i64 x8i)], [], Hh⟩
def K1 (Q : Qt) : Ex → St → Prop := (contK E0 C (E0.L 84) [.block 2 0, .block 1 0, .seq (codeAt (bodyOf E0 84) [1, 0, 0, 1, 1]) 2, .loop (codeAt (bodyOf E0 84) [1, 0, 0]) 1 [(0, 0), (1, 0), (2, 0), (3, 0), (8, 0)] 0, .block 0 0] (finK E0 84 Q))
def L1 (a1 a2 : Int) (Q : Qt) (x8i x9j : Int) (Hh : Heap) : Prop := ALoop (fun K s => awp E0 C (E0.L 84) (codeAt (bodyOf E0 84) [1, 0, 0, 1, 0, 0, 1, 0, 0]) 2 s K) (clean [(0, 0), (1, 0), (2, 0), (3, 0), (8, 0), (9, 0)] 0) (K1 Q) ⟨stt 53 [(0, .nilsl), (1, .int .i64 a1), (2, .int .i64 a2), (3, .fn 53 []), (8, .int .i64 x8i), (9, .int .i64 x9j)], [], Hh⟩
def r0 (a1 a2 : Int) (Q : Qt) (x8i : Int) (Hh : Heap) : Prop :=
  cond (ltI x8i a2)
  (L1 a1 a2 Q x8i x8i Hh)
  (Q (.tup []) Hh)
theorem r0_eq (a1 a2 : Int) (Q : Qt) (x8i : Int) (Hh : Heap) : (fun K s => awp E0 C (E0.L 84) (codeAt (bodyOf E0 84) [1, 0, 0]) 1 s K) (ALoopK (fun K s => awp E0 C (E0.L 84) (codeAt (bodyOf E0 84) [1, 0, 0]) 1 s K) (clean [(0, 0), (1, 0), (2, 0), (3, 0), (8, 0)] 0) (K0 Q)) ⟨stt 53 [(0, .nilsl), (1, .int .i64 a1), (2, .int .i64 a2), (3, .fn 53 []), (8, .int .i64 x8i)], [], Hh⟩ = r0 a1 a2 Q x8i Hh := by kernel_rfl
theorem L0_step {a1 a2 : Int} {Q : Qt} {x8i : Int} {Hh : Heap} (h : r0 a1 a2 Q x8i Hh) : L0 a1 a2 Q x8i Hh := ALoop_told (r0_eq a1 a2 Q x8i Hh) h
def r1 (a1 a2 : Int) (Q : Qt) (x8i x9j : Int) (Hh : Heap) : Prop :=
  cond (ltI a1 x9j)
  (False)
  (L0 a1 a2 Q (addW .i64 x8i 1) Hh)
theorem r1_eq (a1 a2 : Int) (Q : Qt) (x8i x9j : Int) (Hh : Heap) : (fun K s => awp E0 C (E0.L 84) (codeAt (bodyOf E0 84) [1, 0, 0, 1, 0, 0, 1, 0, 0]) 2 s K) (ALoopK (fun K s => awp E0 C (E0.L 84) (codeAt (bodyOf E0 84) [1, 0, 0, 1, 0, 0, 1, 0, 0]) 2 s K) (clean [(0, 0), (1, 0), (2, 0), (3, 0), (8, 0), (9, 0)] 0) (K1 Q)) ⟨stt 53 [(0, .nilsl), (1, .int .i64 a1), (2, .int .i64 a2), (3, .fn 53 []), (8, .int .i64 x8i), (9, .int .i64 x9j)], [], Hh⟩ = r1 a1 a2 Q x8i x9j Hh := by kernel_rfl
theorem L1_step {a1 a2 : Int} {Q : Qt} {x8i x9j : Int} {Hh : Heap} (h : r1 a1 a2 Q x8i x9j Hh) : L1 a1 a2 Q x8i x9j Hh := ALoop_told (r1_eq a1 a2 Q x8i x9j Hh) h
def t (a1 a2 : Int) (H : Heap) (Q : Qt) : Prop :=
  L0 a1 a2 Q (addW .i64 a1 1) H
theorem t_eq (a1 a2 : Int) (H : Heap) (Q : Qt) : aBody E0 C 84 [.nilsl, .int .i64 a1, .int .i64 a2, .fn 53 []] H Q = t a1 a2 H Q := by kernel_rfl
theorem call {a1 a2 : Int} {H : Heap} {Q : Qt} (h : t a1 a2 H Q) : C 84 [.nilsl, .int .i64 a1, .int .i64 a2, .fn 53 []] H Q := Call_told (E := E0) (t_eq a1 a2 H Q) h
end F84n
end Go.Proofs.YtlaieomjooeofaaDoor.Ab
