/- PRINTED by abx.py. -/
import Derived.Test.YtagckffnpnejaaaDoorAbMono
import Derived.Test.YtagckffnpnejaaaDoorTab
import Derived.Test.YtagckffnpnejaaaDoorLeaf
namespace Go.Proofs.YtagckffnpnejaaaDoor.Ab
open Go
set_option maxRecDepth 100000
set_option maxHeartbeats 4000000
set_option linter.unusedVariables false
def liveT : Nat → Live
  | 4 => ([[(0, 0), (1, 0), (16, 0), (17, 0), (18, 0)]], [])
  | 5 => ([[(0, 0), (1, 0), (7, 0), (8, 0), (9, 1), (10, 0), (11, 1), (45, 0), (46, 0), (47, 0)], [(0, 0), (1, 0), (7, 0), (11, 0), (17, 3), (103, 0), (104, 0), (105, 0)], [(0, 0), (1, 0), (7, 0), (11, 0), (17, 1), (20, 0), (131, 0), (132, 0), (133, 0)]], [(35, [(0, 0), (1, 0), (7, 0), (8, 0), (9, 0), (10, 0), (11, 0), (45, 0), (46, 0), (47, 0), (101, 0)]), (49, [(0, 0), (1, 0), (7, 0), (11, 0), (17, 3), (19, 0), (103, 0), (104, 0), (105, 0), (120, 0)])])
  | 6 => ([[(0, 0), (1, 0), (2, 0), (15, 0), (16, 0), (17, 0)]], [])
  | 8 => ([], [(9, [(1, 0), (61, 0)])])
  | 11 => ([[(0, 0), (1, 0), (12, 0), (13, 0)]], [])
  | 12 => ([[(0, 0), (5, 0), (13, 0), (14, 0), (15, 0)], [(0, 0), (5, 0), (6, 0), (7, 0), (13, 0), (14, 0), (15, 0), (20, 0), (21, 0), (22, 0)]], [])
  | 13 => ([[(0, 0), (5, 3), (11, 0), (12, 0), (13, 0)], [(0, 0), (5, 3), (7, 0), (8, 0), (11, 0), (12, 0), (13, 0), (17, 0), (18, 0), (19, 0)]], [])
  | 14 => ([[(0, 0), (1, 0), (9, 0), (10, 0), (11, 0)], [(0, 0), (19, 0), (20, 0), (21, 0)]], [])
  | 16 => ([[(1, 0), (5, 3), (8, 0), (9, 0), (10, 0)]], [])
  | 17 => ([[(0, 0), (2, 0), (3, 0)]], [])
  | 19 => ([[(1, 0), (2, 0), (5, 3), (7, 0)]], [])
  | 21 => ([[(1, 0), (2, 0), (7, 4), (10, 0), (11, 0), (12, 0)]], [])
  | 22 => ([[(1, 0), (2, 0), (3, 0), (9, 3), (12, 0), (13, 0), (14, 0)]], [])
  | 23 => ([[(0, 0), (1, 0), (5, 3), (8, 0)], [(0, 0), (1, 0), (5, 3), (6, 0), (7, 0), (8, 0)]], [])
  | 24 => ([[(1, 0), (12, 0), (13, 0), (14, 0)]], [])
  | 26 => ([[(1, 0), (2, 0), (7, 4), (10, 0), (11, 0), (12, 0)]], [])
  | 27 => ([[(0, 0), (1, 0), (12, 0), (13, 0)]], [])
  | 28 => ([[(1, 0), (2, 0), (3, 0), (9, 3), (12, 0), (13, 0), (14, 0)]], [])
  | 29 => ([[(3, 0), (6, 0), (7, 0), (8, 0)]], [])
  | 31 => ([[(0, 0), (3, 0), (4, 0)]], [])
  | 34 => ([[(0, 0), (1, 0), (7, 0), (8, 0)]], [])
  | 37 => ([[(0, 0), (1, 0), (2, 0), (6, 0), (7, 0), (8, 0)], [(0, 0), (1, 0), (2, 0), (6, 0)], [(0, 0), (1, 0), (2, 0), (6, 0), (7, 0), (8, 0)]], [])
  | 41 => ([[(0, 0), (1, 0), (2, 0), (3, 0), (8, 0)], [(0, 0), (1, 0), (2, 0), (3, 0), (8, 0), (9, 0)]], [])
  | _ => ([], [])
def ownT (n : Nat) : Bool := Nat.beq n 15 || Nat.beq n 35
def ioT (n : Nat) : Bool := Nat.beq n 17 || Nat.beq n 32 || Nat.beq n 35 || Nat.beq n 37 || Nat.beq n 39 || Nat.beq n 41 || Nat.beq n 42 || Nat.beq n 43 || Nat.beq n 48 || Nat.beq n 54
def purT (n : Nat) : Bool := !(Nat.beq n 17 || Nat.beq n 32 || Nat.beq n 35 || Nat.beq n 37 || Nat.beq n 39 || Nat.beq n 41 || Nat.beq n 42 || Nat.beq n 43 || Nat.beq n 48 || Nat.beq n 54)
def apartT (n : Nat) : Bool := Nat.beq n 38
noncomputable def E0 : Env := ⟨tys, fun f => cond (leafL.elem f) none (fns.getD f none), liveT, ownT, leafT, ioT, purT, apartT⟩
noncomputable abbrev C : Oracle := Call E0
/-! ### broker/brokerlaw42.PlaceScores: function 3 -/
namespace F3
def t (a0 : ByteArray) (a1 : Int) (H : Heap) (Q : AV → Heap → Prop) : Prop :=
  cond (ltI 200 (sizeI a0))
  (C 8 [] H.none fun v_1 H_2 =>
    G ((v_1).isBool) (Q (.bool ((v_1).toBool)) (H.past H_2)))
  (C 9 [.str a0, .int .i64 a1] H.none fun v_3 H_4 =>
    G ((v_3).isInt .i64) (C 10 [.str a0, .int .i64 a1] ((H.past H_4).none) fun v_5 H_6 =>
      G ((v_5).isInt .i64) (cond (eqI ((v_3).toInt) ((v_5).toInt))
        (C 8 [] ((H.past H_6).none) fun v_7 H_8 =>
          G ((v_7).isBool) (Q (.bool ((v_7).toBool)) (H.past H_8)))
        (Q (.bool false) (H.past H_6)))))
theorem t_eq (a0 : ByteArray) (a1 : Int) (H : Heap) (Q : AV → Heap → Prop) : aBody E0 C 3 [.str a0, .int .i64 a1] H Q = t a0 a1 H Q := by kernel_rfl
theorem call {a0 : ByteArray} {a1 : Int} {H : Heap} {Q : AV → Heap → Prop} (h : t a0 a1 H Q) : C 3 [.str a0, .int .i64 a1] H Q := Call_intro (E := E0) (by rw [t_eq]; exact h)
end F3
/-! ### broker/brokerlaw42.PlaceLoads: function 4 -/
namespace F4
def K0 (Q : AV → Heap → Prop) : Ex → St → Prop := (contK E0 C (E0.L 4) [.block 0 0, .seq (codeAt (bodyOf E0 4) [1, 1, 1]) 1] (finK E0 4 Q))
def L0 (a0 : List (List AV)) (a1 : List (List AV)) (Q : AV → Heap → Prop) (x18 : Int) (Hh : Heap) : Prop := ALoop (fun K s => awp E0 C (E0.L 4) (codeAt (bodyOf E0 4) [1, 1, 0, 1, 0, 0]) 1 s K) (clean [(0, 0), (1, 0), (16, 0), (17, 0), (18, 0)] 0) (K0 Q) ⟨stt 38 [(0, .sl 0 2 a0), (1, .sl 0 1 a1), (16, .sl 0 2 a0), (17, .int .i64 (lenI a0)), (18, .int .i64 x18)], [], Hh⟩
def r0 (a0 : List (List AV)) (a1 : List (List AV)) (Q : AV → Heap → Prop) (x18 : Int) (Hh : Heap) : Prop :=
  cond (ltI x18 (lenI a0))
  (G (leI 0 x18) (G (ltI x18 (lenI a0)) (G ((ce (ro a0 x18.toNat) 0).isStr) (G ((ce (ro a0 x18.toNat) 1).isSl 1) (cond (ltI 60 (lenI ((ce (ro a0 x18.toNat) 1).slXs)))
    (C 8 [] Hh.none fun v_5 H_6 =>
      G ((v_5).isBool) (Q (.bool ((v_5).toBool)) (Hh.past H_6)))
    (L0 a0 a1 Q (addW .i64 x18 1) Hh))))))
  (C 12 [.sl 0 2 a0, .sl 0 1 a1] Hh.none fun v_7 H_8 =>
    G ((v_7).isSl 1) (C 13 [.sl 0 2 a0, .sl 0 1 a1] ((Hh.past H_8).none) fun v_9 H_10 =>
      G ((v_9).isSl 1) (C 11 [.sl 0 1 ((v_7).slXs), .sl 0 1 ((v_9).slXs)] ((Hh.past H_10).none) fun v_11 H_12 =>
        G ((v_11).isBool) (cond ((v_11).toBool)
          (C 8 [] ((Hh.past H_12).none) fun v_13 H_14 =>
            G ((v_13).isBool) (Q (.bool ((v_13).toBool)) (Hh.past H_14)))
          (Q (.bool false) (Hh.past H_12))))))
theorem r0_eq (a0 : List (List AV)) (a1 : List (List AV)) (Q : AV → Heap → Prop) (x18 : Int) (Hh : Heap) : (fun K s => awp E0 C (E0.L 4) (codeAt (bodyOf E0 4) [1, 1, 0, 1, 0, 0]) 1 s K) (fun e s' => match e with | .normal => ALoop (fun K s => awp E0 C (E0.L 4) (codeAt (bodyOf E0 4) [1, 1, 0, 1, 0, 0]) 1 s K) (clean [(0, 0), (1, 0), (16, 0), (17, 0), (18, 0)] 0) (K0 Q) ((clean [(0, 0), (1, 0), (16, 0), (17, 0), (18, 0)] 0) s') | e => K0 Q e s') ⟨stt 38 [(0, .sl 0 2 a0), (1, .sl 0 1 a1), (16, .sl 0 2 a0), (17, .int .i64 (lenI a0)), (18, .int .i64 x18)], [], Hh⟩ = r0 a0 a1 Q x18 Hh := by kernel_rfl
theorem L0_step {a0 : List (List AV)} {a1 : List (List AV)} {Q : AV → Heap → Prop} {x18 : Int} {Hh : Heap} (h : r0 a0 a1 Q x18 Hh) : L0 a0 a1 Q x18 Hh := ALoop_unfold ((r0_eq a0 a1 Q x18 Hh).mpr h)
def t (a0 : List (List AV)) (a1 : List (List AV)) (H : Heap) (Q : AV → Heap → Prop) : Prop :=
  cond (ltI 40 (lenI a0))
  (C 8 [] H.none fun v_1 H_2 =>
    G ((v_1).isBool) (Q (.bool ((v_1).toBool)) (H.past H_2)))
  (cond (ltI 60 (lenI a1))
    (C 8 [] H.none fun v_3 H_4 =>
      G ((v_3).isBool) (Q (.bool ((v_3).toBool)) (H.past H_4)))
    (L0 a0 a1 Q 0 H))
theorem t_eq (a0 : List (List AV)) (a1 : List (List AV)) (H : Heap) (Q : AV → Heap → Prop) : aBody E0 C 4 [.sl 0 2 a0, .sl 0 1 a1] H Q = t a0 a1 H Q := by kernel_rfl
theorem call {a0 : List (List AV)} {a1 : List (List AV)} {H : Heap} {Q : AV → Heap → Prop} (h : t a0 a1 H Q) : C 4 [.sl 0 2 a0, .sl 0 1 a1] H Q := Call_intro (E := E0) (by rw [t_eq]; exact h)
end F4
/-! ### broker/brokerlaw42.PlaceLittle: function 5 -/
namespace F5
def K0 (Q : AV → Heap → Prop) : Ex → St → Prop := (contK E0 C (E0.L 5) [.block 0 1, .seq (codeAt (bodyOf E0 5) [1, 1, 1, 1, 1, 1, 1]) 1] (finK E0 5 Q))
def L0 (a0 : List (List AV)) (a1 : List (List AV)) (a2_0 : Int) (a2_1 : Int) (Q : AV → Heap → Prop) (x9with : List (List AV)) (x10bare : List (List AV)) (x11back : List (List AV)) (x47 : Int) (Hh : Heap) : Prop := ALoop (fun K s => awp E0 C (E0.L 5) (codeAt (bodyOf E0 5) [1, 1, 1, 1, 1, 1, 0, 1, 0, 0]) 1 s K) (clean [(0, 0), (1, 0), (7, 0), (8, 0), (9, 1), (10, 0), (11, 1), (45, 0), (46, 0), (47, 0)] 1) (K0 Q) ⟨stt 163 [(0, .sl 0 1 a0), (1, .sl 0 1 a1), (7, .int .i64 a2_0), (8, .int .i64 a2_1), (9, .sl 0 1 x9with), (10, .sl 0 1 x10bare), (11, .sl 0 1 x11back), (45, .sl 0 1 a0), (46, .int .i64 (lenI a0)), (47, .int .i64 x47)], [.cells [.int .i64 a2_0, .int .i64 a2_1]], Hh⟩
def JR17 (a0 : List (List AV)) (a1 : List (List AV)) (a2_0 : Int) (a2_1 : Int) (Q : AV → Heap → Prop) (x9with : List (List AV)) (x10bare : List (List AV)) (x11back : List (List AV)) (x47 : Int) (x101 : Bool) (Hh : Heap) : Prop := AJoin (contK E0 C (E0.L 5) [.seq (codeAt (bodyOf E0 5) [1, 1, 1, 1, 1, 1, 0, 1, 0, 0, 1, 1, 0, 0, 1, 1, 1, 1, 1, 1]) 1, .block 1 1, .seq (codeAt (bodyOf E0 5) [1, 1, 1, 1, 1, 1, 0, 1, 0, 0, 1, 1, 1]) 1, .loop (codeAt (bodyOf E0 5) [1, 1, 1, 1, 1, 1, 0, 1, 0, 0]) 1 [(0, 0), (1, 0), (7, 0), (8, 0), (9, 1), (10, 0), (11, 1), (45, 0), (46, 0), (47, 0)] 1, .block 0 1, .seq (codeAt (bodyOf E0 5) [1, 1, 1, 1, 1, 1, 1]) 1] (finK E0 5 Q)) ⟨stt 163 [(0, .sl 0 1 a0), (1, .sl 0 1 a1), (7, .int .i64 a2_0), (8, .int .i64 a2_1), (9, .sl 0 1 x9with), (10, .sl 0 1 x10bare), (11, .sl 0 1 x11back), (45, .sl 0 1 a0), (46, .int .i64 (lenI a0)), (47, .int .i64 x47), (101, .bool x101)], [.cells [.int .i64 a2_0, .int .i64 a2_1]], Hh⟩
def K1 (Q : AV → Heap → Prop) : Ex → St → Prop := (contK E0 C (E0.L 5) [.block 2 1, .seq (codeAt (bodyOf E0 5) [1, 1, 1, 1, 1, 1, 1, 1, 1]) 2] (finK E0 5 Q))
def L1 (a0 : List (List AV)) (a1 : List (List AV)) (a2_0 : Int) (a2_1 : Int) (Q : AV → Heap → Prop) (x11back : List (List AV)) (x17different : List (List AV)) (x105 : Int) (Hh : Heap) : Prop := ALoop (fun K s => awp E0 C (E0.L 5) (codeAt (bodyOf E0 5) [1, 1, 1, 1, 1, 1, 1, 1, 0, 1, 0, 0]) 2 s K) (clean [(0, 0), (1, 0), (7, 0), (11, 0), (17, 3), (103, 0), (104, 0), (105, 0)] 1) (K1 Q) ⟨stt 163 [(0, .sl 0 1 a0), (1, .sl 0 1 a1), (7, .int .i64 a2_0), (11, .sl 0 1 x11back), (17, .sl 1 1 x17different), (103, .sl 0 1 a1), (104, .int .i64 (lenI a1)), (105, .int .i64 x105)], [.cells [.int .i64 a2_0, .int .i64 a2_1]], Hh⟩
def JR24 (a0 : List (List AV)) (a1 : List (List AV)) (a2_0 : Int) (a2_1 : Int) (Q : AV → Heap → Prop) (x11back : List (List AV)) (x17different : List (List AV)) (x19k : Int) (x105 : Int) (x120 : Bool) (Hh : Heap) : Prop := AJoin (contK E0 C (E0.L 5) [.seq (codeAt (bodyOf E0 5) [1, 1, 1, 1, 1, 1, 1, 1, 0, 1, 0, 0, 1, 1, 0, 0, 1, 1]) 2, .block 3 1, .seq (codeAt (bodyOf E0 5) [1, 1, 1, 1, 1, 1, 1, 1, 0, 1, 0, 0, 1, 1, 1]) 2, .loop (codeAt (bodyOf E0 5) [1, 1, 1, 1, 1, 1, 1, 1, 0, 1, 0, 0]) 2 [(0, 0), (1, 0), (7, 0), (11, 0), (17, 3), (103, 0), (104, 0), (105, 0)] 1, .block 2 1, .seq (codeAt (bodyOf E0 5) [1, 1, 1, 1, 1, 1, 1, 1, 1]) 2] (finK E0 5 Q)) ⟨stt 163 [(0, .sl 0 1 a0), (1, .sl 0 1 a1), (7, .int .i64 a2_0), (11, .sl 0 1 x11back), (17, .sl 1 1 x17different), (19, .int .i64 x19k), (103, .sl 0 1 a1), (104, .int .i64 (lenI a1)), (105, .int .i64 x105), (120, .bool x120)], [.cells [.int .i64 a2_0, .int .i64 a2_1]], Hh⟩
def K2 (Q : AV → Heap → Prop) : Ex → St → Prop := (contK E0 C (E0.L 5) [.block 4 1, .seq (codeAt (bodyOf E0 5) [1, 1, 1, 1, 1, 1, 1, 1, 1, 1, 1]) 3] (finK E0 5 Q))
def L2 (a0 : List (List AV)) (a1 : List (List AV)) (a2_0 : Int) (a2_1 : Int) (Q : AV → Heap → Prop) (x11back : List (List AV)) (x17different : List (List AV)) (x20sum : Int) (x131 : List (List AV)) (x132 : Int) (x133 : Int) (Hh : Heap) : Prop := ALoop (fun K s => awp E0 C (E0.L 5) (codeAt (bodyOf E0 5) [1, 1, 1, 1, 1, 1, 1, 1, 1, 1, 0, 1, 0, 0]) 3 s K) (clean [(0, 0), (1, 0), (7, 0), (11, 0), (17, 1), (20, 0), (131, 0), (132, 0), (133, 0)] 1) (K2 Q) ⟨stt 163 [(0, .sl 0 1 a0), (1, .sl 0 1 a1), (7, .int .i64 a2_0), (11, .sl 0 1 x11back), (17, .sl 0 1 x17different), (20, .int .i64 x20sum), (131, .sl 0 1 x131), (132, .int .i64 x132), (133, .int .i64 x133)], [.cells [.int .i64 a2_0, .int .i64 a2_1]], Hh⟩
def r0 (a0 : List (List AV)) (a1 : List (List AV)) (a2_0 : Int) (a2_1 : Int) (Q : AV → Heap → Prop) (x9with : List (List AV)) (x10bare : List (List AV)) (x11back : List (List AV)) (x47 : Int) (Hh : Heap) : Prop :=
  cond (ltI x47 (lenI a0))
  (G (leI 0 x47) (G (ltI x47 (lenI a0)) (G ((ce (ro a0 x47.toNat) 0).isStr) (C 18 [.str ((ce (ro a0 x47.toNat) 0).toStr), .sl 0 1 x10bare, .int .i64 a2_0] Hh.none fun v_13 H_14 =>
    G ((v_13).isAgg && Nat.beq (v_13).aggCs.length 2) (G ((((v_13).aggCs).headD .any).isStr) (G (((((v_13).aggCs).tail).headD .any).isSl 1) (C 18 [.str ((ce (ro a0 x47.toNat) 0).toStr), .sl 0 1 x9with, .int .i64 a2_0] ((Hh.past H_14).none) fun v_15 H_16 =>
      G ((v_15).isAgg && Nat.beq (v_15).aggCs.length 2) (G ((((v_15).aggCs).headD .any).isStr) (G (((((v_15).aggCs).tail).headD .any).isSl 1) (C 19 [.str ((ce (ro a0 x47.toNat) 0).toStr), .sl 0 1 a1] ((Hh.past H_16).none) fun v_17 H_18 =>
        G ((v_17).isSl 1) (C 19 [.str ((ce (ro a0 x47.toNat) 0).toStr), .sl 0 1 x11back] ((Hh.past H_18).none) fun v_19 H_20 =>
          G ((v_19).isSl 1) (C 11 [.sl 0 1 ((v_17).slXs), .sl 0 1 ((v_19).slXs)] ((Hh.past H_20).none) fun v_21 H_22 =>
            G ((v_21).isBool) (cond (!((v_21).toBool))
              (Q (.bool false) (Hh.past H_22))
              (C 20 [.sl 0 1 (((((v_15).aggCs).tail).headD .any).slXs), .int .i64 a2_1] ((Hh.past H_22).none) fun v_23 H_24 =>
                G ((v_23).isBool) (cond (!((v_23).toBool))
                  (C 11 [.sl 0 1 (((((v_13).aggCs).tail).headD .any).slXs), .sl 0 1 (((((v_15).aggCs).tail).headD .any).slXs)] ((Hh.past H_24).none) fun v_25 H_26 =>
                    G ((v_25).isBool) (cond (!((v_25).toBool))
                      (Q (.bool false) (Hh.past H_26))
                      (L0 a0 a1 a2_0 a2_1 Q x9with x10bare x11back (addW .i64 x47 1) (Hh.past H_26))))
                  (C 16 [.sl 0 1 (((((v_15).aggCs).tail).headD .any).slXs), .int .i64 a2_1] ((Hh.past H_24).none) fun v_27 H_28 =>
                    G ((v_27).isSl 1) (cond (!(eqI (lenI ((v_27).slXs)) (subW .i64 (lenI (((((v_15).aggCs).tail).headD .any).slXs)) 1)))
                      (JR17 a0 a1 a2_0 a2_1 Q x9with x10bare x11back x47 true (Hh.past H_28))
                      (cond (ltI (lenI (((((v_13).aggCs).tail).headD .any).slXs)) (lenI ((v_27).slXs)))
                        (JR17 a0 a1 a2_0 a2_1 Q x9with x10bare x11back x47 true (Hh.past H_28))
                        (G (leI 0 (lenI ((v_27).slXs))) (G (leI (lenI ((v_27).slXs)) (lenI ((v_27).slXs))) (G (leI (lenI ((v_27).slXs)) (lenI (((((v_13).aggCs).tail).headD .any).slXs))) (C 11 [.sl 0 1 (((((((v_13).aggCs).tail).headD .any).slXs).take ((lenI ((v_27).slXs)).toNat)).drop 0), .sl 0 1 ((v_27).slXs)] ((Hh.past H_28).none) fun v_29 H_30 =>
                          G ((v_29).isBool) (JR17 a0 a1 a2_0 a2_1 Q x9with x10bare x11back x47 (!((v_29).toBool)) (Hh.past H_30))))))))))))))))))))))))
  (L1 a0 a1 a2_0 a2_1 Q x11back [] 0 Hh)
theorem r0_eq (a0 : List (List AV)) (a1 : List (List AV)) (a2_0 : Int) (a2_1 : Int) (Q : AV → Heap → Prop) (x9with : List (List AV)) (x10bare : List (List AV)) (x11back : List (List AV)) (x47 : Int) (Hh : Heap) : (fun K s => awp E0 C (E0.L 5) (codeAt (bodyOf E0 5) [1, 1, 1, 1, 1, 1, 0, 1, 0, 0]) 1 s K) (fun e s' => match e with | .normal => ALoop (fun K s => awp E0 C (E0.L 5) (codeAt (bodyOf E0 5) [1, 1, 1, 1, 1, 1, 0, 1, 0, 0]) 1 s K) (clean [(0, 0), (1, 0), (7, 0), (8, 0), (9, 1), (10, 0), (11, 1), (45, 0), (46, 0), (47, 0)] 1) (K0 Q) ((clean [(0, 0), (1, 0), (7, 0), (8, 0), (9, 1), (10, 0), (11, 1), (45, 0), (46, 0), (47, 0)] 1) s') | e => K0 Q e s') ⟨stt 163 [(0, .sl 0 1 a0), (1, .sl 0 1 a1), (7, .int .i64 a2_0), (8, .int .i64 a2_1), (9, .sl 0 1 x9with), (10, .sl 0 1 x10bare), (11, .sl 0 1 x11back), (45, .sl 0 1 a0), (46, .int .i64 (lenI a0)), (47, .int .i64 x47)], [.cells [.int .i64 a2_0, .int .i64 a2_1]], Hh⟩ = r0 a0 a1 a2_0 a2_1 Q x9with x10bare x11back x47 Hh := by kernel_rfl
theorem L0_step {a0 : List (List AV)} {a1 : List (List AV)} {a2_0 : Int} {a2_1 : Int} {Q : AV → Heap → Prop} {x9with : List (List AV)} {x10bare : List (List AV)} {x11back : List (List AV)} {x47 : Int} {Hh : Heap} (h : r0 a0 a1 a2_0 a2_1 Q x9with x10bare x11back x47 Hh) : L0 a0 a1 a2_0 a2_1 Q x9with x10bare x11back x47 Hh := ALoop_unfold ((r0_eq a0 a1 a2_0 a2_1 Q x9with x10bare x11back x47 Hh).mpr h)
def jR17 (a0 : List (List AV)) (a1 : List (List AV)) (a2_0 : Int) (a2_1 : Int) (Q : AV → Heap → Prop) (x9with : List (List AV)) (x10bare : List (List AV)) (x11back : List (List AV)) (x47 : Int) (x101 : Bool) (Hh : Heap) : Prop :=
  cond x101
  (Q (.bool false) Hh)
  (L0 a0 a1 a2_0 a2_1 Q x9with x10bare x11back (addW .i64 x47 1) Hh)
theorem JR17_eq (a0 : List (List AV)) (a1 : List (List AV)) (a2_0 : Int) (a2_1 : Int) (Q : AV → Heap → Prop) (x9with : List (List AV)) (x10bare : List (List AV)) (x11back : List (List AV)) (x47 : Int) (x101 : Bool) (Hh : Heap) : contK E0 C (E0.L 5) [.seq (codeAt (bodyOf E0 5) [1, 1, 1, 1, 1, 1, 0, 1, 0, 0, 1, 1, 0, 0, 1, 1, 1, 1, 1, 1]) 1, .block 1 1, .seq (codeAt (bodyOf E0 5) [1, 1, 1, 1, 1, 1, 0, 1, 0, 0, 1, 1, 1]) 1, .loop (codeAt (bodyOf E0 5) [1, 1, 1, 1, 1, 1, 0, 1, 0, 0]) 1 [(0, 0), (1, 0), (7, 0), (8, 0), (9, 1), (10, 0), (11, 1), (45, 0), (46, 0), (47, 0)] 1, .block 0 1, .seq (codeAt (bodyOf E0 5) [1, 1, 1, 1, 1, 1, 1]) 1] (finK E0 5 Q) .normal ⟨stt 163 [(0, .sl 0 1 a0), (1, .sl 0 1 a1), (7, .int .i64 a2_0), (8, .int .i64 a2_1), (9, .sl 0 1 x9with), (10, .sl 0 1 x10bare), (11, .sl 0 1 x11back), (45, .sl 0 1 a0), (46, .int .i64 (lenI a0)), (47, .int .i64 x47), (101, .bool x101)], [.cells [.int .i64 a2_0, .int .i64 a2_1]], Hh⟩ = jR17 a0 a1 a2_0 a2_1 Q x9with x10bare x11back x47 x101 Hh := by kernel_rfl
theorem JR17_step {a0 : List (List AV)} {a1 : List (List AV)} {a2_0 : Int} {a2_1 : Int} {Q : AV → Heap → Prop} {x9with : List (List AV)} {x10bare : List (List AV)} {x11back : List (List AV)} {x47 : Int} {x101 : Bool} {Hh : Heap} (h : jR17 a0 a1 a2_0 a2_1 Q x9with x10bare x11back x47 x101 Hh) : JR17 a0 a1 a2_0 a2_1 Q x9with x10bare x11back x47 x101 Hh := ⟨(JR17_eq a0 a1 a2_0 a2_1 Q x9with x10bare x11back x47 x101 Hh).mpr h⟩
def r1 (a0 : List (List AV)) (a1 : List (List AV)) (a2_0 : Int) (a2_1 : Int) (Q : AV → Heap → Prop) (x11back : List (List AV)) (x17different : List (List AV)) (x105 : Int) (Hh : Heap) : Prop :=
  cond (ltI x105 (lenI a1))
  (G (leI 0 x105) (G (ltI x105 (lenI a1)) (G ((ce (ro a1 x105.toNat) 0).isInt .i64) (cond (leI 0 ((ce (ro a1 x105.toNat) 0).toInt))
    (cond (ltI ((ce (ro a1 x105.toNat) 0).toInt) 7)
      (C 20 [.sl 0 1 x17different, .int .i64 ((ce (ro a1 x105.toNat) 0).toInt)] Hh.none fun v_31 H_32 =>
        G ((v_31).isBool) (JR24 a0 a1 a2_0 a2_1 Q x11back x17different ((ce (ro a1 x105.toNat) 0).toInt) x105 (!((v_31).toBool)) (Hh.past H_32)))
      (JR24 a0 a1 a2_0 a2_1 Q x11back x17different ((ce (ro a1 x105.toNat) 0).toInt) x105 false Hh))
    (JR24 a0 a1 a2_0 a2_1 Q x11back x17different ((ce (ro a1 x105.toNat) 0).toInt) x105 false Hh)))))
  (C 21 [.sl 0 1 a0, .sl 0 1 a1, .int .i64 a2_0] Hh.none fun v_33 H_34 =>
    G ((v_33).isSl 2) (C 12 [.sl 0 2 ((v_33).slXs), .sl 0 1 x17different] ((Hh.past H_34).none) fun v_35 H_36 =>
      G ((v_35).isSl 1) (L2 a0 a1 a2_0 a2_1 Q x11back x17different 0 ((v_35).slXs) (lenI ((v_35).slXs)) 0 (Hh.past H_36))))
theorem r1_eq (a0 : List (List AV)) (a1 : List (List AV)) (a2_0 : Int) (a2_1 : Int) (Q : AV → Heap → Prop) (x11back : List (List AV)) (x17different : List (List AV)) (x105 : Int) (Hh : Heap) : (fun K s => awp E0 C (E0.L 5) (codeAt (bodyOf E0 5) [1, 1, 1, 1, 1, 1, 1, 1, 0, 1, 0, 0]) 2 s K) (fun e s' => match e with | .normal => ALoop (fun K s => awp E0 C (E0.L 5) (codeAt (bodyOf E0 5) [1, 1, 1, 1, 1, 1, 1, 1, 0, 1, 0, 0]) 2 s K) (clean [(0, 0), (1, 0), (7, 0), (11, 0), (17, 3), (103, 0), (104, 0), (105, 0)] 1) (K1 Q) ((clean [(0, 0), (1, 0), (7, 0), (11, 0), (17, 3), (103, 0), (104, 0), (105, 0)] 1) s') | e => K1 Q e s') ⟨stt 163 [(0, .sl 0 1 a0), (1, .sl 0 1 a1), (7, .int .i64 a2_0), (11, .sl 0 1 x11back), (17, .sl 1 1 x17different), (103, .sl 0 1 a1), (104, .int .i64 (lenI a1)), (105, .int .i64 x105)], [.cells [.int .i64 a2_0, .int .i64 a2_1]], Hh⟩ = r1 a0 a1 a2_0 a2_1 Q x11back x17different x105 Hh := by kernel_rfl
theorem L1_step {a0 : List (List AV)} {a1 : List (List AV)} {a2_0 : Int} {a2_1 : Int} {Q : AV → Heap → Prop} {x11back : List (List AV)} {x17different : List (List AV)} {x105 : Int} {Hh : Heap} (h : r1 a0 a1 a2_0 a2_1 Q x11back x17different x105 Hh) : L1 a0 a1 a2_0 a2_1 Q x11back x17different x105 Hh := ALoop_unfold ((r1_eq a0 a1 a2_0 a2_1 Q x11back x17different x105 Hh).mpr h)
def jR24 (a0 : List (List AV)) (a1 : List (List AV)) (a2_0 : Int) (a2_1 : Int) (Q : AV → Heap → Prop) (x11back : List (List AV)) (x17different : List (List AV)) (x19k : Int) (x105 : Int) (x120 : Bool) (Hh : Heap) : Prop :=
  cond x120
  (G (room x17different [[.int .i64 x19k]] 8) (L1 a0 a1 a2_0 a2_1 Q x11back (x17different ++ [[.int .i64 x19k]]) (addW .i64 x105 1) Hh))
  (L1 a0 a1 a2_0 a2_1 Q x11back x17different (addW .i64 x105 1) Hh)
theorem JR24_eq (a0 : List (List AV)) (a1 : List (List AV)) (a2_0 : Int) (a2_1 : Int) (Q : AV → Heap → Prop) (x11back : List (List AV)) (x17different : List (List AV)) (x19k : Int) (x105 : Int) (x120 : Bool) (Hh : Heap) : contK E0 C (E0.L 5) [.seq (codeAt (bodyOf E0 5) [1, 1, 1, 1, 1, 1, 1, 1, 0, 1, 0, 0, 1, 1, 0, 0, 1, 1]) 2, .block 3 1, .seq (codeAt (bodyOf E0 5) [1, 1, 1, 1, 1, 1, 1, 1, 0, 1, 0, 0, 1, 1, 1]) 2, .loop (codeAt (bodyOf E0 5) [1, 1, 1, 1, 1, 1, 1, 1, 0, 1, 0, 0]) 2 [(0, 0), (1, 0), (7, 0), (11, 0), (17, 3), (103, 0), (104, 0), (105, 0)] 1, .block 2 1, .seq (codeAt (bodyOf E0 5) [1, 1, 1, 1, 1, 1, 1, 1, 1]) 2] (finK E0 5 Q) .normal ⟨stt 163 [(0, .sl 0 1 a0), (1, .sl 0 1 a1), (7, .int .i64 a2_0), (11, .sl 0 1 x11back), (17, .sl 1 1 x17different), (19, .int .i64 x19k), (103, .sl 0 1 a1), (104, .int .i64 (lenI a1)), (105, .int .i64 x105), (120, .bool x120)], [.cells [.int .i64 a2_0, .int .i64 a2_1]], Hh⟩ = jR24 a0 a1 a2_0 a2_1 Q x11back x17different x19k x105 x120 Hh := by kernel_rfl
theorem JR24_step {a0 : List (List AV)} {a1 : List (List AV)} {a2_0 : Int} {a2_1 : Int} {Q : AV → Heap → Prop} {x11back : List (List AV)} {x17different : List (List AV)} {x19k : Int} {x105 : Int} {x120 : Bool} {Hh : Heap} (h : jR24 a0 a1 a2_0 a2_1 Q x11back x17different x19k x105 x120 Hh) : JR24 a0 a1 a2_0 a2_1 Q x11back x17different x19k x105 x120 Hh := ⟨(JR24_eq a0 a1 a2_0 a2_1 Q x11back x17different x19k x105 x120 Hh).mpr h⟩
def r2 (a0 : List (List AV)) (a1 : List (List AV)) (a2_0 : Int) (a2_1 : Int) (Q : AV → Heap → Prop) (x11back : List (List AV)) (x17different : List (List AV)) (x20sum : Int) (x131 : List (List AV)) (x132 : Int) (x133 : Int) (Hh : Heap) : Prop :=
  cond (ltI x133 x132)
  (G (leI 0 x133) (G (ltI x133 (lenI x131)) (G ((ce (ro x131 x133.toNat) 0).isInt .i64) (L2 a0 a1 a2_0 a2_1 Q x11back x17different (addW .i64 x20sum ((ce (ro x131 x133.toNat) 0).toInt)) x131 x132 (addW .i64 x133 1) Hh))))
  (cond (eqI x20sum (mulW .i64 (lenI a0) (cond (ltI (lenI x17different) (cond (ltI a2_0 0) 0 a2_0)) (lenI x17different) (cond (ltI a2_0 0) 0 a2_0))))
    (C 22 [.sl 0 1 a0, .sl 0 1 a1, .sl 0 1 x11back, .int .i64 a2_0] Hh.none fun v_37 H_38 =>
      G ((v_37).isSl 1) (cond (eqI (lenI ((v_37).slXs)) 0)
        (C 8 [] ((Hh.past H_38).none) fun v_39 H_40 =>
          G ((v_39).isBool) (Q (.bool ((v_39).toBool)) (Hh.past H_40)))
        (Q (.bool false) (Hh.past H_38))))
    (Q (.bool false) Hh))
theorem r2_eq (a0 : List (List AV)) (a1 : List (List AV)) (a2_0 : Int) (a2_1 : Int) (Q : AV → Heap → Prop) (x11back : List (List AV)) (x17different : List (List AV)) (x20sum : Int) (x131 : List (List AV)) (x132 : Int) (x133 : Int) (Hh : Heap) : (fun K s => awp E0 C (E0.L 5) (codeAt (bodyOf E0 5) [1, 1, 1, 1, 1, 1, 1, 1, 1, 1, 0, 1, 0, 0]) 3 s K) (fun e s' => match e with | .normal => ALoop (fun K s => awp E0 C (E0.L 5) (codeAt (bodyOf E0 5) [1, 1, 1, 1, 1, 1, 1, 1, 1, 1, 0, 1, 0, 0]) 3 s K) (clean [(0, 0), (1, 0), (7, 0), (11, 0), (17, 1), (20, 0), (131, 0), (132, 0), (133, 0)] 1) (K2 Q) ((clean [(0, 0), (1, 0), (7, 0), (11, 0), (17, 1), (20, 0), (131, 0), (132, 0), (133, 0)] 1) s') | e => K2 Q e s') ⟨stt 163 [(0, .sl 0 1 a0), (1, .sl 0 1 a1), (7, .int .i64 a2_0), (11, .sl 0 1 x11back), (17, .sl 0 1 x17different), (20, .int .i64 x20sum), (131, .sl 0 1 x131), (132, .int .i64 x132), (133, .int .i64 x133)], [.cells [.int .i64 a2_0, .int .i64 a2_1]], Hh⟩ = r2 a0 a1 a2_0 a2_1 Q x11back x17different x20sum x131 x132 x133 Hh := by kernel_rfl
theorem L2_step {a0 : List (List AV)} {a1 : List (List AV)} {a2_0 : Int} {a2_1 : Int} {Q : AV → Heap → Prop} {x11back : List (List AV)} {x17different : List (List AV)} {x20sum : Int} {x131 : List (List AV)} {x132 : Int} {x133 : Int} {Hh : Heap} (h : r2 a0 a1 a2_0 a2_1 Q x11back x17different x20sum x131 x132 x133 Hh) : L2 a0 a1 a2_0 a2_1 Q x11back x17different x20sum x131 x132 x133 Hh := ALoop_unfold ((r2_eq a0 a1 a2_0 a2_1 Q x11back x17different x20sum x131 x132 x133 Hh).mpr h)
def t (a0 : List (List AV)) (a1 : List (List AV)) (a2_0 : Int) (a2_1 : Int) (H : Heap) (Q : AV → Heap → Prop) : Prop :=
  C 14 [.sl 0 1 a0, .sl 0 1 [[.sl 0 1 a1]]] H.none fun v_1 H_2 =>
  G ((v_1).isBool) (cond (!((v_1).toBool))
    (C 8 [] ((H.past H_2).none) fun v_3 H_4 =>
      G ((v_3).isBool) (Q (.bool ((v_3).toBool)) (H.past H_4)))
    (C 15 [.sl 0 1 a1] ((H.past H_2).none) fun v_5 H_6 =>
      G ((v_5).isOwn 1) (G (room ((v_5).slXs) [[.int .i64 a2_1]] 8) (C 16 [.sl 0 1 a1, .int .i64 a2_1] ((H.past H_6).none) fun v_7 H_8 =>
        G ((v_7).isSl 1) (C 15 [.sl 0 1 a1] ((H.past H_8).none) fun v_9 H_10 =>
          G ((v_9).isOwn 1) (ioTurn C 17 1 ((v_9).slXs) [] (H.past H_10) fun y_11 H_12 =>
            L0 a0 a1 a2_0 a2_1 Q (((v_5).slXs) ++ [[.int .i64 a2_1]]) ((v_7).slXs) y_11 0 H_12))))))
theorem t_eq (a0 : List (List AV)) (a1 : List (List AV)) (a2_0 : Int) (a2_1 : Int) (H : Heap) (Q : AV → Heap → Prop) : aBody E0 C 5 [.sl 0 1 a0, .sl 0 1 a1, .agg [.int .i64 a2_0, .int .i64 a2_1]] H Q = t a0 a1 a2_0 a2_1 H Q := by kernel_rfl
theorem call {a0 : List (List AV)} {a1 : List (List AV)} {a2_0 : Int} {a2_1 : Int} {H : Heap} {Q : AV → Heap → Prop} (h : t a0 a1 a2_0 a2_1 H Q) : C 5 [.sl 0 1 a0, .sl 0 1 a1, .agg [.int .i64 a2_0, .int .i64 a2_1]] H Q := Call_intro (E := E0) (by rw [t_eq]; exact h)
end F5
/-! ### broker/brokerlaw42.PlaceRanks: function 6 -/
namespace F6
def K0 (Q : AV → Heap → Prop) : Ex → St → Prop := (contK E0 C (E0.L 6) [.block 0 0, .seq (codeAt (bodyOf E0 6) [1, 1, 1]) 1] (finK E0 6 Q))
def L0 (a0 : List (List AV)) (a1 : List (List AV)) (a2 : Int) (Q : AV → Heap → Prop) (x17 : Int) (Hh : Heap) : Prop := ALoop (fun K s => awp E0 C (E0.L 6) (codeAt (bodyOf E0 6) [1, 1, 0, 1, 0, 0]) 1 s K) (clean [(0, 0), (1, 0), (2, 0), (15, 0), (16, 0), (17, 0)] 0) (K0 Q) ⟨stt 56 [(0, .sl 0 1 a0), (1, .sl 0 1 a1), (2, .int .i64 a2), (15, .sl 0 1 a0), (16, .int .i64 (lenI a0)), (17, .int .i64 x17)], [], Hh⟩
def r0 (a0 : List (List AV)) (a1 : List (List AV)) (a2 : Int) (Q : AV → Heap → Prop) (x17 : Int) (Hh : Heap) : Prop :=
  cond (ltI x17 (lenI a0))
  (G (leI 0 x17) (G (ltI x17 (lenI a0)) (G ((ce (ro a0 x17.toNat) 0).isStr) (C 19 [.str ((ce (ro a0 x17.toNat) 0).toStr), .sl 0 1 a1] Hh.none fun v_5 H_6 =>
    G ((v_5).isSl 1) (C 23 [.str ((ce (ro a0 x17.toNat) 0).toStr), .sl 0 1 a1] ((Hh.past H_6).none) fun v_7 H_8 =>
      G ((v_7).isSl 1) (C 11 [.sl 0 1 ((v_5).slXs), .sl 0 1 ((v_7).slXs)] ((Hh.past H_8).none) fun v_9 H_10 =>
        G ((v_9).isBool) (cond (!((v_9).toBool))
          (Q (.bool false) (Hh.past H_10))
          (C 18 [.str ((ce (ro a0 x17.toNat) 0).toStr), .sl 0 1 a1, .int .i64 a2] ((Hh.past H_10).none) fun v_11 H_12 =>
            G ((v_11).isAgg && Nat.beq (v_11).aggCs.length 2) (G ((((v_11).aggCs).headD .any).isStr) (G (((((v_11).aggCs).tail).headD .any).isSl 1) (C 25 [.str ((ce (ro a0 x17.toNat) 0).toStr), .sl 0 1 a1, .int .i64 a2] ((Hh.past H_12).none) fun v_13 H_14 =>
              G ((v_13).isAgg && Nat.beq (v_13).aggCs.length 2) (G ((((v_13).aggCs).headD .any).isStr) (G (((((v_13).aggCs).tail).headD .any).isSl 1) (C 24 [.sl 0 2 [[.str ((((v_11).aggCs).headD .any).toStr), .sl 0 1 (((((v_11).aggCs).tail).headD .any).slXs)]], .sl 0 2 [[.str ((((v_13).aggCs).headD .any).toStr), .sl 0 1 (((((v_13).aggCs).tail).headD .any).slXs)]]] ((Hh.past H_14).none) fun v_15 H_16 =>
                G ((v_15).isBool) (cond (!((v_15).toBool))
                  (Q (.bool false) (Hh.past H_16))
                  (L0 a0 a1 a2 Q (addW .i64 x17 1) (Hh.past H_16)))))))))))))))))
  (C 21 [.sl 0 1 a0, .sl 0 1 a1, .int .i64 a2] Hh.none fun v_17 H_18 =>
    G ((v_17).isSl 2) (C 26 [.sl 0 1 a0, .sl 0 1 a1, .int .i64 a2] ((Hh.past H_18).none) fun v_19 H_20 =>
      G ((v_19).isSl 2) (C 24 [.sl 0 2 ((v_17).slXs), .sl 0 2 ((v_19).slXs)] ((Hh.past H_20).none) fun v_21 H_22 =>
        G ((v_21).isBool) (cond ((v_21).toBool)
          (C 8 [] ((Hh.past H_22).none) fun v_23 H_24 =>
            G ((v_23).isBool) (Q (.bool ((v_23).toBool)) (Hh.past H_24)))
          (Q (.bool false) (Hh.past H_22))))))
theorem r0_eq (a0 : List (List AV)) (a1 : List (List AV)) (a2 : Int) (Q : AV → Heap → Prop) (x17 : Int) (Hh : Heap) : (fun K s => awp E0 C (E0.L 6) (codeAt (bodyOf E0 6) [1, 1, 0, 1, 0, 0]) 1 s K) (fun e s' => match e with | .normal => ALoop (fun K s => awp E0 C (E0.L 6) (codeAt (bodyOf E0 6) [1, 1, 0, 1, 0, 0]) 1 s K) (clean [(0, 0), (1, 0), (2, 0), (15, 0), (16, 0), (17, 0)] 0) (K0 Q) ((clean [(0, 0), (1, 0), (2, 0), (15, 0), (16, 0), (17, 0)] 0) s') | e => K0 Q e s') ⟨stt 56 [(0, .sl 0 1 a0), (1, .sl 0 1 a1), (2, .int .i64 a2), (15, .sl 0 1 a0), (16, .int .i64 (lenI a0)), (17, .int .i64 x17)], [], Hh⟩ = r0 a0 a1 a2 Q x17 Hh := by kernel_rfl
theorem L0_step {a0 : List (List AV)} {a1 : List (List AV)} {a2 : Int} {Q : AV → Heap → Prop} {x17 : Int} {Hh : Heap} (h : r0 a0 a1 a2 Q x17 Hh) : L0 a0 a1 a2 Q x17 Hh := ALoop_unfold ((r0_eq a0 a1 a2 Q x17 Hh).mpr h)
def t (a0 : List (List AV)) (a1 : List (List AV)) (a2 : Int) (H : Heap) (Q : AV → Heap → Prop) : Prop :=
  C 14 [.sl 0 1 a0, .sl 0 1 [[.sl 0 1 a1]]] H.none fun v_1 H_2 =>
  G ((v_1).isBool) (cond (!((v_1).toBool))
    (C 8 [] ((H.past H_2).none) fun v_3 H_4 =>
      G ((v_3).isBool) (Q (.bool ((v_3).toBool)) (H.past H_4)))
    (L0 a0 a1 a2 Q 0 (H.past H_2)))
theorem t_eq (a0 : List (List AV)) (a1 : List (List AV)) (a2 : Int) (H : Heap) (Q : AV → Heap → Prop) : aBody E0 C 6 [.sl 0 1 a0, .sl 0 1 a1, .int .i64 a2] H Q = t a0 a1 a2 H Q := by kernel_rfl
theorem call {a0 : List (List AV)} {a1 : List (List AV)} {a2 : Int} {H : Heap} {Q : AV → Heap → Prop} (h : t a0 a1 a2 H Q) : C 6 [.sl 0 1 a0, .sl 0 1 a1, .int .i64 a2] H Q := Call_intro (E := E0) (by rw [t_eq]; exact h)
end F6
/-! ### broker/brokerlaw42.PlaceMoves: function 7 -/
namespace F7
def t (a0 : List (List AV)) (a1_0 : List (List AV)) (a1_1 : List (List AV)) (a2 : Int) (H : Heap) (Q : AV → Heap → Prop) : Prop :=
  C 14 [.sl 0 1 a0, .sl 0 1 [[.sl 0 1 a1_0], [.sl 0 1 a1_1]]] H.none fun v_1 H_2 =>
  G ((v_1).isBool) (cond (!((v_1).toBool))
    (C 8 [] ((H.past H_2).none) fun v_3 H_4 =>
      G ((v_3).isBool) (Q (.bool ((v_3).toBool)) (H.past H_4)))
    (C 22 [.sl 0 1 a0, .sl 0 1 a1_0, .sl 0 1 a1_1, .int .i64 a2] ((H.past H_2).none) fun v_5 H_6 =>
      G ((v_5).isSl 1) (C 28 [.sl 0 1 a0, .sl 0 1 a1_0, .sl 0 1 a1_1, .int .i64 a2] ((H.past H_6).none) fun v_7 H_8 =>
        G ((v_7).isSl 1) (C 27 [.sl 0 1 ((v_5).slXs), .sl 0 1 ((v_7).slXs)] ((H.past H_8).none) fun v_9 H_10 =>
          G ((v_9).isBool) (cond ((v_9).toBool)
            (C 8 [] ((H.past H_10).none) fun v_11 H_12 =>
              G ((v_11).isBool) (Q (.bool ((v_11).toBool)) (H.past H_12)))
            (Q (.bool false) (H.past H_10)))))))
theorem t_eq (a0 : List (List AV)) (a1_0 : List (List AV)) (a1_1 : List (List AV)) (a2 : Int) (H : Heap) (Q : AV → Heap → Prop) : aBody E0 C 7 [.sl 0 1 a0, .agg [.sl 0 1 a1_0, .sl 0 1 a1_1], .int .i64 a2] H Q = t a0 a1_0 a1_1 a2 H Q := by kernel_rfl
theorem call {a0 : List (List AV)} {a1_0 : List (List AV)} {a1_1 : List (List AV)} {a2 : Int} {H : Heap} {Q : AV → Heap → Prop} (h : t a0 a1_0 a1_1 a2 H Q) : C 7 [.sl 0 1 a0, .agg [.sl 0 1 a1_0, .sl 0 1 a1_1], .int .i64 a2] H Q := Call_intro (E := E0) (by rw [t_eq]; exact h)
end F7
/-! ### broker/brokerlaw42.exampleHolds: function 8 -/
namespace F8
def JR4  (Q : AV → Heap → Prop) (x1l : List (List AV)) (x61 : Bool) (m0_0 : ByteArray) (m0_1 : List (List AV)) (Hh : Heap) : Prop := AJoin (contK E0 C (E0.L 8) [.seq (codeAt (bodyOf E0 8) [1, 1, 1, 1, 0, 1]) 0, .seq (codeAt (bodyOf E0 8) [1, 1, 1, 1, 1]) 0] (finK E0 8 Q)) ⟨stt 77 [(1, .sl 0 1 x1l), (61, .bool x61)], [.cells [.str m0_0, .sl 0 1 m0_1]], Hh⟩
def jR4  (Q : AV → Heap → Prop) (x1l : List (List AV)) (x61 : Bool) (m0_0 : ByteArray) (m0_1 : List (List AV)) (Hh : Heap) : Prop :=
  cond x61
  (Q (.bool false) Hh)
  ((C 9 [.str (⟨#[113]⟩ : ByteArray), .int .i64 3] Hh.none fun v_13 H_14 =>
      G ((v_13).isInt .i64) (C 29 [.sl 0 1 [[.int .u8 113], [.int .u8 47], [.int .u8 51]]] ((Hh.past H_14).none) fun v_15 H_16 =>
        G ((v_15).isInt .i64) (cond (eqI ((v_13).toInt) ((v_15).toInt))
          (G (ltI 0 (lenI x1l)) (G ((ce (ro x1l 0) 0).isInt .i64) (C 9 [.str (⟨#[113]⟩ : ByteArray), .int .i64 0] ((Hh.past H_16).none) fun v_17 H_18 =>
            G ((v_17).isInt .i64) (C 9 [.str (⟨#[113]⟩ : ByteArray), .int .i64 2] ((Hh.past H_18).none) fun v_19 H_20 =>
              G ((v_19).isInt .i64) (Q (.bool ((eqI ((ce (ro x1l 0) 0).toInt) 0) == (leI ((v_19).toInt) ((v_17).toInt)))) (Hh.past H_20))))))
          (Q (.bool false) (Hh.past H_16))))) ∧
    ((C 9 [.str (⟨#[113]⟩ : ByteArray), .int .i64 3] Hh.none fun v_21 H_22 =>
        G ((v_21).isInt .i64) (C 29 [.sl 0 1 [[.int .u8 113], [.int .u8 47], [.int .u8 51]]] ((Hh.past H_22).none) fun v_23 H_24 =>
          G ((v_23).isInt .i64) (cond (eqI ((v_21).toInt) ((v_23).toInt))
            (G (ltI 0 (lenI x1l)) (G ((ce (ro x1l 0) 0).isInt .i64) (C 9 [.str (⟨#[113]⟩ : ByteArray), .int .i64 0] ((Hh.past H_24).none) fun v_25 H_26 =>
              G ((v_25).isInt .i64) (C 9 [.str (⟨#[113]⟩ : ByteArray), .int .i64 2] ((Hh.past H_26).none) fun v_27 H_28 =>
                G ((v_27).isInt .i64) (Q (.bool ((eqI ((ce (ro x1l 0) 0).toInt) 0) == (leI ((v_27).toInt) ((v_25).toInt)))) (Hh.past H_28))))))
            (Q (.bool false) (Hh.past H_24))))) ∧
      (C 9 [.str (⟨#[113]⟩ : ByteArray), .int .i64 3] Hh.none fun v_29 H_30 =>
        G ((v_29).isInt .i64) (C 29 [.sl 0 1 [[.int .u8 113], [.int .u8 47], [.int .u8 51]]] ((Hh.past H_30).none) fun v_31 H_32 =>
          G ((v_31).isInt .i64) (cond (eqI ((v_29).toInt) ((v_31).toInt))
            (G (ltI 0 (lenI x1l)) (G ((ce (ro x1l 0) 0).isInt .i64) (C 9 [.str (⟨#[113]⟩ : ByteArray), .int .i64 0] ((Hh.past H_32).none) fun v_33 H_34 =>
              G ((v_33).isInt .i64) (C 9 [.str (⟨#[113]⟩ : ByteArray), .int .i64 2] ((Hh.past H_34).none) fun v_35 H_36 =>
                G ((v_35).isInt .i64) (Q (.bool ((eqI ((ce (ro x1l 0) 0).toInt) 0) == (leI ((v_35).toInt) ((v_33).toInt)))) (Hh.past H_36))))))
            (Q (.bool false) (Hh.past H_32)))))))
theorem JR4_eq  (Q : AV → Heap → Prop) (x1l : List (List AV)) (x61 : Bool) (m0_0 : ByteArray) (m0_1 : List (List AV)) (Hh : Heap) : contK E0 C (E0.L 8) [.seq (codeAt (bodyOf E0 8) [1, 1, 1, 1, 0, 1]) 0, .seq (codeAt (bodyOf E0 8) [1, 1, 1, 1, 1]) 0] (finK E0 8 Q) .normal ⟨stt 77 [(1, .sl 0 1 x1l), (61, .bool x61)], [.cells [.str m0_0, .sl 0 1 m0_1]], Hh⟩ = jR4  Q x1l x61 m0_0 m0_1 Hh := by kernel_rfl
theorem JR4_step {Q : AV → Heap → Prop} {x1l : List (List AV)} {x61 : Bool} {m0_0 : ByteArray} {m0_1 : List (List AV)} {Hh : Heap} (h : jR4  Q x1l x61 m0_0 m0_1 Hh) : JR4  Q x1l x61 m0_0 m0_1 Hh := ⟨(JR4_eq  Q x1l x61 m0_0 m0_1 Hh).mpr h⟩
def t  (H : Heap) (Q : AV → Heap → Prop) : Prop :=
  C 19 [.str (⟨#[113]⟩ : ByteArray), .sl 0 1 [[.int .i64 2], [.int .i64 9], [.int .i64 2], [.int .i64 (-1)], [.int .i64 0]]] H.none fun v_1 H_2 =>
  G ((v_1).isSl 1) (C 18 [.str (⟨#[113]⟩ : ByteArray), .sl 0 1 [[.int .i64 2], [.int .i64 9], [.int .i64 2], [.int .i64 (-1)], [.int .i64 0]], .int .i64 5] ((H.past H_2).none) fun v_3 H_4 =>
    G ((v_3).isAgg && Nat.beq (v_3).aggCs.length 2) (G ((((v_3).aggCs).headD .any).isStr) (G (((((v_3).aggCs).tail).headD .any).isSl 1) (C 12 [.sl 0 2 [[.str (⟨#[]⟩ : ByteArray), .sl 0 1 [[.int .i64 0], [.int .i64 1]]], [.str (⟨#[]⟩ : ByteArray), .sl 0 1 [[.int .i64 1], [.int .i64 2]]]], .sl 0 1 [[.int .i64 2], [.int .i64 1], [.int .i64 7], [.int .i64 1]]] ((H.past H_4).none) fun v_5 H_6 =>
      G ((v_5).isSl 1) (cond (!(eqI (lenI ((v_1).slXs)) 2))
        (JR4 Q ((v_1).slXs) true ((((v_3).aggCs).headD .any).toStr) (((((v_3).aggCs).tail).headD .any).slXs) (H.past H_6))
        (G (ltI 0 (lenI ((v_1).slXs))) (G ((ce (ro ((v_1).slXs) 0) 0).isInt .i64) (G (ltI 1 (lenI ((v_1).slXs))) (G ((ce (ro ((v_1).slXs) 1) 0).isInt .i64) (cond (!(eqI (addW .i64 ((ce (ro ((v_1).slXs) 0) 0).toInt) ((ce (ro ((v_1).slXs) 1) 0).toInt)) 2))
          (JR4 Q ((v_1).slXs) true ((((v_3).aggCs).headD .any).toStr) (((((v_3).aggCs).tail).headD .any).slXs) (H.past H_6))
          (G (ltI 0 (lenI ((v_1).slXs))) (G ((ce (ro ((v_1).slXs) 0) 0).isInt .i64) (G (ltI 1 (lenI ((v_1).slXs))) (G ((ce (ro ((v_1).slXs) 1) 0).isInt .i64) (cond (eqI ((ce (ro ((v_1).slXs) 0) 0).toInt) ((ce (ro ((v_1).slXs) 1) 0).toInt))
            (JR4 Q ((v_1).slXs) true ((((v_3).aggCs).headD .any).toStr) (((((v_3).aggCs).tail).headD .any).slXs) (H.past H_6))
            (cond (!(eqS ((((v_3).aggCs).headD .any).toStr) (⟨#[113]⟩ : ByteArray)))
              (JR4 Q ((v_1).slXs) true ((((v_3).aggCs).headD .any).toStr) (((((v_3).aggCs).tail).headD .any).slXs) (H.past H_6))
              (C 11 [.sl 0 1 (((((v_3).aggCs).tail).headD .any).slXs), .sl 0 1 ((v_1).slXs)] ((H.past H_6).none) fun v_7 H_8 =>
                G ((v_7).isBool) (cond (!((v_7).toBool))
                  (JR4 Q ((v_1).slXs) true ((((v_3).aggCs).headD .any).toStr) (((((v_3).aggCs).tail).headD .any).slXs) (H.past H_8))
                  (C 18 [.str (⟨#[113]⟩ : ByteArray), .sl 0 1 ((v_1).slXs), .int .i64 (-1)] ((H.past H_8).none) fun v_9 H_10 =>
                    G ((v_9).isAgg && Nat.beq (v_9).aggCs.length 2) (G ((((v_9).aggCs).headD .any).isStr) (G (((((v_9).aggCs).tail).headD .any).isSl 1) (cond (!(eqI (lenI (((((v_9).aggCs).tail).headD .any).slXs)) 0))
                      (JR4 Q ((v_1).slXs) true ((((v_3).aggCs).headD .any).toStr) (((((v_3).aggCs).tail).headD .any).slXs) (H.past H_10))
                      (C 11 [.sl 0 1 ((v_5).slXs), .sl 0 1 [[.int .i64 1], [.int .i64 2], [.int .i64 0], [.int .i64 2]]] ((H.past H_10).none) fun v_11 H_12 =>
                        G ((v_11).isBool) (JR4 Q ((v_1).slXs) (!((v_11).toBool)) ((((v_3).aggCs).headD .any).toStr) (((((v_3).aggCs).tail).headD .any).slXs) (H.past H_12)))))))))))))))))))))))))
theorem t_eq  (H : Heap) (Q : AV → Heap → Prop) : aBody E0 C 8 [] H Q = t  H Q := by kernel_rfl
theorem call  {H : Heap} {Q : AV → Heap → Prop} (h : t  H Q) : C 8 [] H Q := Call_intro (E := E0) (by rw [t_eq]; exact h)
end F8
/-! ### broker/place.Score: function 9 -/
namespace F9
def t (a0 : ByteArray) (a1 : Int) (H : Heap) (Q : AV → Heap → Prop) : Prop :=
  G (Nat.ble (a0.size + (⟨#[47]⟩ : ByteArray).size) 9223372036854775807) (C 30 [.int .i64 a1] H.none fun v_1 H_2 =>
  G ((v_1).isStr) (G (Nat.ble ((a0 ++ (⟨#[47]⟩ : ByteArray)).size + ((v_1).toStr).size) 9223372036854775807) (G (Nat.ble ((a0 ++ (⟨#[47]⟩ : ByteArray)) ++ ((v_1).toStr)).size 9223372036854775807) (C 29 [.sl 0 1 (bytesAV ((a0 ++ (⟨#[47]⟩ : ByteArray)) ++ ((v_1).toStr)))] ((H.past H_2).none) fun v_3 H_4 =>
    G ((v_3).isInt .i64) (Q (.int .i64 ((v_3).toInt)) (H.past H_4))))))
theorem t_eq (a0 : ByteArray) (a1 : Int) (H : Heap) (Q : AV → Heap → Prop) : aBody E0 C 9 [.str a0, .int .i64 a1] H Q = t a0 a1 H Q := by kernel_rfl
theorem call {a0 : ByteArray} {a1 : Int} {H : Heap} {Q : AV → Heap → Prop} (h : t a0 a1 H Q) : C 9 [.str a0, .int .i64 a1] H Q := Call_intro (E := E0) (by rw [t_eq]; exact h)
end F9
/-! ### broker/brokerref42.Score: function 10 -/
namespace F10
def t (a0 : ByteArray) (a1 : Int) (H : Heap) (Q : AV → Heap → Prop) : Prop :=
  G (Nat.ble (a0.size + (⟨#[47]⟩ : ByteArray).size) 9223372036854775807) (C 30 [.int .i64 a1] H.none fun v_1 H_2 =>
  G ((v_1).isStr) (G (Nat.ble ((a0 ++ (⟨#[47]⟩ : ByteArray)).size + ((v_1).toStr).size) 9223372036854775807) (G (Nat.ble ((a0 ++ (⟨#[47]⟩ : ByteArray)) ++ ((v_1).toStr)).size 9223372036854775807) (C 31 [.sl 0 1 (bytesAV ((a0 ++ (⟨#[47]⟩ : ByteArray)) ++ ((v_1).toStr)))] ((H.past H_2).none) fun v_3 H_4 =>
    G ((v_3).isInt .i64) (Q (.int .i64 ((v_3).toInt)) (H.past H_4))))))
theorem t_eq (a0 : ByteArray) (a1 : Int) (H : Heap) (Q : AV → Heap → Prop) : aBody E0 C 10 [.str a0, .int .i64 a1] H Q = t a0 a1 H Q := by kernel_rfl
theorem call {a0 : ByteArray} {a1 : Int} {H : Heap} {Q : AV → Heap → Prop} (h : t a0 a1 H Q) : C 10 [.str a0, .int .i64 a1] H Q := Call_intro (E := E0) (by rw [t_eq]; exact h)
end F10
/-! ### slices.Equal[[]int,int]: function 11 -/
namespace F11
def K0 (Q : AV → Heap → Prop) : Ex → St → Prop := (contK E0 C (E0.L 11) [.block 0 0, .seq (codeAt (bodyOf E0 11) [1, 1, 1]) 1] (finK E0 11 Q))
def L0 (a0 : List (List AV)) (a1 : List (List AV)) (Q : AV → Heap → Prop) (x13 : Int) (Hh : Heap) : Prop := ALoop (fun K s => awp E0 C (E0.L 11) (codeAt (bodyOf E0 11) [1, 1, 0, 1, 0, 0]) 1 s K) (clean [(0, 0), (1, 0), (12, 0), (13, 0)] 0) (K0 Q) ⟨stt 26 [(0, .sl 0 1 a0), (1, .sl 0 1 a1), (12, .int .i64 (lenI a0)), (13, .int .i64 x13)], [], Hh⟩
def r0 (a0 : List (List AV)) (a1 : List (List AV)) (Q : AV → Heap → Prop) (x13 : Int) (Hh : Heap) : Prop :=
  cond (ltI x13 (lenI a0))
  (G (leI 0 x13) (G (ltI x13 (lenI a0)) (G ((ce (ro a0 x13.toNat) 0).isInt .i64) (G (leI 0 x13) (G (ltI x13 (lenI a1)) (G ((ce (ro a1 x13.toNat) 0).isInt .i64) (cond (!(eqI ((ce (ro a0 x13.toNat) 0).toInt) ((ce (ro a1 x13.toNat) 0).toInt)))
    (Q (.bool false) Hh)
    (L0 a0 a1 Q (addW .i64 x13 1) Hh))))))))
  (Q (.bool true) Hh)
theorem r0_eq (a0 : List (List AV)) (a1 : List (List AV)) (Q : AV → Heap → Prop) (x13 : Int) (Hh : Heap) : (fun K s => awp E0 C (E0.L 11) (codeAt (bodyOf E0 11) [1, 1, 0, 1, 0, 0]) 1 s K) (fun e s' => match e with | .normal => ALoop (fun K s => awp E0 C (E0.L 11) (codeAt (bodyOf E0 11) [1, 1, 0, 1, 0, 0]) 1 s K) (clean [(0, 0), (1, 0), (12, 0), (13, 0)] 0) (K0 Q) ((clean [(0, 0), (1, 0), (12, 0), (13, 0)] 0) s') | e => K0 Q e s') ⟨stt 26 [(0, .sl 0 1 a0), (1, .sl 0 1 a1), (12, .int .i64 (lenI a0)), (13, .int .i64 x13)], [], Hh⟩ = r0 a0 a1 Q x13 Hh := by kernel_rfl
theorem L0_step {a0 : List (List AV)} {a1 : List (List AV)} {Q : AV → Heap → Prop} {x13 : Int} {Hh : Heap} (h : r0 a0 a1 Q x13 Hh) : L0 a0 a1 Q x13 Hh := ALoop_unfold ((r0_eq a0 a1 Q x13 Hh).mpr h)
def t (a0 : List (List AV)) (a1 : List (List AV)) (H : Heap) (Q : AV → Heap → Prop) : Prop :=
  cond (!(eqI (lenI a0) (lenI a1)))
  (Q (.bool false) H)
  (L0 a0 a1 Q 0 H)
theorem t_eq (a0 : List (List AV)) (a1 : List (List AV)) (H : Heap) (Q : AV → Heap → Prop) : aBody E0 C 11 [.sl 0 1 a0, .sl 0 1 a1] H Q = t a0 a1 H Q := by kernel_rfl
theorem call {a0 : List (List AV)} {a1 : List (List AV)} {H : Heap} {Q : AV → Heap → Prop} (h : t a0 a1 H Q) : C 11 [.sl 0 1 a0, .sl 0 1 a1] H Q := Call_intro (E := E0) (by rw [t_eq]; exact h)
end F11
/-! ### broker/place.Load: function 12 -/
namespace F12
def K0 (Q : AV → Heap → Prop) : Ex → St → Prop := (contK E0 C (E0.L 12) [.block 0 0, .seq (codeAt (bodyOf E0 12) [1, 1, 1]) 2] (finK E0 12 Q))
def L0 (a0 : List (List AV)) (a1 : List (List AV)) (Q : AV → Heap → Prop) (x5out : List (List AV)) (x15 : Int) (Hh : Heap) : Prop := ALoop (fun K s => awp E0 C (E0.L 12) (codeAt (bodyOf E0 12) [1, 1, 0, 1, 0, 0]) 1 s K) (clean [(0, 0), (5, 0), (13, 0), (14, 0), (15, 0)] 0) (K0 Q) ⟨stt 39 [(0, .sl 0 2 a0), (5, .sl 1 1 x5out), (13, .sl 0 1 a1), (14, .int .i64 (lenI a1)), (15, .int .i64 x15)], [], Hh⟩
def K1 (Q : AV → Heap → Prop) : Ex → St → Prop := (contK E0 C (E0.L 12) [.block 2 0, .block 1 0, .seq (codeAt (bodyOf E0 12) [1, 1, 0, 1, 0, 0, 1, 1, 1]) 2, .loop (codeAt (bodyOf E0 12) [1, 1, 0, 1, 0, 0]) 1 [(0, 0), (5, 0), (13, 0), (14, 0), (15, 0)] 0, .block 0 0, .seq (codeAt (bodyOf E0 12) [1, 1, 1]) 2] (finK E0 12 Q))
def L1 (a0 : List (List AV)) (a1 : List (List AV)) (Q : AV → Heap → Prop) (x5out : List (List AV)) (x6i : Int) (x7node : Int) (x15 : Int) (x22 : Int) (Hh : Heap) : Prop := ALoop (fun K s => awp E0 C (E0.L 12) (codeAt (bodyOf E0 12) [1, 1, 0, 1, 0, 0, 1, 1, 0, 0, 1, 1, 0, 0]) 2 s K) (clean [(0, 0), (5, 0), (6, 0), (7, 0), (13, 0), (14, 0), (15, 0), (20, 0), (21, 0), (22, 0)] 0) (K1 Q) ⟨stt 39 [(0, .sl 0 2 a0), (5, .sl 1 1 x5out), (6, .int .i64 x6i), (7, .int .i64 x7node), (13, .sl 0 1 a1), (14, .int .i64 (lenI a1)), (15, .int .i64 x15), (20, .sl 0 2 a0), (21, .int .i64 (lenI a0)), (22, .int .i64 x22)], [], Hh⟩
def r0 (a0 : List (List AV)) (a1 : List (List AV)) (Q : AV → Heap → Prop) (x5out : List (List AV)) (x15 : Int) (Hh : Heap) : Prop :=
  cond (ltI x15 (lenI a1))
  (G (leI 0 x15) (G (ltI x15 (lenI a1)) (G ((ce (ro a1 x15.toNat) 0).isInt .i64) (L1 a0 a1 Q x5out x15 ((ce (ro a1 x15.toNat) 0).toInt) x15 0 Hh))))
  (Q (.sl 0 1 x5out) Hh)
theorem r0_eq (a0 : List (List AV)) (a1 : List (List AV)) (Q : AV → Heap → Prop) (x5out : List (List AV)) (x15 : Int) (Hh : Heap) : (fun K s => awp E0 C (E0.L 12) (codeAt (bodyOf E0 12) [1, 1, 0, 1, 0, 0]) 1 s K) (fun e s' => match e with | .normal => ALoop (fun K s => awp E0 C (E0.L 12) (codeAt (bodyOf E0 12) [1, 1, 0, 1, 0, 0]) 1 s K) (clean [(0, 0), (5, 0), (13, 0), (14, 0), (15, 0)] 0) (K0 Q) ((clean [(0, 0), (5, 0), (13, 0), (14, 0), (15, 0)] 0) s') | e => K0 Q e s') ⟨stt 39 [(0, .sl 0 2 a0), (5, .sl 1 1 x5out), (13, .sl 0 1 a1), (14, .int .i64 (lenI a1)), (15, .int .i64 x15)], [], Hh⟩ = r0 a0 a1 Q x5out x15 Hh := by kernel_rfl
theorem L0_step {a0 : List (List AV)} {a1 : List (List AV)} {Q : AV → Heap → Prop} {x5out : List (List AV)} {x15 : Int} {Hh : Heap} (h : r0 a0 a1 Q x5out x15 Hh) : L0 a0 a1 Q x5out x15 Hh := ALoop_unfold ((r0_eq a0 a1 Q x5out x15 Hh).mpr h)
def r1 (a0 : List (List AV)) (a1 : List (List AV)) (Q : AV → Heap → Prop) (x5out : List (List AV)) (x6i : Int) (x7node : Int) (x15 : Int) (x22 : Int) (Hh : Heap) : Prop :=
  cond (ltI x22 (lenI a0))
  (G (leI 0 x22) (G (ltI x22 (lenI a0)) (G ((ce (ro a0 x22.toNat) 0).isStr) (G ((ce (ro a0 x22.toNat) 1).isSl 1) (C 20 [.sl 0 1 ((ce (ro a0 x22.toNat) 1).slXs), .int .i64 x7node] Hh.none fun v_1 H_2 =>
    G ((v_1).isBool) (cond ((v_1).toBool)
      (G (leI 0 x6i) (G (ltI x6i (lenI x5out)) (G ((ce (ro x5out x6i.toNat) 0).isInt .i64) (G (leI 0 x6i) (G (ltI x6i (lenI x5out)) (L1 a0 a1 Q (x5out.set x6i.toNat ((ro x5out x6i.toNat).set 0 (.int .i64 (addW .i64 ((ce (ro x5out x6i.toNat) 0).toInt) 1)))) x6i x7node x15 (addW .i64 x22 1) (Hh.past H_2)))))))
      (L1 a0 a1 Q x5out x6i x7node x15 (addW .i64 x22 1) (Hh.past H_2))))))))
  (L0 a0 a1 Q x5out (addW .i64 x15 1) Hh)
theorem r1_eq (a0 : List (List AV)) (a1 : List (List AV)) (Q : AV → Heap → Prop) (x5out : List (List AV)) (x6i : Int) (x7node : Int) (x15 : Int) (x22 : Int) (Hh : Heap) : (fun K s => awp E0 C (E0.L 12) (codeAt (bodyOf E0 12) [1, 1, 0, 1, 0, 0, 1, 1, 0, 0, 1, 1, 0, 0]) 2 s K) (fun e s' => match e with | .normal => ALoop (fun K s => awp E0 C (E0.L 12) (codeAt (bodyOf E0 12) [1, 1, 0, 1, 0, 0, 1, 1, 0, 0, 1, 1, 0, 0]) 2 s K) (clean [(0, 0), (5, 0), (6, 0), (7, 0), (13, 0), (14, 0), (15, 0), (20, 0), (21, 0), (22, 0)] 0) (K1 Q) ((clean [(0, 0), (5, 0), (6, 0), (7, 0), (13, 0), (14, 0), (15, 0), (20, 0), (21, 0), (22, 0)] 0) s') | e => K1 Q e s') ⟨stt 39 [(0, .sl 0 2 a0), (5, .sl 1 1 x5out), (6, .int .i64 x6i), (7, .int .i64 x7node), (13, .sl 0 1 a1), (14, .int .i64 (lenI a1)), (15, .int .i64 x15), (20, .sl 0 2 a0), (21, .int .i64 (lenI a0)), (22, .int .i64 x22)], [], Hh⟩ = r1 a0 a1 Q x5out x6i x7node x15 x22 Hh := by kernel_rfl
theorem L1_step {a0 : List (List AV)} {a1 : List (List AV)} {Q : AV → Heap → Prop} {x5out : List (List AV)} {x6i : Int} {x7node : Int} {x15 : Int} {x22 : Int} {Hh : Heap} (h : r1 a0 a1 Q x5out x6i x7node x15 x22 Hh) : L1 a0 a1 Q x5out x6i x7node x15 x22 Hh := ALoop_unfold ((r1_eq a0 a1 Q x5out x6i x7node x15 x22 Hh).mpr h)
def t (a0 : List (List AV)) (a1 : List (List AV)) (H : Heap) (Q : AV → Heap → Prop) : Prop :=
  G (leI 0 (lenI a1)) (G (eqI (lenI a1) (lenI a1)) (G (roomN (lenI a1) 8) (L0 a0 a1 Q (List.replicate ((lenI a1).toNat) ([.int .i64 0] : List AV)) 0 H)))
theorem t_eq (a0 : List (List AV)) (a1 : List (List AV)) (H : Heap) (Q : AV → Heap → Prop) : aBody E0 C 12 [.sl 0 2 a0, .sl 0 1 a1] H Q = t a0 a1 H Q := by kernel_rfl
theorem call {a0 : List (List AV)} {a1 : List (List AV)} {H : Heap} {Q : AV → Heap → Prop} (h : t a0 a1 H Q) : C 12 [.sl 0 2 a0, .sl 0 1 a1] H Q := Call_intro (E := E0) (by rw [t_eq]; exact h)
end F12
/-! ### broker/brokerref42.Load: function 13 -/
namespace F13
def K0 (Q : AV → Heap → Prop) : Ex → St → Prop := (contK E0 C (E0.L 13) [.block 0 0, .seq (codeAt (bodyOf E0 13) [1, 1, 1]) 2] (finK E0 13 Q))
def L0 (a0 : List (List AV)) (a1 : List (List AV)) (Q : AV → Heap → Prop) (x5out : List (List AV)) (x13 : Int) (Hh : Heap) : Prop := ALoop (fun K s => awp E0 C (E0.L 13) (codeAt (bodyOf E0 13) [1, 1, 0, 1, 0, 0]) 1 s K) (clean [(0, 0), (5, 3), (11, 0), (12, 0), (13, 0)] 0) (K0 Q) ⟨stt 36 [(0, .sl 0 2 a0), (5, .sl 1 1 x5out), (11, .sl 0 1 a1), (12, .int .i64 (lenI a1)), (13, .int .i64 x13)], [], Hh⟩
def K1 (Q : AV → Heap → Prop) : Ex → St → Prop := (contK E0 C (E0.L 13) [.block 2 0, .seq (codeAt (bodyOf E0 13) [1, 1, 0, 1, 0, 0, 1, 1, 0, 0, 1, 1, 1]) 2, .block 1 0, .seq (codeAt (bodyOf E0 13) [1, 1, 0, 1, 0, 0, 1, 1, 1]) 2, .loop (codeAt (bodyOf E0 13) [1, 1, 0, 1, 0, 0]) 1 [(0, 0), (5, 3), (11, 0), (12, 0), (13, 0)] 0, .block 0 0, .seq (codeAt (bodyOf E0 13) [1, 1, 1]) 2] (finK E0 13 Q))
def L1 (a0 : List (List AV)) (a1 : List (List AV)) (Q : AV → Heap → Prop) (x5out : List (List AV)) (x7n : Int) (x8count : Int) (x13 : Int) (x19 : Int) (Hh : Heap) : Prop := ALoop (fun K s => awp E0 C (E0.L 13) (codeAt (bodyOf E0 13) [1, 1, 0, 1, 0, 0, 1, 1, 0, 0, 1, 1, 0, 1, 0, 0]) 2 s K) (clean [(0, 0), (5, 3), (7, 0), (8, 0), (11, 0), (12, 0), (13, 0), (17, 0), (18, 0), (19, 0)] 0) (K1 Q) ⟨stt 36 [(0, .sl 0 2 a0), (5, .sl 1 1 x5out), (7, .int .i64 x7n), (8, .int .i64 x8count), (11, .sl 0 1 a1), (12, .int .i64 (lenI a1)), (13, .int .i64 x13), (17, .sl 0 2 a0), (18, .int .i64 (lenI a0)), (19, .int .i64 x19)], [], Hh⟩
def r0 (a0 : List (List AV)) (a1 : List (List AV)) (Q : AV → Heap → Prop) (x5out : List (List AV)) (x13 : Int) (Hh : Heap) : Prop :=
  cond (ltI x13 (lenI a1))
  (G (leI 0 x13) (G (ltI x13 (lenI a1)) (G ((ce (ro a1 x13.toNat) 0).isInt .i64) (L1 a0 a1 Q x5out ((ce (ro a1 x13.toNat) 0).toInt) 0 x13 0 Hh))))
  (Q (.sl 0 1 x5out) Hh)
theorem r0_eq (a0 : List (List AV)) (a1 : List (List AV)) (Q : AV → Heap → Prop) (x5out : List (List AV)) (x13 : Int) (Hh : Heap) : (fun K s => awp E0 C (E0.L 13) (codeAt (bodyOf E0 13) [1, 1, 0, 1, 0, 0]) 1 s K) (fun e s' => match e with | .normal => ALoop (fun K s => awp E0 C (E0.L 13) (codeAt (bodyOf E0 13) [1, 1, 0, 1, 0, 0]) 1 s K) (clean [(0, 0), (5, 3), (11, 0), (12, 0), (13, 0)] 0) (K0 Q) ((clean [(0, 0), (5, 3), (11, 0), (12, 0), (13, 0)] 0) s') | e => K0 Q e s') ⟨stt 36 [(0, .sl 0 2 a0), (5, .sl 1 1 x5out), (11, .sl 0 1 a1), (12, .int .i64 (lenI a1)), (13, .int .i64 x13)], [], Hh⟩ = r0 a0 a1 Q x5out x13 Hh := by kernel_rfl
theorem L0_step {a0 : List (List AV)} {a1 : List (List AV)} {Q : AV → Heap → Prop} {x5out : List (List AV)} {x13 : Int} {Hh : Heap} (h : r0 a0 a1 Q x5out x13 Hh) : L0 a0 a1 Q x5out x13 Hh := ALoop_unfold ((r0_eq a0 a1 Q x5out x13 Hh).mpr h)
def r1 (a0 : List (List AV)) (a1 : List (List AV)) (Q : AV → Heap → Prop) (x5out : List (List AV)) (x7n : Int) (x8count : Int) (x13 : Int) (x19 : Int) (Hh : Heap) : Prop :=
  cond (ltI x19 (lenI a0))
  (G (leI 0 x19) (G (ltI x19 (lenI a0)) (G ((ce (ro a0 x19.toNat) 0).isStr) (G ((ce (ro a0 x19.toNat) 1).isSl 1) (C 20 [.sl 0 1 ((ce (ro a0 x19.toNat) 1).slXs), .int .i64 x7n] Hh.none fun v_1 H_2 =>
    G ((v_1).isBool) (cond ((v_1).toBool)
      (L1 a0 a1 Q x5out x7n (addW .i64 x8count 1) x13 (addW .i64 x19 1) (Hh.past H_2))
      (L1 a0 a1 Q x5out x7n x8count x13 (addW .i64 x19 1) (Hh.past H_2))))))))
  (G (room x5out [[.int .i64 x8count]] 8) (L0 a0 a1 Q (x5out ++ [[.int .i64 x8count]]) (addW .i64 x13 1) Hh))
theorem r1_eq (a0 : List (List AV)) (a1 : List (List AV)) (Q : AV → Heap → Prop) (x5out : List (List AV)) (x7n : Int) (x8count : Int) (x13 : Int) (x19 : Int) (Hh : Heap) : (fun K s => awp E0 C (E0.L 13) (codeAt (bodyOf E0 13) [1, 1, 0, 1, 0, 0, 1, 1, 0, 0, 1, 1, 0, 1, 0, 0]) 2 s K) (fun e s' => match e with | .normal => ALoop (fun K s => awp E0 C (E0.L 13) (codeAt (bodyOf E0 13) [1, 1, 0, 1, 0, 0, 1, 1, 0, 0, 1, 1, 0, 1, 0, 0]) 2 s K) (clean [(0, 0), (5, 3), (7, 0), (8, 0), (11, 0), (12, 0), (13, 0), (17, 0), (18, 0), (19, 0)] 0) (K1 Q) ((clean [(0, 0), (5, 3), (7, 0), (8, 0), (11, 0), (12, 0), (13, 0), (17, 0), (18, 0), (19, 0)] 0) s') | e => K1 Q e s') ⟨stt 36 [(0, .sl 0 2 a0), (5, .sl 1 1 x5out), (7, .int .i64 x7n), (8, .int .i64 x8count), (11, .sl 0 1 a1), (12, .int .i64 (lenI a1)), (13, .int .i64 x13), (17, .sl 0 2 a0), (18, .int .i64 (lenI a0)), (19, .int .i64 x19)], [], Hh⟩ = r1 a0 a1 Q x5out x7n x8count x13 x19 Hh := by kernel_rfl
theorem L1_step {a0 : List (List AV)} {a1 : List (List AV)} {Q : AV → Heap → Prop} {x5out : List (List AV)} {x7n : Int} {x8count : Int} {x13 : Int} {x19 : Int} {Hh : Heap} (h : r1 a0 a1 Q x5out x7n x8count x13 x19 Hh) : L1 a0 a1 Q x5out x7n x8count x13 x19 Hh := ALoop_unfold ((r1_eq a0 a1 Q x5out x7n x8count x13 x19 Hh).mpr h)
def t (a0 : List (List AV)) (a1 : List (List AV)) (H : Heap) (Q : AV → Heap → Prop) : Prop :=
  L0 a0 a1 Q [] 0 H
theorem t_eq (a0 : List (List AV)) (a1 : List (List AV)) (H : Heap) (Q : AV → Heap → Prop) : aBody E0 C 13 [.sl 0 2 a0, .sl 0 1 a1] H Q = t a0 a1 H Q := by kernel_rfl
theorem call {a0 : List (List AV)} {a1 : List (List AV)} {H : Heap} {Q : AV → Heap → Prop} (h : t a0 a1 H Q) : C 13 [.sl 0 2 a0, .sl 0 1 a1] H Q := Call_intro (E := E0) (by rw [t_eq]; exact h)
end F13
/-! ### broker/brokerlaw42.few: function 14 -/
namespace F14
def K0 (Q : AV → Heap → Prop) : Ex → St → Prop := (contK E0 C (E0.L 14) [.block 0 0, .seq (codeAt (bodyOf E0 14) [1, 1]) 1] (finK E0 14 Q))
def L0 (a0 : List (List AV)) (a1 : List (List AV)) (Q : AV → Heap → Prop) (x11 : Int) (Hh : Heap) : Prop := ALoop (fun K s => awp E0 C (E0.L 14) (codeAt (bodyOf E0 14) [1, 0, 1, 0, 0]) 1 s K) (clean [(0, 0), (1, 0), (9, 0), (10, 0), (11, 0)] 0) (K0 Q) ⟨stt 32 [(0, .sl 0 1 a0), (1, .sl 0 1 a1), (9, .sl 0 1 a0), (10, .int .i64 (lenI a0)), (11, .int .i64 x11)], [], Hh⟩
def K1 (Q : AV → Heap → Prop) : Ex → St → Prop := (contK E0 C (E0.L 14) [.block 2 0, .seq (codeAt (bodyOf E0 14) [1, 1, 1]) 2] (finK E0 14 Q))
def L1 (a0 : List (List AV)) (a1 : List (List AV)) (Q : AV → Heap → Prop) (x21 : Int) (Hh : Heap) : Prop := ALoop (fun K s => awp E0 C (E0.L 14) (codeAt (bodyOf E0 14) [1, 1, 0, 1, 0, 0]) 2 s K) (clean [(0, 0), (19, 0), (20, 0), (21, 0)] 0) (K1 Q) ⟨stt 32 [(0, .sl 0 1 a0), (19, .sl 0 1 a1), (20, .int .i64 (lenI a1)), (21, .int .i64 x21)], [], Hh⟩
def r0 (a0 : List (List AV)) (a1 : List (List AV)) (Q : AV → Heap → Prop) (x11 : Int) (Hh : Heap) : Prop :=
  cond (ltI x11 (lenI a0))
  (G (leI 0 x11) (G (ltI x11 (lenI a0)) (G ((ce (ro a0 x11.toNat) 0).isStr) (cond (ltI 200 (sizeI ((ce (ro a0 x11.toNat) 0).toStr)))
    (Q (.bool false) Hh)
    (L0 a0 a1 Q (addW .i64 x11 1) Hh)))))
  (L1 a0 a1 Q 0 Hh)
theorem r0_eq (a0 : List (List AV)) (a1 : List (List AV)) (Q : AV → Heap → Prop) (x11 : Int) (Hh : Heap) : (fun K s => awp E0 C (E0.L 14) (codeAt (bodyOf E0 14) [1, 0, 1, 0, 0]) 1 s K) (fun e s' => match e with | .normal => ALoop (fun K s => awp E0 C (E0.L 14) (codeAt (bodyOf E0 14) [1, 0, 1, 0, 0]) 1 s K) (clean [(0, 0), (1, 0), (9, 0), (10, 0), (11, 0)] 0) (K0 Q) ((clean [(0, 0), (1, 0), (9, 0), (10, 0), (11, 0)] 0) s') | e => K0 Q e s') ⟨stt 32 [(0, .sl 0 1 a0), (1, .sl 0 1 a1), (9, .sl 0 1 a0), (10, .int .i64 (lenI a0)), (11, .int .i64 x11)], [], Hh⟩ = r0 a0 a1 Q x11 Hh := by kernel_rfl
theorem L0_step {a0 : List (List AV)} {a1 : List (List AV)} {Q : AV → Heap → Prop} {x11 : Int} {Hh : Heap} (h : r0 a0 a1 Q x11 Hh) : L0 a0 a1 Q x11 Hh := ALoop_unfold ((r0_eq a0 a1 Q x11 Hh).mpr h)
def r1 (a0 : List (List AV)) (a1 : List (List AV)) (Q : AV → Heap → Prop) (x21 : Int) (Hh : Heap) : Prop :=
  cond (ltI x21 (lenI a1))
  (G (leI 0 x21) (G (ltI x21 (lenI a1)) (G ((ce (ro a1 x21.toNat) 0).isSl 1) (cond (ltI 60 (lenI ((ce (ro a1 x21.toNat) 0).slXs)))
    (Q (.bool false) Hh)
    (L1 a0 a1 Q (addW .i64 x21 1) Hh)))))
  (Q (.bool (leI (lenI a0) 40)) Hh)
theorem r1_eq (a0 : List (List AV)) (a1 : List (List AV)) (Q : AV → Heap → Prop) (x21 : Int) (Hh : Heap) : (fun K s => awp E0 C (E0.L 14) (codeAt (bodyOf E0 14) [1, 1, 0, 1, 0, 0]) 2 s K) (fun e s' => match e with | .normal => ALoop (fun K s => awp E0 C (E0.L 14) (codeAt (bodyOf E0 14) [1, 1, 0, 1, 0, 0]) 2 s K) (clean [(0, 0), (19, 0), (20, 0), (21, 0)] 0) (K1 Q) ((clean [(0, 0), (19, 0), (20, 0), (21, 0)] 0) s') | e => K1 Q e s') ⟨stt 32 [(0, .sl 0 1 a0), (19, .sl 0 1 a1), (20, .int .i64 (lenI a1)), (21, .int .i64 x21)], [], Hh⟩ = r1 a0 a1 Q x21 Hh := by kernel_rfl
theorem L1_step {a0 : List (List AV)} {a1 : List (List AV)} {Q : AV → Heap → Prop} {x21 : Int} {Hh : Heap} (h : r1 a0 a1 Q x21 Hh) : L1 a0 a1 Q x21 Hh := ALoop_unfold ((r1_eq a0 a1 Q x21 Hh).mpr h)
def t (a0 : List (List AV)) (a1 : List (List AV)) (H : Heap) (Q : AV → Heap → Prop) : Prop :=
  L0 a0 a1 Q 0 H
theorem t_eq (a0 : List (List AV)) (a1 : List (List AV)) (H : Heap) (Q : AV → Heap → Prop) : aBody E0 C 14 [.sl 0 1 a0, .sl 0 1 a1] H Q = t a0 a1 H Q := by kernel_rfl
theorem call {a0 : List (List AV)} {a1 : List (List AV)} {H : Heap} {Q : AV → Heap → Prop} (h : t a0 a1 H Q) : C 14 [.sl 0 1 a0, .sl 0 1 a1] H Q := Call_intro (E := E0) (by rw [t_eq]; exact h)
end F14
/-! ### slices.Clone[[]int,int]: function 15 -/
namespace F15
def t (a0 : List (List AV)) (H : Heap) (Q : AV → Heap → Prop) : Prop :=
  ∀ b_1 : Bool, (b_1 = true → a0 = []) → (cond b_1
  (Q (.nilsl) H)
  (G (room [] a0 8) (Q (.sl 1 1 a0) H)))
theorem t_eq (a0 : List (List AV)) (H : Heap) (Q : AV → Heap → Prop) : aBody E0 C 15 [.sl 0 1 a0] H Q = t a0 H Q := by kernel_rfl
theorem call {a0 : List (List AV)} {H : Heap} {Q : AV → Heap → Prop} (h : t a0 H Q) : C 15 [.sl 0 1 a0] H Q := Call_intro (E := E0) (by rw [t_eq]; exact h)
end F15
/-! ### broker/brokerlaw42.without: function 16 -/
namespace F16
def K0 (Q : AV → Heap → Prop) : Ex → St → Prop := (contK E0 C (E0.L 16) [.block 0 0, .seq (codeAt (bodyOf E0 16) [1, 1, 1]) 1] (finK E0 16 Q))
def L0 (a0 : List (List AV)) (a1 : Int) (Q : AV → Heap → Prop) (x5out : List (List AV)) (x10 : Int) (Hh : Heap) : Prop := ALoop (fun K s => awp E0 C (E0.L 16) (codeAt (bodyOf E0 16) [1, 1, 0, 1, 0, 0]) 1 s K) (clean [(1, 0), (5, 3), (8, 0), (9, 0), (10, 0)] 0) (K0 Q) ⟨stt 23 [(1, .int .i64 a1), (5, .sl 1 1 x5out), (8, .sl 0 1 a0), (9, .int .i64 (lenI a0)), (10, .int .i64 x10)], [], Hh⟩
def r0 (a0 : List (List AV)) (a1 : Int) (Q : AV → Heap → Prop) (x5out : List (List AV)) (x10 : Int) (Hh : Heap) : Prop :=
  cond (ltI x10 (lenI a0))
  (G (leI 0 x10) (G (ltI x10 (lenI a0)) (G ((ce (ro a0 x10.toNat) 0).isInt .i64) (cond (!(eqI ((ce (ro a0 x10.toNat) 0).toInt) a1))
    (G (room x5out [[.int .i64 ((ce (ro a0 x10.toNat) 0).toInt)]] 8) (L0 a0 a1 Q (x5out ++ [[.int .i64 ((ce (ro a0 x10.toNat) 0).toInt)]]) (addW .i64 x10 1) Hh))
    (L0 a0 a1 Q x5out (addW .i64 x10 1) Hh)))))
  (Q (.sl 0 1 x5out) Hh)
theorem r0_eq (a0 : List (List AV)) (a1 : Int) (Q : AV → Heap → Prop) (x5out : List (List AV)) (x10 : Int) (Hh : Heap) : (fun K s => awp E0 C (E0.L 16) (codeAt (bodyOf E0 16) [1, 1, 0, 1, 0, 0]) 1 s K) (fun e s' => match e with | .normal => ALoop (fun K s => awp E0 C (E0.L 16) (codeAt (bodyOf E0 16) [1, 1, 0, 1, 0, 0]) 1 s K) (clean [(1, 0), (5, 3), (8, 0), (9, 0), (10, 0)] 0) (K0 Q) ((clean [(1, 0), (5, 3), (8, 0), (9, 0), (10, 0)] 0) s') | e => K0 Q e s') ⟨stt 23 [(1, .int .i64 a1), (5, .sl 1 1 x5out), (8, .sl 0 1 a0), (9, .int .i64 (lenI a0)), (10, .int .i64 x10)], [], Hh⟩ = r0 a0 a1 Q x5out x10 Hh := by kernel_rfl
theorem L0_step {a0 : List (List AV)} {a1 : Int} {Q : AV → Heap → Prop} {x5out : List (List AV)} {x10 : Int} {Hh : Heap} (h : r0 a0 a1 Q x5out x10 Hh) : L0 a0 a1 Q x5out x10 Hh := ALoop_unfold ((r0_eq a0 a1 Q x5out x10 Hh).mpr h)
def t (a0 : List (List AV)) (a1 : Int) (H : Heap) (Q : AV → Heap → Prop) : Prop :=
  L0 a0 a1 Q [] 0 H
theorem t_eq (a0 : List (List AV)) (a1 : Int) (H : Heap) (Q : AV → Heap → Prop) : aBody E0 C 16 [.sl 0 1 a0, .int .i64 a1] H Q = t a0 a1 H Q := by kernel_rfl
theorem call {a0 : List (List AV)} {a1 : Int} {H : Heap} {Q : AV → Heap → Prop} (h : t a0 a1 H Q) : C 16 [.sl 0 1 a0, .int .i64 a1] H Q := Call_intro (E := E0) (by rw [t_eq]; exact h)
end F16
/-! ### slices.Reverse[[]int,int]: function 17h -/
namespace F17h
def K0 (Q : AV → Heap → Prop) : Ex → St → Prop := (contK E0 C (E0.L 17) [.block 0 0] (finK E0 17 Q))
def L0 (a0j : Nat) (a0n : Nat) (a0c : Nat) (Q : AV → Heap → Prop) (x2i : Int) (x3j : Int) (Hh : Heap) : Prop := ALoop (fun K s => awp E0 C (E0.L 17) (codeAt (bodyOf E0 17) [1, 0, 0]) 1 s K) (clean [(0, 0), (2, 0), (3, 0)] 0) (K0 Q) ⟨stt 28 [(0, .hs a0j 0 a0n a0c 1), (2, .int .i64 x2i), (3, .int .i64 x3j)], [], Hh⟩
def r0 (a0j : Nat) (a0n : Nat) (a0c : Nat) (Q : AV → Heap → Prop) (x2i : Int) (x3j : Int) (Hh : Heap) : Prop :=
  cond (ltI x2i x3j)
  (G (leI 0 x3j) (G (ltI x3j ((a0n : Nat) : Int)) (G ((Hh.get a0j).isRows 1) (G ((ce ((Hh.get a0j).xs.getD (0 + x3j.toNat) []) 0).isInt .i64) (G (leI 0 x2i) (G (ltI x2i ((a0n : Nat) : Int)) (G ((Hh.get a0j).isRows 1) (G ((ce ((Hh.get a0j).xs.getD (0 + x2i.toNat) []) 0).isInt .i64) (G (leI 0 x2i) (G (ltI x2i ((a0n : Nat) : Int)) (G ((Hh.get a0j).isRows 1) (G (Nat.blt (0 + x2i.toNat) (Hh.get a0j).xs.length) (G (leI 0 x3j) (G (ltI x3j ((a0n : Nat) : Int)) (G (((Hh.set a0j (.rows 1 ((Hh.get a0j).xs.set (0 + x2i.toNat) (((Hh.get a0j).xs.getD (0 + x2i.toNat) []).set 0 (.int .i64 ((ce ((Hh.get a0j).xs.getD (0 + x3j.toNat) []) 0).toInt)))))).get a0j).isRows 1) (G (Nat.blt (0 + x3j.toNat) ((Hh.set a0j (.rows 1 ((Hh.get a0j).xs.set (0 + x2i.toNat) (((Hh.get a0j).xs.getD (0 + x2i.toNat) []).set 0 (.int .i64 ((ce ((Hh.get a0j).xs.getD (0 + x3j.toNat) []) 0).toInt)))))).get a0j).xs.length) (L0 a0j a0n a0c Q (addW .i64 x2i 1) (subW .i64 x3j 1) ((Hh.set a0j (.rows 1 ((Hh.get a0j).xs.set (0 + x2i.toNat) (((Hh.get a0j).xs.getD (0 + x2i.toNat) []).set 0 (.int .i64 ((ce ((Hh.get a0j).xs.getD (0 + x3j.toNat) []) 0).toInt)))))).set a0j (.rows 1 (((Hh.set a0j (.rows 1 ((Hh.get a0j).xs.set (0 + x2i.toNat) (((Hh.get a0j).xs.getD (0 + x2i.toNat) []).set 0 (.int .i64 ((ce ((Hh.get a0j).xs.getD (0 + x3j.toNat) []) 0).toInt)))))).get a0j).xs.set (0 + x3j.toNat) ((((Hh.set a0j (.rows 1 ((Hh.get a0j).xs.set (0 + x2i.toNat) (((Hh.get a0j).xs.getD (0 + x2i.toNat) []).set 0 (.int .i64 ((ce ((Hh.get a0j).xs.getD (0 + x3j.toNat) []) 0).toInt)))))).get a0j).xs.getD (0 + x3j.toNat) []).set 0 (.int .i64 ((ce ((Hh.get a0j).xs.getD (0 + x2i.toNat) []) 0).toInt)))))))))))))))))))))))
  (Q (.tup []) Hh)
theorem r0_eq (a0j : Nat) (a0n : Nat) (a0c : Nat) (Q : AV → Heap → Prop) (x2i : Int) (x3j : Int) (Hh : Heap) : (fun K s => awp E0 C (E0.L 17) (codeAt (bodyOf E0 17) [1, 0, 0]) 1 s K) (fun e s' => match e with | .normal => ALoop (fun K s => awp E0 C (E0.L 17) (codeAt (bodyOf E0 17) [1, 0, 0]) 1 s K) (clean [(0, 0), (2, 0), (3, 0)] 0) (K0 Q) ((clean [(0, 0), (2, 0), (3, 0)] 0) s') | e => K0 Q e s') ⟨stt 28 [(0, .hs a0j 0 a0n a0c 1), (2, .int .i64 x2i), (3, .int .i64 x3j)], [], Hh⟩ = r0 a0j a0n a0c Q x2i x3j Hh := by kernel_rfl
theorem L0_step {a0j : Nat} {a0n : Nat} {a0c : Nat} {Q : AV → Heap → Prop} {x2i : Int} {x3j : Int} {Hh : Heap} (h : r0 a0j a0n a0c Q x2i x3j Hh) : L0 a0j a0n a0c Q x2i x3j Hh := ALoop_unfold ((r0_eq a0j a0n a0c Q x2i x3j Hh).mpr h)
def t (a0j : Nat) (a0n : Nat) (a0c : Nat) (H : Heap) (Q : AV → Heap → Prop) : Prop :=
  L0 a0j a0n a0c Q 0 (subW .i64 ((a0n : Nat) : Int) 1) H
theorem t_eq (a0j : Nat) (a0n : Nat) (a0c : Nat) (H : Heap) (Q : AV → Heap → Prop) : aBody E0 C 17 [.hs a0j 0 a0n a0c 1] H Q = t a0j a0n a0c H Q := by kernel_rfl
theorem call {a0j : Nat} {a0n : Nat} {a0c : Nat} {H : Heap} {Q : AV → Heap → Prop} (h : t a0j a0n a0c H Q) : C 17 [.hs a0j 0 a0n a0c 1] H Q := Call_intro (E := E0) (by rw [t_eq]; exact h)
end F17h
/-! ### slices.Reverse[[]int,int]: function 17n -/
namespace F17n
def K0 (Q : AV → Heap → Prop) : Ex → St → Prop := (contK E0 C (E0.L 17) [.block 0 0] (finK E0 17 Q))
def L0  (Q : AV → Heap → Prop) (Hh : Heap) : Prop := ALoop (fun K s => awp E0 C (E0.L 17) (codeAt (bodyOf E0 17) [1, 0, 0]) 1 s K) (clean [(0, 0), (2, 0), (3, 0)] 0) (K0 Q) ⟨stt 28 [(0, .nilsl), (2, .int .i64 0), (3, .int .i64 (-1))], [], Hh⟩
def r0  (Q : AV → Heap → Prop) (Hh : Heap) : Prop :=
  Q (.tup []) Hh
theorem r0_eq  (Q : AV → Heap → Prop) (Hh : Heap) : (fun K s => awp E0 C (E0.L 17) (codeAt (bodyOf E0 17) [1, 0, 0]) 1 s K) (fun e s' => match e with | .normal => ALoop (fun K s => awp E0 C (E0.L 17) (codeAt (bodyOf E0 17) [1, 0, 0]) 1 s K) (clean [(0, 0), (2, 0), (3, 0)] 0) (K0 Q) ((clean [(0, 0), (2, 0), (3, 0)] 0) s') | e => K0 Q e s') ⟨stt 28 [(0, .nilsl), (2, .int .i64 0), (3, .int .i64 (-1))], [], Hh⟩ = r0  Q Hh := by kernel_rfl
theorem L0_step {Q : AV → Heap → Prop} {Hh : Heap} (h : r0 Q Hh) : L0 Q Hh := ALoop_unfold ((r0_eq Q Hh).mpr h)
def t  (H : Heap) (Q : AV → Heap → Prop) : Prop :=
  L0 Q H
theorem t_eq  (H : Heap) (Q : AV → Heap → Prop) : aBody E0 C 17 [.nilsl] H Q = t  H Q := by kernel_rfl
theorem call  {H : Heap} {Q : AV → Heap → Prop} (h : t  H Q) : C 17 [.nilsl] H Q := Call_intro (E := E0) (by rw [t_eq]; exact h)
end F17n
/-! ### broker/place.Place: function 18 -/
namespace F18
def t (a0 : ByteArray) (a1 : List (List AV)) (a2 : Int) (H : Heap) (Q : AV → Heap → Prop) : Prop :=
  C 19 [.str a0, .sl 0 1 a1] H.none fun v_1 H_2 =>
  G ((v_1).isSl 1) (G (leI 0 (cond (ltI (lenI ((v_1).slXs)) (cond (ltI a2 0) 0 a2)) (lenI ((v_1).slXs)) (cond (ltI a2 0) 0 a2))) (G (leI (cond (ltI (lenI ((v_1).slXs)) (cond (ltI a2 0) 0 a2)) (lenI ((v_1).slXs)) (cond (ltI a2 0) 0 a2)) (cond (ltI (lenI ((v_1).slXs)) (cond (ltI a2 0) 0 a2)) (lenI ((v_1).slXs)) (cond (ltI a2 0) 0 a2))) (G (leI (cond (ltI (lenI ((v_1).slXs)) (cond (ltI a2 0) 0 a2)) (lenI ((v_1).slXs)) (cond (ltI a2 0) 0 a2)) (lenI ((v_1).slXs))) (C 15 [.sl 0 1 ((((v_1).slXs).take ((cond (ltI (lenI ((v_1).slXs)) (cond (ltI a2 0) 0 a2)) (lenI ((v_1).slXs)) (cond (ltI a2 0) 0 a2)).toNat)).drop 0)] ((H.past H_2).none) fun v_3 H_4 =>
    G ((v_3).isOwn 1) (Q (.agg [.str a0, .sl 0 1 ((v_3).slXs)]) (H.past H_4))))))
theorem t_eq (a0 : ByteArray) (a1 : List (List AV)) (a2 : Int) (H : Heap) (Q : AV → Heap → Prop) : aBody E0 C 18 [.str a0, .sl 0 1 a1, .int .i64 a2] H Q = t a0 a1 a2 H Q := by kernel_rfl
theorem call {a0 : ByteArray} {a1 : List (List AV)} {a2 : Int} {H : Heap} {Q : AV → Heap → Prop} (h : t a0 a1 a2 H Q) : C 18 [.str a0, .sl 0 1 a1, .int .i64 a2] H Q := Call_intro (E := E0) (by rw [t_eq]; exact h)
end F18
/-! ### broker/place.Rank: function 19 -/
namespace F19
def K0 (Q : AV → Heap → Prop) : Ex → St → Prop := (contK E0 C (E0.L 19) [.block 0 1, .seq (codeAt (bodyOf E0 19) [1, 1, 1]) 1] (finK E0 19 Q))
def L0 (a0 : ByteArray) (a1 : List (List AV)) (Q : AV → Heap → Prop) (x5out : List (List AV)) (x7 : Int) (Hh : Heap) : Prop := ALoop (fun K s => awp E0 C (E0.L 19) (codeAt (bodyOf E0 19) [1, 1, 0, 1, 0, 0]) 1 s K) (clean [(1, 0), (2, 0), (5, 3), (7, 0)] 1) (K0 Q) ⟨stt 22 [(1, .sl 0 1 a1), (2, .ptr 0 0), (5, .sl 1 1 x5out), (7, .int .i64 x7)], [.cells [.str a0]], Hh⟩
def r0 (a0 : ByteArray) (a1 : List (List AV)) (Q : AV → Heap → Prop) (x5out : List (List AV)) (x7 : Int) (Hh : Heap) : Prop :=
  cond (ltI x7 7)
  (C 20 [.sl 0 1 a1, .int .i64 x7] Hh.none fun v_1 H_2 =>
    G ((v_1).isBool) (cond ((v_1).toBool)
      (G (room x5out [[.int .i64 x7]] 8) (L0 a0 a1 Q (x5out ++ [[.int .i64 x7]]) (addW .i64 x7 1) (Hh.past H_2)))
      (L0 a0 a1 Q x5out (addW .i64 x7 1) (Hh.past H_2))))
  (ioTurn C 32 1 x5out [.fn 33 [.rp [.str a0] 0]] Hh fun y_3 H_4 =>
    Q (.sl 0 1 y_3) H_4)
theorem r0_eq (a0 : ByteArray) (a1 : List (List AV)) (Q : AV → Heap → Prop) (x5out : List (List AV)) (x7 : Int) (Hh : Heap) : (fun K s => awp E0 C (E0.L 19) (codeAt (bodyOf E0 19) [1, 1, 0, 1, 0, 0]) 1 s K) (fun e s' => match e with | .normal => ALoop (fun K s => awp E0 C (E0.L 19) (codeAt (bodyOf E0 19) [1, 1, 0, 1, 0, 0]) 1 s K) (clean [(1, 0), (2, 0), (5, 3), (7, 0)] 1) (K0 Q) ((clean [(1, 0), (2, 0), (5, 3), (7, 0)] 1) s') | e => K0 Q e s') ⟨stt 22 [(1, .sl 0 1 a1), (2, .ptr 0 0), (5, .sl 1 1 x5out), (7, .int .i64 x7)], [.cells [.str a0]], Hh⟩ = r0 a0 a1 Q x5out x7 Hh := by kernel_rfl
theorem L0_step {a0 : ByteArray} {a1 : List (List AV)} {Q : AV → Heap → Prop} {x5out : List (List AV)} {x7 : Int} {Hh : Heap} (h : r0 a0 a1 Q x5out x7 Hh) : L0 a0 a1 Q x5out x7 Hh := ALoop_unfold ((r0_eq a0 a1 Q x5out x7 Hh).mpr h)
def t (a0 : ByteArray) (a1 : List (List AV)) (H : Heap) (Q : AV → Heap → Prop) : Prop :=
  L0 a0 a1 Q [] 0 H
theorem t_eq (a0 : ByteArray) (a1 : List (List AV)) (H : Heap) (Q : AV → Heap → Prop) : aBody E0 C 19 [.str a0, .sl 0 1 a1] H Q = t a0 a1 H Q := by kernel_rfl
theorem call {a0 : ByteArray} {a1 : List (List AV)} {H : Heap} {Q : AV → Heap → Prop} (h : t a0 a1 H Q) : C 19 [.str a0, .sl 0 1 a1] H Q := Call_intro (E := E0) (by rw [t_eq]; exact h)
end F19
/-! ### slices.Contains[[]int,int]: function 20 -/
namespace F20
def t (a0 : List (List AV)) (a1 : Int) (H : Heap) (Q : AV → Heap → Prop) : Prop :=
  C 34 [.sl 0 1 a0, .int .i64 a1] H.none fun v_1 H_2 =>
  G ((v_1).isInt .i64) (Q (.bool (leI 0 ((v_1).toInt))) (H.past H_2))
theorem t_eq (a0 : List (List AV)) (a1 : Int) (H : Heap) (Q : AV → Heap → Prop) : aBody E0 C 20 [.sl 0 1 a0, .int .i64 a1] H Q = t a0 a1 H Q := by kernel_rfl
theorem call {a0 : List (List AV)} {a1 : Int} {H : Heap} {Q : AV → Heap → Prop} (h : t a0 a1 H Q) : C 20 [.sl 0 1 a0, .int .i64 a1] H Q := Call_intro (E := E0) (by rw [t_eq]; exact h)
end F20
/-! ### broker/place.Plan: function 21 -/
namespace F21
def K0 (Q : AV → Heap → Prop) : Ex → St → Prop := (contK E0 C (E0.L 21) [.block 0 0, .seq (codeAt (bodyOf E0 21) [1, 1, 1]) 1] (finK E0 21 Q))
def L0 (a0 : List (List AV)) (a1 : List (List AV)) (a2 : Int) (Q : AV → Heap → Prop) (x7out : List (List AV)) (x12 : Int) (Hh : Heap) : Prop := ALoop (fun K s => awp E0 C (E0.L 21) (codeAt (bodyOf E0 21) [1, 1, 0, 1, 0, 0]) 1 s K) (clean [(1, 0), (2, 0), (7, 4), (10, 0), (11, 0), (12, 0)] 0) (K0 Q) ⟨stt 25 [(1, .sl 0 1 a1), (2, .int .i64 a2), (7, .sl 1 2 x7out), (10, .sl 0 1 a0), (11, .int .i64 (lenI a0)), (12, .int .i64 x12)], [], Hh⟩
def r0 (a0 : List (List AV)) (a1 : List (List AV)) (a2 : Int) (Q : AV → Heap → Prop) (x7out : List (List AV)) (x12 : Int) (Hh : Heap) : Prop :=
  cond (ltI x12 (lenI a0))
  (G (leI 0 x12) (G (ltI x12 (lenI a0)) (G ((ce (ro a0 x12.toNat) 0).isStr) (C 18 [.str ((ce (ro a0 x12.toNat) 0).toStr), .sl 0 1 a1, .int .i64 a2] Hh.none fun v_1 H_2 =>
    G ((v_1).isAgg && Nat.beq (v_1).aggCs.length 2) (G ((((v_1).aggCs).headD .any).isStr) (G (((((v_1).aggCs).tail).headD .any).isSl 1) (G (room x7out [[.str ((((v_1).aggCs).headD .any).toStr), .sl 0 1 (((((v_1).aggCs).tail).headD .any).slXs)]] 40) (L0 a0 a1 a2 Q (x7out ++ [[.str ((((v_1).aggCs).headD .any).toStr), .sl 0 1 (((((v_1).aggCs).tail).headD .any).slXs)]]) (addW .i64 x12 1) (Hh.past H_2)))))))))
  (Q (.sl 0 2 x7out) Hh)
theorem r0_eq (a0 : List (List AV)) (a1 : List (List AV)) (a2 : Int) (Q : AV → Heap → Prop) (x7out : List (List AV)) (x12 : Int) (Hh : Heap) : (fun K s => awp E0 C (E0.L 21) (codeAt (bodyOf E0 21) [1, 1, 0, 1, 0, 0]) 1 s K) (fun e s' => match e with | .normal => ALoop (fun K s => awp E0 C (E0.L 21) (codeAt (bodyOf E0 21) [1, 1, 0, 1, 0, 0]) 1 s K) (clean [(1, 0), (2, 0), (7, 4), (10, 0), (11, 0), (12, 0)] 0) (K0 Q) ((clean [(1, 0), (2, 0), (7, 4), (10, 0), (11, 0), (12, 0)] 0) s') | e => K0 Q e s') ⟨stt 25 [(1, .sl 0 1 a1), (2, .int .i64 a2), (7, .sl 1 2 x7out), (10, .sl 0 1 a0), (11, .int .i64 (lenI a0)), (12, .int .i64 x12)], [], Hh⟩ = r0 a0 a1 a2 Q x7out x12 Hh := by kernel_rfl
theorem L0_step {a0 : List (List AV)} {a1 : List (List AV)} {a2 : Int} {Q : AV → Heap → Prop} {x7out : List (List AV)} {x12 : Int} {Hh : Heap} (h : r0 a0 a1 a2 Q x7out x12 Hh) : L0 a0 a1 a2 Q x7out x12 Hh := ALoop_unfold ((r0_eq a0 a1 a2 Q x7out x12 Hh).mpr h)
def t (a0 : List (List AV)) (a1 : List (List AV)) (a2 : Int) (H : Heap) (Q : AV → Heap → Prop) : Prop :=
  L0 a0 a1 a2 Q [] 0 H
theorem t_eq (a0 : List (List AV)) (a1 : List (List AV)) (a2 : Int) (H : Heap) (Q : AV → Heap → Prop) : aBody E0 C 21 [.sl 0 1 a0, .sl 0 1 a1, .int .i64 a2] H Q = t a0 a1 a2 H Q := by kernel_rfl
theorem call {a0 : List (List AV)} {a1 : List (List AV)} {a2 : Int} {H : Heap} {Q : AV → Heap → Prop} (h : t a0 a1 a2 H Q) : C 21 [.sl 0 1 a0, .sl 0 1 a1, .int .i64 a2] H Q := Call_intro (E := E0) (by rw [t_eq]; exact h)
end F21
/-! ### broker/place.Moves: function 22 -/
namespace F22
def K0 (Q : AV → Heap → Prop) : Ex → St → Prop := (contK E0 C (E0.L 22) [.block 0 0, .seq (codeAt (bodyOf E0 22) [1, 1, 1]) 1] (finK E0 22 Q))
def L0 (a0 : List (List AV)) (a1 : List (List AV)) (a2 : List (List AV)) (a3 : Int) (Q : AV → Heap → Prop) (x9out : List (List AV)) (x14 : Int) (Hh : Heap) : Prop := ALoop (fun K s => awp E0 C (E0.L 22) (codeAt (bodyOf E0 22) [1, 1, 0, 1, 0, 0]) 1 s K) (clean [(1, 0), (2, 0), (3, 0), (9, 3), (12, 0), (13, 0), (14, 0)] 0) (K0 Q) ⟨stt 36 [(1, .sl 0 1 a1), (2, .sl 0 1 a2), (3, .int .i64 a3), (9, .sl 1 1 x9out), (12, .sl 0 1 a0), (13, .int .i64 (lenI a0)), (14, .int .i64 x14)], [], Hh⟩
def r0 (a0 : List (List AV)) (a1 : List (List AV)) (a2 : List (List AV)) (a3 : Int) (Q : AV → Heap → Prop) (x9out : List (List AV)) (x14 : Int) (Hh : Heap) : Prop :=
  cond (ltI x14 (lenI a0))
  (G (leI 0 x14) (G (ltI x14 (lenI a0)) (G ((ce (ro a0 x14.toNat) 0).isStr) (C 18 [.str ((ce (ro a0 x14.toNat) 0).toStr), .sl 0 1 a1, .int .i64 a3] Hh.none fun v_1 H_2 =>
    G ((v_1).isAgg && Nat.beq (v_1).aggCs.length 2) (G ((((v_1).aggCs).headD .any).isStr) (G (((((v_1).aggCs).tail).headD .any).isSl 1) (C 18 [.str ((ce (ro a0 x14.toNat) 0).toStr), .sl 0 1 a2, .int .i64 a3] ((Hh.past H_2).none) fun v_3 H_4 =>
      G ((v_3).isAgg && Nat.beq (v_3).aggCs.length 2) (G ((((v_3).aggCs).headD .any).isStr) (G (((((v_3).aggCs).tail).headD .any).isSl 1) (C 11 [.sl 0 1 (((((v_1).aggCs).tail).headD .any).slXs), .sl 0 1 (((((v_3).aggCs).tail).headD .any).slXs)] ((Hh.past H_4).none) fun v_5 H_6 =>
        G ((v_5).isBool) (cond (!((v_5).toBool))
          (G (room x9out [[.str ((ce (ro a0 x14.toNat) 0).toStr)]] 16) (L0 a0 a1 a2 a3 Q (x9out ++ [[.str ((ce (ro a0 x14.toNat) 0).toStr)]]) (addW .i64 x14 1) (Hh.past H_6)))
          (L0 a0 a1 a2 a3 Q x9out (addW .i64 x14 1) (Hh.past H_6)))))))))))))
  (Q (.sl 0 1 x9out) Hh)
theorem r0_eq (a0 : List (List AV)) (a1 : List (List AV)) (a2 : List (List AV)) (a3 : Int) (Q : AV → Heap → Prop) (x9out : List (List AV)) (x14 : Int) (Hh : Heap) : (fun K s => awp E0 C (E0.L 22) (codeAt (bodyOf E0 22) [1, 1, 0, 1, 0, 0]) 1 s K) (fun e s' => match e with | .normal => ALoop (fun K s => awp E0 C (E0.L 22) (codeAt (bodyOf E0 22) [1, 1, 0, 1, 0, 0]) 1 s K) (clean [(1, 0), (2, 0), (3, 0), (9, 3), (12, 0), (13, 0), (14, 0)] 0) (K0 Q) ((clean [(1, 0), (2, 0), (3, 0), (9, 3), (12, 0), (13, 0), (14, 0)] 0) s') | e => K0 Q e s') ⟨stt 36 [(1, .sl 0 1 a1), (2, .sl 0 1 a2), (3, .int .i64 a3), (9, .sl 1 1 x9out), (12, .sl 0 1 a0), (13, .int .i64 (lenI a0)), (14, .int .i64 x14)], [], Hh⟩ = r0 a0 a1 a2 a3 Q x9out x14 Hh := by kernel_rfl
theorem L0_step {a0 : List (List AV)} {a1 : List (List AV)} {a2 : List (List AV)} {a3 : Int} {Q : AV → Heap → Prop} {x9out : List (List AV)} {x14 : Int} {Hh : Heap} (h : r0 a0 a1 a2 a3 Q x9out x14 Hh) : L0 a0 a1 a2 a3 Q x9out x14 Hh := ALoop_unfold ((r0_eq a0 a1 a2 a3 Q x9out x14 Hh).mpr h)
def t (a0 : List (List AV)) (a1 : List (List AV)) (a2 : List (List AV)) (a3 : Int) (H : Heap) (Q : AV → Heap → Prop) : Prop :=
  L0 a0 a1 a2 a3 Q [] 0 H
theorem t_eq (a0 : List (List AV)) (a1 : List (List AV)) (a2 : List (List AV)) (a3 : Int) (H : Heap) (Q : AV → Heap → Prop) : aBody E0 C 22 [.sl 0 1 a0, .sl 0 1 a1, .sl 0 1 a2, .int .i64 a3] H Q = t a0 a1 a2 a3 H Q := by kernel_rfl
theorem call {a0 : List (List AV)} {a1 : List (List AV)} {a2 : List (List AV)} {a3 : Int} {H : Heap} {Q : AV → Heap → Prop} (h : t a0 a1 a2 a3 H Q) : C 22 [.sl 0 1 a0, .sl 0 1 a1, .sl 0 1 a2, .int .i64 a3] H Q := Call_intro (E := E0) (by rw [t_eq]; exact h)
end F22
/-! ### broker/brokerref42.Rank: function 23 -/
namespace F23
def K0 (Q : AV → Heap → Prop) : Ex → St → Prop := (contK E0 C (E0.L 23) [.block 0 0, .seq (codeAt (bodyOf E0 23) [1, 1, 1]) 2] (finK E0 23 Q))
def L0 (a0 : ByteArray) (a1 : List (List AV)) (Q : AV → Heap → Prop) (x5out : List (List AV)) (x8 : Int) (Hh : Heap) : Prop := ALoop (fun K s => awp E0 C (E0.L 23) (codeAt (bodyOf E0 23) [1, 1, 0, 1, 0, 0]) 1 s K) (clean [(0, 0), (1, 0), (5, 3), (8, 0)] 0) (K0 Q) ⟨stt 40 [(0, .str a0), (1, .sl 0 1 a1), (5, .sl 1 1 x5out), (8, .int .i64 x8)], [], Hh⟩
def K1 (Q : AV → Heap → Prop) : Ex → St → Prop := (contK E0 C (E0.L 23) [.block 2 0, .seq (codeAt (bodyOf E0 23) [1, 1, 0, 1, 0, 0, 1, 1, 0, 0, 1, 1, 1, 1]) 2, .block 1 0, .seq (codeAt (bodyOf E0 23) [1, 1, 0, 1, 0, 0, 1, 1, 1]) 2, .loop (codeAt (bodyOf E0 23) [1, 1, 0, 1, 0, 0]) 1 [(0, 0), (1, 0), (5, 3), (8, 0)] 0, .block 0 0, .seq (codeAt (bodyOf E0 23) [1, 1, 1]) 2] (finK E0 23 Q))
def L1 (a0 : ByteArray) (a1 : List (List AV)) (Q : AV → Heap → Prop) (x5out : List (List AV)) (x6n : Int) (x7at : Int) (x8 : Int) (Hh : Heap) : Prop := ALoop (fun K s => awp E0 C (E0.L 23) (codeAt (bodyOf E0 23) [1, 1, 0, 1, 0, 0, 1, 1, 0, 0, 1, 1, 1, 0, 0, 0]) 2 s K) (clean [(0, 0), (1, 0), (5, 3), (6, 0), (7, 0), (8, 0)] 0) (K1 Q) ⟨stt 40 [(0, .str a0), (1, .sl 0 1 a1), (5, .sl 1 1 x5out), (6, .int .i64 x6n), (7, .int .i64 x7at), (8, .int .i64 x8)], [], Hh⟩
def r0 (a0 : ByteArray) (a1 : List (List AV)) (Q : AV → Heap → Prop) (x5out : List (List AV)) (x8 : Int) (Hh : Heap) : Prop :=
  cond (ltI x8 7)
  (C 20 [.sl 0 1 a1, .int .i64 x8] Hh.none fun v_1 H_2 =>
    G ((v_1).isBool) (cond (!((v_1).toBool))
      (L0 a0 a1 Q x5out (addW .i64 x8 1) (Hh.past H_2))
      (L1 a0 a1 Q x5out x8 0 x8 (Hh.past H_2))))
  (Q (.sl 0 1 x5out) Hh)
theorem r0_eq (a0 : ByteArray) (a1 : List (List AV)) (Q : AV → Heap → Prop) (x5out : List (List AV)) (x8 : Int) (Hh : Heap) : (fun K s => awp E0 C (E0.L 23) (codeAt (bodyOf E0 23) [1, 1, 0, 1, 0, 0]) 1 s K) (fun e s' => match e with | .normal => ALoop (fun K s => awp E0 C (E0.L 23) (codeAt (bodyOf E0 23) [1, 1, 0, 1, 0, 0]) 1 s K) (clean [(0, 0), (1, 0), (5, 3), (8, 0)] 0) (K0 Q) ((clean [(0, 0), (1, 0), (5, 3), (8, 0)] 0) s') | e => K0 Q e s') ⟨stt 40 [(0, .str a0), (1, .sl 0 1 a1), (5, .sl 1 1 x5out), (8, .int .i64 x8)], [], Hh⟩ = r0 a0 a1 Q x5out x8 Hh := by kernel_rfl
theorem L0_step {a0 : ByteArray} {a1 : List (List AV)} {Q : AV → Heap → Prop} {x5out : List (List AV)} {x8 : Int} {Hh : Heap} (h : r0 a0 a1 Q x5out x8 Hh) : L0 a0 a1 Q x5out x8 Hh := ALoop_unfold ((r0_eq a0 a1 Q x5out x8 Hh).mpr h)
def r1 (a0 : ByteArray) (a1 : List (List AV)) (Q : AV → Heap → Prop) (x5out : List (List AV)) (x6n : Int) (x7at : Int) (x8 : Int) (Hh : Heap) : Prop :=
  cond (ltI x7at (lenI x5out))
  (G (leI 0 x7at) (G (ltI x7at (lenI x5out)) (G ((ce (ro x5out x7at.toNat) 0).isInt .i64) (C 10 [.str a0, .int .i64 ((ce (ro x5out x7at.toNat) 0).toInt)] Hh.none fun v_3 H_4 =>
    G ((v_3).isInt .i64) (C 10 [.str a0, .int .i64 x6n] ((Hh.past H_4).none) fun v_5 H_6 =>
      G ((v_5).isInt .i64) (cond (leI ((v_5).toInt) ((v_3).toInt))
        (L1 a0 a1 Q x5out x6n (addW .i64 x7at 1) x8 (Hh.past H_6))
        (ioBack C 35 1 x5out [.int .i64 x7at, .sl 0 1 [[.int .i64 x6n]]] (Hh.past H_6) fun y_7 H_8 =>
          L0 a0 a1 Q y_7 (addW .i64 x8 1) H_8)))))))
  (ioBack C 35 1 x5out [.int .i64 x7at, .sl 0 1 [[.int .i64 x6n]]] Hh fun y_9 H_10 =>
    L0 a0 a1 Q y_9 (addW .i64 x8 1) H_10)
theorem r1_eq (a0 : ByteArray) (a1 : List (List AV)) (Q : AV → Heap → Prop) (x5out : List (List AV)) (x6n : Int) (x7at : Int) (x8 : Int) (Hh : Heap) : (fun K s => awp E0 C (E0.L 23) (codeAt (bodyOf E0 23) [1, 1, 0, 1, 0, 0, 1, 1, 0, 0, 1, 1, 1, 0, 0, 0]) 2 s K) (fun e s' => match e with | .normal => ALoop (fun K s => awp E0 C (E0.L 23) (codeAt (bodyOf E0 23) [1, 1, 0, 1, 0, 0, 1, 1, 0, 0, 1, 1, 1, 0, 0, 0]) 2 s K) (clean [(0, 0), (1, 0), (5, 3), (6, 0), (7, 0), (8, 0)] 0) (K1 Q) ((clean [(0, 0), (1, 0), (5, 3), (6, 0), (7, 0), (8, 0)] 0) s') | e => K1 Q e s') ⟨stt 40 [(0, .str a0), (1, .sl 0 1 a1), (5, .sl 1 1 x5out), (6, .int .i64 x6n), (7, .int .i64 x7at), (8, .int .i64 x8)], [], Hh⟩ = r1 a0 a1 Q x5out x6n x7at x8 Hh := by kernel_rfl
theorem L1_step {a0 : ByteArray} {a1 : List (List AV)} {Q : AV → Heap → Prop} {x5out : List (List AV)} {x6n : Int} {x7at : Int} {x8 : Int} {Hh : Heap} (h : r1 a0 a1 Q x5out x6n x7at x8 Hh) : L1 a0 a1 Q x5out x6n x7at x8 Hh := ALoop_unfold ((r1_eq a0 a1 Q x5out x6n x7at x8 Hh).mpr h)
def t (a0 : ByteArray) (a1 : List (List AV)) (H : Heap) (Q : AV → Heap → Prop) : Prop :=
  L0 a0 a1 Q [] 0 H
theorem t_eq (a0 : ByteArray) (a1 : List (List AV)) (H : Heap) (Q : AV → Heap → Prop) : aBody E0 C 23 [.str a0, .sl 0 1 a1] H Q = t a0 a1 H Q := by kernel_rfl
theorem call {a0 : ByteArray} {a1 : List (List AV)} {H : Heap} {Q : AV → Heap → Prop} (h : t a0 a1 H Q) : C 23 [.str a0, .sl 0 1 a1] H Q := Call_intro (E := E0) (by rw [t_eq]; exact h)
end F23
/-! ### broker/brokerref42.Same: function 24 -/
namespace F24
def K0 (Q : AV → Heap → Prop) : Ex → St → Prop := (contK E0 C (E0.L 24) [.block 0 0, .seq (codeAt (bodyOf E0 24) [1, 1, 1]) 1] (finK E0 24 Q))
def L0 (a0 : List (List AV)) (a1 : List (List AV)) (Q : AV → Heap → Prop) (x14 : Int) (Hh : Heap) : Prop := ALoop (fun K s => awp E0 C (E0.L 24) (codeAt (bodyOf E0 24) [1, 1, 0, 1, 0, 0]) 1 s K) (clean [(1, 0), (12, 0), (13, 0), (14, 0)] 0) (K0 Q) ⟨stt 39 [(1, .sl 0 2 a1), (12, .sl 0 2 a0), (13, .int .i64 (lenI a0)), (14, .int .i64 x14)], [], Hh⟩
def r0 (a0 : List (List AV)) (a1 : List (List AV)) (Q : AV → Heap → Prop) (x14 : Int) (Hh : Heap) : Prop :=
  cond (ltI x14 (lenI a0))
  (G (leI 0 x14) (G (ltI x14 (lenI a0)) (G ((ce (ro a0 x14.toNat) 0).isStr) (G ((ce (ro a0 x14.toNat) 1).isSl 1) (G (leI 0 x14) (G (ltI x14 (lenI a1)) (G ((ce (ro a1 x14.toNat) 0).isStr) (cond (!(eqS ((ce (ro a0 x14.toNat) 0).toStr) ((ce (ro a1 x14.toNat) 0).toStr)))
    (Q (.bool false) Hh)
    (G (leI 0 x14) (G (ltI x14 (lenI a1)) (G ((ce (ro a1 x14.toNat) 1).isSl 1) (C 11 [.sl 0 1 ((ce (ro a0 x14.toNat) 1).slXs), .sl 0 1 ((ce (ro a1 x14.toNat) 1).slXs)] Hh.none fun v_1 H_2 =>
      G ((v_1).isBool) (cond (!((v_1).toBool))
        (Q (.bool false) (Hh.past H_2))
        (L0 a0 a1 Q (addW .i64 x14 1) (Hh.past H_2)))))))))))))))
  (Q (.bool true) Hh)
theorem r0_eq (a0 : List (List AV)) (a1 : List (List AV)) (Q : AV → Heap → Prop) (x14 : Int) (Hh : Heap) : (fun K s => awp E0 C (E0.L 24) (codeAt (bodyOf E0 24) [1, 1, 0, 1, 0, 0]) 1 s K) (fun e s' => match e with | .normal => ALoop (fun K s => awp E0 C (E0.L 24) (codeAt (bodyOf E0 24) [1, 1, 0, 1, 0, 0]) 1 s K) (clean [(1, 0), (12, 0), (13, 0), (14, 0)] 0) (K0 Q) ((clean [(1, 0), (12, 0), (13, 0), (14, 0)] 0) s') | e => K0 Q e s') ⟨stt 39 [(1, .sl 0 2 a1), (12, .sl 0 2 a0), (13, .int .i64 (lenI a0)), (14, .int .i64 x14)], [], Hh⟩ = r0 a0 a1 Q x14 Hh := by kernel_rfl
theorem L0_step {a0 : List (List AV)} {a1 : List (List AV)} {Q : AV → Heap → Prop} {x14 : Int} {Hh : Heap} (h : r0 a0 a1 Q x14 Hh) : L0 a0 a1 Q x14 Hh := ALoop_unfold ((r0_eq a0 a1 Q x14 Hh).mpr h)
def t (a0 : List (List AV)) (a1 : List (List AV)) (H : Heap) (Q : AV → Heap → Prop) : Prop :=
  cond (!(eqI (lenI a0) (lenI a1)))
  (Q (.bool false) H)
  (L0 a0 a1 Q 0 H)
theorem t_eq (a0 : List (List AV)) (a1 : List (List AV)) (H : Heap) (Q : AV → Heap → Prop) : aBody E0 C 24 [.sl 0 2 a0, .sl 0 2 a1] H Q = t a0 a1 H Q := by kernel_rfl
theorem call {a0 : List (List AV)} {a1 : List (List AV)} {H : Heap} {Q : AV → Heap → Prop} (h : t a0 a1 H Q) : C 24 [.sl 0 2 a0, .sl 0 2 a1] H Q := Call_intro (E := E0) (by rw [t_eq]; exact h)
end F24
/-! ### broker/brokerref42.Place: function 25 -/
namespace F25
def t (a0 : ByteArray) (a1 : List (List AV)) (a2 : Int) (H : Heap) (Q : AV → Heap → Prop) : Prop :=
  C 23 [.str a0, .sl 0 1 a1] H.none fun v_1 H_2 =>
  G ((v_1).isSl 1) (G (leI 0 (cond (ltI (lenI ((v_1).slXs)) (cond (ltI a2 0) 0 a2)) (lenI ((v_1).slXs)) (cond (ltI a2 0) 0 a2))) (G (leI (cond (ltI (lenI ((v_1).slXs)) (cond (ltI a2 0) 0 a2)) (lenI ((v_1).slXs)) (cond (ltI a2 0) 0 a2)) (cond (ltI (lenI ((v_1).slXs)) (cond (ltI a2 0) 0 a2)) (lenI ((v_1).slXs)) (cond (ltI a2 0) 0 a2))) (G (leI (cond (ltI (lenI ((v_1).slXs)) (cond (ltI a2 0) 0 a2)) (lenI ((v_1).slXs)) (cond (ltI a2 0) 0 a2)) (lenI ((v_1).slXs))) (Q (.agg [.str a0, .sl 0 1 ((((v_1).slXs).take ((cond (ltI (lenI ((v_1).slXs)) (cond (ltI a2 0) 0 a2)) (lenI ((v_1).slXs)) (cond (ltI a2 0) 0 a2)).toNat)).drop 0)]) (H.past H_2)))))
theorem t_eq (a0 : ByteArray) (a1 : List (List AV)) (a2 : Int) (H : Heap) (Q : AV → Heap → Prop) : aBody E0 C 25 [.str a0, .sl 0 1 a1, .int .i64 a2] H Q = t a0 a1 a2 H Q := by kernel_rfl
theorem call {a0 : ByteArray} {a1 : List (List AV)} {a2 : Int} {H : Heap} {Q : AV → Heap → Prop} (h : t a0 a1 a2 H Q) : C 25 [.str a0, .sl 0 1 a1, .int .i64 a2] H Q := Call_intro (E := E0) (by rw [t_eq]; exact h)
end F25
/-! ### broker/brokerref42.Plan: function 26 -/
namespace F26
def K0 (Q : AV → Heap → Prop) : Ex → St → Prop := (contK E0 C (E0.L 26) [.block 0 0, .seq (codeAt (bodyOf E0 26) [1, 1, 1]) 1] (finK E0 26 Q))
def L0 (a0 : List (List AV)) (a1 : List (List AV)) (a2 : Int) (Q : AV → Heap → Prop) (x7out : List (List AV)) (x12 : Int) (Hh : Heap) : Prop := ALoop (fun K s => awp E0 C (E0.L 26) (codeAt (bodyOf E0 26) [1, 1, 0, 1, 0, 0]) 1 s K) (clean [(1, 0), (2, 0), (7, 4), (10, 0), (11, 0), (12, 0)] 0) (K0 Q) ⟨stt 25 [(1, .sl 0 1 a1), (2, .int .i64 a2), (7, .sl 1 2 x7out), (10, .sl 0 1 a0), (11, .int .i64 (lenI a0)), (12, .int .i64 x12)], [], Hh⟩
def r0 (a0 : List (List AV)) (a1 : List (List AV)) (a2 : Int) (Q : AV → Heap → Prop) (x7out : List (List AV)) (x12 : Int) (Hh : Heap) : Prop :=
  cond (ltI x12 (lenI a0))
  (G (leI 0 x12) (G (ltI x12 (lenI a0)) (G ((ce (ro a0 x12.toNat) 0).isStr) (C 25 [.str ((ce (ro a0 x12.toNat) 0).toStr), .sl 0 1 a1, .int .i64 a2] Hh.none fun v_1 H_2 =>
    G ((v_1).isAgg && Nat.beq (v_1).aggCs.length 2) (G ((((v_1).aggCs).headD .any).isStr) (G (((((v_1).aggCs).tail).headD .any).isSl 1) (G (room x7out [[.str ((((v_1).aggCs).headD .any).toStr), .sl 0 1 (((((v_1).aggCs).tail).headD .any).slXs)]] 40) (L0 a0 a1 a2 Q (x7out ++ [[.str ((((v_1).aggCs).headD .any).toStr), .sl 0 1 (((((v_1).aggCs).tail).headD .any).slXs)]]) (addW .i64 x12 1) (Hh.past H_2)))))))))
  (Q (.sl 0 2 x7out) Hh)
theorem r0_eq (a0 : List (List AV)) (a1 : List (List AV)) (a2 : Int) (Q : AV → Heap → Prop) (x7out : List (List AV)) (x12 : Int) (Hh : Heap) : (fun K s => awp E0 C (E0.L 26) (codeAt (bodyOf E0 26) [1, 1, 0, 1, 0, 0]) 1 s K) (fun e s' => match e with | .normal => ALoop (fun K s => awp E0 C (E0.L 26) (codeAt (bodyOf E0 26) [1, 1, 0, 1, 0, 0]) 1 s K) (clean [(1, 0), (2, 0), (7, 4), (10, 0), (11, 0), (12, 0)] 0) (K0 Q) ((clean [(1, 0), (2, 0), (7, 4), (10, 0), (11, 0), (12, 0)] 0) s') | e => K0 Q e s') ⟨stt 25 [(1, .sl 0 1 a1), (2, .int .i64 a2), (7, .sl 1 2 x7out), (10, .sl 0 1 a0), (11, .int .i64 (lenI a0)), (12, .int .i64 x12)], [], Hh⟩ = r0 a0 a1 a2 Q x7out x12 Hh := by kernel_rfl
theorem L0_step {a0 : List (List AV)} {a1 : List (List AV)} {a2 : Int} {Q : AV → Heap → Prop} {x7out : List (List AV)} {x12 : Int} {Hh : Heap} (h : r0 a0 a1 a2 Q x7out x12 Hh) : L0 a0 a1 a2 Q x7out x12 Hh := ALoop_unfold ((r0_eq a0 a1 a2 Q x7out x12 Hh).mpr h)
def t (a0 : List (List AV)) (a1 : List (List AV)) (a2 : Int) (H : Heap) (Q : AV → Heap → Prop) : Prop :=
  L0 a0 a1 a2 Q [] 0 H
theorem t_eq (a0 : List (List AV)) (a1 : List (List AV)) (a2 : Int) (H : Heap) (Q : AV → Heap → Prop) : aBody E0 C 26 [.sl 0 1 a0, .sl 0 1 a1, .int .i64 a2] H Q = t a0 a1 a2 H Q := by kernel_rfl
theorem call {a0 : List (List AV)} {a1 : List (List AV)} {a2 : Int} {H : Heap} {Q : AV → Heap → Prop} (h : t a0 a1 a2 H Q) : C 26 [.sl 0 1 a0, .sl 0 1 a1, .int .i64 a2] H Q := Call_intro (E := E0) (by rw [t_eq]; exact h)
end F26
/-! ### slices.Equal[[]string,string]: function 27 -/
namespace F27
def K0 (Q : AV → Heap → Prop) : Ex → St → Prop := (contK E0 C (E0.L 27) [.block 0 0, .seq (codeAt (bodyOf E0 27) [1, 1, 1]) 1] (finK E0 27 Q))
def L0 (a0 : List (List AV)) (a1 : List (List AV)) (Q : AV → Heap → Prop) (x13 : Int) (Hh : Heap) : Prop := ALoop (fun K s => awp E0 C (E0.L 27) (codeAt (bodyOf E0 27) [1, 1, 0, 1, 0, 0]) 1 s K) (clean [(0, 0), (1, 0), (12, 0), (13, 0)] 0) (K0 Q) ⟨stt 26 [(0, .sl 0 1 a0), (1, .sl 0 1 a1), (12, .int .i64 (lenI a0)), (13, .int .i64 x13)], [], Hh⟩
def r0 (a0 : List (List AV)) (a1 : List (List AV)) (Q : AV → Heap → Prop) (x13 : Int) (Hh : Heap) : Prop :=
  cond (ltI x13 (lenI a0))
  (G (leI 0 x13) (G (ltI x13 (lenI a0)) (G ((ce (ro a0 x13.toNat) 0).isStr) (G (leI 0 x13) (G (ltI x13 (lenI a1)) (G ((ce (ro a1 x13.toNat) 0).isStr) (cond (!(eqS ((ce (ro a0 x13.toNat) 0).toStr) ((ce (ro a1 x13.toNat) 0).toStr)))
    (Q (.bool false) Hh)
    (L0 a0 a1 Q (addW .i64 x13 1) Hh))))))))
  (Q (.bool true) Hh)
theorem r0_eq (a0 : List (List AV)) (a1 : List (List AV)) (Q : AV → Heap → Prop) (x13 : Int) (Hh : Heap) : (fun K s => awp E0 C (E0.L 27) (codeAt (bodyOf E0 27) [1, 1, 0, 1, 0, 0]) 1 s K) (fun e s' => match e with | .normal => ALoop (fun K s => awp E0 C (E0.L 27) (codeAt (bodyOf E0 27) [1, 1, 0, 1, 0, 0]) 1 s K) (clean [(0, 0), (1, 0), (12, 0), (13, 0)] 0) (K0 Q) ((clean [(0, 0), (1, 0), (12, 0), (13, 0)] 0) s') | e => K0 Q e s') ⟨stt 26 [(0, .sl 0 1 a0), (1, .sl 0 1 a1), (12, .int .i64 (lenI a0)), (13, .int .i64 x13)], [], Hh⟩ = r0 a0 a1 Q x13 Hh := by kernel_rfl
theorem L0_step {a0 : List (List AV)} {a1 : List (List AV)} {Q : AV → Heap → Prop} {x13 : Int} {Hh : Heap} (h : r0 a0 a1 Q x13 Hh) : L0 a0 a1 Q x13 Hh := ALoop_unfold ((r0_eq a0 a1 Q x13 Hh).mpr h)
def t (a0 : List (List AV)) (a1 : List (List AV)) (H : Heap) (Q : AV → Heap → Prop) : Prop :=
  cond (!(eqI (lenI a0) (lenI a1)))
  (Q (.bool false) H)
  (L0 a0 a1 Q 0 H)
theorem t_eq (a0 : List (List AV)) (a1 : List (List AV)) (H : Heap) (Q : AV → Heap → Prop) : aBody E0 C 27 [.sl 0 1 a0, .sl 0 1 a1] H Q = t a0 a1 H Q := by kernel_rfl
theorem call {a0 : List (List AV)} {a1 : List (List AV)} {H : Heap} {Q : AV → Heap → Prop} (h : t a0 a1 H Q) : C 27 [.sl 0 1 a0, .sl 0 1 a1] H Q := Call_intro (E := E0) (by rw [t_eq]; exact h)
end F27
/-! ### broker/brokerref42.Moves: function 28 -/
namespace F28
def K0 (Q : AV → Heap → Prop) : Ex → St → Prop := (contK E0 C (E0.L 28) [.block 0 0, .seq (codeAt (bodyOf E0 28) [1, 1, 1]) 1] (finK E0 28 Q))
def L0 (a0 : List (List AV)) (a1 : List (List AV)) (a2 : List (List AV)) (a3 : Int) (Q : AV → Heap → Prop) (x9out : List (List AV)) (x14 : Int) (Hh : Heap) : Prop := ALoop (fun K s => awp E0 C (E0.L 28) (codeAt (bodyOf E0 28) [1, 1, 0, 1, 0, 0]) 1 s K) (clean [(1, 0), (2, 0), (3, 0), (9, 3), (12, 0), (13, 0), (14, 0)] 0) (K0 Q) ⟨stt 36 [(1, .sl 0 1 a1), (2, .sl 0 1 a2), (3, .int .i64 a3), (9, .sl 1 1 x9out), (12, .sl 0 1 a0), (13, .int .i64 (lenI a0)), (14, .int .i64 x14)], [], Hh⟩
def r0 (a0 : List (List AV)) (a1 : List (List AV)) (a2 : List (List AV)) (a3 : Int) (Q : AV → Heap → Prop) (x9out : List (List AV)) (x14 : Int) (Hh : Heap) : Prop :=
  cond (ltI x14 (lenI a0))
  (G (leI 0 x14) (G (ltI x14 (lenI a0)) (G ((ce (ro a0 x14.toNat) 0).isStr) (C 25 [.str ((ce (ro a0 x14.toNat) 0).toStr), .sl 0 1 a1, .int .i64 a3] Hh.none fun v_1 H_2 =>
    G ((v_1).isAgg && Nat.beq (v_1).aggCs.length 2) (G ((((v_1).aggCs).headD .any).isStr) (G (((((v_1).aggCs).tail).headD .any).isSl 1) (C 25 [.str ((ce (ro a0 x14.toNat) 0).toStr), .sl 0 1 a2, .int .i64 a3] ((Hh.past H_2).none) fun v_3 H_4 =>
      G ((v_3).isAgg && Nat.beq (v_3).aggCs.length 2) (G ((((v_3).aggCs).headD .any).isStr) (G (((((v_3).aggCs).tail).headD .any).isSl 1) (C 11 [.sl 0 1 (((((v_1).aggCs).tail).headD .any).slXs), .sl 0 1 (((((v_3).aggCs).tail).headD .any).slXs)] ((Hh.past H_4).none) fun v_5 H_6 =>
        G ((v_5).isBool) (cond (!((v_5).toBool))
          (G (room x9out [[.str ((ce (ro a0 x14.toNat) 0).toStr)]] 16) (L0 a0 a1 a2 a3 Q (x9out ++ [[.str ((ce (ro a0 x14.toNat) 0).toStr)]]) (addW .i64 x14 1) (Hh.past H_6)))
          (L0 a0 a1 a2 a3 Q x9out (addW .i64 x14 1) (Hh.past H_6)))))))))))))
  (Q (.sl 0 1 x9out) Hh)
theorem r0_eq (a0 : List (List AV)) (a1 : List (List AV)) (a2 : List (List AV)) (a3 : Int) (Q : AV → Heap → Prop) (x9out : List (List AV)) (x14 : Int) (Hh : Heap) : (fun K s => awp E0 C (E0.L 28) (codeAt (bodyOf E0 28) [1, 1, 0, 1, 0, 0]) 1 s K) (fun e s' => match e with | .normal => ALoop (fun K s => awp E0 C (E0.L 28) (codeAt (bodyOf E0 28) [1, 1, 0, 1, 0, 0]) 1 s K) (clean [(1, 0), (2, 0), (3, 0), (9, 3), (12, 0), (13, 0), (14, 0)] 0) (K0 Q) ((clean [(1, 0), (2, 0), (3, 0), (9, 3), (12, 0), (13, 0), (14, 0)] 0) s') | e => K0 Q e s') ⟨stt 36 [(1, .sl 0 1 a1), (2, .sl 0 1 a2), (3, .int .i64 a3), (9, .sl 1 1 x9out), (12, .sl 0 1 a0), (13, .int .i64 (lenI a0)), (14, .int .i64 x14)], [], Hh⟩ = r0 a0 a1 a2 a3 Q x9out x14 Hh := by kernel_rfl
theorem L0_step {a0 : List (List AV)} {a1 : List (List AV)} {a2 : List (List AV)} {a3 : Int} {Q : AV → Heap → Prop} {x9out : List (List AV)} {x14 : Int} {Hh : Heap} (h : r0 a0 a1 a2 a3 Q x9out x14 Hh) : L0 a0 a1 a2 a3 Q x9out x14 Hh := ALoop_unfold ((r0_eq a0 a1 a2 a3 Q x9out x14 Hh).mpr h)
def t (a0 : List (List AV)) (a1 : List (List AV)) (a2 : List (List AV)) (a3 : Int) (H : Heap) (Q : AV → Heap → Prop) : Prop :=
  L0 a0 a1 a2 a3 Q [] 0 H
theorem t_eq (a0 : List (List AV)) (a1 : List (List AV)) (a2 : List (List AV)) (a3 : Int) (H : Heap) (Q : AV → Heap → Prop) : aBody E0 C 28 [.sl 0 1 a0, .sl 0 1 a1, .sl 0 1 a2, .int .i64 a3] H Q = t a0 a1 a2 a3 H Q := by kernel_rfl
theorem call {a0 : List (List AV)} {a1 : List (List AV)} {a2 : List (List AV)} {a3 : Int} {H : Heap} {Q : AV → Heap → Prop} (h : t a0 a1 a2 a3 H Q) : C 28 [.sl 0 1 a0, .sl 0 1 a1, .sl 0 1 a2, .int .i64 a3] H Q := Call_intro (E := E0) (by rw [t_eq]; exact h)
end F28
/-! ### broker/frame.Sum: function 29 -/
namespace F29
def K0 (Q : AV → Heap → Prop) : Ex → St → Prop := (contK E0 C (E0.L 29) [.block 0 0, .seq (codeAt (bodyOf E0 29) [1, 1, 1]) 1] (finK E0 29 Q))
def L0 (a0 : List (List AV)) (Q : AV → Heap → Prop) (x3s : Int) (x8 : Int) (Hh : Heap) : Prop := ALoop (fun K s => awp E0 C (E0.L 29) (codeAt (bodyOf E0 29) [1, 1, 0, 1, 0, 0]) 1 s K) (clean [(3, 0), (6, 0), (7, 0), (8, 0)] 0) (K0 Q) ⟨stt 20 [(3, .int .u32 x3s), (6, .sl 0 1 a0), (7, .int .i64 (lenI a0)), (8, .int .i64 x8)], [], Hh⟩
def r0 (a0 : List (List AV)) (Q : AV → Heap → Prop) (x3s : Int) (x8 : Int) (Hh : Heap) : Prop :=
  cond (ltI x8 (lenI a0))
  (G (leI 0 x8) (G (ltI x8 (lenI a0)) (G ((ce (ro a0 x8.toNat) 0).isInt .u8) (L0 a0 Q (mulW .u32 (xorW .u32 x3s (IntKind.u32.wrap ((ce (ro a0 x8.toNat) 0).toInt))) 16777619) (addW .i64 x8 1) Hh))))
  (Q (.int .i64 (IntKind.i64.wrap x3s)) Hh)
theorem r0_eq (a0 : List (List AV)) (Q : AV → Heap → Prop) (x3s : Int) (x8 : Int) (Hh : Heap) : (fun K s => awp E0 C (E0.L 29) (codeAt (bodyOf E0 29) [1, 1, 0, 1, 0, 0]) 1 s K) (fun e s' => match e with | .normal => ALoop (fun K s => awp E0 C (E0.L 29) (codeAt (bodyOf E0 29) [1, 1, 0, 1, 0, 0]) 1 s K) (clean [(3, 0), (6, 0), (7, 0), (8, 0)] 0) (K0 Q) ((clean [(3, 0), (6, 0), (7, 0), (8, 0)] 0) s') | e => K0 Q e s') ⟨stt 20 [(3, .int .u32 x3s), (6, .sl 0 1 a0), (7, .int .i64 (lenI a0)), (8, .int .i64 x8)], [], Hh⟩ = r0 a0 Q x3s x8 Hh := by kernel_rfl
theorem L0_step {a0 : List (List AV)} {Q : AV → Heap → Prop} {x3s : Int} {x8 : Int} {Hh : Heap} (h : r0 a0 Q x3s x8 Hh) : L0 a0 Q x3s x8 Hh := ALoop_unfold ((r0_eq a0 Q x3s x8 Hh).mpr h)
def t (a0 : List (List AV)) (H : Heap) (Q : AV → Heap → Prop) : Prop :=
  L0 a0 Q 2166136261 0 H
theorem t_eq (a0 : List (List AV)) (H : Heap) (Q : AV → Heap → Prop) : aBody E0 C 29 [.sl 0 1 a0] H Q = t a0 H Q := by kernel_rfl
theorem call {a0 : List (List AV)} {H : Heap} {Q : AV → Heap → Prop} (h : t a0 H Q) : C 29 [.sl 0 1 a0] H Q := Call_intro (E := E0) (by rw [t_eq]; exact h)
end F29
/-! ### broker/brokerref04.Sum: function 31 -/
namespace F31
def K0 (Q : AV → Heap → Prop) : Ex → St → Prop := (contK E0 C (E0.L 31) [.block 0 0, .seq (codeAt (bodyOf E0 31) [1, 1, 1]) 1] (finK E0 31 Q))
def L0 (a0 : List (List AV)) (Q : AV → Heap → Prop) (x3h : Int) (x4i : Int) (Hh : Heap) : Prop := ALoop (fun K s => awp E0 C (E0.L 31) (codeAt (bodyOf E0 31) [1, 1, 0, 1, 0, 0]) 1 s K) (clean [(0, 0), (3, 0), (4, 0)] 0) (K0 Q) ⟨stt 22 [(0, .sl 0 1 a0), (3, .int .u64 x3h), (4, .int .i64 x4i)], [], Hh⟩
def r0 (a0 : List (List AV)) (Q : AV → Heap → Prop) (x3h : Int) (x4i : Int) (Hh : Heap) : Prop :=
  cond (ltI x4i (lenI a0))
  (G (leI 0 x4i) (G (ltI x4i (lenI a0)) (G ((ce (ro a0 x4i.toNat) 0).isInt .u8) (L0 a0 Q (Int.tmod (mulW .u64 (xorW .u64 x3h (IntKind.u64.wrap ((ce (ro a0 x4i.toNat) 0).toInt))) 16777619) 4294967296) (addW .i64 x4i 1) Hh))))
  (Q (.int .i64 (IntKind.i64.wrap x3h)) Hh)
theorem r0_eq (a0 : List (List AV)) (Q : AV → Heap → Prop) (x3h : Int) (x4i : Int) (Hh : Heap) : (fun K s => awp E0 C (E0.L 31) (codeAt (bodyOf E0 31) [1, 1, 0, 1, 0, 0]) 1 s K) (fun e s' => match e with | .normal => ALoop (fun K s => awp E0 C (E0.L 31) (codeAt (bodyOf E0 31) [1, 1, 0, 1, 0, 0]) 1 s K) (clean [(0, 0), (3, 0), (4, 0)] 0) (K0 Q) ((clean [(0, 0), (3, 0), (4, 0)] 0) s') | e => K0 Q e s') ⟨stt 22 [(0, .sl 0 1 a0), (3, .int .u64 x3h), (4, .int .i64 x4i)], [], Hh⟩ = r0 a0 Q x3h x4i Hh := by kernel_rfl
theorem L0_step {a0 : List (List AV)} {Q : AV → Heap → Prop} {x3h : Int} {x4i : Int} {Hh : Heap} (h : r0 a0 Q x3h x4i Hh) : L0 a0 Q x3h x4i Hh := ALoop_unfold ((r0_eq a0 Q x3h x4i Hh).mpr h)
def t (a0 : List (List AV)) (H : Heap) (Q : AV → Heap → Prop) : Prop :=
  L0 a0 Q 2166136261 0 H
theorem t_eq (a0 : List (List AV)) (H : Heap) (Q : AV → Heap → Prop) : aBody E0 C 31 [.sl 0 1 a0] H Q = t a0 H Q := by kernel_rfl
theorem call {a0 : List (List AV)} {H : Heap} {Q : AV → Heap → Prop} (h : t a0 H Q) : C 31 [.sl 0 1 a0] H Q := Call_intro (E := E0) (by rw [t_eq]; exact h)
end F31
/-! ### slices.SortStableFunc[[]int,int]: function 32h -/
namespace F32h
def t (a0j : Nat) (a0n : Nat) (a0c : Nat) (a1q0 : List AV) (H : Heap) (Q : AV → Heap → Prop) : Prop :=
  C 37 [.hs a0j 0 a0n a0c 1, .int .i64 ((a0n : Nat) : Int), .fn 33 [.rp a1q0 0]] H fun v_1 H_2 =>
  G ((v_1).isTup && Nat.beq (v_1).tupVs.length 0) (Q (.tup []) H_2)
theorem t_eq (a0j : Nat) (a0n : Nat) (a0c : Nat) (a1q0 : List AV) (H : Heap) (Q : AV → Heap → Prop) : aBody E0 C 32 [.hs a0j 0 a0n a0c 1, .fn 33 [.rp a1q0 0]] H Q = t a0j a0n a0c a1q0 H Q := by kernel_rfl
theorem call {a0j : Nat} {a0n : Nat} {a0c : Nat} {a1q0 : List AV} {H : Heap} {Q : AV → Heap → Prop} (h : t a0j a0n a0c a1q0 H Q) : C 32 [.hs a0j 0 a0n a0c 1, .fn 33 [.rp a1q0 0]] H Q := Call_intro (E := E0) (by rw [t_eq]; exact h)
end F32h
/-! ### slices.SortStableFunc[[]int,int]: function 32n -/
namespace F32n
def t (a1q0 : List AV) (H : Heap) (Q : AV → Heap → Prop) : Prop :=
  C 37 [.nilsl, .int .i64 0, .fn 33 [.rp a1q0 0]] H fun v_1 H_2 =>
  G ((v_1).isTup && Nat.beq (v_1).tupVs.length 0) (Q (.tup []) H_2)
theorem t_eq (a1q0 : List AV) (H : Heap) (Q : AV → Heap → Prop) : aBody E0 C 32 [.nilsl, .fn 33 [.rp a1q0 0]] H Q = t a1q0 H Q := by kernel_rfl
theorem call {a1q0 : List AV} {H : Heap} {Q : AV → Heap → Prop} (h : t a1q0 H Q) : C 32 [.nilsl, .fn 33 [.rp a1q0 0]] H Q := Call_intro (E := E0) (by rw [t_eq]; exact h)
end F32n
/-! ### broker/place.Rank$1: function 33 -/
namespace F33
def t (a0 : Int) (a1 : Int) (a2 : List AV) (H : Heap) (Q : AV → Heap → Prop) : Prop :=
  G ((ce a2 0).isStr) (C 9 [.str ((ce a2 0).toStr), .int .i64 a1] H.none fun v_1 H_2 =>
  G ((v_1).isInt .i64) (G ((ce a2 0).isStr) (C 9 [.str ((ce a2 0).toStr), .int .i64 a0] ((H.past H_2).none) fun v_3 H_4 =>
    G ((v_3).isInt .i64) (Q (.int .i64 (subW .i64 ((v_1).toInt) ((v_3).toInt))) (H.past H_4)))))
theorem t_eq (a0 : Int) (a1 : Int) (a2 : List AV) (H : Heap) (Q : AV → Heap → Prop) : aBody E0 C 33 [.int .i64 a0, .int .i64 a1, .rp a2 0] H Q = t a0 a1 a2 H Q := by kernel_rfl
theorem call {a0 : Int} {a1 : Int} {a2 : List AV} {H : Heap} {Q : AV → Heap → Prop} (h : t a0 a1 a2 H Q) : C 33 [.int .i64 a0, .int .i64 a1, .rp a2 0] H Q := Call_intro (E := E0) (by rw [t_eq]; exact h)
end F33
/-! ### slices.Index[[]int,int]: function 34 -/
namespace F34
def K0 (Q : AV → Heap → Prop) : Ex → St → Prop := (contK E0 C (E0.L 34) [.block 0 0, .seq (codeAt (bodyOf E0 34) [1, 1]) 1] (finK E0 34 Q))
def L0 (a0 : List (List AV)) (a1 : Int) (Q : AV → Heap → Prop) (x8 : Int) (Hh : Heap) : Prop := ALoop (fun K s => awp E0 C (E0.L 34) (codeAt (bodyOf E0 34) [1, 0, 1, 0, 0]) 1 s K) (clean [(0, 0), (1, 0), (7, 0), (8, 0)] 0) (K0 Q) ⟨stt 19 [(0, .sl 0 1 a0), (1, .int .i64 a1), (7, .int .i64 (lenI a0)), (8, .int .i64 x8)], [], Hh⟩
def r0 (a0 : List (List AV)) (a1 : Int) (Q : AV → Heap → Prop) (x8 : Int) (Hh : Heap) : Prop :=
  cond (ltI x8 (lenI a0))
  (G (leI 0 x8) (G (ltI x8 (lenI a0)) (G ((ce (ro a0 x8.toNat) 0).isInt .i64) (cond (eqI a1 ((ce (ro a0 x8.toNat) 0).toInt))
    (Q (.int .i64 x8) Hh)
    (L0 a0 a1 Q (addW .i64 x8 1) Hh)))))
  (Q (.int .i64 (-1)) Hh)
theorem r0_eq (a0 : List (List AV)) (a1 : Int) (Q : AV → Heap → Prop) (x8 : Int) (Hh : Heap) : (fun K s => awp E0 C (E0.L 34) (codeAt (bodyOf E0 34) [1, 0, 1, 0, 0]) 1 s K) (fun e s' => match e with | .normal => ALoop (fun K s => awp E0 C (E0.L 34) (codeAt (bodyOf E0 34) [1, 0, 1, 0, 0]) 1 s K) (clean [(0, 0), (1, 0), (7, 0), (8, 0)] 0) (K0 Q) ((clean [(0, 0), (1, 0), (7, 0), (8, 0)] 0) s') | e => K0 Q e s') ⟨stt 19 [(0, .sl 0 1 a0), (1, .int .i64 a1), (7, .int .i64 (lenI a0)), (8, .int .i64 x8)], [], Hh⟩ = r0 a0 a1 Q x8 Hh := by kernel_rfl
theorem L0_step {a0 : List (List AV)} {a1 : Int} {Q : AV → Heap → Prop} {x8 : Int} {Hh : Heap} (h : r0 a0 a1 Q x8 Hh) : L0 a0 a1 Q x8 Hh := ALoop_unfold ((r0_eq a0 a1 Q x8 Hh).mpr h)
def t (a0 : List (List AV)) (a1 : Int) (H : Heap) (Q : AV → Heap → Prop) : Prop :=
  L0 a0 a1 Q 0 H
theorem t_eq (a0 : List (List AV)) (a1 : Int) (H : Heap) (Q : AV → Heap → Prop) : aBody E0 C 34 [.sl 0 1 a0, .int .i64 a1] H Q = t a0 a1 H Q := by kernel_rfl
theorem call {a0 : List (List AV)} {a1 : Int} {H : Heap} {Q : AV → Heap → Prop} (h : t a0 a1 H Q) : C 34 [.sl 0 1 a0, .int .i64 a1] H Q := Call_intro (E := E0) (by rw [t_eq]; exact h)
end F34
/-! ### slices.Insert[[]int,int]: function 35h -/
namespace F35h
def t (a0j : Nat) (a0n : Nat) (a0c : Nat) (a1 : Int) (a2 : List (List AV)) (H : Heap) (Q : AV → Heap → Prop) : Prop :=
  G (leI 0 a1) (G (leI a1 ((a0n : Nat) : Int)) (G (leI ((a0n : Nat) : Int) ((a0c : Nat) : Int)) (G (leI ((a0c : Nat) : Int) ((a0c : Nat) : Int)) (cond (eqI (lenI a2) 0)
  (Q (.hs a0j 0 a0n a0c 1) H)
  (cond (eqI a1 ((a0n : Nat) : Int))
    (G ((H.get a0j).isRows 1) (cond (Nat.ble (a0n + a2.length) a0c)
      (G (Nat.ble ((0 + a0n) + a2.length) (H.get a0j).xs.length) (Q (.hs a0j 0 (a0n + a2.length) a0c 1) (H.set a0j (.rows 1 (splice (H.get a0j).xs (0 + a0n) a2)))))
      (G (room (((H.get a0j).xs.drop 0).take a0n) a2 8) (G (Nat.ble (0 + a0n) (H.get a0j).xs.length) (∀ c_1 : Nat, a0n + a2.length ≤ c_1 → (a0n + a2.length ≤ 140737488355328 → c_1 ≤ 9223372036854775807) → (Q (.hs H.next 0 (a0n + a2.length) c_1 1) (H.push (.rows 1 (pad 1 c_1 ((((H.get a0j).xs.drop 0).take a0n) ++ a2))))))))))
    (cond (ltI ((a0c : Nat) : Int) (addW .i64 ((a0n : Nat) : Int) (lenI a2)))
      (G (leI 0 a1) (G (leI a1 ((a0c : Nat) : Int)) (G (leI ((a0c : Nat) : Int) ((a0c : Nat) : Int)) (G ((H.get a0j).isRows 1) (G (leI 0 (subW .i64 (addW .i64 ((a0n : Nat) : Int) (lenI a2)) a1)) (G (roomN (subW .i64 (addW .i64 ((a0n : Nat) : Int) (lenI a2)) a1) 8) (cond (Nat.ble (a1.toNat + ((List.replicate ((subW .i64 (addW .i64 ((a0n : Nat) : Int) (lenI a2)) a1).toNat) ([.int .i64 0] : List AV)).length)) a0c)
        (G (Nat.ble ((0 + a1.toNat) + ((List.replicate ((subW .i64 (addW .i64 ((a0n : Nat) : Int) (lenI a2)) a1).toNat) ([.int .i64 0] : List AV)).length)) (H.get a0j).xs.length) (G (leI 0 a1) (G (leI a1 ((a1.toNat + ((List.replicate ((subW .i64 (addW .i64 ((a0n : Nat) : Int) (lenI a2)) a1).toNat) ([.int .i64 0] : List AV)).length) : Nat) : Int)) (G (leI ((a1.toNat + ((List.replicate ((subW .i64 (addW .i64 ((a0n : Nat) : Int) (lenI a2)) a1).toNat) ([.int .i64 0] : List AV)).length) : Nat) : Int) ((a0c : Nat) : Int)) (G (leI ((a0c : Nat) : Int) ((a0c : Nat) : Int)) (G (((H.set a0j (.rows 1 (splice (H.get a0j).xs (0 + a1.toNat) (List.replicate ((subW .i64 (addW .i64 ((a0n : Nat) : Int) (lenI a2)) a1).toNat) ([.int .i64 0] : List AV))))).get a0j).isRows 1) (G (Nat.ble ((0 + a1.toNat) + ((((a1.toNat + ((List.replicate ((subW .i64 (addW .i64 ((a0n : Nat) : Int) (lenI a2)) a1).toNat) ([.int .i64 0] : List AV)).length) : Nat) : Int).toNat) - a1.toNat)) ((H.set a0j (.rows 1 (splice (H.get a0j).xs (0 + a1.toNat) (List.replicate ((subW .i64 (addW .i64 ((a0n : Nat) : Int) (lenI a2)) a1).toNat) ([.int .i64 0] : List AV))))).get a0j).xs.length) (G (leI 0 (addW .i64 a1 (lenI a2))) (G (leI (addW .i64 a1 (lenI a2)) ((a1.toNat + ((List.replicate ((subW .i64 (addW .i64 ((a0n : Nat) : Int) (lenI a2)) a1).toNat) ([.int .i64 0] : List AV)).length) : Nat) : Int)) (G (leI ((a1.toNat + ((List.replicate ((subW .i64 (addW .i64 ((a0n : Nat) : Int) (lenI a2)) a1).toNat) ([.int .i64 0] : List AV)).length) : Nat) : Int) ((a0c : Nat) : Int)) (G (leI ((a0c : Nat) : Int) ((a0c : Nat) : Int)) (G (leI 0 a1) (G (leI a1 ((a0n : Nat) : Int)) (G (leI ((a0n : Nat) : Int) ((a0c : Nat) : Int)) (G (leI ((a0c : Nat) : Int) ((a0c : Nat) : Int)) (G ((((H.set a0j (.rows 1 (splice (H.get a0j).xs (0 + a1.toNat) (List.replicate ((subW .i64 (addW .i64 ((a0n : Nat) : Int) (lenI a2)) a1).toNat) ([.int .i64 0] : List AV))))).set a0j (.rows 1 (splice ((H.set a0j (.rows 1 (splice (H.get a0j).xs (0 + a1.toNat) (List.replicate ((subW .i64 (addW .i64 ((a0n : Nat) : Int) (lenI a2)) a1).toNat) ([.int .i64 0] : List AV))))).get a0j).xs (0 + a1.toNat) (a2.take ((((a1.toNat + ((List.replicate ((subW .i64 (addW .i64 ((a0n : Nat) : Int) (lenI a2)) a1).toNat) ([.int .i64 0] : List AV)).length) : Nat) : Int).toNat) - a1.toNat))))).get a0j).isRows 1) (G (Nat.ble ((0 + ((addW .i64 a1 (lenI a2)).toNat)) + ((((a1.toNat + ((List.replicate ((subW .i64 (addW .i64 ((a0n : Nat) : Int) (lenI a2)) a1).toNat) ([.int .i64 0] : List AV)).length) : Nat) : Int).toNat) - ((addW .i64 a1 (lenI a2)).toNat))) (((H.set a0j (.rows 1 (splice (H.get a0j).xs (0 + a1.toNat) (List.replicate ((subW .i64 (addW .i64 ((a0n : Nat) : Int) (lenI a2)) a1).toNat) ([.int .i64 0] : List AV))))).set a0j (.rows 1 (splice ((H.set a0j (.rows 1 (splice (H.get a0j).xs (0 + a1.toNat) (List.replicate ((subW .i64 (addW .i64 ((a0n : Nat) : Int) (lenI a2)) a1).toNat) ([.int .i64 0] : List AV))))).get a0j).xs (0 + a1.toNat) (a2.take ((((a1.toNat + ((List.replicate ((subW .i64 (addW .i64 ((a0n : Nat) : Int) (lenI a2)) a1).toNat) ([.int .i64 0] : List AV)).length) : Nat) : Int).toNat) - a1.toNat))))).get a0j).xs.length) (G ((((H.set a0j (.rows 1 (splice (H.get a0j).xs (0 + a1.toNat) (List.replicate ((subW .i64 (addW .i64 ((a0n : Nat) : Int) (lenI a2)) a1).toNat) ([.int .i64 0] : List AV))))).set a0j (.rows 1 (splice ((H.set a0j (.rows 1 (splice (H.get a0j).xs (0 + a1.toNat) (List.replicate ((subW .i64 (addW .i64 ((a0n : Nat) : Int) (lenI a2)) a1).toNat) ([.int .i64 0] : List AV))))).get a0j).xs (0 + a1.toNat) (a2.take ((((a1.toNat + ((List.replicate ((subW .i64 (addW .i64 ((a0n : Nat) : Int) (lenI a2)) a1).toNat) ([.int .i64 0] : List AV)).length) : Nat) : Int).toNat) - a1.toNat))))).get a0j).isRows 1) (G (Nat.ble ((0 + a1.toNat) + (a0n - a1.toNat)) (((H.set a0j (.rows 1 (splice (H.get a0j).xs (0 + a1.toNat) (List.replicate ((subW .i64 (addW .i64 ((a0n : Nat) : Int) (lenI a2)) a1).toNat) ([.int .i64 0] : List AV))))).set a0j (.rows 1 (splice ((H.set a0j (.rows 1 (splice (H.get a0j).xs (0 + a1.toNat) (List.replicate ((subW .i64 (addW .i64 ((a0n : Nat) : Int) (lenI a2)) a1).toNat) ([.int .i64 0] : List AV))))).get a0j).xs (0 + a1.toNat) (a2.take ((((a1.toNat + ((List.replicate ((subW .i64 (addW .i64 ((a0n : Nat) : Int) (lenI a2)) a1).toNat) ([.int .i64 0] : List AV)).length) : Nat) : Int).toNat) - a1.toNat))))).get a0j).xs.length) (Q (.hs a0j 0 (a1.toNat + ((List.replicate ((subW .i64 (addW .i64 ((a0n : Nat) : Int) (lenI a2)) a1).toNat) ([.int .i64 0] : List AV)).length)) a0c 1) (((H.set a0j (.rows 1 (splice (H.get a0j).xs (0 + a1.toNat) (List.replicate ((subW .i64 (addW .i64 ((a0n : Nat) : Int) (lenI a2)) a1).toNat) ([.int .i64 0] : List AV))))).set a0j (.rows 1 (splice ((H.set a0j (.rows 1 (splice (H.get a0j).xs (0 + a1.toNat) (List.replicate ((subW .i64 (addW .i64 ((a0n : Nat) : Int) (lenI a2)) a1).toNat) ([.int .i64 0] : List AV))))).get a0j).xs (0 + a1.toNat) (a2.take ((((a1.toNat + ((List.replicate ((subW .i64 (addW .i64 ((a0n : Nat) : Int) (lenI a2)) a1).toNat) ([.int .i64 0] : List AV)).length) : Nat) : Int).toNat) - a1.toNat))))).set a0j (.rows 1 (splice (((H.set a0j (.rows 1 (splice (H.get a0j).xs (0 + a1.toNat) (List.replicate ((subW .i64 (addW .i64 ((a0n : Nat) : Int) (lenI a2)) a1).toNat) ([.int .i64 0] : List AV))))).set a0j (.rows 1 (splice ((H.set a0j (.rows 1 (splice (H.get a0j).xs (0 + a1.toNat) (List.replicate ((subW .i64 (addW .i64 ((a0n : Nat) : Int) (lenI a2)) a1).toNat) ([.int .i64 0] : List AV))))).get a0j).xs (0 + a1.toNat) (a2.take ((((a1.toNat + ((List.replicate ((subW .i64 (addW .i64 ((a0n : Nat) : Int) (lenI a2)) a1).toNat) ([.int .i64 0] : List AV)).length) : Nat) : Int).toNat) - a1.toNat))))).get a0j).xs (0 + ((addW .i64 a1 (lenI a2)).toNat)) ((((((H.set a0j (.rows 1 (splice (H.get a0j).xs (0 + a1.toNat) (List.replicate ((subW .i64 (addW .i64 ((a0n : Nat) : Int) (lenI a2)) a1).toNat) ([.int .i64 0] : List AV))))).set a0j (.rows 1 (splice ((H.set a0j (.rows 1 (splice (H.get a0j).xs (0 + a1.toNat) (List.replicate ((subW .i64 (addW .i64 ((a0n : Nat) : Int) (lenI a2)) a1).toNat) ([.int .i64 0] : List AV))))).get a0j).xs (0 + a1.toNat) (a2.take ((((a1.toNat + ((List.replicate ((subW .i64 (addW .i64 ((a0n : Nat) : Int) (lenI a2)) a1).toNat) ([.int .i64 0] : List AV)).length) : Nat) : Int).toNat) - a1.toNat))))).get a0j).xs.drop (0 + a1.toNat)).take (a0n - a1.toNat)).take ((((a1.toNat + ((List.replicate ((subW .i64 (addW .i64 ((a0n : Nat) : Int) (lenI a2)) a1).toNat) ([.int .i64 0] : List AV)).length) : Nat) : Int).toNat) - ((addW .i64 a1 (lenI a2)).toNat))))))))))))))))))))))))))
        (G (room (((H.get a0j).xs.drop 0).take a1.toNat) (List.replicate ((subW .i64 (addW .i64 ((a0n : Nat) : Int) (lenI a2)) a1).toNat) ([.int .i64 0] : List AV)) 8) (G (Nat.ble (0 + a1.toNat) (H.get a0j).xs.length) (∀ c_2 : Nat, a1.toNat + ((List.replicate ((subW .i64 (addW .i64 ((a0n : Nat) : Int) (lenI a2)) a1).toNat) ([.int .i64 0] : List AV)).length) ≤ c_2 → (a1.toNat + ((List.replicate ((subW .i64 (addW .i64 ((a0n : Nat) : Int) (lenI a2)) a1).toNat) ([.int .i64 0] : List AV)).length) ≤ 140737488355328 → c_2 ≤ 9223372036854775807) → (G (leI 0 a1) (G (leI a1 ((a1.toNat + ((List.replicate ((subW .i64 (addW .i64 ((a0n : Nat) : Int) (lenI a2)) a1).toNat) ([.int .i64 0] : List AV)).length) : Nat) : Int)) (G (leI ((a1.toNat + ((List.replicate ((subW .i64 (addW .i64 ((a0n : Nat) : Int) (lenI a2)) a1).toNat) ([.int .i64 0] : List AV)).length) : Nat) : Int) ((c_2 : Nat) : Int)) (G (leI ((c_2 : Nat) : Int) ((c_2 : Nat) : Int)) (G (((H.push (.rows 1 (pad 1 c_2 ((((H.get a0j).xs.drop 0).take a1.toNat) ++ (List.replicate ((subW .i64 (addW .i64 ((a0n : Nat) : Int) (lenI a2)) a1).toNat) ([.int .i64 0] : List AV)))))).get H.next).isRows 1) (G (Nat.ble ((0 + a1.toNat) + ((((a1.toNat + ((List.replicate ((subW .i64 (addW .i64 ((a0n : Nat) : Int) (lenI a2)) a1).toNat) ([.int .i64 0] : List AV)).length) : Nat) : Int).toNat) - a1.toNat)) ((H.push (.rows 1 (pad 1 c_2 ((((H.get a0j).xs.drop 0).take a1.toNat) ++ (List.replicate ((subW .i64 (addW .i64 ((a0n : Nat) : Int) (lenI a2)) a1).toNat) ([.int .i64 0] : List AV)))))).get H.next).xs.length) (G (leI 0 (addW .i64 a1 (lenI a2))) (G (leI (addW .i64 a1 (lenI a2)) ((a1.toNat + ((List.replicate ((subW .i64 (addW .i64 ((a0n : Nat) : Int) (lenI a2)) a1).toNat) ([.int .i64 0] : List AV)).length) : Nat) : Int)) (G (leI ((a1.toNat + ((List.replicate ((subW .i64 (addW .i64 ((a0n : Nat) : Int) (lenI a2)) a1).toNat) ([.int .i64 0] : List AV)).length) : Nat) : Int) ((c_2 : Nat) : Int)) (G (leI ((c_2 : Nat) : Int) ((c_2 : Nat) : Int)) (G (leI 0 a1) (G (leI a1 ((a0n : Nat) : Int)) (G (leI ((a0n : Nat) : Int) ((a0c : Nat) : Int)) (G (leI ((a0c : Nat) : Int) ((a0c : Nat) : Int)) (G ((((H.push (.rows 1 (pad 1 c_2 ((((H.get a0j).xs.drop 0).take a1.toNat) ++ (List.replicate ((subW .i64 (addW .i64 ((a0n : Nat) : Int) (lenI a2)) a1).toNat) ([.int .i64 0] : List AV)))))).set H.next (.rows 1 (splice ((H.push (.rows 1 (pad 1 c_2 ((((H.get a0j).xs.drop 0).take a1.toNat) ++ (List.replicate ((subW .i64 (addW .i64 ((a0n : Nat) : Int) (lenI a2)) a1).toNat) ([.int .i64 0] : List AV)))))).get H.next).xs (0 + a1.toNat) (a2.take ((((a1.toNat + ((List.replicate ((subW .i64 (addW .i64 ((a0n : Nat) : Int) (lenI a2)) a1).toNat) ([.int .i64 0] : List AV)).length) : Nat) : Int).toNat) - a1.toNat))))).get H.next).isRows 1) (G (Nat.ble ((0 + ((addW .i64 a1 (lenI a2)).toNat)) + ((((a1.toNat + ((List.replicate ((subW .i64 (addW .i64 ((a0n : Nat) : Int) (lenI a2)) a1).toNat) ([.int .i64 0] : List AV)).length) : Nat) : Int).toNat) - ((addW .i64 a1 (lenI a2)).toNat))) (((H.push (.rows 1 (pad 1 c_2 ((((H.get a0j).xs.drop 0).take a1.toNat) ++ (List.replicate ((subW .i64 (addW .i64 ((a0n : Nat) : Int) (lenI a2)) a1).toNat) ([.int .i64 0] : List AV)))))).set H.next (.rows 1 (splice ((H.push (.rows 1 (pad 1 c_2 ((((H.get a0j).xs.drop 0).take a1.toNat) ++ (List.replicate ((subW .i64 (addW .i64 ((a0n : Nat) : Int) (lenI a2)) a1).toNat) ([.int .i64 0] : List AV)))))).get H.next).xs (0 + a1.toNat) (a2.take ((((a1.toNat + ((List.replicate ((subW .i64 (addW .i64 ((a0n : Nat) : Int) (lenI a2)) a1).toNat) ([.int .i64 0] : List AV)).length) : Nat) : Int).toNat) - a1.toNat))))).get H.next).xs.length) (G ((((H.push (.rows 1 (pad 1 c_2 ((((H.get a0j).xs.drop 0).take a1.toNat) ++ (List.replicate ((subW .i64 (addW .i64 ((a0n : Nat) : Int) (lenI a2)) a1).toNat) ([.int .i64 0] : List AV)))))).set H.next (.rows 1 (splice ((H.push (.rows 1 (pad 1 c_2 ((((H.get a0j).xs.drop 0).take a1.toNat) ++ (List.replicate ((subW .i64 (addW .i64 ((a0n : Nat) : Int) (lenI a2)) a1).toNat) ([.int .i64 0] : List AV)))))).get H.next).xs (0 + a1.toNat) (a2.take ((((a1.toNat + ((List.replicate ((subW .i64 (addW .i64 ((a0n : Nat) : Int) (lenI a2)) a1).toNat) ([.int .i64 0] : List AV)).length) : Nat) : Int).toNat) - a1.toNat))))).get a0j).isRows 1) (G (Nat.ble ((0 + a1.toNat) + (a0n - a1.toNat)) (((H.push (.rows 1 (pad 1 c_2 ((((H.get a0j).xs.drop 0).take a1.toNat) ++ (List.replicate ((subW .i64 (addW .i64 ((a0n : Nat) : Int) (lenI a2)) a1).toNat) ([.int .i64 0] : List AV)))))).set H.next (.rows 1 (splice ((H.push (.rows 1 (pad 1 c_2 ((((H.get a0j).xs.drop 0).take a1.toNat) ++ (List.replicate ((subW .i64 (addW .i64 ((a0n : Nat) : Int) (lenI a2)) a1).toNat) ([.int .i64 0] : List AV)))))).get H.next).xs (0 + a1.toNat) (a2.take ((((a1.toNat + ((List.replicate ((subW .i64 (addW .i64 ((a0n : Nat) : Int) (lenI a2)) a1).toNat) ([.int .i64 0] : List AV)).length) : Nat) : Int).toNat) - a1.toNat))))).get a0j).xs.length) (Q (.hs H.next 0 (a1.toNat + ((List.replicate ((subW .i64 (addW .i64 ((a0n : Nat) : Int) (lenI a2)) a1).toNat) ([.int .i64 0] : List AV)).length)) c_2 1) (((H.push (.rows 1 (pad 1 c_2 ((((H.get a0j).xs.drop 0).take a1.toNat) ++ (List.replicate ((subW .i64 (addW .i64 ((a0n : Nat) : Int) (lenI a2)) a1).toNat) ([.int .i64 0] : List AV)))))).set H.next (.rows 1 (splice ((H.push (.rows 1 (pad 1 c_2 ((((H.get a0j).xs.drop 0).take a1.toNat) ++ (List.replicate ((subW .i64 (addW .i64 ((a0n : Nat) : Int) (lenI a2)) a1).toNat) ([.int .i64 0] : List AV)))))).get H.next).xs (0 + a1.toNat) (a2.take ((((a1.toNat + ((List.replicate ((subW .i64 (addW .i64 ((a0n : Nat) : Int) (lenI a2)) a1).toNat) ([.int .i64 0] : List AV)).length) : Nat) : Int).toNat) - a1.toNat))))).set H.next (.rows 1 (splice (((H.push (.rows 1 (pad 1 c_2 ((((H.get a0j).xs.drop 0).take a1.toNat) ++ (List.replicate ((subW .i64 (addW .i64 ((a0n : Nat) : Int) (lenI a2)) a1).toNat) ([.int .i64 0] : List AV)))))).set H.next (.rows 1 (splice ((H.push (.rows 1 (pad 1 c_2 ((((H.get a0j).xs.drop 0).take a1.toNat) ++ (List.replicate ((subW .i64 (addW .i64 ((a0n : Nat) : Int) (lenI a2)) a1).toNat) ([.int .i64 0] : List AV)))))).get H.next).xs (0 + a1.toNat) (a2.take ((((a1.toNat + ((List.replicate ((subW .i64 (addW .i64 ((a0n : Nat) : Int) (lenI a2)) a1).toNat) ([.int .i64 0] : List AV)).length) : Nat) : Int).toNat) - a1.toNat))))).get H.next).xs (0 + ((addW .i64 a1 (lenI a2)).toNat)) ((((((H.push (.rows 1 (pad 1 c_2 ((((H.get a0j).xs.drop 0).take a1.toNat) ++ (List.replicate ((subW .i64 (addW .i64 ((a0n : Nat) : Int) (lenI a2)) a1).toNat) ([.int .i64 0] : List AV)))))).set H.next (.rows 1 (splice ((H.push (.rows 1 (pad 1 c_2 ((((H.get a0j).xs.drop 0).take a1.toNat) ++ (List.replicate ((subW .i64 (addW .i64 ((a0n : Nat) : Int) (lenI a2)) a1).toNat) ([.int .i64 0] : List AV)))))).get H.next).xs (0 + a1.toNat) (a2.take ((((a1.toNat + ((List.replicate ((subW .i64 (addW .i64 ((a0n : Nat) : Int) (lenI a2)) a1).toNat) ([.int .i64 0] : List AV)).length) : Nat) : Int).toNat) - a1.toNat))))).get a0j).xs.drop (0 + a1.toNat)).take (a0n - a1.toNat)).take ((((a1.toNat + ((List.replicate ((subW .i64 (addW .i64 ((a0n : Nat) : Int) (lenI a2)) a1).toNat) ([.int .i64 0] : List AV)).length) : Nat) : Int).toNat) - ((addW .i64 a1 (lenI a2)).toNat)))))))))))))))))))))))))))))))))))
      (G (leI 0 (addW .i64 ((a0n : Nat) : Int) (lenI a2))) (G (leI (addW .i64 ((a0n : Nat) : Int) (lenI a2)) ((a0c : Nat) : Int)) (G (leI ((a0c : Nat) : Int) ((a0c : Nat) : Int)) (G (leI 0 (addW .i64 a1 (lenI a2))) (G (leI (addW .i64 a1 (lenI a2)) (((addW .i64 ((a0n : Nat) : Int) (lenI a2)).toNat : Nat) : Int)) (G (leI (((addW .i64 ((a0n : Nat) : Int) (lenI a2)).toNat : Nat) : Int) ((a0c : Nat) : Int)) (G (leI ((a0c : Nat) : Int) ((a0c : Nat) : Int)) (G ((H.get a0j).isRows 1) (G (leI 0 (addW .i64 a1 (lenI a2))) (G (leI (addW .i64 a1 (lenI a2)) (((addW .i64 ((a0n : Nat) : Int) (lenI a2)).toNat : Nat) : Int)) (G (leI (((addW .i64 ((a0n : Nat) : Int) (lenI a2)).toNat : Nat) : Int) ((a0c : Nat) : Int)) (G (leI ((a0c : Nat) : Int) ((a0c : Nat) : Int)) (G (leI 0 a1) (G (leI a1 (((addW .i64 ((a0n : Nat) : Int) (lenI a2)).toNat : Nat) : Int)) (G (leI (((addW .i64 ((a0n : Nat) : Int) (lenI a2)).toNat : Nat) : Int) ((a0c : Nat) : Int)) (G (leI ((a0c : Nat) : Int) ((a0c : Nat) : Int)) (G ((H.get a0j).isRows 1) (G (Nat.ble ((0 + ((addW .i64 a1 (lenI a2)).toNat)) + (((((addW .i64 ((a0n : Nat) : Int) (lenI a2)).toNat : Nat) : Int).toNat) - ((addW .i64 a1 (lenI a2)).toNat))) (H.get a0j).xs.length) (G ((H.get a0j).isRows 1) (G (Nat.ble ((0 + a1.toNat) + (((((addW .i64 ((a0n : Nat) : Int) (lenI a2)).toNat : Nat) : Int).toNat) - a1.toNat)) (H.get a0j).xs.length) (G (leI 0 a1) (G (leI a1 (((addW .i64 ((a0n : Nat) : Int) (lenI a2)).toNat : Nat) : Int)) (G (leI (((addW .i64 ((a0n : Nat) : Int) (lenI a2)).toNat : Nat) : Int) ((a0c : Nat) : Int)) (G (leI ((a0c : Nat) : Int) ((a0c : Nat) : Int)) (G (((H.set a0j (.rows 1 (splice (H.get a0j).xs (0 + ((addW .i64 a1 (lenI a2)).toNat)) ((((H.get a0j).xs.drop (0 + a1.toNat)).take (((((addW .i64 ((a0n : Nat) : Int) (lenI a2)).toNat : Nat) : Int).toNat) - a1.toNat)).take (((((addW .i64 ((a0n : Nat) : Int) (lenI a2)).toNat : Nat) : Int).toNat) - ((addW .i64 a1 (lenI a2)).toNat)))))).get a0j).isRows 1) (G (Nat.ble ((0 + a1.toNat) + (((((addW .i64 ((a0n : Nat) : Int) (lenI a2)).toNat : Nat) : Int).toNat) - a1.toNat)) ((H.set a0j (.rows 1 (splice (H.get a0j).xs (0 + ((addW .i64 a1 (lenI a2)).toNat)) ((((H.get a0j).xs.drop (0 + a1.toNat)).take (((((addW .i64 ((a0n : Nat) : Int) (lenI a2)).toNat : Nat) : Int).toNat) - a1.toNat)).take (((((addW .i64 ((a0n : Nat) : Int) (lenI a2)).toNat : Nat) : Int).toNat) - ((addW .i64 a1 (lenI a2)).toNat)))))).get a0j).xs.length) (Q (.hs a0j 0 ((addW .i64 ((a0n : Nat) : Int) (lenI a2)).toNat) a0c 1) ((H.set a0j (.rows 1 (splice (H.get a0j).xs (0 + ((addW .i64 a1 (lenI a2)).toNat)) ((((H.get a0j).xs.drop (0 + a1.toNat)).take (((((addW .i64 ((a0n : Nat) : Int) (lenI a2)).toNat : Nat) : Int).toNat) - a1.toNat)).take (((((addW .i64 ((a0n : Nat) : Int) (lenI a2)).toNat : Nat) : Int).toNat) - ((addW .i64 a1 (lenI a2)).toNat)))))).set a0j (.rows 1 (splice ((H.set a0j (.rows 1 (splice (H.get a0j).xs (0 + ((addW .i64 a1 (lenI a2)).toNat)) ((((H.get a0j).xs.drop (0 + a1.toNat)).take (((((addW .i64 ((a0n : Nat) : Int) (lenI a2)).toNat : Nat) : Int).toNat) - a1.toNat)).take (((((addW .i64 ((a0n : Nat) : Int) (lenI a2)).toNat : Nat) : Int).toNat) - ((addW .i64 a1 (lenI a2)).toNat)))))).get a0j).xs (0 + a1.toNat) (a2.take (((((addW .i64 ((a0n : Nat) : Int) (lenI a2)).toNat : Nat) : Int).toNat) - a1.toNat))))))))))))))))))))))))))))))))))))))
theorem t_eq (a0j : Nat) (a0n : Nat) (a0c : Nat) (a1 : Int) (a2 : List (List AV)) (H : Heap) (Q : AV → Heap → Prop) : aBody E0 C 35 [.hs a0j 0 a0n a0c 1, .int .i64 a1, .sl 0 1 a2] H Q = t a0j a0n a0c a1 a2 H Q := by kernel_rfl
theorem call {a0j : Nat} {a0n : Nat} {a0c : Nat} {a1 : Int} {a2 : List (List AV)} {H : Heap} {Q : AV → Heap → Prop} (h : t a0j a0n a0c a1 a2 H Q) : C 35 [.hs a0j 0 a0n a0c 1, .int .i64 a1, .sl 0 1 a2] H Q := Call_intro (E := E0) (by rw [t_eq]; exact h)
end F35h
/-! ### slices.Insert[[]int,int]: function 35n -/
namespace F35n
def t (a1 : Int) (a2 : List (List AV)) (H : Heap) (Q : AV → Heap → Prop) : Prop :=
  G (eqI a1 0) (cond (eqI (lenI a2) 0)
  (Q (.nilsl) H)
  (cond (eqI a1 0)
    (G (room [] a2 8) (Q (.sl 1 1 a2) H))
    (cond (ltI 0 (addW .i64 0 (lenI a2)))
      (G (eqI a1 0) (False))
      (G (eqI (addW .i64 0 (lenI a2)) 0) (G (eqI (addW .i64 a1 (lenI a2)) 0) (G (eqI (addW .i64 a1 (lenI a2)) 0) (G (eqI a1 0) (G (eqI a1 0) (Q (.nilsl) H)))))))))
theorem t_eq (a1 : Int) (a2 : List (List AV)) (H : Heap) (Q : AV → Heap → Prop) : aBody E0 C 35 [.nilsl, .int .i64 a1, .sl 0 1 a2] H Q = t a1 a2 H Q := by kernel_rfl
theorem call {a1 : Int} {a2 : List (List AV)} {H : Heap} {Q : AV → Heap → Prop} (h : t a1 a2 H Q) : C 35 [.nilsl, .int .i64 a1, .sl 0 1 a2] H Q := Call_intro (E := E0) (by rw [t_eq]; exact h)
end F35n
/-! ### slices.stableCmpFunc[int]: function 37h -/
namespace F37h
def K0 (Q : AV → Heap → Prop) : Ex → St → Prop := (contK E0 C (E0.L 37) [.block 0 0, .seq (codeAt (bodyOf E0 37) [1, 1, 1]) 1] (finK E0 37 Q))
def L0 (a0j : Nat) (a0n : Nat) (a0c : Nat) (a1 : Int) (a2q0 : List AV) (Q : AV → Heap → Prop) (x7a : Int) (x8b : Int) (Hh : Heap) : Prop := ALoop (fun K s => awp E0 C (E0.L 37) (codeAt (bodyOf E0 37) [1, 1, 0, 0, 0]) 1 s K) (clean [(0, 0), (1, 0), (2, 0), (6, 0), (7, 0), (8, 0)] 0) (K0 Q) ⟨stt 63 [(0, .hs a0j 0 a0n a0c 1), (1, .int .i64 a1), (2, .fn 33 [.rp a2q0 0]), (6, .int .i64 20), (7, .int .i64 x7a), (8, .int .i64 x8b)], [], Hh⟩
def K1 (Q : AV → Heap → Prop) : Ex → St → Prop := (contK E0 C (E0.L 37) [.block 2 0] (finK E0 37 Q))
def L1 (a0j : Nat) (a0n : Nat) (a0c : Nat) (a1 : Int) (a2q0 : List AV) (Q : AV → Heap → Prop) (x6blockSize : Int) (Hh : Heap) : Prop := ALoop (fun K s => awp E0 C (E0.L 37) (codeAt (bodyOf E0 37) [1, 1, 1, 1, 0, 0]) 2 s K) (clean [(0, 0), (1, 0), (2, 0), (6, 0)] 0) (K1 Q) ⟨stt 63 [(0, .hs a0j 0 a0n a0c 1), (1, .int .i64 a1), (2, .fn 33 [.rp a2q0 0]), (6, .int .i64 x6blockSize)], [], Hh⟩
def K2 (Q : AV → Heap → Prop) : Ex → St → Prop := (contK E0 C (E0.L 37) [.block 4 0, .seq (codeAt (bodyOf E0 37) [1, 1, 1, 1, 0, 0, 1, 0, 1, 1]) 3, .block 3 0, .loop (codeAt (bodyOf E0 37) [1, 1, 1, 1, 0, 0]) 2 [(0, 0), (1, 0), (2, 0), (6, 0)] 0, .block 2 0] (finK E0 37 Q))
def L2 (a0j : Nat) (a0n : Nat) (a0c : Nat) (a1 : Int) (a2q0 : List AV) (Q : AV → Heap → Prop) (x6blockSize : Int) (x7a : Int) (x8b : Int) (Hh : Heap) : Prop := ALoop (fun K s => awp E0 C (E0.L 37) (codeAt (bodyOf E0 37) [1, 1, 1, 1, 0, 0, 1, 0, 1, 0, 0, 0]) 3 s K) (clean [(0, 0), (1, 0), (2, 0), (6, 0), (7, 0), (8, 0)] 0) (K2 Q) ⟨stt 63 [(0, .hs a0j 0 a0n a0c 1), (1, .int .i64 a1), (2, .fn 33 [.rp a2q0 0]), (6, .int .i64 x6blockSize), (7, .int .i64 x7a), (8, .int .i64 x8b)], [], Hh⟩
def r0 (a0j : Nat) (a0n : Nat) (a0c : Nat) (a1 : Int) (a2q0 : List AV) (Q : AV → Heap → Prop) (x7a : Int) (x8b : Int) (Hh : Heap) : Prop :=
  cond (leI x8b a1)
  (C 41 [.hs a0j 0 a0n a0c 1, .int .i64 x7a, .int .i64 x8b, .fn 33 [.rp a2q0 0]] Hh fun v_1 H_2 =>
    G ((v_1).isTup && Nat.beq (v_1).tupVs.length 0) (L0 a0j a0n a0c a1 a2q0 Q x8b (addW .i64 x8b 20) H_2))
  (C 41 [.hs a0j 0 a0n a0c 1, .int .i64 x7a, .int .i64 a1, .fn 33 [.rp a2q0 0]] Hh fun v_3 H_4 =>
    G ((v_3).isTup && Nat.beq (v_3).tupVs.length 0) (L1 a0j a0n a0c a1 a2q0 Q 20 H_4))
theorem r0_eq (a0j : Nat) (a0n : Nat) (a0c : Nat) (a1 : Int) (a2q0 : List AV) (Q : AV → Heap → Prop) (x7a : Int) (x8b : Int) (Hh : Heap) : (fun K s => awp E0 C (E0.L 37) (codeAt (bodyOf E0 37) [1, 1, 0, 0, 0]) 1 s K) (fun e s' => match e with | .normal => ALoop (fun K s => awp E0 C (E0.L 37) (codeAt (bodyOf E0 37) [1, 1, 0, 0, 0]) 1 s K) (clean [(0, 0), (1, 0), (2, 0), (6, 0), (7, 0), (8, 0)] 0) (K0 Q) ((clean [(0, 0), (1, 0), (2, 0), (6, 0), (7, 0), (8, 0)] 0) s') | e => K0 Q e s') ⟨stt 63 [(0, .hs a0j 0 a0n a0c 1), (1, .int .i64 a1), (2, .fn 33 [.rp a2q0 0]), (6, .int .i64 20), (7, .int .i64 x7a), (8, .int .i64 x8b)], [], Hh⟩ = r0 a0j a0n a0c a1 a2q0 Q x7a x8b Hh := by kernel_rfl
theorem L0_step {a0j : Nat} {a0n : Nat} {a0c : Nat} {a1 : Int} {a2q0 : List AV} {Q : AV → Heap → Prop} {x7a : Int} {x8b : Int} {Hh : Heap} (h : r0 a0j a0n a0c a1 a2q0 Q x7a x8b Hh) : L0 a0j a0n a0c a1 a2q0 Q x7a x8b Hh := ALoop_unfold ((r0_eq a0j a0n a0c a1 a2q0 Q x7a x8b Hh).mpr h)
def r1 (a0j : Nat) (a0n : Nat) (a0c : Nat) (a1 : Int) (a2q0 : List AV) (Q : AV → Heap → Prop) (x6blockSize : Int) (Hh : Heap) : Prop :=
  cond (ltI x6blockSize a1)
  (L2 a0j a0n a0c a1 a2q0 Q x6blockSize 0 (mulW .i64 2 x6blockSize) Hh)
  (Q (.tup []) Hh)
theorem r1_eq (a0j : Nat) (a0n : Nat) (a0c : Nat) (a1 : Int) (a2q0 : List AV) (Q : AV → Heap → Prop) (x6blockSize : Int) (Hh : Heap) : (fun K s => awp E0 C (E0.L 37) (codeAt (bodyOf E0 37) [1, 1, 1, 1, 0, 0]) 2 s K) (fun e s' => match e with | .normal => ALoop (fun K s => awp E0 C (E0.L 37) (codeAt (bodyOf E0 37) [1, 1, 1, 1, 0, 0]) 2 s K) (clean [(0, 0), (1, 0), (2, 0), (6, 0)] 0) (K1 Q) ((clean [(0, 0), (1, 0), (2, 0), (6, 0)] 0) s') | e => K1 Q e s') ⟨stt 63 [(0, .hs a0j 0 a0n a0c 1), (1, .int .i64 a1), (2, .fn 33 [.rp a2q0 0]), (6, .int .i64 x6blockSize)], [], Hh⟩ = r1 a0j a0n a0c a1 a2q0 Q x6blockSize Hh := by kernel_rfl
theorem L1_step {a0j : Nat} {a0n : Nat} {a0c : Nat} {a1 : Int} {a2q0 : List AV} {Q : AV → Heap → Prop} {x6blockSize : Int} {Hh : Heap} (h : r1 a0j a0n a0c a1 a2q0 Q x6blockSize Hh) : L1 a0j a0n a0c a1 a2q0 Q x6blockSize Hh := ALoop_unfold ((r1_eq a0j a0n a0c a1 a2q0 Q x6blockSize Hh).mpr h)
def r2 (a0j : Nat) (a0n : Nat) (a0c : Nat) (a1 : Int) (a2q0 : List AV) (Q : AV → Heap → Prop) (x6blockSize : Int) (x7a : Int) (x8b : Int) (Hh : Heap) : Prop :=
  cond (leI x8b a1)
  (C 42 [.hs a0j 0 a0n a0c 1, .int .i64 x7a, .int .i64 (addW .i64 x7a x6blockSize), .int .i64 x8b, .fn 33 [.rp a2q0 0]] Hh fun v_5 H_6 =>
    G ((v_5).isTup && Nat.beq (v_5).tupVs.length 0) (L2 a0j a0n a0c a1 a2q0 Q x6blockSize x8b (addW .i64 x8b (mulW .i64 2 x6blockSize)) H_6))
  (cond (ltI (addW .i64 x7a x6blockSize) a1)
    (C 42 [.hs a0j 0 a0n a0c 1, .int .i64 x7a, .int .i64 (addW .i64 x7a x6blockSize), .int .i64 a1, .fn 33 [.rp a2q0 0]] Hh fun v_7 H_8 =>
      G ((v_7).isTup && Nat.beq (v_7).tupVs.length 0) (L1 a0j a0n a0c a1 a2q0 Q (mulW .i64 x6blockSize 2) H_8))
    (L1 a0j a0n a0c a1 a2q0 Q (mulW .i64 x6blockSize 2) Hh))
theorem r2_eq (a0j : Nat) (a0n : Nat) (a0c : Nat) (a1 : Int) (a2q0 : List AV) (Q : AV → Heap → Prop) (x6blockSize : Int) (x7a : Int) (x8b : Int) (Hh : Heap) : (fun K s => awp E0 C (E0.L 37) (codeAt (bodyOf E0 37) [1, 1, 1, 1, 0, 0, 1, 0, 1, 0, 0, 0]) 3 s K) (fun e s' => match e with | .normal => ALoop (fun K s => awp E0 C (E0.L 37) (codeAt (bodyOf E0 37) [1, 1, 1, 1, 0, 0, 1, 0, 1, 0, 0, 0]) 3 s K) (clean [(0, 0), (1, 0), (2, 0), (6, 0), (7, 0), (8, 0)] 0) (K2 Q) ((clean [(0, 0), (1, 0), (2, 0), (6, 0), (7, 0), (8, 0)] 0) s') | e => K2 Q e s') ⟨stt 63 [(0, .hs a0j 0 a0n a0c 1), (1, .int .i64 a1), (2, .fn 33 [.rp a2q0 0]), (6, .int .i64 x6blockSize), (7, .int .i64 x7a), (8, .int .i64 x8b)], [], Hh⟩ = r2 a0j a0n a0c a1 a2q0 Q x6blockSize x7a x8b Hh := by kernel_rfl
theorem L2_step {a0j : Nat} {a0n : Nat} {a0c : Nat} {a1 : Int} {a2q0 : List AV} {Q : AV → Heap → Prop} {x6blockSize : Int} {x7a : Int} {x8b : Int} {Hh : Heap} (h : r2 a0j a0n a0c a1 a2q0 Q x6blockSize x7a x8b Hh) : L2 a0j a0n a0c a1 a2q0 Q x6blockSize x7a x8b Hh := ALoop_unfold ((r2_eq a0j a0n a0c a1 a2q0 Q x6blockSize x7a x8b Hh).mpr h)
def t (a0j : Nat) (a0n : Nat) (a0c : Nat) (a1 : Int) (a2q0 : List AV) (H : Heap) (Q : AV → Heap → Prop) : Prop :=
  L0 a0j a0n a0c a1 a2q0 Q 0 20 H
theorem t_eq (a0j : Nat) (a0n : Nat) (a0c : Nat) (a1 : Int) (a2q0 : List AV) (H : Heap) (Q : AV → Heap → Prop) : aBody E0 C 37 [.hs a0j 0 a0n a0c 1, .int .i64 a1, .fn 33 [.rp a2q0 0]] H Q = t a0j a0n a0c a1 a2q0 H Q := by kernel_rfl
theorem call {a0j : Nat} {a0n : Nat} {a0c : Nat} {a1 : Int} {a2q0 : List AV} {H : Heap} {Q : AV → Heap → Prop} (h : t a0j a0n a0c a1 a2q0 H Q) : C 37 [.hs a0j 0 a0n a0c 1, .int .i64 a1, .fn 33 [.rp a2q0 0]] H Q := Call_intro (E := E0) (by rw [t_eq]; exact h)
end F37h
/-! ### slices.stableCmpFunc[int]: function 37n -/
namespace F37n
def K0 (Q : AV → Heap → Prop) : Ex → St → Prop := (contK E0 C (E0.L 37) [.block 0 0, .seq (codeAt (bodyOf E0 37) [1, 1, 1]) 1] (finK E0 37 Q))
def L0 (a1 : Int) (a2q0 : List AV) (Q : AV → Heap → Prop) (x7a : Int) (x8b : Int) (Hh : Heap) : Prop := ALoop (fun K s => awp E0 C (E0.L 37) (codeAt (bodyOf E0 37) [1, 1, 0, 0, 0]) 1 s K) (clean [(0, 0), (1, 0), (2, 0), (6, 0), (7, 0), (8, 0)] 0) (K0 Q) ⟨stt 63 [(0, .nilsl), (1, .int .i64 a1), (2, .fn 33 [.rp a2q0 0]), (6, .int .i64 20), (7, .int .i64 x7a), (8, .int .i64 x8b)], [], Hh⟩
def K1 (Q : AV → Heap → Prop) : Ex → St → Prop := (contK E0 C (E0.L 37) [.block 2 0] (finK E0 37 Q))
def L1 (a1 : Int) (a2q0 : List AV) (Q : AV → Heap → Prop) (x6blockSize : Int) (Hh : Heap) : Prop := ALoop (fun K s => awp E0 C (E0.L 37) (codeAt (bodyOf E0 37) [1, 1, 1, 1, 0, 0]) 2 s K) (clean [(0, 0), (1, 0), (2, 0), (6, 0)] 0) (K1 Q) ⟨stt 63 [(0, .nilsl), (1, .int .i64 a1), (2, .fn 33 [.rp a2q0 0]), (6, .int .i64 x6blockSize)], [], Hh⟩
def K2 (Q : AV → Heap → Prop) : Ex → St → Prop := (contK E0 C (E0.L 37) [.block 4 0, .seq (codeAt (bodyOf E0 37) [1, 1, 1, 1, 0, 0, 1, 0, 1, 1]) 3, .block 3 0, .loop (codeAt (bodyOf E0 37) [1, 1, 1, 1, 0, 0]) 2 [(0, 0), (1, 0), (2, 0), (6, 0)] 0, .block 2 0] (finK E0 37 Q))
def L2 (a1 : Int) (a2q0 : List AV) (Q : AV → Heap → Prop) (x6blockSize : Int) (x7a : Int) (x8b : Int) (Hh : Heap) : Prop := ALoop (fun K s => awp E0 C (E0.L 37) (codeAt (bodyOf E0 37) [1, 1, 1, 1, 0, 0, 1, 0, 1, 0, 0, 0]) 3 s K) (clean [(0, 0), (1, 0), (2, 0), (6, 0), (7, 0), (8, 0)] 0) (K2 Q) ⟨stt 63 [(0, .nilsl), (1, .int .i64 a1), (2, .fn 33 [.rp a2q0 0]), (6, .int .i64 x6blockSize), (7, .int .i64 x7a), (8, .int .i64 x8b)], [], Hh⟩
def r0 (a1 : Int) (a2q0 : List AV) (Q : AV → Heap → Prop) (x7a : Int) (x8b : Int) (Hh : Heap) : Prop :=
  cond (leI x8b a1)
  (C 41 [.nilsl, .int .i64 x7a, .int .i64 x8b, .fn 33 [.rp a2q0 0]] Hh fun v_1 H_2 =>
    G ((v_1).isTup && Nat.beq (v_1).tupVs.length 0) (L0 a1 a2q0 Q x8b (addW .i64 x8b 20) H_2))
  (C 41 [.nilsl, .int .i64 x7a, .int .i64 a1, .fn 33 [.rp a2q0 0]] Hh fun v_3 H_4 =>
    G ((v_3).isTup && Nat.beq (v_3).tupVs.length 0) (L1 a1 a2q0 Q 20 H_4))
theorem r0_eq (a1 : Int) (a2q0 : List AV) (Q : AV → Heap → Prop) (x7a : Int) (x8b : Int) (Hh : Heap) : (fun K s => awp E0 C (E0.L 37) (codeAt (bodyOf E0 37) [1, 1, 0, 0, 0]) 1 s K) (fun e s' => match e with | .normal => ALoop (fun K s => awp E0 C (E0.L 37) (codeAt (bodyOf E0 37) [1, 1, 0, 0, 0]) 1 s K) (clean [(0, 0), (1, 0), (2, 0), (6, 0), (7, 0), (8, 0)] 0) (K0 Q) ((clean [(0, 0), (1, 0), (2, 0), (6, 0), (7, 0), (8, 0)] 0) s') | e => K0 Q e s') ⟨stt 63 [(0, .nilsl), (1, .int .i64 a1), (2, .fn 33 [.rp a2q0 0]), (6, .int .i64 20), (7, .int .i64 x7a), (8, .int .i64 x8b)], [], Hh⟩ = r0 a1 a2q0 Q x7a x8b Hh := by kernel_rfl
theorem L0_step {a1 : Int} {a2q0 : List AV} {Q : AV → Heap → Prop} {x7a : Int} {x8b : Int} {Hh : Heap} (h : r0 a1 a2q0 Q x7a x8b Hh) : L0 a1 a2q0 Q x7a x8b Hh := ALoop_unfold ((r0_eq a1 a2q0 Q x7a x8b Hh).mpr h)
def r1 (a1 : Int) (a2q0 : List AV) (Q : AV → Heap → Prop) (x6blockSize : Int) (Hh : Heap) : Prop :=
  cond (ltI x6blockSize a1)
  (L2 a1 a2q0 Q x6blockSize 0 (mulW .i64 2 x6blockSize) Hh)
  (Q (.tup []) Hh)
theorem r1_eq (a1 : Int) (a2q0 : List AV) (Q : AV → Heap → Prop) (x6blockSize : Int) (Hh : Heap) : (fun K s => awp E0 C (E0.L 37) (codeAt (bodyOf E0 37) [1, 1, 1, 1, 0, 0]) 2 s K) (fun e s' => match e with | .normal => ALoop (fun K s => awp E0 C (E0.L 37) (codeAt (bodyOf E0 37) [1, 1, 1, 1, 0, 0]) 2 s K) (clean [(0, 0), (1, 0), (2, 0), (6, 0)] 0) (K1 Q) ((clean [(0, 0), (1, 0), (2, 0), (6, 0)] 0) s') | e => K1 Q e s') ⟨stt 63 [(0, .nilsl), (1, .int .i64 a1), (2, .fn 33 [.rp a2q0 0]), (6, .int .i64 x6blockSize)], [], Hh⟩ = r1 a1 a2q0 Q x6blockSize Hh := by kernel_rfl
theorem L1_step {a1 : Int} {a2q0 : List AV} {Q : AV → Heap → Prop} {x6blockSize : Int} {Hh : Heap} (h : r1 a1 a2q0 Q x6blockSize Hh) : L1 a1 a2q0 Q x6blockSize Hh := ALoop_unfold ((r1_eq a1 a2q0 Q x6blockSize Hh).mpr h)
def r2 (a1 : Int) (a2q0 : List AV) (Q : AV → Heap → Prop) (x6blockSize : Int) (x7a : Int) (x8b : Int) (Hh : Heap) : Prop :=
  cond (leI x8b a1)
  (C 42 [.nilsl, .int .i64 x7a, .int .i64 (addW .i64 x7a x6blockSize), .int .i64 x8b, .fn 33 [.rp a2q0 0]] Hh fun v_5 H_6 =>
    G ((v_5).isTup && Nat.beq (v_5).tupVs.length 0) (L2 a1 a2q0 Q x6blockSize x8b (addW .i64 x8b (mulW .i64 2 x6blockSize)) H_6))
  (cond (ltI (addW .i64 x7a x6blockSize) a1)
    (C 42 [.nilsl, .int .i64 x7a, .int .i64 (addW .i64 x7a x6blockSize), .int .i64 a1, .fn 33 [.rp a2q0 0]] Hh fun v_7 H_8 =>
      G ((v_7).isTup && Nat.beq (v_7).tupVs.length 0) (L1 a1 a2q0 Q (mulW .i64 x6blockSize 2) H_8))
    (L1 a1 a2q0 Q (mulW .i64 x6blockSize 2) Hh))
theorem r2_eq (a1 : Int) (a2q0 : List AV) (Q : AV → Heap → Prop) (x6blockSize : Int) (x7a : Int) (x8b : Int) (Hh : Heap) : (fun K s => awp E0 C (E0.L 37) (codeAt (bodyOf E0 37) [1, 1, 1, 1, 0, 0, 1, 0, 1, 0, 0, 0]) 3 s K) (fun e s' => match e with | .normal => ALoop (fun K s => awp E0 C (E0.L 37) (codeAt (bodyOf E0 37) [1, 1, 1, 1, 0, 0, 1, 0, 1, 0, 0, 0]) 3 s K) (clean [(0, 0), (1, 0), (2, 0), (6, 0), (7, 0), (8, 0)] 0) (K2 Q) ((clean [(0, 0), (1, 0), (2, 0), (6, 0), (7, 0), (8, 0)] 0) s') | e => K2 Q e s') ⟨stt 63 [(0, .nilsl), (1, .int .i64 a1), (2, .fn 33 [.rp a2q0 0]), (6, .int .i64 x6blockSize), (7, .int .i64 x7a), (8, .int .i64 x8b)], [], Hh⟩ = r2 a1 a2q0 Q x6blockSize x7a x8b Hh := by kernel_rfl
theorem L2_step {a1 : Int} {a2q0 : List AV} {Q : AV → Heap → Prop} {x6blockSize : Int} {x7a : Int} {x8b : Int} {Hh : Heap} (h : r2 a1 a2q0 Q x6blockSize x7a x8b Hh) : L2 a1 a2q0 Q x6blockSize x7a x8b Hh := ALoop_unfold ((r2_eq a1 a2q0 Q x6blockSize x7a x8b Hh).mpr h)
def t (a1 : Int) (a2q0 : List AV) (H : Heap) (Q : AV → Heap → Prop) : Prop :=
  L0 a1 a2q0 Q 0 20 H
theorem t_eq (a1 : Int) (a2q0 : List AV) (H : Heap) (Q : AV → Heap → Prop) : aBody E0 C 37 [.nilsl, .int .i64 a1, .fn 33 [.rp a2q0 0]] H Q = t a1 a2q0 H Q := by kernel_rfl
theorem call {a1 : Int} {a2q0 : List AV} {H : Heap} {Q : AV → Heap → Prop} (h : t a1 a2q0 H Q) : C 37 [.nilsl, .int .i64 a1, .fn 33 [.rp a2q0 0]] H Q := Call_intro (E := E0) (by rw [t_eq]; exact h)
end F37n
/-! ### slices.insertionSortCmpFunc[int]: function 41h -/
namespace F41h
def K0 (Q : AV → Heap → Prop) : Ex → St → Prop := (contK E0 C (E0.L 41) [.block 0 0] (finK E0 41 Q))
def L0 (a0j : Nat) (a0n : Nat) (a0c : Nat) (a1 : Int) (a2 : Int) (a3q0 : List AV) (Q : AV → Heap → Prop) (x8i : Int) (Hh : Heap) : Prop := ALoop (fun K s => awp E0 C (E0.L 41) (codeAt (bodyOf E0 41) [1, 0, 0]) 1 s K) (clean [(0, 0), (1, 0), (2, 0), (3, 0), (8, 0)] 0) (K0 Q) ⟨stt 53 [(0, .hs a0j 0 a0n a0c 1), (1, .int .i64 a1), (2, .int .i64 a2), (3, .fn 33 [.rp a3q0 0]), (8, .int .i64 x8i)], [], Hh⟩
def K1 (Q : AV → Heap → Prop) : Ex → St → Prop := (contK E0 C (E0.L 41) [.block 2 0, .block 1 0, .seq (codeAt (bodyOf E0 41) [1, 0, 0, 1, 1]) 2, .loop (codeAt (bodyOf E0 41) [1, 0, 0]) 1 [(0, 0), (1, 0), (2, 0), (3, 0), (8, 0)] 0, .block 0 0] (finK E0 41 Q))
def L1 (a0j : Nat) (a0n : Nat) (a0c : Nat) (a1 : Int) (a2 : Int) (a3q0 : List AV) (Q : AV → Heap → Prop) (x8i : Int) (x9j : Int) (Hh : Heap) : Prop := ALoop (fun K s => awp E0 C (E0.L 41) (codeAt (bodyOf E0 41) [1, 0, 0, 1, 0, 0, 1, 0, 0]) 2 s K) (clean [(0, 0), (1, 0), (2, 0), (3, 0), (8, 0), (9, 0)] 0) (K1 Q) ⟨stt 53 [(0, .hs a0j 0 a0n a0c 1), (1, .int .i64 a1), (2, .int .i64 a2), (3, .fn 33 [.rp a3q0 0]), (8, .int .i64 x8i), (9, .int .i64 x9j)], [], Hh⟩
def r0 (a0j : Nat) (a0n : Nat) (a0c : Nat) (a1 : Int) (a2 : Int) (a3q0 : List AV) (Q : AV → Heap → Prop) (x8i : Int) (Hh : Heap) : Prop :=
  cond (ltI x8i a2)
  (L1 a0j a0n a0c a1 a2 a3q0 Q x8i x8i Hh)
  (Q (.tup []) Hh)
theorem r0_eq (a0j : Nat) (a0n : Nat) (a0c : Nat) (a1 : Int) (a2 : Int) (a3q0 : List AV) (Q : AV → Heap → Prop) (x8i : Int) (Hh : Heap) : (fun K s => awp E0 C (E0.L 41) (codeAt (bodyOf E0 41) [1, 0, 0]) 1 s K) (fun e s' => match e with | .normal => ALoop (fun K s => awp E0 C (E0.L 41) (codeAt (bodyOf E0 41) [1, 0, 0]) 1 s K) (clean [(0, 0), (1, 0), (2, 0), (3, 0), (8, 0)] 0) (K0 Q) ((clean [(0, 0), (1, 0), (2, 0), (3, 0), (8, 0)] 0) s') | e => K0 Q e s') ⟨stt 53 [(0, .hs a0j 0 a0n a0c 1), (1, .int .i64 a1), (2, .int .i64 a2), (3, .fn 33 [.rp a3q0 0]), (8, .int .i64 x8i)], [], Hh⟩ = r0 a0j a0n a0c a1 a2 a3q0 Q x8i Hh := by kernel_rfl
theorem L0_step {a0j : Nat} {a0n : Nat} {a0c : Nat} {a1 : Int} {a2 : Int} {a3q0 : List AV} {Q : AV → Heap → Prop} {x8i : Int} {Hh : Heap} (h : r0 a0j a0n a0c a1 a2 a3q0 Q x8i Hh) : L0 a0j a0n a0c a1 a2 a3q0 Q x8i Hh := ALoop_unfold ((r0_eq a0j a0n a0c a1 a2 a3q0 Q x8i Hh).mpr h)
def r1 (a0j : Nat) (a0n : Nat) (a0c : Nat) (a1 : Int) (a2 : Int) (a3q0 : List AV) (Q : AV → Heap → Prop) (x8i : Int) (x9j : Int) (Hh : Heap) : Prop :=
  cond (ltI a1 x9j)
  (G (leI 0 x9j) (G (ltI x9j ((a0n : Nat) : Int)) (G ((Hh.get a0j).isRows 1) (G ((ce ((Hh.get a0j).xs.getD (0 + x9j.toNat) []) 0).isInt .i64) (G (leI 0 (subW .i64 x9j 1)) (G (ltI (subW .i64 x9j 1) ((a0n : Nat) : Int)) (G ((Hh.get a0j).isRows 1) (G ((ce ((Hh.get a0j).xs.getD (0 + ((subW .i64 x9j 1).toNat)) []) 0).isInt .i64) (C 33 [.int .i64 ((ce ((Hh.get a0j).xs.getD (0 + x9j.toNat) []) 0).toInt), .int .i64 ((ce ((Hh.get a0j).xs.getD (0 + ((subW .i64 x9j 1).toNat)) []) 0).toInt), .rp a3q0 0] Hh.none fun v_1 H_2 =>
    G ((v_1).isInt .i64) (cond (ltI ((v_1).toInt) 0)
      (G (leI 0 (subW .i64 x9j 1)) (G (ltI (subW .i64 x9j 1) ((a0n : Nat) : Int)) (G (((Hh.past H_2).get a0j).isRows 1) (G ((ce (((Hh.past H_2).get a0j).xs.getD (0 + ((subW .i64 x9j 1).toNat)) []) 0).isInt .i64) (G (leI 0 x9j) (G (ltI x9j ((a0n : Nat) : Int)) (G (((Hh.past H_2).get a0j).isRows 1) (G ((ce (((Hh.past H_2).get a0j).xs.getD (0 + x9j.toNat) []) 0).isInt .i64) (G (leI 0 x9j) (G (ltI x9j ((a0n : Nat) : Int)) (G (((Hh.past H_2).get a0j).isRows 1) (G (Nat.blt (0 + x9j.toNat) ((Hh.past H_2).get a0j).xs.length) (G (leI 0 (subW .i64 x9j 1)) (G (ltI (subW .i64 x9j 1) ((a0n : Nat) : Int)) (G ((((Hh.past H_2).set a0j (.rows 1 (((Hh.past H_2).get a0j).xs.set (0 + x9j.toNat) ((((Hh.past H_2).get a0j).xs.getD (0 + x9j.toNat) []).set 0 (.int .i64 ((ce (((Hh.past H_2).get a0j).xs.getD (0 + ((subW .i64 x9j 1).toNat)) []) 0).toInt)))))).get a0j).isRows 1) (G (Nat.blt (0 + ((subW .i64 x9j 1).toNat)) (((Hh.past H_2).set a0j (.rows 1 (((Hh.past H_2).get a0j).xs.set (0 + x9j.toNat) ((((Hh.past H_2).get a0j).xs.getD (0 + x9j.toNat) []).set 0 (.int .i64 ((ce (((Hh.past H_2).get a0j).xs.getD (0 + ((subW .i64 x9j 1).toNat)) []) 0).toInt)))))).get a0j).xs.length) (L1 a0j a0n a0c a1 a2 a3q0 Q x8i (subW .i64 x9j 1) (((Hh.past H_2).set a0j (.rows 1 (((Hh.past H_2).get a0j).xs.set (0 + x9j.toNat) ((((Hh.past H_2).get a0j).xs.getD (0 + x9j.toNat) []).set 0 (.int .i64 ((ce (((Hh.past H_2).get a0j).xs.getD (0 + ((subW .i64 x9j 1).toNat)) []) 0).toInt)))))).set a0j (.rows 1 ((((Hh.past H_2).set a0j (.rows 1 (((Hh.past H_2).get a0j).xs.set (0 + x9j.toNat) ((((Hh.past H_2).get a0j).xs.getD (0 + x9j.toNat) []).set 0 (.int .i64 ((ce (((Hh.past H_2).get a0j).xs.getD (0 + ((subW .i64 x9j 1).toNat)) []) 0).toInt)))))).get a0j).xs.set (0 + ((subW .i64 x9j 1).toNat)) (((((Hh.past H_2).set a0j (.rows 1 (((Hh.past H_2).get a0j).xs.set (0 + x9j.toNat) ((((Hh.past H_2).get a0j).xs.getD (0 + x9j.toNat) []).set 0 (.int .i64 ((ce (((Hh.past H_2).get a0j).xs.getD (0 + ((subW .i64 x9j 1).toNat)) []) 0).toInt)))))).get a0j).xs.getD (0 + ((subW .i64 x9j 1).toNat)) []).set 0 (.int .i64 ((ce (((Hh.past H_2).get a0j).xs.getD (0 + x9j.toNat) []) 0).toInt)))))))))))))))))))))))
      (L0 a0j a0n a0c a1 a2 a3q0 Q (addW .i64 x8i 1) (Hh.past H_2))))))))))))
  (L0 a0j a0n a0c a1 a2 a3q0 Q (addW .i64 x8i 1) Hh)
theorem r1_eq (a0j : Nat) (a0n : Nat) (a0c : Nat) (a1 : Int) (a2 : Int) (a3q0 : List AV) (Q : AV → Heap → Prop) (x8i : Int) (x9j : Int) (Hh : Heap) : (fun K s => awp E0 C (E0.L 41) (codeAt (bodyOf E0 41) [1, 0, 0, 1, 0, 0, 1, 0, 0]) 2 s K) (fun e s' => match e with | .normal => ALoop (fun K s => awp E0 C (E0.L 41) (codeAt (bodyOf E0 41) [1, 0, 0, 1, 0, 0, 1, 0, 0]) 2 s K) (clean [(0, 0), (1, 0), (2, 0), (3, 0), (8, 0), (9, 0)] 0) (K1 Q) ((clean [(0, 0), (1, 0), (2, 0), (3, 0), (8, 0), (9, 0)] 0) s') | e => K1 Q e s') ⟨stt 53 [(0, .hs a0j 0 a0n a0c 1), (1, .int .i64 a1), (2, .int .i64 a2), (3, .fn 33 [.rp a3q0 0]), (8, .int .i64 x8i), (9, .int .i64 x9j)], [], Hh⟩ = r1 a0j a0n a0c a1 a2 a3q0 Q x8i x9j Hh := by kernel_rfl
theorem L1_step {a0j : Nat} {a0n : Nat} {a0c : Nat} {a1 : Int} {a2 : Int} {a3q0 : List AV} {Q : AV → Heap → Prop} {x8i : Int} {x9j : Int} {Hh : Heap} (h : r1 a0j a0n a0c a1 a2 a3q0 Q x8i x9j Hh) : L1 a0j a0n a0c a1 a2 a3q0 Q x8i x9j Hh := ALoop_unfold ((r1_eq a0j a0n a0c a1 a2 a3q0 Q x8i x9j Hh).mpr h)
def t (a0j : Nat) (a0n : Nat) (a0c : Nat) (a1 : Int) (a2 : Int) (a3q0 : List AV) (H : Heap) (Q : AV → Heap → Prop) : Prop :=
  L0 a0j a0n a0c a1 a2 a3q0 Q (addW .i64 a1 1) H
theorem t_eq (a0j : Nat) (a0n : Nat) (a0c : Nat) (a1 : Int) (a2 : Int) (a3q0 : List AV) (H : Heap) (Q : AV → Heap → Prop) : aBody E0 C 41 [.hs a0j 0 a0n a0c 1, .int .i64 a1, .int .i64 a2, .fn 33 [.rp a3q0 0]] H Q = t a0j a0n a0c a1 a2 a3q0 H Q := by kernel_rfl
theorem call {a0j : Nat} {a0n : Nat} {a0c : Nat} {a1 : Int} {a2 : Int} {a3q0 : List AV} {H : Heap} {Q : AV → Heap → Prop} (h : t a0j a0n a0c a1 a2 a3q0 H Q) : C 41 [.hs a0j 0 a0n a0c 1, .int .i64 a1, .int .i64 a2, .fn 33 [.rp a3q0 0]] H Q := Call_intro (E := E0) (by rw [t_eq]; exact h)
end F41h
/-! ### slices.insertionSortCmpFunc[int]: function 41n -/
namespace F41n
def K0 (Q : AV → Heap → Prop) : Ex → St → Prop := (contK E0 C (E0.L 41) [.block 0 0] (finK E0 41 Q))
def L0 (a1 : Int) (a2 : Int) (a3q0 : List AV) (Q : AV → Heap → Prop) (x8i : Int) (Hh : Heap) : Prop := ALoop (fun K s => awp E0 C (E0.L 41) (codeAt (bodyOf E0 41) [1, 0, 0]) 1 s K) (clean [(0, 0), (1, 0), (2, 0), (3, 0), (8, 0)] 0) (K0 Q) ⟨stt 53 [(0, .nilsl), (1, .int .i64 a1), (2, .int .i64 a2), (3, .fn 33 [.rp a3q0 0]), (8, .int .i64 x8i)], [], Hh⟩
def K1 (Q : AV → Heap → Prop) : Ex → St → Prop := (contK E0 C (E0.L 41) [.block 2 0, .block 1 0, .seq (codeAt (bodyOf E0 41) [1, 0, 0, 1, 1]) 2, .loop (codeAt (bodyOf E0 41) [1, 0, 0]) 1 [(0, 0), (1, 0), (2, 0), (3, 0), (8, 0)] 0, .block 0 0] (finK E0 41 Q))
def L1 (a1 : Int) (a2 : Int) (a3q0 : List AV) (Q : AV → Heap → Prop) (x8i : Int) (x9j : Int) (Hh : Heap) : Prop := ALoop (fun K s => awp E0 C (E0.L 41) (codeAt (bodyOf E0 41) [1, 0, 0, 1, 0, 0, 1, 0, 0]) 2 s K) (clean [(0, 0), (1, 0), (2, 0), (3, 0), (8, 0), (9, 0)] 0) (K1 Q) ⟨stt 53 [(0, .nilsl), (1, .int .i64 a1), (2, .int .i64 a2), (3, .fn 33 [.rp a3q0 0]), (8, .int .i64 x8i), (9, .int .i64 x9j)], [], Hh⟩
def r0 (a1 : Int) (a2 : Int) (a3q0 : List AV) (Q : AV → Heap → Prop) (x8i : Int) (Hh : Heap) : Prop :=
  cond (ltI x8i a2)
  (L1 a1 a2 a3q0 Q x8i x8i Hh)
  (Q (.tup []) Hh)
theorem r0_eq (a1 : Int) (a2 : Int) (a3q0 : List AV) (Q : AV → Heap → Prop) (x8i : Int) (Hh : Heap) : (fun K s => awp E0 C (E0.L 41) (codeAt (bodyOf E0 41) [1, 0, 0]) 1 s K) (fun e s' => match e with | .normal => ALoop (fun K s => awp E0 C (E0.L 41) (codeAt (bodyOf E0 41) [1, 0, 0]) 1 s K) (clean [(0, 0), (1, 0), (2, 0), (3, 0), (8, 0)] 0) (K0 Q) ((clean [(0, 0), (1, 0), (2, 0), (3, 0), (8, 0)] 0) s') | e => K0 Q e s') ⟨stt 53 [(0, .nilsl), (1, .int .i64 a1), (2, .int .i64 a2), (3, .fn 33 [.rp a3q0 0]), (8, .int .i64 x8i)], [], Hh⟩ = r0 a1 a2 a3q0 Q x8i Hh := by kernel_rfl
theorem L0_step {a1 : Int} {a2 : Int} {a3q0 : List AV} {Q : AV → Heap → Prop} {x8i : Int} {Hh : Heap} (h : r0 a1 a2 a3q0 Q x8i Hh) : L0 a1 a2 a3q0 Q x8i Hh := ALoop_unfold ((r0_eq a1 a2 a3q0 Q x8i Hh).mpr h)
def r1 (a1 : Int) (a2 : Int) (a3q0 : List AV) (Q : AV → Heap → Prop) (x8i : Int) (x9j : Int) (Hh : Heap) : Prop :=
  cond (ltI a1 x9j)
  (False)
  (L0 a1 a2 a3q0 Q (addW .i64 x8i 1) Hh)
theorem r1_eq (a1 : Int) (a2 : Int) (a3q0 : List AV) (Q : AV → Heap → Prop) (x8i : Int) (x9j : Int) (Hh : Heap) : (fun K s => awp E0 C (E0.L 41) (codeAt (bodyOf E0 41) [1, 0, 0, 1, 0, 0, 1, 0, 0]) 2 s K) (fun e s' => match e with | .normal => ALoop (fun K s => awp E0 C (E0.L 41) (codeAt (bodyOf E0 41) [1, 0, 0, 1, 0, 0, 1, 0, 0]) 2 s K) (clean [(0, 0), (1, 0), (2, 0), (3, 0), (8, 0), (9, 0)] 0) (K1 Q) ((clean [(0, 0), (1, 0), (2, 0), (3, 0), (8, 0), (9, 0)] 0) s') | e => K1 Q e s') ⟨stt 53 [(0, .nilsl), (1, .int .i64 a1), (2, .int .i64 a2), (3, .fn 33 [.rp a3q0 0]), (8, .int .i64 x8i), (9, .int .i64 x9j)], [], Hh⟩ = r1 a1 a2 a3q0 Q x8i x9j Hh := by kernel_rfl
theorem L1_step {a1 : Int} {a2 : Int} {a3q0 : List AV} {Q : AV → Heap → Prop} {x8i : Int} {x9j : Int} {Hh : Heap} (h : r1 a1 a2 a3q0 Q x8i x9j Hh) : L1 a1 a2 a3q0 Q x8i x9j Hh := ALoop_unfold ((r1_eq a1 a2 a3q0 Q x8i x9j Hh).mpr h)
def t (a1 : Int) (a2 : Int) (a3q0 : List AV) (H : Heap) (Q : AV → Heap → Prop) : Prop :=
  L0 a1 a2 a3q0 Q (addW .i64 a1 1) H
theorem t_eq (a1 : Int) (a2 : Int) (a3q0 : List AV) (H : Heap) (Q : AV → Heap → Prop) : aBody E0 C 41 [.nilsl, .int .i64 a1, .int .i64 a2, .fn 33 [.rp a3q0 0]] H Q = t a1 a2 a3q0 H Q := by kernel_rfl
theorem call {a1 : Int} {a2 : Int} {a3q0 : List AV} {H : Heap} {Q : AV → Heap → Prop} (h : t a1 a2 a3q0 H Q) : C 41 [.nilsl, .int .i64 a1, .int .i64 a2, .fn 33 [.rp a3q0 0]] H Q := Call_intro (E := E0) (by rw [t_eq]; exact h)
end F41n
end Go.Proofs.YtagckffnpnejaaaDoor.Ab
