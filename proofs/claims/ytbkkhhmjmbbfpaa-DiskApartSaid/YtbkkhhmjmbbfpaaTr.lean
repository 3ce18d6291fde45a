/- PRINTED by abx.py. -/
import Derived.Test.YtbkkhhmjmbbfpaaAbMono
import Derived.Test.YtbkkhhmjmbbfpaaTab
import Derived.Test.YtbkkhhmjmbbfpaaLeaf
namespace Go.Proofs.Ytbkkhhmjmbbfpaa.Ab
open Go
set_option maxRecDepth 100000
set_option maxHeartbeats 4000000
set_option linter.unusedVariables false
def liveT : Nat → Live
  | 4 => ([[(0, 0), (3, 0), (4, 1), (5, 0), (6, 0)]], [(29, [(2, 0)])])
  | 5 => ([[(0, 0), (3, 0), (4, 0), (5, 0)]], [])
  | 6 => ([[(0, 0), (1, 0), (5, 0), (6, 0), (7, 0)]], [])
  | 7 => ([[(0, 0), (1, 0), (5, 0), (6, 0)]], [(21, [(0, 0), (1, 0), (5, 0), (6, 0), (7, 0), (51, 0)])])
  | 10 => ([], [(17, [(0, 0), (1, 0), (7, 0)])])
  | 12 => ([[(0, 0), (1, 0), (9, 0), (10, 0), (11, 0)]], [])
  | 14 => ([[(0, 0), (3, 0)]], [(13, [(0, 0), (3, 0), (46, 0)])])
  | 16 => ([[(0, 0), (3, 0), (5, 0)]], [])
  | 18 => ([[(1, 0), (2, 0), (4, 0), (5, 5), (6, 0)]], [])
  | 19 => ([[(3, 3), (9, 0)]], [])
  | 20 => ([[(15, 0)]], [])
  | 21 => ([[(0, 0), (1, 0), (5, 0)]], [])
  | 22 => ([[(1, 0), (3, 3), (4, 0)]], [])
  | 31 => ([[(0, 0), (3, 0)]], [(3, [(0, 0), (17, 0)]), (13, [(0, 0), (3, 0), (41, 0)])])
  | 32 => ([[(1, 0), (2, 0), (5, 0)]], [])
  | 33 => ([[(3, 0), (4, 0), (5, 0), (6, 5), (7, 0)], [(3, 0), (4, 0), (5, 0), (6, 0), (8, 0)]], [])
  | 34 => ([[(1, 0), (2, 0), (4, 0), (5, 5), (6, 0)]], [])
  | _ => ([], [])
def ownT (n : Nat) : Bool := false
def ioT (n : Nat) : Bool := Nat.beq n 30 || Nat.beq n 35 || Nat.beq n 39 || Nat.beq n 40 || Nat.beq n 41 || Nat.beq n 42 || Nat.beq n 43 || Nat.beq n 44 || Nat.beq n 46 || Nat.beq n 47 || Nat.beq n 50
def purT (n : Nat) : Bool := !(Nat.beq n 3 || Nat.beq n 4 || Nat.beq n 5 || Nat.beq n 6 || Nat.beq n 7 || Nat.beq n 8 || Nat.beq n 9 || Nat.beq n 10 || Nat.beq n 11 || Nat.beq n 12 || Nat.beq n 13 || Nat.beq n 16 || Nat.beq n 17 || Nat.beq n 19 || Nat.beq n 25 || Nat.beq n 27 || Nat.beq n 30 || Nat.beq n 35 || Nat.beq n 39 || Nat.beq n 40 || Nat.beq n 41 || Nat.beq n 42 || Nat.beq n 43 || Nat.beq n 44 || Nat.beq n 46 || Nat.beq n 47 || Nat.beq n 50)
def apartT (n : Nat) : Bool := false
def hpT (n : Nat) : Bool := Nat.beq n 53 || Nat.beq n 57
def dispT (s : String) : List (Nat × Nat) := []
noncomputable def E0 : Env := ⟨tys, fun f => cond (leafL.elem f) none (fns.getD f none), liveT, ownT, leafT, ioT, purT, apartT, hpT, dispT⟩
noncomputable abbrev C : Oracle := Call E0
noncomputable abbrev CP : Oracle := pastR C
/-! ### broker/brokerlaw36.DiskSafe: function 3 -/
namespace F3
def t (a0 a1 : List (List AV)) (a2 : Int) (H : Heap) (Q : Qt) : Prop :=
  cond (ltI 400 (lenI a0))
  (C 8 [] H fun v_1 H_2 =>
    G ((v_1).isBool) (Q (.bool ((v_1).toBool)) H_2))
  (cond (ltI 400 (lenI a1))
    (C 8 [] H fun v_3 H_4 =>
      G ((v_3).isBool) (Q (.bool ((v_3).toBool)) H_4))
    (C 9 [] H fun v_5 H_6 =>
      cond ((v_5).isObj)
        (C 10 [.obj ((v_5).objJ) 0, .str (⟨#[102]⟩ : ByteArray), .sl 0 1 a0] H_6 fun v_7 H_8 =>
          G ((v_7).isInt .i64) (cond (!(eqI ((v_7).toInt) 0))
            (Q (.bool false) H_8)
            (C 11 [.obj ((v_5).objJ) 0, .str (⟨#[102]⟩ : ByteArray)] H_8 fun v_9 H_10 =>
              G ((v_9).isInt .i64) (cond (!(eqI ((v_9).toInt) 0))
                (Q (.bool false) H_10)
                (C 10 [.obj ((v_5).objJ) 0, .str (⟨#[102]⟩ : ByteArray), .sl 0 1 a1] H_10 fun v_11 H_12 =>
                  G ((v_11).isInt .i64) (cond (!(eqI ((v_11).toInt) 0))
                    (Q (.bool false) H_12)
                    (cond (ltI a2 0)
                      (cond (ltI (lenI a1) 0)
                        (C 12 [.obj ((v_5).objJ) 0, .sl 0 1 [[.int .i64 a2]]] H_12 fun v_13 H_14 =>
                          G ((v_13).isTup && Nat.beq (v_13).tupVs.length 0) (C 13 [.obj ((v_5).objJ) 0, .str (⟨#[102]⟩ : ByteArray)] H_14 fun v_15 H_16 =>
                            G ((v_15).isTup && Nat.beq (v_15).tupVs.length 2) (G ((((v_15).tupVs).headD .any).isSl 1) (G (((((v_15).tupVs).tail).headD .any).isInt .i64) (cond (eqI (((((v_15).tupVs).tail).headD .any).toInt) 0)
                              (∃ s_17 : ByteArray, (((v_15).tupVs).headD .any).slXs = bytesAV s_17 ∧ (∃ s_18 : ByteArray, a0 = bytesAV s_18 ∧ (G (leI 0 (lenI a1)) (G (leI (lenI a1) (lenI a1)) (G (leI (lenI a1) (lenI a1)) (∃ s_19 : ByteArray, (a1.take ((lenI a1).toNat)).drop 0 = bytesAV s_19 ∧ (G (Nat.ble (s_18.size + s_19.size) 9223372036854775807) (cond (eqS s_17 (s_18 ++ s_19))
                                (C 8 [] H_16 fun v_20 H_21 =>
                                  G ((v_20).isBool) (Q (.bool ((v_20).toBool)) H_21))
                                (Q (.bool false) H_16)))))))))
                              (Q (.bool false) H_16))))))
                        (C 12 [.obj ((v_5).objJ) 0, .sl 0 1 [[.int .i64 a2]]] H_12 fun v_22 H_23 =>
                          G ((v_22).isTup && Nat.beq (v_22).tupVs.length 0) (C 13 [.obj ((v_5).objJ) 0, .str (⟨#[102]⟩ : ByteArray)] H_23 fun v_24 H_25 =>
                            G ((v_24).isTup && Nat.beq (v_24).tupVs.length 2) (G ((((v_24).tupVs).headD .any).isSl 1) (G (((((v_24).tupVs).tail).headD .any).isInt .i64) (cond (eqI (((((v_24).tupVs).tail).headD .any).toInt) 0)
                              (∃ s_26 : ByteArray, (((v_24).tupVs).headD .any).slXs = bytesAV s_26 ∧ (∃ s_27 : ByteArray, a0 = bytesAV s_27 ∧ (G (leI 0 (lenI a1)) (∃ s_28 : ByteArray, (a1.take 0).drop 0 = bytesAV s_28 ∧ (G (Nat.ble (s_27.size + s_28.size) 9223372036854775807) (cond (eqS s_26 (s_27 ++ s_28))
                                (C 8 [] H_25 fun v_29 H_30 =>
                                  G ((v_29).isBool) (Q (.bool ((v_29).toBool)) H_30))
                                (Q (.bool false) H_25)))))))
                              (Q (.bool false) H_25)))))))
                      (cond (ltI (lenI a1) a2)
                        (C 12 [.obj ((v_5).objJ) 0, .sl 0 1 [[.int .i64 a2]]] H_12 fun v_31 H_32 =>
                          G ((v_31).isTup && Nat.beq (v_31).tupVs.length 0) (C 13 [.obj ((v_5).objJ) 0, .str (⟨#[102]⟩ : ByteArray)] H_32 fun v_33 H_34 =>
                            G ((v_33).isTup && Nat.beq (v_33).tupVs.length 2) (G ((((v_33).tupVs).headD .any).isSl 1) (G (((((v_33).tupVs).tail).headD .any).isInt .i64) (cond (eqI (((((v_33).tupVs).tail).headD .any).toInt) 0)
                              (∃ s_35 : ByteArray, (((v_33).tupVs).headD .any).slXs = bytesAV s_35 ∧ (∃ s_36 : ByteArray, a0 = bytesAV s_36 ∧ (G (leI 0 (lenI a1)) (G (leI (lenI a1) (lenI a1)) (G (leI (lenI a1) (lenI a1)) (∃ s_37 : ByteArray, (a1.take ((lenI a1).toNat)).drop 0 = bytesAV s_37 ∧ (G (Nat.ble (s_36.size + s_37.size) 9223372036854775807) (cond (eqS s_35 (s_36 ++ s_37))
                                (C 8 [] H_34 fun v_38 H_39 =>
                                  G ((v_38).isBool) (Q (.bool ((v_38).toBool)) H_39))
                                (Q (.bool false) H_34)))))))))
                              (Q (.bool false) H_34))))))
                        (C 12 [.obj ((v_5).objJ) 0, .sl 0 1 [[.int .i64 a2]]] H_12 fun v_40 H_41 =>
                          G ((v_40).isTup && Nat.beq (v_40).tupVs.length 0) (C 13 [.obj ((v_5).objJ) 0, .str (⟨#[102]⟩ : ByteArray)] H_41 fun v_42 H_43 =>
                            G ((v_42).isTup && Nat.beq (v_42).tupVs.length 2) (G ((((v_42).tupVs).headD .any).isSl 1) (G (((((v_42).tupVs).tail).headD .any).isInt .i64) (cond (eqI (((((v_42).tupVs).tail).headD .any).toInt) 0)
                              (∃ s_44 : ByteArray, (((v_42).tupVs).headD .any).slXs = bytesAV s_44 ∧ (∃ s_45 : ByteArray, a0 = bytesAV s_45 ∧ (G (leI 0 a2) (G (leI a2 a2) (G (leI a2 (lenI a1)) (∃ s_46 : ByteArray, (a1.take a2.toNat).drop 0 = bytesAV s_46 ∧ (G (Nat.ble (s_45.size + s_46.size) 9223372036854775807) (cond (eqS s_44 (s_45 ++ s_46))
                                (C 8 [] H_43 fun v_47 H_48 =>
                                  G ((v_47).isBool) (Q (.bool ((v_47).toBool)) H_48))
                                (Q (.bool false) H_43)))))))))
                              (Q (.bool false) H_43))))))))))))))
        (G ((v_5).isNilp) (Q (.bool false) H_6))))
theorem t_eq (a0 a1 : List (List AV)) (a2 : Int) (H : Heap) (Q : Qt) : aBody E0 C 3 [.sl 0 1 a0, .sl 0 1 a1, .int .i64 a2] H Q = t a0 a1 a2 H Q := by kernel_rfl
theorem call {a0 a1 : List (List AV)} {a2 : Int} {H : Heap} {Q : Qt} (h : t a0 a1 a2 H Q) : C 3 [.sl 0 1 a0, .sl 0 1 a1, .int .i64 a2] H Q := Call_told (E := E0) (t_eq a0 a1 a2 H Q) h
end F3
/-! ### broker/brokerlaw36.DiskFull: function 4 -/
namespace F4
def K0 (Q : Qt) : Ex → St → Prop := (contK E0 C (E0.L 4) [.block 0 0, .seq (codeAt (bodyOf E0 4) [1, 1, 1, 1, 1, 1, 1]) 1] (finK E0 4 Q))
def L0 (a0 : Int) (Q : Qt) (x3dj : Nat) (x5total x6i : Int) (Hh : Heap) : Prop := ALoop (fun K s => awp E0 C (E0.L 4) (codeAt (bodyOf E0 4) [1, 1, 1, 1, 1, 1, 0, 1, 0, 0]) 1 s K) (clean [(0, 0), (3, 0), (4, 1), (5, 0), (6, 0)] 0) (K0 Q) ⟨stt 58 [(0, .int .i64 a0), (3, .obj x3dj 0), (4, .sl 0 1 (List.replicate a0.toNat ([.int .u8 0] : List AV))), (5, .int .i64 x5total), (6, .int .i64 x6i)], [], Hh⟩
def JR14 (a0 : Int) (Q : Qt) (x2 : Bool) (Hh : Heap) : Prop := AJoin (contK E0 C (E0.L 4) [.seq (codeAt (bodyOf E0 4) [1, 1, 1, 1, 1, 1, 0, 1, 0, 0, 1, 0, 0, 1, 0, 1, 0, 1, 1]) 1, .seq (codeAt (bodyOf E0 4) [1, 1, 1, 1, 1, 1, 0, 1, 0, 0, 1, 0, 0, 1, 1]) 1, .block 1 0, .seq (codeAt (bodyOf E0 4) [1, 1, 1, 1, 1, 1, 0, 1, 0, 0, 1, 1]) 1, .loop (codeAt (bodyOf E0 4) [1, 1, 1, 1, 1, 1, 0, 1, 0, 0]) 1 [(0, 0), (3, 0), (4, 1), (5, 0), (6, 0)] 0, .block 0 0, .seq (codeAt (bodyOf E0 4) [1, 1, 1, 1, 1, 1, 1]) 1] (finK E0 4 Q)) ⟨stt 58 [(2, .bool x2)], [], Hh⟩
def r0 (a0 : Int) (Q : Qt) (x3dj : Nat) (x5total x6i : Int) (Hh : Heap) : Prop :=
  cond (ltI x6i 17)
  (C 10 [.obj x3dj 0, .str (⟨#[102]⟩ : ByteArray), .sl 0 1 (List.replicate a0.toNat ([.int .u8 0] : List AV))] Hh fun v_7 H_8 =>
    G ((v_7).isInt .i64) (cond (ltI 65536 (addW .i64 x5total a0))
      (C 13 [.obj x3dj 0, .str (⟨#[102]⟩ : ByteArray)] H_8 fun v_9 H_10 =>
        G ((v_9).isTup && Nat.beq (v_9).tupVs.length 2) (G ((((v_9).tupVs).headD .any).isSl 1) (G (((((v_9).tupVs).tail).headD .any).isInt .i64) (cond (eqI ((v_7).toInt) 6)
          (cond (eqI (((((v_9).tupVs).tail).headD .any).toInt) 0)
            (cond (eqI (lenI ((((v_9).tupVs).headD .any).slXs)) x5total)
              (C 8 [] H_10 fun v_11 H_12 =>
                G ((v_11).isBool) (JR14 a0 Q ((v_11).toBool) H_12))
              (JR14 a0 Q false H_10))
            (JR14 a0 Q false H_10))
          (JR14 a0 Q false H_10)))))
      (cond (!(eqI ((v_7).toInt) 0))
        (Q (.bool false) H_8)
        (L0 a0 Q x3dj (addW .i64 x5total a0) (addW .i64 x6i 1) H_8))))
  (Q (.bool false) Hh)
theorem r0_eq (a0 : Int) (Q : Qt) (x3dj : Nat) (x5total x6i : Int) (Hh : Heap) : (fun K s => awp E0 C (E0.L 4) (codeAt (bodyOf E0 4) [1, 1, 1, 1, 1, 1, 0, 1, 0, 0]) 1 s K) (ALoopK (fun K s => awp E0 C (E0.L 4) (codeAt (bodyOf E0 4) [1, 1, 1, 1, 1, 1, 0, 1, 0, 0]) 1 s K) (clean [(0, 0), (3, 0), (4, 1), (5, 0), (6, 0)] 0) (K0 Q)) ⟨stt 58 [(0, .int .i64 a0), (3, .obj x3dj 0), (4, .sl 0 1 (List.replicate a0.toNat ([.int .u8 0] : List AV))), (5, .int .i64 x5total), (6, .int .i64 x6i)], [], Hh⟩ = r0 a0 Q x3dj x5total x6i Hh := by kernel_rfl
theorem L0_step {a0 : Int} {Q : Qt} {x3dj : Nat} {x5total x6i : Int} {Hh : Heap} (h : r0 a0 Q x3dj x5total x6i Hh) : L0 a0 Q x3dj x5total x6i Hh := ALoop_told (r0_eq a0 Q x3dj x5total x6i Hh) h
def jR14 (a0 : Int) (Q : Qt) (x2 : Bool) (Hh : Heap) : Prop :=
  Q (.bool x2) Hh
theorem JR14_eq (a0 : Int) (Q : Qt) (x2 : Bool) (Hh : Heap) : contK E0 C (E0.L 4) [.seq (codeAt (bodyOf E0 4) [1, 1, 1, 1, 1, 1, 0, 1, 0, 0, 1, 0, 0, 1, 0, 1, 0, 1, 1]) 1, .seq (codeAt (bodyOf E0 4) [1, 1, 1, 1, 1, 1, 0, 1, 0, 0, 1, 0, 0, 1, 1]) 1, .block 1 0, .seq (codeAt (bodyOf E0 4) [1, 1, 1, 1, 1, 1, 0, 1, 0, 0, 1, 1]) 1, .loop (codeAt (bodyOf E0 4) [1, 1, 1, 1, 1, 1, 0, 1, 0, 0]) 1 [(0, 0), (3, 0), (4, 1), (5, 0), (6, 0)] 0, .block 0 0, .seq (codeAt (bodyOf E0 4) [1, 1, 1, 1, 1, 1, 1]) 1] (finK E0 4 Q) .normal ⟨stt 58 [(2, .bool x2)], [], Hh⟩ = jR14 a0 Q x2 Hh := by kernel_rfl
theorem JR14_step {a0 : Int} {Q : Qt} {x2 : Bool} {Hh : Heap} (h : jR14 a0 Q x2 Hh) : JR14 a0 Q x2 Hh := AJoin_told (JR14_eq a0 Q x2 Hh) h
def t (a0 : Int) (H : Heap) (Q : Qt) : Prop :=
  cond (ltI a0 4096)
  (C 8 [] H fun v_1 H_2 =>
    G ((v_1).isBool) (Q (.bool ((v_1).toBool)) H_2))
  (cond (ltI 8192 a0)
    (C 8 [] H fun v_3 H_4 =>
      G ((v_3).isBool) (Q (.bool ((v_3).toBool)) H_4))
    (C 9 [] H fun v_5 H_6 =>
      cond ((v_5).isObj)
        (G (leI 0 a0) (G (eqI a0 a0) (G (roomN a0 1) (L0 a0 Q ((v_5).objJ) 0 0 H_6))))
        (G ((v_5).isNilp) (Q (.bool false) H_6))))
theorem t_eq (a0 : Int) (H : Heap) (Q : Qt) : aBody E0 C 4 [.int .i64 a0] H Q = t a0 H Q := by kernel_rfl
theorem call {a0 : Int} {H : Heap} {Q : Qt} (h : t a0 H Q) : C 4 [.int .i64 a0] H Q := Call_told (E := E0) (t_eq a0 H Q) h
end F4
/-! ### broker/brokerlaw36.DiskPlays: function 5 -/
namespace F5
def K0 (Q : Qt) : Ex → St → Prop := (contK E0 C (E0.L 5) [.block 0 1, .seq (codeAt (bodyOf E0 5) [1, 1, 1, 1, 1, 1]) 1] (finK E0 5 Q))
def L0 (a0 : List (List AV)) (Q : Qt) (x3dj : Nat) (x5i : Int) (m0_0 : List (List AV)) (Hh : Heap) : Prop := ALoop (fun K s => awp E0 C (E0.L 5) (codeAt (bodyOf E0 5) [1, 1, 1, 1, 1, 0, 1, 0, 0]) 1 s K) (clean [(0, 0), (3, 0), (4, 0), (5, 0)] 1) (K0 Q) ⟨stt 48 [(0, .sl 0 5 a0), (3, .obj x3dj 0), (4, .ptr 0 0), (5, .int .i64 x5i)], [.cells [.sl 0 3 m0_0]], Hh⟩
def r0 (a0 : List (List AV)) (Q : Qt) (x3dj : Nat) (x5i : Int) (m0_0 : List (List AV)) (Hh : Heap) : Prop :=
  cond (ltI x5i (lenI a0))
  (G (leI 0 x5i) (G (ltI x5i (lenI a0)) (G ((ce (ro a0 x5i.toNat) 0).isInt .u8) (G ((ce (ro a0 x5i.toNat) 1).isStr) (G ((ce (ro a0 x5i.toNat) 2).isStr) (G ((ce (ro a0 x5i.toNat) 3).isSl 1) (G ((ce (ro a0 x5i.toNat) 4).isSl 1) (C 17 [.obj x3dj 0, .agg [.sl 0 3 m0_0], .agg [.int .u8 ((ce (ro a0 x5i.toNat) 0).toInt), .str ((ce (ro a0 x5i.toNat) 1).toStr), .str ((ce (ro a0 x5i.toNat) 2).toStr), .sl 0 1 ((ce (ro a0 x5i.toNat) 3).slXs), .sl 0 1 ((ce (ro a0 x5i.toNat) 4).slXs)]] Hh fun v_13 H_14 =>
    G ((v_13).isTup && Nat.beq (v_13).tupVs.length 2) (G ((((v_13).tupVs).headD .any).isAgg && Nat.beq (((v_13).tupVs).headD .any).aggCs.length 1) (G ((((((v_13).tupVs).headD .any).aggCs).headD .any).isSl 3) (G (((((v_13).tupVs).tail).headD .any).isBool) (cond (!(((((v_13).tupVs).tail).headD .any).toBool))
      (Q (.bool false) H_14)
      (C 16 [.obj x3dj 0, .agg [.sl 0 3 ((((((v_13).tupVs).headD .any).aggCs).headD .any).slXs)]] H_14 fun v_15 H_16 =>
        G ((v_15).isBool) (cond (!((v_15).toBool))
          (Q (.bool false) H_16)
          (L0 a0 Q x3dj (addW .i64 x5i 1) ((((((v_13).tupVs).headD .any).aggCs).headD .any).slXs) H_16)))))))))))))))
  (C 8 [] Hh fun v_17 H_18 =>
    G ((v_17).isBool) (Q (.bool ((v_17).toBool)) H_18))
theorem r0_eq (a0 : List (List AV)) (Q : Qt) (x3dj : Nat) (x5i : Int) (m0_0 : List (List AV)) (Hh : Heap) : (fun K s => awp E0 C (E0.L 5) (codeAt (bodyOf E0 5) [1, 1, 1, 1, 1, 0, 1, 0, 0]) 1 s K) (ALoopK (fun K s => awp E0 C (E0.L 5) (codeAt (bodyOf E0 5) [1, 1, 1, 1, 1, 0, 1, 0, 0]) 1 s K) (clean [(0, 0), (3, 0), (4, 0), (5, 0)] 1) (K0 Q)) ⟨stt 48 [(0, .sl 0 5 a0), (3, .obj x3dj 0), (4, .ptr 0 0), (5, .int .i64 x5i)], [.cells [.sl 0 3 m0_0]], Hh⟩ = r0 a0 Q x3dj x5i m0_0 Hh := by kernel_rfl
theorem L0_step {a0 : List (List AV)} {Q : Qt} {x3dj : Nat} {x5i : Int} {m0_0 : List (List AV)} {Hh : Heap} (h : r0 a0 Q x3dj x5i m0_0 Hh) : L0 a0 Q x3dj x5i m0_0 Hh := ALoop_told (r0_eq a0 Q x3dj x5i m0_0 Hh) h
def t (a0 : List (List AV)) (H : Heap) (Q : Qt) : Prop :=
  CP 14 [.sl 0 5 a0] H fun v_1 H_2 =>
  G ((v_1).isBool) (cond (!((v_1).toBool))
    (C 8 [] H_2 fun v_3 H_4 =>
      G ((v_3).isBool) (Q (.bool ((v_3).toBool)) H_4))
    (C 9 [] H_2 fun v_5 H_6 =>
      cond ((v_5).isObj)
        (CP 15 [] H_6 fun v_7 H_8 =>
          G ((v_7).isAgg && Nat.beq (v_7).aggCs.length 1) (G ((((v_7).aggCs).headD .any).isSl 3) (C 16 [.obj ((v_5).objJ) 0, .agg [.sl 0 3 ((((v_7).aggCs).headD .any).slXs)]] H_8 fun v_9 H_10 =>
            G ((v_9).isBool) (cond (!((v_9).toBool))
              (Q (.bool false) H_10)
              (L0 a0 Q ((v_5).objJ) 0 ((((v_7).aggCs).headD .any).slXs) H_10)))))
        (G ((v_5).isNilp) (CP 15 [] H_6 fun v_11 H_12 =>
          G ((v_11).isAgg && Nat.beq (v_11).aggCs.length 1) (G ((((v_11).aggCs).headD .any).isSl 3) (Q (.bool false) H_12))))))
theorem t_eq (a0 : List (List AV)) (H : Heap) (Q : Qt) : aBody E0 C 5 [.sl 0 5 a0] H Q = t a0 H Q := by kernel_rfl
theorem call {a0 : List (List AV)} {H : Heap} {Q : Qt} (h : t a0 H Q) : C 5 [.sl 0 5 a0] H Q := Call_told (E := E0) (t_eq a0 H Q) h
end F5
/-! ### broker/brokerlaw36.DiskCrashes: function 6 -/
namespace F6
def K0 (Q : Qt) : Ex → St → Prop := (contK E0 C (E0.L 6) [.block 0 1, .seq (codeAt (bodyOf E0 6) [1, 1, 1, 1, 1, 1]) 1] (finK E0 6 Q))
def L0 (a0 a1 : List (List AV)) (Q : Qt) (x5dj : Nat) (x7i : Int) (m0_0 : List (List AV)) (Hh : Heap) : Prop := ALoop (fun K s => awp E0 C (E0.L 6) (codeAt (bodyOf E0 6) [1, 1, 1, 1, 1, 0, 1, 0, 0]) 1 s K) (clean [(0, 0), (1, 0), (5, 0), (6, 0), (7, 0)] 1) (K0 Q) ⟨stt 55 [(0, .sl 0 5 a0), (1, .sl 0 1 a1), (5, .obj x5dj 0), (6, .ptr 0 0), (7, .int .i64 x7i)], [.cells [.sl 0 3 m0_0]], Hh⟩
def r0 (a0 a1 : List (List AV)) (Q : Qt) (x5dj : Nat) (x7i : Int) (m0_0 : List (List AV)) (Hh : Heap) : Prop :=
  cond (ltI x7i (lenI a0))
  (G (leI 0 x7i) (G (ltI x7i (lenI a0)) (G ((ce (ro a0 x7i.toNat) 0).isInt .u8) (G ((ce (ro a0 x7i.toNat) 1).isStr) (G ((ce (ro a0 x7i.toNat) 2).isStr) (G ((ce (ro a0 x7i.toNat) 3).isSl 1) (G ((ce (ro a0 x7i.toNat) 4).isSl 1) (C 17 [.obj x5dj 0, .agg [.sl 0 3 m0_0], .agg [.int .u8 ((ce (ro a0 x7i.toNat) 0).toInt), .str ((ce (ro a0 x7i.toNat) 1).toStr), .str ((ce (ro a0 x7i.toNat) 2).toStr), .sl 0 1 ((ce (ro a0 x7i.toNat) 3).slXs), .sl 0 1 ((ce (ro a0 x7i.toNat) 4).slXs)]] Hh fun v_13 H_14 =>
    G ((v_13).isTup && Nat.beq (v_13).tupVs.length 2) (G ((((v_13).tupVs).headD .any).isAgg && Nat.beq (((v_13).tupVs).headD .any).aggCs.length 1) (G ((((((v_13).tupVs).headD .any).aggCs).headD .any).isSl 3) (G (((((v_13).tupVs).tail).headD .any).isBool) (L0 a0 a1 Q x5dj (addW .i64 x7i 1) ((((((v_13).tupVs).headD .any).aggCs).headD .any).slXs) H_14))))))))))))
  (C 12 [.obj x5dj 0, .sl 0 1 a1] Hh fun v_15 H_16 =>
    G ((v_15).isTup && Nat.beq (v_15).tupVs.length 0) (CP 18 [.agg [.sl 0 3 m0_0], .sl 0 1 a1] H_16 fun v_17 H_18 =>
      G ((v_17).isAgg && Nat.beq (v_17).aggCs.length 1) (G ((((v_17).aggCs).headD .any).isSl 3) (C 16 [.obj x5dj 0, .agg [.sl 0 3 ((((v_17).aggCs).headD .any).slXs)]] H_18 fun v_19 H_20 =>
        G ((v_19).isBool) (cond (!((v_19).toBool))
          (Q (.bool false) H_20)
          (C 12 [.obj x5dj 0, .sl 0 1 []] H_20 fun v_21 H_22 =>
            G ((v_21).isTup && Nat.beq (v_21).tupVs.length 0) (C 16 [.obj x5dj 0, .agg [.sl 0 3 ((((v_17).aggCs).headD .any).slXs)]] H_22 fun v_23 H_24 =>
              G ((v_23).isBool) (cond ((v_23).toBool)
                (C 8 [] H_24 fun v_25 H_26 =>
                  G ((v_25).isBool) (Q (.bool ((v_25).toBool)) H_26))
                (Q (.bool false) H_24)))))))))
theorem r0_eq (a0 a1 : List (List AV)) (Q : Qt) (x5dj : Nat) (x7i : Int) (m0_0 : List (List AV)) (Hh : Heap) : (fun K s => awp E0 C (E0.L 6) (codeAt (bodyOf E0 6) [1, 1, 1, 1, 1, 0, 1, 0, 0]) 1 s K) (ALoopK (fun K s => awp E0 C (E0.L 6) (codeAt (bodyOf E0 6) [1, 1, 1, 1, 1, 0, 1, 0, 0]) 1 s K) (clean [(0, 0), (1, 0), (5, 0), (6, 0), (7, 0)] 1) (K0 Q)) ⟨stt 55 [(0, .sl 0 5 a0), (1, .sl 0 1 a1), (5, .obj x5dj 0), (6, .ptr 0 0), (7, .int .i64 x7i)], [.cells [.sl 0 3 m0_0]], Hh⟩ = r0 a0 a1 Q x5dj x7i m0_0 Hh := by kernel_rfl
theorem L0_step {a0 a1 : List (List AV)} {Q : Qt} {x5dj : Nat} {x7i : Int} {m0_0 : List (List AV)} {Hh : Heap} (h : r0 a0 a1 Q x5dj x7i m0_0 Hh) : L0 a0 a1 Q x5dj x7i m0_0 Hh := ALoop_told (r0_eq a0 a1 Q x5dj x7i m0_0 Hh) h
def t (a0 a1 : List (List AV)) (H : Heap) (Q : Qt) : Prop :=
  CP 14 [.sl 0 5 a0] H fun v_1 H_2 =>
  G ((v_1).isBool) (cond (!((v_1).toBool))
    (C 8 [] H_2 fun v_3 H_4 =>
      G ((v_3).isBool) (Q (.bool ((v_3).toBool)) H_4))
    (cond (ltI 20 (lenI a1))
      (C 8 [] H_2 fun v_5 H_6 =>
        G ((v_5).isBool) (Q (.bool ((v_5).toBool)) H_6))
      (C 9 [] H_2 fun v_7 H_8 =>
        cond ((v_7).isObj)
          (CP 15 [] H_8 fun v_9 H_10 =>
            G ((v_9).isAgg && Nat.beq (v_9).aggCs.length 1) (G ((((v_9).aggCs).headD .any).isSl 3) (L0 a0 a1 Q ((v_7).objJ) 0 ((((v_9).aggCs).headD .any).slXs) H_10)))
          (G ((v_7).isNilp) (CP 15 [] H_8 fun v_11 H_12 =>
            G ((v_11).isAgg && Nat.beq (v_11).aggCs.length 1) (G ((((v_11).aggCs).headD .any).isSl 3) (Q (.bool false) H_12)))))))
theorem t_eq (a0 a1 : List (List AV)) (H : Heap) (Q : Qt) : aBody E0 C 6 [.sl 0 5 a0, .sl 0 1 a1] H Q = t a0 a1 H Q := by kernel_rfl
theorem call {a0 a1 : List (List AV)} {H : Heap} {Q : Qt} (h : t a0 a1 H Q) : C 6 [.sl 0 5 a0, .sl 0 1 a1] H Q := Call_told (E := E0) (t_eq a0 a1 H Q) h
end F6
/-! ### broker/brokerlaw36.DiskApart: function 7 -/
namespace F7
def K0 (Q : Qt) : Ex → St → Prop := (contK E0 C (E0.L 7) [.block 0 0, .seq (codeAt (bodyOf E0 7) [1, 1, 1, 1, 1]) 1] (finK E0 7 Q))
def L0 (a0 a1 : List (List AV)) (Q : Qt) (x5dj : Nat) (x6i : Int) (Hh : Heap) : Prop := ALoop (fun K s => awp E0 C (E0.L 7) (codeAt (bodyOf E0 7) [1, 1, 1, 1, 0, 1, 0, 0]) 1 s K) (clean [(0, 0), (1, 0), (5, 0), (6, 0)] 0) (K0 Q) ⟨stt 73 [(0, .sl 0 5 a0), (1, .sl 0 1 a1), (5, .obj x5dj 0), (6, .int .i64 x6i)], [], Hh⟩
def JR10 (a0 a1 : List (List AV)) (Q : Qt) (x5dj : Nat) (x6i : Int) (x51 : Bool) (m0_0 : Int) (m0_1 m0_2 : ByteArray) (m0_3 m0_4 : List (List AV)) (Hh : Heap) : Prop := AJoin (contK E0 C (E0.L 7) [.seq (codeAt (bodyOf E0 7) [1, 1, 1, 1, 0, 1, 0, 0, 1, 0, 0, 1, 1]) 1, .block 1 0, .seq (codeAt (bodyOf E0 7) [1, 1, 1, 1, 0, 1, 0, 0, 1, 1]) 1, .loop (codeAt (bodyOf E0 7) [1, 1, 1, 1, 0, 1, 0, 0]) 1 [(0, 0), (1, 0), (5, 0), (6, 0)] 0, .block 0 0, .seq (codeAt (bodyOf E0 7) [1, 1, 1, 1, 1]) 1] (finK E0 7 Q)) ⟨stt 73 [(0, .sl 0 5 a0), (1, .sl 0 1 a1), (5, .obj x5dj 0), (6, .int .i64 x6i), (7, .ptr 0 0), (51, .bool x51)], [.cells [.int .u8 m0_0, .str m0_1, .str m0_2, .sl 0 1 m0_3, .sl 0 1 m0_4]], Hh⟩
def r0 (a0 a1 : List (List AV)) (Q : Qt) (x5dj : Nat) (x6i : Int) (Hh : Heap) : Prop :=
  cond (ltI x6i (lenI a0))
  (G (leI 0 x6i) (G (ltI x6i (lenI a0)) (G ((ce (ro a0 x6i.toNat) 0).isInt .u8) (G ((ce (ro a0 x6i.toNat) 1).isStr) (G ((ce (ro a0 x6i.toNat) 2).isStr) (G ((ce (ro a0 x6i.toNat) 3).isSl 1) (G ((ce (ro a0 x6i.toNat) 4).isSl 1) (cond (!(eqS ((ce (ro a0 x6i.toNat) 1).toStr) (⟨#[111, 119, 110]⟩ : ByteArray)))
    (cond (!(eqS ((ce (ro a0 x6i.toNat) 2).toStr) (⟨#[111, 119, 110]⟩ : ByteArray)))
      (JR10 a0 a1 Q x5dj x6i (!(eqI (Int.tmod ((ce (ro a0 x6i.toNat) 0).toInt) 8) 7)) ((ce (ro a0 x6i.toNat) 0).toInt) ((ce (ro a0 x6i.toNat) 1).toStr) ((ce (ro a0 x6i.toNat) 2).toStr) ((ce (ro a0 x6i.toNat) 3).slXs) ((ce (ro a0 x6i.toNat) 4).slXs) Hh)
      (JR10 a0 a1 Q x5dj x6i false ((ce (ro a0 x6i.toNat) 0).toInt) ((ce (ro a0 x6i.toNat) 1).toStr) ((ce (ro a0 x6i.toNat) 2).toStr) ((ce (ro a0 x6i.toNat) 3).slXs) ((ce (ro a0 x6i.toNat) 4).slXs) Hh))
    (JR10 a0 a1 Q x5dj x6i false ((ce (ro a0 x6i.toNat) 0).toInt) ((ce (ro a0 x6i.toNat) 1).toStr) ((ce (ro a0 x6i.toNat) 2).toStr) ((ce (ro a0 x6i.toNat) 3).slXs) ((ce (ro a0 x6i.toNat) 4).slXs) Hh)))))))))
  (C 13 [.obj x5dj 0, .str (⟨#[111, 119, 110]⟩ : ByteArray)] Hh fun v_11 H_12 =>
    G ((v_11).isTup && Nat.beq (v_11).tupVs.length 2) (G ((((v_11).tupVs).headD .any).isSl 1) (G (((((v_11).tupVs).tail).headD .any).isInt .i64) (∃ s_13 : ByteArray, (((v_11).tupVs).headD .any).slXs = bytesAV s_13 ∧ (∃ s_14 : ByteArray, a1 = bytesAV s_14 ∧ (cond (eqS s_13 s_14)
      (cond (eqI (((((v_11).tupVs).tail).headD .any).toInt) 0)
        (C 8 [] H_12 fun v_15 H_16 =>
          G ((v_15).isBool) (Q (.bool ((v_15).toBool)) H_16))
        (Q (.bool false) H_12))
      (Q (.bool false) H_12)))))))
theorem r0_eq (a0 a1 : List (List AV)) (Q : Qt) (x5dj : Nat) (x6i : Int) (Hh : Heap) : (fun K s => awp E0 C (E0.L 7) (codeAt (bodyOf E0 7) [1, 1, 1, 1, 0, 1, 0, 0]) 1 s K) (ALoopK (fun K s => awp E0 C (E0.L 7) (codeAt (bodyOf E0 7) [1, 1, 1, 1, 0, 1, 0, 0]) 1 s K) (clean [(0, 0), (1, 0), (5, 0), (6, 0)] 0) (K0 Q)) ⟨stt 73 [(0, .sl 0 5 a0), (1, .sl 0 1 a1), (5, .obj x5dj 0), (6, .int .i64 x6i)], [], Hh⟩ = r0 a0 a1 Q x5dj x6i Hh := by kernel_rfl
theorem L0_step {a0 a1 : List (List AV)} {Q : Qt} {x5dj : Nat} {x6i : Int} {Hh : Heap} (h : r0 a0 a1 Q x5dj x6i Hh) : L0 a0 a1 Q x5dj x6i Hh := ALoop_told (r0_eq a0 a1 Q x5dj x6i Hh) h
def jR10 (a0 a1 : List (List AV)) (Q : Qt) (x5dj : Nat) (x6i : Int) (x51 : Bool) (m0_0 : Int) (m0_1 m0_2 : ByteArray) (m0_3 m0_4 : List (List AV)) (Hh : Heap) : Prop :=
  cond x51
  (CP 15 [] Hh fun v_17 H_18 =>
    G ((v_17).isAgg && Nat.beq (v_17).aggCs.length 1) (G ((((v_17).aggCs).headD .any).isSl 3) (C 17 [.obj x5dj 0, .agg [.sl 0 3 ((((v_17).aggCs).headD .any).slXs)], .agg [.int .u8 m0_0, .str m0_1, .str m0_2, .sl 0 1 m0_3, .sl 0 1 m0_4]] H_18 fun v_19 H_20 =>
      G ((v_19).isTup && Nat.beq (v_19).tupVs.length 2) (G ((((v_19).tupVs).headD .any).isAgg && Nat.beq (((v_19).tupVs).headD .any).aggCs.length 1) (G ((((((v_19).tupVs).headD .any).aggCs).headD .any).isSl 3) (G (((((v_19).tupVs).tail).headD .any).isBool) (L0 a0 a1 Q x5dj (addW .i64 x6i 1) H_20)))))))
  (L0 a0 a1 Q x5dj (addW .i64 x6i 1) Hh)
theorem JR10_eq (a0 a1 : List (List AV)) (Q : Qt) (x5dj : Nat) (x6i : Int) (x51 : Bool) (m0_0 : Int) (m0_1 m0_2 : ByteArray) (m0_3 m0_4 : List (List AV)) (Hh : Heap) : contK E0 C (E0.L 7) [.seq (codeAt (bodyOf E0 7) [1, 1, 1, 1, 0, 1, 0, 0, 1, 0, 0, 1, 1]) 1, .block 1 0, .seq (codeAt (bodyOf E0 7) [1, 1, 1, 1, 0, 1, 0, 0, 1, 1]) 1, .loop (codeAt (bodyOf E0 7) [1, 1, 1, 1, 0, 1, 0, 0]) 1 [(0, 0), (1, 0), (5, 0), (6, 0)] 0, .block 0 0, .seq (codeAt (bodyOf E0 7) [1, 1, 1, 1, 1]) 1] (finK E0 7 Q) .normal ⟨stt 73 [(0, .sl 0 5 a0), (1, .sl 0 1 a1), (5, .obj x5dj 0), (6, .int .i64 x6i), (7, .ptr 0 0), (51, .bool x51)], [.cells [.int .u8 m0_0, .str m0_1, .str m0_2, .sl 0 1 m0_3, .sl 0 1 m0_4]], Hh⟩ = jR10 a0 a1 Q x5dj x6i x51 m0_0 m0_1 m0_2 m0_3 m0_4 Hh := by kernel_rfl
theorem JR10_step {a0 a1 : List (List AV)} {Q : Qt} {x5dj : Nat} {x6i : Int} {x51 : Bool} {m0_0 : Int} {m0_1 m0_2 : ByteArray} {m0_3 m0_4 : List (List AV)} {Hh : Heap} (h : jR10 a0 a1 Q x5dj x6i x51 m0_0 m0_1 m0_2 m0_3 m0_4 Hh) : JR10 a0 a1 Q x5dj x6i x51 m0_0 m0_1 m0_2 m0_3 m0_4 Hh := AJoin_told (JR10_eq a0 a1 Q x5dj x6i x51 m0_0 m0_1 m0_2 m0_3 m0_4 Hh) h
def t (a0 a1 : List (List AV)) (H : Heap) (Q : Qt) : Prop :=
  CP 14 [.sl 0 5 a0] H fun v_1 H_2 =>
  G ((v_1).isBool) (cond (!((v_1).toBool))
    (C 8 [] H_2 fun v_3 H_4 =>
      G ((v_3).isBool) (Q (.bool ((v_3).toBool)) H_4))
    (cond (ltI 400 (lenI a1))
      (C 8 [] H_2 fun v_5 H_6 =>
        G ((v_5).isBool) (Q (.bool ((v_5).toBool)) H_6))
      (C 9 [] H_2 fun v_7 H_8 =>
        cond ((v_7).isObj)
          (C 10 [.obj ((v_7).objJ) 0, .str (⟨#[111, 119, 110]⟩ : ByteArray), .sl 0 1 a1] H_8 fun v_9 H_10 =>
            G ((v_9).isInt .i64) (cond (!(eqI ((v_9).toInt) 0))
              (Q (.bool false) H_10)
              (L0 a0 a1 Q ((v_7).objJ) 0 H_10)))
          (G ((v_7).isNilp) (Q (.bool false) H_8)))))
theorem t_eq (a0 a1 : List (List AV)) (H : Heap) (Q : Qt) : aBody E0 C 7 [.sl 0 5 a0, .sl 0 1 a1] H Q = t a0 a1 H Q := by kernel_rfl
theorem call {a0 a1 : List (List AV)} {H : Heap} {Q : Qt} (h : t a0 a1 H Q) : C 7 [.sl 0 5 a0, .sl 0 1 a1] H Q := Call_told (E := E0) (t_eq a0 a1 H Q) h
end F7
/-! ### broker/brokerlaw36.awake: function 8 -/
namespace F8
def t  (H : Heap) (Q : Qt) : Prop :=
  C 9 [] H fun v_1 H_2 =>
  cond ((v_1).isObj)
    (C 10 [.obj ((v_1).objJ) 0, .str (⟨#[102]⟩ : ByteArray), .sl 0 1 [[.int .u8 97], [.int .u8 98], [.int .u8 99], [.int .u8 100]]] H_2 fun v_3 H_4 =>
      G ((v_3).isInt .i64) (cond (!(eqI ((v_3).toInt) 0))
        (Q (.bool false) H_4)
        (C 11 [.obj ((v_1).objJ) 0, .str (⟨#[102]⟩ : ByteArray)] H_4 fun v_5 H_6 =>
          G ((v_5).isInt .i64) (cond (!(eqI ((v_5).toInt) 0))
            (Q (.bool false) H_6)
            (C 10 [.obj ((v_1).objJ) 0, .str (⟨#[102]⟩ : ByteArray), .sl 0 1 [[.int .u8 120], [.int .u8 121], [.int .u8 122]]] H_6 fun v_7 H_8 =>
              G ((v_7).isInt .i64) (cond (!(eqI ((v_7).toInt) 0))
                (Q (.bool false) H_8)
                (C 12 [.obj ((v_1).objJ) 0, .sl 0 1 [[.int .i64 2]]] H_8 fun v_9 H_10 =>
                  G ((v_9).isTup && Nat.beq (v_9).tupVs.length 0) (C 13 [.obj ((v_1).objJ) 0, .str (⟨#[102]⟩ : ByteArray)] H_10 fun v_11 H_12 =>
                    G ((v_11).isTup && Nat.beq (v_11).tupVs.length 2) (G ((((v_11).tupVs).headD .any).isSl 1) (G (((((v_11).tupVs).tail).headD .any).isInt .i64) (∃ s_13 : ByteArray, (((v_11).tupVs).headD .any).slXs = bytesAV s_13 ∧ (cond (eqS s_13 (⟨#[97, 98, 99, 100, 120, 121]⟩ : ByteArray))
                      (cond (eqI (((((v_11).tupVs).tail).headD .any).toInt) 0)
                        (C 19 [.obj ((v_1).objJ) 0] H_12 fun v_14 H_15 =>
                          G ((v_14).isSl 1) (Q (.bool (eqI (lenI ((v_14).slXs)) 1)) H_15))
                        (Q (.bool false) H_12))
                      (Q (.bool false) H_12)))))))))))))
    (G ((v_1).isNilp) (Q (.bool false) H_2))
theorem t_eq  (H : Heap) (Q : Qt) : aBody E0 C 8 [] H Q = t  H Q := by kernel_rfl
theorem call  {H : Heap} {Q : Qt} (h : t  H Q) : C 8 [] H Q := Call_told (E := E0) (t_eq  H Q) h
end F8
/-! ### broker/disk.New: function 9 -/
namespace F9
def t  (H : Heap) (Q : Qt) : Prop :=
  let H_1 : Heap := H.push (.map [] 0);
  let H_2 : Heap := H_1.push (.cells [.map H.next]);
    Q (.obj H_1.next 0) H_2
theorem t_eq  (H : Heap) (Q : Qt) : aBody E0 C 9 [] H Q = t  H Q := by kernel_rfl
theorem call  {H : Heap} {Q : Qt} (h : t  H Q) : C 9 [] H Q := Call_told (E := E0) (t_eq  H Q) h
end F9
/-! ### (*broker/disk.Disk).Append: function 10 -/
namespace F10
def JR8 (a0j : Nat) (a1 : ByteArray) (a2 : List (List AV)) (Q : Qt) (x7fj : Nat) (Hh : Heap) : Prop := AJoin (contK E0 C (E0.L 10) [.seq (codeAt (bodyOf E0 10) [1, 1, 1, 1, 1, 1]) 0] (finK E0 10 Q)) ⟨stt 45 [(0, .obj a0j 0), (1, .str a1), (7, .obj x7fj 0)], [], Hh⟩
def jR8 (a0j : Nat) (a1 : ByteArray) (a2 : List (List AV)) (Q : Qt) (x7fj : Nat) (Hh : Heap) : Prop :=
  G ((Hh.get a0j).isCells) (cond ((ce ((Hh.get a0j).cs) 0).isMap)
  (G ((Hh.get ((ce ((Hh.get a0j).cs) 0).mapJ)).isMapOf [.str] false) (let H_43 : Heap := Hh.set ((ce ((Hh.get a0j).cs) 0).mapJ) (.map (mput (.str a1) (.obj x7fj 0) (Hh.get ((ce ((Hh.get a0j).cs) 0).mapJ)).clock (Hh.get ((ce ((Hh.get a0j).cs) 0).mapJ)).es) (cond (mhas (.str a1) (Hh.get ((ce ((Hh.get a0j).cs) 0).mapJ)).es) (Hh.get ((ce ((Hh.get a0j).cs) 0).mapJ)).clock ((Hh.get ((ce ((Hh.get a0j).cs) 0).mapJ)).clock + 1)));
    Q (.int .i64 0) H_43))
  (G ((ce ((Hh.get a0j).cs) 0).isNilmap) (False)))
theorem JR8_eq (a0j : Nat) (a1 : ByteArray) (a2 : List (List AV)) (Q : Qt) (x7fj : Nat) (Hh : Heap) : contK E0 C (E0.L 10) [.seq (codeAt (bodyOf E0 10) [1, 1, 1, 1, 1, 1]) 0] (finK E0 10 Q) .normal ⟨stt 45 [(0, .obj a0j 0), (1, .str a1), (7, .obj x7fj 0)], [], Hh⟩ = jR8 a0j a1 a2 Q x7fj Hh := by kernel_rfl
theorem JR8_step {a0j : Nat} {a1 : ByteArray} {a2 : List (List AV)} {Q : Qt} {x7fj : Nat} {Hh : Heap} (h : jR8 a0j a1 a2 Q x7fj Hh) : JR8 a0j a1 a2 Q x7fj Hh := AJoin_told (JR8_eq a0j a1 a2 Q x7fj Hh) h
def t (a0j : Nat) (a1 : ByteArray) (a2 : List (List AV)) (H : Heap) (Q : Qt) : Prop :=
  CP 20 [.str a1] H fun v_1 H_2 =>
  G ((v_1).isBool) (cond (!((v_1).toBool))
    (Q (.int .i64 11) H_2)
    (G ((H_2.get a0j).isCells) (cond ((ce ((H_2.get a0j).cs) 0).isMap)
      (G ((H_2.get ((ce ((H_2.get a0j).cs) 0).mapJ)).isMapOf [.str] false) (cond (mhas (.str a1) (H_2.get ((ce ((H_2.get a0j).cs) 0).mapJ)).es)
        (let q_3 : AV := mget (.str a1) (H_2.get ((ce ((H_2.get a0j).cs) 0).mapJ)).es;
          G ((q_3).isObj) (G ((H_2.get ((q_3).objJ)).isCells) (let q_4 : AV := ce ((H_2.get ((q_3).objJ)).cs) 0;
            cond ((q_4).isHs 1)
              (cond (ltI 65536 (addW .i64 (((q_4).hsN : Nat) : Int) (lenI a2)))
                (Q (.int .i64 6) H_2)
                (G ((H_2.get ((q_3).objJ)).isCells) (let q_5 : AV := ce ((H_2.get ((q_3).objJ)).cs) 0;
                  cond ((q_5).isHs 1)
                    (G ((H_2.get ((q_5).hsJ)).isRows 1) (cond (Nat.ble (((q_5).hsN) + a2.length) ((q_5).hsC))
                      (G (Nat.ble (((q_5).hsO + ((q_5).hsN)) + a2.length) (H_2.get ((q_5).hsJ)).xs.length) (let H_6 : Heap := H_2.set ((q_5).hsJ) (.rows 1 (splice (H_2.get ((q_5).hsJ)).xs ((q_5).hsO + ((q_5).hsN)) a2));
                        G ((H_6.get ((q_3).objJ)).isCells) (G (Nat.ble (1) (H_6.get ((q_3).objJ)).cs.length) (let H_7 : Heap := H_6.set ((q_3).objJ) (.cells (setRange (H_6.get ((q_3).objJ)).cs 0 [.hs ((q_5).hsJ) ((q_5).hsO) (((q_5).hsN) + a2.length) ((q_5).hsC) 1]));
                          JR8 a0j a1 a2 Q ((q_3).objJ) H_7))))
                      (G (room (((H_2.get ((q_5).hsJ)).xs.drop ((q_5).hsO)).take ((q_5).hsN)) a2 1) (G (Nat.ble ((q_5).hsO + ((q_5).hsN)) (H_2.get ((q_5).hsJ)).xs.length) (∀ c_8 : Nat, ((q_5).hsN) + a2.length ≤ c_8 → (((q_5).hsN) + a2.length ≤ 140737488355328 → c_8 ≤ 9223372036854775807) → (let H_9 : Heap := H_2.push (.rows 1 (pad 1 c_8 ((((H_2.get ((q_5).hsJ)).xs.drop ((q_5).hsO)).take ((q_5).hsN)) ++ a2)));
                        G ((H_9.get ((q_3).objJ)).isCells) (G (Nat.ble (1) (H_9.get ((q_3).objJ)).cs.length) (let H_10 : Heap := H_9.set ((q_3).objJ) (.cells (setRange (H_9.get ((q_3).objJ)).cs 0 [.hs H_2.next 0 (((q_5).hsN) + a2.length) c_8 1]));
                          JR8 a0j a1 a2 Q ((q_3).objJ) H_10))))))))
                    (G ((q_5).isNilsl) (G (room [] a2 1) (G ((H_2.get ((q_3).objJ)).isCells) (G (Nat.blt 0 (H_2.get ((q_3).objJ)).cs.length) ((∀ c_11 : Nat, a2.length ≤ c_11 → (a2.length ≤ 140737488355328 → c_11 ≤ 9223372036854775807) → (let H_12 : Heap := (H_2.push (.rows 1 (pad 1 c_11 a2))).set ((q_3).objJ) (.cells ((H_2.get ((q_3).objJ)).cs.set 0 (.hs H_2.next 0 a2.length c_11 1)));
                        JR8 a0j a1 a2 Q ((q_3).objJ) H_12)) ∧
                      (a2 = [] → (let H_13 : Heap := H_2.set ((q_3).objJ) (.cells ((H_2.get ((q_3).objJ)).cs.set 0 .nilsl));
                        JR8 a0j a1 a2 Q ((q_3).objJ) H_13))))))))))
              (G ((q_4).isNilsl) (cond (ltI 65536 (addW .i64 0 (lenI a2)))
                (Q (.int .i64 6) H_2)
                (G ((H_2.get ((q_3).objJ)).isCells) (let q_14 : AV := ce ((H_2.get ((q_3).objJ)).cs) 0;
                  cond ((q_14).isHs 1)
                    (G ((H_2.get ((q_14).hsJ)).isRows 1) (cond (Nat.ble (((q_14).hsN) + a2.length) ((q_14).hsC))
                      (G (Nat.ble (((q_14).hsO + ((q_14).hsN)) + a2.length) (H_2.get ((q_14).hsJ)).xs.length) (let H_15 : Heap := H_2.set ((q_14).hsJ) (.rows 1 (splice (H_2.get ((q_14).hsJ)).xs ((q_14).hsO + ((q_14).hsN)) a2));
                        G ((H_15.get ((q_3).objJ)).isCells) (G (Nat.ble (1) (H_15.get ((q_3).objJ)).cs.length) (let H_16 : Heap := H_15.set ((q_3).objJ) (.cells (setRange (H_15.get ((q_3).objJ)).cs 0 [.hs ((q_14).hsJ) ((q_14).hsO) (((q_14).hsN) + a2.length) ((q_14).hsC) 1]));
                          JR8 a0j a1 a2 Q ((q_3).objJ) H_16))))
                      (G (room (((H_2.get ((q_14).hsJ)).xs.drop ((q_14).hsO)).take ((q_14).hsN)) a2 1) (G (Nat.ble ((q_14).hsO + ((q_14).hsN)) (H_2.get ((q_14).hsJ)).xs.length) (∀ c_17 : Nat, ((q_14).hsN) + a2.length ≤ c_17 → (((q_14).hsN) + a2.length ≤ 140737488355328 → c_17 ≤ 9223372036854775807) → (let H_18 : Heap := H_2.push (.rows 1 (pad 1 c_17 ((((H_2.get ((q_14).hsJ)).xs.drop ((q_14).hsO)).take ((q_14).hsN)) ++ a2)));
                        G ((H_18.get ((q_3).objJ)).isCells) (G (Nat.ble (1) (H_18.get ((q_3).objJ)).cs.length) (let H_19 : Heap := H_18.set ((q_3).objJ) (.cells (setRange (H_18.get ((q_3).objJ)).cs 0 [.hs H_2.next 0 (((q_14).hsN) + a2.length) c_17 1]));
                          JR8 a0j a1 a2 Q ((q_3).objJ) H_19))))))))
                    (G ((q_14).isNilsl) (G (room [] a2 1) (G ((H_2.get ((q_3).objJ)).isCells) (G (Nat.blt 0 (H_2.get ((q_3).objJ)).cs.length) ((∀ c_20 : Nat, a2.length ≤ c_20 → (a2.length ≤ 140737488355328 → c_20 ≤ 9223372036854775807) → (let H_21 : Heap := (H_2.push (.rows 1 (pad 1 c_20 a2))).set ((q_3).objJ) (.cells ((H_2.get ((q_3).objJ)).cs.set 0 (.hs H_2.next 0 a2.length c_20 1)));
                        JR8 a0j a1 a2 Q ((q_3).objJ) H_21)) ∧
                      (a2 = [] → (let H_22 : Heap := H_2.set ((q_3).objJ) (.cells ((H_2.get ((q_3).objJ)).cs.set 0 .nilsl));
                        JR8 a0j a1 a2 Q ((q_3).objJ) H_22))))))))))))))
        (let H_23 : Heap := H_2.push (.cells [.nilsl, .int .i64 0]);
          G ((H_23.get H_2.next).isCells) (let q_24 : AV := ce ((H_23.get H_2.next).cs) 0;
            cond ((q_24).isHs 1)
              (cond (ltI 65536 (addW .i64 (((q_24).hsN : Nat) : Int) (lenI a2)))
                (Q (.int .i64 6) H_23)
                (G ((H_23.get H_2.next).isCells) (let q_25 : AV := ce ((H_23.get H_2.next).cs) 0;
                  cond ((q_25).isHs 1)
                    (G ((H_23.get ((q_25).hsJ)).isRows 1) (cond (Nat.ble (((q_25).hsN) + a2.length) ((q_25).hsC))
                      (G (Nat.ble (((q_25).hsO + ((q_25).hsN)) + a2.length) (H_23.get ((q_25).hsJ)).xs.length) (let H_26 : Heap := H_23.set ((q_25).hsJ) (.rows 1 (splice (H_23.get ((q_25).hsJ)).xs ((q_25).hsO + ((q_25).hsN)) a2));
                        G ((H_26.get H_2.next).isCells) (G (Nat.ble (1) (H_26.get H_2.next).cs.length) (let H_27 : Heap := H_26.set H_2.next (.cells (setRange (H_26.get H_2.next).cs 0 [.hs ((q_25).hsJ) ((q_25).hsO) (((q_25).hsN) + a2.length) ((q_25).hsC) 1]));
                          JR8 a0j a1 a2 Q H_2.next H_27))))
                      (G (room (((H_23.get ((q_25).hsJ)).xs.drop ((q_25).hsO)).take ((q_25).hsN)) a2 1) (G (Nat.ble ((q_25).hsO + ((q_25).hsN)) (H_23.get ((q_25).hsJ)).xs.length) (∀ c_28 : Nat, ((q_25).hsN) + a2.length ≤ c_28 → (((q_25).hsN) + a2.length ≤ 140737488355328 → c_28 ≤ 9223372036854775807) → (let H_29 : Heap := H_23.push (.rows 1 (pad 1 c_28 ((((H_23.get ((q_25).hsJ)).xs.drop ((q_25).hsO)).take ((q_25).hsN)) ++ a2)));
                        G ((H_29.get H_2.next).isCells) (G (Nat.ble (1) (H_29.get H_2.next).cs.length) (let H_30 : Heap := H_29.set H_2.next (.cells (setRange (H_29.get H_2.next).cs 0 [.hs H_23.next 0 (((q_25).hsN) + a2.length) c_28 1]));
                          JR8 a0j a1 a2 Q H_2.next H_30))))))))
                    (G ((q_25).isNilsl) (G (room [] a2 1) (G ((H_23.get H_2.next).isCells) (G (Nat.blt 0 (H_23.get H_2.next).cs.length) ((∀ c_31 : Nat, a2.length ≤ c_31 → (a2.length ≤ 140737488355328 → c_31 ≤ 9223372036854775807) → (let H_32 : Heap := (H_23.push (.rows 1 (pad 1 c_31 a2))).set H_2.next (.cells ((H_23.get H_2.next).cs.set 0 (.hs H_23.next 0 a2.length c_31 1)));
                        JR8 a0j a1 a2 Q H_2.next H_32)) ∧
                      (a2 = [] → (let H_33 : Heap := H_23.set H_2.next (.cells ((H_23.get H_2.next).cs.set 0 .nilsl));
                        JR8 a0j a1 a2 Q H_2.next H_33))))))))))
              (G ((q_24).isNilsl) (cond (ltI 65536 (addW .i64 0 (lenI a2)))
                (Q (.int .i64 6) H_23)
                (G ((H_23.get H_2.next).isCells) (let q_34 : AV := ce ((H_23.get H_2.next).cs) 0;
                  cond ((q_34).isHs 1)
                    (G ((H_23.get ((q_34).hsJ)).isRows 1) (cond (Nat.ble (((q_34).hsN) + a2.length) ((q_34).hsC))
                      (G (Nat.ble (((q_34).hsO + ((q_34).hsN)) + a2.length) (H_23.get ((q_34).hsJ)).xs.length) (let H_35 : Heap := H_23.set ((q_34).hsJ) (.rows 1 (splice (H_23.get ((q_34).hsJ)).xs ((q_34).hsO + ((q_34).hsN)) a2));
                        G ((H_35.get H_2.next).isCells) (G (Nat.ble (1) (H_35.get H_2.next).cs.length) (let H_36 : Heap := H_35.set H_2.next (.cells (setRange (H_35.get H_2.next).cs 0 [.hs ((q_34).hsJ) ((q_34).hsO) (((q_34).hsN) + a2.length) ((q_34).hsC) 1]));
                          JR8 a0j a1 a2 Q H_2.next H_36))))
                      (G (room (((H_23.get ((q_34).hsJ)).xs.drop ((q_34).hsO)).take ((q_34).hsN)) a2 1) (G (Nat.ble ((q_34).hsO + ((q_34).hsN)) (H_23.get ((q_34).hsJ)).xs.length) (∀ c_37 : Nat, ((q_34).hsN) + a2.length ≤ c_37 → (((q_34).hsN) + a2.length ≤ 140737488355328 → c_37 ≤ 9223372036854775807) → (let H_38 : Heap := H_23.push (.rows 1 (pad 1 c_37 ((((H_23.get ((q_34).hsJ)).xs.drop ((q_34).hsO)).take ((q_34).hsN)) ++ a2)));
                        G ((H_38.get H_2.next).isCells) (G (Nat.ble (1) (H_38.get H_2.next).cs.length) (let H_39 : Heap := H_38.set H_2.next (.cells (setRange (H_38.get H_2.next).cs 0 [.hs H_23.next 0 (((q_34).hsN) + a2.length) c_37 1]));
                          JR8 a0j a1 a2 Q H_2.next H_39))))))))
                    (G ((q_34).isNilsl) (G (room [] a2 1) (G ((H_23.get H_2.next).isCells) (G (Nat.blt 0 (H_23.get H_2.next).cs.length) ((∀ c_40 : Nat, a2.length ≤ c_40 → (a2.length ≤ 140737488355328 → c_40 ≤ 9223372036854775807) → (let H_41 : Heap := (H_23.push (.rows 1 (pad 1 c_40 a2))).set H_2.next (.cells ((H_23.get H_2.next).cs.set 0 (.hs H_23.next 0 a2.length c_40 1)));
                        JR8 a0j a1 a2 Q H_2.next H_41)) ∧
                      (a2 = [] → (let H_42 : Heap := H_23.set H_2.next (.cells ((H_23.get H_2.next).cs.set 0 .nilsl));
                        JR8 a0j a1 a2 Q H_2.next H_42)))))))))))))))
      (G ((ce ((H_2.get a0j).cs) 0).isNilmap) (False)))))
theorem t_eq (a0j : Nat) (a1 : ByteArray) (a2 : List (List AV)) (H : Heap) (Q : Qt) : aBody E0 C 10 [.obj a0j 0, .str a1, .sl 0 1 a2] H Q = t a0j a1 a2 H Q := by kernel_rfl
theorem call {a0j : Nat} {a1 : ByteArray} {a2 : List (List AV)} {H : Heap} {Q : Qt} (h : t a0j a1 a2 H Q) : C 10 [.obj a0j 0, .str a1, .sl 0 1 a2] H Q := Call_told (E := E0) (t_eq a0j a1 a2 H Q) h
end F10
/-! ### (*broker/disk.Disk).Sync: function 11 -/
namespace F11
def t (a0j : Nat) (a1 : ByteArray) (H : Heap) (Q : Qt) : Prop :=
  G ((H.get a0j).isCells) (cond ((ce ((H.get a0j).cs) 0).isMap)
  (G ((H.get ((ce ((H.get a0j).cs) 0).mapJ)).isMapOf [.str] false) (cond (mhas (.str a1) (H.get ((ce ((H.get a0j).cs) 0).mapJ)).es)
    (let q_1 : AV := mget (.str a1) (H.get ((ce ((H.get a0j).cs) 0).mapJ)).es;
      G ((q_1).isObj) (G ((H.get ((q_1).objJ)).isCells) (let q_2 : AV := ce ((H.get ((q_1).objJ)).cs) 0;
        cond ((q_2).isHs 1)
          (G ((H.get ((q_1).objJ)).isCells) (G (Nat.ble (2) (H.get ((q_1).objJ)).cs.length) (let H_3 : Heap := H.set ((q_1).objJ) (.cells (setRange (H.get ((q_1).objJ)).cs 1 [.int .i64 (((q_2).hsN : Nat) : Int)]));
            Q (.int .i64 0) H_3)))
          (G ((q_2).isNilsl) (G ((H.get ((q_1).objJ)).isCells) (G (Nat.ble (2) (H.get ((q_1).objJ)).cs.length) (let H_4 : Heap := H.set ((q_1).objJ) (.cells (setRange (H.get ((q_1).objJ)).cs 1 [.int .i64 0]));
            Q (.int .i64 0) H_4)))))))
    (Q (.int .i64 8) H)))
  (G ((ce ((H.get a0j).cs) 0).isNilmap) (False)))
theorem t_eq (a0j : Nat) (a1 : ByteArray) (H : Heap) (Q : Qt) : aBody E0 C 11 [.obj a0j 0, .str a1] H Q = t a0j a1 H Q := by kernel_rfl
theorem call {a0j : Nat} {a1 : ByteArray} {H : Heap} {Q : Qt} (h : t a0j a1 H Q) : C 11 [.obj a0j 0, .str a1] H Q := Call_told (E := E0) (t_eq a0j a1 H Q) h
end F11
/-! ### (*broker/disk.Disk).Crash: function 12 -/
namespace F12
def K0 (Q : Qt) : Ex → St → Prop := (contK E0 C (E0.L 12) [.block 0 0] (finK E0 12 Q))
def L0 (a0j : Nat) (a1 : List (List AV)) (Q : Qt) (x9 : List (List AV)) (x10 x11 : Int) (Hh : Heap) : Prop := ALoop (fun K s => awp E0 C (E0.L 12) (codeAt (bodyOf E0 12) [1, 0, 0]) 1 s K) (clean [(0, 0), (1, 0), (9, 0), (10, 0), (11, 0)] 0) (K0 Q) ⟨stt 67 [(0, .obj a0j 0), (1, .sl 0 1 a1), (9, .sl 0 1 x9), (10, .int .i64 x10), (11, .int .i64 x11)], [], Hh⟩
def r0 (a0j : Nat) (a1 : List (List AV)) (Q : Qt) (x9 : List (List AV)) (x10 x11 : Int) (Hh : Heap) : Prop :=
  cond (ltI x11 x10)
  (G (leI 0 x11) (G (ltI x11 (lenI x9)) (G ((ce (ro x9 x11.toNat) 0).isStr) (G ((Hh.get a0j).isCells) (cond ((ce ((Hh.get a0j).cs) 0).isMap)
    (G ((Hh.get ((ce ((Hh.get a0j).cs) 0).mapJ)).isMapOf [.str] false) (cond (mhas (.str ((ce (ro x9 x11.toNat) 0).toStr)) (Hh.get ((ce ((Hh.get a0j).cs) 0).mapJ)).es)
      (let q_3 : AV := mget (.str ((ce (ro x9 x11.toNat) 0).toStr)) (Hh.get ((ce ((Hh.get a0j).cs) 0).mapJ)).es;
        G ((q_3).isObj) (cond (ltI x11 (lenI a1))
          (G (leI 0 x11) (G (ltI x11 (lenI a1)) (G ((ce (ro a1 x11.toNat) 0).isInt .i64) (G ((Hh.get ((q_3).objJ)).isCells) (let q_4 : AV := ce ((Hh.get ((q_3).objJ)).cs) 0;
            cond ((q_4).isHs 1)
              (G ((Hh.get ((q_3).objJ)).isCells) (let q_5 : AV := ce ((Hh.get ((q_3).objJ)).cs) 1;
                G ((q_5).isInt .i64) (G ((Hh.get ((q_3).objJ)).isCells) (let q_6 : AV := ce ((Hh.get ((q_3).objJ)).cs) 1;
                  G ((q_6).isInt .i64) (G ((Hh.get ((q_3).objJ)).isCells) (G (Nat.ble (2) (Hh.get ((q_3).objJ)).cs.length) (let H_7 : Heap := Hh.set ((q_3).objJ) (.cells (setRange (Hh.get ((q_3).objJ)).cs 1 [.int .i64 (addW .i64 ((q_6).toInt) (cond (ltI 0 (cond (ltI (subW .i64 (((q_4).hsN : Nat) : Int) ((q_5).toInt)) ((ce (ro a1 x11.toNat) 0).toInt)) (subW .i64 (((q_4).hsN : Nat) : Int) ((q_5).toInt)) ((ce (ro a1 x11.toNat) 0).toInt))) (cond (ltI (subW .i64 (((q_4).hsN : Nat) : Int) ((q_5).toInt)) ((ce (ro a1 x11.toNat) 0).toInt)) (subW .i64 (((q_4).hsN : Nat) : Int) ((q_5).toInt)) ((ce (ro a1 x11.toNat) 0).toInt)) 0))]));
                    G ((H_7.get ((q_3).objJ)).isCells) (let q_8 : AV := ce ((H_7.get ((q_3).objJ)).cs) 0;
                      cond ((q_8).isHs 1)
                        (G ((H_7.get ((q_3).objJ)).isCells) (let q_9 : AV := ce ((H_7.get ((q_3).objJ)).cs) 1;
                          G ((q_9).isInt .i64) (G ((H_7.get ((q_3).objJ)).isCells) (let q_10 : AV := ce ((H_7.get ((q_3).objJ)).cs) 1;
                            G ((q_10).isInt .i64) (G (leI 0 ((q_9).toInt)) (G (leI ((q_9).toInt) ((q_10).toInt)) (G (leI ((q_10).toInt) (((q_8).hsC : Nat) : Int)) (G ((H_7.get ((q_3).objJ)).isCells) (G (Nat.ble (1) (H_7.get ((q_3).objJ)).cs.length) (let H_11 : Heap := H_7.set ((q_3).objJ) (.cells (setRange (H_7.get ((q_3).objJ)).cs 0 [.hs ((q_8).hsJ) ((q_8).hsO) (((q_9).toInt).toNat) (((q_10).toInt).toNat) 1]));
                              L0 a0j a1 Q x9 x10 (addW .i64 x11 1) H_11))))))))))
                        (G ((q_8).isNilsl) (G ((H_7.get ((q_3).objJ)).isCells) (let q_12 : AV := ce ((H_7.get ((q_3).objJ)).cs) 1;
                          G ((q_12).isInt .i64) (G ((H_7.get ((q_3).objJ)).isCells) (let q_13 : AV := ce ((H_7.get ((q_3).objJ)).cs) 1;
                            G ((q_13).isInt .i64) (G (eqI ((q_12).toInt) 0) (G (eqI ((q_13).toInt) 0) (G ((H_7.get ((q_3).objJ)).isCells) (G (Nat.ble (1) (H_7.get ((q_3).objJ)).cs.length) (let H_14 : Heap := H_7.set ((q_3).objJ) (.cells (setRange (H_7.get ((q_3).objJ)).cs 0 [.nilsl]));
                              L0 a0j a1 Q x9 x10 (addW .i64 x11 1) H_14))))))))))))))))))
              (G ((q_4).isNilsl) (G ((Hh.get ((q_3).objJ)).isCells) (let q_15 : AV := ce ((Hh.get ((q_3).objJ)).cs) 1;
                G ((q_15).isInt .i64) (G ((Hh.get ((q_3).objJ)).isCells) (let q_16 : AV := ce ((Hh.get ((q_3).objJ)).cs) 1;
                  G ((q_16).isInt .i64) (G ((Hh.get ((q_3).objJ)).isCells) (G (Nat.ble (2) (Hh.get ((q_3).objJ)).cs.length) (let H_17 : Heap := Hh.set ((q_3).objJ) (.cells (setRange (Hh.get ((q_3).objJ)).cs 1 [.int .i64 (addW .i64 ((q_16).toInt) (cond (ltI 0 (cond (ltI (subW .i64 0 ((q_15).toInt)) ((ce (ro a1 x11.toNat) 0).toInt)) (subW .i64 0 ((q_15).toInt)) ((ce (ro a1 x11.toNat) 0).toInt))) (cond (ltI (subW .i64 0 ((q_15).toInt)) ((ce (ro a1 x11.toNat) 0).toInt)) (subW .i64 0 ((q_15).toInt)) ((ce (ro a1 x11.toNat) 0).toInt)) 0))]));
                    G ((H_17.get ((q_3).objJ)).isCells) (let q_18 : AV := ce ((H_17.get ((q_3).objJ)).cs) 0;
                      cond ((q_18).isHs 1)
                        (G ((H_17.get ((q_3).objJ)).isCells) (let q_19 : AV := ce ((H_17.get ((q_3).objJ)).cs) 1;
                          G ((q_19).isInt .i64) (G ((H_17.get ((q_3).objJ)).isCells) (let q_20 : AV := ce ((H_17.get ((q_3).objJ)).cs) 1;
                            G ((q_20).isInt .i64) (G (leI 0 ((q_19).toInt)) (G (leI ((q_19).toInt) ((q_20).toInt)) (G (leI ((q_20).toInt) (((q_18).hsC : Nat) : Int)) (G ((H_17.get ((q_3).objJ)).isCells) (G (Nat.ble (1) (H_17.get ((q_3).objJ)).cs.length) (let H_21 : Heap := H_17.set ((q_3).objJ) (.cells (setRange (H_17.get ((q_3).objJ)).cs 0 [.hs ((q_18).hsJ) ((q_18).hsO) (((q_19).toInt).toNat) (((q_20).toInt).toNat) 1]));
                              L0 a0j a1 Q x9 x10 (addW .i64 x11 1) H_21))))))))))
                        (G ((q_18).isNilsl) (G ((H_17.get ((q_3).objJ)).isCells) (let q_22 : AV := ce ((H_17.get ((q_3).objJ)).cs) 1;
                          G ((q_22).isInt .i64) (G ((H_17.get ((q_3).objJ)).isCells) (let q_23 : AV := ce ((H_17.get ((q_3).objJ)).cs) 1;
                            G ((q_23).isInt .i64) (G (eqI ((q_22).toInt) 0) (G (eqI ((q_23).toInt) 0) (G ((H_17.get ((q_3).objJ)).isCells) (G (Nat.ble (1) (H_17.get ((q_3).objJ)).cs.length) (let H_24 : Heap := H_17.set ((q_3).objJ) (.cells (setRange (H_17.get ((q_3).objJ)).cs 0 [.nilsl]));
                              L0 a0j a1 Q x9 x10 (addW .i64 x11 1) H_24))))))))))))))))))))))))
          (G ((Hh.get ((q_3).objJ)).isCells) (let q_25 : AV := ce ((Hh.get ((q_3).objJ)).cs) 1;
            G ((q_25).isInt .i64) (G ((Hh.get ((q_3).objJ)).isCells) (G (Nat.ble (2) (Hh.get ((q_3).objJ)).cs.length) (let H_26 : Heap := Hh.set ((q_3).objJ) (.cells (setRange (Hh.get ((q_3).objJ)).cs 1 [.int .i64 (addW .i64 ((q_25).toInt) 0)]));
              G ((H_26.get ((q_3).objJ)).isCells) (let q_27 : AV := ce ((H_26.get ((q_3).objJ)).cs) 0;
                cond ((q_27).isHs 1)
                  (G ((H_26.get ((q_3).objJ)).isCells) (let q_28 : AV := ce ((H_26.get ((q_3).objJ)).cs) 1;
                    G ((q_28).isInt .i64) (G ((H_26.get ((q_3).objJ)).isCells) (let q_29 : AV := ce ((H_26.get ((q_3).objJ)).cs) 1;
                      G ((q_29).isInt .i64) (G (leI 0 ((q_28).toInt)) (G (leI ((q_28).toInt) ((q_29).toInt)) (G (leI ((q_29).toInt) (((q_27).hsC : Nat) : Int)) (G ((H_26.get ((q_3).objJ)).isCells) (G (Nat.ble (1) (H_26.get ((q_3).objJ)).cs.length) (let H_30 : Heap := H_26.set ((q_3).objJ) (.cells (setRange (H_26.get ((q_3).objJ)).cs 0 [.hs ((q_27).hsJ) ((q_27).hsO) (((q_28).toInt).toNat) (((q_29).toInt).toNat) 1]));
                        L0 a0j a1 Q x9 x10 (addW .i64 x11 1) H_30))))))))))
                  (G ((q_27).isNilsl) (G ((H_26.get ((q_3).objJ)).isCells) (let q_31 : AV := ce ((H_26.get ((q_3).objJ)).cs) 1;
                    G ((q_31).isInt .i64) (G ((H_26.get ((q_3).objJ)).isCells) (let q_32 : AV := ce ((H_26.get ((q_3).objJ)).cs) 1;
                      G ((q_32).isInt .i64) (G (eqI ((q_31).toInt) 0) (G (eqI ((q_32).toInt) 0) (G ((H_26.get ((q_3).objJ)).isCells) (G (Nat.ble (1) (H_26.get ((q_3).objJ)).cs.length) (let H_33 : Heap := H_26.set ((q_3).objJ) (.cells (setRange (H_26.get ((q_3).objJ)).cs 0 [.nilsl]));
                        L0 a0j a1 Q x9 x10 (addW .i64 x11 1) H_33))))))))))))))))))
      (cond (ltI x11 (lenI a1))
        (G (leI 0 x11) (G (ltI x11 (lenI a1)) (G ((ce (ro a1 x11.toNat) 0).isInt .i64) (False))))
        (False))))
    (G ((ce ((Hh.get a0j).cs) 0).isNilmap) (False)))))))
  (Q (.tup []) Hh)
theorem r0_eq (a0j : Nat) (a1 : List (List AV)) (Q : Qt) (x9 : List (List AV)) (x10 x11 : Int) (Hh : Heap) : (fun K s => awp E0 C (E0.L 12) (codeAt (bodyOf E0 12) [1, 0, 0]) 1 s K) (ALoopK (fun K s => awp E0 C (E0.L 12) (codeAt (bodyOf E0 12) [1, 0, 0]) 1 s K) (clean [(0, 0), (1, 0), (9, 0), (10, 0), (11, 0)] 0) (K0 Q)) ⟨stt 67 [(0, .obj a0j 0), (1, .sl 0 1 a1), (9, .sl 0 1 x9), (10, .int .i64 x10), (11, .int .i64 x11)], [], Hh⟩ = r0 a0j a1 Q x9 x10 x11 Hh := by kernel_rfl
theorem L0_step {a0j : Nat} {a1 : List (List AV)} {Q : Qt} {x9 : List (List AV)} {x10 x11 : Int} {Hh : Heap} (h : r0 a0j a1 Q x9 x10 x11 Hh) : L0 a0j a1 Q x9 x10 x11 Hh := ALoop_told (r0_eq a0j a1 Q x9 x10 x11 Hh) h
def t (a0j : Nat) (a1 : List (List AV)) (H : Heap) (Q : Qt) : Prop :=
  C 19 [.obj a0j 0] H fun v_1 H_2 =>
  G ((v_1).isSl 1) (L0 a0j a1 Q ((v_1).slXs) (lenI ((v_1).slXs)) 0 H_2)
theorem t_eq (a0j : Nat) (a1 : List (List AV)) (H : Heap) (Q : Qt) : aBody E0 C 12 [.obj a0j 0, .sl 0 1 a1] H Q = t a0j a1 H Q := by kernel_rfl
theorem call {a0j : Nat} {a1 : List (List AV)} {H : Heap} {Q : Qt} (h : t a0j a1 H Q) : C 12 [.obj a0j 0, .sl 0 1 a1] H Q := Call_told (E := E0) (t_eq a0j a1 H Q) h
end F12
/-! ### (*broker/disk.Disk).Read: function 13 -/
namespace F13
def t (a0j : Nat) (a1 : ByteArray) (H : Heap) (Q : Qt) : Prop :=
  G ((H.get a0j).isCells) (cond ((ce ((H.get a0j).cs) 0).isMap)
  (G ((H.get ((ce ((H.get a0j).cs) 0).mapJ)).isMapOf [.str] false) (cond (mhas (.str a1) (H.get ((ce ((H.get a0j).cs) 0).mapJ)).es)
    (let q_1 : AV := mget (.str a1) (H.get ((ce ((H.get a0j).cs) 0).mapJ)).es;
      G ((q_1).isObj) (G ((H.get ((q_1).objJ)).isCells) (let q_2 : AV := ce ((H.get ((q_1).objJ)).cs) 0;
        cond ((q_2).isHs 1)
          (G ((H.get ((q_2).hsJ)).isRows 1) (G (Nat.ble ((q_2).hsO + ((q_2).hsN)) (H.get ((q_2).hsJ)).xs.length) (G (room [] (((H.get ((q_2).hsJ)).xs.drop ((q_2).hsO)).take ((q_2).hsN)) 1) (Q (.tup [.sl 0 1 (((H.get ((q_2).hsJ)).xs.drop ((q_2).hsO)).take ((q_2).hsN)), .int .i64 0]) H))))
          (G ((q_2).isNilsl) (G (room [] [] 1) (Q (.tup [.sl 0 1 [], .int .i64 0]) H))))))
    (Q (.tup [.nilsl, .int .i64 8]) H)))
  (G ((ce ((H.get a0j).cs) 0).isNilmap) (False)))
theorem t_eq (a0j : Nat) (a1 : ByteArray) (H : Heap) (Q : Qt) : aBody E0 C 13 [.obj a0j 0, .str a1] H Q = t a0j a1 H Q := by kernel_rfl
theorem call {a0j : Nat} {a1 : ByteArray} {H : Heap} {Q : Qt} (h : t a0j a1 H Q) : C 13 [.obj a0j 0, .str a1] H Q := Call_told (E := E0) (t_eq a0j a1 H Q) h
end F13
/-! ### broker/brokerlaw36.short: function 14 -/
namespace F14
def K0 (Q : Qt) : Ex → St → Prop := (contK E0 C (E0.L 14) [.block 0 0, .seq (codeAt (bodyOf E0 14) [1, 1, 1]) 1] (finK E0 14 Q))
def L0 (a0 : List (List AV)) (Q : Qt) (x3i : Int) (Hh : Heap) : Prop := ALoop (fun K s => awp E0 C (E0.L 14) (codeAt (bodyOf E0 14) [1, 1, 0, 1, 0, 0]) 1 s K) (clean [(0, 0), (3, 0)] 0) (K0 Q) ⟨stt 47 [(0, .sl 0 5 a0), (3, .int .i64 x3i)], [], Hh⟩
def JR6 (a0 : List (List AV)) (Q : Qt) (x3i : Int) (x46 : Bool) (Hh : Heap) : Prop := AJoin (contK E0 C (E0.L 14) [.seq (codeAt (bodyOf E0 14) [1, 1, 0, 1, 0, 0, 1, 0, 0, 1]) 1, .block 1 0, .seq (codeAt (bodyOf E0 14) [1, 1, 0, 1, 0, 0, 1, 1]) 1, .loop (codeAt (bodyOf E0 14) [1, 1, 0, 1, 0, 0]) 1 [(0, 0), (3, 0)] 0, .block 0 0, .seq (codeAt (bodyOf E0 14) [1, 1, 1]) 1] (finK E0 14 Q)) ⟨stt 47 [(0, .sl 0 5 a0), (3, .int .i64 x3i), (46, .bool x46)], [], Hh⟩
def r0 (a0 : List (List AV)) (Q : Qt) (x3i : Int) (Hh : Heap) : Prop :=
  cond (ltI x3i (lenI a0))
  (G (leI 0 x3i) (G (ltI x3i (lenI a0)) (G ((ce (ro a0 x3i.toNat) 3).isSl 1) (cond (ltI 400 (lenI ((ce (ro a0 x3i.toNat) 3).slXs)))
    (JR6 a0 Q x3i true Hh)
    (G (leI 0 x3i) (G (ltI x3i (lenI a0)) (G ((ce (ro a0 x3i.toNat) 1).isStr) (cond (ltI 400 (sizeI ((ce (ro a0 x3i.toNat) 1).toStr)))
      (JR6 a0 Q x3i true Hh)
      (G (leI 0 x3i) (G (ltI x3i (lenI a0)) (G ((ce (ro a0 x3i.toNat) 2).isStr) (cond (ltI 400 (sizeI ((ce (ro a0 x3i.toNat) 2).toStr)))
        (JR6 a0 Q x3i true Hh)
        (G (leI 0 x3i) (G (ltI x3i (lenI a0)) (G ((ce (ro a0 x3i.toNat) 4).isSl 1) (JR6 a0 Q x3i (ltI 20 (lenI ((ce (ro a0 x3i.toNat) 4).slXs))) Hh))))))))))))))))
  (Q (.bool true) Hh)
theorem r0_eq (a0 : List (List AV)) (Q : Qt) (x3i : Int) (Hh : Heap) : (fun K s => awp E0 C (E0.L 14) (codeAt (bodyOf E0 14) [1, 1, 0, 1, 0, 0]) 1 s K) (ALoopK (fun K s => awp E0 C (E0.L 14) (codeAt (bodyOf E0 14) [1, 1, 0, 1, 0, 0]) 1 s K) (clean [(0, 0), (3, 0)] 0) (K0 Q)) ⟨stt 47 [(0, .sl 0 5 a0), (3, .int .i64 x3i)], [], Hh⟩ = r0 a0 Q x3i Hh := by kernel_rfl
theorem L0_step {a0 : List (List AV)} {Q : Qt} {x3i : Int} {Hh : Heap} (h : r0 a0 Q x3i Hh) : L0 a0 Q x3i Hh := ALoop_told (r0_eq a0 Q x3i Hh) h
def jR6 (a0 : List (List AV)) (Q : Qt) (x3i : Int) (x46 : Bool) (Hh : Heap) : Prop :=
  cond x46
  (Q (.bool false) Hh)
  (L0 a0 Q (addW .i64 x3i 1) Hh)
theorem JR6_eq (a0 : List (List AV)) (Q : Qt) (x3i : Int) (x46 : Bool) (Hh : Heap) : contK E0 C (E0.L 14) [.seq (codeAt (bodyOf E0 14) [1, 1, 0, 1, 0, 0, 1, 0, 0, 1]) 1, .block 1 0, .seq (codeAt (bodyOf E0 14) [1, 1, 0, 1, 0, 0, 1, 1]) 1, .loop (codeAt (bodyOf E0 14) [1, 1, 0, 1, 0, 0]) 1 [(0, 0), (3, 0)] 0, .block 0 0, .seq (codeAt (bodyOf E0 14) [1, 1, 1]) 1] (finK E0 14 Q) .normal ⟨stt 47 [(0, .sl 0 5 a0), (3, .int .i64 x3i), (46, .bool x46)], [], Hh⟩ = jR6 a0 Q x3i x46 Hh := by kernel_rfl
theorem JR6_step {a0 : List (List AV)} {Q : Qt} {x3i : Int} {x46 : Bool} {Hh : Heap} (h : jR6 a0 Q x3i x46 Hh) : JR6 a0 Q x3i x46 Hh := AJoin_told (JR6_eq a0 Q x3i x46 Hh) h
def t (a0 : List (List AV)) (H : Heap) (Q : Qt) : Prop :=
  cond (ltI 40 (lenI a0))
  (Q (.bool false) H)
  (L0 a0 Q 0 H)
theorem t_eq (a0 : List (List AV)) (H : Heap) (Q : Qt) : aBody E0 C 14 [.sl 0 5 a0] H Q = t a0 H Q := by kernel_rfl
theorem call {a0 : List (List AV)} {H : Heap} {Q : Qt} (h : t a0 H Q) : C 14 [.sl 0 5 a0] H Q := Call_told (E := E0) (t_eq a0 H Q) h
end F14
/-! ### broker/brokerref36.New: function 15 -/
namespace F15
def t  (H : Heap) (Q : Qt) : Prop :=
  Q (.agg [.nilsl]) H
theorem t_eq  (H : Heap) (Q : Qt) : aBody E0 C 15 [] H Q = t  H Q := by kernel_rfl
theorem call  {H : Heap} {Q : Qt} (h : t  H Q) : C 15 [] H Q := Call_told (E := E0) (t_eq  H Q) h
end F15
/-! ### broker/brokerlaw36.same: function 16 -/
namespace F16
def K0 (Q : Qt) : Ex → St → Prop := (contK E0 C (E0.L 16) [.block 0 1, .seq (codeAt (bodyOf E0 16) [1, 1, 1]) 1] (finK E0 16 Q))
def L0 (a0j : Nat) (a1_0 : List (List AV)) (Q : Qt) (x5i : Int) (Hh : Heap) : Prop := ALoop (fun K s => awp E0 C (E0.L 16) (codeAt (bodyOf E0 16) [1, 1, 0, 1, 0, 0]) 1 s K) (clean [(0, 0), (3, 0), (5, 0)] 1) (K0 Q) ⟨stt 45 [(0, .obj a0j 0), (3, .ptr 0 0), (5, .int .i64 x5i)], [.cells [.sl 0 3 a1_0]], Hh⟩
def r0 (a0j : Nat) (a1_0 : List (List AV)) (Q : Qt) (x5i : Int) (Hh : Heap) : Prop :=
  cond (ltI x5i (lenI a1_0))
  (G (leI 0 x5i) (G (ltI x5i (lenI a1_0)) (G ((ce (ro a1_0 x5i.toNat) 0).isStr) (C 13 [.obj a0j 0, .str ((ce (ro a1_0 x5i.toNat) 0).toStr)] Hh fun v_13 H_14 =>
    G ((v_13).isTup && Nat.beq (v_13).tupVs.length 2) (G ((((v_13).tupVs).headD .any).isSl 1) (G (((((v_13).tupVs).tail).headD .any).isInt .i64) (∃ s_15 : ByteArray, (((v_13).tupVs).headD .any).slXs = bytesAV s_15 ∧ (G (leI 0 x5i) (G (ltI x5i (lenI a1_0)) (G ((ce (ro a1_0 x5i.toNat) 1).isStr) (cond (!(eqS s_15 ((ce (ro a1_0 x5i.toNat) 1).toStr)))
      (Q (.bool false) H_14)
      (cond (!(eqI (((((v_13).tupVs).tail).headD .any).toInt) 0))
        (Q (.bool false) H_14)
        (L0 a0j a1_0 Q (addW .i64 x5i 1) H_14)))))))))))))
  (Q (.bool true) Hh)
theorem r0_eq (a0j : Nat) (a1_0 : List (List AV)) (Q : Qt) (x5i : Int) (Hh : Heap) : (fun K s => awp E0 C (E0.L 16) (codeAt (bodyOf E0 16) [1, 1, 0, 1, 0, 0]) 1 s K) (ALoopK (fun K s => awp E0 C (E0.L 16) (codeAt (bodyOf E0 16) [1, 1, 0, 1, 0, 0]) 1 s K) (clean [(0, 0), (3, 0), (5, 0)] 1) (K0 Q)) ⟨stt 45 [(0, .obj a0j 0), (3, .ptr 0 0), (5, .int .i64 x5i)], [.cells [.sl 0 3 a1_0]], Hh⟩ = r0 a0j a1_0 Q x5i Hh := by kernel_rfl
theorem L0_step {a0j : Nat} {a1_0 : List (List AV)} {Q : Qt} {x5i : Int} {Hh : Heap} (h : r0 a0j a1_0 Q x5i Hh) : L0 a0j a1_0 Q x5i Hh := ALoop_told (r0_eq a0j a1_0 Q x5i Hh) h
def t (a0j : Nat) (a1_0 : List (List AV)) (H : Heap) (Q : Qt) : Prop :=
  (C 19 [.obj a0j 0] H fun v_1 H_2 =>
    G ((v_1).isSl 1) (CP 22 [.agg [.sl 0 3 a1_0]] H_2 fun v_3 H_4 =>
      G ((v_3).isSl 1) (CP 21 [.sl 0 1 ((v_1).slXs), .sl 0 1 ((v_3).slXs)] H_4 fun v_5 H_6 =>
        G ((v_5).isBool) (cond (!((v_5).toBool))
          (Q (.bool false) H_6)
          (L0 a0j a1_0 Q 0 H_6))))) ∧
  (C 19 [.obj a0j 0] H fun v_7 H_8 =>
    G ((v_7).isSl 1) (CP 22 [.agg [.sl 0 3 a1_0]] H_8 fun v_9 H_10 =>
      G ((v_9).isSl 1) (CP 21 [.sl 0 1 ((v_7).slXs), .sl 0 1 ((v_9).slXs)] H_10 fun v_11 H_12 =>
        G ((v_11).isBool) (cond (!((v_11).toBool))
          (Q (.bool false) H_12)
          (L0 a0j a1_0 Q 0 H_12)))))
theorem t_eq (a0j : Nat) (a1_0 : List (List AV)) (H : Heap) (Q : Qt) : aBody E0 C 16 [.obj a0j 0, .agg [.sl 0 3 a1_0]] H Q = t a0j a1_0 H Q := by kernel_rfl
theorem call {a0j : Nat} {a1_0 : List (List AV)} {H : Heap} {Q : Qt} (h : t a0j a1_0 H Q) : C 16 [.obj a0j 0, .agg [.sl 0 3 a1_0]] H Q := Call_told (E := E0) (t_eq a0j a1_0 H Q) h
end F16
/-! ### broker/brokerlaw36.do: function 17 -/
namespace F17
def t (a0j : Nat) (a1_0 : List (List AV)) (a2_0 : Int) (a2_1 a2_2 : ByteArray) (a2_3 a2_4 : List (List AV)) (H : Heap) (Q : Qt) : Prop :=
  cond (eqI (Int.tmod a2_0 8) 0)
  (cond (eqI (Int.tmod a2_0 8) 0)
    (C 10 [.obj a0j 0, .str a2_1, .sl 0 1 a2_3] H fun v_1 H_2 =>
      G ((v_1).isInt .i64) (CP 23 [.agg [.sl 0 3 a1_0], .str a2_1, .sl 0 1 a2_3] H_2 fun v_3 H_4 =>
        G ((v_3).isTup && Nat.beq (v_3).tupVs.length 2) (G ((((v_3).tupVs).headD .any).isAgg && Nat.beq (((v_3).tupVs).headD .any).aggCs.length 1) (G ((((((v_3).tupVs).headD .any).aggCs).headD .any).isSl 3) (G (((((v_3).tupVs).tail).headD .any).isInt .i64) (Q (.tup [.agg [.sl 0 3 ((((((v_3).tupVs).headD .any).aggCs).headD .any).slXs)], .bool (eqI ((v_1).toInt) (((((v_3).tupVs).tail).headD .any).toInt))]) H_4))))))
    (cond (eqI (Int.tmod a2_0 8) 3)
      (C 11 [.obj a0j 0, .str a2_1] H fun v_5 H_6 =>
        G ((v_5).isInt .i64) (CP 24 [.agg [.sl 0 3 a1_0], .str a2_1] H_6 fun v_7 H_8 =>
          G ((v_7).isTup && Nat.beq (v_7).tupVs.length 2) (G ((((v_7).tupVs).headD .any).isAgg && Nat.beq (((v_7).tupVs).headD .any).aggCs.length 1) (G ((((((v_7).tupVs).headD .any).aggCs).headD .any).isSl 3) (G (((((v_7).tupVs).tail).headD .any).isInt .i64) (Q (.tup [.agg [.sl 0 3 ((((((v_7).tupVs).headD .any).aggCs).headD .any).slXs)], .bool (eqI ((v_5).toInt) (((((v_7).tupVs).tail).headD .any).toInt))]) H_8))))))
      (cond (eqI (Int.tmod a2_0 8) 4)
        (C 25 [.obj a0j 0, .str a2_1, .str a2_2] H fun v_9 H_10 =>
          G ((v_9).isInt .i64) (CP 26 [.agg [.sl 0 3 a1_0], .str a2_1, .str a2_2] H_10 fun v_11 H_12 =>
            G ((v_11).isTup && Nat.beq (v_11).tupVs.length 2) (G ((((v_11).tupVs).headD .any).isAgg && Nat.beq (((v_11).tupVs).headD .any).aggCs.length 1) (G ((((((v_11).tupVs).headD .any).aggCs).headD .any).isSl 3) (G (((((v_11).tupVs).tail).headD .any).isInt .i64) (Q (.tup [.agg [.sl 0 3 ((((((v_11).tupVs).headD .any).aggCs).headD .any).slXs)], .bool (eqI ((v_9).toInt) (((((v_11).tupVs).tail).headD .any).toInt))]) H_12))))))
        (cond (eqI (Int.tmod a2_0 8) 5)
          (C 27 [.obj a0j 0, .str a2_1] H fun v_13 H_14 =>
            G ((v_13).isInt .i64) (CP 28 [.agg [.sl 0 3 a1_0], .str a2_1] H_14 fun v_15 H_16 =>
              G ((v_15).isTup && Nat.beq (v_15).tupVs.length 2) (G ((((v_15).tupVs).headD .any).isAgg && Nat.beq (((v_15).tupVs).headD .any).aggCs.length 1) (G ((((((v_15).tupVs).headD .any).aggCs).headD .any).isSl 3) (G (((((v_15).tupVs).tail).headD .any).isInt .i64) (Q (.tup [.agg [.sl 0 3 ((((((v_15).tupVs).headD .any).aggCs).headD .any).slXs)], .bool (eqI ((v_13).toInt) (((((v_15).tupVs).tail).headD .any).toInt))]) H_16))))))
          (cond (eqI (Int.tmod a2_0 8) 6)
            (C 13 [.obj a0j 0, .str a2_1] H fun v_17 H_18 =>
              G ((v_17).isTup && Nat.beq (v_17).tupVs.length 2) (G ((((v_17).tupVs).headD .any).isSl 1) (G (((((v_17).tupVs).tail).headD .any).isInt .i64) (CP 29 [.agg [.sl 0 3 a1_0], .str a2_1] H_18 fun v_19 H_20 =>
                G ((v_19).isTup && Nat.beq (v_19).tupVs.length 2) (G ((((v_19).tupVs).headD .any).isSl 1) (G (((((v_19).tupVs).tail).headD .any).isInt .i64) (∃ s_21 : ByteArray, (((v_17).tupVs).headD .any).slXs = bytesAV s_21 ∧ (∃ s_22 : ByteArray, (((v_19).tupVs).headD .any).slXs = bytesAV s_22 ∧ (cond (eqS s_21 s_22)
                  (Q (.tup [.agg [.sl 0 3 a1_0], .bool (eqI (((((v_17).tupVs).tail).headD .any).toInt) (((((v_19).tupVs).tail).headD .any).toInt))]) H_20)
                  (Q (.tup [.agg [.sl 0 3 a1_0], .bool false]) H_20))))))))))
            (C 12 [.obj a0j 0, .sl 0 1 a2_4] H fun v_23 H_24 =>
              G ((v_23).isTup && Nat.beq (v_23).tupVs.length 0) (CP 18 [.agg [.sl 0 3 a1_0], .sl 0 1 a2_4] H_24 fun v_25 H_26 =>
                G ((v_25).isAgg && Nat.beq (v_25).aggCs.length 1) (G ((((v_25).aggCs).headD .any).isSl 3) (Q (.tup [.agg [.sl 0 3 ((((v_25).aggCs).headD .any).slXs)], .bool true]) H_26)))))))))
  (cond (eqI (Int.tmod a2_0 8) 1)
    (cond (eqI (Int.tmod a2_0 8) 1)
      (C 10 [.obj a0j 0, .str a2_1, .sl 0 1 a2_3] H fun v_27 H_28 =>
        G ((v_27).isInt .i64) (CP 23 [.agg [.sl 0 3 a1_0], .str a2_1, .sl 0 1 a2_3] H_28 fun v_29 H_30 =>
          G ((v_29).isTup && Nat.beq (v_29).tupVs.length 2) (G ((((v_29).tupVs).headD .any).isAgg && Nat.beq (((v_29).tupVs).headD .any).aggCs.length 1) (G ((((((v_29).tupVs).headD .any).aggCs).headD .any).isSl 3) (G (((((v_29).tupVs).tail).headD .any).isInt .i64) (Q (.tup [.agg [.sl 0 3 ((((((v_29).tupVs).headD .any).aggCs).headD .any).slXs)], .bool (eqI ((v_27).toInt) (((((v_29).tupVs).tail).headD .any).toInt))]) H_30))))))
      (cond (eqI (Int.tmod a2_0 8) 3)
        (C 11 [.obj a0j 0, .str a2_1] H fun v_31 H_32 =>
          G ((v_31).isInt .i64) (CP 24 [.agg [.sl 0 3 a1_0], .str a2_1] H_32 fun v_33 H_34 =>
            G ((v_33).isTup && Nat.beq (v_33).tupVs.length 2) (G ((((v_33).tupVs).headD .any).isAgg && Nat.beq (((v_33).tupVs).headD .any).aggCs.length 1) (G ((((((v_33).tupVs).headD .any).aggCs).headD .any).isSl 3) (G (((((v_33).tupVs).tail).headD .any).isInt .i64) (Q (.tup [.agg [.sl 0 3 ((((((v_33).tupVs).headD .any).aggCs).headD .any).slXs)], .bool (eqI ((v_31).toInt) (((((v_33).tupVs).tail).headD .any).toInt))]) H_34))))))
        (cond (eqI (Int.tmod a2_0 8) 4)
          (C 25 [.obj a0j 0, .str a2_1, .str a2_2] H fun v_35 H_36 =>
            G ((v_35).isInt .i64) (CP 26 [.agg [.sl 0 3 a1_0], .str a2_1, .str a2_2] H_36 fun v_37 H_38 =>
              G ((v_37).isTup && Nat.beq (v_37).tupVs.length 2) (G ((((v_37).tupVs).headD .any).isAgg && Nat.beq (((v_37).tupVs).headD .any).aggCs.length 1) (G ((((((v_37).tupVs).headD .any).aggCs).headD .any).isSl 3) (G (((((v_37).tupVs).tail).headD .any).isInt .i64) (Q (.tup [.agg [.sl 0 3 ((((((v_37).tupVs).headD .any).aggCs).headD .any).slXs)], .bool (eqI ((v_35).toInt) (((((v_37).tupVs).tail).headD .any).toInt))]) H_38))))))
          (cond (eqI (Int.tmod a2_0 8) 5)
            (C 27 [.obj a0j 0, .str a2_1] H fun v_39 H_40 =>
              G ((v_39).isInt .i64) (CP 28 [.agg [.sl 0 3 a1_0], .str a2_1] H_40 fun v_41 H_42 =>
                G ((v_41).isTup && Nat.beq (v_41).tupVs.length 2) (G ((((v_41).tupVs).headD .any).isAgg && Nat.beq (((v_41).tupVs).headD .any).aggCs.length 1) (G ((((((v_41).tupVs).headD .any).aggCs).headD .any).isSl 3) (G (((((v_41).tupVs).tail).headD .any).isInt .i64) (Q (.tup [.agg [.sl 0 3 ((((((v_41).tupVs).headD .any).aggCs).headD .any).slXs)], .bool (eqI ((v_39).toInt) (((((v_41).tupVs).tail).headD .any).toInt))]) H_42))))))
            (cond (eqI (Int.tmod a2_0 8) 6)
              (C 13 [.obj a0j 0, .str a2_1] H fun v_43 H_44 =>
                G ((v_43).isTup && Nat.beq (v_43).tupVs.length 2) (G ((((v_43).tupVs).headD .any).isSl 1) (G (((((v_43).tupVs).tail).headD .any).isInt .i64) (CP 29 [.agg [.sl 0 3 a1_0], .str a2_1] H_44 fun v_45 H_46 =>
                  G ((v_45).isTup && Nat.beq (v_45).tupVs.length 2) (G ((((v_45).tupVs).headD .any).isSl 1) (G (((((v_45).tupVs).tail).headD .any).isInt .i64) (∃ s_47 : ByteArray, (((v_43).tupVs).headD .any).slXs = bytesAV s_47 ∧ (∃ s_48 : ByteArray, (((v_45).tupVs).headD .any).slXs = bytesAV s_48 ∧ (cond (eqS s_47 s_48)
                    (Q (.tup [.agg [.sl 0 3 a1_0], .bool (eqI (((((v_43).tupVs).tail).headD .any).toInt) (((((v_45).tupVs).tail).headD .any).toInt))]) H_46)
                    (Q (.tup [.agg [.sl 0 3 a1_0], .bool false]) H_46))))))))))
              (C 12 [.obj a0j 0, .sl 0 1 a2_4] H fun v_49 H_50 =>
                G ((v_49).isTup && Nat.beq (v_49).tupVs.length 0) (CP 18 [.agg [.sl 0 3 a1_0], .sl 0 1 a2_4] H_50 fun v_51 H_52 =>
                  G ((v_51).isAgg && Nat.beq (v_51).aggCs.length 1) (G ((((v_51).aggCs).headD .any).isSl 3) (Q (.tup [.agg [.sl 0 3 ((((v_51).aggCs).headD .any).slXs)], .bool true]) H_52)))))))))
    (cond (eqI (Int.tmod a2_0 8) 2)
      (C 10 [.obj a0j 0, .str a2_1, .sl 0 1 a2_3] H fun v_53 H_54 =>
        G ((v_53).isInt .i64) (CP 23 [.agg [.sl 0 3 a1_0], .str a2_1, .sl 0 1 a2_3] H_54 fun v_55 H_56 =>
          G ((v_55).isTup && Nat.beq (v_55).tupVs.length 2) (G ((((v_55).tupVs).headD .any).isAgg && Nat.beq (((v_55).tupVs).headD .any).aggCs.length 1) (G ((((((v_55).tupVs).headD .any).aggCs).headD .any).isSl 3) (G (((((v_55).tupVs).tail).headD .any).isInt .i64) (Q (.tup [.agg [.sl 0 3 ((((((v_55).tupVs).headD .any).aggCs).headD .any).slXs)], .bool (eqI ((v_53).toInt) (((((v_55).tupVs).tail).headD .any).toInt))]) H_56))))))
      (cond (eqI (Int.tmod a2_0 8) 3)
        (C 11 [.obj a0j 0, .str a2_1] H fun v_57 H_58 =>
          G ((v_57).isInt .i64) (CP 24 [.agg [.sl 0 3 a1_0], .str a2_1] H_58 fun v_59 H_60 =>
            G ((v_59).isTup && Nat.beq (v_59).tupVs.length 2) (G ((((v_59).tupVs).headD .any).isAgg && Nat.beq (((v_59).tupVs).headD .any).aggCs.length 1) (G ((((((v_59).tupVs).headD .any).aggCs).headD .any).isSl 3) (G (((((v_59).tupVs).tail).headD .any).isInt .i64) (Q (.tup [.agg [.sl 0 3 ((((((v_59).tupVs).headD .any).aggCs).headD .any).slXs)], .bool (eqI ((v_57).toInt) (((((v_59).tupVs).tail).headD .any).toInt))]) H_60))))))
        (cond (eqI (Int.tmod a2_0 8) 4)
          (C 25 [.obj a0j 0, .str a2_1, .str a2_2] H fun v_61 H_62 =>
            G ((v_61).isInt .i64) (CP 26 [.agg [.sl 0 3 a1_0], .str a2_1, .str a2_2] H_62 fun v_63 H_64 =>
              G ((v_63).isTup && Nat.beq (v_63).tupVs.length 2) (G ((((v_63).tupVs).headD .any).isAgg && Nat.beq (((v_63).tupVs).headD .any).aggCs.length 1) (G ((((((v_63).tupVs).headD .any).aggCs).headD .any).isSl 3) (G (((((v_63).tupVs).tail).headD .any).isInt .i64) (Q (.tup [.agg [.sl 0 3 ((((((v_63).tupVs).headD .any).aggCs).headD .any).slXs)], .bool (eqI ((v_61).toInt) (((((v_63).tupVs).tail).headD .any).toInt))]) H_64))))))
          (cond (eqI (Int.tmod a2_0 8) 5)
            (C 27 [.obj a0j 0, .str a2_1] H fun v_65 H_66 =>
              G ((v_65).isInt .i64) (CP 28 [.agg [.sl 0 3 a1_0], .str a2_1] H_66 fun v_67 H_68 =>
                G ((v_67).isTup && Nat.beq (v_67).tupVs.length 2) (G ((((v_67).tupVs).headD .any).isAgg && Nat.beq (((v_67).tupVs).headD .any).aggCs.length 1) (G ((((((v_67).tupVs).headD .any).aggCs).headD .any).isSl 3) (G (((((v_67).tupVs).tail).headD .any).isInt .i64) (Q (.tup [.agg [.sl 0 3 ((((((v_67).tupVs).headD .any).aggCs).headD .any).slXs)], .bool (eqI ((v_65).toInt) (((((v_67).tupVs).tail).headD .any).toInt))]) H_68))))))
            (cond (eqI (Int.tmod a2_0 8) 6)
              (C 13 [.obj a0j 0, .str a2_1] H fun v_69 H_70 =>
                G ((v_69).isTup && Nat.beq (v_69).tupVs.length 2) (G ((((v_69).tupVs).headD .any).isSl 1) (G (((((v_69).tupVs).tail).headD .any).isInt .i64) (CP 29 [.agg [.sl 0 3 a1_0], .str a2_1] H_70 fun v_71 H_72 =>
                  G ((v_71).isTup && Nat.beq (v_71).tupVs.length 2) (G ((((v_71).tupVs).headD .any).isSl 1) (G (((((v_71).tupVs).tail).headD .any).isInt .i64) (∃ s_73 : ByteArray, (((v_69).tupVs).headD .any).slXs = bytesAV s_73 ∧ (∃ s_74 : ByteArray, (((v_71).tupVs).headD .any).slXs = bytesAV s_74 ∧ (cond (eqS s_73 s_74)
                    (Q (.tup [.agg [.sl 0 3 a1_0], .bool (eqI (((((v_69).tupVs).tail).headD .any).toInt) (((((v_71).tupVs).tail).headD .any).toInt))]) H_72)
                    (Q (.tup [.agg [.sl 0 3 a1_0], .bool false]) H_72))))))))))
              (C 12 [.obj a0j 0, .sl 0 1 a2_4] H fun v_75 H_76 =>
                G ((v_75).isTup && Nat.beq (v_75).tupVs.length 0) (CP 18 [.agg [.sl 0 3 a1_0], .sl 0 1 a2_4] H_76 fun v_77 H_78 =>
                  G ((v_77).isAgg && Nat.beq (v_77).aggCs.length 1) (G ((((v_77).aggCs).headD .any).isSl 3) (Q (.tup [.agg [.sl 0 3 ((((v_77).aggCs).headD .any).slXs)], .bool true]) H_78))))))))))
theorem t_eq (a0j : Nat) (a1_0 : List (List AV)) (a2_0 : Int) (a2_1 a2_2 : ByteArray) (a2_3 a2_4 : List (List AV)) (H : Heap) (Q : Qt) : aBody E0 C 17 [.obj a0j 0, .agg [.sl 0 3 a1_0], .agg [.int .u8 a2_0, .str a2_1, .str a2_2, .sl 0 1 a2_3, .sl 0 1 a2_4]] H Q = t a0j a1_0 a2_0 a2_1 a2_2 a2_3 a2_4 H Q := by kernel_rfl
theorem call {a0j : Nat} {a1_0 : List (List AV)} {a2_0 : Int} {a2_1 a2_2 : ByteArray} {a2_3 a2_4 : List (List AV)} {H : Heap} {Q : Qt} (h : t a0j a1_0 a2_0 a2_1 a2_2 a2_3 a2_4 H Q) : C 17 [.obj a0j 0, .agg [.sl 0 3 a1_0], .agg [.int .u8 a2_0, .str a2_1, .str a2_2, .sl 0 1 a2_3, .sl 0 1 a2_4]] H Q := Call_told (E := E0) (t_eq a0j a1_0 a2_0 a2_1 a2_2 a2_3 a2_4 H Q) h
end F17
/-! ### broker/brokerref36.Crash: function 18 -/
namespace F18
def K0 (Q : Qt) : Ex → St → Prop := (contK E0 C (E0.L 18) [.block 0 2, .seq (codeAt (bodyOf E0 18) [1, 1, 1]) 1] (finK E0 18 Q))
def L0 (a0_0 a1 : List (List AV)) (Q : Qt) (x5out : List (List AV)) (x6i : Int) (Hh : Heap) : Prop := ALoop (fun K s => awp E0 C (E0.L 18) (codeAt (bodyOf E0 18) [1, 1, 0, 1, 0, 0]) 1 s K) (clean [(1, 0), (2, 0), (4, 0), (5, 5), (6, 0)] 2) (K0 Q) ⟨stt 68 [(1, .sl 0 1 a1), (2, .ptr 0 0), (4, .ptr 1 0), (5, .sl 1 3 x5out), (6, .int .i64 x6i)], [.cells [.sl 0 3 a0_0], .cells [.nilsl]], Hh⟩
def r0 (a0_0 a1 : List (List AV)) (Q : Qt) (x5out : List (List AV)) (x6i : Int) (Hh : Heap) : Prop :=
  cond (ltI x6i (lenI a0_0))
  (G (leI 0 x6i) (G (ltI x6i (lenI a0_0)) (G ((ce (ro a0_0 x6i.toNat) 0).isStr) (G ((ce (ro a0_0 x6i.toNat) 1).isStr) (G ((ce (ro a0_0 x6i.toNat) 2).isInt .i64) (cond (ltI x6i (lenI a1))
    (G (leI 0 x6i) (G (ltI x6i (lenI a1)) (G ((ce (ro a1 x6i.toNat) 0).isInt .i64) (cond (ltI 0 ((ce (ro a1 x6i.toNat) 0).toInt))
      (G (leI 0 x6i) (G (ltI x6i (lenI a1)) (G ((ce (ro a1 x6i.toNat) 0).isInt .i64) (cond (ltI (subW .i64 (sizeI ((ce (ro a0_0 x6i.toNat) 1).toStr)) ((ce (ro a0_0 x6i.toNat) 2).toInt)) ((ce (ro a1 x6i.toNat) 0).toInt))
        (G (leI 0 (addW .i64 ((ce (ro a0_0 x6i.toNat) 2).toInt) (subW .i64 (sizeI ((ce (ro a0_0 x6i.toNat) 1).toStr)) ((ce (ro a0_0 x6i.toNat) 2).toInt)))) (G (leI (addW .i64 ((ce (ro a0_0 x6i.toNat) 2).toInt) (subW .i64 (sizeI ((ce (ro a0_0 x6i.toNat) 1).toStr)) ((ce (ro a0_0 x6i.toNat) 2).toInt))) (sizeI ((ce (ro a0_0 x6i.toNat) 1).toStr))) (G (room x5out [[.str ((ce (ro a0_0 x6i.toNat) 0).toStr), .str (((ce (ro a0_0 x6i.toNat) 1).toStr).extract 0 ((addW .i64 ((ce (ro a0_0 x6i.toNat) 2).toInt) (subW .i64 (sizeI ((ce (ro a0_0 x6i.toNat) 1).toStr)) ((ce (ro a0_0 x6i.toNat) 2).toInt))).toNat)), .int .i64 (sizeI (((ce (ro a0_0 x6i.toNat) 1).toStr).extract 0 ((addW .i64 ((ce (ro a0_0 x6i.toNat) 2).toInt) (subW .i64 (sizeI ((ce (ro a0_0 x6i.toNat) 1).toStr)) ((ce (ro a0_0 x6i.toNat) 2).toInt))).toNat)))]] 40) (L0 a0_0 a1 Q (x5out ++ [[.str ((ce (ro a0_0 x6i.toNat) 0).toStr), .str (((ce (ro a0_0 x6i.toNat) 1).toStr).extract 0 ((addW .i64 ((ce (ro a0_0 x6i.toNat) 2).toInt) (subW .i64 (sizeI ((ce (ro a0_0 x6i.toNat) 1).toStr)) ((ce (ro a0_0 x6i.toNat) 2).toInt))).toNat)), .int .i64 (sizeI (((ce (ro a0_0 x6i.toNat) 1).toStr).extract 0 ((addW .i64 ((ce (ro a0_0 x6i.toNat) 2).toInt) (subW .i64 (sizeI ((ce (ro a0_0 x6i.toNat) 1).toStr)) ((ce (ro a0_0 x6i.toNat) 2).toInt))).toNat)))]]) (addW .i64 x6i 1) Hh))))
        (G (leI 0 (addW .i64 ((ce (ro a0_0 x6i.toNat) 2).toInt) ((ce (ro a1 x6i.toNat) 0).toInt))) (G (leI (addW .i64 ((ce (ro a0_0 x6i.toNat) 2).toInt) ((ce (ro a1 x6i.toNat) 0).toInt)) (sizeI ((ce (ro a0_0 x6i.toNat) 1).toStr))) (G (room x5out [[.str ((ce (ro a0_0 x6i.toNat) 0).toStr), .str (((ce (ro a0_0 x6i.toNat) 1).toStr).extract 0 ((addW .i64 ((ce (ro a0_0 x6i.toNat) 2).toInt) ((ce (ro a1 x6i.toNat) 0).toInt)).toNat)), .int .i64 (sizeI (((ce (ro a0_0 x6i.toNat) 1).toStr).extract 0 ((addW .i64 ((ce (ro a0_0 x6i.toNat) 2).toInt) ((ce (ro a1 x6i.toNat) 0).toInt)).toNat)))]] 40) (L0 a0_0 a1 Q (x5out ++ [[.str ((ce (ro a0_0 x6i.toNat) 0).toStr), .str (((ce (ro a0_0 x6i.toNat) 1).toStr).extract 0 ((addW .i64 ((ce (ro a0_0 x6i.toNat) 2).toInt) ((ce (ro a1 x6i.toNat) 0).toInt)).toNat)), .int .i64 (sizeI (((ce (ro a0_0 x6i.toNat) 1).toStr).extract 0 ((addW .i64 ((ce (ro a0_0 x6i.toNat) 2).toInt) ((ce (ro a1 x6i.toNat) 0).toInt)).toNat)))]]) (addW .i64 x6i 1) Hh))))))))
      (cond (ltI (subW .i64 (sizeI ((ce (ro a0_0 x6i.toNat) 1).toStr)) ((ce (ro a0_0 x6i.toNat) 2).toInt)) 0)
        (G (leI 0 (addW .i64 ((ce (ro a0_0 x6i.toNat) 2).toInt) (subW .i64 (sizeI ((ce (ro a0_0 x6i.toNat) 1).toStr)) ((ce (ro a0_0 x6i.toNat) 2).toInt)))) (G (leI (addW .i64 ((ce (ro a0_0 x6i.toNat) 2).toInt) (subW .i64 (sizeI ((ce (ro a0_0 x6i.toNat) 1).toStr)) ((ce (ro a0_0 x6i.toNat) 2).toInt))) (sizeI ((ce (ro a0_0 x6i.toNat) 1).toStr))) (G (room x5out [[.str ((ce (ro a0_0 x6i.toNat) 0).toStr), .str (((ce (ro a0_0 x6i.toNat) 1).toStr).extract 0 ((addW .i64 ((ce (ro a0_0 x6i.toNat) 2).toInt) (subW .i64 (sizeI ((ce (ro a0_0 x6i.toNat) 1).toStr)) ((ce (ro a0_0 x6i.toNat) 2).toInt))).toNat)), .int .i64 (sizeI (((ce (ro a0_0 x6i.toNat) 1).toStr).extract 0 ((addW .i64 ((ce (ro a0_0 x6i.toNat) 2).toInt) (subW .i64 (sizeI ((ce (ro a0_0 x6i.toNat) 1).toStr)) ((ce (ro a0_0 x6i.toNat) 2).toInt))).toNat)))]] 40) (L0 a0_0 a1 Q (x5out ++ [[.str ((ce (ro a0_0 x6i.toNat) 0).toStr), .str (((ce (ro a0_0 x6i.toNat) 1).toStr).extract 0 ((addW .i64 ((ce (ro a0_0 x6i.toNat) 2).toInt) (subW .i64 (sizeI ((ce (ro a0_0 x6i.toNat) 1).toStr)) ((ce (ro a0_0 x6i.toNat) 2).toInt))).toNat)), .int .i64 (sizeI (((ce (ro a0_0 x6i.toNat) 1).toStr).extract 0 ((addW .i64 ((ce (ro a0_0 x6i.toNat) 2).toInt) (subW .i64 (sizeI ((ce (ro a0_0 x6i.toNat) 1).toStr)) ((ce (ro a0_0 x6i.toNat) 2).toInt))).toNat)))]]) (addW .i64 x6i 1) Hh))))
        (G (leI 0 (addW .i64 ((ce (ro a0_0 x6i.toNat) 2).toInt) 0)) (G (leI (addW .i64 ((ce (ro a0_0 x6i.toNat) 2).toInt) 0) (sizeI ((ce (ro a0_0 x6i.toNat) 1).toStr))) (G (room x5out [[.str ((ce (ro a0_0 x6i.toNat) 0).toStr), .str (((ce (ro a0_0 x6i.toNat) 1).toStr).extract 0 ((addW .i64 ((ce (ro a0_0 x6i.toNat) 2).toInt) 0).toNat)), .int .i64 (sizeI (((ce (ro a0_0 x6i.toNat) 1).toStr).extract 0 ((addW .i64 ((ce (ro a0_0 x6i.toNat) 2).toInt) 0).toNat)))]] 40) (L0 a0_0 a1 Q (x5out ++ [[.str ((ce (ro a0_0 x6i.toNat) 0).toStr), .str (((ce (ro a0_0 x6i.toNat) 1).toStr).extract 0 ((addW .i64 ((ce (ro a0_0 x6i.toNat) 2).toInt) 0).toNat)), .int .i64 (sizeI (((ce (ro a0_0 x6i.toNat) 1).toStr).extract 0 ((addW .i64 ((ce (ro a0_0 x6i.toNat) 2).toInt) 0).toNat)))]]) (addW .i64 x6i 1) Hh)))))))))
    (cond (ltI (subW .i64 (sizeI ((ce (ro a0_0 x6i.toNat) 1).toStr)) ((ce (ro a0_0 x6i.toNat) 2).toInt)) 0)
      (G (leI 0 (addW .i64 ((ce (ro a0_0 x6i.toNat) 2).toInt) (subW .i64 (sizeI ((ce (ro a0_0 x6i.toNat) 1).toStr)) ((ce (ro a0_0 x6i.toNat) 2).toInt)))) (G (leI (addW .i64 ((ce (ro a0_0 x6i.toNat) 2).toInt) (subW .i64 (sizeI ((ce (ro a0_0 x6i.toNat) 1).toStr)) ((ce (ro a0_0 x6i.toNat) 2).toInt))) (sizeI ((ce (ro a0_0 x6i.toNat) 1).toStr))) (G (room x5out [[.str ((ce (ro a0_0 x6i.toNat) 0).toStr), .str (((ce (ro a0_0 x6i.toNat) 1).toStr).extract 0 ((addW .i64 ((ce (ro a0_0 x6i.toNat) 2).toInt) (subW .i64 (sizeI ((ce (ro a0_0 x6i.toNat) 1).toStr)) ((ce (ro a0_0 x6i.toNat) 2).toInt))).toNat)), .int .i64 (sizeI (((ce (ro a0_0 x6i.toNat) 1).toStr).extract 0 ((addW .i64 ((ce (ro a0_0 x6i.toNat) 2).toInt) (subW .i64 (sizeI ((ce (ro a0_0 x6i.toNat) 1).toStr)) ((ce (ro a0_0 x6i.toNat) 2).toInt))).toNat)))]] 40) (L0 a0_0 a1 Q (x5out ++ [[.str ((ce (ro a0_0 x6i.toNat) 0).toStr), .str (((ce (ro a0_0 x6i.toNat) 1).toStr).extract 0 ((addW .i64 ((ce (ro a0_0 x6i.toNat) 2).toInt) (subW .i64 (sizeI ((ce (ro a0_0 x6i.toNat) 1).toStr)) ((ce (ro a0_0 x6i.toNat) 2).toInt))).toNat)), .int .i64 (sizeI (((ce (ro a0_0 x6i.toNat) 1).toStr).extract 0 ((addW .i64 ((ce (ro a0_0 x6i.toNat) 2).toInt) (subW .i64 (sizeI ((ce (ro a0_0 x6i.toNat) 1).toStr)) ((ce (ro a0_0 x6i.toNat) 2).toInt))).toNat)))]]) (addW .i64 x6i 1) Hh))))
      (G (leI 0 (addW .i64 ((ce (ro a0_0 x6i.toNat) 2).toInt) 0)) (G (leI (addW .i64 ((ce (ro a0_0 x6i.toNat) 2).toInt) 0) (sizeI ((ce (ro a0_0 x6i.toNat) 1).toStr))) (G (room x5out [[.str ((ce (ro a0_0 x6i.toNat) 0).toStr), .str (((ce (ro a0_0 x6i.toNat) 1).toStr).extract 0 ((addW .i64 ((ce (ro a0_0 x6i.toNat) 2).toInt) 0).toNat)), .int .i64 (sizeI (((ce (ro a0_0 x6i.toNat) 1).toStr).extract 0 ((addW .i64 ((ce (ro a0_0 x6i.toNat) 2).toInt) 0).toNat)))]] 40) (L0 a0_0 a1 Q (x5out ++ [[.str ((ce (ro a0_0 x6i.toNat) 0).toStr), .str (((ce (ro a0_0 x6i.toNat) 1).toStr).extract 0 ((addW .i64 ((ce (ro a0_0 x6i.toNat) 2).toInt) 0).toNat)), .int .i64 (sizeI (((ce (ro a0_0 x6i.toNat) 1).toStr).extract 0 ((addW .i64 ((ce (ro a0_0 x6i.toNat) 2).toInt) 0).toNat)))]]) (addW .i64 x6i 1) Hh)))))))))))
  (Q (.agg [.sl 0 3 x5out]) Hh)
theorem r0_eq (a0_0 a1 : List (List AV)) (Q : Qt) (x5out : List (List AV)) (x6i : Int) (Hh : Heap) : (fun K s => awp E0 C (E0.L 18) (codeAt (bodyOf E0 18) [1, 1, 0, 1, 0, 0]) 1 s K) (ALoopK (fun K s => awp E0 C (E0.L 18) (codeAt (bodyOf E0 18) [1, 1, 0, 1, 0, 0]) 1 s K) (clean [(1, 0), (2, 0), (4, 0), (5, 5), (6, 0)] 2) (K0 Q)) ⟨stt 68 [(1, .sl 0 1 a1), (2, .ptr 0 0), (4, .ptr 1 0), (5, .sl 1 3 x5out), (6, .int .i64 x6i)], [.cells [.sl 0 3 a0_0], .cells [.nilsl]], Hh⟩ = r0 a0_0 a1 Q x5out x6i Hh := by kernel_rfl
theorem L0_step {a0_0 a1 : List (List AV)} {Q : Qt} {x5out : List (List AV)} {x6i : Int} {Hh : Heap} (h : r0 a0_0 a1 Q x5out x6i Hh) : L0 a0_0 a1 Q x5out x6i Hh := ALoop_told (r0_eq a0_0 a1 Q x5out x6i Hh) h
def t (a0_0 a1 : List (List AV)) (H : Heap) (Q : Qt) : Prop :=
  L0 a0_0 a1 Q [] 0 H
theorem t_eq (a0_0 a1 : List (List AV)) (H : Heap) (Q : Qt) : aBody E0 C 18 [.agg [.sl 0 3 a0_0], .sl 0 1 a1] H Q = t a0_0 a1 H Q := by kernel_rfl
theorem call {a0_0 a1 : List (List AV)} {H : Heap} {Q : Qt} (h : t a0_0 a1 H Q) : C 18 [.agg [.sl 0 3 a0_0], .sl 0 1 a1] H Q := Call_told (E := E0) (t_eq a0_0 a1 H Q) h
end F18
/-! ### (*broker/disk.Disk).Names: function 19 -/
namespace F19
def K0 (Q : Qt) : Ex → St → Prop := (contK E0 C (E0.L 19) [.block 0 1, .seq (codeAt (bodyOf E0 19) [1, 1, 1]) 1] (finK E0 19 Q))
def L0 (a0j : Nat) (Q : Qt) (x3out : List (List AV)) (it0s : List Nat) (it0j it0a it0b : Nat) (Hh : Heap) : Prop := ALoop (fun K s => awp E0 C (E0.L 19) (codeAt (bodyOf E0 19) [1, 1, 0, 1, 0, 0]) 1 s K) (clean [(3, 3), (9, 0)] 1) (K0 Q) ⟨stt 21 [(3, .sl 1 1 x3out), (9, .ptr 0 0)], [.miter it0j 9 55 it0a it0b it0s], Hh⟩
def r0 (a0j : Nat) (Q : Qt) (x3out : List (List AV)) (it0s : List Nat) (it0j it0a it0b : Nat) (Hh : Heap) : Prop :=
  G ((Hh.get it0j).isMap && (Nat.ble it0a (Hh.get it0j).clock && (Hh.get it0j).es.all fun e => Nat.blt e.1 it0a)) ((mleft it0s (Hh.get it0j).es = [] → (ioTurn C 30 1 x3out [] Hh fun y_2 H_3 =>
    Q (.sl 0 1 y_2) H_3)) ∧
  (∀ e_1 : Nat × AV × AV, e_1 ∈ mleft it0s (Hh.get it0j).es → (G ((Hh.get it0j).isMap && Nat.beq (Hh.get it0j).clock ((Hh.get it0j).clock)) (G ((mborn e_1.1 (Hh.get it0j).es).isSome) (let q_4 : AV := mkeyAt e_1.1 (Hh.get it0j).es;
    G ((q_4).isStr) (let q_5 : AV := mvalAt e_1.1 (Hh.get it0j).es;
      G ((q_5).isObj) (G (room x3out [[.str ((q_4).toStr)]] 16) (L0 a0j Q (x3out ++ [[.str ((q_4).toStr)]]) (e_1.1 :: it0s) it0j it0a ((Hh.get it0j).clock) Hh))))))))
theorem r0_eq (a0j : Nat) (Q : Qt) (x3out : List (List AV)) (it0s : List Nat) (it0j it0a it0b : Nat) (Hh : Heap) : (fun K s => awp E0 C (E0.L 19) (codeAt (bodyOf E0 19) [1, 1, 0, 1, 0, 0]) 1 s K) (ALoopK (fun K s => awp E0 C (E0.L 19) (codeAt (bodyOf E0 19) [1, 1, 0, 1, 0, 0]) 1 s K) (clean [(3, 3), (9, 0)] 1) (K0 Q)) ⟨stt 21 [(3, .sl 1 1 x3out), (9, .ptr 0 0)], [.miter it0j 9 55 it0a it0b it0s], Hh⟩ = r0 a0j Q x3out it0s it0j it0a it0b Hh := by kernel_rfl
theorem L0_step {a0j : Nat} {Q : Qt} {x3out : List (List AV)} {it0s : List Nat} {it0j it0a it0b : Nat} {Hh : Heap} (h : r0 a0j Q x3out it0s it0j it0a it0b Hh) : L0 a0j Q x3out it0s it0j it0a it0b Hh := ALoop_told (r0_eq a0j Q x3out it0s it0j it0a it0b Hh) h
def t (a0j : Nat) (H : Heap) (Q : Qt) : Prop :=
  G ((H.get a0j).isCells) (cond ((ce ((H.get a0j).cs) 0).isMap)
  (G ((H.get ((ce ((H.get a0j).cs) 0).mapJ)).isMap) (L0 a0j Q [] [] ((ce ((H.get a0j).cs) 0).mapJ) ((H.get ((ce ((H.get a0j).cs) 0).mapJ)).clock) ((H.get ((ce ((H.get a0j).cs) 0).mapJ)).clock) H))
  (G ((ce ((H.get a0j).cs) 0).isNilmap) (False)))
theorem t_eq (a0j : Nat) (H : Heap) (Q : Qt) : aBody E0 C 19 [.obj a0j 0] H Q = t a0j H Q := by kernel_rfl
theorem call {a0j : Nat} {H : Heap} {Q : Qt} (h : t a0j H Q) : C 19 [.obj a0j 0] H Q := Call_told (E := E0) (t_eq a0j H Q) h
end F19
/-! ### broker/topic.Name: function 20 -/
namespace F20
def K0 (Q : Qt) : Ex → St → Prop := (contK E0 C (E0.L 20) [.block 0 1, .seq (codeAt (bodyOf E0 20) [1, 1, 1]) 1] (finK E0 20 Q))
def L0 (a0 : ByteArray) (Q : Qt) (it0 : Nat) (Hh : Heap) : Prop := ALoop (fun K s => awp E0 C (E0.L 20) (codeAt (bodyOf E0 20) [1, 1, 0, 1, 0, 0]) 1 s K) (clean [(15, 0)] 1) (K0 Q) ⟨stt 44 [(15, .ptr 0 0)], [.siter a0 it0], Hh⟩
def r0 (a0 : ByteArray) (Q : Qt) (it0 : Nat) (Hh : Heap) : Prop :=
  cond (Nat.blt it0 a0.size)
  (cond (leI 97 ((Utf8.decode a0 it0).1 : Int))
    (cond (!(leI ((Utf8.decode a0 it0).1 : Int) 122))
      (cond (eqI (it0 : Int) 0)
        (Q (.bool false) Hh)
        (cond (!(eqI ((Utf8.decode a0 it0).1 : Int) 45))
          (cond (ltI ((Utf8.decode a0 it0).1 : Int) 48)
            (Q (.bool false) Hh)
            (cond (ltI 57 ((Utf8.decode a0 it0).1 : Int))
              (Q (.bool false) Hh)
              (L0 a0 Q (it0 + (Utf8.decode a0 it0).2) Hh)))
          (L0 a0 Q (it0 + (Utf8.decode a0 it0).2) Hh)))
      (L0 a0 Q (it0 + (Utf8.decode a0 it0).2) Hh))
    (cond (eqI (it0 : Int) 0)
      (Q (.bool false) Hh)
      (cond (!(eqI ((Utf8.decode a0 it0).1 : Int) 45))
        (cond (ltI ((Utf8.decode a0 it0).1 : Int) 48)
          (Q (.bool false) Hh)
          (cond (ltI 57 ((Utf8.decode a0 it0).1 : Int))
            (Q (.bool false) Hh)
            (L0 a0 Q (it0 + (Utf8.decode a0 it0).2) Hh)))
        (L0 a0 Q (it0 + (Utf8.decode a0 it0).2) Hh))))
  (Q (.bool true) Hh)
theorem r0_eq (a0 : ByteArray) (Q : Qt) (it0 : Nat) (Hh : Heap) : (fun K s => awp E0 C (E0.L 20) (codeAt (bodyOf E0 20) [1, 1, 0, 1, 0, 0]) 1 s K) (ALoopK (fun K s => awp E0 C (E0.L 20) (codeAt (bodyOf E0 20) [1, 1, 0, 1, 0, 0]) 1 s K) (clean [(15, 0)] 1) (K0 Q)) ⟨stt 44 [(15, .ptr 0 0)], [.siter a0 it0], Hh⟩ = r0 a0 Q it0 Hh := by kernel_rfl
theorem L0_step {a0 : ByteArray} {Q : Qt} {it0 : Nat} {Hh : Heap} (h : r0 a0 Q it0 Hh) : L0 a0 Q it0 Hh := ALoop_told (r0_eq a0 Q it0 Hh) h
def t (a0 : ByteArray) (H : Heap) (Q : Qt) : Prop :=
  cond (ltI (sizeI a0) 1)
  (Q (.bool false) H)
  (cond (ltI 16 (sizeI a0))
    (Q (.bool false) H)
    (L0 a0 Q 0 H))
theorem t_eq (a0 : ByteArray) (H : Heap) (Q : Qt) : aBody E0 C 20 [.str a0] H Q = t a0 H Q := by kernel_rfl
theorem call {a0 : ByteArray} {H : Heap} {Q : Qt} (h : t a0 H Q) : C 20 [.str a0] H Q := Call_told (E := E0) (t_eq a0 H Q) h
end F20
/-! ### broker/brokerref01.Same: function 21 -/
namespace F21
def K0 (Q : Qt) : Ex → St → Prop := (contK E0 C (E0.L 21) [.block 0 0, .seq (codeAt (bodyOf E0 21) [1, 1, 1]) 1] (finK E0 21 Q))
def L0 (a0 a1 : List (List AV)) (Q : Qt) (x5i : Int) (Hh : Heap) : Prop := ALoop (fun K s => awp E0 C (E0.L 21) (codeAt (bodyOf E0 21) [1, 1, 0, 1, 0, 0]) 1 s K) (clean [(0, 0), (1, 0), (5, 0)] 0) (K0 Q) ⟨stt 26 [(0, .sl 0 1 a0), (1, .sl 0 1 a1), (5, .int .i64 x5i)], [], Hh⟩
def r0 (a0 a1 : List (List AV)) (Q : Qt) (x5i : Int) (Hh : Heap) : Prop :=
  cond (ltI x5i (lenI a0))
  (G (leI 0 x5i) (G (ltI x5i (lenI a0)) (G ((ce (ro a0 x5i.toNat) 0).isStr) (G (leI 0 x5i) (G (ltI x5i (lenI a1)) (G ((ce (ro a1 x5i.toNat) 0).isStr) (cond (!(eqS ((ce (ro a0 x5i.toNat) 0).toStr) ((ce (ro a1 x5i.toNat) 0).toStr)))
    (Q (.bool false) Hh)
    (L0 a0 a1 Q (addW .i64 x5i 1) Hh))))))))
  (Q (.bool true) Hh)
theorem r0_eq (a0 a1 : List (List AV)) (Q : Qt) (x5i : Int) (Hh : Heap) : (fun K s => awp E0 C (E0.L 21) (codeAt (bodyOf E0 21) [1, 1, 0, 1, 0, 0]) 1 s K) (ALoopK (fun K s => awp E0 C (E0.L 21) (codeAt (bodyOf E0 21) [1, 1, 0, 1, 0, 0]) 1 s K) (clean [(0, 0), (1, 0), (5, 0)] 0) (K0 Q)) ⟨stt 26 [(0, .sl 0 1 a0), (1, .sl 0 1 a1), (5, .int .i64 x5i)], [], Hh⟩ = r0 a0 a1 Q x5i Hh := by kernel_rfl
theorem L0_step {a0 a1 : List (List AV)} {Q : Qt} {x5i : Int} {Hh : Heap} (h : r0 a0 a1 Q x5i Hh) : L0 a0 a1 Q x5i Hh := ALoop_told (r0_eq a0 a1 Q x5i Hh) h
def t (a0 a1 : List (List AV)) (H : Heap) (Q : Qt) : Prop :=
  cond (!(eqI (lenI a0) (lenI a1)))
  (Q (.bool false) H)
  (L0 a0 a1 Q 0 H)
theorem t_eq (a0 a1 : List (List AV)) (H : Heap) (Q : Qt) : aBody E0 C 21 [.sl 0 1 a0, .sl 0 1 a1] H Q = t a0 a1 H Q := by kernel_rfl
theorem call {a0 a1 : List (List AV)} {H : Heap} {Q : Qt} (h : t a0 a1 H Q) : C 21 [.sl 0 1 a0, .sl 0 1 a1] H Q := Call_told (E := E0) (t_eq a0 a1 H Q) h
end F21
/-! ### broker/brokerref36.Names: function 22 -/
namespace F22
def K0 (Q : Qt) : Ex → St → Prop := (contK E0 C (E0.L 22) [.block 0 1, .seq (codeAt (bodyOf E0 22) [1, 1, 1]) 1] (finK E0 22 Q))
def L0 (a0_0 : List (List AV)) (Q : Qt) (x3out : List (List AV)) (x4i : Int) (Hh : Heap) : Prop := ALoop (fun K s => awp E0 C (E0.L 22) (codeAt (bodyOf E0 22) [1, 1, 0, 1, 0, 0]) 1 s K) (clean [(1, 0), (3, 3), (4, 0)] 1) (K0 Q) ⟨stt 22 [(1, .ptr 0 0), (3, .sl 1 1 x3out), (4, .int .i64 x4i)], [.cells [.sl 0 3 a0_0]], Hh⟩
def r0 (a0_0 : List (List AV)) (Q : Qt) (x3out : List (List AV)) (x4i : Int) (Hh : Heap) : Prop :=
  cond (ltI x4i (lenI a0_0))
  (G (leI 0 x4i) (G (ltI x4i (lenI a0_0)) (G ((ce (ro a0_0 x4i.toNat) 0).isStr) (G (room x3out [[.str ((ce (ro a0_0 x4i.toNat) 0).toStr)]] 16) (L0 a0_0 Q (x3out ++ [[.str ((ce (ro a0_0 x4i.toNat) 0).toStr)]]) (addW .i64 x4i 1) Hh)))))
  (Q (.sl 0 1 x3out) Hh)
theorem r0_eq (a0_0 : List (List AV)) (Q : Qt) (x3out : List (List AV)) (x4i : Int) (Hh : Heap) : (fun K s => awp E0 C (E0.L 22) (codeAt (bodyOf E0 22) [1, 1, 0, 1, 0, 0]) 1 s K) (ALoopK (fun K s => awp E0 C (E0.L 22) (codeAt (bodyOf E0 22) [1, 1, 0, 1, 0, 0]) 1 s K) (clean [(1, 0), (3, 3), (4, 0)] 1) (K0 Q)) ⟨stt 22 [(1, .ptr 0 0), (3, .sl 1 1 x3out), (4, .int .i64 x4i)], [.cells [.sl 0 3 a0_0]], Hh⟩ = r0 a0_0 Q x3out x4i Hh := by kernel_rfl
theorem L0_step {a0_0 : List (List AV)} {Q : Qt} {x3out : List (List AV)} {x4i : Int} {Hh : Heap} (h : r0 a0_0 Q x3out x4i Hh) : L0 a0_0 Q x3out x4i Hh := ALoop_told (r0_eq a0_0 Q x3out x4i Hh) h
def t (a0_0 : List (List AV)) (H : Heap) (Q : Qt) : Prop :=
  L0 a0_0 Q [] 0 H
theorem t_eq (a0_0 : List (List AV)) (H : Heap) (Q : Qt) : aBody E0 C 22 [.agg [.sl 0 3 a0_0]] H Q = t a0_0 H Q := by kernel_rfl
theorem call {a0_0 : List (List AV)} {H : Heap} {Q : Qt} (h : t a0_0 H Q) : C 22 [.agg [.sl 0 3 a0_0]] H Q := Call_told (E := E0) (t_eq a0_0 H Q) h
end F22
/-! ### broker/brokerref36.Append: function 23 -/
namespace F23
def t (a0_0 : List (List AV)) (a1 : ByteArray) (a2 : List (List AV)) (H : Heap) (Q : Qt) : Prop :=
  CP 31 [.str a1] H fun v_1 H_2 =>
  G ((v_1).isBool) (cond (!((v_1).toBool))
    (Q (.tup [.agg [.sl 0 3 a0_0], .int .i64 11]) H_2)
    (CP 32 [.agg [.sl 0 3 a0_0], .str a1] H_2 fun v_3 H_4 =>
      G ((v_3).isInt .i64) (cond (leI 0 ((v_3).toInt))
        (G (leI 0 ((v_3).toInt)) (G (ltI ((v_3).toInt) (lenI a0_0)) (G ((ce (ro a0_0 (((v_3).toInt).toNat)) 0).isStr) (G ((ce (ro a0_0 (((v_3).toInt).toNat)) 1).isStr) (G ((ce (ro a0_0 (((v_3).toInt).toNat)) 2).isInt .i64) (cond (ltI 65536 (addW .i64 (sizeI ((ce (ro a0_0 (((v_3).toInt).toNat)) 1).toStr)) (lenI a2)))
          (Q (.tup [.agg [.sl 0 3 a0_0], .int .i64 6]) H_4)
          (∃ s_5 : ByteArray, a2 = bytesAV s_5 ∧ (G (Nat.ble (((ce (ro a0_0 (((v_3).toInt).toNat)) 1).toStr).size + s_5.size) 9223372036854775807) (CP 33 [.agg [.sl 0 3 a0_0], .agg [.str ((ce (ro a0_0 (((v_3).toInt).toNat)) 0).toStr), .str (((ce (ro a0_0 (((v_3).toInt).toNat)) 1).toStr) ++ s_5), .int .i64 ((ce (ro a0_0 (((v_3).toInt).toNat)) 2).toInt)]] H_4 fun v_6 H_7 =>
            G ((v_6).isAgg && Nat.beq (v_6).aggCs.length 1) (G ((((v_6).aggCs).headD .any).isSl 3) (Q (.tup [.agg [.sl 0 3 ((((v_6).aggCs).headD .any).slXs)], .int .i64 0]) H_7)))))))))))
        (cond (ltI 65536 (addW .i64 0 (lenI a2)))
          (Q (.tup [.agg [.sl 0 3 a0_0], .int .i64 6]) H_4)
          (∃ s_8 : ByteArray, a2 = bytesAV s_8 ∧ (G (Nat.ble ((⟨#[]⟩ : ByteArray).size + s_8.size) 9223372036854775807) (CP 33 [.agg [.sl 0 3 a0_0], .agg [.str a1, .str ((⟨#[]⟩ : ByteArray) ++ s_8), .int .i64 0]] H_4 fun v_9 H_10 =>
            G ((v_9).isAgg && Nat.beq (v_9).aggCs.length 1) (G ((((v_9).aggCs).headD .any).isSl 3) (Q (.tup [.agg [.sl 0 3 ((((v_9).aggCs).headD .any).slXs)], .int .i64 0]) H_10)))))))))
theorem t_eq (a0_0 : List (List AV)) (a1 : ByteArray) (a2 : List (List AV)) (H : Heap) (Q : Qt) : aBody E0 C 23 [.agg [.sl 0 3 a0_0], .str a1, .sl 0 1 a2] H Q = t a0_0 a1 a2 H Q := by kernel_rfl
theorem call {a0_0 : List (List AV)} {a1 : ByteArray} {a2 : List (List AV)} {H : Heap} {Q : Qt} (h : t a0_0 a1 a2 H Q) : C 23 [.agg [.sl 0 3 a0_0], .str a1, .sl 0 1 a2] H Q := Call_told (E := E0) (t_eq a0_0 a1 a2 H Q) h
end F23
/-! ### broker/brokerref36.Sync: function 24 -/
namespace F24
def t (a0_0 : List (List AV)) (a1 : ByteArray) (H : Heap) (Q : Qt) : Prop :=
  CP 32 [.agg [.sl 0 3 a0_0], .str a1] H fun v_1 H_2 =>
  G ((v_1).isInt .i64) (cond (ltI ((v_1).toInt) 0)
    (Q (.tup [.agg [.sl 0 3 a0_0], .int .i64 8]) H_2)
    (G (leI 0 ((v_1).toInt)) (G (ltI ((v_1).toInt) (lenI a0_0)) (G ((ce (ro a0_0 (((v_1).toInt).toNat)) 0).isStr) (G ((ce (ro a0_0 (((v_1).toInt).toNat)) 1).isStr) (G ((ce (ro a0_0 (((v_1).toInt).toNat)) 2).isInt .i64) (CP 33 [.agg [.sl 0 3 a0_0], .agg [.str ((ce (ro a0_0 (((v_1).toInt).toNat)) 0).toStr), .str ((ce (ro a0_0 (((v_1).toInt).toNat)) 1).toStr), .int .i64 (sizeI ((ce (ro a0_0 (((v_1).toInt).toNat)) 1).toStr))]] H_2 fun v_3 H_4 =>
      G ((v_3).isAgg && Nat.beq (v_3).aggCs.length 1) (G ((((v_3).aggCs).headD .any).isSl 3) (Q (.tup [.agg [.sl 0 3 ((((v_3).aggCs).headD .any).slXs)], .int .i64 0]) H_4)))))))))
theorem t_eq (a0_0 : List (List AV)) (a1 : ByteArray) (H : Heap) (Q : Qt) : aBody E0 C 24 [.agg [.sl 0 3 a0_0], .str a1] H Q = t a0_0 a1 H Q := by kernel_rfl
theorem call {a0_0 : List (List AV)} {a1 : ByteArray} {H : Heap} {Q : Qt} (h : t a0_0 a1 H Q) : C 24 [.agg [.sl 0 3 a0_0], .str a1] H Q := Call_told (E := E0) (t_eq a0_0 a1 H Q) h
end F24
/-! ### (*broker/disk.Disk).Rename: function 25 -/
namespace F25
def t (a0j : Nat) (a1 a2 : ByteArray) (H : Heap) (Q : Qt) : Prop :=
  G ((H.get a0j).isCells) (cond ((ce ((H.get a0j).cs) 0).isMap)
  (G ((H.get ((ce ((H.get a0j).cs) 0).mapJ)).isMapOf [.str] false) (cond (mhas (.str a1) (H.get ((ce ((H.get a0j).cs) 0).mapJ)).es)
    (let q_1 : AV := mget (.str a1) (H.get ((ce ((H.get a0j).cs) 0).mapJ)).es;
      G ((q_1).isObj) (CP 20 [.str a2] H fun v_2 H_3 =>
        G ((v_2).isBool) (cond (!((v_2).toBool))
          (Q (.int .i64 11) H_3)
          (G ((H_3.get a0j).isCells) (cond ((ce ((H_3.get a0j).cs) 0).isMap)
            (G ((H_3.get ((ce ((H_3.get a0j).cs) 0).mapJ)).isMapOf [.str] false) (let H_4 : Heap := H_3.set ((ce ((H_3.get a0j).cs) 0).mapJ) (.map (mdel (.str a1) (H_3.get ((ce ((H_3.get a0j).cs) 0).mapJ)).es) (H_3.get ((ce ((H_3.get a0j).cs) 0).mapJ)).clock);
              G ((H_4.get a0j).isCells) (cond ((ce ((H_4.get a0j).cs) 0).isMap)
                (G ((H_4.get ((ce ((H_4.get a0j).cs) 0).mapJ)).isMapOf [.str] false) (let H_5 : Heap := H_4.set ((ce ((H_4.get a0j).cs) 0).mapJ) (.map (mput (.str a2) (.obj ((q_1).objJ) 0) (H_4.get ((ce ((H_4.get a0j).cs) 0).mapJ)).clock (H_4.get ((ce ((H_4.get a0j).cs) 0).mapJ)).es) (cond (mhas (.str a2) (H_4.get ((ce ((H_4.get a0j).cs) 0).mapJ)).es) (H_4.get ((ce ((H_4.get a0j).cs) 0).mapJ)).clock ((H_4.get ((ce ((H_4.get a0j).cs) 0).mapJ)).clock + 1)));
                  Q (.int .i64 0) H_5))
                (G ((ce ((H_4.get a0j).cs) 0).isNilmap) (False)))))
            (G ((ce ((H_3.get a0j).cs) 0).isNilmap) (False)))))))
    (Q (.int .i64 8) H)))
  (G ((ce ((H.get a0j).cs) 0).isNilmap) (False)))
theorem t_eq (a0j : Nat) (a1 a2 : ByteArray) (H : Heap) (Q : Qt) : aBody E0 C 25 [.obj a0j 0, .str a1, .str a2] H Q = t a0j a1 a2 H Q := by kernel_rfl
theorem call {a0j : Nat} {a1 a2 : ByteArray} {H : Heap} {Q : Qt} (h : t a0j a1 a2 H Q) : C 25 [.obj a0j 0, .str a1, .str a2] H Q := Call_told (E := E0) (t_eq a0j a1 a2 H Q) h
end F25
/-! ### broker/brokerref36.Rename: function 26 -/
namespace F26
def t (a0_0 : List (List AV)) (a1 a2 : ByteArray) (H : Heap) (Q : Qt) : Prop :=
  CP 32 [.agg [.sl 0 3 a0_0], .str a1] H fun v_1 H_2 =>
  G ((v_1).isInt .i64) (cond (ltI ((v_1).toInt) 0)
    (Q (.tup [.agg [.sl 0 3 a0_0], .int .i64 8]) H_2)
    (CP 31 [.str a2] H_2 fun v_3 H_4 =>
      G ((v_3).isBool) (cond (!((v_3).toBool))
        (Q (.tup [.agg [.sl 0 3 a0_0], .int .i64 11]) H_4)
        (G (leI 0 ((v_1).toInt)) (G (ltI ((v_1).toInt) (lenI a0_0)) (G ((ce (ro a0_0 (((v_1).toInt).toNat)) 0).isStr) (G ((ce (ro a0_0 (((v_1).toInt).toNat)) 1).isStr) (G ((ce (ro a0_0 (((v_1).toInt).toNat)) 2).isInt .i64) (CP 34 [.agg [.sl 0 3 a0_0], .str a1] H_4 fun v_5 H_6 =>
          G ((v_5).isAgg && Nat.beq (v_5).aggCs.length 1) (G ((((v_5).aggCs).headD .any).isSl 3) (CP 33 [.agg [.sl 0 3 ((((v_5).aggCs).headD .any).slXs)], .agg [.str a2, .str ((ce (ro a0_0 (((v_1).toInt).toNat)) 1).toStr), .int .i64 ((ce (ro a0_0 (((v_1).toInt).toNat)) 2).toInt)]] H_6 fun v_7 H_8 =>
            G ((v_7).isAgg && Nat.beq (v_7).aggCs.length 1) (G ((((v_7).aggCs).headD .any).isSl 3) (Q (.tup [.agg [.sl 0 3 ((((v_7).aggCs).headD .any).slXs)], .int .i64 0]) H_8)))))))))))))
theorem t_eq (a0_0 : List (List AV)) (a1 a2 : ByteArray) (H : Heap) (Q : Qt) : aBody E0 C 26 [.agg [.sl 0 3 a0_0], .str a1, .str a2] H Q = t a0_0 a1 a2 H Q := by kernel_rfl
theorem call {a0_0 : List (List AV)} {a1 a2 : ByteArray} {H : Heap} {Q : Qt} (h : t a0_0 a1 a2 H Q) : C 26 [.agg [.sl 0 3 a0_0], .str a1, .str a2] H Q := Call_told (E := E0) (t_eq a0_0 a1 a2 H Q) h
end F26
/-! ### (*broker/disk.Disk).Remove: function 27 -/
namespace F27
def t (a0j : Nat) (a1 : ByteArray) (H : Heap) (Q : Qt) : Prop :=
  G ((H.get a0j).isCells) (cond ((ce ((H.get a0j).cs) 0).isMap)
  (G ((H.get ((ce ((H.get a0j).cs) 0).mapJ)).isMapOf [.str] false) (cond (mhas (.str a1) (H.get ((ce ((H.get a0j).cs) 0).mapJ)).es)
    (let q_1 : AV := mget (.str a1) (H.get ((ce ((H.get a0j).cs) 0).mapJ)).es;
      G ((q_1).isObj) (G ((H.get a0j).isCells) (cond ((ce ((H.get a0j).cs) 0).isMap)
        (G ((H.get ((ce ((H.get a0j).cs) 0).mapJ)).isMapOf [.str] false) (let H_2 : Heap := H.set ((ce ((H.get a0j).cs) 0).mapJ) (.map (mdel (.str a1) (H.get ((ce ((H.get a0j).cs) 0).mapJ)).es) (H.get ((ce ((H.get a0j).cs) 0).mapJ)).clock);
          Q (.int .i64 0) H_2))
        (G ((ce ((H.get a0j).cs) 0).isNilmap) (False)))))
    (Q (.int .i64 8) H)))
  (G ((ce ((H.get a0j).cs) 0).isNilmap) (False)))
theorem t_eq (a0j : Nat) (a1 : ByteArray) (H : Heap) (Q : Qt) : aBody E0 C 27 [.obj a0j 0, .str a1] H Q = t a0j a1 H Q := by kernel_rfl
theorem call {a0j : Nat} {a1 : ByteArray} {H : Heap} {Q : Qt} (h : t a0j a1 H Q) : C 27 [.obj a0j 0, .str a1] H Q := Call_told (E := E0) (t_eq a0j a1 H Q) h
end F27
/-! ### broker/brokerref36.Remove: function 28 -/
namespace F28
def t (a0_0 : List (List AV)) (a1 : ByteArray) (H : Heap) (Q : Qt) : Prop :=
  CP 32 [.agg [.sl 0 3 a0_0], .str a1] H fun v_1 H_2 =>
  G ((v_1).isInt .i64) (cond (ltI ((v_1).toInt) 0)
    (Q (.tup [.agg [.sl 0 3 a0_0], .int .i64 8]) H_2)
    (CP 34 [.agg [.sl 0 3 a0_0], .str a1] H_2 fun v_3 H_4 =>
      G ((v_3).isAgg && Nat.beq (v_3).aggCs.length 1) (G ((((v_3).aggCs).headD .any).isSl 3) (Q (.tup [.agg [.sl 0 3 ((((v_3).aggCs).headD .any).slXs)], .int .i64 0]) H_4))))
theorem t_eq (a0_0 : List (List AV)) (a1 : ByteArray) (H : Heap) (Q : Qt) : aBody E0 C 28 [.agg [.sl 0 3 a0_0], .str a1] H Q = t a0_0 a1 H Q := by kernel_rfl
theorem call {a0_0 : List (List AV)} {a1 : ByteArray} {H : Heap} {Q : Qt} (h : t a0_0 a1 H Q) : C 28 [.agg [.sl 0 3 a0_0], .str a1] H Q := Call_told (E := E0) (t_eq a0_0 a1 H Q) h
end F28
/-! ### broker/brokerref36.Read: function 29 -/
namespace F29
def t (a0_0 : List (List AV)) (a1 : ByteArray) (H : Heap) (Q : Qt) : Prop :=
  CP 32 [.agg [.sl 0 3 a0_0], .str a1] H fun v_1 H_2 =>
  G ((v_1).isInt .i64) (cond (ltI ((v_1).toInt) 0)
    (Q (.tup [.nilsl, .int .i64 8]) H_2)
    (G (leI 0 ((v_1).toInt)) (G (ltI ((v_1).toInt) (lenI a0_0)) (G ((ce (ro a0_0 (((v_1).toInt).toNat)) 1).isStr) (G (Nat.ble ((ce (ro a0_0 (((v_1).toInt).toNat)) 1).toStr).size 9223372036854775807) (Q (.tup [.sl 0 1 (bytesAV ((ce (ro a0_0 (((v_1).toInt).toNat)) 1).toStr)), .int .i64 0]) H_2))))))
theorem t_eq (a0_0 : List (List AV)) (a1 : ByteArray) (H : Heap) (Q : Qt) : aBody E0 C 29 [.agg [.sl 0 3 a0_0], .str a1] H Q = t a0_0 a1 H Q := by kernel_rfl
theorem call {a0_0 : List (List AV)} {a1 : ByteArray} {H : Heap} {Q : Qt} (h : t a0_0 a1 H Q) : C 29 [.agg [.sl 0 3 a0_0], .str a1] H Q := Call_told (E := E0) (t_eq a0_0 a1 H Q) h
end F29
/-! ### broker/brokerref01.Name: function 31 -/
namespace F31
def JR1 (a0 : ByteArray) (Q : Qt) (x17 : Bool) (Hh : Heap) : Prop := AJoin (contK E0 C (E0.L 31) [.seq (codeAt (bodyOf E0 31) [1, 0, 1]) 0, .seq (codeAt (bodyOf E0 31) [1, 1]) 0] (finK E0 31 Q)) ⟨stt 42 [(0, .str a0), (17, .bool x17)], [], Hh⟩
def K0 (Q : Qt) : Ex → St → Prop := (contK E0 C (E0.L 31) [.block 0 0, .seq (codeAt (bodyOf E0 31) [1, 1, 1]) 1] (finK E0 31 Q))
def L0 (a0 : ByteArray) (Q : Qt) (x3i : Int) (Hh : Heap) : Prop := ALoop (fun K s => awp E0 C (E0.L 31) (codeAt (bodyOf E0 31) [1, 1, 0, 1, 0, 0]) 1 s K) (clean [(0, 0), (3, 0)] 0) (K0 Q) ⟨stt 42 [(0, .str a0), (3, .int .i64 x3i)], [], Hh⟩
def JR6 (a0 : ByteArray) (Q : Qt) (x3i : Int) (x41 : Bool) (Hh : Heap) : Prop := AJoin (contK E0 C (E0.L 31) [.seq (codeAt (bodyOf E0 31) [1, 1, 0, 1, 0, 0, 1, 0, 0, 1]) 1, .block 1 0, .seq (codeAt (bodyOf E0 31) [1, 1, 0, 1, 0, 0, 1, 1]) 1, .loop (codeAt (bodyOf E0 31) [1, 1, 0, 1, 0, 0]) 1 [(0, 0), (3, 0)] 0, .block 0 0, .seq (codeAt (bodyOf E0 31) [1, 1, 1]) 1] (finK E0 31 Q)) ⟨stt 42 [(0, .str a0), (3, .int .i64 x3i), (41, .bool x41)], [], Hh⟩
def jR1 (a0 : ByteArray) (Q : Qt) (x17 : Bool) (Hh : Heap) : Prop :=
  cond x17
  (Q (.bool false) Hh)
  (L0 a0 Q 0 Hh)
theorem JR1_eq (a0 : ByteArray) (Q : Qt) (x17 : Bool) (Hh : Heap) : contK E0 C (E0.L 31) [.seq (codeAt (bodyOf E0 31) [1, 0, 1]) 0, .seq (codeAt (bodyOf E0 31) [1, 1]) 0] (finK E0 31 Q) .normal ⟨stt 42 [(0, .str a0), (17, .bool x17)], [], Hh⟩ = jR1 a0 Q x17 Hh := by kernel_rfl
theorem JR1_step {a0 : ByteArray} {Q : Qt} {x17 : Bool} {Hh : Heap} (h : jR1 a0 Q x17 Hh) : JR1 a0 Q x17 Hh := AJoin_told (JR1_eq a0 Q x17 Hh) h
def r0 (a0 : ByteArray) (Q : Qt) (x3i : Int) (Hh : Heap) : Prop :=
  cond (ltI x3i (sizeI a0))
  (G (leI 0 x3i) (G (ltI x3i (sizeI a0)) (CP 37 [.int .u8 (bt a0 x3i)] Hh fun v_3 H_4 =>
    G ((v_3).isBool) (cond (!((v_3).toBool))
      (G (leI 0 x3i) (G (ltI x3i (sizeI a0)) (CP 38 [.int .u8 (bt a0 x3i)] H_4 fun v_5 H_6 =>
        G ((v_5).isBool) (cond (!((v_5).toBool))
          (G (leI 0 x3i) (G (ltI x3i (sizeI a0)) (JR6 a0 Q x3i (!(eqI (bt a0 x3i) 45)) H_6)))
          (JR6 a0 Q x3i false H_6)))))
      (JR6 a0 Q x3i false H_4)))))
  (Q (.bool true) Hh)
theorem r0_eq (a0 : ByteArray) (Q : Qt) (x3i : Int) (Hh : Heap) : (fun K s => awp E0 C (E0.L 31) (codeAt (bodyOf E0 31) [1, 1, 0, 1, 0, 0]) 1 s K) (ALoopK (fun K s => awp E0 C (E0.L 31) (codeAt (bodyOf E0 31) [1, 1, 0, 1, 0, 0]) 1 s K) (clean [(0, 0), (3, 0)] 0) (K0 Q)) ⟨stt 42 [(0, .str a0), (3, .int .i64 x3i)], [], Hh⟩ = r0 a0 Q x3i Hh := by kernel_rfl
theorem L0_step {a0 : ByteArray} {Q : Qt} {x3i : Int} {Hh : Heap} (h : r0 a0 Q x3i Hh) : L0 a0 Q x3i Hh := ALoop_told (r0_eq a0 Q x3i Hh) h
def jR6 (a0 : ByteArray) (Q : Qt) (x3i : Int) (x41 : Bool) (Hh : Heap) : Prop :=
  cond x41
  (Q (.bool false) Hh)
  (L0 a0 Q (addW .i64 x3i 1) Hh)
theorem JR6_eq (a0 : ByteArray) (Q : Qt) (x3i : Int) (x41 : Bool) (Hh : Heap) : contK E0 C (E0.L 31) [.seq (codeAt (bodyOf E0 31) [1, 1, 0, 1, 0, 0, 1, 0, 0, 1]) 1, .block 1 0, .seq (codeAt (bodyOf E0 31) [1, 1, 0, 1, 0, 0, 1, 1]) 1, .loop (codeAt (bodyOf E0 31) [1, 1, 0, 1, 0, 0]) 1 [(0, 0), (3, 0)] 0, .block 0 0, .seq (codeAt (bodyOf E0 31) [1, 1, 1]) 1] (finK E0 31 Q) .normal ⟨stt 42 [(0, .str a0), (3, .int .i64 x3i), (41, .bool x41)], [], Hh⟩ = jR6 a0 Q x3i x41 Hh := by kernel_rfl
theorem JR6_step {a0 : ByteArray} {Q : Qt} {x3i : Int} {x41 : Bool} {Hh : Heap} (h : jR6 a0 Q x3i x41 Hh) : JR6 a0 Q x3i x41 Hh := AJoin_told (JR6_eq a0 Q x3i x41 Hh) h
def t (a0 : ByteArray) (H : Heap) (Q : Qt) : Prop :=
  cond (ltI (sizeI a0) 1)
  (JR1 a0 Q true H)
  (cond (ltI 16 (sizeI a0))
    (JR1 a0 Q true H)
    (G (ltI 0 (sizeI a0)) (CP 37 [.int .u8 (bt a0 0)] H fun v_1 H_2 =>
      G ((v_1).isBool) (JR1 a0 Q (!((v_1).toBool)) H_2))))
theorem t_eq (a0 : ByteArray) (H : Heap) (Q : Qt) : aBody E0 C 31 [.str a0] H Q = t a0 H Q := by kernel_rfl
theorem call {a0 : ByteArray} {H : Heap} {Q : Qt} (h : t a0 H Q) : C 31 [.str a0] H Q := Call_told (E := E0) (t_eq a0 H Q) h
end F31
/-! ### broker/brokerref36.At: function 32 -/
namespace F32
def K0 (Q : Qt) : Ex → St → Prop := (contK E0 C (E0.L 32) [.block 0 1, .seq (codeAt (bodyOf E0 32) [1, 1]) 1] (finK E0 32 Q))
def L0 (a0_0 : List (List AV)) (a1 : ByteArray) (Q : Qt) (x5i : Int) (Hh : Heap) : Prop := ALoop (fun K s => awp E0 C (E0.L 32) (codeAt (bodyOf E0 32) [1, 0, 1, 0, 0]) 1 s K) (clean [(1, 0), (2, 0), (5, 0)] 1) (K0 Q) ⟨stt 22 [(1, .str a1), (2, .ptr 0 0), (5, .int .i64 x5i)], [.cells [.sl 0 3 a0_0]], Hh⟩
def r0 (a0_0 : List (List AV)) (a1 : ByteArray) (Q : Qt) (x5i : Int) (Hh : Heap) : Prop :=
  cond (ltI x5i (lenI a0_0))
  (G (leI 0 x5i) (G (ltI x5i (lenI a0_0)) (G ((ce (ro a0_0 x5i.toNat) 0).isStr) (cond (eqS ((ce (ro a0_0 x5i.toNat) 0).toStr) a1)
    (Q (.int .i64 x5i) Hh)
    (L0 a0_0 a1 Q (addW .i64 x5i 1) Hh)))))
  (Q (.int .i64 (-1)) Hh)
theorem r0_eq (a0_0 : List (List AV)) (a1 : ByteArray) (Q : Qt) (x5i : Int) (Hh : Heap) : (fun K s => awp E0 C (E0.L 32) (codeAt (bodyOf E0 32) [1, 0, 1, 0, 0]) 1 s K) (ALoopK (fun K s => awp E0 C (E0.L 32) (codeAt (bodyOf E0 32) [1, 0, 1, 0, 0]) 1 s K) (clean [(1, 0), (2, 0), (5, 0)] 1) (K0 Q)) ⟨stt 22 [(1, .str a1), (2, .ptr 0 0), (5, .int .i64 x5i)], [.cells [.sl 0 3 a0_0]], Hh⟩ = r0 a0_0 a1 Q x5i Hh := by kernel_rfl
theorem L0_step {a0_0 : List (List AV)} {a1 : ByteArray} {Q : Qt} {x5i : Int} {Hh : Heap} (h : r0 a0_0 a1 Q x5i Hh) : L0 a0_0 a1 Q x5i Hh := ALoop_told (r0_eq a0_0 a1 Q x5i Hh) h
def t (a0_0 : List (List AV)) (a1 : ByteArray) (H : Heap) (Q : Qt) : Prop :=
  L0 a0_0 a1 Q 0 H
theorem t_eq (a0_0 : List (List AV)) (a1 : ByteArray) (H : Heap) (Q : Qt) : aBody E0 C 32 [.agg [.sl 0 3 a0_0], .str a1] H Q = t a0_0 a1 H Q := by kernel_rfl
theorem call {a0_0 : List (List AV)} {a1 : ByteArray} {H : Heap} {Q : Qt} (h : t a0_0 a1 H Q) : C 32 [.agg [.sl 0 3 a0_0], .str a1] H Q := Call_told (E := E0) (t_eq a0_0 a1 H Q) h
end F32
/-! ### broker/brokerref36.With: function 33 -/
namespace F33
def K0 (Q : Qt) : Ex → St → Prop := (contK E0 C (E0.L 33) [.block 0 3, .seq (codeAt (bodyOf E0 33) [1, 1, 1, 1]) 1] (finK E0 33 Q))
def L0 (a0_0 : List (List AV)) (a1_0 a1_1 : ByteArray) (a1_2 : Int) (Q : Qt) (x5rest x6out : List (List AV)) (x7i : Int) (Hh : Heap) : Prop := ALoop (fun K s => awp E0 C (E0.L 33) (codeAt (bodyOf E0 33) [1, 1, 1, 0, 1, 0, 0]) 1 s K) (clean [(3, 0), (4, 0), (5, 0), (6, 5), (7, 0)] 3) (K0 Q) ⟨stt 62 [(3, .ptr 1 0), (4, .ptr 2 0), (5, .sl 0 3 x5rest), (6, .sl 1 3 x6out), (7, .int .i64 x7i)], [.cells [.sl 0 3 a0_0], .cells [.str a1_0, .str a1_1, .int .i64 a1_2], .cells [.nilsl]], Hh⟩
def K1 (Q : Qt) : Ex → St → Prop := (contK E0 C (E0.L 33) [.block 2 3, .seq (codeAt (bodyOf E0 33) [1, 1, 1, 1, 1, 1]) 2] (finK E0 33 Q))
def L1 (a0_0 : List (List AV)) (a1_0 a1_1 : ByteArray) (a1_2 : Int) (Q : Qt) (x5rest x6out : List (List AV)) (x8i : Int) (Hh : Heap) : Prop := ALoop (fun K s => awp E0 C (E0.L 33) (codeAt (bodyOf E0 33) [1, 1, 1, 1, 1, 0, 1, 0, 0]) 2 s K) (clean [(3, 0), (4, 0), (5, 0), (6, 0), (8, 0)] 3) (K1 Q) ⟨stt 62 [(3, .ptr 1 0), (4, .ptr 2 0), (5, .sl 0 3 x5rest), (6, .sl 1 3 x6out), (8, .int .i64 x8i)], [.cells [.sl 0 3 a0_0], .cells [.str a1_0, .str a1_1, .int .i64 a1_2], .cells [.nilsl]], Hh⟩
def r0 (a0_0 : List (List AV)) (a1_0 a1_1 : ByteArray) (a1_2 : Int) (Q : Qt) (x5rest x6out : List (List AV)) (x7i : Int) (Hh : Heap) : Prop :=
  cond (ltI x7i (lenI x5rest))
  (G (leI 0 x7i) (G (ltI x7i (lenI x5rest)) (G ((ce (ro x5rest x7i.toNat) 0).isStr) (cond (ltS ((ce (ro x5rest x7i.toNat) 0).toStr) a1_0)
    (G (leI 0 x7i) (G (ltI x7i (lenI x5rest)) (G ((ce (ro x5rest x7i.toNat) 0).isStr) (G ((ce (ro x5rest x7i.toNat) 1).isStr) (G ((ce (ro x5rest x7i.toNat) 2).isInt .i64) (G (room x6out [[.str ((ce (ro x5rest x7i.toNat) 0).toStr), .str ((ce (ro x5rest x7i.toNat) 1).toStr), .int .i64 ((ce (ro x5rest x7i.toNat) 2).toInt)]] 40) (L0 a0_0 a1_0 a1_1 a1_2 Q x5rest (x6out ++ [[.str ((ce (ro x5rest x7i.toNat) 0).toStr), .str ((ce (ro x5rest x7i.toNat) 1).toStr), .int .i64 ((ce (ro x5rest x7i.toNat) 2).toInt)]]) (addW .i64 x7i 1) Hh)))))))
    (L0 a0_0 a1_0 a1_1 a1_2 Q x5rest x6out (addW .i64 x7i 1) Hh)))))
  (G (room x6out [[.str a1_0, .str a1_1, .int .i64 a1_2]] 40) (L1 a0_0 a1_0 a1_1 a1_2 Q x5rest (x6out ++ [[.str a1_0, .str a1_1, .int .i64 a1_2]]) 0 Hh))
theorem r0_eq (a0_0 : List (List AV)) (a1_0 a1_1 : ByteArray) (a1_2 : Int) (Q : Qt) (x5rest x6out : List (List AV)) (x7i : Int) (Hh : Heap) : (fun K s => awp E0 C (E0.L 33) (codeAt (bodyOf E0 33) [1, 1, 1, 0, 1, 0, 0]) 1 s K) (ALoopK (fun K s => awp E0 C (E0.L 33) (codeAt (bodyOf E0 33) [1, 1, 1, 0, 1, 0, 0]) 1 s K) (clean [(3, 0), (4, 0), (5, 0), (6, 5), (7, 0)] 3) (K0 Q)) ⟨stt 62 [(3, .ptr 1 0), (4, .ptr 2 0), (5, .sl 0 3 x5rest), (6, .sl 1 3 x6out), (7, .int .i64 x7i)], [.cells [.sl 0 3 a0_0], .cells [.str a1_0, .str a1_1, .int .i64 a1_2], .cells [.nilsl]], Hh⟩ = r0 a0_0 a1_0 a1_1 a1_2 Q x5rest x6out x7i Hh := by kernel_rfl
theorem L0_step {a0_0 : List (List AV)} {a1_0 a1_1 : ByteArray} {a1_2 : Int} {Q : Qt} {x5rest x6out : List (List AV)} {x7i : Int} {Hh : Heap} (h : r0 a0_0 a1_0 a1_1 a1_2 Q x5rest x6out x7i Hh) : L0 a0_0 a1_0 a1_1 a1_2 Q x5rest x6out x7i Hh := ALoop_told (r0_eq a0_0 a1_0 a1_1 a1_2 Q x5rest x6out x7i Hh) h
def r1 (a0_0 : List (List AV)) (a1_0 a1_1 : ByteArray) (a1_2 : Int) (Q : Qt) (x5rest x6out : List (List AV)) (x8i : Int) (Hh : Heap) : Prop :=
  cond (ltI x8i (lenI x5rest))
  (G (leI 0 x8i) (G (ltI x8i (lenI x5rest)) (G ((ce (ro x5rest x8i.toNat) 0).isStr) (cond (ltS a1_0 ((ce (ro x5rest x8i.toNat) 0).toStr))
    (G (leI 0 x8i) (G (ltI x8i (lenI x5rest)) (G ((ce (ro x5rest x8i.toNat) 0).isStr) (G ((ce (ro x5rest x8i.toNat) 1).isStr) (G ((ce (ro x5rest x8i.toNat) 2).isInt .i64) (G (room x6out [[.str ((ce (ro x5rest x8i.toNat) 0).toStr), .str ((ce (ro x5rest x8i.toNat) 1).toStr), .int .i64 ((ce (ro x5rest x8i.toNat) 2).toInt)]] 40) (L1 a0_0 a1_0 a1_1 a1_2 Q x5rest (x6out ++ [[.str ((ce (ro x5rest x8i.toNat) 0).toStr), .str ((ce (ro x5rest x8i.toNat) 1).toStr), .int .i64 ((ce (ro x5rest x8i.toNat) 2).toInt)]]) (addW .i64 x8i 1) Hh)))))))
    (L1 a0_0 a1_0 a1_1 a1_2 Q x5rest x6out (addW .i64 x8i 1) Hh)))))
  (Q (.agg [.sl 0 3 x6out]) Hh)
theorem r1_eq (a0_0 : List (List AV)) (a1_0 a1_1 : ByteArray) (a1_2 : Int) (Q : Qt) (x5rest x6out : List (List AV)) (x8i : Int) (Hh : Heap) : (fun K s => awp E0 C (E0.L 33) (codeAt (bodyOf E0 33) [1, 1, 1, 1, 1, 0, 1, 0, 0]) 2 s K) (ALoopK (fun K s => awp E0 C (E0.L 33) (codeAt (bodyOf E0 33) [1, 1, 1, 1, 1, 0, 1, 0, 0]) 2 s K) (clean [(3, 0), (4, 0), (5, 0), (6, 0), (8, 0)] 3) (K1 Q)) ⟨stt 62 [(3, .ptr 1 0), (4, .ptr 2 0), (5, .sl 0 3 x5rest), (6, .sl 1 3 x6out), (8, .int .i64 x8i)], [.cells [.sl 0 3 a0_0], .cells [.str a1_0, .str a1_1, .int .i64 a1_2], .cells [.nilsl]], Hh⟩ = r1 a0_0 a1_0 a1_1 a1_2 Q x5rest x6out x8i Hh := by kernel_rfl
theorem L1_step {a0_0 : List (List AV)} {a1_0 a1_1 : ByteArray} {a1_2 : Int} {Q : Qt} {x5rest x6out : List (List AV)} {x8i : Int} {Hh : Heap} (h : r1 a0_0 a1_0 a1_1 a1_2 Q x5rest x6out x8i Hh) : L1 a0_0 a1_0 a1_1 a1_2 Q x5rest x6out x8i Hh := ALoop_told (r1_eq a0_0 a1_0 a1_1 a1_2 Q x5rest x6out x8i Hh) h
def t (a0_0 : List (List AV)) (a1_0 a1_1 : ByteArray) (a1_2 : Int) (H : Heap) (Q : Qt) : Prop :=
  CP 34 [.agg [.sl 0 3 a0_0], .str a1_0] H fun v_1 H_2 =>
  G ((v_1).isAgg && Nat.beq (v_1).aggCs.length 1) (G ((((v_1).aggCs).headD .any).isSl 3) (L0 a0_0 a1_0 a1_1 a1_2 Q ((((v_1).aggCs).headD .any).slXs) [] 0 H_2))
theorem t_eq (a0_0 : List (List AV)) (a1_0 a1_1 : ByteArray) (a1_2 : Int) (H : Heap) (Q : Qt) : aBody E0 C 33 [.agg [.sl 0 3 a0_0], .agg [.str a1_0, .str a1_1, .int .i64 a1_2]] H Q = t a0_0 a1_0 a1_1 a1_2 H Q := by kernel_rfl
theorem call {a0_0 : List (List AV)} {a1_0 a1_1 : ByteArray} {a1_2 : Int} {H : Heap} {Q : Qt} (h : t a0_0 a1_0 a1_1 a1_2 H Q) : C 33 [.agg [.sl 0 3 a0_0], .agg [.str a1_0, .str a1_1, .int .i64 a1_2]] H Q := Call_told (E := E0) (t_eq a0_0 a1_0 a1_1 a1_2 H Q) h
end F33
/-! ### broker/brokerref36.Without: function 34 -/
namespace F34
def K0 (Q : Qt) : Ex → St → Prop := (contK E0 C (E0.L 34) [.block 0 2, .seq (codeAt (bodyOf E0 34) [1, 1, 1]) 1] (finK E0 34 Q))
def L0 (a0_0 : List (List AV)) (a1 : ByteArray) (Q : Qt) (x5out : List (List AV)) (x6i : Int) (Hh : Heap) : Prop := ALoop (fun K s => awp E0 C (E0.L 34) (codeAt (bodyOf E0 34) [1, 1, 0, 1, 0, 0]) 1 s K) (clean [(1, 0), (2, 0), (4, 0), (5, 5), (6, 0)] 2) (K0 Q) ⟨stt 32 [(1, .str a1), (2, .ptr 0 0), (4, .ptr 1 0), (5, .sl 1 3 x5out), (6, .int .i64 x6i)], [.cells [.sl 0 3 a0_0], .cells [.nilsl]], Hh⟩
def r0 (a0_0 : List (List AV)) (a1 : ByteArray) (Q : Qt) (x5out : List (List AV)) (x6i : Int) (Hh : Heap) : Prop :=
  cond (ltI x6i (lenI a0_0))
  (G (leI 0 x6i) (G (ltI x6i (lenI a0_0)) (G ((ce (ro a0_0 x6i.toNat) 0).isStr) (cond (!(eqS ((ce (ro a0_0 x6i.toNat) 0).toStr) a1))
    (G (leI 0 x6i) (G (ltI x6i (lenI a0_0)) (G ((ce (ro a0_0 x6i.toNat) 0).isStr) (G ((ce (ro a0_0 x6i.toNat) 1).isStr) (G ((ce (ro a0_0 x6i.toNat) 2).isInt .i64) (G (room x5out [[.str ((ce (ro a0_0 x6i.toNat) 0).toStr), .str ((ce (ro a0_0 x6i.toNat) 1).toStr), .int .i64 ((ce (ro a0_0 x6i.toNat) 2).toInt)]] 40) (L0 a0_0 a1 Q (x5out ++ [[.str ((ce (ro a0_0 x6i.toNat) 0).toStr), .str ((ce (ro a0_0 x6i.toNat) 1).toStr), .int .i64 ((ce (ro a0_0 x6i.toNat) 2).toInt)]]) (addW .i64 x6i 1) Hh)))))))
    (L0 a0_0 a1 Q x5out (addW .i64 x6i 1) Hh)))))
  (Q (.agg [.sl 0 3 x5out]) Hh)
theorem r0_eq (a0_0 : List (List AV)) (a1 : ByteArray) (Q : Qt) (x5out : List (List AV)) (x6i : Int) (Hh : Heap) : (fun K s => awp E0 C (E0.L 34) (codeAt (bodyOf E0 34) [1, 1, 0, 1, 0, 0]) 1 s K) (ALoopK (fun K s => awp E0 C (E0.L 34) (codeAt (bodyOf E0 34) [1, 1, 0, 1, 0, 0]) 1 s K) (clean [(1, 0), (2, 0), (4, 0), (5, 5), (6, 0)] 2) (K0 Q)) ⟨stt 32 [(1, .str a1), (2, .ptr 0 0), (4, .ptr 1 0), (5, .sl 1 3 x5out), (6, .int .i64 x6i)], [.cells [.sl 0 3 a0_0], .cells [.nilsl]], Hh⟩ = r0 a0_0 a1 Q x5out x6i Hh := by kernel_rfl
theorem L0_step {a0_0 : List (List AV)} {a1 : ByteArray} {Q : Qt} {x5out : List (List AV)} {x6i : Int} {Hh : Heap} (h : r0 a0_0 a1 Q x5out x6i Hh) : L0 a0_0 a1 Q x5out x6i Hh := ALoop_told (r0_eq a0_0 a1 Q x5out x6i Hh) h
def t (a0_0 : List (List AV)) (a1 : ByteArray) (H : Heap) (Q : Qt) : Prop :=
  L0 a0_0 a1 Q [] 0 H
theorem t_eq (a0_0 : List (List AV)) (a1 : ByteArray) (H : Heap) (Q : Qt) : aBody E0 C 34 [.agg [.sl 0 3 a0_0], .str a1] H Q = t a0_0 a1 H Q := by kernel_rfl
theorem call {a0_0 : List (List AV)} {a1 : ByteArray} {H : Heap} {Q : Qt} (h : t a0_0 a1 H Q) : C 34 [.agg [.sl 0 3 a0_0], .str a1] H Q := Call_told (E := E0) (t_eq a0_0 a1 H Q) h
end F34
/-! ### broker/brokerref01.lower: function 37 -/
namespace F37
def t (a0 : Int) (H : Heap) (Q : Qt) : Prop :=
  cond (leI 97 a0)
  (Q (.bool (leI a0 122)) H)
  (Q (.bool false) H)
theorem t_eq (a0 : Int) (H : Heap) (Q : Qt) : aBody E0 C 37 [.int .u8 a0] H Q = t a0 H Q := by kernel_rfl
theorem call {a0 : Int} {H : Heap} {Q : Qt} (h : t a0 H Q) : C 37 [.int .u8 a0] H Q := Call_told (E := E0) (t_eq a0 H Q) h
end F37
/-! ### broker/brokerref01.digit: function 38 -/
namespace F38
def t (a0 : Int) (H : Heap) (Q : Qt) : Prop :=
  cond (leI 48 a0)
  (Q (.bool (leI a0 57)) H)
  (Q (.bool false) H)
theorem t_eq (a0 : Int) (H : Heap) (Q : Qt) : aBody E0 C 38 [.int .u8 a0] H Q = t a0 H Q := by kernel_rfl
theorem call {a0 : Int} {H : Heap} {Q : Qt} (h : t a0 H Q) : C 38 [.int .u8 a0] H Q := Call_told (E := E0) (t_eq a0 H Q) h
end F38
end Go.Proofs.Ytbkkhhmjmbbfpaa.Ab
