/- Heal: the chapter's examples. -/
import Derived.Test.YtkjmkhgaghighaaHealFour
namespace Go.Proofs.Ytkjmkhgaghighaa.Ab
open Go
set_option linter.unusedSimpArgs false

theorem ltS_eq (s t : ByteArray) : ltS s t = decide (bs s < bs t) := by
  unfold ltS bs
  rw [bytesLess_eq, Lib.toList_data, Lib.toList_data]
def exA : ByteArray := ⟨#[97]⟩
def exB : ByteArray := ⟨#[98]⟩
def ex1 : Cl := ⟨exA, ⟨#[49]⟩, false, 1, 0⟩
def ex2 : Cl := ⟨exA, ⟨#[50]⟩, false, 1, 2⟩
def ex3 : Cl := ⟨exA, ⟨#[50]⟩, false, 1, 0⟩
def ex4 : Cl := ⟨exA, ⟨#[51]⟩, false, 1, 0⟩
def exG : Cl := ⟨exA, ⟨#[]⟩, true, 1, 0⟩
def exL : Cl := ⟨exB, ⟨#[]⟩, true, 7, 0⟩
theorem aa : ltS exA exA = false := by rw [ltS_eq]; decide
theorem ab : ltS exA exB = true := by rw [ltS_eq]; decide
theorem bb : ltS exB exB = false := by rw [ltS_eq]; decide
theorem v21 : ltS ⟨#[50]⟩ ⟨#[49]⟩ = false := by rw [ltS_eq]; decide
theorem ex_m12 : mergeH [ex1] [ex2] = [ex2] := by
  unfold mergeH
  rw [mg, mg, List.append_nil]
  simp only [ex1, ex2, aa, Bool.false_eq_true, if_false]
  rfl
theorem ex_m31 : mergeH [ex3] [ex1] = [ex3] := by
  unfold mergeH
  rw [mg, mg, List.append_nil]
  simp only [ex1, ex3, aa, Bool.false_eq_true, if_false, both1, prevB, v21, and_self, if_true]
theorem ex_mg1 : mergeH [exG] [ex1] = [ex1] := by
  unfold mergeH
  rw [mg, mg, List.append_nil]
  simp only [ex1, exG, aa, Bool.false_eq_true, if_false]
  rfl
theorem ex_low1 : low exA [ex1] 0 = (0, true) := by
  simp only [low, ex1, aa, Bool.false_eq_true, if_false]
  simp [eqS]
theorem ex_low2 : low exB [ex1] 0 = (1, false) := by simp only [low, ex1, ab, if_true]
theorem ex_low3 : low exB [ex1, exL] 0 = (1, true) := by
  simp only [low, ex1, exL, ab, bb, if_true, Bool.false_eq_true, if_false]
  simp [eqS]
theorem ex_low4 : low exA [ex2] 0 = (0, true) := by
  simp only [low, ex2, aa, Bool.false_eq_true, if_false]
  simp [eqS]
theorem topA : topicB exA = true := by decide
theorem topB : topicB exB = true := by decide
theorem one_1 : oneE ex1 = 0 := by
  unfold oneE
  rw [show ex1.key = exA from rfl, topA]
  decide
theorem one_4 : oneE ex4 = 0 := by
  unfold oneE
  rw [show ex4.key = exA from rfl, topA]
  decide
theorem one_L : oneE exL = 0 := by
  unfold oneE
  rw [show exL.key = exB from rfl, topB]
  simp [exL]
  decide
theorem ex_s14 : setH [ex1] ex4 = ([], 25) := by
  unfold setH
  rw [if_pos one_4, show ex4.key = exA from rfl, ex_low1]
  rfl
theorem ex_s1L : setH [ex1] exL = ([ex1, exL], 0) := by
  unfold setH
  rw [if_pos one_L, show exL.key = exB from rfl, ex_low2]
  rfl
theorem ex_g2 : getH [ex2] exA = (⟨#[50]⟩, true) := by
  unfold getH
  rw [ex_low4]
  rfl
theorem ex_gL : getH [ex1, exL] exB = (⟨#[]⟩, false) := by
  unfold getH
  rw [ex_low3]
  rfl
theorem ex_d : diffH [ex1, exL] [ex1] = [exB] := by
  unfold diffH
  rw [mg, mg, mg]
  simp only [ex1, aa, Bool.false_eq_true, if_false, both2, if_true]
  rw [mg]
  rfl
theorem ex_c : checkE [ex1, exL] = 0 := by
  unfold checkE
  rw [if_neg (by decide)]
  simp only [chk, one_1, one_L, if_true]
  rw [show ex1.key = exA from rfl, show exL.key = exB from rfl, ab]
  rfl

theorem F31.spec {s : ByteArray} {e n : Int} {H : Heap} {Q : AV → Heap → Prop} (h : ∀ H, Q (.agg [.str exA, .str s, .bool false, .int .i64 e, .int .i64 n]) H) : C 31 [.str s, .int .i64 e, .int .i64 n] H Q := F31.call (h H)
section
variable {a b c d e : AV} {p : Prop}
theorem G_agg5 : G ((AV.agg [a, b, c, d, e]).isAgg && Nat.beq (AV.agg [a, b, c, d, e]).aggCs.length 5) p = p := rfl
theorem agg5_0 : ((AV.agg [a, b, c, d, e]).aggCs).headD .any = a := rfl
theorem agg5_1 : (((AV.agg [a, b, c, d, e]).aggCs).tail).headD .any = b := rfl
theorem agg5_2 : ((((AV.agg [a, b, c, d, e]).aggCs).tail).tail).headD .any = c := rfl
theorem agg5_3 : (((((AV.agg [a, b, c, d, e]).aggCs).tail).tail).tail).headD .any = d := rfl
theorem agg5_4 : ((((((AV.agg [a, b, c, d, e]).aggCs).tail).tail).tail).tail).headD .any = e := rfl
theorem G_agg2 : G ((AV.agg [a, b]).isAgg && Nat.beq (AV.agg [a, b]).aggCs.length 2) p = p := rfl
theorem agg2_0 : ((AV.agg [a, b]).aggCs).headD .any = a := rfl
theorem agg2_1 : (((AV.agg [a, b]).aggCs).tail).headD .any = b := rfl
theorem isSl_nil {k : Nat} : G (AV.nilsl.isSl k) p = p := rfl
theorem slXs_nil : AV.nilsl.slXs = [] := rfl
end
theorem F9.spec {H : Heap} {Q : AV → Heap → Prop} (h : ∀ H, Q (.bool true) H) : C 9 [] H Q := by
  refine F9.call ?_
  unfold F9.t
  refine F31.spec fun H1 => ?_
  ((try simp only [G_agg5, agg5_0, agg5_1, agg5_2, agg5_3, agg5_4, G_agg2, agg2_0, agg2_1, G_tup2, tup2_0, tup2_1, isSl_nil, slXs_nil]); (try simp only [G_int, G_bool, G_str, G_sl, toInt_int, toBool_bool, toStr_str, slXs_sl]))
  refine F31.spec fun H2 => ?_
  ((try simp only [G_agg5, agg5_0, agg5_1, agg5_2, agg5_3, agg5_4, G_agg2, agg2_0, agg2_1, G_tup2, tup2_0, tup2_1, isSl_nil, slXs_nil]); (try simp only [G_int, G_bool, G_str, G_sl, toInt_int, toBool_bool, toStr_str, slXs_sl]))
  refine F20.spec (xs := [ex1]) (ys := [ex2]) (by simp) (by simp) fun H3 => ?_
  rw [ex_m12]
  ((try simp only [G_agg5, agg5_0, agg5_1, agg5_2, agg5_3, agg5_4, G_agg2, agg2_0, agg2_1, G_tup2, tup2_0, tup2_1, isSl_nil, slXs_nil]); (try simp only [G_int, G_bool, G_str, G_sl, toInt_int, toBool_bool, toStr_str, slXs_sl]))
  refine F31.spec fun H4 => ?_
  ((try simp only [G_agg5, agg5_0, agg5_1, agg5_2, agg5_3, agg5_4, G_agg2, agg2_0, agg2_1, G_tup2, tup2_0, tup2_1, isSl_nil, slXs_nil]); (try simp only [G_int, G_bool, G_str, G_sl, toInt_int, toBool_bool, toStr_str, slXs_sl]))
  refine F20.spec (xs := [ex3]) (ys := [ex1]) (by simp) (by simp) fun H5 => ?_
  rw [ex_m31]
  ((try simp only [G_agg5, agg5_0, agg5_1, agg5_2, agg5_3, agg5_4, G_agg2, agg2_0, agg2_1, G_tup2, tup2_0, tup2_1, isSl_nil, slXs_nil]); (try simp only [G_int, G_bool, G_str, G_sl, toInt_int, toBool_bool, toStr_str, slXs_sl]))
  refine F20.spec (xs := [exG]) (ys := [ex1]) (by simp) (by simp) fun H6 => ?_
  rw [ex_mg1]
  ((try simp only [G_agg5, agg5_0, agg5_1, agg5_2, agg5_3, agg5_4, G_agg2, agg2_0, agg2_1, G_tup2, tup2_0, tup2_1, isSl_nil, slXs_nil]); (try simp only [G_int, G_bool, G_str, G_sl, toInt_int, toBool_bool, toStr_str, slXs_sl]))
  refine F31.spec fun H7 => ?_
  ((try simp only [G_agg5, agg5_0, agg5_1, agg5_2, agg5_3, agg5_4, G_agg2, agg2_0, agg2_1, G_tup2, tup2_0, tup2_1, isSl_nil, slXs_nil]); (try simp only [G_int, G_bool, G_str, G_sl, toInt_int, toBool_bool, toStr_str, slXs_sl]))
  refine F13.spec (xs := [ex1]) (d := ex4) (by simp) fun H8 => ?_
  rw [ex_s14, setV, if_neg (by decide)]
  ((try simp only [G_agg5, agg5_0, agg5_1, agg5_2, agg5_3, agg5_4, G_agg2, agg2_0, agg2_1, G_tup2, tup2_0, tup2_1, isSl_nil, slXs_nil]); (try simp only [G_int, G_bool, G_str, G_sl, toInt_int, toBool_bool, toStr_str, slXs_sl]))
  refine F13.spec (xs := [ex1]) (d := exL) (by simp) fun H9 => ?_
  rw [ex_s1L, setV, if_pos rfl]
  ((try simp only [G_agg5, agg5_0, agg5_1, agg5_2, agg5_3, agg5_4, G_agg2, agg2_0, agg2_1, G_tup2, tup2_0, tup2_1, isSl_nil, slXs_nil]); (try simp only [G_int, G_bool, G_str, G_sl, toInt_int, toBool_bool, toStr_str, slXs_sl]))
  refine F16.spec (xs := [ex2]) (k := exA) (by simp) fun H10 => ?_
  rw [ex_g2]
  ((try simp only [G_agg5, agg5_0, agg5_1, agg5_2, agg5_3, agg5_4, G_agg2, agg2_0, agg2_1, G_tup2, tup2_0, tup2_1, isSl_nil, slXs_nil]); (try simp only [G_int, G_bool, G_str, G_sl, toInt_int, toBool_bool, toStr_str, slXs_sl]))
  refine F16.spec (xs := [ex1, exL]) (k := exB) (by simp) fun H11 => ?_
  rw [ex_gL]
  ((try simp only [G_agg5, agg5_0, agg5_1, agg5_2, agg5_3, agg5_4, G_agg2, agg2_0, agg2_1, G_tup2, tup2_0, tup2_1, isSl_nil, slXs_nil]); (try simp only [G_int, G_bool, G_str, G_sl, toInt_int, toBool_bool, toStr_str, slXs_sl]))
  rw [show eqI (lenI (rows [ex2])) 1 = true from rfl, cond_true, show eqI (lenI (rows [ex3])) 1 = true from rfl, cond_true]
  rw [show ltI 0 (lenI (rows [ex3])) = true from rfl, G_true]
  rw [show (rows [ex3]).getD 0 [] = ex3.enc from rfl, enc_1]
  ((try simp only [G_agg5, agg5_0, agg5_1, agg5_2, agg5_3, agg5_4, G_agg2, agg2_0, agg2_1, G_tup2, tup2_0, tup2_1, isSl_nil, slXs_nil]); (try simp only [G_int, G_bool, G_str, G_sl, toInt_int, toBool_bool, toStr_str, slXs_sl]))
  rw [show eqS ex3.value ⟨#[50]⟩ = true from by simp [eqS, ex3], cond_true]
  refine F15.spec (xs := [ex1]) (ys := [ex1]) (by simp) fun H12 => ?_
  rw [decide_eq_true rfl]
  ((try simp only [G_agg5, agg5_0, agg5_1, agg5_2, agg5_3, agg5_4, G_agg2, agg2_0, agg2_1, G_tup2, tup2_0, tup2_1, isSl_nil, slXs_nil]); (try simp only [G_int, G_bool, G_str, G_sl, toInt_int, toBool_bool, toStr_str, slXs_sl]))
  rw [cond_true, show eqI 25 25 = true from rfl, cond_true, show eqI 0 0 = true from rfl, cond_true, show eqI (lenI (rows [ex1, exL])) 2 = true from rfl, cond_true, show eqS ⟨#[50]⟩ ⟨#[50]⟩ = true from by simp [eqS], cond_true, cond_true, Bool.not_false, cond_true]
  refine F18.spec (xs := [ex1, exL]) (by simp) (by simp [ex1, exL]) fun H13 => ?_
  rw [show maxE [ex1, exL] + 1 = 8 from rfl]
  ((try simp only [G_agg5, agg5_0, agg5_1, agg5_2, agg5_3, agg5_4, G_agg2, agg2_0, agg2_1, G_tup2, tup2_0, tup2_1, isSl_nil, slXs_nil]); (try simp only [G_int, G_bool, G_str, G_sl, toInt_int, toBool_bool, toStr_str, slXs_sl]))
  rw [show (eqI 8 8 && (eqI 5 5 && true)) = true from rfl, cond_true]
  refine F23.spec (xs := [ex1, exL]) (ys := [ex1]) (by simp) (by simp) fun H14 => ?_
  rw [ex_d]
  ((try simp only [G_agg5, agg5_0, agg5_1, agg5_2, agg5_3, agg5_4, G_agg2, agg2_0, agg2_1, G_tup2, tup2_0, tup2_1, isSl_nil, slXs_nil]); (try simp only [G_int, G_bool, G_str, G_sl, toInt_int, toBool_bool, toStr_str, slXs_sl]))
  refine F22.spec (xs := [exB]) (ys := [exB]) (by simp) fun H15 => ?_
  rw [decide_eq_true rfl]
  ((try simp only [G_agg5, agg5_0, agg5_1, agg5_2, agg5_3, agg5_4, G_agg2, agg2_0, agg2_1, G_tup2, tup2_0, tup2_1, isSl_nil, slXs_nil]); (try simp only [G_int, G_bool, G_str, G_sl, toInt_int, toBool_bool, toStr_str, slXs_sl]))
  rw [cond_true]
  refine F10.spec (xs := [ex1, exL]) (by simp) fun H16 => ?_
  rw [ex_c]
  ((try simp only [G_agg5, agg5_0, agg5_1, agg5_2, agg5_3, agg5_4, G_agg2, agg2_0, agg2_1, G_tup2, tup2_0, tup2_1, isSl_nil, slXs_nil]); (try simp only [G_int, G_bool, G_str, G_sl, toInt_int, toBool_bool, toStr_str, slXs_sl]))
  exact h _
end Go.Proofs.Ytkjmkhgaghighaa.Ab
