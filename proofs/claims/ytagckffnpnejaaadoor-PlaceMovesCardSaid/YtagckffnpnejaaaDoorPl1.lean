/- Place: what its functions compute. -/
import Derived.Test.YtagckffnpnejaaaDoorTrP
import Derived.Test.YtagckffnpnejaaaDoorAbPs
namespace Go.Proofs.YtagckffnpnejaaaDoor.Ab
open Go
set_option linter.unusedSimpArgs false

theorem lenI_ints {l : List Int} : lenI (ints l) = (l.length : Int) := lenI_map
theorem ints_at {l pre post : List Int} {x : Int} (h : l = pre ++ x :: post) : ro (ints l) (pre.length : Int).toNat = [.int .i64 x] := ro_at h
theorem ints_snoc {l : List Int} {x : Int} : ints l ++ [[.int .i64 x]] = ints (l ++ [x]) := by simp [ints]
theorem clone_any {β : Type} {xs : List (List AV)} {k : Bool → Option β} {r : β} (ht : xs = [] → k true = some r) (hf : k false = some r) : anyB xs k = some r := by
  cases xs with
  | nil => rw [anyB_nil (by rw [ht rfl, hf]), ht rfl]
  | cons x xs => exact hf
theorem bind_of {α β : Type} {o : Option α} {k : α → Option β} {w : α} {r : Option β} (h : o = some w) (h2 : k w = r) : o.bind k = r := by rw [h]; exact h2

/-! Checksums and scores -/
theorem F29.ploop {l : List UInt8} (hs : l.length ≤ 100000) : ∀ (post pre : List UInt8) (s : Nat), l = pre ++ post → s < 4294967296 → Ev (fun n => F29.PL (u8s l) n (.l0 (s : Int) pre.length)) (.int .i64 ((post.foldl sumStep s : Nat) : Int))
  | [], pre, s, h, hlt => by
    have hl := len_end h
    refine Ev.succ ?_
    simp only [F29.PL, lenI_u8s]
    (simp (disch := first | omega | rfl) only [tt_lt, tt_le, tt_eq, tt_eqS, tt_nblt, tt_nble, ff_lt, ff_le, ff_eq, ff_eqS, tt_not, ff_not, tt_dec, ff_dec, tt_true, tt_false, ff_true, ff_false, tt_room, tt_roomN, isInt_i, isBool_b, isStr_s, isSl_s, isSl_n, isOwn_s, isOwn_1, slXs_n, isTup_t, isAgg_a, Bool.true_and, tt_beq, tupVs_t, aggCs_a, headD_c, tail_c, ce_0, ce_s, ↓bind_s, ite_t, ite_f, toInt_int, toBool_bool, toStr_str, slXs_sl, Nat.add_zero, Nat.zero_add, List.length_cons, List.length_nil, addW_eq, subW_eq, if_pos, if_neg])
    rw [wrap_i64 (by omega) (by omega)]
    exact Ev.const
  | c :: post, pre, s, h, hlt => by
    have hl := len_mid h
    refine Ev.succ ?_
    simp only [F29.PL, lenI_u8s, u8s_at h]
    (simp (disch := first | omega | rfl) only [tt_lt, tt_le, tt_eq, tt_eqS, tt_nblt, tt_nble, ff_lt, ff_le, ff_eq, ff_eqS, tt_not, ff_not, tt_dec, ff_dec, tt_true, tt_false, ff_true, ff_false, tt_room, tt_roomN, isInt_i, isBool_b, isStr_s, isSl_s, isSl_n, isOwn_s, isOwn_1, slXs_n, isTup_t, isAgg_a, Bool.true_and, tt_beq, tupVs_t, aggCs_a, headD_c, tail_c, ce_0, ce_s, ↓bind_s, ite_t, ite_f, toInt_int, toBool_bool, toStr_str, slXs_sl, Nat.add_zero, Nat.zero_add, List.length_cons, List.length_nil, addW_eq, subW_eq, if_pos, if_neg])
    rw [step32 hlt]
    have := F29.ploop hs post (pre ++ [c]) (sumStep s c) (by rw [h]; simp) (sumStep_lt s c)
    simpa using this
theorem F29.eq {l : List UInt8} (hs : l.length ≤ 100000) : F29.P (u8s l) = some (.int .i64 (sumL l : Int)) := lim_eq (F29.ploop hs l [] 2166136261 rfl (by decide))
theorem F31.ploop {l : List UInt8} (hs : l.length ≤ 100000) : ∀ (post pre : List UInt8) (s : Nat), l = pre ++ post → s < 4294967296 → Ev (fun n => F31.PL (u8s l) n (.l0 (s : Int) pre.length)) (.int .i64 ((post.foldl sumStep s : Nat) : Int))
  | [], pre, s, h, hlt => by
    have hl := len_end h
    refine Ev.succ ?_
    simp only [F31.PL, lenI_u8s]
    (simp (disch := first | omega | rfl) only [tt_lt, tt_le, tt_eq, tt_eqS, tt_nblt, tt_nble, ff_lt, ff_le, ff_eq, ff_eqS, tt_not, ff_not, tt_dec, ff_dec, tt_true, tt_false, ff_true, ff_false, tt_room, tt_roomN, isInt_i, isBool_b, isStr_s, isSl_s, isSl_n, isOwn_s, isOwn_1, slXs_n, isTup_t, isAgg_a, Bool.true_and, tt_beq, tupVs_t, aggCs_a, headD_c, tail_c, ce_0, ce_s, ↓bind_s, ite_t, ite_f, toInt_int, toBool_bool, toStr_str, slXs_sl, Nat.add_zero, Nat.zero_add, List.length_cons, List.length_nil, addW_eq, subW_eq, if_pos, if_neg])
    rw [wrap_i64 (by omega) (by omega)]
    exact Ev.const
  | c :: post, pre, s, h, hlt => by
    have hl := len_mid h
    refine Ev.succ ?_
    simp only [F31.PL, lenI_u8s, u8s_at h]
    (simp (disch := first | omega | rfl) only [tt_lt, tt_le, tt_eq, tt_eqS, tt_nblt, tt_nble, ff_lt, ff_le, ff_eq, ff_eqS, tt_not, ff_not, tt_dec, ff_dec, tt_true, tt_false, ff_true, ff_false, tt_room, tt_roomN, isInt_i, isBool_b, isStr_s, isSl_s, isSl_n, isOwn_s, isOwn_1, slXs_n, isTup_t, isAgg_a, Bool.true_and, tt_beq, tupVs_t, aggCs_a, headD_c, tail_c, ce_0, ce_s, ↓bind_s, ite_t, ite_f, toInt_int, toBool_bool, toStr_str, slXs_sl, Nat.add_zero, Nat.zero_add, List.length_cons, List.length_nil, addW_eq, subW_eq, if_pos, if_neg])
    rw [step64 hlt]
    have := F31.ploop hs post (pre ++ [c]) (sumStep s c) (by rw [h]; simp) (sumStep_lt s c)
    simpa using this
theorem F31.eq {l : List UInt8} (hs : l.length ≤ 100000) : F31.P (u8s l) = some (.int .i64 (sumL l : Int)) := lim_eq (F31.ploop hs l [] 2166136261 rfl (by decide))
theorem score_parts {name : ByteArray} {n : Int} (hn : name.size ≤ 50000) (h : I64 n) : (name ++ (⟨#[47]⟩ : ByteArray)).size = name.size + 1 ∧ (itoaV n).size ≤ 21 ∧ (name ++ (⟨#[47]⟩ : ByteArray) ++ itoaV n).size ≤ 60000 ∧ bytesAV (name ++ (⟨#[47]⟩ : ByteArray) ++ itoaV n) = u8s (bs name ++ [47] ++ Lib.itoa n) ∧ (bs name ++ [47] ++ Lib.itoa n).length ≤ 60000 := by
  have hl := itoa_len h
  have hz : (itoaV n).size = (Lib.itoa n).length := by rw [bs_size, bs_itoa]
  have hb : (bs (⟨#[47]⟩ : ByteArray)).length = 1 := rfl
  refine ⟨slash_size name, by omega, ?_, ?_, ?_⟩
  · rw [bs_size, bs_app, bs_app, bs_itoa, List.length_append, List.length_append, ← bs_size]; omega
  · rw [bytesAV_u8s, bs_app, bs_app, bs_itoa]; rfl
  · rw [List.length_append, List.length_append, ← bs_size]; simp; omega
theorem slash1 : (⟨#[47]⟩ : ByteArray).size = 1 := rfl
theorem F9.eq {name : ByteArray} {n : Int} (hn : name.size ≤ 50000) (h : I64 n) : F9.P name n = some (.int .i64 (scoreV name n : Int)) := by
  obtain ⟨q1, q2, q3, q4, q5⟩ := score_parts hn h
  simp only [F9.P, ItoaP.of h, slash1]
  (simp (disch := first | omega | rfl) only [tt_lt, tt_le, tt_eq, tt_eqS, tt_nblt, tt_nble, ff_lt, ff_le, ff_eq, ff_eqS, tt_not, ff_not, tt_dec, ff_dec, tt_true, tt_false, ff_true, ff_false, tt_room, tt_roomN, isInt_i, isBool_b, isStr_s, isSl_s, isSl_n, isOwn_s, isOwn_1, slXs_n, isTup_t, isAgg_a, Bool.true_and, tt_beq, tupVs_t, aggCs_a, headD_c, tail_c, ce_0, ce_s, ↓bind_s, ite_t, ite_f, toInt_int, toBool_bool, toStr_str, slXs_sl, Nat.add_zero, Nat.zero_add, List.length_cons, List.length_nil, addW_eq, subW_eq, if_pos, if_neg])
  rw [q4, F29.eq (by omega)]
  (simp (disch := first | omega | rfl) only [tt_lt, tt_le, tt_eq, tt_eqS, tt_nblt, tt_nble, ff_lt, ff_le, ff_eq, ff_eqS, tt_not, ff_not, tt_dec, ff_dec, tt_true, tt_false, ff_true, ff_false, tt_room, tt_roomN, isInt_i, isBool_b, isStr_s, isSl_s, isSl_n, isOwn_s, isOwn_1, slXs_n, isTup_t, isAgg_a, Bool.true_and, tt_beq, tupVs_t, aggCs_a, headD_c, tail_c, ce_0, ce_s, ↓bind_s, ite_t, ite_f, toInt_int, toBool_bool, toStr_str, slXs_sl, Nat.add_zero, Nat.zero_add, List.length_cons, List.length_nil, addW_eq, subW_eq, if_pos, if_neg])
  rfl
theorem F10.eq {name : ByteArray} {n : Int} (hn : name.size ≤ 50000) (h : I64 n) : F10.P name n = some (.int .i64 (scoreV name n : Int)) := by
  obtain ⟨q1, q2, q3, q4, q5⟩ := score_parts hn h
  simp only [F10.P, ItoaP.of h, slash1]
  (simp (disch := first | omega | rfl) only [tt_lt, tt_le, tt_eq, tt_eqS, tt_nblt, tt_nble, ff_lt, ff_le, ff_eq, ff_eqS, tt_not, ff_not, tt_dec, ff_dec, tt_true, tt_false, ff_true, ff_false, tt_room, tt_roomN, isInt_i, isBool_b, isStr_s, isSl_s, isSl_n, isOwn_s, isOwn_1, slXs_n, isTup_t, isAgg_a, Bool.true_and, tt_beq, tupVs_t, aggCs_a, headD_c, tail_c, ce_0, ce_s, ↓bind_s, ite_t, ite_f, toInt_int, toBool_bool, toStr_str, slXs_sl, Nat.add_zero, Nat.zero_add, List.length_cons, List.length_nil, addW_eq, subW_eq, if_pos, if_neg])
  rw [q4, F31.eq (by omega)]
  (simp (disch := first | omega | rfl) only [tt_lt, tt_le, tt_eq, tt_eqS, tt_nblt, tt_nble, ff_lt, ff_le, ff_eq, ff_eqS, tt_not, ff_not, tt_dec, ff_dec, tt_true, tt_false, ff_true, ff_false, tt_room, tt_roomN, isInt_i, isBool_b, isStr_s, isSl_s, isSl_n, isOwn_s, isOwn_1, slXs_n, isTup_t, isAgg_a, Bool.true_and, tt_beq, tupVs_t, aggCs_a, headD_c, tail_c, ce_0, ce_s, ↓bind_s, ite_t, ite_f, toInt_int, toBool_bool, toStr_str, slXs_sl, Nat.add_zero, Nat.zero_add, List.length_cons, List.length_nil, addW_eq, subW_eq, if_pos, if_neg])
  rfl

/-! Numbers -/
theorem F34.loop {zs : List Int} {v : Int} (hs : zs.length ≤ 100000) : ∀ (post pre : List Int), zs = pre ++ post → Ev (fun n => F34.PL (ints zs) v n (.l0 pre.length)) (.int .i64 (idx (fun z => decide (v = z)) post pre.length))
  | [], pre, h => by
    have hl := len_end h
    refine Ev.succ ?_
    simp only [F34.PL, lenI_ints]
    (simp (disch := first | omega | rfl) only [tt_lt, tt_le, tt_eq, tt_eqS, tt_nblt, tt_nble, ff_lt, ff_le, ff_eq, ff_eqS, tt_not, ff_not, tt_dec, ff_dec, tt_true, tt_false, ff_true, ff_false, tt_room, tt_roomN, isInt_i, isBool_b, isStr_s, isSl_s, isSl_n, isOwn_s, isOwn_1, slXs_n, isTup_t, isAgg_a, Bool.true_and, tt_beq, tupVs_t, aggCs_a, headD_c, tail_c, ce_0, ce_s, ↓bind_s, ite_t, ite_f, toInt_int, toBool_bool, toStr_str, slXs_sl, Nat.add_zero, Nat.zero_add, List.length_cons, List.length_nil, addW_eq, subW_eq, if_pos, if_neg])
    exact Ev.const
  | z :: post, pre, h => by
    have hl := len_mid h
    refine Ev.succ ?_
    simp only [F34.PL, lenI_ints, ints_at h]
    (simp (disch := first | omega | rfl) only [tt_lt, tt_le, tt_eq, tt_eqS, tt_nblt, tt_nble, ff_lt, ff_le, ff_eq, ff_eqS, tt_not, ff_not, tt_dec, ff_dec, tt_true, tt_false, ff_true, ff_false, tt_room, tt_roomN, isInt_i, isBool_b, isStr_s, isSl_s, isSl_n, isOwn_s, isOwn_1, slXs_n, isTup_t, isAgg_a, Bool.true_and, tt_beq, tupVs_t, aggCs_a, headD_c, tail_c, ce_0, ce_s, ↓bind_s, ite_t, ite_f, toInt_int, toBool_bool, toStr_str, slXs_sl, Nat.add_zero, Nat.zero_add, List.length_cons, List.length_nil, addW_eq, subW_eq, if_pos, if_neg])
    by_cases e : v = z
    · simp only [if_pos e, idx, decide_eq_true e, if_true]
      exact Ev.const
    · simp only [if_neg e, idx, decide_eq_false e, Bool.false_eq_true, if_false]
      have := F34.loop (v := v) hs post (pre ++ [z]) (by rw [h]; simp)
      simpa using this
def has (v : Int) (zs : List Int) : Bool := zs.any fun z => decide (v = z)
theorem has_iff {v : Int} {zs : List Int} : has v zs = true ↔ v ∈ zs := by simp [has]
theorem F20.eq {zs : List Int} {v : Int} (hs : zs.length ≤ 100000) : F20.P (ints zs) v = some (.bool (has v zs)) := by
  simp only [F20.P, show F34.P (ints zs) v = _ from lim_eq (F34.loop hs zs [] rfl)]
  (simp (disch := first | omega | rfl) only [tt_lt, tt_le, tt_eq, tt_eqS, tt_nblt, tt_nble, ff_lt, ff_le, ff_eq, ff_eqS, tt_not, ff_not, tt_dec, ff_dec, tt_true, tt_false, ff_true, ff_false, tt_room, tt_roomN, isInt_i, isBool_b, isStr_s, isSl_s, isSl_n, isOwn_s, isOwn_1, slXs_n, isTup_t, isAgg_a, Bool.true_and, tt_beq, tupVs_t, aggCs_a, headD_c, tail_c, ce_0, ce_s, ↓bind_s, ite_t, ite_f, toInt_int, toBool_bool, toStr_str, slXs_sl, Nat.add_zero, Nat.zero_add, List.length_cons, List.length_nil, addW_eq, subW_eq, if_pos, if_neg])
  have := idx_any (fun z => decide (v = z)) zs 0
  rw [show leI 0 (idx (fun z => decide (v = z)) zs 0) = has v zs by rw [Bool.eq_iff_iff, tt_le]; exact Iff.of_eq this]
theorem F15.eq {zs : List Int} (hs : zs.length ≤ 100000) : F15.P (ints zs) = some (.sl 1 1 (ints zs)) := by
  refine clone_any (fun e => ?_) ?_
  · rw [e]; (simp (disch := first | omega | rfl) only [tt_lt, tt_le, tt_eq, tt_eqS, tt_nblt, tt_nble, ff_lt, ff_le, ff_eq, ff_eqS, tt_not, ff_not, tt_dec, ff_dec, tt_true, tt_false, ff_true, ff_false, tt_room, tt_roomN, isInt_i, isBool_b, isStr_s, isSl_s, isSl_n, isOwn_s, isOwn_1, slXs_n, isTup_t, isAgg_a, Bool.true_and, tt_beq, tupVs_t, aggCs_a, headD_c, tail_c, ce_0, ce_s, ↓bind_s, ite_t, ite_f, toInt_int, toBool_bool, toStr_str, slXs_sl, Nat.add_zero, Nat.zero_add, List.length_cons, List.length_nil, addW_eq, subW_eq, if_pos, if_neg])
  · have := length_ints (l := zs)
    (simp (disch := first | omega | rfl) only [tt_lt, tt_le, tt_eq, tt_eqS, tt_nblt, tt_nble, ff_lt, ff_le, ff_eq, ff_eqS, tt_not, ff_not, tt_dec, ff_dec, tt_true, tt_false, ff_true, ff_false, tt_room, tt_roomN, isInt_i, isBool_b, isStr_s, isSl_s, isSl_n, isOwn_s, isOwn_1, slXs_n, isTup_t, isAgg_a, Bool.true_and, tt_beq, tupVs_t, aggCs_a, headD_c, tail_c, ce_0, ce_s, ↓bind_s, ite_t, ite_f, toInt_int, toBool_bool, toStr_str, slXs_sl, Nat.add_zero, Nat.zero_add, List.length_cons, List.length_nil, addW_eq, subW_eq, if_pos, if_neg])
theorem F11.loop {a b : List Int} (hl : a.length = b.length) (hs : a.length ≤ 100000) : ∀ (pa pb pre pre' : List Int), a = pre ++ pa → b = pre' ++ pb → pre.length = pre'.length → pa.length = pb.length → Ev (fun n => F11.PL (ints a) (ints b) n (.l0 pre.length)) (.bool (decide (pa = pb)))
  | [], [], pre, pre', h, h', e, _ => by
    have h1 := len_end h
    refine Ev.succ ?_
    simp only [F11.PL, lenI_ints]
    (simp (disch := first | omega | rfl) only [tt_lt, tt_le, tt_eq, tt_eqS, tt_nblt, tt_nble, ff_lt, ff_le, ff_eq, ff_eqS, tt_not, ff_not, tt_dec, ff_dec, tt_true, tt_false, ff_true, ff_false, tt_room, tt_roomN, isInt_i, isBool_b, isStr_s, isSl_s, isSl_n, isOwn_s, isOwn_1, slXs_n, isTup_t, isAgg_a, Bool.true_and, tt_beq, tupVs_t, aggCs_a, headD_c, tail_c, ce_0, ce_s, ↓bind_s, ite_t, ite_f, toInt_int, toBool_bool, toStr_str, slXs_sl, Nat.add_zero, Nat.zero_add, List.length_cons, List.length_nil, addW_eq, subW_eq, if_pos, if_neg])
    exact Ev.const
  | x :: pa, y :: pb, pre, pre', h, h', e, e2 => by
    have h1 := len_mid h
    have h2 := len_mid h'
    refine Ev.succ ?_
    have hb : ro (ints b) (pre.length : Int).toNat = [.int .i64 y] := by rw [e]; exact ints_at h'
    simp only [F11.PL, lenI_ints, ints_at h, hb]
    (simp (disch := first | omega | rfl) only [tt_lt, tt_le, tt_eq, tt_eqS, tt_nblt, tt_nble, ff_lt, ff_le, ff_eq, ff_eqS, tt_not, ff_not, tt_dec, ff_dec, tt_true, tt_false, ff_true, ff_false, tt_room, tt_roomN, isInt_i, isBool_b, isStr_s, isSl_s, isSl_n, isOwn_s, isOwn_1, slXs_n, isTup_t, isAgg_a, Bool.true_and, tt_beq, tupVs_t, aggCs_a, headD_c, tail_c, ce_0, ce_s, ↓bind_s, ite_t, ite_f, toInt_int, toBool_bool, toStr_str, slXs_sl, Nat.add_zero, Nat.zero_add, List.length_cons, List.length_nil, addW_eq, subW_eq, if_pos, if_neg])
    by_cases q : x = y
    · subst q
      have := F11.loop hl hs pa pb (pre ++ [x]) (pre' ++ [x]) (by rw [h]; simp) (by rw [h']; simp) (by simp [e]) (by simpa using e2)
      rw [show decide (x :: pa = x :: pb) = decide (pa = pb) by simp]
      simpa using this
    · have : decide (x :: pa = y :: pb) = false := by simp [q]
      rw [this]
      simp only [q, not_false_eq_true, if_true]
      exact Ev.const
  | [], _ :: _, _, _, _, _, _, e => by simp at e
  | _ :: _, [], _, _, _, _, _, e => by simp at e
theorem F11.eq {a b : List Int} (ha : a.length ≤ 100000) : F11.P (ints a) (ints b) = some (.bool (decide (a = b))) := by
  unfold F11.P
  refine lim_eq ?_
  simp only [lenI_ints]
  by_cases h : a.length = b.length
  · have := F11.loop h ha a b [] [] rfl rfl rfl h
    (simp (disch := first | omega | rfl) only [tt_lt, tt_le, tt_eq, tt_eqS, tt_nblt, tt_nble, ff_lt, ff_le, ff_eq, ff_eqS, tt_not, ff_not, tt_dec, ff_dec, tt_true, tt_false, ff_true, ff_false, tt_room, tt_roomN, isInt_i, isBool_b, isStr_s, isSl_s, isSl_n, isOwn_s, isOwn_1, slXs_n, isTup_t, isAgg_a, Bool.true_and, tt_beq, tupVs_t, aggCs_a, headD_c, tail_c, ce_0, ce_s, ↓bind_s, ite_t, ite_f, toInt_int, toBool_bool, toStr_str, slXs_sl, Nat.add_zero, Nat.zero_add, List.length_cons, List.length_nil, addW_eq, subW_eq, if_pos, if_neg])
    simpa using this
  · have : decide (a = b) = false := by simp; intro e; exact h (by rw [e])
    rw [this]
    (simp (disch := first | omega | rfl) only [tt_lt, tt_le, tt_eq, tt_eqS, tt_nblt, tt_nble, ff_lt, ff_le, ff_eq, ff_eqS, tt_not, ff_not, tt_dec, ff_dec, tt_true, tt_false, ff_true, ff_false, tt_room, tt_roomN, isInt_i, isBool_b, isStr_s, isSl_s, isSl_n, isOwn_s, isOwn_1, slXs_n, isTup_t, isAgg_a, Bool.true_and, tt_beq, tupVs_t, aggCs_a, headD_c, tail_c, ce_0, ce_s, ↓bind_s, ite_t, ite_f, toInt_int, toBool_bool, toStr_str, slXs_sl, Nat.add_zero, Nat.zero_add, List.length_cons, List.length_nil, addW_eq, subW_eq, if_pos, if_neg])
    exact Ev.const
def without (x : Int) (l : List Int) : List Int := l.filter fun z => !(decide (z = x))
theorem F16.loop {l : List Int} {x : Int} (hs : l.length ≤ 100000) : ∀ (post pre out : List Int), l = pre ++ post → out.length ≤ pre.length → Ev (fun n => F16.PL (ints l) x n (.l0 (ints out) pre.length)) (.sl 0 1 (ints (out ++ without x post)))
  | [], pre, out, h, ho => by
    have hl := len_end h
    refine Ev.succ ?_
    simp only [F16.PL, lenI_ints]
    (simp (disch := first | omega | rfl) only [tt_lt, tt_le, tt_eq, tt_eqS, tt_nblt, tt_nble, ff_lt, ff_le, ff_eq, ff_eqS, tt_not, ff_not, tt_dec, ff_dec, tt_true, tt_false, ff_true, ff_false, tt_room, tt_roomN, isInt_i, isBool_b, isStr_s, isSl_s, isSl_n, isOwn_s, isOwn_1, slXs_n, isTup_t, isAgg_a, Bool.true_and, tt_beq, tupVs_t, aggCs_a, headD_c, tail_c, ce_0, ce_s, ↓bind_s, ite_t, ite_f, toInt_int, toBool_bool, toStr_str, slXs_sl, Nat.add_zero, Nat.zero_add, List.length_cons, List.length_nil, addW_eq, subW_eq, if_pos, if_neg])
    simp only [without, List.filter_nil, List.append_nil]
    exact Ev.const
  | z :: post, pre, out, h, ho => by
    have hl := len_mid h
    have hi := length_ints (l := out)
    refine Ev.succ ?_
    simp only [F16.PL, lenI_ints, ints_at h]
    (simp (disch := first | omega | rfl) only [tt_lt, tt_le, tt_eq, tt_eqS, tt_nblt, tt_nble, ff_lt, ff_le, ff_eq, ff_eqS, tt_not, ff_not, tt_dec, ff_dec, tt_true, tt_false, ff_true, ff_false, tt_room, tt_roomN, isInt_i, isBool_b, isStr_s, isSl_s, isSl_n, isOwn_s, isOwn_1, slXs_n, isTup_t, isAgg_a, Bool.true_and, tt_beq, tupVs_t, aggCs_a, headD_c, tail_c, ce_0, ce_s, ↓bind_s, ite_t, ite_f, toInt_int, toBool_bool, toStr_str, slXs_sl, Nat.add_zero, Nat.zero_add, List.length_cons, List.length_nil, addW_eq, subW_eq, if_pos, if_neg])
    by_cases e : z = x
    · simp only [if_pos e, e, not_true_eq_false, if_false]
      have := F16.loop (x := x) hs post (pre ++ [z]) out (by rw [h]; simp) (by simp; omega)
      simpa [without, e] using this
    · simp only [e, not_false_eq_true, if_true]
      rw [ints_snoc]
      have := F16.loop (x := x) hs post (pre ++ [z]) (out ++ [z]) (by rw [h]; simp) (by simp; omega)
      simpa [without, e] using this
theorem F16.eq {l : List Int} {x : Int} (hs : l.length ≤ 100000) : F16.P (ints l) x = some (.sl 0 1 (ints (without x l))) := lim_eq (F16.loop hs l [] [] rfl (Nat.le_refl _))

/-! Rankings -/
/-- Those of k, k + 1, .., d of them, that a list has. -/
def selFrom (nodes : List Int) : Nat → Nat → List Int
  | _, 0 => []
  | k, d + 1 => if has k nodes then (k : Int) :: selFrom nodes (k + 1) d else selFrom nodes (k + 1) d
def sel (nodes : List Int) : List Int := selFrom nodes 0 7
theorem selFrom_len (nodes : List Int) : ∀ d k, (selFrom nodes k d).length ≤ d
  | 0, k => by simp [selFrom]
  | d + 1, k => by
    have := selFrom_len nodes d (k + 1)
    simp only [selFrom]
    split <;> simp <;> omega
theorem selFrom_mem (nodes : List Int) : ∀ d k (z : Int), z ∈ selFrom nodes k d ↔ ((k : Int) ≤ z ∧ z < k + d) ∧ z ∈ nodes
  | 0, k, z => by simp [selFrom]; omega
  | d + 1, k, z => by
    have ih := selFrom_mem nodes d (k + 1) z
    simp only [selFrom]
    cases h : has k nodes
    · rw [if_neg Bool.false_ne_true, ih]
      refine ⟨fun ⟨h1, h2⟩ => ⟨by omega, h2⟩, fun ⟨h1, h2⟩ => ⟨?_, h2⟩⟩
      have : z ≠ k := fun e => by rw [← e] at h; exact Bool.false_ne_true (h.symm.trans (has_iff.2 h2))
      omega
    · rw [if_pos rfl, List.mem_cons, ih]
      constructor
      · rintro (rfl | ⟨h1, h2⟩)
        · exact ⟨by omega, has_iff.1 h⟩
        · exact ⟨by omega, h2⟩
      · rintro ⟨h1, h2⟩
        by_cases e : z = k
        · exact .inl e
        · exact .inr ⟨by omega, h2⟩
theorem sel_mem {nodes : List Int} {z : Int} : z ∈ sel nodes ↔ (0 ≤ z ∧ z < 7) ∧ z ∈ nodes := by
  unfold sel
  rw [selFrom_mem]
  simp
theorem sel_len (nodes : List Int) : (sel nodes).length ≤ 7 := selFrom_len nodes 7 0
theorem F19.loop {name : ByteArray} {nodes : List Int} (hn : name.size ≤ 50000) (hs : nodes.length ≤ 100000) : ∀ (d k : Nat) (out : List Int), k + d = 7 → out.length ≤ k → (∀ z ∈ out, 0 ≤ z ∧ z < 7) →
    Ev (fun n => F19.PL name (ints nodes) n (.l0 (ints out) k)) (.sl 0 1 (ints (isort (scoreV name) [] (out ++ selFrom nodes k d))))
  | 0, k, out, hk, ho, hz => by
    refine Ev.succ ?_
    simp only [F19.PL]
    (simp (disch := first | omega | rfl) only [tt_lt, tt_le, tt_eq, tt_eqS, tt_nblt, tt_nble, ff_lt, ff_le, ff_eq, ff_eqS, tt_not, ff_not, tt_dec, ff_dec, tt_true, tt_false, ff_true, ff_false, tt_room, tt_roomN, isInt_i, isBool_b, isStr_s, isSl_s, isSl_n, isOwn_s, isOwn_1, slXs_n, isTup_t, isAgg_a, Bool.true_and, tt_beq, tupVs_t, aggCs_a, headD_c, tail_c, ce_0, ce_s, ↓bind_s, ite_t, ite_f, toInt_int, toBool_bool, toStr_str, slXs_sl, Nat.add_zero, Nat.zero_add, List.length_cons, List.length_nil, addW_eq, subW_eq, if_pos, if_neg])
    rw [StabP.of (by omega) (fun z h => ⟨by have := (hz z h).1; omega, by have := (hz z h).2; omega⟩) hn]
    (simp (disch := first | omega | rfl) only [tt_lt, tt_le, tt_eq, tt_eqS, tt_nblt, tt_nble, ff_lt, ff_le, ff_eq, ff_eqS, tt_not, ff_not, tt_dec, ff_dec, tt_true, tt_false, ff_true, ff_false, tt_room, tt_roomN, isInt_i, isBool_b, isStr_s, isSl_s, isSl_n, isOwn_s, isOwn_1, slXs_n, isTup_t, isAgg_a, Bool.true_and, tt_beq, tupVs_t, aggCs_a, headD_c, tail_c, ce_0, ce_s, ↓bind_s, ite_t, ite_f, toInt_int, toBool_bool, toStr_str, slXs_sl, Nat.add_zero, Nat.zero_add, List.length_cons, List.length_nil, addW_eq, subW_eq, if_pos, if_neg])
    simp only [selFrom, List.append_nil]
    exact Ev.const
  | d + 1, k, out, hk, ho, hz => by
    have hi := length_ints (l := out)
    refine Ev.succ ?_
    simp only [F19.PL]
    (simp (disch := first | omega | rfl) only [tt_lt, tt_le, tt_eq, tt_eqS, tt_nblt, tt_nble, ff_lt, ff_le, ff_eq, ff_eqS, tt_not, ff_not, tt_dec, ff_dec, tt_true, tt_false, ff_true, ff_false, tt_room, tt_roomN, isInt_i, isBool_b, isStr_s, isSl_s, isSl_n, isOwn_s, isOwn_1, slXs_n, isTup_t, isAgg_a, Bool.true_and, tt_beq, tupVs_t, aggCs_a, headD_c, tail_c, ce_0, ce_s, ↓bind_s, ite_t, ite_f, toInt_int, toBool_bool, toStr_str, slXs_sl, Nat.add_zero, Nat.zero_add, List.length_cons, List.length_nil, addW_eq, subW_eq, if_pos, if_neg])
    rw [F20.eq hs]
    (simp (disch := first | omega | rfl) only [tt_lt, tt_le, tt_eq, tt_eqS, tt_nblt, tt_nble, ff_lt, ff_le, ff_eq, ff_eqS, tt_not, ff_not, tt_dec, ff_dec, tt_true, tt_false, ff_true, ff_false, tt_room, tt_roomN, isInt_i, isBool_b, isStr_s, isSl_s, isSl_n, isOwn_s, isOwn_1, slXs_n, isTup_t, isAgg_a, Bool.true_and, tt_beq, tupVs_t, aggCs_a, headD_c, tail_c, ce_0, ce_s, ↓bind_s, ite_t, ite_f, toInt_int, toBool_bool, toStr_str, slXs_sl, Nat.add_zero, Nat.zero_add, List.length_cons, List.length_nil, addW_eq, subW_eq, if_pos, if_neg])
    have hk' : ((k : Int) + 1) = ((k + 1 : Nat) : Int) := by simp
    cases h : has (k : Int) nodes
    · (simp (disch := first | omega | rfl) only [tt_lt, tt_le, tt_eq, tt_eqS, tt_nblt, tt_nble, ff_lt, ff_le, ff_eq, ff_eqS, tt_not, ff_not, tt_dec, ff_dec, tt_true, tt_false, ff_true, ff_false, tt_room, tt_roomN, isInt_i, isBool_b, isStr_s, isSl_s, isSl_n, isOwn_s, isOwn_1, slXs_n, isTup_t, isAgg_a, Bool.true_and, tt_beq, tupVs_t, aggCs_a, headD_c, tail_c, ce_0, ce_s, ↓bind_s, ite_t, ite_f, toInt_int, toBool_bool, toStr_str, slXs_sl, Nat.add_zero, Nat.zero_add, List.length_cons, List.length_nil, addW_eq, subW_eq, if_pos, if_neg])
      rw [hk']
      have := F19.loop hn hs d (k + 1) out (by omega) (by omega) hz
      simpa [selFrom, h] using this
    · (simp (disch := first | omega | rfl) only [tt_lt, tt_le, tt_eq, tt_eqS, tt_nblt, tt_nble, ff_lt, ff_le, ff_eq, ff_eqS, tt_not, ff_not, tt_dec, ff_dec, tt_true, tt_false, ff_true, ff_false, tt_room, tt_roomN, isInt_i, isBool_b, isStr_s, isSl_s, isSl_n, isOwn_s, isOwn_1, slXs_n, isTup_t, isAgg_a, Bool.true_and, tt_beq, tupVs_t, aggCs_a, headD_c, tail_c, ce_0, ce_s, ↓bind_s, ite_t, ite_f, toInt_int, toBool_bool, toStr_str, slXs_sl, Nat.add_zero, Nat.zero_add, List.length_cons, List.length_nil, addW_eq, subW_eq, if_pos, if_neg])
      rw [ints_snoc, hk']
      have := F19.loop hn hs d (k + 1) (out ++ [(k : Int)]) (by omega) (by simp; omega) (fun z hz' => by
        rcases List.mem_append.1 hz' with h' | h'
        · exact hz z h'
        · rw [List.mem_singleton.1 h']; omega)
      simpa [selFrom, h] using this
def rk (name : ByteArray) (nodes : List Int) : List Int := isort (scoreV name) [] (sel nodes)
theorem rk_len (name : ByteArray) (nodes : List Int) : (rk name nodes).length = (sel nodes).length := by simp [rk, isort_len]
theorem F19.eq {name : ByteArray} {nodes : List Int} (hn : name.size ≤ 50000) (hs : nodes.length ≤ 100000) : F19.P name (ints nodes) = some (.sl 0 1 (ints (rk name nodes))) :=
  lim_eq (F19.loop hn hs 7 0 [] rfl (by simp) (by simp))
/-- The reference's insertion, and that of the sort. -/
def insL (sc : Int → Nat) (x : Int) : List Int → List Int
  | [] => [x]
  | y :: r => if sc x ≤ sc y then y :: insL sc x r else x :: y :: r
theorem insL_cut {sc : Int → Nat} {x : Int} : ∀ {A B : List Int}, (∀ a ∈ A, sc x ≤ sc a) → (∀ b ∈ B, sc b < sc x) → insL sc x (A ++ B) = A ++ x :: B
  | [], [], _, _ => rfl
  | [], b :: B, _, hB => by have := hB b (by simp); simp only [List.nil_append, insL]; rw [if_neg (by omega)]
  | a :: A, B, hA, hB => by
    simp only [List.cons_append, insL]
    rw [if_pos (hA a (by simp)), insL_cut (fun z h => hA z (by simp [h])) hB]
theorem insR_cut {sc : Int → Nat} {x : Int} {A : List Int} (hA : ∀ a ∈ A, sc x ≤ sc a) : ∀ {B : List Int}, (∀ b ∈ B, sc b < sc x) → insR sc x (B ++ A) = B ++ x :: A
  | [], _ => by
    cases A with
    | nil => rfl
    | cons a A => have := hA a (by simp); simp only [List.nil_append, insR]; rw [if_neg (by omega)]
  | b :: B, hB => by
    simp only [List.cons_append, insR]
    rw [if_pos (hB b (by simp)), insR_cut hA (fun z h => hB z (by simp [h]))]
def Desc (sc : Int → Nat) (l : List Int) : Prop := l.Pairwise fun a b => sc b ≤ sc a
theorem desc_cut {sc : Int → Nat} (x : Int) : ∀ {D : List Int}, Desc sc D → ∃ A B, D = A ++ B ∧ (∀ a ∈ A, sc x ≤ sc a) ∧ (∀ b ∈ B, sc b < sc x)
  | [], _ => ⟨[], [], rfl, by simp, by simp⟩
  | d :: D, h => by
    have h' := List.pairwise_cons.1 h
    by_cases e : sc x ≤ sc d
    · obtain ⟨A, B, rfl, h1, h2⟩ := desc_cut x h'.2
      exact ⟨d :: A, B, rfl, fun a ha => (List.mem_cons.1 ha).elim (fun e' => e' ▸ e) (h1 a), h2⟩
    · refine ⟨[], d :: D, rfl, by simp, fun b hb => ?_⟩
      rcases List.mem_cons.1 hb with rfl | hb
      · omega
      · have := h'.1 b hb; omega
theorem ins_same {sc : Int → Nat} {x : Int} {D : List Int} (h : Desc sc D) : (insR sc x D.reverse).reverse = insL sc x D := by
  obtain ⟨A, B, rfl, h1, h2⟩ := desc_cut x h
  rw [insL_cut h1 h2, List.reverse_append, insR_cut (fun a ha => h1 a (by simpa using ha)) (fun b hb => h2 b (by simpa using hb))]
  simp
theorem insL_desc {sc : Int → Nat} {x : Int} {D : List Int} (h : Desc sc D) : Desc sc (insL sc x D) := by
  obtain ⟨A, B, rfl, h1, h2⟩ := desc_cut x h
  rw [insL_cut h1 h2]
  have h' := List.pairwise_append.1 h
  refine List.pairwise_append.2 ⟨h'.1, List.pairwise_cons.2 ⟨fun b hb => Nat.le_of_lt (h2 b hb), h'.2.1⟩, fun a ha b hb => ?_⟩
  rcases List.mem_cons.1 hb with rfl | hb
  · exact h1 a ha
  · exact h'.2.2 a ha b hb
theorem isort_fold {sc : Int → Nat} : ∀ (l D : List Int), Desc sc D → isort sc D l = l.foldl (fun D x => insL sc x D) D
  | [], D, _ => rfl
  | x :: r, D, h => by
    simp only [isort, List.foldl_cons]
    rw [ins_same h]
    exact isort_fold r _ (insL_desc h)
theorem fold_desc {sc : Int → Nat} : ∀ (l D : List Int), Desc sc D → Desc sc (l.foldl (fun D x => insL sc x D) D)
  | [], D, h => h
  | x :: r, D, h => fold_desc r _ (insL_desc h)
theorem insL_len (sc : Int → Nat) (x : Int) : ∀ l, (insL sc x l).length = l.length + 1
  | [] => rfl
  | y :: r => by simp only [insL]; split <;> simp [insL_len sc x r]
theorem insL_mem (sc : Int → Nat) (x : Int) : ∀ l z, z ∈ insL sc x l ↔ z = x ∨ z ∈ l
  | [], z => by simp [insL]
  | y :: r, z => by
    simp only [insL]
    split
    · simp only [List.mem_cons, insL_mem sc x r z]
      exact ⟨fun h => h.elim (fun h => .inr (.inl h)) fun h => h.imp id .inr, fun h => h.elim (fun h => .inr (.inl h)) fun h => h.imp id .inr⟩
    · simp
theorem F23.l1 {name : ByteArray} {nodes : List Int} (hn : name.size ≤ 50000) {x : Int} (hx : 0 ≤ x ∧ x < 7) {x8 : Int} {out : List Int} (ho : out.length ≤ 7) (hz : ∀ z ∈ out, 0 ≤ z ∧ z < 7) {v : AV} :
    ∀ (post pre : List Int), out = pre ++ post → Ev (fun n => F23.PL name (ints nodes) n (.l0 (ints (pre ++ insL (scoreV name) x post)) (addW .i64 x8 1))) v → Ev (fun n => F23.PL name (ints nodes) n (.l1 (ints out) x pre.length x8)) v
  | [], pre, h, hv => by
    have hl := len_end h
    refine Ev.succ ?_
    simp only [F23.PL, lenI_ints]
    (simp (disch := first | omega | rfl) only [tt_lt, tt_le, tt_eq, tt_eqS, tt_nblt, tt_nble, ff_lt, ff_le, ff_eq, ff_eqS, tt_not, ff_not, tt_dec, ff_dec, tt_true, tt_false, ff_true, ff_false, tt_room, tt_roomN, isInt_i, isBool_b, isStr_s, isSl_s, isSl_n, isOwn_s, isOwn_1, slXs_n, isTup_t, isAgg_a, Bool.true_and, tt_beq, tupVs_t, aggCs_a, headD_c, tail_c, ce_0, ce_s, ↓bind_s, ite_t, ite_f, toInt_int, toBool_bool, toStr_str, slXs_sl, Nat.add_zero, Nat.zero_add, List.length_cons, List.length_nil, addW_eq, subW_eq, if_pos, if_neg])
    rw [InsP.of (by omega) (by rw [length_ints]; omega) (by rw [length_ints]; omega)]
    (simp (disch := first | omega | rfl) only [tt_lt, tt_le, tt_eq, tt_eqS, tt_nblt, tt_nble, ff_lt, ff_le, ff_eq, ff_eqS, tt_not, ff_not, tt_dec, ff_dec, tt_true, tt_false, ff_true, ff_false, tt_room, tt_roomN, isInt_i, isBool_b, isStr_s, isSl_s, isSl_n, isOwn_s, isOwn_1, slXs_n, isTup_t, isAgg_a, Bool.true_and, tt_beq, tupVs_t, aggCs_a, headD_c, tail_c, ce_0, ce_s, ↓bind_s, ite_t, ite_f, toInt_int, toBool_bool, toStr_str, slXs_sl, Nat.add_zero, Nat.zero_add, List.length_cons, List.length_nil, addW_eq, subW_eq, if_pos, if_neg])
    have e : (ints out).take (pre.length : Int).toNat ++ [AV.int .i64 x] :: (ints out).drop (pre.length : Int).toNat = ints (pre ++ insL (scoreV name) x []) := by
      have h0 : out = pre := by simpa using h
      have hp : (ints pre).length = pre.length := length_ints
      rw [h0, Int.toNat_natCast, List.take_of_length_le (by omega), List.drop_of_length_le (by omega)]
      simp [ints, insL]
    rw [e]
    exact hv
  | y :: post, pre, h, hv => by
    have hl := len_mid h
    have hy : 0 ≤ y ∧ y < 7 := hz y (by rw [h]; simp)
    refine Ev.succ ?_
    simp only [F23.PL, lenI_ints, ints_at h]
    (simp (disch := first | omega | rfl) only [tt_lt, tt_le, tt_eq, tt_eqS, tt_nblt, tt_nble, ff_lt, ff_le, ff_eq, ff_eqS, tt_not, ff_not, tt_dec, ff_dec, tt_true, tt_false, ff_true, ff_false, tt_room, tt_roomN, isInt_i, isBool_b, isStr_s, isSl_s, isSl_n, isOwn_s, isOwn_1, slXs_n, isTup_t, isAgg_a, Bool.true_and, tt_beq, tupVs_t, aggCs_a, headD_c, tail_c, ce_0, ce_s, ↓bind_s, ite_t, ite_f, toInt_int, toBool_bool, toStr_str, slXs_sl, Nat.add_zero, Nat.zero_add, List.length_cons, List.length_nil, addW_eq, subW_eq, if_pos, if_neg])
    rw [F10.eq hn ⟨by omega, by omega⟩]
    (simp (disch := first | omega | rfl) only [tt_lt, tt_le, tt_eq, tt_eqS, tt_nblt, tt_nble, ff_lt, ff_le, ff_eq, ff_eqS, tt_not, ff_not, tt_dec, ff_dec, tt_true, tt_false, ff_true, ff_false, tt_room, tt_roomN, isInt_i, isBool_b, isStr_s, isSl_s, isSl_n, isOwn_s, isOwn_1, slXs_n, isTup_t, isAgg_a, Bool.true_and, tt_beq, tupVs_t, aggCs_a, headD_c, tail_c, ce_0, ce_s, ↓bind_s, ite_t, ite_f, toInt_int, toBool_bool, toStr_str, slXs_sl, Nat.add_zero, Nat.zero_add, List.length_cons, List.length_nil, addW_eq, subW_eq, if_pos, if_neg])
    rw [F10.eq hn ⟨by omega, by omega⟩]
    (simp (disch := first | omega | rfl) only [tt_lt, tt_le, tt_eq, tt_eqS, tt_nblt, tt_nble, ff_lt, ff_le, ff_eq, ff_eqS, tt_not, ff_not, tt_dec, ff_dec, tt_true, tt_false, ff_true, ff_false, tt_room, tt_roomN, isInt_i, isBool_b, isStr_s, isSl_s, isSl_n, isOwn_s, isOwn_1, slXs_n, isTup_t, isAgg_a, Bool.true_and, tt_beq, tupVs_t, aggCs_a, headD_c, tail_c, ce_0, ce_s, ↓bind_s, ite_t, ite_f, toInt_int, toBool_bool, toStr_str, slXs_sl, Nat.add_zero, Nat.zero_add, List.length_cons, List.length_nil, addW_eq, subW_eq, if_pos, if_neg])
    by_cases e : scoreV name x ≤ scoreV name y
    · have q : (scoreV name x : Int) ≤ (scoreV name y : Int) := by omega
      simp only [q, if_true]
      have := F23.l1 (x8 := x8) hn hx ho hz (v := v) post (pre ++ [y]) (by rw [h]; simp) (by simpa [insL, e] using hv)
      simpa using this
    · have q : ¬ (scoreV name x : Int) ≤ (scoreV name y : Int) := by omega
      simp only [q, if_false]
      rw [InsP.of (by omega) (by rw [length_ints]; omega) (by rw [length_ints]; omega)]
      (simp (disch := first | omega | rfl) only [tt_lt, tt_le, tt_eq, tt_eqS, tt_nblt, tt_nble, ff_lt, ff_le, ff_eq, ff_eqS, tt_not, ff_not, tt_dec, ff_dec, tt_true, tt_false, ff_true, ff_false, tt_room, tt_roomN, isInt_i, isBool_b, isStr_s, isSl_s, isSl_n, isOwn_s, isOwn_1, slXs_n, isTup_t, isAgg_a, Bool.true_and, tt_beq, tupVs_t, aggCs_a, headD_c, tail_c, ce_0, ce_s, ↓bind_s, ite_t, ite_f, toInt_int, toBool_bool, toStr_str, slXs_sl, Nat.add_zero, Nat.zero_add, List.length_cons, List.length_nil, addW_eq, subW_eq, if_pos, if_neg])
      have e' : (ints out).take (pre.length : Int).toNat ++ [AV.int .i64 x] :: (ints out).drop (pre.length : Int).toNat = ints (pre ++ insL (scoreV name) x (y :: post)) := by
        subst h; simp [ints, insL, e]
      rw [e']
      exact hv
theorem F23.loop {name : ByteArray} {nodes : List Int} (hn : name.size ≤ 50000) (hs : nodes.length ≤ 100000) : ∀ (d k : Nat) (out : List Int), k + d = 7 → out.length ≤ k → (∀ z ∈ out, 0 ≤ z ∧ z < 7) →
    Ev (fun n => F23.PL name (ints nodes) n (.l0 (ints out) k)) (.sl 0 1 (ints ((selFrom nodes k d).foldl (fun D x => insL (scoreV name) x D) out)))
  | 0, k, out, hk, ho, hz => by
    refine Ev.succ ?_
    simp only [F23.PL]
    (simp (disch := first | omega | rfl) only [tt_lt, tt_le, tt_eq, tt_eqS, tt_nblt, tt_nble, ff_lt, ff_le, ff_eq, ff_eqS, tt_not, ff_not, tt_dec, ff_dec, tt_true, tt_false, ff_true, ff_false, tt_room, tt_roomN, isInt_i, isBool_b, isStr_s, isSl_s, isSl_n, isOwn_s, isOwn_1, slXs_n, isTup_t, isAgg_a, Bool.true_and, tt_beq, tupVs_t, aggCs_a, headD_c, tail_c, ce_0, ce_s, ↓bind_s, ite_t, ite_f, toInt_int, toBool_bool, toStr_str, slXs_sl, Nat.add_zero, Nat.zero_add, List.length_cons, List.length_nil, addW_eq, subW_eq, if_pos, if_neg])
    simp only [selFrom, List.foldl_nil]
    exact Ev.const
  | d + 1, k, out, hk, ho, hz => by
    refine Ev.succ ?_
    simp only [F23.PL]
    (simp (disch := first | omega | rfl) only [tt_lt, tt_le, tt_eq, tt_eqS, tt_nblt, tt_nble, ff_lt, ff_le, ff_eq, ff_eqS, tt_not, ff_not, tt_dec, ff_dec, tt_true, tt_false, ff_true, ff_false, tt_room, tt_roomN, isInt_i, isBool_b, isStr_s, isSl_s, isSl_n, isOwn_s, isOwn_1, slXs_n, isTup_t, isAgg_a, Bool.true_and, tt_beq, tupVs_t, aggCs_a, headD_c, tail_c, ce_0, ce_s, ↓bind_s, ite_t, ite_f, toInt_int, toBool_bool, toStr_str, slXs_sl, Nat.add_zero, Nat.zero_add, List.length_cons, List.length_nil, addW_eq, subW_eq, if_pos, if_neg])
    rw [F20.eq hs]
    (simp (disch := first | omega | rfl) only [tt_lt, tt_le, tt_eq, tt_eqS, tt_nblt, tt_nble, ff_lt, ff_le, ff_eq, ff_eqS, tt_not, ff_not, tt_dec, ff_dec, tt_true, tt_false, ff_true, ff_false, tt_room, tt_roomN, isInt_i, isBool_b, isStr_s, isSl_s, isSl_n, isOwn_s, isOwn_1, slXs_n, isTup_t, isAgg_a, Bool.true_and, tt_beq, tupVs_t, aggCs_a, headD_c, tail_c, ce_0, ce_s, ↓bind_s, ite_t, ite_f, toInt_int, toBool_bool, toStr_str, slXs_sl, Nat.add_zero, Nat.zero_add, List.length_cons, List.length_nil, addW_eq, subW_eq, if_pos, if_neg])
    have hk' : ((k : Int) + 1) = ((k + 1 : Nat) : Int) := by simp
    cases h : has (k : Int) nodes
    · (simp (disch := first | omega | rfl) only [tt_lt, tt_le, tt_eq, tt_eqS, tt_nblt, tt_nble, ff_lt, ff_le, ff_eq, ff_eqS, tt_not, ff_not, tt_dec, ff_dec, tt_true, tt_false, ff_true, ff_false, tt_room, tt_roomN, isInt_i, isBool_b, isStr_s, isSl_s, isSl_n, isOwn_s, isOwn_1, slXs_n, isTup_t, isAgg_a, Bool.true_and, tt_beq, tupVs_t, aggCs_a, headD_c, tail_c, ce_0, ce_s, ↓bind_s, ite_t, ite_f, toInt_int, toBool_bool, toStr_str, slXs_sl, Nat.add_zero, Nat.zero_add, List.length_cons, List.length_nil, addW_eq, subW_eq, if_pos, if_neg])
      rw [hk']
      have := F23.loop hn hs d (k + 1) out (by omega) (by omega) hz
      simpa [selFrom, h] using this
    · (simp (disch := first | omega | rfl) only [tt_lt, tt_le, tt_eq, tt_eqS, tt_nblt, tt_nble, ff_lt, ff_le, ff_eq, ff_eqS, tt_not, ff_not, tt_dec, ff_dec, tt_true, tt_false, ff_true, ff_false, tt_room, tt_roomN, isInt_i, isBool_b, isStr_s, isSl_s, isSl_n, isOwn_s, isOwn_1, slXs_n, isTup_t, isAgg_a, Bool.true_and, tt_beq, tupVs_t, aggCs_a, headD_c, tail_c, ce_0, ce_s, ↓bind_s, ite_t, ite_f, toInt_int, toBool_bool, toStr_str, slXs_sl, Nat.add_zero, Nat.zero_add, List.length_cons, List.length_nil, addW_eq, subW_eq, if_pos, if_neg])
      have := F23.l1 (nodes := nodes) (x8 := (k : Int)) hn (x := (k : Int)) ⟨by omega, by omega⟩ (out := out) (by omega) hz (v := (.sl 0 1 (ints ((selFrom nodes k (d + 1)).foldl (fun D x => insL (scoreV name) x D) out)))) out [] rfl (by
        rw [addW_eq (by omega) (by omega), hk']
        have := F23.loop hn hs d (k + 1) (insL (scoreV name) k out) (by omega) (by rw [insL_len]; omega) (fun z hz' => by
          rcases (insL_mem _ _ _ _).1 hz' with rfl | h'
          · omega
          · exact hz z h')
        simpa [selFrom, h] using this)
      simpa using this
theorem F23.eq {name : ByteArray} {nodes : List Int} (hn : name.size ≤ 50000) (hs : nodes.length ≤ 100000) : F23.P name (ints nodes) = some (.sl 0 1 (ints (rk name nodes))) := by
  unfold rk
  rw [isort_fold _ _ (by simp [Desc])]
  exact lim_eq (F23.loop hn hs 7 0 [] rfl (by simp) (by simp))

/-! Placements -/
structure Pm where
  name : ByteArray
  nodes : List Int
def Pm.enc (p : Pm) : List AV := [.str p.name, .sl 0 1 (ints p.nodes)]
def pms (l : List Pm) : List (List AV) := l.map Pm.enc
theorem lenI_pms {l : List Pm} : lenI (pms l) = (l.length : Int) := lenI_map
theorem pms_at {l pre post : List Pm} {x : Pm} (h : l = pre ++ x :: post) : ro (pms l) (pre.length : Int).toNat = [.str x.name, .sl 0 1 (ints x.nodes)] := ro_at h
theorem length_pms {l : List Pm} : (pms l).length = l.length := by simp [pms]
theorem pms_snoc {l : List Pm} {p : Pm} : pms l ++ [[.str p.name, .sl 0 1 (ints p.nodes)]] = pms (l ++ [p]) := by simp [pms, Pm.enc]
def strs (l : List ByteArray) : List (List AV) := l.map fun s => [.str s]
theorem lenI_strs {l : List ByteArray} : lenI (strs l) = (l.length : Int) := lenI_map
theorem strs_at {l pre post : List ByteArray} {x : ByteArray} (h : l = pre ++ x :: post) : ro (strs l) (pre.length : Int).toNat = [.str x] := ro_at h
theorem length_strs {l : List ByteArray} : (strs l).length = l.length := by simp [strs]
theorem strs_snoc {l : List ByteArray} {x : ByteArray} : strs l ++ [[.str x]] = strs (l ++ [x]) := by simp [strs]
def pl (name : ByteArray) (nodes : List Int) (n : Int) : Pm := ⟨name, (rk name nodes).take n.toNat⟩
theorem pl_name (name : ByteArray) (nodes : List Int) (n : Int) : (pl name nodes n).name = name := rfl
theorem clamp_eq (n : Int) (m : Nat) : cond (ltI (m : Int) (cond (ltI n 0) 0 n)) (m : Int) (cond (ltI n 0) 0 n) = ((min n.toNat m : Nat) : Int) := by
  unfold ltI
  by_cases h : n < 0
  · have : ¬ (m : Int) < 0 := by omega
    simp [h, this]; omega
  · simp only [h, decide_false, cond_false]
    by_cases h2 : (m : Int) < n
    · simp [h2]; omega
    · simp [h2]; omega
theorem take_ints {l : List Int} {n : Nat} : (ints l).take n = ints (l.take n) := by simp [ints]
theorem take_min {α : Type} {l : List α} {n : Nat} : l.take (min n l.length) = l.take n := by
  rw [← List.take_take, List.take_length]
theorem pm_agg (p : Pm) : (AV.agg p.enc) = .agg [.str p.name, .sl 0 1 (ints p.nodes)] := rfl
theorem F18.eq {name : ByteArray} {nodes : List Int} {n : Int} (hn : name.size ≤ 50000) (hs : nodes.length ≤ 100000) : F18.P name (ints nodes) n = some (.agg [.str name, .sl 0 1 (ints (pl name nodes n).nodes)]) := by
  have hl := rk_len name nodes
  have h7 := sel_len nodes
  simp only [F18.P, F19.eq hn hs]
  (simp (disch := first | omega | rfl) only [tt_lt, tt_le, tt_eq, tt_eqS, tt_nblt, tt_nble, ff_lt, ff_le, ff_eq, ff_eqS, tt_not, ff_not, tt_dec, ff_dec, tt_true, tt_false, ff_true, ff_false, tt_room, tt_roomN, isInt_i, isBool_b, isStr_s, isSl_s, isSl_n, isOwn_s, isOwn_1, slXs_n, isTup_t, isAgg_a, Bool.true_and, tt_beq, tupVs_t, aggCs_a, headD_c, tail_c, ce_0, ce_s, ↓bind_s, ite_t, ite_f, toInt_int, toBool_bool, toStr_str, slXs_sl, Nat.add_zero, Nat.zero_add, List.length_cons, List.length_nil, addW_eq, subW_eq, if_pos, if_neg])
  rw [lenI_ints, clamp_eq]
  (simp (disch := first | omega | rfl) only [tt_lt, tt_le, tt_eq, tt_eqS, tt_nblt, tt_nble, ff_lt, ff_le, ff_eq, ff_eqS, tt_not, ff_not, tt_dec, ff_dec, tt_true, tt_false, ff_true, ff_false, tt_room, tt_roomN, isInt_i, isBool_b, isStr_s, isSl_s, isSl_n, isOwn_s, isOwn_1, slXs_n, isTup_t, isAgg_a, Bool.true_and, tt_beq, tupVs_t, aggCs_a, headD_c, tail_c, ce_0, ce_s, ↓bind_s, ite_t, ite_f, toInt_int, toBool_bool, toStr_str, slXs_sl, Nat.add_zero, Nat.zero_add, List.length_cons, List.length_nil, addW_eq, subW_eq, if_pos, if_neg])
  rw [Int.toNat_natCast, List.drop_zero, take_ints, take_min, F15.eq (by rw [List.length_take]; omega)]
  (simp (disch := first | omega | rfl) only [tt_lt, tt_le, tt_eq, tt_eqS, tt_nblt, tt_nble, ff_lt, ff_le, ff_eq, ff_eqS, tt_not, ff_not, tt_dec, ff_dec, tt_true, tt_false, ff_true, ff_false, tt_room, tt_roomN, isInt_i, isBool_b, isStr_s, isSl_s, isSl_n, isOwn_s, isOwn_1, slXs_n, isTup_t, isAgg_a, Bool.true_and, tt_beq, tupVs_t, aggCs_a, headD_c, tail_c, ce_0, ce_s, ↓bind_s, ite_t, ite_f, toInt_int, toBool_bool, toStr_str, slXs_sl, Nat.add_zero, Nat.zero_add, List.length_cons, List.length_nil, addW_eq, subW_eq, if_pos, if_neg])
  rfl
theorem F25.eq {name : ByteArray} {nodes : List Int} {n : Int} (hn : name.size ≤ 50000) (hs : nodes.length ≤ 100000) : F25.P name (ints nodes) n = some (.agg [.str name, .sl 0 1 (ints (pl name nodes n).nodes)]) := by
  have hl := rk_len name nodes
  have h7 := sel_len nodes
  simp only [F25.P, F23.eq hn hs]
  (simp (disch := first | omega | rfl) only [tt_lt, tt_le, tt_eq, tt_eqS, tt_nblt, tt_nble, ff_lt, ff_le, ff_eq, ff_eqS, tt_not, ff_not, tt_dec, ff_dec, tt_true, tt_false, ff_true, ff_false, tt_room, tt_roomN, isInt_i, isBool_b, isStr_s, isSl_s, isSl_n, isOwn_s, isOwn_1, slXs_n, isTup_t, isAgg_a, Bool.true_and, tt_beq, tupVs_t, aggCs_a, headD_c, tail_c, ce_0, ce_s, ↓bind_s, ite_t, ite_f, toInt_int, toBool_bool, toStr_str, slXs_sl, Nat.add_zero, Nat.zero_add, List.length_cons, List.length_nil, addW_eq, subW_eq, if_pos, if_neg])
  rw [lenI_ints, clamp_eq]
  (simp (disch := first | omega | rfl) only [tt_lt, tt_le, tt_eq, tt_eqS, tt_nblt, tt_nble, ff_lt, ff_le, ff_eq, ff_eqS, tt_not, ff_not, tt_dec, ff_dec, tt_true, tt_false, ff_true, ff_false, tt_room, tt_roomN, isInt_i, isBool_b, isStr_s, isSl_s, isSl_n, isOwn_s, isOwn_1, slXs_n, isTup_t, isAgg_a, Bool.true_and, tt_beq, tupVs_t, aggCs_a, headD_c, tail_c, ce_0, ce_s, ↓bind_s, ite_t, ite_f, toInt_int, toBool_bool, toStr_str, slXs_sl, Nat.add_zero, Nat.zero_add, List.length_cons, List.length_nil, addW_eq, subW_eq, if_pos, if_neg])
  rw [Int.toNat_natCast, List.drop_zero, take_ints, take_min]
  rfl
def plan (names : List ByteArray) (nodes : List Int) (n : Int) : List Pm := names.map fun s => pl s nodes n
theorem F21.loop {names : List ByteArray} {nodes : List Int} {m : Int} (hn : ∀ s ∈ names, s.size ≤ 50000) (hl : names.length ≤ 100000) (hs : nodes.length ≤ 100000) : ∀ (post pre : List ByteArray) (out : List Pm), names = pre ++ post → out.length ≤ pre.length → Ev (fun n => F21.PL (strs names) (ints nodes) m n (.l0 (pms out) pre.length)) (.sl 0 2 (pms (out ++ plan post nodes m)))
  | [], pre, out, h, ho => by
    have hl := len_end h
    refine Ev.succ ?_
    simp only [F21.PL, lenI_strs]
    (simp (disch := first | omega | rfl) only [tt_lt, tt_le, tt_eq, tt_eqS, tt_nblt, tt_nble, ff_lt, ff_le, ff_eq, ff_eqS, tt_not, ff_not, tt_dec, ff_dec, tt_true, tt_false, ff_true, ff_false, tt_room, tt_roomN, isInt_i, isBool_b, isStr_s, isSl_s, isSl_n, isOwn_s, isOwn_1, slXs_n, isTup_t, isAgg_a, Bool.true_and, tt_beq, tupVs_t, aggCs_a, headD_c, tail_c, ce_0, ce_s, ↓bind_s, ite_t, ite_f, toInt_int, toBool_bool, toStr_str, slXs_sl, Nat.add_zero, Nat.zero_add, List.length_cons, List.length_nil, addW_eq, subW_eq, if_pos, if_neg])
    simp only [plan, List.map_nil, List.append_nil]
    exact Ev.const
  | s :: post, pre, out, h, ho => by
    have hlm := len_mid h
    have hp := length_pms (l := out)
    refine Ev.succ ?_
    simp only [F21.PL, lenI_strs, strs_at h]
    (simp (disch := first | omega | rfl) only [tt_lt, tt_le, tt_eq, tt_eqS, tt_nblt, tt_nble, ff_lt, ff_le, ff_eq, ff_eqS, tt_not, ff_not, tt_dec, ff_dec, tt_true, tt_false, ff_true, ff_false, tt_room, tt_roomN, isInt_i, isBool_b, isStr_s, isSl_s, isSl_n, isOwn_s, isOwn_1, slXs_n, isTup_t, isAgg_a, Bool.true_and, tt_beq, tupVs_t, aggCs_a, headD_c, tail_c, ce_0, ce_s, ↓bind_s, ite_t, ite_f, toInt_int, toBool_bool, toStr_str, slXs_sl, Nat.add_zero, Nat.zero_add, List.length_cons, List.length_nil, addW_eq, subW_eq, if_pos, if_neg])
    rw [F18.eq (hn s (by rw [h]; simp)) hs]
    (simp (disch := first | omega | rfl) only [tt_lt, tt_le, tt_eq, tt_eqS, tt_nblt, tt_nble, ff_lt, ff_le, ff_eq, ff_eqS, tt_not, ff_not, tt_dec, ff_dec, tt_true, tt_false, ff_true, ff_false, tt_room, tt_roomN, isInt_i, isBool_b, isStr_s, isSl_s, isSl_n, isOwn_s, isOwn_1, slXs_n, isTup_t, isAgg_a, Bool.true_and, tt_beq, tupVs_t, aggCs_a, headD_c, tail_c, ce_0, ce_s, ↓bind_s, ite_t, ite_f, toInt_int, toBool_bool, toStr_str, slXs_sl, Nat.add_zero, Nat.zero_add, List.length_cons, List.length_nil, addW_eq, subW_eq, if_pos, if_neg])
    have := F21.loop (m := m) hn hl hs post (pre ++ [s]) (out ++ [pl s nodes m]) (by rw [h]; simp) (by simp; omega)
    rw [← pms_snoc] at this
    simpa [plan, pl_name] using this
theorem F21.eq {names : List ByteArray} {nodes : List Int} {m : Int} (hn : ∀ s ∈ names, s.size ≤ 50000) (hl : names.length ≤ 100000) (hs : nodes.length ≤ 100000) : F21.P (strs names) (ints nodes) m = some (.sl 0 2 (pms (plan names nodes m))) := lim_eq (F21.loop hn hl hs names [] [] rfl (Nat.le_refl _))
theorem F26.loop {names : List ByteArray} {nodes : List Int} {m : Int} (hn : ∀ s ∈ names, s.size ≤ 50000) (hl : names.length ≤ 100000) (hs : nodes.length ≤ 100000) : ∀ (post pre : List ByteArray) (out : List Pm), names = pre ++ post → out.length ≤ pre.length → Ev (fun n => F26.PL (strs names) (ints nodes) m n (.l0 (pms out) pre.length)) (.sl 0 2 (pms (out ++ plan post nodes m)))
  | [], pre, out, h, ho => by
    have hl := len_end h
    refine Ev.succ ?_
    simp only [F26.PL, lenI_strs]
    (simp (disch := first | omega | rfl) only [tt_lt, tt_le, tt_eq, tt_eqS, tt_nblt, tt_nble, ff_lt, ff_le, ff_eq, ff_eqS, tt_not, ff_not, tt_dec, ff_dec, tt_true, tt_false, ff_true, ff_false, tt_room, tt_roomN, isInt_i, isBool_b, isStr_s, isSl_s, isSl_n, isOwn_s, isOwn_1, slXs_n, isTup_t, isAgg_a, Bool.true_and, tt_beq, tupVs_t, aggCs_a, headD_c, tail_c, ce_0, ce_s, ↓bind_s, ite_t, ite_f, toInt_int, toBool_bool, toStr_str, slXs_sl, Nat.add_zero, Nat.zero_add, List.length_cons, List.length_nil, addW_eq, subW_eq, if_pos, if_neg])
    simp only [plan, List.map_nil, List.append_nil]
    exact Ev.const
  | s :: post, pre, out, h, ho => by
    have hlm := len_mid h
    have hp := length_pms (l := out)
    refine Ev.succ ?_
    simp only [F26.PL, lenI_strs, strs_at h]
    (simp (disch := first | omega | rfl) only [tt_lt, tt_le, tt_eq, tt_eqS, tt_nblt, tt_nble, ff_lt, ff_le, ff_eq, ff_eqS, tt_not, ff_not, tt_dec, ff_dec, tt_true, tt_false, ff_true, ff_false, tt_room, tt_roomN, isInt_i, isBool_b, isStr_s, isSl_s, isSl_n, isOwn_s, isOwn_1, slXs_n, isTup_t, isAgg_a, Bool.true_and, tt_beq, tupVs_t, aggCs_a, headD_c, tail_c, ce_0, ce_s, ↓bind_s, ite_t, ite_f, toInt_int, toBool_bool, toStr_str, slXs_sl, Nat.add_zero, Nat.zero_add, List.length_cons, List.length_nil, addW_eq, subW_eq, if_pos, if_neg])
    rw [F25.eq (hn s (by rw [h]; simp)) hs]
    (simp (disch := first | omega | rfl) only [tt_lt, tt_le, tt_eq, tt_eqS, tt_nblt, tt_nble, ff_lt, ff_le, ff_eq, ff_eqS, tt_not, ff_not, tt_dec, ff_dec, tt_true, tt_false, ff_true, ff_false, tt_room, tt_roomN, isInt_i, isBool_b, isStr_s, isSl_s, isSl_n, isOwn_s, isOwn_1, slXs_n, isTup_t, isAgg_a, Bool.true_and, tt_beq, tupVs_t, aggCs_a, headD_c, tail_c, ce_0, ce_s, ↓bind_s, ite_t, ite_f, toInt_int, toBool_bool, toStr_str, slXs_sl, Nat.add_zero, Nat.zero_add, List.length_cons, List.length_nil, addW_eq, subW_eq, if_pos, if_neg])
    have := F26.loop (m := m) hn hl hs post (pre ++ [s]) (out ++ [pl s nodes m]) (by rw [h]; simp) (by simp; omega)
    rw [← pms_snoc] at this
    simpa [plan, pl_name] using this
theorem F26.eq {names : List ByteArray} {nodes : List Int} {m : Int} (hn : ∀ s ∈ names, s.size ≤ 50000) (hl : names.length ≤ 100000) (hs : nodes.length ≤ 100000) : F26.P (strs names) (ints nodes) m = some (.sl 0 2 (pms (plan names nodes m))) := lim_eq (F26.loop hn hl hs names [] [] rfl (Nat.le_refl _))
/-- Two lists of placements: the same. -/
theorem F24.loop {l : List Pm} (hs : l.length ≤ 100000) (hz : ∀ p ∈ l, p.nodes.length ≤ 100000) : ∀ (post pre : List Pm), l = pre ++ post → Ev (fun n => F24.PL (pms l) (pms l) n (.l0 pre.length)) (.bool true)
  | [], pre, h => by
    have hl := len_end h
    refine Ev.succ ?_
    simp only [F24.PL, lenI_pms]
    (simp (disch := first | omega | rfl) only [tt_lt, tt_le, tt_eq, tt_eqS, tt_nblt, tt_nble, ff_lt, ff_le, ff_eq, ff_eqS, tt_not, ff_not, tt_dec, ff_dec, tt_true, tt_false, ff_true, ff_false, tt_room, tt_roomN, isInt_i, isBool_b, isStr_s, isSl_s, isSl_n, isOwn_s, isOwn_1, slXs_n, isTup_t, isAgg_a, Bool.true_and, tt_beq, tupVs_t, aggCs_a, headD_c, tail_c, ce_0, ce_s, ↓bind_s, ite_t, ite_f, toInt_int, toBool_bool, toStr_str, slXs_sl, Nat.add_zero, Nat.zero_add, List.length_cons, List.length_nil, addW_eq, subW_eq, if_pos, if_neg])
    exact Ev.const
  | p :: post, pre, h => by
    have hl := len_mid h
    refine Ev.succ ?_
    simp only [F24.PL, lenI_pms, pms_at h]
    (simp (disch := first | omega | rfl) only [tt_lt, tt_le, tt_eq, tt_eqS, tt_nblt, tt_nble, ff_lt, ff_le, ff_eq, ff_eqS, tt_not, ff_not, tt_dec, ff_dec, tt_true, tt_false, ff_true, ff_false, tt_room, tt_roomN, isInt_i, isBool_b, isStr_s, isSl_s, isSl_n, isOwn_s, isOwn_1, slXs_n, isTup_t, isAgg_a, Bool.true_and, tt_beq, tupVs_t, aggCs_a, headD_c, tail_c, ce_0, ce_s, ↓bind_s, ite_t, ite_f, toInt_int, toBool_bool, toStr_str, slXs_sl, Nat.add_zero, Nat.zero_add, List.length_cons, List.length_nil, addW_eq, subW_eq, if_pos, if_neg])
    rw [F11.eq (hz p (by rw [h]; simp))]
    (simp (disch := first | omega | rfl) only [tt_lt, tt_le, tt_eq, tt_eqS, tt_nblt, tt_nble, ff_lt, ff_le, ff_eq, ff_eqS, tt_not, ff_not, tt_dec, ff_dec, tt_true, tt_false, ff_true, ff_false, tt_room, tt_roomN, isInt_i, isBool_b, isStr_s, isSl_s, isSl_n, isOwn_s, isOwn_1, slXs_n, isTup_t, isAgg_a, Bool.true_and, tt_beq, tupVs_t, aggCs_a, headD_c, tail_c, ce_0, ce_s, ↓bind_s, ite_t, ite_f, toInt_int, toBool_bool, toStr_str, slXs_sl, Nat.add_zero, Nat.zero_add, List.length_cons, List.length_nil, addW_eq, subW_eq, if_pos, if_neg])
    have := F24.loop hs hz post (pre ++ [p]) (by rw [h]; simp)
    simpa using this
theorem F24.eq {l : List Pm} (hs : l.length ≤ 100000) (hz : ∀ p ∈ l, p.nodes.length ≤ 100000) : F24.P (pms l) (pms l) = some (.bool true) := by
  unfold F24.P
  refine lim_eq ?_
  (simp (disch := first | omega | rfl) only [tt_lt, tt_le, tt_eq, tt_eqS, tt_nblt, tt_nble, ff_lt, ff_le, ff_eq, ff_eqS, tt_not, ff_not, tt_dec, ff_dec, tt_true, tt_false, ff_true, ff_false, tt_room, tt_roomN, isInt_i, isBool_b, isStr_s, isSl_s, isSl_n, isOwn_s, isOwn_1, slXs_n, isTup_t, isAgg_a, Bool.true_and, tt_beq, tupVs_t, aggCs_a, headD_c, tail_c, ce_0, ce_s, ↓bind_s, ite_t, ite_f, toInt_int, toBool_bool, toStr_str, slXs_sl, Nat.add_zero, Nat.zero_add, List.length_cons, List.length_nil, addW_eq, subW_eq, if_pos, if_neg])
  exact F24.loop hs hz l [] rfl
def moves (names : List ByteArray) (a b : List Int) (n : Int) : List ByteArray := names.filter fun s => !(decide ((pl s a n).nodes = (pl s b n).nodes))
theorem pl_len (name : ByteArray) (nodes : List Int) (n : Int) : (pl name nodes n).nodes.length ≤ 7 := by
  have hl := rk_len name nodes
  have h7 := sel_len nodes
  simp only [pl, List.length_take]
  omega
theorem F22.loop {names : List ByteArray} {a b : List Int} {m : Int} (hn : ∀ s ∈ names, s.size ≤ 50000) (hl : names.length ≤ 100000) (ha : a.length ≤ 100000) (hb : b.length ≤ 100000) : ∀ (post pre out : List ByteArray), names = pre ++ post → out.length ≤ pre.length → Ev (fun n => F22.PL (strs names) (ints a) (ints b) m n (.l0 (strs out) pre.length)) (.sl 0 1 (strs (out ++ moves post a b m)))
  | [], pre, out, h, ho => by
    have hl := len_end h
    refine Ev.succ ?_
    simp only [F22.PL, lenI_strs]
    (simp (disch := first | omega | rfl) only [tt_lt, tt_le, tt_eq, tt_eqS, tt_nblt, tt_nble, ff_lt, ff_le, ff_eq, ff_eqS, tt_not, ff_not, tt_dec, ff_dec, tt_true, tt_false, ff_true, ff_false, tt_room, tt_roomN, isInt_i, isBool_b, isStr_s, isSl_s, isSl_n, isOwn_s, isOwn_1, slXs_n, isTup_t, isAgg_a, Bool.true_and, tt_beq, tupVs_t, aggCs_a, headD_c, tail_c, ce_0, ce_s, ↓bind_s, ite_t, ite_f, toInt_int, toBool_bool, toStr_str, slXs_sl, Nat.add_zero, Nat.zero_add, List.length_cons, List.length_nil, addW_eq, subW_eq, if_pos, if_neg])
    simp only [moves, List.filter_nil, List.append_nil]
    exact Ev.const
  | s :: post, pre, out, h, ho => by
    have hlm := len_mid h
    have hp := length_strs (l := out)
    have hsz := hn s (by rw [h]; simp)
    have h7 := pl_len s a m
    refine Ev.succ ?_
    simp only [F22.PL, lenI_strs, strs_at h, ce_0, toStr_str, F18.eq hsz ha, F18.eq hsz hb, bind_s, aggCs_a, headD_c, tail_c, slXs_sl, F11.eq (show (pl s a m).nodes.length ≤ 100000 by omega)]
    (simp (disch := first | omega | rfl) only [tt_lt, tt_le, tt_eq, tt_eqS, tt_nblt, tt_nble, ff_lt, ff_le, ff_eq, ff_eqS, tt_not, ff_not, tt_dec, ff_dec, tt_true, tt_false, ff_true, ff_false, tt_room, tt_roomN, isInt_i, isBool_b, isStr_s, isSl_s, isSl_n, isOwn_s, isOwn_1, slXs_n, isTup_t, isAgg_a, Bool.true_and, tt_beq, tupVs_t, aggCs_a, headD_c, tail_c, ce_0, ce_s, ↓bind_s, ite_t, ite_f, toInt_int, toBool_bool, toStr_str, slXs_sl, Nat.add_zero, Nat.zero_add, List.length_cons, List.length_nil, addW_eq, subW_eq, if_pos, if_neg])
    by_cases e : (pl s a m).nodes = (pl s b m).nodes
    · simp only [e, not_true_eq_false, if_false]
      have := F22.loop (m := m) hn hl ha hb post (pre ++ [s]) out (by rw [h]; simp) (by simp; omega)
      simpa [moves, e] using this
    · simp only [e, not_false_eq_true, if_true]
      rw [strs_snoc]
      have := F22.loop (m := m) hn hl ha hb post (pre ++ [s]) (out ++ [s]) (by rw [h]; simp) (by simp; omega)
      simpa [moves, e] using this
theorem F22.eq {names : List ByteArray} {a b : List Int} {m : Int} (hn : ∀ s ∈ names, s.size ≤ 50000) (hl : names.length ≤ 100000) (ha : a.length ≤ 100000) (hb : b.length ≤ 100000) : F22.P (strs names) (ints a) (ints b) m = some (.sl 0 1 (strs (moves names a b m))) := lim_eq (F22.loop hn hl ha hb names [] [] rfl (Nat.le_refl _))
theorem F28.loop {names : List ByteArray} {a b : List Int} {m : Int} (hn : ∀ s ∈ names, s.size ≤ 50000) (hl : names.length ≤ 100000) (ha : a.length ≤ 100000) (hb : b.length ≤ 100000) : ∀ (post pre out : List ByteArray), names = pre ++ post → out.length ≤ pre.length → Ev (fun n => F28.PL (strs names) (ints a) (ints b) m n (.l0 (strs out) pre.length)) (.sl 0 1 (strs (out ++ moves post a b m)))
  | [], pre, out, h, ho => by
    have hl := len_end h
    refine Ev.succ ?_
    simp only [F28.PL, lenI_strs]
    (simp (disch := first | omega | rfl) only [tt_lt, tt_le, tt_eq, tt_eqS, tt_nblt, tt_nble, ff_lt, ff_le, ff_eq, ff_eqS, tt_not, ff_not, tt_dec, ff_dec, tt_true, tt_false, ff_true, ff_false, tt_room, tt_roomN, isInt_i, isBool_b, isStr_s, isSl_s, isSl_n, isOwn_s, isOwn_1, slXs_n, isTup_t, isAgg_a, Bool.true_and, tt_beq, tupVs_t, aggCs_a, headD_c, tail_c, ce_0, ce_s, ↓bind_s, ite_t, ite_f, toInt_int, toBool_bool, toStr_str, slXs_sl, Nat.add_zero, Nat.zero_add, List.length_cons, List.length_nil, addW_eq, subW_eq, if_pos, if_neg])
    simp only [moves, List.filter_nil, List.append_nil]
    exact Ev.const
  | s :: post, pre, out, h, ho => by
    have hlm := len_mid h
    have hp := length_strs (l := out)
    have hsz := hn s (by rw [h]; simp)
    have h7 := pl_len s a m
    refine Ev.succ ?_
    simp only [F28.PL, lenI_strs, strs_at h, ce_0, toStr_str, F25.eq hsz ha, F25.eq hsz hb, bind_s, aggCs_a, headD_c, tail_c, slXs_sl, F11.eq (show (pl s a m).nodes.length ≤ 100000 by omega)]
    (simp (disch := first | omega | rfl) only [tt_lt, tt_le, tt_eq, tt_eqS, tt_nblt, tt_nble, ff_lt, ff_le, ff_eq, ff_eqS, tt_not, ff_not, tt_dec, ff_dec, tt_true, tt_false, ff_true, ff_false, tt_room, tt_roomN, isInt_i, isBool_b, isStr_s, isSl_s, isSl_n, isOwn_s, isOwn_1, slXs_n, isTup_t, isAgg_a, Bool.true_and, tt_beq, tupVs_t, aggCs_a, headD_c, tail_c, ce_0, ce_s, ↓bind_s, ite_t, ite_f, toInt_int, toBool_bool, toStr_str, slXs_sl, Nat.add_zero, Nat.zero_add, List.length_cons, List.length_nil, addW_eq, subW_eq, if_pos, if_neg])
    by_cases e : (pl s a m).nodes = (pl s b m).nodes
    · simp only [e, not_true_eq_false, if_false]
      have := F28.loop (m := m) hn hl ha hb post (pre ++ [s]) out (by rw [h]; simp) (by simp; omega)
      simpa [moves, e] using this
    · simp only [e, not_false_eq_true, if_true]
      rw [strs_snoc]
      have := F28.loop (m := m) hn hl ha hb post (pre ++ [s]) (out ++ [s]) (by rw [h]; simp) (by simp; omega)
      simpa [moves, e] using this
theorem F28.eq {names : List ByteArray} {a b : List Int} {m : Int} (hn : ∀ s ∈ names, s.size ≤ 50000) (hl : names.length ≤ 100000) (ha : a.length ≤ 100000) (hb : b.length ≤ 100000) : F28.P (strs names) (ints a) (ints b) m = some (.sl 0 1 (strs (moves names a b m))) := lim_eq (F28.loop hn hl ha hb names [] [] rfl (Nat.le_refl _))
theorem F27.loop {l : List ByteArray} (hs : l.length ≤ 100000) : ∀ (post pre : List ByteArray), l = pre ++ post → Ev (fun n => F27.PL (strs l) (strs l) n (.l0 pre.length)) (.bool true)
  | [], pre, h => by
    have hl := len_end h
    refine Ev.succ ?_
    simp only [F27.PL, lenI_strs]
    (simp (disch := first | omega | rfl) only [tt_lt, tt_le, tt_eq, tt_eqS, tt_nblt, tt_nble, ff_lt, ff_le, ff_eq, ff_eqS, tt_not, ff_not, tt_dec, ff_dec, tt_true, tt_false, ff_true, ff_false, tt_room, tt_roomN, isInt_i, isBool_b, isStr_s, isSl_s, isSl_n, isOwn_s, isOwn_1, slXs_n, isTup_t, isAgg_a, Bool.true_and, tt_beq, tupVs_t, aggCs_a, headD_c, tail_c, ce_0, ce_s, ↓bind_s, ite_t, ite_f, toInt_int, toBool_bool, toStr_str, slXs_sl, Nat.add_zero, Nat.zero_add, List.length_cons, List.length_nil, addW_eq, subW_eq, if_pos, if_neg])
    exact Ev.const
  | p :: post, pre, h => by
    have hl := len_mid h
    refine Ev.succ ?_
    simp only [F27.PL, lenI_strs, strs_at h]
    (simp (disch := first | omega | rfl) only [tt_lt, tt_le, tt_eq, tt_eqS, tt_nblt, tt_nble, ff_lt, ff_le, ff_eq, ff_eqS, tt_not, ff_not, tt_dec, ff_dec, tt_true, tt_false, ff_true, ff_false, tt_room, tt_roomN, isInt_i, isBool_b, isStr_s, isSl_s, isSl_n, isOwn_s, isOwn_1, slXs_n, isTup_t, isAgg_a, Bool.true_and, tt_beq, tupVs_t, aggCs_a, headD_c, tail_c, ce_0, ce_s, ↓bind_s, ite_t, ite_f, toInt_int, toBool_bool, toStr_str, slXs_sl, Nat.add_zero, Nat.zero_add, List.length_cons, List.length_nil, addW_eq, subW_eq, if_pos, if_neg])
    have := F27.loop hs post (pre ++ [p]) (by rw [h]; simp)
    simpa using this
theorem F27.eq {l : List ByteArray} (hs : l.length ≤ 100000) : F27.P (strs l) (strs l) = some (.bool true) := by
  unfold F27.P
  refine lim_eq ?_
  (simp (disch := first | omega | rfl) only [tt_lt, tt_le, tt_eq, tt_eqS, tt_nblt, tt_nble, ff_lt, ff_le, ff_eq, ff_eqS, tt_not, ff_not, tt_dec, ff_dec, tt_true, tt_false, ff_true, ff_false, tt_room, tt_roomN, isInt_i, isBool_b, isStr_s, isSl_s, isSl_n, isOwn_s, isOwn_1, slXs_n, isTup_t, isAgg_a, Bool.true_and, tt_beq, tupVs_t, aggCs_a, headD_c, tail_c, ce_0, ce_s, ↓bind_s, ite_t, ite_f, toInt_int, toBool_bool, toStr_str, slXs_sl, Nat.add_zero, Nat.zero_add, List.length_cons, List.length_nil, addW_eq, subW_eq, if_pos, if_neg])
  exact F27.loop hs l [] rfl

/-! Loads -/
def cnt (k : Int) (l : List Pm) : Nat := l.countP fun p => has k p.nodes
def loads (l : List Pm) (nodes : List Int) : List Int := nodes.map fun k => (cnt k l : Int)
theorem cnt_le (k : Int) (l : List Pm) : cnt k l ≤ l.length := List.countP_le_length
theorem F13.l1 {l : List Pm} {nodes out : List Int} {k x13 : Int} (hs : l.length ≤ 100000) (hz : ∀ p ∈ l, p.nodes.length ≤ 100000) {v : AV} : ∀ (post pre : List Pm) (c : Nat), l = pre ++ post → c ≤ pre.length →
    Ev (fun n => F13.PL (pms l) (ints nodes) n (.l1 (ints out) k ((c + cnt k post : Nat) : Int) x13 (l.length : Int))) v → Ev (fun n => F13.PL (pms l) (ints nodes) n (.l1 (ints out) k (c : Int) x13 (pre.length : Int))) v
  | [], pre, c, h, hc, hv => by
    have hl := len_end h
    rw [hl] at hv
    simpa [cnt] using hv
  | p :: post, pre, c, h, hc, hv => by
    have hl := len_mid h
    refine Ev.succ ?_
    simp only [F13.PL, lenI_pms, pms_at h]
    (simp (disch := first | omega | rfl) only [tt_lt, tt_le, tt_eq, tt_eqS, tt_nblt, tt_nble, ff_lt, ff_le, ff_eq, ff_eqS, tt_not, ff_not, tt_dec, ff_dec, tt_true, tt_false, ff_true, ff_false, tt_room, tt_roomN, isInt_i, isBool_b, isStr_s, isSl_s, isSl_n, isOwn_s, isOwn_1, slXs_n, isTup_t, isAgg_a, Bool.true_and, tt_beq, tupVs_t, aggCs_a, headD_c, tail_c, ce_0, ce_s, ↓bind_s, ite_t, ite_f, toInt_int, toBool_bool, toStr_str, slXs_sl, Nat.add_zero, Nat.zero_add, List.length_cons, List.length_nil, addW_eq, subW_eq, if_pos, if_neg])
    rw [F20.eq (hz p (by rw [h]; simp))]
    (simp (disch := first | omega | rfl) only [tt_lt, tt_le, tt_eq, tt_eqS, tt_nblt, tt_nble, ff_lt, ff_le, ff_eq, ff_eqS, tt_not, ff_not, tt_dec, ff_dec, tt_true, tt_false, ff_true, ff_false, tt_room, tt_roomN, isInt_i, isBool_b, isStr_s, isSl_s, isSl_n, isOwn_s, isOwn_1, slXs_n, isTup_t, isAgg_a, Bool.true_and, tt_beq, tupVs_t, aggCs_a, headD_c, tail_c, ce_0, ce_s, ↓bind_s, ite_t, ite_f, toInt_int, toBool_bool, toStr_str, slXs_sl, Nat.add_zero, Nat.zero_add, List.length_cons, List.length_nil, addW_eq, subW_eq, if_pos, if_neg])
    cases e : has k p.nodes
    · (simp (disch := first | omega | rfl) only [tt_lt, tt_le, tt_eq, tt_eqS, tt_nblt, tt_nble, ff_lt, ff_le, ff_eq, ff_eqS, tt_not, ff_not, tt_dec, ff_dec, tt_true, tt_false, ff_true, ff_false, tt_room, tt_roomN, isInt_i, isBool_b, isStr_s, isSl_s, isSl_n, isOwn_s, isOwn_1, slXs_n, isTup_t, isAgg_a, Bool.true_and, tt_beq, tupVs_t, aggCs_a, headD_c, tail_c, ce_0, ce_s, ↓bind_s, ite_t, ite_f, toInt_int, toBool_bool, toStr_str, slXs_sl, Nat.add_zero, Nat.zero_add, List.length_cons, List.length_nil, addW_eq, subW_eq, if_pos, if_neg])
      have := F13.l1 (out := out) (x13 := x13) (nodes := nodes) hs hz (v := v) post (pre ++ [p]) c (by rw [h]; simp) (by simp; omega) (by simpa [cnt, e] using hv)
      simpa using this
    · (simp (disch := first | omega | rfl) only [tt_lt, tt_le, tt_eq, tt_eqS, tt_nblt, tt_nble, ff_lt, ff_le, ff_eq, ff_eqS, tt_not, ff_not, tt_dec, ff_dec, tt_true, tt_false, ff_true, ff_false, tt_room, tt_roomN, isInt_i, isBool_b, isStr_s, isSl_s, isSl_n, isOwn_s, isOwn_1, slXs_n, isTup_t, isAgg_a, Bool.true_and, tt_beq, tupVs_t, aggCs_a, headD_c, tail_c, ce_0, ce_s, ↓bind_s, ite_t, ite_f, toInt_int, toBool_bool, toStr_str, slXs_sl, Nat.add_zero, Nat.zero_add, List.length_cons, List.length_nil, addW_eq, subW_eq, if_pos, if_neg])
      have := F13.l1 (out := out) (x13 := x13) (nodes := nodes) hs hz (v := v) post (pre ++ [p]) (c + 1) (by rw [h]; simp) (by simp; omega) (by
        have e' : c + 1 + cnt k post = c + cnt k (p :: post) := by simp [cnt, e]; omega
        rw [e']; exact hv)
      simpa using this
theorem F13.loop {l : List Pm} {nodes : List Int} (hs : l.length ≤ 100000) (hz : ∀ p ∈ l, p.nodes.length ≤ 100000) (hn : nodes.length ≤ 100000) : ∀ (post pre out : List Int), nodes = pre ++ post → out.length ≤ pre.length → Ev (fun n => F13.PL (pms l) (ints nodes) n (.l0 (ints out) pre.length)) (.sl 0 1 (ints (out ++ loads l post)))
  | [], pre, out, h, ho => by
    have hl := len_end h
    refine Ev.succ ?_
    simp only [F13.PL, lenI_ints]
    (simp (disch := first | omega | rfl) only [tt_lt, tt_le, tt_eq, tt_eqS, tt_nblt, tt_nble, ff_lt, ff_le, ff_eq, ff_eqS, tt_not, ff_not, tt_dec, ff_dec, tt_true, tt_false, ff_true, ff_false, tt_room, tt_roomN, isInt_i, isBool_b, isStr_s, isSl_s, isSl_n, isOwn_s, isOwn_1, slXs_n, isTup_t, isAgg_a, Bool.true_and, tt_beq, tupVs_t, aggCs_a, headD_c, tail_c, ce_0, ce_s, ↓bind_s, ite_t, ite_f, toInt_int, toBool_bool, toStr_str, slXs_sl, Nat.add_zero, Nat.zero_add, List.length_cons, List.length_nil, addW_eq, subW_eq, if_pos, if_neg])
    simp only [loads, List.map_nil, List.append_nil]
    exact Ev.const
  | k :: post, pre, out, h, ho => by
    have hl := len_mid h
    have hi := length_ints (l := out)
    refine Ev.succ ?_
    simp only [F13.PL, lenI_ints, ints_at h]
    (simp (disch := first | omega | rfl) only [tt_lt, tt_le, tt_eq, tt_eqS, tt_nblt, tt_nble, ff_lt, ff_le, ff_eq, ff_eqS, tt_not, ff_not, tt_dec, ff_dec, tt_true, tt_false, ff_true, ff_false, tt_room, tt_roomN, isInt_i, isBool_b, isStr_s, isSl_s, isSl_n, isOwn_s, isOwn_1, slXs_n, isTup_t, isAgg_a, Bool.true_and, tt_beq, tupVs_t, aggCs_a, headD_c, tail_c, ce_0, ce_s, ↓bind_s, ite_t, ite_f, toInt_int, toBool_bool, toStr_str, slXs_sl, Nat.add_zero, Nat.zero_add, List.length_cons, List.length_nil, addW_eq, subW_eq, if_pos, if_neg])
    have := F13.l1 (l := l) (nodes := nodes) (out := out) (k := k) (x13 := (pre.length : Int)) hs hz (v := .sl 0 1 (ints (out ++ loads l (k :: post)))) l [] 0 rfl (Nat.le_refl _) (by
      refine Ev.succ ?_
      simp only [F13.PL, lenI_pms]
      (simp (disch := first | omega | rfl) only [tt_lt, tt_le, tt_eq, tt_eqS, tt_nblt, tt_nble, ff_lt, ff_le, ff_eq, ff_eqS, tt_not, ff_not, tt_dec, ff_dec, tt_true, tt_false, ff_true, ff_false, tt_room, tt_roomN, isInt_i, isBool_b, isStr_s, isSl_s, isSl_n, isOwn_s, isOwn_1, slXs_n, isTup_t, isAgg_a, Bool.true_and, tt_beq, tupVs_t, aggCs_a, headD_c, tail_c, ce_0, ce_s, ↓bind_s, ite_t, ite_f, toInt_int, toBool_bool, toStr_str, slXs_sl, Nat.add_zero, Nat.zero_add, List.length_cons, List.length_nil, addW_eq, subW_eq, if_pos, if_neg])
      rw [ints_snoc]
      have := F13.loop hs hz hn post (pre ++ [k]) (out ++ [(cnt k l : Int)]) (by rw [h]; simp) (by simp; omega)
      simpa [loads] using this)
    simpa using this
theorem F13.eq {l : List Pm} {nodes : List Int} (hs : l.length ≤ 100000) (hz : ∀ p ∈ l, p.nodes.length ≤ 100000) (hn : nodes.length ≤ 100000) : F13.P (pms l) (ints nodes) = some (.sl 0 1 (ints (loads l nodes))) := lim_eq (F13.loop hs hz hn nodes [] [] rfl (Nat.le_refl _))
theorem set_mid {A B : List Int} {c d : Int} : (ints (A ++ c :: B)).set (A.length : Int).toNat [.int .i64 d] = ints (A ++ d :: B) := by
  simp [ints]
theorem F12.l1 {l : List Pm} {nodes A B : List Int} {k x15 : Int} (hs : l.length ≤ 100000) (hAB : A.length + B.length ≤ 100000) (hz : ∀ p ∈ l, p.nodes.length ≤ 100000) {v : AV} : ∀ (post pre : List Pm) (c : Nat), l = pre ++ post → c ≤ pre.length →
    Ev (fun n => F12.PL (pms l) (ints nodes) n (.l1 (ints (A ++ ((c + cnt k post : Nat) : Int) :: B)) A.length k x15 (l.length : Int))) v → Ev (fun n => F12.PL (pms l) (ints nodes) n (.l1 (ints (A ++ (c : Int) :: B)) A.length k x15 (pre.length : Int))) v
  | [], pre, c, h, hc, hv => by
    have hl := len_end h
    rw [hl] at hv
    simpa [cnt] using hv
  | p :: post, pre, c, h, hc, hv => by
    have hl := len_mid h
    have hi : lenI (ints (A ++ (c : Int) :: B)) = ((A.length + (B.length + 1) : Nat) : Int) := by rw [lenI_ints]; simp
    refine Ev.succ ?_
    have hro : ro (ints (A ++ (c : Int) :: B)) (A.length : Int).toNat = [.int .i64 (c : Int)] := ints_at rfl
    simp only [F12.PL, lenI_pms, pms_at h, hi, hro]
    (simp (disch := first | omega | rfl) only [tt_lt, tt_le, tt_eq, tt_eqS, tt_nblt, tt_nble, ff_lt, ff_le, ff_eq, ff_eqS, tt_not, ff_not, tt_dec, ff_dec, tt_true, tt_false, ff_true, ff_false, tt_room, tt_roomN, isInt_i, isBool_b, isStr_s, isSl_s, isSl_n, isOwn_s, isOwn_1, slXs_n, isTup_t, isAgg_a, Bool.true_and, tt_beq, tupVs_t, aggCs_a, headD_c, tail_c, ce_0, ce_s, ↓bind_s, ite_t, ite_f, toInt_int, toBool_bool, toStr_str, slXs_sl, Nat.add_zero, Nat.zero_add, List.length_cons, List.length_nil, addW_eq, subW_eq, if_pos, if_neg])
    rw [F20.eq (hz p (by rw [h]; simp))]
    (simp (disch := first | omega | rfl) only [tt_lt, tt_le, tt_eq, tt_eqS, tt_nblt, tt_nble, ff_lt, ff_le, ff_eq, ff_eqS, tt_not, ff_not, tt_dec, ff_dec, tt_true, tt_false, ff_true, ff_false, tt_room, tt_roomN, isInt_i, isBool_b, isStr_s, isSl_s, isSl_n, isOwn_s, isOwn_1, slXs_n, isTup_t, isAgg_a, Bool.true_and, tt_beq, tupVs_t, aggCs_a, headD_c, tail_c, ce_0, ce_s, ↓bind_s, ite_t, ite_f, toInt_int, toBool_bool, toStr_str, slXs_sl, Nat.add_zero, Nat.zero_add, List.length_cons, List.length_nil, addW_eq, subW_eq, if_pos, if_neg])
    cases e : has k p.nodes
    · (simp (disch := first | omega | rfl) only [tt_lt, tt_le, tt_eq, tt_eqS, tt_nblt, tt_nble, ff_lt, ff_le, ff_eq, ff_eqS, tt_not, ff_not, tt_dec, ff_dec, tt_true, tt_false, ff_true, ff_false, tt_room, tt_roomN, isInt_i, isBool_b, isStr_s, isSl_s, isSl_n, isOwn_s, isOwn_1, slXs_n, isTup_t, isAgg_a, Bool.true_and, tt_beq, tupVs_t, aggCs_a, headD_c, tail_c, ce_0, ce_s, ↓bind_s, ite_t, ite_f, toInt_int, toBool_bool, toStr_str, slXs_sl, Nat.add_zero, Nat.zero_add, List.length_cons, List.length_nil, addW_eq, subW_eq, if_pos, if_neg])
      have := F12.l1 (A := A) (B := B) (x15 := x15) (nodes := nodes) hs hAB hz (v := v) post (pre ++ [p]) c (by rw [h]; simp) (by simp; omega) (by simpa [cnt, e] using hv)
      simpa using this
    · (simp (disch := first | omega | rfl) only [tt_lt, tt_le, tt_eq, tt_eqS, tt_nblt, tt_nble, ff_lt, ff_le, ff_eq, ff_eqS, tt_not, ff_not, tt_dec, ff_dec, tt_true, tt_false, ff_true, ff_false, tt_room, tt_roomN, isInt_i, isBool_b, isStr_s, isSl_s, isSl_n, isOwn_s, isOwn_1, slXs_n, isTup_t, isAgg_a, Bool.true_and, tt_beq, tupVs_t, aggCs_a, headD_c, tail_c, ce_0, ce_s, ↓bind_s, ite_t, ite_f, toInt_int, toBool_bool, toStr_str, slXs_sl, Nat.add_zero, Nat.zero_add, List.length_cons, List.length_nil, addW_eq, subW_eq, if_pos, if_neg])
      rw [se1, set_mid]
      have := F12.l1 (A := A) (B := B) (x15 := x15) (nodes := nodes) hs hAB hz (v := v) post (pre ++ [p]) (c + 1) (by rw [h]; simp) (by simp; omega) (by
        have e' : c + 1 + cnt k post = c + cnt k (p :: post) := by simp [cnt, e]; omega
        rw [e']; exact hv)
      simpa using this
theorem F12.loop {l : List Pm} {nodes : List Int} (hs : l.length ≤ 100000) (hz : ∀ p ∈ l, p.nodes.length ≤ 100000) (hn : nodes.length ≤ 100000) : ∀ (post pre out : List Int), nodes = pre ++ post → out.length = pre.length → Ev (fun n => F12.PL (pms l) (ints nodes) n (.l0 (ints (out ++ List.replicate post.length 0)) pre.length)) (.sl 0 1 (ints (out ++ loads l post)))
  | [], pre, out, h, ho => by
    have hl := len_end h
    refine Ev.succ ?_
    simp only [F12.PL, lenI_ints]
    (simp (disch := first | omega | rfl) only [tt_lt, tt_le, tt_eq, tt_eqS, tt_nblt, tt_nble, ff_lt, ff_le, ff_eq, ff_eqS, tt_not, ff_not, tt_dec, ff_dec, tt_true, tt_false, ff_true, ff_false, tt_room, tt_roomN, isInt_i, isBool_b, isStr_s, isSl_s, isSl_n, isOwn_s, isOwn_1, slXs_n, isTup_t, isAgg_a, Bool.true_and, tt_beq, tupVs_t, aggCs_a, headD_c, tail_c, ce_0, ce_s, ↓bind_s, ite_t, ite_f, toInt_int, toBool_bool, toStr_str, slXs_sl, Nat.add_zero, Nat.zero_add, List.length_cons, List.length_nil, addW_eq, subW_eq, if_pos, if_neg])
    simp only [loads, List.map_nil, List.append_nil, List.length_nil, List.replicate_zero]
    exact Ev.const
  | k :: post, pre, out, h, ho => by
    have hl := len_mid h
    refine Ev.succ ?_
    simp only [F12.PL, lenI_ints, ints_at h]
    (simp (disch := first | omega | rfl) only [tt_lt, tt_le, tt_eq, tt_eqS, tt_nblt, tt_nble, ff_lt, ff_le, ff_eq, ff_eqS, tt_not, ff_not, tt_dec, ff_dec, tt_true, tt_false, ff_true, ff_false, tt_room, tt_roomN, isInt_i, isBool_b, isStr_s, isSl_s, isSl_n, isOwn_s, isOwn_1, slXs_n, isTup_t, isAgg_a, Bool.true_and, tt_beq, tupVs_t, aggCs_a, headD_c, tail_c, ce_0, ce_s, ↓bind_s, ite_t, ite_f, toInt_int, toBool_bool, toStr_str, slXs_sl, Nat.add_zero, Nat.zero_add, List.length_cons, List.length_nil, addW_eq, subW_eq, if_pos, if_neg])
    have := F12.l1 (l := l) (nodes := nodes) (A := out) (B := List.replicate post.length 0) (k := k) (x15 := (pre.length : Int)) hs (by simp; omega) hz (v := .sl 0 1 (ints (out ++ loads l (k :: post)))) l [] 0 rfl (Nat.le_refl _) (by
      refine Ev.succ ?_
      simp only [F12.PL, lenI_pms]
      (simp (disch := first | omega | rfl) only [tt_lt, tt_le, tt_eq, tt_eqS, tt_nblt, tt_nble, ff_lt, ff_le, ff_eq, ff_eqS, tt_not, ff_not, tt_dec, ff_dec, tt_true, tt_false, ff_true, ff_false, tt_room, tt_roomN, isInt_i, isBool_b, isStr_s, isSl_s, isSl_n, isOwn_s, isOwn_1, slXs_n, isTup_t, isAgg_a, Bool.true_and, tt_beq, tupVs_t, aggCs_a, headD_c, tail_c, ce_0, ce_s, ↓bind_s, ite_t, ite_f, toInt_int, toBool_bool, toStr_str, slXs_sl, Nat.add_zero, Nat.zero_add, List.length_cons, List.length_nil, addW_eq, subW_eq, if_pos, if_neg])
      have := F12.loop hs hz hn post (pre ++ [k]) (out ++ [(cnt k l : Int)]) (by rw [h]; simp) (by simp [ho])
      simpa [loads] using this)
    rw [ho] at this
    simpa [List.replicate_succ] using this
theorem F12.eq {l : List Pm} {nodes : List Int} (hs : l.length ≤ 100000) (hz : ∀ p ∈ l, p.nodes.length ≤ 100000) (hn : nodes.length ≤ 100000) : F12.P (pms l) (ints nodes) = some (.sl 0 1 (ints (loads l nodes))) := by
  unfold F12.P
  refine lim_eq ?_
  rw [lenI_ints]
  (simp (disch := first | omega | rfl) only [tt_lt, tt_le, tt_eq, tt_eqS, tt_nblt, tt_nble, ff_lt, ff_le, ff_eq, ff_eqS, tt_not, ff_not, tt_dec, ff_dec, tt_true, tt_false, ff_true, ff_false, tt_room, tt_roomN, isInt_i, isBool_b, isStr_s, isSl_s, isSl_n, isOwn_s, isOwn_1, slXs_n, isTup_t, isAgg_a, Bool.true_and, tt_beq, tupVs_t, aggCs_a, headD_c, tail_c, ce_0, ce_s, ↓bind_s, ite_t, ite_f, toInt_int, toBool_bool, toStr_str, slXs_sl, Nat.add_zero, Nat.zero_add, List.length_cons, List.length_nil, addW_eq, subW_eq, if_pos, if_neg])
  have := F12.loop hs hz hn nodes [] [] rfl rfl
  simpa [ints] using this
end Go.Proofs.YtagckffnpnejaaaDoor.Ab
