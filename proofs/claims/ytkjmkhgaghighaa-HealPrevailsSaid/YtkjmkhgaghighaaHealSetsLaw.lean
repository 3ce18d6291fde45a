/- P44.2, P44.3, P44.6: the law of setting. -/
import Derived.Test.YtkjmkhgaghighaaHealFive
namespace Go.Proofs.Ytkjmkhgaghighaa.Ab
open Go
set_option linter.unusedSimpArgs false

theorem setV_ok {r : List Cl × Int} (h : r.2 = 0) : setV r = .tup [.sl 0 5 (rows r.1), .int .i64 0] := by rw [setV, if_pos h]
theorem setV_err {r : List Cl × Int} (h : ¬ r.2 = 0) : setV r = .tup [.nilsl, .int .i64 r.2] := by rw [setV, if_neg h]
theorem vld_epoch {xs : List Cl} (h : Vld xs) : (∀ c ∈ xs, c.epoch ≤ 1099511627776) ∧ ∀ c ∈ xs, -1 ≤ c.epoch ∧ c.epoch ≤ 1099511627776 :=
  ⟨fun c hc => (oneE_zero (h.1 c hc)).2.1, fun c hc => by have := oneE_zero (h.1 c hc); omega⟩
theorem eqI_self (a : Int) : eqI a a = true := by simp [eqI]
theorem eqS_self (a : ByteArray) : eqS a a = true := by simp [eqS]
theorem F4.loop {l0 cells : List Cl} {n : Int} {Q : AV → Heap → Prop} (hs : cells.length ≤ 40) (hQ : ∀ H, Q (.bool true) H) : ∀ (post pre l : List Cl) (H : Heap), cells = pre ++ post → Vld l → l.length + post.length ≤ 80 → F4.L0 (rows l0) (rows cells) n Q (rows l) pre.length H
  | [], pre, l, H, h, hv, ho => by
    refine F4.L0_step ?_
    unfold F4.r0
    ((try simp only [G_int, G_bool, G_str, G_sl, G_own, toInt_int, toBool_bool, toStr_str, slXs_sl, enc_0, enc_1, enc_2, enc_3, enc_4, lenI_rows]); (try simp only [ci_lt, ci_le, ci_eq, ci_eqS, ci_nblt, ci_nble, cond_not, G_lt, G_le, G_eq, G_nble, G_nblt, G_room, G_roomN, cond_true, cond_false, G_true, Nat.add_zero]))
    refine ⟨fun e => absurd e (by simp [h]), fun _ => ?_⟩
    refine F18.spec (by omega) (vld_epoch hv).1 fun H1 => ?_
    ((try simp only [G_agg5, agg5_0, agg5_1, agg5_2, agg5_3, agg5_4, G_agg2, agg2_0, agg2_1, G_tup2, tup2_0, tup2_1, isSl_nil, slXs_nil]); (try simp only [G_int, G_bool, G_str, G_sl, toInt_int, toBool_bool, toStr_str, slXs_sl]))
    refine F19.spec (by omega) (vld_epoch hv).2 fun H2 => ?_
    ((try simp only [G_agg5, agg5_0, agg5_1, agg5_2, agg5_3, agg5_4, G_agg2, agg2_0, agg2_1, G_tup2, tup2_0, tup2_1, isSl_nil, slXs_nil]); (try simp only [G_int, G_bool, G_str, G_sl, toInt_int, toBool_bool, toStr_str, slXs_sl]))
    rw [eqI_self, eqI_self]
    exact F9.spec fun H3 => by ((try simp only [G_int, G_bool, G_str, G_sl, G_own, toInt_int, toBool_bool, toStr_str, slXs_sl, enc_0, enc_1, enc_2, enc_3, enc_4, lenI_rows]); (try simp only [ci_lt, ci_le, ci_eq, ci_eqS, ci_nblt, ci_nble, cond_not, G_lt, G_le, G_eq, G_nble, G_nblt, G_room, G_roomN, cond_true, cond_false, G_true, Nat.add_zero])); exact hQ _
  | c :: post, pre, l, H, h, hv, ho => by
    have hl := fits_len h
    rw [List.length_cons] at ho
    refine F4.L0_step ?_
    unfold F4.r0
    rw [row_mid h]
    ((try simp only [G_int, G_bool, G_str, G_sl, G_own, toInt_int, toBool_bool, toStr_str, slXs_sl, enc_0, enc_1, enc_2, enc_3, enc_4, lenI_rows]); (try simp only [ci_lt, ci_le, ci_eq, ci_eqS, ci_nblt, ci_nble, cond_not, G_lt, G_le, G_eq, G_nble, G_nblt, G_room, G_roomN, cond_true, cond_false, G_true, Nat.add_zero]))
    refine ⟨fun _ => ⟨by omega, by omega, ?_⟩, fun e => absurd e (by omega)⟩
    refine F13.spec (d := c) (by omega) fun H1 => ?_
    rw [setH_eq hv.2]
    have next : ∀ (l' : List Cl) (H : Heap), Vld l' → l'.length ≤ l.length + 1 → F4.L0 (rows l0) (rows cells) n Q (rows l') (addW .i64 (pre.length : Int) 1) H := by
      intro l' H hv' hl'
      rw [addW_eq (by omega) (by omega)]
      have := F4.loop (l0 := l0) (n := n) hs hQ post (pre ++ [c]) l' H (by rw [h]; simp) hv' (by omega)
      rw [List.length_append, List.length_singleton] at this
      exact this
    by_cases e : (setR l c).2 = 0
    · obtain ⟨hv', hl'⟩ := setR_vld hv e
      rw [setV_ok e]
      simp only [G_tup2, tup2_0, tup2_1]
      ((try simp only [G_int, G_bool, G_str, G_sl, G_own, toInt_int, toBool_bool, toStr_str, slXs_sl, enc_0, enc_1, enc_2, enc_3, enc_4, lenI_rows]); (try simp only [ci_lt, ci_le, ci_eq, ci_eqS, ci_nblt, ci_nble, cond_not, G_lt, G_le, G_eq, G_nble, G_nblt, G_room, G_roomN, cond_true, cond_false, G_true, Nat.add_zero]))
      refine F14.spec (d := c) (by omega) fun H2 => ?_
      rw [setV_ok e]
      simp only [G_tup2, tup2_0, tup2_1]
      ((try simp only [G_int, G_bool, G_str, G_sl, G_own, toInt_int, toBool_bool, toStr_str, slXs_sl, enc_0, enc_1, enc_2, enc_3, enc_4, lenI_rows]); (try simp only [ci_lt, ci_le, ci_eq, ci_eqS, ci_nblt, ci_nble, cond_not, G_lt, G_le, G_eq, G_nble, G_nblt, G_room, G_roomN, cond_true, cond_false, G_true, Nat.add_zero]))
      refine ⟨fun _ => ?_, fun q => absurd trivial q⟩
      refine F15.spec (by omega) fun H3 => ?_
      rw [decide_eq_true rfl]
      ((try simp only [G_int, G_bool, G_str, G_sl, G_own, toInt_int, toBool_bool, toStr_str, slXs_sl, enc_0, enc_1, enc_2, enc_3, enc_4, lenI_rows]); (try simp only [ci_lt, ci_le, ci_eq, ci_eqS, ci_nblt, ci_nble, cond_not, G_lt, G_le, G_eq, G_nble, G_nblt, G_room, G_roomN, cond_true, cond_false, G_true, Nat.add_zero]))
      refine ⟨fun _ => ?_, fun q => absurd trivial q⟩
      refine F16.spec (by omega) fun H4 => ?_
      simp only [G_tup2, tup2_0, tup2_1]
      ((try simp only [G_int, G_bool, G_str, G_sl, G_own, toInt_int, toBool_bool, toStr_str, slXs_sl, enc_0, enc_1, enc_2, enc_3, enc_4, lenI_rows]); (try simp only [ci_lt, ci_le, ci_eq, ci_eqS, ci_nblt, ci_nble, cond_not, G_lt, G_le, G_eq, G_nble, G_nblt, G_room, G_roomN, cond_true, cond_false, G_true, Nat.add_zero]))
      refine F17.spec (by omega) fun H5 => ?_
      simp only [G_tup2, tup2_0, tup2_1]
      ((try simp only [G_int, G_bool, G_str, G_sl, G_own, toInt_int, toBool_bool, toStr_str, slXs_sl, enc_0, enc_1, enc_2, enc_3, enc_4, lenI_rows]); (try simp only [ci_lt, ci_le, ci_eq, ci_eqS, ci_nblt, ci_nble, cond_not, G_lt, G_le, G_eq, G_nble, G_nblt, G_room, G_roomN, cond_true, cond_false, G_true, Nat.add_zero]))
      rw [getH_eq hv'.2]
      refine ⟨fun _ => ?_, fun q => absurd rfl q⟩
      simp only [BEq.rfl, cond_true]
      refine F18.spec (by omega) (vld_epoch hv').1 fun H6 => ?_
      ((try simp only [G_agg5, agg5_0, agg5_1, agg5_2, agg5_3, agg5_4, G_agg2, agg2_0, agg2_1, G_tup2, tup2_0, tup2_1, isSl_nil, slXs_nil]); (try simp only [G_int, G_bool, G_str, G_sl, toInt_int, toBool_bool, toStr_str, slXs_sl]))
      refine F19.spec (by omega) (vld_epoch hv').2 fun H7 => ?_
      ((try simp only [G_agg5, agg5_0, agg5_1, agg5_2, agg5_3, agg5_4, G_agg2, agg2_0, agg2_1, G_tup2, tup2_0, tup2_1, isSl_nil, slXs_nil]); (try simp only [G_int, G_bool, G_str, G_sl, toInt_int, toBool_bool, toStr_str, slXs_sl]))
      rw [eqI_self, eqI_self]
      exact next _ _ hv' hl'
    · rw [setV_err e]
      simp only [G_tup2, tup2_0, tup2_1, isSl_nil, slXs_nil]
      ((try simp only [G_int, G_bool, G_str, G_sl, G_own, toInt_int, toBool_bool, toStr_str, slXs_sl, enc_0, enc_1, enc_2, enc_3, enc_4, lenI_rows]); (try simp only [ci_lt, ci_le, ci_eq, ci_eqS, ci_nblt, ci_nble, cond_not, G_lt, G_le, G_eq, G_nble, G_nblt, G_room, G_roomN, cond_true, cond_false, G_true, Nat.add_zero]))
      refine F14.spec (d := c) (by omega) fun H2 => ?_
      rw [setV_err e]
      simp only [G_tup2, tup2_0, tup2_1, isSl_nil, slXs_nil]
      ((try simp only [G_int, G_bool, G_str, G_sl, G_own, toInt_int, toBool_bool, toStr_str, slXs_sl, enc_0, enc_1, enc_2, enc_3, enc_4, lenI_rows]); (try simp only [ci_lt, ci_le, ci_eq, ci_eqS, ci_nblt, ci_nble, cond_not, G_lt, G_le, G_eq, G_nble, G_nblt, G_room, G_roomN, cond_true, cond_false, G_true, Nat.add_zero]))
      refine ⟨fun _ => ?_, fun q => absurd trivial q⟩
      refine F15.spec (xs := []) (ys := []) (by simp) fun H3 => ?_
      rw [decide_eq_true rfl]
      ((try simp only [G_int, G_bool, G_str, G_sl, G_own, toInt_int, toBool_bool, toStr_str, slXs_sl, enc_0, enc_1, enc_2, enc_3, enc_4, lenI_rows]); (try simp only [ci_lt, ci_le, ci_eq, ci_eqS, ci_nblt, ci_nble, cond_not, G_lt, G_le, G_eq, G_nble, G_nblt, G_room, G_roomN, cond_true, cond_false, G_true, Nat.add_zero]))
      refine ⟨fun q => absurd q e, fun _ => ?_⟩
      refine F16.spec (by omega) fun H4 => ?_
      simp only [G_tup2, tup2_0, tup2_1]
      ((try simp only [G_int, G_bool, G_str, G_sl, G_own, toInt_int, toBool_bool, toStr_str, slXs_sl, enc_0, enc_1, enc_2, enc_3, enc_4, lenI_rows]); (try simp only [ci_lt, ci_le, ci_eq, ci_eqS, ci_nblt, ci_nble, cond_not, G_lt, G_le, G_eq, G_nble, G_nblt, G_room, G_roomN, cond_true, cond_false, G_true, Nat.add_zero]))
      refine F17.spec (by omega) fun H5 => ?_
      simp only [G_tup2, tup2_0, tup2_1]
      ((try simp only [G_int, G_bool, G_str, G_sl, G_own, toInt_int, toBool_bool, toStr_str, slXs_sl, enc_0, enc_1, enc_2, enc_3, enc_4, lenI_rows]); (try simp only [ci_lt, ci_le, ci_eq, ci_eqS, ci_nblt, ci_nble, cond_not, G_lt, G_le, G_eq, G_nble, G_nblt, G_room, G_roomN, cond_true, cond_false, G_true, Nat.add_zero]))
      rw [getH_eq hv.2]
      refine ⟨fun _ => ?_, fun q => absurd rfl q⟩
      simp only [BEq.rfl, cond_true]
      refine F18.spec (by omega) (vld_epoch hv).1 fun H6 => ?_
      ((try simp only [G_agg5, agg5_0, agg5_1, agg5_2, agg5_3, agg5_4, G_agg2, agg2_0, agg2_1, G_tup2, tup2_0, tup2_1, isSl_nil, slXs_nil]); (try simp only [G_int, G_bool, G_str, G_sl, toInt_int, toBool_bool, toStr_str, slXs_sl]))
      refine F19.spec (by omega) (vld_epoch hv).2 fun H7 => ?_
      ((try simp only [G_agg5, agg5_0, agg5_1, agg5_2, agg5_3, agg5_4, G_agg2, agg2_0, agg2_1, G_tup2, tup2_0, tup2_1, isSl_nil, slXs_nil]); (try simp only [G_int, G_bool, G_str, G_sl, toInt_int, toBool_bool, toStr_str, slXs_sl]))
      rw [eqI_self, eqI_self]
      exact next _ _ hv (by omega)
theorem F4.spec {l cells : List Cl} {n : Int} {H : Heap} {Q : AV → Heap → Prop} (hQ : ∀ H, Q (.bool true) H) : C 4 [.sl 0 5 (rows l), .sl 0 5 (rows cells), .int .i64 n] H Q := by
  refine F4.call ?_
  unfold F4.t
  refine F12.spec (ls := [l]) (by simp) fun H1 => ?_
  ((try simp only [G_int, G_bool, G_str, G_sl, G_own, toInt_int, toBool_bool, toStr_str, slXs_sl, enc_0, enc_1, enc_2, enc_3, enc_4, lenI_rows]); (try simp only [ci_lt, ci_le, ci_eq, ci_eqS, ci_nblt, ci_nble, cond_not, G_lt, G_le, G_eq, G_nble, G_nblt, G_room, G_roomN, cond_true, cond_false, G_true, Nat.add_zero]))
  cases hb : smallB [l]
  · rw [cond_false]
    exact F9.spec fun H2 => by ((try simp only [G_int, G_bool, G_str, G_sl, G_own, toInt_int, toBool_bool, toStr_str, slXs_sl, enc_0, enc_1, enc_2, enc_3, enc_4, lenI_rows]); (try simp only [ci_lt, ci_le, ci_eq, ci_eqS, ci_nblt, ci_nble, cond_not, G_lt, G_le, G_eq, G_nble, G_nblt, G_room, G_roomN, cond_true, cond_false, G_true, Nat.add_zero])); exact hQ _
  · rw [cond_true]
    obtain ⟨la, ca⟩ := small_mem hb (l := l) (by simp)
    refine ⟨fun _ => F9.spec fun H2 => by ((try simp only [G_int, G_bool, G_str, G_sl, G_own, toInt_int, toBool_bool, toStr_str, slXs_sl, enc_0, enc_1, enc_2, enc_3, enc_4, lenI_rows]); (try simp only [ci_lt, ci_le, ci_eq, ci_eqS, ci_nblt, ci_nble, cond_not, G_lt, G_le, G_eq, G_nble, G_nblt, G_room, G_roomN, cond_true, cond_false, G_true, Nat.add_zero])); exact hQ _, fun q => ?_⟩
    exact F4.loop (by omega) hQ cells [] l _ rfl (vld_of ca) (by omega)
end Go.Proofs.Ytkjmkhgaghighaa.Ab
