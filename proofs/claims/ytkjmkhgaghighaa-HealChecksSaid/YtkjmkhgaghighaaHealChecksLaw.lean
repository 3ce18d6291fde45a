/- P44.1: the law of the checks. -/
import Derived.Test.YtkjmkhgaghighaaHealEx
namespace Go.Proofs.Ytkjmkhgaghighaa.Ab
open Go
set_option linter.unusedSimpArgs false

theorem F3.loop {xs : List Cl} {Q : AV → Heap → Prop} (hs : xs.length ≤ 140737488355328) (hQ : ∀ H, Q (.bool true) H) : ∀ (post pre : List Cl) (H : Heap), xs = pre ++ post → F3.L0 (rows xs) Q pre.length H
  | [], pre, H, h => by
    refine F3.L0_step ?_
    unfold F3.r0
    ((try simp only [G_int, G_bool, G_str, G_sl, G_own, toInt_int, toBool_bool, toStr_str, slXs_sl, enc_0, enc_1, enc_2, enc_3, enc_4, lenI_rows]); (try simp only [ci_lt, ci_le, ci_eq, ci_eqS, ci_nblt, ci_nble, cond_not, G_lt, G_le, G_eq, G_nble, G_nblt, G_room, G_roomN, cond_true, cond_false, G_true, Nat.add_zero]))
    refine ⟨fun e => absurd e (by simp [h]), fun _ => ⟨fun _ => F9.spec fun H1 => by ((try simp only [G_int, G_bool, G_str, G_sl, G_own, toInt_int, toBool_bool, toStr_str, slXs_sl, enc_0, enc_1, enc_2, enc_3, enc_4, lenI_rows]); (try simp only [ci_lt, ci_le, ci_eq, ci_eqS, ci_nblt, ci_nble, cond_not, G_lt, G_le, G_eq, G_nble, G_nblt, G_room, G_roomN, cond_true, cond_false, G_true, Nat.add_zero])); exact hQ _, fun _ => ?_⟩⟩
    refine F10.spec hs fun H1 => ?_
    ((try simp only [G_int, G_bool, G_str, G_sl, G_own, toInt_int, toBool_bool, toStr_str, slXs_sl, enc_0, enc_1, enc_2, enc_3, enc_4, lenI_rows]); (try simp only [ci_lt, ci_le, ci_eq, ci_eqS, ci_nblt, ci_nble, cond_not, G_lt, G_le, G_eq, G_nble, G_nblt, G_room, G_roomN, cond_true, cond_false, G_true, Nat.add_zero]))
    refine F11.spec hs fun H2 => ?_
    ((try simp only [G_int, G_bool, G_str, G_sl, G_own, toInt_int, toBool_bool, toStr_str, slXs_sl, enc_0, enc_1, enc_2, enc_3, enc_4, lenI_rows]); (try simp only [ci_lt, ci_le, ci_eq, ci_eqS, ci_nblt, ci_nble, cond_not, G_lt, G_le, G_eq, G_nble, G_nblt, G_room, G_roomN, cond_true, cond_false, G_true, Nat.add_zero]))
    exact ⟨fun _ => F9.spec fun H3 => by ((try simp only [G_int, G_bool, G_str, G_sl, G_own, toInt_int, toBool_bool, toStr_str, slXs_sl, enc_0, enc_1, enc_2, enc_3, enc_4, lenI_rows]); (try simp only [ci_lt, ci_le, ci_eq, ci_eqS, ci_nblt, ci_nble, cond_not, G_lt, G_le, G_eq, G_nble, G_nblt, G_room, G_roomN, cond_true, cond_false, G_true, Nat.add_zero])); exact hQ _, fun e => absurd trivial e⟩
  | c :: post, pre, H, h => by
    have hl := fits_len h
    refine F3.L0_step ?_
    unfold F3.r0
    rw [row_mid h]
    ((try simp only [G_int, G_bool, G_str, G_sl, G_own, toInt_int, toBool_bool, toStr_str, slXs_sl, enc_0, enc_1, enc_2, enc_3, enc_4, lenI_rows]); (try simp only [ci_lt, ci_le, ci_eq, ci_eqS, ci_nblt, ci_nble, cond_not, G_lt, G_le, G_eq, G_nble, G_nblt, G_room, G_roomN, cond_true, cond_false, G_true, Nat.add_zero]))
    refine ⟨fun _ => ⟨by omega, by omega, fun _ => F9.spec fun H1 => by ((try simp only [G_int, G_bool, G_str, G_sl, G_own, toInt_int, toBool_bool, toStr_str, slXs_sl, enc_0, enc_1, enc_2, enc_3, enc_4, lenI_rows]); (try simp only [ci_lt, ci_le, ci_eq, ci_eqS, ci_nblt, ci_nble, cond_not, G_lt, G_le, G_eq, G_nble, G_nblt, G_room, G_roomN, cond_true, cond_false, G_true, Nat.add_zero])); exact hQ _, fun _ => ⟨fun _ => F9.spec fun H1 => by ((try simp only [G_int, G_bool, G_str, G_sl, G_own, toInt_int, toBool_bool, toStr_str, slXs_sl, enc_0, enc_1, enc_2, enc_3, enc_4, lenI_rows]); (try simp only [ci_lt, ci_le, ci_eq, ci_eqS, ci_nblt, ci_nble, cond_not, G_lt, G_le, G_eq, G_nble, G_nblt, G_room, G_roomN, cond_true, cond_false, G_true, Nat.add_zero])); exact hQ _, fun _ => ?_⟩⟩, fun e => absurd e (by omega)⟩
    rw [addW_eq (by omega) (by omega)]
    have := F3.loop hs hQ post (pre ++ [c]) H (by rw [h]; simp)
    rw [List.length_append, List.length_singleton] at this
    exact this
theorem F3.spec {xs : List Cl} {H : Heap} {Q : AV → Heap → Prop} (hs : xs.length ≤ 140737488355328) (hQ : ∀ H, Q (.bool true) H) : C 3 [.sl 0 5 (rows xs)] H Q := F3.call (F3.loop hs hQ xs [] H rfl)
end Go.Proofs.Ytkjmkhgaghighaa.Ab
