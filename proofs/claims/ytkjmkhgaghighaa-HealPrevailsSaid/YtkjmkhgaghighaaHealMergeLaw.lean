/- P44.7: the law of Merge by itself. -/
import Derived.Test.YtkjmkhgaghighaaHealFive
namespace Go.Proofs.Ytkjmkhgaghighaa.Ab
open Go
set_option linter.unusedSimpArgs false

theorem mergeH_comm {a b : List Cl} (ha : Srt a) (hb : Srt b) : mergeH a b = mergeH b a :=
  srt_ext (mergeH_srt ha hb) (mergeH_srt hb ha) fun k => by rw [look_mergeH ha hb, look_mergeH hb ha]; exact comb_comm (look_of a k) (look_of b k)
theorem mergeH_idem {a : List Cl} (ha : Srt a) : mergeH a a = a :=
  srt_ext (mergeH_srt ha ha) ha fun k => by rw [look_mergeH ha ha, comb_self]
theorem mergeH_absorb {a b : List Cl} (ha : Srt a) (hb : Srt b) : mergeH (mergeH a b) b = mergeH a b :=
  srt_ext (mergeH_srt (mergeH_srt ha hb) hb) (mergeH_srt ha hb) fun k => by
    rw [look_mergeH (mergeH_srt ha hb) hb, look_mergeH ha hb, comb_assoc (look_of a k) (look_of b k) (look_of b k), comb_self]
theorem mergeH_assoc {a b c : List Cl} (ha : Srt a) (hb : Srt b) (hc : Srt c) : mergeH (mergeH a b) c = mergeH a (mergeH b c) :=
  srt_ext (mergeH_srt (mergeH_srt ha hb) hc) (mergeH_srt ha (mergeH_srt hb hc)) fun k => by
    rw [look_mergeH (mergeH_srt ha hb) hc, look_mergeH ha hb, look_mergeH ha (mergeH_srt hb hc), look_mergeH hb hc]
    exact comb_assoc (look_of a k) (look_of b k) (look_of c k)
theorem any_mem {m : List Cl} {x : Cl} (h : x ∈ m) : (m.any fun c => decide (x = c)) = true := List.any_eq_true.2 ⟨x, h, by simp⟩
theorem any_no {m : List Cl} {x : Cl} (h : x ∉ m) : (m.any fun c => decide (x = c)) = false := List.any_eq_false.2 fun y hy => fun e => h (of_decide_eq_true e ▸ hy)
theorem F6.loop1 {a b c m q : List Cl} {Q : AV → Heap → Prop} (hs : q.length ≤ 80) (hm : m.length ≤ 80) (hq : ∀ x ∈ q, ∃ d, look m x.key = some d ∧ prevB x d = false) (hQ : ∀ H, Q (.bool true) H) : ∀ (post pre : List Cl) (H : Heap), q = pre ++ post → F6.L1 (rows a) (rows b) (rows c) Q (rows m) (rows q) (q.length : Int) pre.length H
  | [], pre, H, h => by
    refine F6.L1_step ?_
    unfold F6.r1
    ((try simp only [G_int, G_bool, G_str, G_sl, G_own, toInt_int, toBool_bool, toStr_str, slXs_sl, enc_0, enc_1, enc_2, enc_3, enc_4, lenI_rows]); (try simp only [ci_lt, ci_le, ci_eq, ci_eqS, ci_nblt, ci_nble, cond_not, G_lt, G_le, G_eq, G_nble, G_nblt, G_room, G_roomN, cond_true, cond_false, G_true, Nat.add_zero]))
    exact ⟨fun e => absurd e (by simp [h]), fun _ => F9.spec fun H1 => by ((try simp only [G_int, G_bool, G_str, G_sl, G_own, toInt_int, toBool_bool, toStr_str, slXs_sl, enc_0, enc_1, enc_2, enc_3, enc_4, lenI_rows]); (try simp only [ci_lt, ci_le, ci_eq, ci_eqS, ci_nblt, ci_nble, cond_not, G_lt, G_le, G_eq, G_nble, G_nblt, G_room, G_roomN, cond_true, cond_false, G_true, Nat.add_zero])); exact hQ _⟩
  | x :: post, pre, H, h => by
    have hl := fits_len h
    obtain ⟨d, hd, hp⟩ := hq x (by rw [h]; simp)
    refine F6.L1_step ?_
    unfold F6.r1
    rw [row_mid h]
    ((try simp only [G_int, G_bool, G_str, G_sl, G_own, toInt_int, toBool_bool, toStr_str, slXs_sl, enc_0, enc_1, enc_2, enc_3, enc_4, lenI_rows]); (try simp only [ci_lt, ci_le, ci_eq, ci_eqS, ci_nblt, ci_nble, cond_not, G_lt, G_le, G_eq, G_nble, G_nblt, G_room, G_roomN, cond_true, cond_false, G_true, Nat.add_zero]))
    refine ⟨fun _ => ⟨by omega, by omega, ?_⟩, fun e => absurd e (by omega)⟩
    refine F27.spec (by omega) fun H1 => ?_
    ((try simp only [G_int, G_bool, G_str, G_sl, G_own, toInt_int, toBool_bool, toStr_str, slXs_sl, enc_0, enc_1, enc_2, enc_3, enc_4, lenI_rows]); (try simp only [ci_lt, ci_le, ci_eq, ci_eqS, ci_nblt, ci_nble, cond_not, G_lt, G_le, G_eq, G_nble, G_nblt, G_room, G_roomN, cond_true, cond_false, G_true, Nat.add_zero]))
    rcases idx_look x.key m with ⟨h1, h2⟩ | ⟨pre', d', post', h1, h2, h3⟩
    · rw [hd] at h2; cases h2
    · rw [hd] at h3
      cases h3
      have hl' := fits_len h1
      rw [h2, row_mid h1]
      ((try simp only [G_int, G_bool, G_str, G_sl, G_own, toInt_int, toBool_bool, toStr_str, slXs_sl, enc_0, enc_1, enc_2, enc_3, enc_4, lenI_rows]); (try simp only [ci_lt, ci_le, ci_eq, ci_eqS, ci_nblt, ci_nble, cond_not, G_lt, G_le, G_eq, G_nble, G_nblt, G_room, G_roomN, cond_true, cond_false, G_true, Nat.add_zero]))
      refine ⟨fun e => absurd e (by omega), fun _ => ⟨by omega, by omega, ?_⟩⟩
      refine F28.spec (a := x) (b := d) fun H2 => ?_
      ((try simp only [G_int, G_bool, G_str, G_sl, G_own, toInt_int, toBool_bool, toStr_str, slXs_sl, enc_0, enc_1, enc_2, enc_3, enc_4, lenI_rows]); (try simp only [ci_lt, ci_le, ci_eq, ci_eqS, ci_nblt, ci_nble, cond_not, G_lt, G_le, G_eq, G_nble, G_nblt, G_room, G_roomN, cond_true, cond_false, G_true, Nat.add_zero]))
      rw [hp, cond_false, addW_eq (by omega) (by omega)]
      have := F6.loop1 (a := a) (b := b) (c := c) hs hm hq hQ post (pre ++ [x]) (H.past H2) (by rw [h]; simp)
      rw [List.length_append, List.length_singleton] at this
      exact this
theorem F6.loop0 {a b c m : List Cl} {Q : AV → Heap → Prop} (ha : a.length ≤ 40) (hb : b.length ≤ 40) (hm : m.length ≤ 80) (hq : ∀ x ∈ a ++ b, ∃ d, look m x.key = some d ∧ prevB x d = false) (hin : ∀ x ∈ m, x ∈ a ∨ x ∈ b) (hQ : ∀ H, Q (.bool true) H) : ∀ (post pre : List Cl) (H : Heap), m = pre ++ post → F6.L0 (rows a) (rows b) (rows c) Q (rows m) (rows m) (m.length : Int) pre.length H
  | [], pre, H, h => by
    refine F6.L0_step ?_
    unfold F6.r0
    ((try simp only [G_int, G_bool, G_str, G_sl, G_own, toInt_int, toBool_bool, toStr_str, slXs_sl, enc_0, enc_1, enc_2, enc_3, enc_4, lenI_rows]); (try simp only [ci_lt, ci_le, ci_eq, ci_eqS, ci_nblt, ci_nble, cond_not, G_lt, G_le, G_eq, G_nble, G_nblt, G_room, G_roomN, cond_true, cond_false, G_true, Nat.add_zero]))
    refine ⟨fun e => absurd e (by simp [h]), fun _ => ?_⟩
    refine F26.spec (by omega) fun v H1 hv hx => ?_
    rw [G_own' hv, hx, rows_append]
    ((try simp only [G_int, G_bool, G_str, G_sl, G_own, toInt_int, toBool_bool, toStr_str, slXs_sl, enc_0, enc_1, enc_2, enc_3, enc_4, lenI_rows]); (try simp only [ci_lt, ci_le, ci_eq, ci_eqS, ci_nblt, ci_nble, cond_not, G_lt, G_le, G_eq, G_nble, G_nblt, G_room, G_roomN, cond_true, cond_false, G_true, Nat.add_zero]))
    rw [length_rows, length_rows]
    refine ⟨by omega, ?_⟩
    exact F6.loop1 (by rw [List.length_append]; omega) hm hq hQ (a ++ b) [] _ rfl
  | x :: post, pre, H, h => by
    have hl := fits_len h
    have next : ∀ H1, F6.L0 (rows a) (rows b) (rows c) Q (rows m) (rows m) (m.length : Int) (addW .i64 (pre.length : Int) 1) H1 := by
      intro H1
      rw [addW_eq (by omega) (by omega)]
      have := F6.loop0 (c := c) ha hb hm hq hin hQ post (pre ++ [x]) H1 (by rw [h]; simp)
      rw [List.length_append, List.length_singleton] at this
      exact this
    refine F6.L0_step ?_
    unfold F6.r0
    rw [row_mid h]
    ((try simp only [G_int, G_bool, G_str, G_sl, G_own, toInt_int, toBool_bool, toStr_str, slXs_sl, enc_0, enc_1, enc_2, enc_3, enc_4, lenI_rows]); (try simp only [ci_lt, ci_le, ci_eq, ci_eqS, ci_nblt, ci_nble, cond_not, G_lt, G_le, G_eq, G_nble, G_nblt, G_room, G_roomN, cond_true, cond_false, G_true, Nat.add_zero]))
    refine ⟨fun _ => ⟨by omega, by omega, ?_⟩, fun e => absurd e (by omega)⟩
    refine F25.spec (d := x) (by omega) fun H1 => ?_
    ((try simp only [G_int, G_bool, G_str, G_sl, G_own, toInt_int, toBool_bool, toStr_str, slXs_sl, enc_0, enc_1, enc_2, enc_3, enc_4, lenI_rows]); (try simp only [ci_lt, ci_le, ci_eq, ci_eqS, ci_nblt, ci_nble, cond_not, G_lt, G_le, G_eq, G_nble, G_nblt, G_room, G_roomN, cond_true, cond_false, G_true, Nat.add_zero]))
    by_cases e : x ∈ a
    · rw [any_mem e, cond_true]
      exact next _
    · rw [any_no e, cond_false]
      refine F25.spec (d := x) (by omega) fun H2 => ?_
      ((try simp only [G_int, G_bool, G_str, G_sl, G_own, toInt_int, toBool_bool, toStr_str, slXs_sl, enc_0, enc_1, enc_2, enc_3, enc_4, lenI_rows]); (try simp only [ci_lt, ci_le, ci_eq, ci_eqS, ci_nblt, ci_nble, cond_not, G_lt, G_le, G_eq, G_nble, G_nblt, G_room, G_roomN, cond_true, cond_false, G_true, Nat.add_zero]))
      rw [any_mem ((hin x (by rw [h]; simp)).resolve_left e), cond_true]
      exact next _
theorem F6.spec {a b c : List Cl} {H : Heap} {Q : AV → Heap → Prop} (hQ : ∀ H, Q (.bool true) H) : C 6 [.sl 0 5 (rows a), .sl 0 5 (rows b), .sl 0 5 (rows c)] H Q := by
  refine F6.call ?_
  unfold F6.t
  refine F12.spec (ls := [a, b, c]) (by simp) fun H1 => ?_
  ((try simp only [G_int, G_bool, G_str, G_sl, G_own, toInt_int, toBool_bool, toStr_str, slXs_sl, enc_0, enc_1, enc_2, enc_3, enc_4, lenI_rows]); (try simp only [ci_lt, ci_le, ci_eq, ci_eqS, ci_nblt, ci_nble, cond_not, G_lt, G_le, G_eq, G_nble, G_nblt, G_room, G_roomN, cond_true, cond_false, G_true, Nat.add_zero]))
  cases hb : smallB [a, b, c]
  · rw [cond_false]
    exact F9.spec fun H2 => by ((try simp only [G_int, G_bool, G_str, G_sl, G_own, toInt_int, toBool_bool, toStr_str, slXs_sl, enc_0, enc_1, enc_2, enc_3, enc_4, lenI_rows]); (try simp only [ci_lt, ci_le, ci_eq, ci_eqS, ci_nblt, ci_nble, cond_not, G_lt, G_le, G_eq, G_nble, G_nblt, G_room, G_roomN, cond_true, cond_false, G_true, Nat.add_zero])); exact hQ _
  · rw [cond_true]
    obtain ⟨la, ca⟩ := small_mem hb (l := a) (by simp)
    obtain ⟨lb, cb⟩ := small_mem hb (l := b) (by simp)
    obtain ⟨lc, cc⟩ := small_mem hb (l := c) (by simp)
    have va := vld_of ca
    have vb := vld_of cb
    have vc := vld_of cc
    have lm : (mergeH a b).length ≤ 80 := by have := mergeH_len a b; unfold mergeH; omega
    have lbc : (mergeH b c).length ≤ 80 := by have := mergeH_len b c; unfold mergeH; omega
    have laa : (mergeH a a).length ≤ 80 := by have := mergeH_len a a; unfold mergeH; omega
    have lmb : (mergeH (mergeH a b) b).length ≤ 120 := by have := mergeH_len (mergeH a b) b; unfold mergeH at *; omega
    have lmc : (mergeH (mergeH a b) c).length ≤ 120 := by have := mergeH_len (mergeH a b) c; unfold mergeH at *; omega
    refine F20.spec (by omega) (by omega) fun H2 => ?_
    ((try simp only [G_int, G_bool, G_str, G_sl, G_own, toInt_int, toBool_bool, toStr_str, slXs_sl, enc_0, enc_1, enc_2, enc_3, enc_4, lenI_rows]); (try simp only [ci_lt, ci_le, ci_eq, ci_eqS, ci_nblt, ci_nble, cond_not, G_lt, G_le, G_eq, G_nble, G_nblt, G_room, G_roomN, cond_true, cond_false, G_true, Nat.add_zero]))
    refine F20.spec (by omega) (by omega) fun H3 => ?_
    ((try simp only [G_int, G_bool, G_str, G_sl, G_own, toInt_int, toBool_bool, toStr_str, slXs_sl, enc_0, enc_1, enc_2, enc_3, enc_4, lenI_rows]); (try simp only [ci_lt, ci_le, ci_eq, ci_eqS, ci_nblt, ci_nble, cond_not, G_lt, G_le, G_eq, G_nble, G_nblt, G_room, G_roomN, cond_true, cond_false, G_true, Nat.add_zero]))
    refine F15.spec (by omega) fun H4 => ?_
    rw [decide_eq_true (mergeH_comm va.2 vb.2)]
    ((try simp only [G_int, G_bool, G_str, G_sl, G_own, toInt_int, toBool_bool, toStr_str, slXs_sl, enc_0, enc_1, enc_2, enc_3, enc_4, lenI_rows]); (try simp only [ci_lt, ci_le, ci_eq, ci_eqS, ci_nblt, ci_nble, cond_not, G_lt, G_le, G_eq, G_nble, G_nblt, G_room, G_roomN, cond_true, cond_false, G_true, Nat.add_zero]))
    refine F20.spec (by omega) (by omega) fun H5 => ?_
    ((try simp only [G_int, G_bool, G_str, G_sl, G_own, toInt_int, toBool_bool, toStr_str, slXs_sl, enc_0, enc_1, enc_2, enc_3, enc_4, lenI_rows]); (try simp only [ci_lt, ci_le, ci_eq, ci_eqS, ci_nblt, ci_nble, cond_not, G_lt, G_le, G_eq, G_nble, G_nblt, G_room, G_roomN, cond_true, cond_false, G_true, Nat.add_zero]))
    refine F15.spec (by omega) fun H6 => ?_
    rw [decide_eq_true (mergeH_idem va.2)]
    ((try simp only [G_int, G_bool, G_str, G_sl, G_own, toInt_int, toBool_bool, toStr_str, slXs_sl, enc_0, enc_1, enc_2, enc_3, enc_4, lenI_rows]); (try simp only [ci_lt, ci_le, ci_eq, ci_eqS, ci_nblt, ci_nble, cond_not, G_lt, G_le, G_eq, G_nble, G_nblt, G_room, G_roomN, cond_true, cond_false, G_true, Nat.add_zero]))
    refine F20.spec (by omega) (by omega) fun H7 => ?_
    ((try simp only [G_int, G_bool, G_str, G_sl, G_own, toInt_int, toBool_bool, toStr_str, slXs_sl, enc_0, enc_1, enc_2, enc_3, enc_4, lenI_rows]); (try simp only [ci_lt, ci_le, ci_eq, ci_eqS, ci_nblt, ci_nble, cond_not, G_lt, G_le, G_eq, G_nble, G_nblt, G_room, G_roomN, cond_true, cond_false, G_true, Nat.add_zero]))
    refine F15.spec (by omega) fun H8 => ?_
    rw [decide_eq_true (mergeH_absorb va.2 vb.2)]
    ((try simp only [G_int, G_bool, G_str, G_sl, G_own, toInt_int, toBool_bool, toStr_str, slXs_sl, enc_0, enc_1, enc_2, enc_3, enc_4, lenI_rows]); (try simp only [ci_lt, ci_le, ci_eq, ci_eqS, ci_nblt, ci_nble, cond_not, G_lt, G_le, G_eq, G_nble, G_nblt, G_room, G_roomN, cond_true, cond_false, G_true, Nat.add_zero]))
    refine F20.spec (by omega) (by omega) fun H9 => ?_
    ((try simp only [G_int, G_bool, G_str, G_sl, G_own, toInt_int, toBool_bool, toStr_str, slXs_sl, enc_0, enc_1, enc_2, enc_3, enc_4, lenI_rows]); (try simp only [ci_lt, ci_le, ci_eq, ci_eqS, ci_nblt, ci_nble, cond_not, G_lt, G_le, G_eq, G_nble, G_nblt, G_room, G_roomN, cond_true, cond_false, G_true, Nat.add_zero]))
    refine F20.spec (by omega) (by omega) fun H10 => ?_
    ((try simp only [G_int, G_bool, G_str, G_sl, G_own, toInt_int, toBool_bool, toStr_str, slXs_sl, enc_0, enc_1, enc_2, enc_3, enc_4, lenI_rows]); (try simp only [ci_lt, ci_le, ci_eq, ci_eqS, ci_nblt, ci_nble, cond_not, G_lt, G_le, G_eq, G_nble, G_nblt, G_room, G_roomN, cond_true, cond_false, G_true, Nat.add_zero]))
    refine F20.spec (by omega) (by omega) fun H11 => ?_
    ((try simp only [G_int, G_bool, G_str, G_sl, G_own, toInt_int, toBool_bool, toStr_str, slXs_sl, enc_0, enc_1, enc_2, enc_3, enc_4, lenI_rows]); (try simp only [ci_lt, ci_le, ci_eq, ci_eqS, ci_nblt, ci_nble, cond_not, G_lt, G_le, G_eq, G_nble, G_nblt, G_room, G_roomN, cond_true, cond_false, G_true, Nat.add_zero]))
    refine F15.spec (by omega) fun H12 => ?_
    rw [decide_eq_true (mergeH_assoc va.2 vb.2 vc.2)]
    ((try simp only [G_int, G_bool, G_str, G_sl, G_own, toInt_int, toBool_bool, toStr_str, slXs_sl, enc_0, enc_1, enc_2, enc_3, enc_4, lenI_rows]); (try simp only [ci_lt, ci_le, ci_eq, ci_eqS, ci_nblt, ci_nble, cond_not, G_lt, G_le, G_eq, G_nble, G_nblt, G_room, G_roomN, cond_true, cond_false, G_true, Nat.add_zero]))
    refine F11.spec (by omega) fun H13 => ?_
    ((try simp only [G_int, G_bool, G_str, G_sl, G_own, toInt_int, toBool_bool, toStr_str, slXs_sl, enc_0, enc_1, enc_2, enc_3, enc_4, lenI_rows]); (try simp only [ci_lt, ci_le, ci_eq, ci_eqS, ci_nblt, ci_nble, cond_not, G_lt, G_le, G_eq, G_nble, G_nblt, G_room, G_roomN, cond_true, cond_false, G_true, Nat.add_zero]))
    rw [check_of (mergeH_vld va vb) (by omega)]
    refine ⟨fun _ => ?_, fun q => absurd rfl q⟩
    refine F6.loop0 la lb lm (fun x hx => ?_) (fun x hx => mem_mg a b hx) hQ (mergeH a b) [] _ rfl
    rw [look_mergeH va.2 vb.2]
    rcases List.mem_append.1 hx with h | h
    · rw [look_of_mem va.2 h]
      cases look b x.key with
      | none => exact ⟨x, rfl, prev_irr x⟩
      | some y =>
        refine ⟨top2 x y, rfl, ?_⟩
        unfold top2
        cases q : prevB y x with
        | true => simpa using prev_asymm q
        | false => simpa using prev_irr x
    · rw [look_of_mem vb.2 h]
      cases look a x.key with
      | none => exact ⟨x, rfl, prev_irr x⟩
      | some y =>
        refine ⟨top2 y x, rfl, ?_⟩
        unfold top2
        cases q : prevB x y with
        | true => simpa using prev_irr x
        | false => simpa using q
end Go.Proofs.Ytkjmkhgaghighaa.Ab
