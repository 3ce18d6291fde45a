/- P44.9: the law of cells that prevail. -/
import Derived.Test.YtkjmkhgaghighaaHealMergeLaw
import Derived.Test.YtkjmkhgaghighaaHealSetsLaw
namespace Go.Proofs.Ytkjmkhgaghighaa.Ab
open Go
set_option linter.unusedSimpArgs false

theorem foldE_le : ∀ (xs : List Cl) (e : Int), e ≤ xs.foldl (fun e c => cond (ltI e c.epoch) c.epoch e) e ∧ ∀ c ∈ xs, c.epoch ≤ xs.foldl (fun e c => cond (ltI e c.epoch) c.epoch e) e
  | [], e => ⟨Int.le_refl _, by simp⟩
  | c :: xs, e => by
    obtain ⟨h1, h2⟩ := foldE_le xs (cond (ltI e c.epoch) c.epoch e)
    have h3 : e ≤ cond (ltI e c.epoch) c.epoch e ∧ c.epoch ≤ cond (ltI e c.epoch) c.epoch e := by
      unfold ltI
      by_cases q : e < c.epoch
      · rw [decide_eq_true q, cond_true]; omega
      · rw [decide_eq_false q, cond_false]; omega
    refine ⟨by rw [List.foldl_cons]; omega, fun d hd => ?_⟩
    rw [List.foldl_cons]
    rcases List.mem_cons.1 hd with rfl | hd
    · omega
    · exact h2 d hd
theorem maxE_le {xs : List Cl} {c : Cl} (h : c ∈ xs) : c.epoch ≤ maxE xs := (foldE_le xs 0).2 c h
theorem maxE_pos (xs : List Cl) : 0 ≤ maxE xs := (foldE_le xs 0).1
theorem look_top {m : List Cl} {d : Cl} (hm : Srt m) (h : ∀ x ∈ m, x.epoch < d.epoch) : comb (look m d.key) (some d) = some d ∧ comb (some d) (look m d.key) = some d := by
  cases h1 : look m d.key with
  | none => exact ⟨rfl, rfl⟩
  | some y =>
    have hy := h y (look_mem h1)
    have hp : prevB d y = true := by rw [prevB_iff]; exact .inl hy
    exact ⟨by simp [comb, top2, hp], by simp [comb, top2, prev_asymm hp]⟩
theorem F8.spec {l o : List Cl} {c : Cl} {H : Heap} {Q : AV → Heap → Prop} (hQ : ∀ H, Q (.bool true) H) : C 8 [.sl 0 5 (rows l), .sl 0 5 (rows o), .agg c.enc] H Q := by
  refine F8.call ?_
  unfold F8.t
  refine F12.spec (ls := [l, o]) (by simp) fun H1 => ?_
  ((try simp only [G_int, G_bool, G_str, G_sl, G_own, toInt_int, toBool_bool, toStr_str, slXs_sl, enc_0, enc_1, enc_2, enc_3, enc_4, lenI_rows]); (try simp only [ci_lt, ci_le, ci_eq, ci_eqS, ci_nblt, ci_nble, cond_not, G_lt, G_le, G_eq, G_nble, G_nblt, G_room, G_roomN, cond_true, cond_false, G_true, Nat.add_zero]))
  cases hb : smallB [l, o]
  · rw [cond_false]
    exact F9.spec fun H2 => by ((try simp only [G_int, G_bool, G_str, G_sl, G_own, toInt_int, toBool_bool, toStr_str, slXs_sl, enc_0, enc_1, enc_2, enc_3, enc_4, lenI_rows]); (try simp only [ci_lt, ci_le, ci_eq, ci_eqS, ci_nblt, ci_nble, cond_not, G_lt, G_le, G_eq, G_nble, G_nblt, G_room, G_roomN, cond_true, cond_false, G_true, Nat.add_zero])); exact hQ _
  · rw [cond_true]
    obtain ⟨ll, cl⟩ := small_mem hb (l := l) (by simp)
    obtain ⟨lo, co⟩ := small_mem hb (l := o) (by simp)
    have vl := vld_of cl
    have vo := vld_of co
    have example' : ∀ H1 : Heap, C 9 [] H1.none fun v H2 => G (v.isBool) (Q (.bool v.toBool) (H1.past H2)) := fun H1 => F9.spec fun H2 => by ((try simp only [G_int, G_bool, G_str, G_sl, G_own, toInt_int, toBool_bool, toStr_str, slXs_sl, enc_0, enc_1, enc_2, enc_3, enc_4, lenI_rows]); (try simp only [ci_lt, ci_le, ci_eq, ci_eqS, ci_nblt, ci_nble, cond_not, G_lt, G_le, G_eq, G_nble, G_nblt, G_room, G_roomN, cond_true, cond_false, G_true, Nat.add_zero])); exact hQ _
    refine F30.spec (c := c) fun H2 => ?_
    ((try simp only [G_int, G_bool, G_str, G_sl, G_own, toInt_int, toBool_bool, toStr_str, slXs_sl, enc_0, enc_1, enc_2, enc_3, enc_4, lenI_rows]); (try simp only [ci_lt, ci_le, ci_eq, ci_eqS, ci_nblt, ci_nble, cond_not, G_lt, G_le, G_eq, G_nble, G_nblt, G_room, G_roomN, cond_true, cond_false, G_true, Nat.add_zero]))
    refine ⟨fun e => ?_, fun _ => example' _⟩
    refine F18.spec (by omega) (vld_epoch vl).1 fun H3 => ?_
    ((try simp only [G_agg5, agg5_0, agg5_1, agg5_2, agg5_3, agg5_4, G_agg2, agg2_0, agg2_1, G_tup2, tup2_0, tup2_1, isSl_nil, slXs_nil]); (try simp only [G_int, G_bool, G_str, G_sl, toInt_int, toBool_bool, toStr_str, slXs_sl]))
    refine F18.spec (by omega) (vld_epoch vo).1 fun H4 => ?_
    ((try simp only [G_agg5, agg5_0, agg5_1, agg5_2, agg5_3, agg5_4, G_agg2, agg2_0, agg2_1, G_tup2, tup2_0, tup2_1, isSl_nil, slXs_nil]); (try simp only [G_int, G_bool, G_str, G_sl, toInt_int, toBool_bool, toStr_str, slXs_sl]))
    ((try simp only [G_int, G_bool, G_str, G_sl, G_own, toInt_int, toBool_bool, toStr_str, slXs_sl, enc_0, enc_1, enc_2, enc_3, enc_4, lenI_rows]); (try simp only [ci_lt, ci_le, ci_eq, ci_eqS, ci_nblt, ci_nble, cond_not, G_lt, G_le, G_eq, G_nble, G_nblt, G_room, G_roomN, cond_true, cond_false, G_true, Nat.add_zero]))
    have main : ∀ (E : Int) (H4 : Heap), 1 ≤ E → E ≤ 1099511627776 → (∀ x ∈ l, x.epoch < E) → (∀ x ∈ o, x.epoch < E) →
        ∃ d : Cl, d = ⟨c.key, c.value, c.gone, E, c.node⟩ ∧ oneE d = 0 ∧ setR l d = (putL l d, 0) ∧ Vld (putL l d) ∧ (putL l d).length ≤ 41 ∧ d ∈ putL l d ∧ getL (putL l d) c.key = (c.value, !c.gone) ∧ d ∈ mergeH l (putL l d) ∧ d ∈ mergeH (putL l d) o ∧ d ∈ mergeH o (putL l d) := by
      intro E H4 e1 e2 h1 h2
      obtain ⟨o1, o2, o3, o4, o5, o6, o7⟩ := oneE_zero e
      let d : Cl := ⟨c.key, c.value, c.gone, E, c.node⟩
      have d1 : oneE d = 0 := oneE_of e rfl rfl rfl e1 e2 o3 o4
      have hv : Vld (putL l d) := putL_vld vl d1
      have hlk : look (putL l d) d.key = some d := by rw [look_putL vl.2, if_pos rfl]
      refine ⟨d, rfl, d1, ?_, hv, by have := putL_len l d; omega, look_mem hlk, ?_, ?_, ?_, ?_⟩
      · unfold setR
        rw [if_pos d1, find_look]
        cases q : look l d.key with
        | none => simp only; rw [if_neg (by omega)]
        | some y =>
          have hy : y.epoch < d.epoch := h1 y (look_mem q)
          have : higher d y = true := by simp [higher, hy]
          simp only [this, if_true]
      · unfold getL
        rw [find_look]
        rw [show look (putL l d) c.key = some d from hlk]
        cases hg : c.gone with
        | true => simp only [d, hg, if_true, o5 hg]; rfl
        | false => simp only [d, hg, Bool.false_eq_true, if_false]; rfl
      · exact look_mem (k := d.key) (by rw [look_mergeH vl.2 hv.2, hlk]; exact (look_top vl.2 h1).1)
      · exact look_mem (k := d.key) (by rw [look_mergeH hv.2 vo.2, hlk]; exact (look_top vo.2 h2).2)
      · exact look_mem (k := d.key) (by rw [look_mergeH vo.2 hv.2, hlk]; exact (look_top vo.2 h2).1)
    have m1 := maxE_pos l
    have m2 := maxE_pos o
    refine ⟨fun q => ⟨fun _ => example' _, fun q1 => ?_⟩, fun q => ⟨fun _ => example' _, fun q1 => ?_⟩⟩
    · obtain ⟨d, hd, d1, hset, hv, hl, hm, hg, i1, i2, i3⟩ := main (maxE o + 1) H4 (by omega) (by omega) (fun x hx => by have := maxE_le hx; omega) (fun x hx => by have := maxE_le hx; omega)
      rw [show ([AV.str c.key, .str c.value, .bool c.gone, .int .i64 (maxE o + 1), .int .i64 c.node] : List AV) = d.enc by rw [hd]; rfl]
      have j1 : (mergeH l (putL l d)).length ≤ 81 := by have := mergeH_len l (putL l d); unfold mergeH; omega
      have j2 : (mergeH (putL l d) o).length ≤ 81 := by have := mergeH_len (putL l d) o; unfold mergeH; omega
      have j3 : (mergeH o (putL l d)).length ≤ 81 := by have := mergeH_len o (putL l d); unfold mergeH; omega
      refine F13.spec (d := d) (by omega) fun H5 => ?_
      rw [setH_eq vl.2, hset, setV_ok rfl]
      simp only [G_tup2, tup2_0, tup2_1]
      ((try simp only [G_int, G_bool, G_str, G_sl, G_own, toInt_int, toBool_bool, toStr_str, slXs_sl, enc_0, enc_1, enc_2, enc_3, enc_4, lenI_rows]); (try simp only [ci_lt, ci_le, ci_eq, ci_eqS, ci_nblt, ci_nble, cond_not, G_lt, G_le, G_eq, G_nble, G_nblt, G_room, G_roomN, cond_true, cond_false, G_true, Nat.add_zero]))
      refine ⟨fun _ => ?_, fun e => absurd trivial e⟩
      refine F25.spec (d := d) (by omega) fun H6 => ?_
      rw [any_mem hm]
      ((try simp only [G_int, G_bool, G_str, G_sl, G_own, toInt_int, toBool_bool, toStr_str, slXs_sl, enc_0, enc_1, enc_2, enc_3, enc_4, lenI_rows]); (try simp only [ci_lt, ci_le, ci_eq, ci_eqS, ci_nblt, ci_nble, cond_not, G_lt, G_le, G_eq, G_nble, G_nblt, G_room, G_roomN, cond_true, cond_false, G_true, Nat.add_zero]))
      refine F11.spec (by omega) fun H7 => ?_
      rw [check_of hv (by omega)]
      ((try simp only [G_int, G_bool, G_str, G_sl, G_own, toInt_int, toBool_bool, toStr_str, slXs_sl, enc_0, enc_1, enc_2, enc_3, enc_4, lenI_rows]); (try simp only [ci_lt, ci_le, ci_eq, ci_eqS, ci_nblt, ci_nble, cond_not, G_lt, G_le, G_eq, G_nble, G_nblt, G_room, G_roomN, cond_true, cond_false, G_true, Nat.add_zero]))
      refine ⟨fun _ => ?_, fun e => absurd trivial e⟩
      refine F16.spec (by omega) fun H8 => ?_
      simp only [G_tup2, tup2_0, tup2_1]
      rw [getH_eq hv.2, hg]
      ((try simp only [G_int, G_bool, G_str, G_sl, G_own, toInt_int, toBool_bool, toStr_str, slXs_sl, enc_0, enc_1, enc_2, enc_3, enc_4, lenI_rows]); (try simp only [ci_lt, ci_le, ci_eq, ci_eqS, ci_nblt, ci_nble, cond_not, G_lt, G_le, G_eq, G_nble, G_nblt, G_room, G_roomN, cond_true, cond_false, G_true, Nat.add_zero]))
      rw [show ((!c.gone) == c.gone) = false by cases c.gone <;> rfl, cond_false]
      refine ⟨fun _ => ?_, fun e => absurd trivial e⟩
      refine F20.spec (by omega) (by omega) fun H9 => ?_
      ((try simp only [G_int, G_bool, G_str, G_sl, G_own, toInt_int, toBool_bool, toStr_str, slXs_sl, enc_0, enc_1, enc_2, enc_3, enc_4, lenI_rows]); (try simp only [ci_lt, ci_le, ci_eq, ci_eqS, ci_nblt, ci_nble, cond_not, G_lt, G_le, G_eq, G_nble, G_nblt, G_room, G_roomN, cond_true, cond_false, G_true, Nat.add_zero]))
      refine F25.spec (d := d) (by omega) fun H10 => ?_
      rw [any_mem i1]
      ((try simp only [G_int, G_bool, G_str, G_sl, G_own, toInt_int, toBool_bool, toStr_str, slXs_sl, enc_0, enc_1, enc_2, enc_3, enc_4, lenI_rows]); (try simp only [ci_lt, ci_le, ci_eq, ci_eqS, ci_nblt, ci_nble, cond_not, G_lt, G_le, G_eq, G_nble, G_nblt, G_room, G_roomN, cond_true, cond_false, G_true, Nat.add_zero]))
      refine F20.spec (by omega) (by omega) fun H11 => ?_
      ((try simp only [G_int, G_bool, G_str, G_sl, G_own, toInt_int, toBool_bool, toStr_str, slXs_sl, enc_0, enc_1, enc_2, enc_3, enc_4, lenI_rows]); (try simp only [ci_lt, ci_le, ci_eq, ci_eqS, ci_nblt, ci_nble, cond_not, G_lt, G_le, G_eq, G_nble, G_nblt, G_room, G_roomN, cond_true, cond_false, G_true, Nat.add_zero]))
      refine F25.spec (d := d) (by omega) fun H12 => ?_
      rw [any_mem i2]
      ((try simp only [G_int, G_bool, G_str, G_sl, G_own, toInt_int, toBool_bool, toStr_str, slXs_sl, enc_0, enc_1, enc_2, enc_3, enc_4, lenI_rows]); (try simp only [ci_lt, ci_le, ci_eq, ci_eqS, ci_nblt, ci_nble, cond_not, G_lt, G_le, G_eq, G_nble, G_nblt, G_room, G_roomN, cond_true, cond_false, G_true, Nat.add_zero]))
      refine F20.spec (by omega) (by omega) fun H13 => ?_
      ((try simp only [G_int, G_bool, G_str, G_sl, G_own, toInt_int, toBool_bool, toStr_str, slXs_sl, enc_0, enc_1, enc_2, enc_3, enc_4, lenI_rows]); (try simp only [ci_lt, ci_le, ci_eq, ci_eqS, ci_nblt, ci_nble, cond_not, G_lt, G_le, G_eq, G_nble, G_nblt, G_room, G_roomN, cond_true, cond_false, G_true, Nat.add_zero]))
      refine F25.spec (d := d) (by omega) fun H14 => ?_
      rw [any_mem i3]
      ((try simp only [G_int, G_bool, G_str, G_sl, G_own, toInt_int, toBool_bool, toStr_str, slXs_sl, enc_0, enc_1, enc_2, enc_3, enc_4, lenI_rows]); (try simp only [ci_lt, ci_le, ci_eq, ci_eqS, ci_nblt, ci_nble, cond_not, G_lt, G_le, G_eq, G_nble, G_nblt, G_room, G_roomN, cond_true, cond_false, G_true, Nat.add_zero]))
      exact example' _
    · obtain ⟨d, hd, d1, hset, hv, hl, hm, hg, i1, i2, i3⟩ := main (maxE l + 1) H4 (by omega) (by omega) (fun x hx => by have := maxE_le hx; omega) (fun x hx => by have := maxE_le hx; omega)
      rw [show ([AV.str c.key, .str c.value, .bool c.gone, .int .i64 (maxE l + 1), .int .i64 c.node] : List AV) = d.enc by rw [hd]; rfl]
      have j1 : (mergeH l (putL l d)).length ≤ 81 := by have := mergeH_len l (putL l d); unfold mergeH; omega
      have j2 : (mergeH (putL l d) o).length ≤ 81 := by have := mergeH_len (putL l d) o; unfold mergeH; omega
      have j3 : (mergeH o (putL l d)).length ≤ 81 := by have := mergeH_len o (putL l d); unfold mergeH; omega
      refine F13.spec (d := d) (by omega) fun H5 => ?_
      rw [setH_eq vl.2, hset, setV_ok rfl]
      simp only [G_tup2, tup2_0, tup2_1]
      ((try simp only [G_int, G_bool, G_str, G_sl, G_own, toInt_int, toBool_bool, toStr_str, slXs_sl, enc_0, enc_1, enc_2, enc_3, enc_4, lenI_rows]); (try simp only [ci_lt, ci_le, ci_eq, ci_eqS, ci_nblt, ci_nble, cond_not, G_lt, G_le, G_eq, G_nble, G_nblt, G_room, G_roomN, cond_true, cond_false, G_true, Nat.add_zero]))
      refine ⟨fun _ => ?_, fun e => absurd trivial e⟩
      refine F25.spec (d := d) (by omega) fun H6 => ?_
      rw [any_mem hm]
      ((try simp only [G_int, G_bool, G_str, G_sl, G_own, toInt_int, toBool_bool, toStr_str, slXs_sl, enc_0, enc_1, enc_2, enc_3, enc_4, lenI_rows]); (try simp only [ci_lt, ci_le, ci_eq, ci_eqS, ci_nblt, ci_nble, cond_not, G_lt, G_le, G_eq, G_nble, G_nblt, G_room, G_roomN, cond_true, cond_false, G_true, Nat.add_zero]))
      refine F11.spec (by omega) fun H7 => ?_
      rw [check_of hv (by omega)]
      ((try simp only [G_int, G_bool, G_str, G_sl, G_own, toInt_int, toBool_bool, toStr_str, slXs_sl, enc_0, enc_1, enc_2, enc_3, enc_4, lenI_rows]); (try simp only [ci_lt, ci_le, ci_eq, ci_eqS, ci_nblt, ci_nble, cond_not, G_lt, G_le, G_eq, G_nble, G_nblt, G_room, G_roomN, cond_true, cond_false, G_true, Nat.add_zero]))
      refine ⟨fun _ => ?_, fun e => absurd trivial e⟩
      refine F16.spec (by omega) fun H8 => ?_
      simp only [G_tup2, tup2_0, tup2_1]
      rw [getH_eq hv.2, hg]
      ((try simp only [G_int, G_bool, G_str, G_sl, G_own, toInt_int, toBool_bool, toStr_str, slXs_sl, enc_0, enc_1, enc_2, enc_3, enc_4, lenI_rows]); (try simp only [ci_lt, ci_le, ci_eq, ci_eqS, ci_nblt, ci_nble, cond_not, G_lt, G_le, G_eq, G_nble, G_nblt, G_room, G_roomN, cond_true, cond_false, G_true, Nat.add_zero]))
      rw [show ((!c.gone) == c.gone) = false by cases c.gone <;> rfl, cond_false]
      refine ⟨fun _ => ?_, fun e => absurd trivial e⟩
      refine F20.spec (by omega) (by omega) fun H9 => ?_
      ((try simp only [G_int, G_bool, G_str, G_sl, G_own, toInt_int, toBool_bool, toStr_str, slXs_sl, enc_0, enc_1, enc_2, enc_3, enc_4, lenI_rows]); (try simp only [ci_lt, ci_le, ci_eq, ci_eqS, ci_nblt, ci_nble, cond_not, G_lt, G_le, G_eq, G_nble, G_nblt, G_room, G_roomN, cond_true, cond_false, G_true, Nat.add_zero]))
      refine F25.spec (d := d) (by omega) fun H10 => ?_
      rw [any_mem i1]
      ((try simp only [G_int, G_bool, G_str, G_sl, G_own, toInt_int, toBool_bool, toStr_str, slXs_sl, enc_0, enc_1, enc_2, enc_3, enc_4, lenI_rows]); (try simp only [ci_lt, ci_le, ci_eq, ci_eqS, ci_nblt, ci_nble, cond_not, G_lt, G_le, G_eq, G_nble, G_nblt, G_room, G_roomN, cond_true, cond_false, G_true, Nat.add_zero]))
      refine F20.spec (by omega) (by omega) fun H11 => ?_
      ((try simp only [G_int, G_bool, G_str, G_sl, G_own, toInt_int, toBool_bool, toStr_str, slXs_sl, enc_0, enc_1, enc_2, enc_3, enc_4, lenI_rows]); (try simp only [ci_lt, ci_le, ci_eq, ci_eqS, ci_nblt, ci_nble, cond_not, G_lt, G_le, G_eq, G_nble, G_nblt, G_room, G_roomN, cond_true, cond_false, G_true, Nat.add_zero]))
      refine F25.spec (d := d) (by omega) fun H12 => ?_
      rw [any_mem i2]
      ((try simp only [G_int, G_bool, G_str, G_sl, G_own, toInt_int, toBool_bool, toStr_str, slXs_sl, enc_0, enc_1, enc_2, enc_3, enc_4, lenI_rows]); (try simp only [ci_lt, ci_le, ci_eq, ci_eqS, ci_nblt, ci_nble, cond_not, G_lt, G_le, G_eq, G_nble, G_nblt, G_room, G_roomN, cond_true, cond_false, G_true, Nat.add_zero]))
      refine F20.spec (by omega) (by omega) fun H13 => ?_
      ((try simp only [G_int, G_bool, G_str, G_sl, G_own, toInt_int, toBool_bool, toStr_str, slXs_sl, enc_0, enc_1, enc_2, enc_3, enc_4, lenI_rows]); (try simp only [ci_lt, ci_le, ci_eq, ci_eqS, ci_nblt, ci_nble, cond_not, G_lt, G_le, G_eq, G_nble, G_nblt, G_room, G_roomN, cond_true, cond_false, G_true, Nat.add_zero]))
      refine F25.spec (d := d) (by omega) fun H14 => ?_
      rw [any_mem i3]
      ((try simp only [G_int, G_bool, G_str, G_sl, G_own, toInt_int, toBool_bool, toStr_str, slXs_sl, enc_0, enc_1, enc_2, enc_3, enc_4, lenI_rows]); (try simp only [ci_lt, ci_le, ci_eq, ci_eqS, ci_nblt, ci_nble, cond_not, G_lt, G_le, G_eq, G_nble, G_nblt, G_room, G_roomN, cond_true, cond_false, G_true, Nat.add_zero]))
      exact example' _
end Go.Proofs.Ytkjmkhgaghighaa.Ab
