/- P44.8: the law of differences by itself. -/
import Derived.Test.YtkjmkhgaghighaaHealFive
namespace Go.Proofs.Ytkjmkhgaghighaa.Ab
open Go
set_option linter.unusedSimpArgs false

theorem anyS_mem {m : List ByteArray} {x : ByteArray} (h : x ∈ m) : (m.any fun c => decide (x = c)) = true := List.any_eq_true.2 ⟨x, h, by simp⟩
theorem anyS_no {m : List ByteArray} {x : ByteArray} (h : x ∉ m) : (m.any fun c => decide (x = c)) = false := List.any_eq_false.2 fun y hy => fun e => h (of_decide_eq_true e ▸ hy)
theorem F7.loop1 {a b : List Cl} {ch : List ByteArray} {Q : AV → Heap → Prop} (ha : a.length ≤ 40) (hb : b.length ≤ 40) (hc : ch.length ≤ b.length) (h1 : ∀ x ∈ b, look a x.key = none → x.key ∈ ch) (h2 : ∀ x ∈ b, ∀ d, look a x.key = some d → (x.key ∈ ch ↔ prevB x d = true)) (hQ : ∀ H, Q (.bool true) H) : ∀ (post pre : List Cl) (H : Heap), b = pre ++ post → F7.L1 (rows a) (rows b) Q (strs ch) pre.length H
  | [], pre, H, h => by
    refine F7.L1_step ?_
    unfold F7.r1
    rw [lenI_strs]
    ((try simp only [G_int, G_bool, G_str, G_sl, G_own, toInt_int, toBool_bool, toStr_str, slXs_sl, enc_0, enc_1, enc_2, enc_3, enc_4, lenI_rows]); (try simp only [ci_lt, ci_le, ci_eq, ci_eqS, ci_nblt, ci_nble, cond_not, G_lt, G_le, G_eq, G_nble, G_nblt, G_room, G_roomN, cond_true, cond_false, G_true, Nat.add_zero]))
    exact ⟨fun e => absurd e (by simp [h]), fun _ => ⟨fun _ => F9.spec fun H1 => by ((try simp only [G_int, G_bool, G_str, G_sl, G_own, toInt_int, toBool_bool, toStr_str, slXs_sl, enc_0, enc_1, enc_2, enc_3, enc_4, lenI_rows]); (try simp only [ci_lt, ci_le, ci_eq, ci_eqS, ci_nblt, ci_nble, cond_not, G_lt, G_le, G_eq, G_nble, G_nblt, G_room, G_roomN, cond_true, cond_false, G_true, Nat.add_zero])); exact hQ _, fun e => absurd (by omega) e⟩⟩
  | x :: post, pre, H, h => by
    have hl := fits_len h
    have hx : x ∈ b := by rw [h]; simp
    have next : ∀ H1, F7.L1 (rows a) (rows b) Q (strs ch) (addW .i64 (pre.length : Int) 1) H1 := by
      intro H1
      rw [addW_eq (by omega) (by omega)]
      have := F7.loop1 ha hb hc h1 h2 hQ post (pre ++ [x]) H1 (by rw [h]; simp)
      rw [List.length_append, List.length_singleton] at this
      exact this
    refine F7.L1_step ?_
    unfold F7.r1
    rw [row_mid h]
    ((try simp only [G_int, G_bool, G_str, G_sl, G_own, toInt_int, toBool_bool, toStr_str, slXs_sl, enc_0, enc_1, enc_2, enc_3, enc_4, lenI_rows]); (try simp only [ci_lt, ci_le, ci_eq, ci_eqS, ci_nblt, ci_nble, cond_not, G_lt, G_le, G_eq, G_nble, G_nblt, G_room, G_roomN, cond_true, cond_false, G_true, Nat.add_zero]))
    refine ⟨fun _ => ⟨by omega, by omega, ?_⟩, fun e => absurd e (by omega)⟩
    refine F27.spec (by omega) fun H1 => ?_
    ((try simp only [G_int, G_bool, G_str, G_sl, G_own, toInt_int, toBool_bool, toStr_str, slXs_sl, enc_0, enc_1, enc_2, enc_3, enc_4, lenI_rows]); (try simp only [ci_lt, ci_le, ci_eq, ci_eqS, ci_nblt, ci_nble, cond_not, G_lt, G_le, G_eq, G_nble, G_nblt, G_room, G_roomN, cond_true, cond_false, G_true, Nat.add_zero]))
    rcases idx_look x.key a with ⟨k1, k2⟩ | ⟨pre', d, post', k1, k2, k3⟩
    · rw [k1]
      refine ⟨fun _ => ?_, fun e => absurd (by omega) e⟩
      refine F29.spec (by omega) fun H2 => ?_
      rw [anyS_mem (h1 x hx k2)]
      ((try simp only [G_int, G_bool, G_str, G_sl, G_own, toInt_int, toBool_bool, toStr_str, slXs_sl, enc_0, enc_1, enc_2, enc_3, enc_4, lenI_rows]); (try simp only [ci_lt, ci_le, ci_eq, ci_eqS, ci_nblt, ci_nble, cond_not, G_lt, G_le, G_eq, G_nble, G_nblt, G_room, G_roomN, cond_true, cond_false, G_true, Nat.add_zero]))
      exact next _
    · have hl' := fits_len k1
      rw [k2, row_mid k1]
      ((try simp only [G_int, G_bool, G_str, G_sl, G_own, toInt_int, toBool_bool, toStr_str, slXs_sl, enc_0, enc_1, enc_2, enc_3, enc_4, lenI_rows]); (try simp only [ci_lt, ci_le, ci_eq, ci_eqS, ci_nblt, ci_nble, cond_not, G_lt, G_le, G_eq, G_nble, G_nblt, G_room, G_roomN, cond_true, cond_false, G_true, Nat.add_zero]))
      refine ⟨fun e => absurd e (by omega), fun _ => ⟨by omega, by omega, ?_⟩⟩
      refine F28.spec (a := x) (b := d) fun H2 => ?_
      ((try simp only [G_int, G_bool, G_str, G_sl, G_own, toInt_int, toBool_bool, toStr_str, slXs_sl, enc_0, enc_1, enc_2, enc_3, enc_4, lenI_rows]); (try simp only [ci_lt, ci_le, ci_eq, ci_eqS, ci_nblt, ci_nble, cond_not, G_lt, G_le, G_eq, G_nble, G_nblt, G_room, G_roomN, cond_true, cond_false, G_true, Nat.add_zero]))
      refine F29.spec (by omega) fun H3 => ?_
      ((try simp only [G_int, G_bool, G_str, G_sl, G_own, toInt_int, toBool_bool, toStr_str, slXs_sl, enc_0, enc_1, enc_2, enc_3, enc_4, lenI_rows]); (try simp only [ci_lt, ci_le, ci_eq, ci_eqS, ci_nblt, ci_nble, cond_not, G_lt, G_le, G_eq, G_nble, G_nblt, G_room, G_roomN, cond_true, cond_false, G_true, Nat.add_zero]))
      have e := h2 x hx d k3
      cases hp : prevB x d
      · rw [anyS_no fun q => by rw [e.1 q] at hp; cases hp]
        exact next _
      · rw [anyS_mem (e.2 hp)]
        exact next _
theorem F7.loop0 {a b : List Cl} {d ch : List ByteArray} {Q : AV → Heap → Prop} (hd : d.length ≤ 80) (hc : ch.length ≤ 80) (hs : SrtS ch) (hin : ∀ k ∈ ch, k ∈ d) (hend : ∀ H, F7.L1 (rows a) (rows b) Q (strs ch) 0 H) : ∀ (post pre : List ByteArray) (H : Heap), ch = pre ++ post → F7.L0 (rows a) (rows b) Q (strs d) (strs ch) (strs ch) (ch.length : Int) pre.length H
  | [], pre, H, h => by
    refine F7.L0_step ?_
    unfold F7.r0
    ((try simp only [G_int, G_bool, G_str, G_sl, G_own, toInt_int, toBool_bool, toStr_str, slXs_sl, enc_0, enc_1, enc_2, enc_3, enc_4, lenI_rows]); (try simp only [ci_lt, ci_le, ci_eq, ci_eqS, ci_nblt, ci_nble, cond_not, G_lt, G_le, G_eq, G_nble, G_nblt, G_room, G_roomN, cond_true, cond_false, G_true, Nat.add_zero]))
    exact ⟨fun e => absurd e (by simp [h]), fun _ => hend H⟩
  | x :: post, pre, H, h => by
    have hl := fits_len h
    have hx : x ∈ ch := by rw [h]; simp
    have next : ∀ H1, F7.L0 (rows a) (rows b) Q (strs d) (strs ch) (strs ch) (ch.length : Int) (addW .i64 (pre.length : Int) 1) H1 := by
      intro H1
      rw [addW_eq (by omega) (by omega)]
      have := F7.loop0 hd hc hs hin hend post (pre ++ [x]) H1 (by rw [h]; simp)
      rw [List.length_append, List.length_singleton] at this
      exact this
    refine F7.L0_step ?_
    unfold F7.r0
    rw [srow_mid h, lenI_strs, str_0]
    ((try simp only [G_int, G_bool, G_str, G_sl, G_own, toInt_int, toBool_bool, toStr_str, slXs_sl, enc_0, enc_1, enc_2, enc_3, enc_4, lenI_rows]); (try simp only [ci_lt, ci_le, ci_eq, ci_eqS, ci_nblt, ci_nble, cond_not, G_lt, G_le, G_eq, G_nble, G_nblt, G_room, G_roomN, cond_true, cond_false, G_true, Nat.add_zero]))
    refine ⟨fun _ => ⟨by omega, by omega, ?_⟩, fun e => absurd e (by omega)⟩
    rcases List.eq_nil_or_concat pre with rfl | ⟨pre', p, rfl⟩
    · refine ⟨fun e => absurd e (by simp), fun _ => ?_⟩
      refine F29.spec (by omega) fun H1 => ?_
      rw [anyS_mem (hin x hx)]
      ((try simp only [G_int, G_bool, G_str, G_sl, G_own, toInt_int, toBool_bool, toStr_str, slXs_sl, enc_0, enc_1, enc_2, enc_3, enc_4, lenI_rows]); (try simp only [ci_lt, ci_le, ci_eq, ci_eqS, ci_nblt, ci_nble, cond_not, G_lt, G_le, G_eq, G_nble, G_nblt, G_room, G_roomN, cond_true, cond_false, G_true, Nat.add_zero]))
      exact next _
    · refine ⟨fun _ => ?_, fun e => absurd e (by simp)⟩
      have hlen : ((pre'.concat p).length : Int) = (pre'.length : Int) + 1 := by simp
      have hp : ch[pre'.length]? = some p := by rw [h]; simp
      rw [subW_eq (by omega) (by omega), srow_at (n := pre'.length) (by omega) hp, str_0]
      ((try simp only [G_int, G_bool, G_str, G_sl, G_own, toInt_int, toBool_bool, toStr_str, slXs_sl, enc_0, enc_1, enc_2, enc_3, enc_4, lenI_rows]); (try simp only [ci_lt, ci_le, ci_eq, ci_eqS, ci_nblt, ci_nble, cond_not, G_lt, G_le, G_eq, G_nble, G_nblt, G_room, G_roomN, cond_true, cond_false, G_true, Nat.add_zero]))
      refine ⟨by omega, by omega, ?_⟩
      have hlt : ltS p x = true := by
        rw [h] at hs
        exact (List.pairwise_append.1 hs).2.2 p (by simp) x (by simp)
      rw [hlt, cond_true]
      refine F29.spec (by omega) fun H1 => ?_
      rw [anyS_mem (hin x hx)]
      ((try simp only [G_int, G_bool, G_str, G_sl, G_own, toInt_int, toBool_bool, toStr_str, slXs_sl, enc_0, enc_1, enc_2, enc_3, enc_4, lenI_rows]); (try simp only [ci_lt, ci_le, ci_eq, ci_eqS, ci_nblt, ci_nble, cond_not, G_lt, G_le, G_eq, G_nble, G_nblt, G_room, G_roomN, cond_true, cond_false, G_true, Nat.add_zero]))
      exact next _
theorem diff_len {a b : List Cl} : ∀ (us ws : List Cl), (mg one2 both2 us ws).length ≤ us.length + ws.length
  | [], [] => by rw [mg]; simp
  | a :: us, [] => by rw [mg]; have := diff_len (a := []) (b := []) us []; simp [one2] at *; omega
  | [], b :: ws => by rw [mg]; have := diff_len (a := []) (b := []) [] ws; simp [one2] at *; omega
  | a :: us, b :: ws => by
    rw [mg]
    split
    · have := diff_len (a := []) (b := []) us (b :: ws); simp [one2] at *; omega
    · split
      · have := diff_len (a := []) (b := []) (a :: us) ws; simp [one2] at *; omega
      · have := diff_len (a := []) (b := []) us ws; have hb : (both2 a b).length ≤ 1 := by { unfold both2; split <;> simp }; simp at *; omega
  termination_by us ws => us.length + ws.length
theorem key_srt {b : List Cl} (h : Srt b) : SrtS (b.map (·.key)) := by
  unfold SrtS
  rw [List.pairwise_map]
  exact h
theorem F7.spec {a b : List Cl} {H : Heap} {Q : AV → Heap → Prop} (hQ : ∀ H, Q (.bool true) H) : C 7 [.sl 0 5 (rows a), .sl 0 5 (rows b)] H Q := by
  refine F7.call ?_
  unfold F7.t
  refine F12.spec (ls := [a, b]) (by simp) fun H1 => ?_
  ((try simp only [G_int, G_bool, G_str, G_sl, G_own, toInt_int, toBool_bool, toStr_str, slXs_sl, enc_0, enc_1, enc_2, enc_3, enc_4, lenI_rows]); (try simp only [ci_lt, ci_le, ci_eq, ci_eqS, ci_nblt, ci_nble, cond_not, G_lt, G_le, G_eq, G_nble, G_nblt, G_room, G_roomN, cond_true, cond_false, G_true, Nat.add_zero]))
  cases hb : smallB [a, b]
  · rw [cond_false]
    exact F9.spec fun H2 => by ((try simp only [G_int, G_bool, G_str, G_sl, G_own, toInt_int, toBool_bool, toStr_str, slXs_sl, enc_0, enc_1, enc_2, enc_3, enc_4, lenI_rows]); (try simp only [ci_lt, ci_le, ci_eq, ci_eqS, ci_nblt, ci_nble, cond_not, G_lt, G_le, G_eq, G_nble, G_nblt, G_room, G_roomN, cond_true, cond_false, G_true, Nat.add_zero])); exact hQ _
  · rw [cond_true]
    obtain ⟨la, ca⟩ := small_mem hb (l := a) (by simp)
    obtain ⟨lb, cb⟩ := small_mem hb (l := b) (by simp)
    have va := vld_of ca
    have vb := vld_of cb
    have vm := mergeH_srt va.2 vb.2
    have lm : (mergeH a b).length ≤ 80 := by have := mergeH_len a b; unfold mergeH; omega
    have ld : (diffH a b).length ≤ 80 := by have := diff_len (a := a) (b := b) a b; unfold diffH; omega
    refine F23.spec (by omega) (by omega) fun H2 => ?_
    ((try simp only [G_int, G_bool, G_str, G_sl, G_own, toInt_int, toBool_bool, toStr_str, slXs_sl, enc_0, enc_1, enc_2, enc_3, enc_4, lenI_rows]); (try simp only [ci_lt, ci_le, ci_eq, ci_eqS, ci_nblt, ci_nble, cond_not, G_lt, G_le, G_eq, G_nble, G_nblt, G_room, G_roomN, cond_true, cond_false, G_true, Nat.add_zero]))
    refine F23.spec (by omega) (by omega) fun H3 => ?_
    ((try simp only [G_int, G_bool, G_str, G_sl, G_own, toInt_int, toBool_bool, toStr_str, slXs_sl, enc_0, enc_1, enc_2, enc_3, enc_4, lenI_rows]); (try simp only [ci_lt, ci_le, ci_eq, ci_eqS, ci_nblt, ci_nble, cond_not, G_lt, G_le, G_eq, G_nble, G_nblt, G_room, G_roomN, cond_true, cond_false, G_true, Nat.add_zero]))
    refine F22.spec (by omega) fun H4 => ?_
    rw [decide_eq_true (srtS_ext (diffH_srt va.2 vb.2) (diffH_srt vb.2 va.2) fun k => by rw [mem_diffH va.2 vb.2, mem_diffH vb.2 va.2]; exact ⟨Ne.symm, Ne.symm⟩)]
    ((try simp only [G_int, G_bool, G_str, G_sl, G_own, toInt_int, toBool_bool, toStr_str, slXs_sl, enc_0, enc_1, enc_2, enc_3, enc_4, lenI_rows]); (try simp only [ci_lt, ci_le, ci_eq, ci_eqS, ci_nblt, ci_nble, cond_not, G_lt, G_le, G_eq, G_nble, G_nblt, G_room, G_roomN, cond_true, cond_false, G_true, Nat.add_zero]))
    refine F23.spec (by omega) (by omega) fun H5 => ?_
    have hself : diffH a a = [] := by
      cases h : diffH a a with
      | nil => rfl
      | cons k l =>
        have : k ∈ diffH a a := by rw [h]; simp
        rw [mem_diffH va.2 va.2] at this
        exact absurd rfl this
    rw [hself]
    ((try simp only [G_int, G_bool, G_str, G_sl, G_own, toInt_int, toBool_bool, toStr_str, slXs_sl, enc_0, enc_1, enc_2, enc_3, enc_4, lenI_rows]); (try simp only [ci_lt, ci_le, ci_eq, ci_eqS, ci_nblt, ci_nble, cond_not, G_lt, G_le, G_eq, G_nble, G_nblt, G_room, G_roomN, cond_true, cond_false, G_true, Nat.add_zero]))
    rw [lenI_strs, lenI_strs]
    refine ⟨fun _ => ?_, fun e => absurd rfl e⟩
    refine F15.spec (by omega) fun H6 => ?_
    have hnil : eqI ((diffH a b).length : Int) 0 = decide (a = b) := by
      unfold eqI
      refine decide_eq_decide.2 ⟨fun e => ?_, fun e => by rw [← e, hself]; rfl⟩
      have h0 : diffH a b = [] := List.length_eq_zero_iff.1 (by omega)
      refine srt_ext va.2 vb.2 fun k => Classical.byContradiction fun q => ?_
      have := (mem_diffH va.2 vb.2 (k := k)).2 q
      rw [h0] at this
      cases this
    rw [hnil]
    ((try simp only [G_int, G_bool, G_str, G_sl, G_own, toInt_int, toBool_bool, toStr_str, slXs_sl, enc_0, enc_1, enc_2, enc_3, enc_4, lenI_rows]); (try simp only [ci_lt, ci_le, ci_eq, ci_eqS, ci_nblt, ci_nble, cond_not, G_lt, G_le, G_eq, G_nble, G_nblt, G_room, G_roomN, cond_true, cond_false, G_true, Nat.add_zero]))
    rw [show (decide (a = b) == decide (a = b)) = true by simp, cond_true]
    refine F20.spec (by omega) (by omega) fun H7 => ?_
    ((try simp only [G_int, G_bool, G_str, G_sl, G_own, toInt_int, toBool_bool, toStr_str, slXs_sl, enc_0, enc_1, enc_2, enc_3, enc_4, lenI_rows]); (try simp only [ci_lt, ci_le, ci_eq, ci_eqS, ci_nblt, ci_nble, cond_not, G_lt, G_le, G_eq, G_nble, G_nblt, G_room, G_roomN, cond_true, cond_false, G_true, Nat.add_zero]))
    refine F23.spec (by omega) (by omega) fun H8 => ?_
    ((try simp only [G_int, G_bool, G_str, G_sl, G_own, toInt_int, toBool_bool, toStr_str, slXs_sl, enc_0, enc_1, enc_2, enc_3, enc_4, lenI_rows]); (try simp only [ci_lt, ci_le, ci_eq, ci_eqS, ci_nblt, ci_nble, cond_not, G_lt, G_le, G_eq, G_nble, G_nblt, G_room, G_roomN, cond_true, cond_false, G_true, Nat.add_zero]))
    rw [lenI_strs]
    have mc : ∀ k, k ∈ diffH a (mergeH a b) ↔ look a k ≠ comb (look a k) (look b k) := fun k => by rw [mem_diffH va.2 vm, look_mergeH va.2 vb.2]
    have lc : (diffH a (mergeH a b)).length ≤ b.length := by
      have := srtS_len (diffH_srt va.2 vm) (key_srt vb.2) fun k hk => by
        rw [mc] at hk
        cases h : look b k with
        | none => rw [h] at hk; cases h' : look a k <;> rw [h'] at hk <;> exact absurd rfl hk
        | some x => exact List.mem_map.2 ⟨x, look_mem h, look_key h⟩
      rwa [List.length_map] at this
    refine F7.loop0 ld (by omega) (diffH_srt va.2 vm) (fun k hk => ?_) (fun H => ?_) _ [] _ rfl
    · rw [mc] at hk
      rw [mem_diffH va.2 vb.2]
      intro e
      rw [← e, comb_self] at hk
      exact hk rfl
    · refine F7.loop1 la lb lc (fun x hx e => ?_) (fun x hx d e => ?_) hQ b [] H rfl
      · rw [mc, e, look_of_mem vb.2 hx]; simp [comb]
      · rw [mc, e, look_of_mem vb.2 hx]
        simp only [comb, top2]
        cases hp : prevB x d with
        | true => simpa using (prev_ne hp).symm
        | false => simp
end Go.Proofs.Ytkjmkhgaghighaa.Ab
