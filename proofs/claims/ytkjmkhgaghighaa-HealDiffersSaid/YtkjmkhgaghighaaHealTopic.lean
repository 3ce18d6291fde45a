/- Topic names: brokerref01.Valid and topic.Valid say the same. -/
import Derived.Test.YtkjmkhgaghighaaAbLaw
import Derived.Test.YtkjmkhgaghighaaTr
namespace Go.Proofs.Ytkjmkhgaghighaa.Ab
open Go
set_option linter.unusedSimpArgs false

/-! brokerref01.Has -/
theorem F54.loop {a0 : ByteArray} {a1 : Int} {Q : AV → Heap → Prop} (hs : a0.size ≤ 140737488355328) (H : Heap) : ∀ (post pre : List UInt8), bs a0 = pre ++ post → Q (.bool (post.any fun b => decide ((b.toNat : Int) = a1))) H → F54.L0 a0 a1 Q (pre.length : Int) H
  | [], pre, h, hQ => by
    refine F54.L0_step ?_
    unfold F54.r0
    rw [sizeI_bs, h]
    (simp only [cond_lt, cond_le, cond_eq, cond_eqS, cond_nblt, cond_nble, cond_ltS, cond_not, G_lt, G_le, G_eq, G_nble, G_nblt, G_room, G_roomN, G_int, G_bool, G_str, G_sl, G_own, toInt_int, toBool_bool, toStr_str, slXs_sl, cond_true, cond_false, G_true, Nat.add_zero])
    rw [if_neg (by simp)]
    simpa using hQ
  | x :: post, pre, h, hQ => by
    have hl : (bs a0).length = pre.length + (post.length + 1) := by rw [h]; simp
    have hb : (bs a0).length ≤ 140737488355328 := by rw [← bs_size]; exact hs
    refine F54.L0_step ?_
    unfold F54.r0
    rw [sizeI_bs, bt_mid h, addW_eq (by omega) (by omega)]
    (simp only [cond_lt, cond_le, cond_eq, cond_eqS, cond_nblt, cond_nble, cond_ltS, cond_not, G_lt, G_le, G_eq, G_nble, G_nblt, G_room, G_roomN, G_int, G_bool, G_str, G_sl, G_own, toInt_int, toBool_bool, toStr_str, slXs_sl, cond_true, cond_false, G_true, Nat.add_zero])
    rw [if_pos (by omega)]
    refine ⟨by omega, by omega, ?_⟩
    split
    · rename_i e
      rw [List.any_cons, decide_eq_true e, Bool.true_or] at hQ
      exact hQ
    · rename_i e
      have := F54.loop hs H post (pre ++ [x]) (by rw [h]; simp) (by rw [List.any_cons, decide_eq_false e, Bool.false_or] at hQ; exact hQ)
      rw [List.length_append, List.length_singleton] at this
      exact this
def hasB (s : ByteArray) (c : Int) : Bool := (bs s).any fun b => decide ((b.toNat : Int) = c)
theorem F54.spec {a0 : ByteArray} {a1 : Int} {H : Heap} {Q : AV → Heap → Prop} (hs : a0.size ≤ 140737488355328) (h : ∀ H, Q (.bool (hasB a0 a1)) H) : C 54 [.str a0, .int .u8 a1] H Q :=
  F54.call (F54.loop hs H (bs a0) [] rfl (h H))

/-! brokerref01.Levels: how many -/
def cntB (l : List UInt8) (c : Int) : Nat := l.countP fun b => decide ((b.toNat : Int) = c)
theorem cntB_le (l : List UInt8) (c : Int) : cntB l c ≤ l.length := List.countP_le_length
theorem F57.loop {a0 : ByteArray} {Q : AV → Heap → Prop} (hs : a0.size ≤ 4096) (H : Heap) : ∀ (post pre : List UInt8) (out : List (List AV)) (f : Int), bs a0 = pre ++ post → 0 ≤ f → f ≤ pre.length → out.length ≤ pre.length →
    (∀ xs, xs.length = out.length + cntB post 47 + 1 → Q (.sl 0 1 xs) H) → F57.L0 a0 Q out f (pre.length : Int) H
  | [], pre, out, f, h, f0, f1, ho, hQ => by
    have hb : (bs a0).length ≤ 4096 := by rw [← bs_size]; exact hs
    have hl : (bs a0).length = pre.length := by rw [h]; simp
    refine F57.L0_step ?_
    unfold F57.r0
    rw [sizeI_bs]
    (simp only [cond_lt, cond_le, cond_eq, cond_eqS, cond_nblt, cond_nble, cond_ltS, cond_not, G_lt, G_le, G_eq, G_nble, G_nblt, G_room, G_roomN, G_int, G_bool, G_str, G_sl, G_own, toInt_int, toBool_bool, toStr_str, slXs_sl, cond_true, cond_false, G_true, Nat.add_zero])
    rw [if_neg (by omega)]
    refine ⟨f0, by omega, by omega, ?_, hQ _ ?_⟩
    · simp; omega
    · simp [cntB]
  | x :: post, pre, out, f, h, f0, f1, ho, hQ => by
    have hl : (bs a0).length = pre.length + (post.length + 1) := by rw [h]; simp
    have hb : (bs a0).length ≤ 4096 := by rw [← bs_size]; exact hs
    refine F57.L0_step ?_
    unfold F57.r0
    rw [sizeI_bs, bt_mid h, addW_eq (by omega) (by omega)]
    (simp only [cond_lt, cond_le, cond_eq, cond_eqS, cond_nblt, cond_nble, cond_ltS, cond_not, G_lt, G_le, G_eq, G_nble, G_nblt, G_room, G_roomN, G_int, G_bool, G_str, G_sl, G_own, toInt_int, toBool_bool, toStr_str, slXs_sl, cond_true, cond_false, G_true, Nat.add_zero])
    rw [if_pos (by omega)]
    refine ⟨by omega, by omega, ?_⟩
    have hp : ((pre ++ [x]).length : Int) = (pre.length : Int) + 1 := by simp
    split
    · rename_i e
      refine ⟨f0, f1, by omega, by simp; omega, ?_⟩
      have := F57.loop hs H post (pre ++ [x]) (out ++ [[AV.str (a0.extract f.toNat (pre.length : Int).toNat)]]) ((pre.length : Int) + 1) (by rw [h]; simp) (by omega) (by rw [hp]; omega) (by simp; omega) (fun xs hx => hQ xs (by
        rw [hx]
        simp only [List.length_append, List.length_singleton, cntB, List.countP_cons, decide_eq_true e, if_true]
        omega))
      rw [hp] at this
      exact this
    · rename_i e
      have := F57.loop hs H post (pre ++ [x]) out f (by rw [h]; simp) f0 (by rw [hp]; omega) (by simp; omega) (fun xs hx => hQ xs (by
        rw [hx]
        simp only [cntB, List.countP_cons, decide_eq_false e]
        simp))
      rw [hp] at this
      exact this
theorem F57.spec {a0 : ByteArray} {H : Heap} {Q : AV → Heap → Prop} (hs : a0.size ≤ 4096) (h : ∀ xs H, xs.length = cntB (bs a0) 47 + 1 → Q (.sl 0 1 xs) H) : C 57 [.str a0] H Q :=
  F57.call (F57.loop hs H (bs a0) [] [] 0 rfl (Int.le_refl _) (Int.le_refl _) (Nat.le_refl _) fun xs hx => h xs H (by simpa using hx))

/-- A topic name, of at most 64 bytes and 8 levels. -/
def sizedB (s : ByteArray) : Bool := decide (1 ≤ s.size) && (decide (s.size ≤ 64) && (!(hasB s 0) && decide (cntB (bs s) 47 + 1 ≤ 8)))
def topicB (s : ByteArray) : Bool := sizedB s && (!(hasB s 43) && !(hasB s 35))
theorem F53.spec {a0 : ByteArray} {H : Heap} {Q : AV → Heap → Prop} (h : ∀ H, Q (.bool (sizedB a0)) H) : C 53 [.str a0] H Q := by
  refine F53.call ?_
  unfold F53.t
  rw [sizeI_bs, ← bs_size]
  (simp only [cond_lt, cond_le, cond_eq, cond_eqS, cond_nblt, cond_nble, cond_ltS, cond_not, G_lt, G_le, G_eq, G_nble, G_nblt, G_room, G_roomN, G_int, G_bool, G_str, G_sl, G_own, toInt_int, toBool_bool, toStr_str, slXs_sl, cond_true, cond_false, G_true, Nat.add_zero])
  by_cases h1 : (1 : Int) ≤ a0.size
  · rw [if_pos h1]
    by_cases h2 : (a0.size : Int) ≤ 64
    · rw [if_pos h2]
      refine F54.spec (by omega) fun H' => ?_
      (simp only [cond_lt, cond_le, cond_eq, cond_eqS, cond_nblt, cond_nble, cond_ltS, cond_not, G_lt, G_le, G_eq, G_nble, G_nblt, G_room, G_roomN, G_int, G_bool, G_str, G_sl, G_own, toInt_int, toBool_bool, toStr_str, slXs_sl, cond_true, cond_false, G_true, Nat.add_zero])
      cases h3 : hasB a0 0
      · rw [cond_false]
        refine F57.spec (by omega) fun xs H' hx => ?_
        (simp only [cond_lt, cond_le, cond_eq, cond_eqS, cond_nblt, cond_nble, cond_ltS, cond_not, G_lt, G_le, G_eq, G_nble, G_nblt, G_room, G_roomN, G_int, G_bool, G_str, G_sl, G_own, toInt_int, toBool_bool, toStr_str, slXs_sl, cond_true, cond_false, G_true, Nat.add_zero])
        have := h (((H.past H').past H'))
        have e : leI (lenI xs) 8 = sizedB a0 := by
          have k1 : 1 ≤ a0.size := by omega
          have k2 : a0.size ≤ 64 := by omega
          simp only [sizedB, h3, k1, k2, decide_true, Bool.true_and, Bool.not_false, leI, lenI, hx]
          rw [decide_eq_decide]
          omega
        rw [e]
        exact h _
      · rw [cond_true]
        have e : sizedB a0 = false := by simp [sizedB, h3]
        have := h (H.past H')
        rwa [e] at this
    · rw [if_neg h2]
      have e : sizedB a0 = false := by
        have : ¬ a0.size ≤ 64 := by omega
        simp [sizedB, this]
      have := h H
      rwa [e] at this
  · rw [if_neg h1]
    have e : sizedB a0 = false := by
      have : ¬ 1 ≤ a0.size := by omega
      simp [sizedB, this]
    have := h H
    rwa [e] at this
theorem sizedB_le {s : ByteArray} (h : sizedB s = true) : s.size ≤ 64 := by
  simp only [sizedB, Bool.and_eq_true, decide_eq_true_eq] at h
  exact h.2.1
theorem F49.spec {a0 : ByteArray} {H : Heap} {Q : AV → Heap → Prop} (h : ∀ H, Q (.bool (topicB a0)) H) : C 49 [.str a0] H Q := by
  refine F49.call ?_
  unfold F49.t
  refine F53.spec fun H1 => ?_
  (simp only [cond_lt, cond_le, cond_eq, cond_eqS, cond_nblt, cond_nble, cond_ltS, cond_not, G_lt, G_le, G_eq, G_nble, G_nblt, G_room, G_roomN, G_int, G_bool, G_str, G_sl, G_own, toInt_int, toBool_bool, toStr_str, slXs_sl, cond_true, cond_false, G_true, Nat.add_zero])
  cases h1 : sizedB a0
  · rw [cond_false]
    have := h (H.past H1)
    rwa [topicB, h1] at this
  · have hs := sizedB_le h1
    rw [cond_true]
    refine F54.spec (by omega) fun H2 => ?_
    (simp only [cond_lt, cond_le, cond_eq, cond_eqS, cond_nblt, cond_nble, cond_ltS, cond_not, G_lt, G_le, G_eq, G_nble, G_nblt, G_room, G_roomN, G_int, G_bool, G_str, G_sl, G_own, toInt_int, toBool_bool, toStr_str, slXs_sl, cond_true, cond_false, G_true, Nat.add_zero])
    cases h2 : hasB a0 43
    · rw [cond_false]
      refine F54.spec (by omega) fun H3 => ?_
      (simp only [cond_lt, cond_le, cond_eq, cond_eqS, cond_nblt, cond_nble, cond_ltS, cond_not, G_lt, G_le, G_eq, G_nble, G_nblt, G_room, G_roomN, G_int, G_bool, G_str, G_sl, G_own, toInt_int, toBool_bool, toStr_str, slXs_sl, cond_true, cond_false, G_true, Nat.add_zero])
      have := h (H.past H3)
      rw [topicB, h1, h2] at this
      simpa using this
    · rw [cond_true]
      have := h (H.past H2)
      rw [topicB, h1, h2] at this
      simpa using this

/-! topic.Valid -/
theorem any_high {s : ByteArray} {p : UInt8 → Bool} (hp : ∀ b : UInt8, 128 ≤ b.toNat → p b = false) : ∀ (w i : Nat), i + w ≤ s.size → (∀ k, i ≤ k → k < i + w → 128 ≤ (s.get! k).toNat) → ((bs s).drop i).countP p = ((bs s).drop (i + w)).countP p
  | 0, i, _, _ => rfl
  | w + 1, i, h1, h2 => by
    have hi : i < (bs s).length := by rw [← bs_size]; omega
    rw [List.drop_eq_getElem_cons hi, List.countP_cons]
    have := h2 i (Nat.le_refl _) (by omega)
    rw [get_bs (by omega)] at this
    rw [hp _ this, any_high hp w (i + 1) (by omega) (fun k a b => h2 k (by omega) (by omega))]
    simp only [Bool.false_eq_true, if_false, Nat.add_zero]
    congr 2
    omega
theorem high_ne {c : Int} (hc : c < 128) (b : UInt8) (h : 128 ≤ b.toNat) : decide ((b.toNat : Int) = c) = false := by simp; omega
theorem F55.loop {a0 : ByteArray} {Q : AV → Heap → Prop} (hs : a0.size ≤ 4096) (H : Heap) : ∀ (n i : Nat) (k : Int), n = a0.size - i → i ≤ a0.size → 0 ≤ k → k ≤ i + 1 →
    Q (.bool (decide (cntB ((bs a0).drop i) 0 = 0) && decide (k + cntB ((bs a0).drop i) 47 ≤ 8))) H → F55.L0 a0 Q k i H := by
  intro n
  induction n using Nat.strongRecOn with
  | ind n ih =>
    intro i k hn hi k0 k1 hQ
    refine F55.L0_step ?_
    unfold F55.r0
    (simp only [cond_lt, cond_le, cond_eq, cond_eqS, cond_nblt, cond_nble, cond_ltS, cond_not, G_lt, G_le, G_eq, G_nble, G_nblt, G_room, G_roomN, G_int, G_bool, G_str, G_sl, G_own, toInt_int, toBool_bool, toStr_str, slXs_sl, cond_true, cond_false, G_true, Nat.add_zero])
    by_cases hlt : i < a0.size
    · rw [if_pos hlt]
      have hl : i < (bs a0).length := by rw [← bs_size]; exact hlt
      have hd := List.drop_eq_getElem_cons hl
      by_cases ha : ((bs a0)[i]'hl).toNat < 128
      · rw [decode_at_ascii hlt ha]
        simp only
        rw [hd] at hQ
        simp only [cntB, List.countP_cons] at hQ
        by_cases h0 : (((bs a0)[i]'hl).toNat : Int) = 0
        · rw [if_pos h0]
          rw [decide_eq_true h0] at hQ
          simpa using hQ
        · rw [if_neg h0]
          rw [decide_eq_false h0] at hQ
          simp only [Bool.false_eq_true, if_false, Nat.add_zero] at hQ
          by_cases h47 : (((bs a0)[i]'hl).toNat : Int) = 47
          · rw [if_pos h47, addW_eq (by omega) (by omega)]
            rw [decide_eq_true h47] at hQ
            refine ih (a0.size - (i + 1)) (by omega) (i + 1) (k + 1) rfl (by omega) (by omega) (by omega) ?_
            simp only [if_true] at hQ
            have e : k + 1 + (cntB ((bs a0).drop (i + 1)) 47 : Int) = k + ((List.countP (fun b => decide ((b.toNat : Int) = 47)) ((bs a0).drop (i + 1)) + 1 : Nat) : Int) := by simp only [cntB]; omega
            rw [e]
            exact hQ
          · rw [if_neg h47]
            rw [decide_eq_false h47] at hQ
            simp only [Bool.false_eq_true, if_false, Nat.add_zero] at hQ
            exact ih (a0.size - (i + 1)) (by omega) (i + 1) k rfl (by omega) k0 (by omega) hQ
      · obtain ⟨r1, r2, r3, r4⟩ := decode_at_high hlt (by omega)
        rw [if_neg (by omega), if_neg (by omega)]
        unfold cntB at hQ
        rw [any_high (high_ne (by omega)) _ i r3 r4, any_high (high_ne (c := 47) (by omega)) _ i r3 r4] at hQ
        exact ih (a0.size - (i + (Utf8.decode a0 i).2)) (by omega) (i + (Utf8.decode a0 i).2) k rfl r3 k0 (by omega) hQ
    · rw [if_neg hlt]
      have : (bs a0).drop i = [] := by rw [List.drop_eq_nil_iff, ← bs_size]; omega
      rw [this] at hQ
      simpa [cntB, leI] using hQ
theorem hasB_cnt (s : ByteArray) (c : Int) : hasB s c = !(decide (cntB (bs s) c = 0)) := by
  unfold hasB cntB
  generalize bs s = l
  induction l with
  | nil => rfl
  | cons x l ih =>
    rw [List.any_cons, ih, List.countP_cons]
    by_cases h : (x.toNat : Int) = c
    · simp [h]
    · simp [h]
theorem F55.spec {a0 : ByteArray} {H : Heap} {Q : AV → Heap → Prop} (h : ∀ H, Q (.bool (sizedB a0)) H) : C 55 [.str a0] H Q := by
  refine F55.call ?_
  unfold F55.t
  rw [sizeI_bs, ← bs_size]
  (simp only [cond_lt, cond_le, cond_eq, cond_eqS, cond_nblt, cond_nble, cond_ltS, cond_not, G_lt, G_le, G_eq, G_nble, G_nblt, G_room, G_roomN, G_int, G_bool, G_str, G_sl, G_own, toInt_int, toBool_bool, toStr_str, slXs_sl, cond_true, cond_false, G_true, Nat.add_zero])
  by_cases h1 : (a0.size : Int) < 1
  · rw [if_pos h1]
    have e : sizedB a0 = false := by
      have : ¬ 1 ≤ a0.size := by omega
      simp [sizedB, this]
    have := h H
    rwa [e] at this
  · rw [if_neg h1]
    by_cases h2 : (64 : Int) < a0.size
    · rw [if_pos h2]
      have e : sizedB a0 = false := by
        have : ¬ a0.size ≤ 64 := by omega
        simp [sizedB, this]
      have := h H
      rwa [e] at this
    · rw [if_neg h2]
      refine F55.loop (by omega) H _ 0 1 rfl (by omega) (by omega) (by omega) ?_
      have := h H
      have e : sizedB a0 = (decide (cntB ((bs a0).drop 0) 0 = 0) && decide ((1 : Int) + cntB ((bs a0).drop 0) 47 ≤ 8)) := by
        have k1 : 1 ≤ a0.size := by omega
        have k2 : a0.size ≤ 64 := by omega
        simp only [sizedB, k1, k2, decide_true, Bool.true_and, hasB_cnt, Bool.not_not, List.drop_zero]
        congr 1
        rw [decide_eq_decide]
        omega
      rwa [e] at this
theorem F50.loop {a0 : ByteArray} {Q : AV → Heap → Prop} (H : Heap) : ∀ (n i : Nat), n = a0.size - i → i ≤ a0.size →
    Q (.bool (decide (cntB ((bs a0).drop i) 43 = 0) && decide (cntB ((bs a0).drop i) 35 = 0))) H → F50.L0 a0 Q i H := by
  intro n
  induction n using Nat.strongRecOn with
  | ind n ih =>
    intro i hn hi hQ
    refine F50.L0_step ?_
    unfold F50.r0
    (simp only [cond_lt, cond_le, cond_eq, cond_eqS, cond_nblt, cond_nble, cond_ltS, cond_not, G_lt, G_le, G_eq, G_nble, G_nblt, G_room, G_roomN, G_int, G_bool, G_str, G_sl, G_own, toInt_int, toBool_bool, toStr_str, slXs_sl, cond_true, cond_false, G_true, Nat.add_zero])
    by_cases hlt : i < a0.size
    · rw [if_pos hlt]
      have hl : i < (bs a0).length := by rw [← bs_size]; exact hlt
      have hd := List.drop_eq_getElem_cons hl
      by_cases ha : ((bs a0)[i]'hl).toNat < 128
      · rw [decode_at_ascii hlt ha]
        simp only
        rw [hd] at hQ
        simp only [cntB, List.countP_cons] at hQ
        by_cases h0 : (((bs a0)[i]'hl).toNat : Int) = 43
        · rw [if_pos h0]
          rw [decide_eq_true h0] at hQ
          simpa using hQ
        · rw [if_neg h0]
          rw [decide_eq_false h0] at hQ
          by_cases h1 : (((bs a0)[i]'hl).toNat : Int) = 35
          · rw [if_pos h1]
            rw [decide_eq_true h1] at hQ
            simpa using hQ
          · rw [if_neg h1]
            rw [decide_eq_false h1] at hQ
            simp only [Bool.false_eq_true, if_false, Nat.add_zero] at hQ
            exact ih (a0.size - (i + 1)) (by omega) (i + 1) rfl (by omega) hQ
      · obtain ⟨r1, r2, r3, r4⟩ := decode_at_high hlt (by omega)
        rw [if_neg (by omega), if_neg (by omega)]
        unfold cntB at hQ
        rw [any_high (high_ne (by omega)) _ i r3 r4, any_high (high_ne (c := 35) (by omega)) _ i r3 r4] at hQ
        exact ih (a0.size - (i + (Utf8.decode a0 i).2)) (by omega) (i + (Utf8.decode a0 i).2) rfl r3 hQ
    · rw [if_neg hlt]
      have : (bs a0).drop i = [] := by rw [List.drop_eq_nil_iff, ← bs_size]; omega
      rw [this] at hQ
      simpa [cntB] using hQ
theorem F50.spec {a0 : ByteArray} {H : Heap} {Q : AV → Heap → Prop} (h : ∀ H, Q (.bool (topicB a0)) H) : C 50 [.str a0] H Q := by
  refine F50.call ?_
  unfold F50.t
  refine F55.spec fun H1 => ?_
  (simp only [cond_lt, cond_le, cond_eq, cond_eqS, cond_nblt, cond_nble, cond_ltS, cond_not, G_lt, G_le, G_eq, G_nble, G_nblt, G_room, G_roomN, G_int, G_bool, G_str, G_sl, G_own, toInt_int, toBool_bool, toStr_str, slXs_sl, cond_true, cond_false, G_true, Nat.add_zero])
  cases h1 : sizedB a0
  · rw [cond_false]
    have := h (H.past H1)
    rwa [topicB, h1] at this
  · rw [cond_true]
    refine F50.loop (H.past H1) _ 0 rfl (by omega) ?_
    have := h (H.past H1)
    rw [topicB, h1, hasB_cnt, hasB_cnt] at this
    simpa using this
end Go.Proofs.Ytkjmkhgaghighaa.Ab
