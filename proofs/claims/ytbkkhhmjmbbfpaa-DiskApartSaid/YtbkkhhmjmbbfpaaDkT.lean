/- Disk: names. -/
import Derived.Test.YtbkkhhmjmbbfpaaTrP
import Derived.Test.YtbkkhhmjmbbfpaaAbPs
import Derived.Test.YtbkkhhmjmbbfpaaAbLaw
namespace Go.Proofs.Ytbkkhhmjmbbfpaa.Ab
open Go
set_option linter.unusedSimpArgs false

def lowN (n : Nat) : Bool := decide (97 ≤ n) && decide (n ≤ 122)
def digN (n : Nat) : Bool := decide (48 ≤ n) && decide (n ≤ 57)
def keyN (n : Nat) : Bool := lowN n || (digN n || decide (n = 45))
def keyL (l : List UInt8) : Bool := l.all fun b => keyN b.toNat
def headL : List UInt8 → Bool
  | [] => true
  | b :: _ => lowN b.toNat
def nameB (s : ByteArray) : Bool := decide (1 ≤ s.size) && (decide (s.size ≤ 16) && (headL (bs s) && keyL (bs s)))
def keyB (s : ByteArray) : Bool := decide (1 ≤ s.size) && (decide (s.size ≤ 16) && keyL (bs s))
theorem key_cases (n : Nat) : (97 ≤ n ∧ n ≤ 122 ∧ keyN n = true ∧ lowN n = true ∧ digN n = false) ∨ (122 < n ∧ keyN n = false ∧ lowN n = false ∧ digN n = false) ∨ (48 ≤ n ∧ n ≤ 57 ∧ keyN n = true ∧ lowN n = false ∧ digN n = true) ∨
    (n = 45 ∧ keyN n = true ∧ lowN n = false ∧ digN n = false) ∨ (n < 48 ∧ n ≠ 45 ∧ keyN n = false ∧ lowN n = false ∧ digN n = false) ∨ (57 < n ∧ n < 97 ∧ keyN n = false ∧ lowN n = false ∧ digN n = false) := by
  simp only [keyN, lowN, digN, Bool.or_eq_true, Bool.and_eq_true, decide_eq_true_eq, Bool.or_eq_false_iff, Bool.and_eq_false_iff, decide_eq_false_iff_not]
  omega
theorem F37.eq (n : Nat) : F37.P (n : Int) = some (.bool (lowN n)) := by
  unfold F37.P
  (simp (disch := first | omega | rfl) only [PS, ite_t, ite_f, ↓bind_s, List.length_cons, List.length_nil, addW_eq, subW_eq, if_pos, if_neg])
  by_cases h : 97 ≤ n
  · rw [if_pos (by omega)]; simp [lowN, leI, h]; omega
  · rw [if_neg (by omega)]; simp [lowN, h]
theorem F38.eq (n : Nat) : F38.P (n : Int) = some (.bool (digN n)) := by
  unfold F38.P
  (simp (disch := first | omega | rfl) only [PS, ite_t, ite_f, ↓bind_s, List.length_cons, List.length_nil, addW_eq, subW_eq, if_pos, if_neg])
  by_cases h : 48 ≤ n
  · rw [if_pos (by omega)]; simp [digN, leI, h]; omega
  · rw [if_neg (by omega)]; simp [digN, h]
theorem bs_pos {s : ByteArray} (h : 1 ≤ s.size) : ∃ b r, bs s = b :: r := by
  cases e : bs s with
  | nil => rw [bs_size, e] at h; simp at h
  | cons b r => exact ⟨b, r, rfl⟩
theorem F31.loop {s : ByteArray} (hs : s.size ≤ 16) : ∀ (post pre : List UInt8), bs s = pre ++ post → Ev (fun n => F31.PL s n (.l0 (pre.length : Int))) (.bool (keyL post))
  | [], pre, h => by
    have hl := len_end h
    refine Ev.succ ?_
    simp only [F31.PL, sizeI_bs]
    (simp (disch := first | omega | rfl) only [PS, ite_t, ite_f, ↓bind_s, List.length_cons, List.length_nil, addW_eq, subW_eq, if_pos, if_neg])
    exact Ev.const
  | b :: post, pre, h => by
    have hl := len_mid h
    have hz : (bs s).length ≤ 16 := by rw [← bs_size]; exact hs
    have ih := F31.loop hs post (pre ++ [b]) (by rw [h]; simp)
    have e1 : (pre.length : Int) + 1 = ((pre ++ [b]).length : Int) := by simp
    refine Ev.succ ?_
    simp only [F31.PL, sizeI_bs, bt_mid h, F37.eq, F38.eq]
    (simp (disch := first | omega | rfl) only [PS, ite_t, ite_f, ↓bind_s, List.length_cons, List.length_nil, addW_eq, subW_eq, if_pos, if_neg])
    rcases key_cases b.toNat with ⟨q1, q2, k1, k2, k3⟩ | ⟨q1, k1, k2, k3⟩ | ⟨q1, q2, k1, k2, k3⟩ | ⟨q1, k1, k2, k3⟩ | ⟨q1, q2, k1, k2, k3⟩ | ⟨q1, q2, k1, k2, k3⟩ <;> simp only [k2, k3, keyL, List.all_cons, k1] <;> (simp (disch := first | omega | rfl) only [PS, ite_t, ite_f, ↓bind_s, List.length_cons, List.length_nil, addW_eq, subW_eq, if_pos, if_neg]) <;> refine Ev.succ ?_ <;> simp only [F31.PL, eqI] <;> (simp (disch := first | omega | rfl) only [PS, ite_t, ite_f, ↓bind_s, List.length_cons, List.length_nil, addW_eq, subW_eq, if_pos, if_neg]) <;>
      first | (rw [e1]; exact ih) | exact Ev.const
theorem F31.eq (s : ByteArray) : F31.P s = some (.bool (nameB s)) := by
  refine lim_eq ?_
  unfold nameB
  by_cases h1 : 1 ≤ s.size
  · by_cases h2 : s.size ≤ 16
    · obtain ⟨b, r, hb⟩ := bs_pos h1
      have e0 : bt s 0 = (b.toNat : Int) := bt_mid (pre := []) hb
      have ih := F31.loop h2 (bs s) [] rfl
      have hz : sizeI s = (s.size : Int) := rfl
      simp only [hz, e0, F37.eq, hb, headL, h1, h2]
      (simp (disch := first | omega | rfl) only [PS, ite_t, ite_f, ↓bind_s, List.length_cons, List.length_nil, addW_eq, subW_eq, if_pos, if_neg])
      refine Ev.succ ?_
      simp only [F31.PL]
      rw [hb] at ih
      cases hl : lowN b.toNat <;> (simp (disch := first | omega | rfl) only [PS, ite_t, ite_f, ↓bind_s, List.length_cons, List.length_nil, addW_eq, subW_eq, if_pos, if_neg])
      · simpa using Ev.const
      · simpa using ih
    · have hz : sizeI s = (s.size : Int) := rfl
      simp only [hz]
      (simp (disch := first | omega | rfl) only [PS, ite_t, ite_f, ↓bind_s, List.length_cons, List.length_nil, addW_eq, subW_eq, if_pos, if_neg])
      refine Ev.succ ?_
      simp only [F31.PL, h2]
      (simp (disch := first | omega | rfl) only [PS, ite_t, ite_f, ↓bind_s, List.length_cons, List.length_nil, addW_eq, subW_eq, if_pos, if_neg])
      simpa using Ev.const
  · have hz : sizeI s = (s.size : Int) := rfl
    simp only [hz]
    (simp (disch := first | omega | rfl) only [PS, ite_t, ite_f, ↓bind_s, List.length_cons, List.length_nil, addW_eq, subW_eq, if_pos, if_neg])
    refine Ev.succ ?_
    simp only [F31.PL, h1]
    (simp (disch := first | omega | rfl) only [PS, ite_t, ite_f, ↓bind_s, List.length_cons, List.length_nil, addW_eq, subW_eq, if_pos, if_neg])
    simpa using Ev.const
/-! topic.Name -/
theorem high_key {b : UInt8} (h : 128 ≤ b.toNat) : keyN b.toNat = false ∧ lowN b.toNat = false := by
  rcases key_cases b.toNat with ⟨q1, q2, k1, k2, k3⟩ | ⟨q1, k1, k2, k3⟩ | ⟨q1, q2, k1, k2, k3⟩ | ⟨q1, k1, k2, k3⟩ | ⟨q1, q2, k1, k2, k3⟩ | ⟨q1, q2, k1, k2, k3⟩ <;> first | exact ⟨k1, k2⟩ | omega
theorem F20.loop {s : ByteArray} : ∀ (n i : Nat), n = s.size - i → i ≤ s.size →
    Ev (fun m => F20.PL s m (.l0 i)) (.bool ((decide (i ≠ 0) || headL ((bs s).drop i)) && keyL ((bs s).drop i))) := by
  intro n
  induction n using Nat.strongRecOn with
  | ind n ih =>
    intro i hn hi
    refine Ev.succ ?_
    simp only [F20.PL]
    by_cases hlt : i < s.size
    · have hl : i < (bs s).length := by rw [← bs_size]; exact hlt
      have hd := List.drop_eq_getElem_cons hl
      rw [hd]
      generalize hb : (bs s)[i]'hl = b at hd
      simp only [headL, keyL, List.all_cons]
      by_cases ha : b.toNat < 128
      · rw [decode_at_ascii hlt (by rw [hb]; exact ha), hb]
        simp only
        have ih1 := ih (s.size - (i + 1)) (by omega) (i + 1) rfl (by omega)
        simp only [keyL] at ih1
        rcases key_cases b.toNat with ⟨q1, q2, k1, k2, k3⟩ | ⟨q1, k1, k2, k3⟩ | ⟨q1, q2, k1, k2, k3⟩ | ⟨q1, k1, k2, k3⟩ | ⟨q1, q2, k1, k2, k3⟩ | ⟨q1, q2, k1, k2, k3⟩ <;> simp only [k1, k2] <;> (simp (disch := first | omega | rfl) only [PS, ite_t, ite_f, ↓bind_s, List.length_cons, List.length_nil, addW_eq, subW_eq, if_pos, if_neg]) <;>
          first | (simpa using ih1) | (by_cases h0 : i = 0 <;> (simp (disch := first | omega | rfl) only [PS, ite_t, ite_f, ↓bind_s, List.length_cons, List.length_nil, addW_eq, subW_eq, if_pos, if_neg]) <;> first | (simp [h0]; exact Ev.const) | (simpa [h0] using ih1))
      · obtain ⟨r1, r2, r3, r4⟩ := decode_at_high hlt (by rw [hb]; omega)
        obtain ⟨k1, k2⟩ := high_key (b := b) (by omega)
        simp only [k1, k2]
        (simp (disch := first | omega | rfl) only [PS, ite_t, ite_f, ↓bind_s, List.length_cons, List.length_nil, addW_eq, subW_eq, if_pos, if_neg])
        by_cases h0 : i = 0 <;> (simp (disch := first | omega | rfl) only [PS, ite_t, ite_f, ↓bind_s, List.length_cons, List.length_nil, addW_eq, subW_eq, if_pos, if_neg]) <;> simp [h0] <;> exact Ev.const
    · have : (bs s).drop i = [] := by rw [List.drop_eq_nil_iff, ← bs_size]; omega
      rw [this]
      (simp (disch := first | omega | rfl) only [PS, ite_t, ite_f, ↓bind_s, List.length_cons, List.length_nil, addW_eq, subW_eq, if_pos, if_neg])
      simpa [headL, keyL] using Ev.const
theorem F20.eq (s : ByteArray) : F20.P s = some (.bool (nameB s)) := by
  refine lim_eq ?_
  unfold nameB
  have hz : sizeI s = (s.size : Int) := rfl
  simp only [hz]
  by_cases h1 : 1 ≤ s.size
  · by_cases h2 : s.size ≤ 16
    · simp only [h1, h2]
      (simp (disch := first | omega | rfl) only [PS, ite_t, ite_f, ↓bind_s, List.length_cons, List.length_nil, addW_eq, subW_eq, if_pos, if_neg])
      simpa using F20.loop s.size 0 rfl (by omega)
    · simp only [h2]
      (simp (disch := first | omega | rfl) only [PS, ite_t, ite_f, ↓bind_s, List.length_cons, List.length_nil, addW_eq, subW_eq, if_pos, if_neg])
      simpa using Ev.const
  · simp only [h1]
    (simp (disch := first | omega | rfl) only [PS, ite_t, ite_f, ↓bind_s, List.length_cons, List.length_nil, addW_eq, subW_eq, if_pos, if_neg])
    simpa using Ev.const

end Go.Proofs.Ytbkkhhmjmbbfpaa.Ab
