/- Dead: names, keys and topics. -/
import Derived.Test.YtlaieomjooeofaaDoorTrP
import Derived.Test.YtlaieomjooeofaaDoorAbPs
import Derived.Test.YtlaieomjooeofaaDoorAbLaw
namespace Go.Proofs.YtlaieomjooeofaaDoor.Ab
open Go
set_option linter.unusedSimpArgs false

def lowN (n : Nat) : Bool := decide (97 ≤ n) && decide (n ≤ 122)
def digN (n : Nat) : Bool := decide (48 ≤ n) && decide (n ≤ 57)
def keyN (n : Nat) : Bool := lowN n || (digN n || decide (n = 45))
def keyL (l : List UInt8) : Bool := l.all fun b => keyN b.toNat
def headL : List UInt8 → Bool
  | [] => true
  | b :: _ => lowN b.toNat
def nameB (s : ByteArray) : Bool := decide (1 ≤ s.size) && (decide (s.size ≤ 16) && (headL (bs s) && keyL (bs s)))
def keyB (s : ByteArray) : Bool := decide (1 ≤ s.size) && (decide (s.size ≤ 16) && keyL (bs s))
theorem key_cases (n : Nat) : (97 ≤ n ∧ n ≤ 122 ∧ keyN n = true ∧ lowN n = true ∧ digN n = false) ∨ (122 < n ∧ keyN n = false ∧ lowN n = false ∧ digN n = false) ∨ (48 ≤ n ∧ n ≤ 57 ∧ keyN n = true ∧ lowN n = false ∧ digN n = true) ∨
    (n = 45 ∧ keyN n = true ∧ lowN n = false ∧ digN n = false) ∨ (n < 48 ∧ n ≠ 45 ∧ keyN n = false ∧ lowN n = false ∧ digN n = false) ∨ (57 < n ∧ n < 97 ∧ keyN n = false ∧ lowN n = false ∧ digN n = false) := by
  simp only [keyN, lowN, digN, Bool.or_eq_true, Bool.and_eq_true, decide_eq_true_eq, Bool.or_eq_false_iff, Bool.and_eq_false_iff, decide_eq_false_iff_not]
  omega
theorem F42.eq (n : Nat) : F42.P (n : Int) = some (.bool (lowN n)) := by
  unfold F42.P
  (simp (disch := first | omega | rfl) only [PS, ite_t, ite_f, ↓bind_s, List.length_cons, List.length_nil, addW_eq, subW_eq, if_pos, if_neg])
  by_cases h : 97 ≤ n
  · rw [if_pos (by omega)]; simp [lowN, leI, h]; omega
  · rw [if_neg (by omega)]; simp [lowN, h]
theorem F43.eq (n : Nat) : F43.P (n : Int) = some (.bool (digN n)) := by
  unfold F43.P
  (simp (disch := first | omega | rfl) only [PS, ite_t, ite_f, ↓bind_s, List.length_cons, List.length_nil, addW_eq, subW_eq, if_pos, if_neg])
  by_cases h : 48 ≤ n
  · rw [if_pos (by omega)]; simp [digN, leI, h]; omega
  · rw [if_neg (by omega)]; simp [digN, h]
theorem bs_pos {s : ByteArray} (h : 1 ≤ s.size) : ∃ b r, bs s = b :: r := by
  cases e : bs s with
  | nil => rw [bs_size, e] at h; simp at h
  | cons b r => exact ⟨b, r, rfl⟩
theorem F25.loop {s : ByteArray} (hs : s.size ≤ 16) : ∀ (post pre : List UInt8), bs s = pre ++ post → Ev (fun n => F25.PL s n (.l0 (pre.length : Int))) (.bool (keyL post))
  | [], pre, h => by
    have hl := len_end h
    refine Ev.succ ?_
    simp only [F25.PL, sizeI_bs]
    (simp (disch := first | omega | rfl) only [PS, ite_t, ite_f, ↓bind_s, List.length_cons, List.length_nil, addW_eq, subW_eq, if_pos, if_neg])
    exact Ev.const
  | b :: post, pre, h => by
    have hl := len_mid h
    have hz : (bs s).length ≤ 16 := by rw [← bs_size]; exact hs
    have ih := F25.loop hs post (pre ++ [b]) (by rw [h]; simp)
    have e1 : (pre.length : Int) + 1 = ((pre ++ [b]).length : Int) := by simp
    refine Ev.succ ?_
    simp only [F25.PL, sizeI_bs, bt_mid h, F42.eq, F43.eq]
    (simp (disch := first | omega | rfl) only [PS, ite_t, ite_f, ↓bind_s, List.length_cons, List.length_nil, addW_eq, subW_eq, if_pos, if_neg])
    rcases key_cases b.toNat with ⟨q1, q2, k1, k2, k3⟩ | ⟨q1, k1, k2, k3⟩ | ⟨q1, q2, k1, k2, k3⟩ | ⟨q1, k1, k2, k3⟩ | ⟨q1, q2, k1, k2, k3⟩ | ⟨q1, q2, k1, k2, k3⟩ <;> simp only [k2, k3, keyL, List.all_cons, k1] <;> (simp (disch := first | omega | rfl) only [PS, ite_t, ite_f, ↓bind_s, List.length_cons, List.length_nil, addW_eq, subW_eq, if_pos, if_neg]) <;> refine Ev.succ ?_ <;> simp only [F25.PL, eqI] <;> (simp (disch := first | omega | rfl) only [PS, ite_t, ite_f, ↓bind_s, List.length_cons, List.length_nil, addW_eq, subW_eq, if_pos, if_neg]) <;>
      first | (rw [e1]; exact ih) | exact Ev.const
theorem F25.eq (s : ByteArray) : F25.P s = some (.bool (nameB s)) := by
  refine lim_eq ?_
  unfold nameB
  by_cases h1 : 1 ≤ s.size
  · by_cases h2 : s.size ≤ 16
    · obtain ⟨b, r, hb⟩ := bs_pos h1
      have e0 : bt s 0 = (b.toNat : Int) := bt_mid (pre := []) hb
      have ih := F25.loop h2 (bs s) [] rfl
      have hz : sizeI s = (s.size : Int) := rfl
      simp only [hz, e0, F42.eq, hb, headL, h1, h2]
      (simp (disch := first | omega | rfl) only [PS, ite_t, ite_f, ↓bind_s, List.length_cons, List.length_nil, addW_eq, subW_eq, if_pos, if_neg])
      refine Ev.succ ?_
      simp only [F25.PL]
      rw [hb] at ih
      cases hl : lowN b.toNat <;> (simp (disch := first | omega | rfl) only [PS, ite_t, ite_f, ↓bind_s, List.length_cons, List.length_nil, addW_eq, subW_eq, if_pos, if_neg])
      · simpa using Ev.const
      · simpa using ih
    · have hz : sizeI s = (s.size : Int) := rfl
      simp only [hz]
      (simp (disch := first | omega | rfl) only [PS, ite_t, ite_f, ↓bind_s, List.length_cons, List.length_nil, addW_eq, subW_eq, if_pos, if_neg])
      refine Ev.succ ?_
      simp only [F25.PL, h2]
      (simp (disch := first | omega | rfl) only [PS, ite_t, ite_f, ↓bind_s, List.length_cons, List.length_nil, addW_eq, subW_eq, if_pos, if_neg])
      simpa using Ev.const
  · have hz : sizeI s = (s.size : Int) := rfl
    simp only [hz]
    (simp (disch := first | omega | rfl) only [PS, ite_t, ite_f, ↓bind_s, List.length_cons, List.length_nil, addW_eq, subW_eq, if_pos, if_neg])
    refine Ev.succ ?_
    simp only [F25.PL, h1]
    (simp (disch := first | omega | rfl) only [PS, ite_t, ite_f, ↓bind_s, List.length_cons, List.length_nil, addW_eq, subW_eq, if_pos, if_neg])
    simpa using Ev.const
theorem F65.loop {s : ByteArray} (hs : s.size ≤ 16) : ∀ (post pre : List UInt8), bs s = pre ++ post → Ev (fun n => F65.PL s n (.l0 (pre.length : Int))) (.bool (keyL post))
  | [], pre, h => by
    have hl := len_end h
    refine Ev.succ ?_
    simp only [F65.PL, sizeI_bs]
    (simp (disch := first | omega | rfl) only [PS, ite_t, ite_f, ↓bind_s, List.length_cons, List.length_nil, addW_eq, subW_eq, if_pos, if_neg])
    exact Ev.const
  | b :: post, pre, h => by
    have hl := len_mid h
    have hz : (bs s).length ≤ 16 := by rw [← bs_size]; exact hs
    have ih := F65.loop hs post (pre ++ [b]) (by rw [h]; simp)
    have e1 : (pre.length : Int) + 1 = ((pre ++ [b]).length : Int) := by simp
    refine Ev.succ ?_
    simp only [F65.PL, sizeI_bs, bt_mid h]
    (simp (disch := first | omega | rfl) only [PS, ite_t, ite_f, ↓bind_s, List.length_cons, List.length_nil, addW_eq, subW_eq, if_pos, if_neg])
    rcases key_cases b.toNat with ⟨q1, q2, k1, k2, k3⟩ | ⟨q1, k1, k2, k3⟩ | ⟨q1, q2, k1, k2, k3⟩ | ⟨q1, k1, k2, k3⟩ | ⟨q1, q2, k1, k2, k3⟩ | ⟨q1, q2, k1, k2, k3⟩ <;> simp only [keyL, List.all_cons, k1] <;> (simp (disch := first | omega | rfl) only [PS, ite_t, ite_f, ↓bind_s, List.length_cons, List.length_nil, addW_eq, subW_eq, if_pos, if_neg]) <;> refine Ev.succ ?_ <;> simp only [F65.PL, eqI] <;> (simp (disch := first | omega | rfl) only [PS, ite_t, ite_f, ↓bind_s, List.length_cons, List.length_nil, addW_eq, subW_eq, if_pos, if_neg]) <;>
      first | (rw [e1]; exact ih) | exact Ev.const
theorem F65.eq (s : ByteArray) : F65.P s = some (.bool (keyB s)) := by
  refine lim_eq ?_
  unfold keyB
  have hz : sizeI s = (s.size : Int) := rfl
  simp only [hz]
  by_cases h1 : 1 ≤ s.size
  · by_cases h2 : s.size ≤ 16
    · simp only [h1, h2]
      (simp (disch := first | omega | rfl) only [PS, ite_t, ite_f, ↓bind_s, List.length_cons, List.length_nil, addW_eq, subW_eq, if_pos, if_neg])
      simpa using F65.loop h2 (bs s) [] rfl
    · simp only [h2]
      (simp (disch := first | omega | rfl) only [PS, ite_t, ite_f, ↓bind_s, List.length_cons, List.length_nil, addW_eq, subW_eq, if_pos, if_neg])
      simpa using Ev.const
  · simp only [h1]
    (simp (disch := first | omega | rfl) only [PS, ite_t, ite_f, ↓bind_s, List.length_cons, List.length_nil, addW_eq, subW_eq, if_pos, if_neg])
    simpa using Ev.const
theorem F56.loop {s : ByteArray} (hs : s.size ≤ 16) : ∀ (post pre : List UInt8), bs s = pre ++ post → Ev (fun n => F56.PL s n (.l0 (pre.length : Int))) (.bool (keyL post))
  | [], pre, h => by
    have hl := len_end h
    refine Ev.succ ?_
    simp only [F56.PL, sizeI_bs]
    (simp (disch := first | omega | rfl) only [PS, ite_t, ite_f, ↓bind_s, List.length_cons, List.length_nil, addW_eq, subW_eq, if_pos, if_neg])
    exact Ev.const
  | b :: post, pre, h => by
    have hl := len_mid h
    have hz : (bs s).length ≤ 16 := by rw [← bs_size]; exact hs
    have ih := F56.loop hs post (pre ++ [b]) (by rw [h]; simp)
    have e1 : (pre.length : Int) + 1 = ((pre ++ [b]).length : Int) := by simp
    refine Ev.succ ?_
    simp only [F56.PL, sizeI_bs, bt_mid h]
    (simp (disch := first | omega | rfl) only [PS, ite_t, ite_f, ↓bind_s, List.length_cons, List.length_nil, addW_eq, subW_eq, if_pos, if_neg])
    rcases key_cases b.toNat with ⟨q1, q2, k1, k2, k3⟩ | ⟨q1, k1, k2, k3⟩ | ⟨q1, q2, k1, k2, k3⟩ | ⟨q1, k1, k2, k3⟩ | ⟨q1, q2, k1, k2, k3⟩ | ⟨q1, q2, k1, k2, k3⟩ <;> simp only [keyL, List.all_cons, k1] <;> (simp (disch := first | omega | rfl) only [PS, ite_t, ite_f, ↓bind_s, List.length_cons, List.length_nil, addW_eq, subW_eq, if_pos, if_neg]) <;> refine Ev.succ ?_ <;> simp only [F56.PL, eqI] <;> (simp (disch := first | omega | rfl) only [PS, ite_t, ite_f, ↓bind_s, List.length_cons, List.length_nil, addW_eq, subW_eq, if_pos, if_neg]) <;>
      first | (rw [e1]; exact ih) | exact Ev.const
theorem F56.eq (s : ByteArray) : F56.P s = some (.bool (keyB s)) := by
  refine lim_eq ?_
  unfold keyB
  have hz : sizeI s = (s.size : Int) := rfl
  simp only [hz]
  by_cases h1 : 1 ≤ s.size
  · by_cases h2 : s.size ≤ 16
    · simp only [h1, h2]
      (simp (disch := first | omega | rfl) only [PS, ite_t, ite_f, ↓bind_s, List.length_cons, List.length_nil, addW_eq, subW_eq, if_pos, if_neg])
      simpa using F56.loop h2 (bs s) [] rfl
    · simp only [h2]
      (simp (disch := first | omega | rfl) only [PS, ite_t, ite_f, ↓bind_s, List.length_cons, List.length_nil, addW_eq, subW_eq, if_pos, if_neg])
      simpa using Ev.const
  · simp only [h1]
    (simp (disch := first | omega | rfl) only [PS, ite_t, ite_f, ↓bind_s, List.length_cons, List.length_nil, addW_eq, subW_eq, if_pos, if_neg])
    simpa using Ev.const
/-! topic.Name -/
theorem high_key {b : UInt8} (h : 128 ≤ b.toNat) : keyN b.toNat = false ∧ lowN b.toNat = false := by
  rcases key_cases b.toNat with ⟨q1, q2, k1, k2, k3⟩ | ⟨q1, k1, k2, k3⟩ | ⟨q1, q2, k1, k2, k3⟩ | ⟨q1, k1, k2, k3⟩ | ⟨q1, q2, k1, k2, k3⟩ | ⟨q1, q2, k1, k2, k3⟩ <;> first | exact ⟨k1, k2⟩ | omega
theorem F32.loop {s : ByteArray} : ∀ (n i : Nat), n = s.size - i → i ≤ s.size →
    Ev (fun m => F32.PL s m (.l0 i)) (.bool ((decide (i ≠ 0) || headL ((bs s).drop i)) && keyL ((bs s).drop i))) := by
  intro n
  induction n using Nat.strongRecOn with
  | ind n ih =>
    intro i hn hi
    refine Ev.succ ?_
    simp only [F32.PL]
    by_cases hlt : i < s.size
    · have hl : i < (bs s).length := by rw [← bs_size]; exact hlt
      have hd := List.drop_eq_getElem_cons hl
      rw [hd]
      generalize hb : (bs s)[i]'hl = b at hd
      simp only [headL, keyL, List.all_cons]
      by_cases ha : b.toNat < 128
      · rw [decode_at_ascii hlt (by rw [hb]; exact ha), hb]
        simp only
        have ih1 := ih (s.size - (i + 1)) (by omega) (i + 1) rfl (by omega)
        simp only [keyL] at ih1
        rcases key_cases b.toNat with ⟨q1, q2, k1, k2, k3⟩ | ⟨q1, k1, k2, k3⟩ | ⟨q1, q2, k1, k2, k3⟩ | ⟨q1, k1, k2, k3⟩ | ⟨q1, q2, k1, k2, k3⟩ | ⟨q1, q2, k1, k2, k3⟩ <;> simp only [k1, k2] <;> (simp (disch := first | omega | rfl) only [PS, ite_t, ite_f, ↓bind_s, List.length_cons, List.length_nil, addW_eq, subW_eq, if_pos, if_neg]) <;>
          first | (simpa using ih1) | (by_cases h0 : i = 0 <;> (simp (disch := first | omega | rfl) only [PS, ite_t, ite_f, ↓bind_s, List.length_cons, List.length_nil, addW_eq, subW_eq, if_pos, if_neg]) <;> first | (simp [h0]; exact Ev.const) | (simpa [h0] using ih1))
      · obtain ⟨r1, r2, r3, r4⟩ := decode_at_high hlt (by rw [hb]; omega)
        obtain ⟨k1, k2⟩ := high_key (b := b) (by omega)
        simp only [k1, k2]
        (simp (disch := first | omega | rfl) only [PS, ite_t, ite_f, ↓bind_s, List.length_cons, List.length_nil, addW_eq, subW_eq, if_pos, if_neg])
        by_cases h0 : i = 0 <;> (simp (disch := first | omega | rfl) only [PS, ite_t, ite_f, ↓bind_s, List.length_cons, List.length_nil, addW_eq, subW_eq, if_pos, if_neg]) <;> simp [h0] <;> exact Ev.const
    · have : (bs s).drop i = [] := by rw [List.drop_eq_nil_iff, ← bs_size]; omega
      rw [this]
      (simp (disch := first | omega | rfl) only [PS, ite_t, ite_f, ↓bind_s, List.length_cons, List.length_nil, addW_eq, subW_eq, if_pos, if_neg])
      simpa [headL, keyL] using Ev.const
theorem F32.eq (s : ByteArray) : F32.P s = some (.bool (nameB s)) := by
  refine lim_eq ?_
  unfold nameB
  have hz : sizeI s = (s.size : Int) := rfl
  simp only [hz]
  by_cases h1 : 1 ≤ s.size
  · by_cases h2 : s.size ≤ 16
    · simp only [h1, h2]
      (simp (disch := first | omega | rfl) only [PS, ite_t, ite_f, ↓bind_s, List.length_cons, List.length_nil, addW_eq, subW_eq, if_pos, if_neg])
      simpa using F32.loop s.size 0 rfl (by omega)
    · simp only [h2]
      (simp (disch := first | omega | rfl) only [PS, ite_t, ite_f, ↓bind_s, List.length_cons, List.length_nil, addW_eq, subW_eq, if_pos, if_neg])
      simpa using Ev.const
  · simp only [h1]
    (simp (disch := first | omega | rfl) only [PS, ite_t, ite_f, ↓bind_s, List.length_cons, List.length_nil, addW_eq, subW_eq, if_pos, if_neg])
    simpa using Ev.const

/-! Topics -/
def hasB (s : ByteArray) (c : Int) : Bool := (bs s).any fun b => decide ((b.toNat : Int) = c)
def cntB (l : List UInt8) (c : Int) : Nat := l.countP fun b => decide ((b.toNat : Int) = c)
theorem cntB_le (l : List UInt8) (c : Int) : cntB l c ≤ l.length := List.countP_le_length
def sizedB (s : ByteArray) : Bool := decide (1 ≤ s.size) && (decide (s.size ≤ 64) && (!(hasB s 0) && decide (cntB (bs s) 47 + 1 ≤ 8)))
def topicB (s : ByteArray) : Bool := sizedB s && (!(hasB s 43) && !(hasB s 35))
theorem F64.loop {s : ByteArray} {c : Int} (hs : s.size ≤ 4096) : ∀ (post pre : List UInt8), bs s = pre ++ post → Ev (fun n => F64.PL s c n (.l0 (pre.length : Int))) (.bool (post.any fun b => decide ((b.toNat : Int) = c)))
  | [], pre, h => by
    have hl := len_end h
    refine Ev.succ ?_
    simp only [F64.PL, sizeI_bs]
    (simp (disch := first | omega | rfl) only [PS, ite_t, ite_f, ↓bind_s, List.length_cons, List.length_nil, addW_eq, subW_eq, if_pos, if_neg])
    exact Ev.const
  | b :: post, pre, h => by
    have hl := len_mid h
    have hz : (bs s).length ≤ 4096 := by rw [← bs_size]; exact hs
    have ih := F64.loop (c := c) hs post (pre ++ [b]) (by rw [h]; simp)
    have e1 : (pre.length : Int) + 1 = ((pre ++ [b]).length : Int) := by simp
    refine Ev.succ ?_
    simp only [F64.PL, sizeI_bs, bt_mid h]
    (simp (disch := first | omega | rfl) only [PS, ite_t, ite_f, ↓bind_s, List.length_cons, List.length_nil, addW_eq, subW_eq, if_pos, if_neg])
    by_cases e : (b.toNat : Int) = c
    · simp only [if_pos e, List.any_cons, decide_eq_true e, Bool.true_or]
      exact Ev.const
    · simp only [if_neg e, List.any_cons, decide_eq_false e, Bool.false_or]
      rw [e1]
      exact ih
theorem F64.eq {s : ByteArray} {c : Int} (hs : s.size ≤ 4096) : F64.P s c = some (.bool (hasB s c)) := lim_eq (F64.loop hs (bs s) [] rfl)
theorem F83.loop {s : ByteArray} (hs : s.size ≤ 4096) : ∀ (post pre : List UInt8) (out : List (List AV)) (f : Int), bs s = pre ++ post → 0 ≤ f → f ≤ pre.length → out.length ≤ pre.length →
    ∃ xs : List (List AV), xs.length = out.length + cntB post 47 + 1 ∧ Ev (fun n => F83.PL s n (.l0 out f (pre.length : Int))) (.sl 0 1 xs)
  | [], pre, out, f, h, f0, f1, ho => by
    have hb : (bs s).length ≤ 4096 := by rw [← bs_size]; exact hs
    have hl := len_end h
    refine ⟨out ++ [[.str (s.extract f.toNat ((sizeI s).toNat))]], by simp [cntB], Ev.succ ?_⟩
    have hz : sizeI s = ((bs s).length : Int) := sizeI_bs s
    have hr : room out [[.str (s.extract f.toNat ((sizeI s).toNat))]] 16 = true := by simp [room]; omega
    simp only [F83.PL, hr]
    rw [hz]
    (simp (disch := first | omega | rfl) only [PS, ite_t, ite_f, ↓bind_s, List.length_cons, List.length_nil, addW_eq, subW_eq, if_pos, if_neg])
    exact Ev.const
  | b :: post, pre, out, f, h, f0, f1, ho => by
    have hl := len_mid h
    have hb : (bs s).length ≤ 4096 := by rw [← bs_size]; exact hs
    have e1 : (pre.length : Int) + 1 = ((pre ++ [b]).length : Int) := by simp
    have hp : ((pre ++ [b]).length : Int) = (pre.length : Int) + 1 := by simp
    by_cases e : (b.toNat : Int) = 47
    · obtain ⟨xs, hx, he⟩ := F83.loop hs post (pre ++ [b]) (out ++ [[.str (s.extract f.toNat (pre.length : Int).toNat)]]) ((pre.length : Int) + 1) (by rw [h]; simp) (by omega) (by rw [hp]; omega) (by simp; omega)
      refine ⟨xs, ?_, Ev.succ ?_⟩
      · rw [hx]
        simp only [List.length_append, List.length_singleton, cntB, List.countP_cons, decide_eq_true e, if_true]
        omega
      · have hr : room out [[.str (s.extract f.toNat (pre.length : Int).toNat)]] 16 = true := by simp [room]; omega
        simp only [F83.PL, sizeI_bs, bt_mid h, hr]
        (simp (disch := first | omega | rfl) only [PS, ite_t, ite_f, ↓bind_s, List.length_cons, List.length_nil, addW_eq, subW_eq, if_pos, if_neg])
        (try simp only [if_pos e])
        rw [hp] at he
        exact he
    · obtain ⟨xs, hx, he⟩ := F83.loop hs post (pre ++ [b]) out f (by rw [h]; simp) f0 (by rw [hp]; omega) (by simp; omega)
      refine ⟨xs, ?_, Ev.succ ?_⟩
      · rw [hx]
        simp only [cntB, List.countP_cons, decide_eq_false e]
        simp
      · simp only [F83.PL, sizeI_bs, bt_mid h]
        (simp (disch := first | omega | rfl) only [PS, ite_t, ite_f, ↓bind_s, List.length_cons, List.length_nil, addW_eq, subW_eq, if_pos, if_neg])
        (try simp only [if_neg e])
        rw [hp] at he
        exact he
theorem F83.eq {s : ByteArray} (hs : s.size ≤ 4096) : ∃ xs : List (List AV), xs.length = cntB (bs s) 47 + 1 ∧ F83.P s = some (.sl 0 1 xs) := by
  obtain ⟨xs, h1, h2⟩ := F83.loop hs (bs s) [] [] 0 rfl (Int.le_refl _) (Int.le_refl _) (Nat.le_refl _)
  exact ⟨xs, by simpa using h1, lim_eq h2⟩
theorem F63.eq (s : ByteArray) : F63.P s = some (.bool (sizedB s)) := by
  unfold F63.P
  have hz : sizeI s = (s.size : Int) := rfl
  unfold sizedB
  simp only [hz]
  by_cases h1 : 1 ≤ s.size
  · by_cases h2 : s.size ≤ 64
    · obtain ⟨xs, hx, he⟩ := F83.eq (s := s) (by omega)
      rw [F64.eq (by omega)]
      (simp (disch := first | omega | rfl) only [PS, ite_t, ite_f, ↓bind_s, List.length_cons, List.length_nil, addW_eq, subW_eq, if_pos, if_neg])
      simp only [h1, h2]
      cases h3 : hasB s 0 <;> (simp (disch := first | omega | rfl) only [PS, ite_t, ite_f, ↓bind_s, List.length_cons, List.length_nil, addW_eq, subW_eq, if_pos, if_neg])
      · rw [he]
        (simp (disch := first | omega | rfl) only [PS, ite_t, ite_f, ↓bind_s, List.length_cons, List.length_nil, addW_eq, subW_eq, if_pos, if_neg])
        have e : leI (lenI xs) 8 = decide (cntB (bs s) 47 + 1 ≤ 8) := by
          simp only [leI, lenI, hx]
          rw [decide_eq_decide]
          omega
        simp [slXs_sl, e]
      · simp
    · (simp (disch := first | omega | rfl) only [PS, ite_t, ite_f, ↓bind_s, List.length_cons, List.length_nil, addW_eq, subW_eq, if_pos, if_neg])
      simp [h2]
  · (simp (disch := first | omega | rfl) only [PS, ite_t, ite_f, ↓bind_s, List.length_cons, List.length_nil, addW_eq, subW_eq, if_pos, if_neg])
    simp [h1]
theorem sizedB_le {s : ByteArray} (h : sizedB s = true) : s.size ≤ 64 := by
  simp only [sizedB, Bool.and_eq_true, decide_eq_true_eq] at h
  exact h.2.1
theorem F48.eq (s : ByteArray) : F48.P s = some (.bool (topicB s)) := by
  unfold F48.P
  rw [F63.eq]
  (simp (disch := first | omega | rfl) only [PS, ite_t, ite_f, ↓bind_s, List.length_cons, List.length_nil, addW_eq, subW_eq, if_pos, if_neg])
  unfold topicB
  cases h : sizedB s
  · (simp (disch := first | omega | rfl) only [PS, ite_t, ite_f, ↓bind_s, List.length_cons, List.length_nil, addW_eq, subW_eq, if_pos, if_neg])
    simp
  · have := sizedB_le h
    (simp (disch := first | omega | rfl) only [PS, ite_t, ite_f, ↓bind_s, List.length_cons, List.length_nil, addW_eq, subW_eq, if_pos, if_neg])
    rw [F64.eq (by omega), F64.eq (by omega)]
    (simp (disch := first | omega | rfl) only [PS, ite_t, ite_f, ↓bind_s, List.length_cons, List.length_nil, addW_eq, subW_eq, if_pos, if_neg])
    cases h2 : hasB s 43 <;> (simp (disch := first | omega | rfl) only [PS, ite_t, ite_f, ↓bind_s, List.length_cons, List.length_nil, addW_eq, subW_eq, if_pos, if_neg]) <;> simp
theorem any_high {s : ByteArray} {p : UInt8 → Bool} (hp : ∀ b : UInt8, 128 ≤ b.toNat → p b = false) : ∀ (w i : Nat), i + w ≤ s.size → (∀ k, i ≤ k → k < i + w → 128 ≤ (s.get! k).toNat) → ((bs s).drop i).countP p = ((bs s).drop (i + w)).countP p
  | 0, i, _, _ => rfl
  | w + 1, i, h1, h2 => by
    have hi : i < (bs s).length := by rw [← bs_size]; omega
    rw [List.drop_eq_getElem_cons hi, List.countP_cons]
    have := h2 i (Nat.le_refl _) (by omega)
    rw [get_bs (by omega)] at this
    rw [hp _ this, any_high hp w (i + 1) (by omega) (fun k a b => h2 k (by omega) (by omega))]
    simp only [Bool.false_eq_true, if_false, Nat.add_zero]
    congr 2
    omega
theorem high_ne {c : Int} (hc : c < 128) (b : UInt8) (h : 128 ≤ b.toNat) : decide ((b.toNat : Int) = c) = false := by simp; omega
theorem hasB_cnt (s : ByteArray) (c : Int) : hasB s c = !(decide (cntB (bs s) c = 0)) := by
  unfold hasB cntB
  generalize bs s = l
  induction l with
  | nil => rfl
  | cons x l ih =>
    rw [List.any_cons, ih, List.countP_cons]
    by_cases h : (x.toNat : Int) = c
    · simp [h]
    · simp [h]
theorem F55.loop {s : ByteArray} (hs : s.size ≤ 4096) : ∀ (n i : Nat) (k : Int), n = s.size - i → i ≤ s.size → 0 ≤ k → k ≤ i + 1 →
    Ev (fun m => F55.PL s m (.l0 k i)) (.bool (decide (cntB ((bs s).drop i) 0 = 0) && decide (k + cntB ((bs s).drop i) 47 ≤ 8))) := by
  intro n
  induction n using Nat.strongRecOn with
  | ind n ih =>
    intro i k hn hi k0 k1
    refine Ev.succ ?_
    simp only [F55.PL]
    by_cases hlt : i < s.size
    · have hl : i < (bs s).length := by rw [← bs_size]; exact hlt
      have hd := List.drop_eq_getElem_cons hl
      by_cases ha : ((bs s)[i]'hl).toNat < 128
      · rw [decode_at_ascii hlt ha, hd]
        (simp (disch := first | omega | rfl) only [PS, ite_t, ite_f, ↓bind_s, List.length_cons, List.length_nil, addW_eq, subW_eq, if_pos, if_neg])
        simp only [cntB, List.countP_cons]
        generalize (bs s)[i]'hl = b
        by_cases h0 : (b.toNat : Int) = 0
        · (simp (disch := first | omega | rfl) only [PS, ite_t, ite_f, ↓bind_s, List.length_cons, List.length_nil, addW_eq, subW_eq, if_pos, if_neg])
          simpa [h0] using Ev.const
        · by_cases h47 : (b.toNat : Int) = 47
          · have := ih (s.size - (i + 1)) (by omega) (i + 1) (k + 1) rfl (by omega) (by omega) (by omega)
            (simp (disch := first | omega | rfl) only [PS, ite_t, ite_f, ↓bind_s, List.length_cons, List.length_nil, addW_eq, subW_eq, if_pos, if_neg])
            try simp only [decide_eq_false h0, decide_eq_true h47, if_true, Bool.false_eq_true, if_false, Nat.add_zero]
            have e : k + 1 + (cntB ((bs s).drop (i + 1)) 47 : Int) = k + ((List.countP (fun b => decide ((b.toNat : Int) = 47)) ((bs s).drop (i + 1)) + 1 : Nat) : Int) := by simp only [cntB]; omega
            rw [e] at this
            exact this
          · have := ih (s.size - (i + 1)) (by omega) (i + 1) k rfl (by omega) k0 (by omega)
            (simp (disch := first | omega | rfl) only [PS, ite_t, ite_f, ↓bind_s, List.length_cons, List.length_nil, addW_eq, subW_eq, if_pos, if_neg])
            try simp only [decide_eq_false h0, decide_eq_false h47, Bool.false_eq_true, if_false, Nat.add_zero]
            exact this
      · obtain ⟨r1, r2, r3, r4⟩ := decode_at_high hlt (by omega)
        (simp (disch := first | omega | rfl) only [PS, ite_t, ite_f, ↓bind_s, List.length_cons, List.length_nil, addW_eq, subW_eq, if_pos, if_neg])
        unfold cntB
        rw [any_high (high_ne (by omega)) _ i r3 r4, any_high (high_ne (c := 47) (by omega)) _ i r3 r4]
        exact ih (s.size - (i + (Utf8.decode s i).2)) (by omega) (i + (Utf8.decode s i).2) k rfl r3 k0 (by omega)
    · have : (bs s).drop i = [] := by rw [List.drop_eq_nil_iff, ← bs_size]; omega
      rw [this]
      (simp (disch := first | omega | rfl) only [PS, ite_t, ite_f, ↓bind_s, List.length_cons, List.length_nil, addW_eq, subW_eq, if_pos, if_neg])
      simpa [cntB, leI] using Ev.const
theorem F55.eq (s : ByteArray) : F55.P s = some (.bool (sizedB s)) := by
  refine lim_eq ?_
  have hz : sizeI s = (s.size : Int) := rfl
  simp only [hz]
  by_cases h1 : 1 ≤ s.size
  · by_cases h2 : s.size ≤ 64
    · have := F55.loop (s := s) (by omega) s.size 0 1 rfl (by omega) (by omega) (by omega)
      have e : sizedB s = (decide (cntB ((bs s).drop 0) 0 = 0) && decide ((1 : Int) + cntB ((bs s).drop 0) 47 ≤ 8)) := by
        simp only [sizedB, h1, h2, decide_true, Bool.true_and, hasB_cnt, Bool.not_not, List.drop_zero]
        congr 1
        rw [decide_eq_decide]
        omega
      rw [e]
      (simp (disch := first | omega | rfl) only [PS, ite_t, ite_f, ↓bind_s, List.length_cons, List.length_nil, addW_eq, subW_eq, if_pos, if_neg])
      exact this
    · have e : sizedB s = false := by simp [sizedB, h2]
      rw [e]
      (simp (disch := first | omega | rfl) only [PS, ite_t, ite_f, ↓bind_s, List.length_cons, List.length_nil, addW_eq, subW_eq, if_pos, if_neg])
      exact Ev.const
  · have e : sizedB s = false := by simp [sizedB, h1]
    rw [e]
    (simp (disch := first | omega | rfl) only [PS, ite_t, ite_f, ↓bind_s, List.length_cons, List.length_nil, addW_eq, subW_eq, if_pos, if_neg])
    exact Ev.const
theorem F37.loop {s : ByteArray} : ∀ (n i : Nat), n = s.size - i → i ≤ s.size →
    Ev (fun m => F37.PL s m (.l0 i)) (.bool (decide (cntB ((bs s).drop i) 43 = 0) && decide (cntB ((bs s).drop i) 35 = 0))) := by
  intro n
  induction n using Nat.strongRecOn with
  | ind n ih =>
    intro i hn hi
    refine Ev.succ ?_
    simp only [F37.PL]
    by_cases hlt : i < s.size
    · have hl : i < (bs s).length := by rw [← bs_size]; exact hlt
      have hd := List.drop_eq_getElem_cons hl
      by_cases ha : ((bs s)[i]'hl).toNat < 128
      · rw [decode_at_ascii hlt ha, hd]
        (simp (disch := first | omega | rfl) only [PS, ite_t, ite_f, ↓bind_s, List.length_cons, List.length_nil, addW_eq, subW_eq, if_pos, if_neg])
        simp only [cntB, List.countP_cons]
        generalize (bs s)[i]'hl = b
        by_cases h0 : (b.toNat : Int) = 43
        · (simp (disch := first | omega | rfl) only [PS, ite_t, ite_f, ↓bind_s, List.length_cons, List.length_nil, addW_eq, subW_eq, if_pos, if_neg])
          simpa [h0] using Ev.const
        · by_cases h1 : (b.toNat : Int) = 35
          · (simp (disch := first | omega | rfl) only [PS, ite_t, ite_f, ↓bind_s, List.length_cons, List.length_nil, addW_eq, subW_eq, if_pos, if_neg])
            simpa [h1] using Ev.const
          · have := ih (s.size - (i + 1)) (by omega) (i + 1) rfl (by omega)
            (simp (disch := first | omega | rfl) only [PS, ite_t, ite_f, ↓bind_s, List.length_cons, List.length_nil, addW_eq, subW_eq, if_pos, if_neg])
            try simp only [decide_eq_false h0, decide_eq_false h1, Bool.false_eq_true, if_false, Nat.add_zero]
            exact this
      · obtain ⟨r1, r2, r3, r4⟩ := decode_at_high hlt (by omega)
        (simp (disch := first | omega | rfl) only [PS, ite_t, ite_f, ↓bind_s, List.length_cons, List.length_nil, addW_eq, subW_eq, if_pos, if_neg])
        unfold cntB
        rw [any_high (high_ne (by omega)) _ i r3 r4, any_high (high_ne (c := 35) (by omega)) _ i r3 r4]
        exact ih (s.size - (i + (Utf8.decode s i).2)) (by omega) (i + (Utf8.decode s i).2) rfl r3
    · have : (bs s).drop i = [] := by rw [List.drop_eq_nil_iff, ← bs_size]; omega
      rw [this]
      (simp (disch := first | omega | rfl) only [PS, ite_t, ite_f, ↓bind_s, List.length_cons, List.length_nil, addW_eq, subW_eq, if_pos, if_neg])
      simpa [cntB] using Ev.const
theorem F37.eq (s : ByteArray) : F37.P s = some (.bool (topicB s)) := by
  refine lim_eq ?_
  rw [F55.eq]
  unfold topicB
  cases h : sizedB s
  · (simp (disch := first | omega | rfl) only [PS, ite_t, ite_f, ↓bind_s, List.length_cons, List.length_nil, addW_eq, subW_eq, if_pos, if_neg])
    simpa using Ev.const
  · (simp (disch := first | omega | rfl) only [PS, ite_t, ite_f, ↓bind_s, List.length_cons, List.length_nil, addW_eq, subW_eq, if_pos, if_neg])
    have := F37.loop (s := s) _ 0 rfl (by omega)
    simpa [hasB_cnt] using this

/-! The order of texts -/
theorem ltS_eq (s t : ByteArray) : ltS s t = decide (bs s < bs t) := by
  have h := cond_ltS (s := s) (t := t) (p := True) (q := False)
  cases e : ltS s t <;> rw [e] at h <;> simp only [cond_true, cond_false] at h
  · by_cases k : bs s < bs t
    · rw [if_pos (by exact k)] at h; simp at h
    · simp [k]
  · by_cases k : bs s < bs t
    · simp [k]
    · rw [if_neg (by exact k)] at h; simp at h

/-! Numbers in decimal -/
def digs (l : List UInt8) : Bool := l.all fun b => digN b.toNat
def valD (n : Nat) (b : UInt8) : Nat := 10 * n + (b.toNat - 48)
def valL (l : List UInt8) : Nat := l.foldl valD 0
def canon : List UInt8 → Bool
  | [] => true
  | b :: r => !(decide (b.toNat = 48) && decide (r ≠ []))
theorem valL_snoc (l : List UInt8) (b : UInt8) : valL (l ++ [b]) = 10 * valL l + (b.toNat - 48) := by simp [valL, valD]
theorem digN_iff {n : Nat} : digN n = true ↔ 48 ≤ n ∧ n ≤ 57 := by simp [digN]
theorem snoc_ind {P : List UInt8 → Prop} (h0 : P []) (h1 : ∀ l b, P l → P (l ++ [b])) (l : List UInt8) : P l := by
  rw [← List.reverse_reverse l]
  induction l.reverse with
  | nil => exact h0
  | cons b r ih => rw [List.reverse_cons]; exact h1 _ _ ih
theorem valL_lt : ∀ l : List UInt8, digs l = true → valL l < 10 ^ l.length := by
  refine snoc_ind (fun _ => by simp [valL]) fun l b ih h => ?_
  simp only [digs, List.all_append, List.all_cons, List.all_nil, Bool.and_true, Bool.and_eq_true] at h
  have := ih h.1
  have hb := digN_iff.1 h.2
  rw [valL_snoc, List.length_append, List.length_singleton, Nat.pow_succ]
  omega
theorem valL_pos : ∀ l : List UInt8, digs l = true → ∀ b r, l = b :: r → b.toNat ≠ 48 → 1 ≤ valL l := by
  refine snoc_ind (fun _ b r h => by cases h) fun l c ih h b r e hb => ?_
  simp only [digs, List.all_append, List.all_cons, List.all_nil, Bool.and_true, Bool.and_eq_true] at h
  rw [valL_snoc]
  cases l with
  | nil =>
    simp at e
    have := digN_iff.1 h.2
    rw [e.1] at this ⊢
    omega
  | cons x l =>
    simp at e
    have := ih h.1 x l rfl (by rw [e.1]; exact hb)
    omega
theorem dec_of : ∀ l : List UInt8, digs l = true → l ≠ [] → canon l = true → Lib.decDigits (valL l) = l := by
  refine snoc_ind (fun _ h => absurd rfl h) fun l c ih h _ hc => ?_
  simp only [digs, List.all_append, List.all_cons, List.all_nil, Bool.and_true, Bool.and_eq_true] at h
  have hd := digN_iff.1 h.2
  rw [valL_snoc]
  cases l with
  | nil =>
    have e : 10 * valL [] + (c.toNat - 48) = c.toNat - 48 := by simp [valL]
    rw [e, Lib.decDigits_one (by omega)]
    have : 48 + (c.toNat - 48) = c.toNat := by omega
    rw [this]
    simp
  | cons x l =>
    have hx : x.toNat ≠ 48 := by
      simp only [List.cons_append, canon] at hc
      intro e
      simp [e] at hc
    have hp := valL_pos (x :: l) h.1 x l rfl hx
    have := ih h.1 (by simp) (by simp [canon, hx])
    rw [Lib.decDigits, dif_neg (by omega)]
    have e1 : (10 * valL (x :: l) + (c.toNat - 48)) / 10 = valL (x :: l) := by omega
    have e2 : (10 * valL (x :: l) + (c.toNat - 48)) % 10 = c.toNat - 48 := by omega
    rw [e1, e2, this]
    have : 48 + (c.toNat - 48) = c.toNat := by omega
    rw [this]
    simp
theorem dec_head : ∀ (n u : Nat), u ≤ n → ∃ b r, Lib.decDigits u = b :: r ∧ (b.toNat = 48 → r = [] ∧ u = 0)
  | 0, u, h => ⟨48, [], by rw [show u = 0 by omega, Lib.decDigits_one (by omega)]; rfl, fun _ => ⟨rfl, by omega⟩⟩
  | n + 1, u, h => by
    by_cases hu : u < 10
    · refine ⟨UInt8.ofNat (48 + u), [], Lib.decDigits_one hu, fun e => ⟨rfl, ?_⟩⟩
      rw [UInt8.toNat_ofNat_of_lt' (by simp [UInt8.size]; omega)] at e
      omega
    · obtain ⟨b, r, e1, e2⟩ := dec_head n (u / 10) (by omega)
      rw [Lib.decDigits, dif_neg hu, e1]
      exact ⟨b, _, rfl, fun e => absurd (e2 e).2 (by omega)⟩
theorem itoa_iff {s : ByteArray} (h : digs (bs s) = true) (h0 : bs s ≠ []) : eqS (itoaV (valL (bs s) : Int)) s = canon (bs s) := by
  have hi : bs (itoaV (valL (bs s) : Int)) = Lib.decDigits (valL (bs s)) := by
    rw [bs_itoa]
    unfold Lib.itoa
    rw [if_neg (by omega)]
    simp
  cases hc : canon (bs s)
  · have : itoaV (valL (bs s) : Int) ≠ s := by
      intro e
      rw [e] at hi
      obtain ⟨b, r, e1, e2⟩ := dec_head _ (valL (bs s)) (Nat.le_refl _)
      rw [e1] at hi
      rw [hi] at hc
      simp only [canon, Bool.not_eq_false', Bool.and_eq_true, decide_eq_true_eq] at hc
      exact hc.2 (e2 hc.1).1
    simpa [eqS] using this
  · have := dec_of _ h h0 hc
    rw [this] at hi
    have : itoaV (valL (bs s) : Int) = s := by
      have : ∀ a b : ByteArray, bs a = bs b → a = b := fun a b h => by
        obtain ⟨⟨a⟩⟩ := a
        obtain ⟨⟨b⟩⟩ := b
        simp only [bs] at h
        rw [h]
      exact this _ _ hi
    simp [eqS, this]

theorem itoa_prop {s : ByteArray} (h : digs (bs s) = true) (h0 : bs s ≠ []) : (itoaV (valL (bs s) : Int) = s) = (canon (bs s) = true) := by
  rw [← itoa_iff h h0]
  simp [eqS]

/-! Properties -/
def getL (k : ByteArray) : List Pp → ByteArray
  | [] => ⟨#[]⟩
  | p :: r => if p.k = k then p.v else getL k r
def hasK (k : ByteArray) (l : List Pp) : Bool := l.any fun p => decide (p.k = k)
theorem getL_no {k : ByteArray} : ∀ {l : List Pp}, hasK k l = false → getL k l = ⟨#[]⟩
  | [], _ => rfl
  | p :: r, h => by
    simp only [hasK, List.any_cons, Bool.or_eq_false_iff, decide_eq_false_iff_not] at h
    simp only [getL, if_neg h.1]
    exact getL_no (by simpa [hasK] using h.2)
theorem lenI_props {l : List Pp} : lenI (props l) = (l.length : Int) := lenI_map
theorem props_at {l pre post : List Pp} {x : Pp} (h : l = pre ++ x :: post) : ro (props l) (pre.length : Int).toNat = [.str x.k, .str x.v] := ro_at h
theorem F30.loop {l : List Pp} {k : ByteArray} (hs : l.length ≤ 100000) : ∀ (post pre : List Pp), l = pre ++ post → Ev (fun n => F30.PL (props l) k n (.l0 (pre.length : Int))) (.tup [.str (getL k post), .bool (hasK k post)])
  | [], pre, h => by
    have hl := len_end h
    refine Ev.succ ?_
    simp only [F30.PL, lenI_props]
    (simp (disch := first | omega | rfl) only [PS, ite_t, ite_f, ↓bind_s, List.length_cons, List.length_nil, addW_eq, subW_eq, if_pos, if_neg])
    exact Ev.const
  | p :: post, pre, h => by
    have hl := len_mid h
    have ih := F30.loop (k := k) hs post (pre ++ [p]) (by rw [h]; simp)
    have e1 : (pre.length : Int) + 1 = ((pre ++ [p]).length : Int) := by simp
    refine Ev.succ ?_
    simp only [F30.PL, lenI_props, props_at h]
    (simp (disch := first | omega | rfl) only [PS, ite_t, ite_f, ↓bind_s, List.length_cons, List.length_nil, addW_eq, subW_eq, if_pos, if_neg])
    by_cases e : p.k = k
    · simp only [toStr_str, e, hasK, List.any_cons, getL]
      simpa using Ev.const
    · simp only [toStr_str, e, hasK, List.any_cons, getL]
      simp only [decide_false, Bool.false_or, if_false]
      rw [e1]
      exact ih
theorem F30.eq {l : List Pp} {k : ByteArray} (hs : l.length ≤ 100000) : F30.P (props l) k = some (.tup [.str (getL k l), .bool (hasK k l)]) := lim_eq (F30.loop hs l [] rfl)
section
variable {a0 a1 : ByteArray} {a2 : Int} {a3 : Bool} {a4 a5 : Int} {a6 : ByteArray} {a7 : Int}
theorem F33.loop {l : List Pp} {k : ByteArray} (hs : l.length ≤ 100000) : ∀ (post pre : List Pp), l = pre ++ post → Ev (fun n => F33.PL a0 a1 a2 a3 a4 a5 a6 a7 (props l) k n (.l0 (pre.length : Int))) (.str (getL k post))
  | [], pre, h => by
    have hl := len_end h
    refine Ev.succ ?_
    simp only [F33.PL, lenI_props]
    (simp (disch := first | omega | rfl) only [PS, ite_t, ite_f, ↓bind_s, List.length_cons, List.length_nil, addW_eq, subW_eq, if_pos, if_neg])
    exact Ev.const
  | p :: post, pre, h => by
    have hl := len_mid h
    have ih := F33.loop (k := k) hs post (pre ++ [p]) (by rw [h]; simp)
    have e1 : (pre.length : Int) + 1 = ((pre ++ [p]).length : Int) := by simp
    refine Ev.succ ?_
    simp only [F33.PL, lenI_props, props_at h]
    (simp (disch := first | omega | rfl) only [PS, ite_t, ite_f, ↓bind_s, List.length_cons, List.length_nil, addW_eq, subW_eq, if_pos, if_neg])
    by_cases e : p.k = k
    · simp only [toStr_str, e, getL]
      simpa using Ev.const
    · simp only [toStr_str, e, getL]
      simp only [if_false]
      rw [e1]
      exact ih
theorem F33.eq {l : List Pp} {k : ByteArray} (hs : l.length ≤ 100000) : F33.P a0 a1 a2 a3 a4 a5 a6 a7 (props l) k = some (.str (getL k l)) := lim_eq (F33.loop hs l [] rfl)

/-! Deaths -/
def deathsS (s : ByteArray) : Int := if (decide (1 ≤ s.size) && (decide (s.size ≤ 13) && (digs (bs s) && (canon (bs s) && decide (valL (bs s) ≤ 1099511627776))))) then (valL (bs s) : Int) else 0
theorem dig_step {n : Nat} {b : UInt8} (hn : n < 10 ^ 13) (h1 : 48 ≤ b.toNat) (h2 : b.toNat ≤ 57) : addW .i64 (mulW .i64 10 (n : Int)) (IntKind.i64.wrap (subW .u8 (b.toNat : Int) 48)) = ((10 * n + (b.toNat - 48) : Nat) : Int) := by
  have hb := UInt8.toNat_lt b
  have e1 : mulW .i64 10 (n : Int) = ((10 * n : Nat) : Int) := by
    unfold mulW
    rw [wrap_i64 (by omega) (by omega)]
    omega
  have e2 : subW .u8 (b.toNat : Int) 48 = ((b.toNat - 48 : Nat) : Int) := by
    unfold subW
    simp [IntKind.wrap, IntKind.signed, IntKind.bits]
    omega
  rw [e1, e2, wrap_i64 (by omega) (by omega), addW_eq (by omega) (by omega)]
  omega
theorem pow13 {l : List UInt8} (h : digs l = true) (hl : l.length ≤ 12) : valL l < 10 ^ 13 := Nat.lt_of_lt_of_le (valL_lt l h) (Nat.pow_le_pow_right (by omega) (by omega))
theorem F15.loop {s : ByteArray} {ps : List (List AV)} (hs : s.size ≤ 13) (h0 : 1 ≤ s.size) : ∀ (post pre : List UInt8), bs s = pre ++ post → digs pre = true →
    Ev (fun n => F15.PL a0 a1 a2 a3 a4 a5 a6 a7 ps n (.l0 s (valL pre : Int) (s.size : Int) (pre.length : Int))) (.int .i64 (deathsS s))
  | [], pre, h, hd => by
    have hl := len_end h
    have hz : (bs s).length ≤ 13 := by rw [← bs_size]; exact hs
    have hp : pre = bs s := by rw [h]; simp
    subst hp
    have hv : valL (bs s) < 10 ^ 13 := Nat.lt_of_lt_of_le (valL_lt _ hd) (Nat.pow_le_pow_right (by omega) (by omega))
    refine Ev.succ ?_
    have hI : I64 (valL (bs s) : Int) := ⟨by omega, by omega⟩
    have hne : bs s ≠ [] := by
      obtain ⟨b, r, e⟩ := bs_pos h0
      rw [e]; simp
    simp only [F15.PL, bs_size s, ItoaP.of hI]
    (simp (disch := first | omega | rfl) only [PS, ite_t, ite_f, ↓bind_s, List.length_cons, List.length_nil, addW_eq, subW_eq, if_pos, if_neg])
    simp only [itoa_prop hd hne]
    unfold deathsS
    simp only [h0, hs, hd]
    cases hc : canon (bs s) <;> (simp (disch := first | omega | rfl) only [PS, ite_t, ite_f, ↓bind_s, List.length_cons, List.length_nil, addW_eq, subW_eq, if_pos, if_neg])
    · simpa using Ev.const
    · by_cases hm : valL (bs s) ≤ 1099511627776 <;> (simp (disch := first | omega | rfl) only [PS, ite_t, ite_f, ↓bind_s, List.length_cons, List.length_nil, addW_eq, subW_eq, if_pos, if_neg]) <;> simp [hm] <;> exact Ev.const
  | b :: post, pre, h, hd => by
    have hl := len_mid h
    have hz : (bs s).length ≤ 13 := by rw [← bs_size]; exact hs
    have hsz : s.size = (bs s).length := bs_size s
    have e1 : (pre.length : Int) + 1 = ((pre ++ [b]).length : Int) := by simp
    have hv := pow13 hd (by omega)
    refine Ev.succ ?_
    simp only [F15.PL, sizeI_bs, bt_mid h]
    by_cases hb : 48 ≤ b.toNat ∧ b.toNat ≤ 57
    · have ih := F15.loop (ps := ps) hs h0 post (pre ++ [b]) (by rw [h]; simp) (by
        simp only [digs, List.all_append, List.all_cons, List.all_nil, Bool.and_true, Bool.and_eq_true]
        exact ⟨hd, digN_iff.2 hb⟩)
      rw [dig_step hv hb.1 hb.2]
      (simp (disch := first | omega | rfl) only [PS, ite_t, ite_f, ↓bind_s, List.length_cons, List.length_nil, addW_eq, subW_eq, if_pos, if_neg])
      rw [valL_snoc, ← e1] at ih
      exact ih
    · have e : deathsS s = 0 := by
        have : digs (bs s) = false := by
          have : digN b.toNat = false := by
            cases h : digN b.toNat
            · rfl
            · exact absurd (digN_iff.1 h) hb
          rw [h]
          simp [digs, this]
        simp [deathsS, this]
      rw [e]
      by_cases h1 : 48 ≤ b.toNat <;> (simp (disch := first | omega | rfl) only [PS, ite_t, ite_f, ↓bind_s, List.length_cons, List.length_nil, addW_eq, subW_eq, if_pos, if_neg]) <;> exact Ev.const
theorem F15.eq {l : List Pp} (hs : l.length ≤ 100000) : F15.P a0 a1 a2 a3 a4 a5 a6 a7 (props l) = some (.int .i64 (deathsS (getL ⟨#[100, 101, 97, 116, 104, 115]⟩ l))) := by
  refine lim_eq ?_
  rw [F33.eq hs]
  generalize getL ⟨#[100, 101, 97, 116, 104, 115]⟩ l = s
  have hz : sizeI s = (s.size : Int) := rfl
  (simp (disch := first | omega | rfl) only [PS, ite_t, ite_f, ↓bind_s, List.length_cons, List.length_nil, addW_eq, subW_eq, if_pos, if_neg])
  simp only [toStr_str, hz]
  by_cases h1 : 1 ≤ s.size
  · by_cases h2 : s.size ≤ 13
    · (simp (disch := first | omega | rfl) only [PS, ite_t, ite_f, ↓bind_s, List.length_cons, List.length_nil, addW_eq, subW_eq, if_pos, if_neg])
      exact F15.loop h2 h1 (bs s) [] rfl rfl
    · (simp (disch := first | omega | rfl) only [PS, ite_t, ite_f, ↓bind_s, List.length_cons, List.length_nil, addW_eq, subW_eq, if_pos, if_neg])
      simpa [deathsS, h2] using Ev.const
  · (simp (disch := first | omega | rfl) only [PS, ite_t, ite_f, ↓bind_s, List.length_cons, List.length_nil, addW_eq, subW_eq, if_pos, if_neg])
    simpa [deathsS, h1] using Ev.const
theorem F14.loop {s : ByteArray} {ps : List (List AV)} (hs : s.size ≤ 13) (h0 : 1 ≤ s.size) : ∀ (post pre : List UInt8), bs s = pre ++ post → digs pre = true → (pre ≠ [] → canon (bs s) = true) →
    Ev (fun n => F14.PL a0 a1 a2 a3 a4 a5 a6 a7 ps n (.l0 s (valL pre : Int) (s.size : Int) (pre.length : Int))) (.int .i64 (deathsS s))
  | [], pre, h, hd, hc => by
    have hl := len_end h
    have hz : (bs s).length ≤ 13 := by rw [← bs_size]; exact hs
    have hp : pre = bs s := by rw [h]; simp
    subst hp
    have hv : valL (bs s) < 10 ^ 13 := Nat.lt_of_lt_of_le (valL_lt _ hd) (Nat.pow_le_pow_right (by omega) (by omega))
    have hne : bs s ≠ [] := by
      obtain ⟨b, r, e⟩ := bs_pos h0
      rw [e]; simp
    refine Ev.succ ?_
    simp only [F14.PL, bs_size s]
    unfold deathsS
    simp only [h0, hs, hd, hc hne]
    by_cases hm : valL (bs s) ≤ 1099511627776 <;> (simp (disch := first | omega | rfl) only [PS, ite_t, ite_f, ↓bind_s, List.length_cons, List.length_nil, addW_eq, subW_eq, if_pos, if_neg]) <;> simp [hm] <;> exact Ev.const
  | b :: post, pre, h, hd, hc => by
    have hl := len_mid h
    have hz : (bs s).length ≤ 13 := by rw [← bs_size]; exact hs
    have hsz : s.size = (bs s).length := bs_size s
    have e1 : (pre.length : Int) + 1 = ((pre ++ [b]).length : Int) := by simp
    have hv := pow13 hd (by omega)
    refine Ev.succ ?_
    simp only [F14.PL, sizeI_bs, bt_mid h]
    by_cases hb : 48 ≤ b.toNat ∧ b.toNat ≤ 57
    · have go : canon (bs s) = true → Ev (fun n => F14.PL a0 a1 a2 a3 a4 a5 a6 a7 ps n (.lR8 s (valL pre : Int) (pre.length : Int) (s.size : Int) (pre.length : Int) false)) (.int .i64 (deathsS s)) := by
        intro hcc
        have ih := F14.loop (ps := ps) hs h0 post (pre ++ [b]) (by rw [h]; simp) (by
          simp only [digs, List.all_append, List.all_cons, List.all_nil, Bool.and_true, Bool.and_eq_true]
          exact ⟨hd, digN_iff.2 hb⟩) fun _ => hcc
        refine Ev.succ ?_
        simp only [F14.PL, sizeI_bs, bt_mid h]
        rw [dig_step hv hb.1 hb.2]
        (simp (disch := first | omega | rfl) only [PS, ite_t, ite_f, ↓bind_s, List.length_cons, List.length_nil, addW_eq, subW_eq, if_pos, if_neg])
        rw [valL_snoc, ← e1] at ih
        exact ih
      by_cases hp : pre = []
      · have hpl : pre.length = 0 := by rw [hp]; rfl
        have h' : bs s = b :: post := by rw [h, hp]; rfl
        by_cases h48 : b.toNat = 48
        · by_cases hpost : post = []
          · have hl1 : ltI 1 ((bs s).length : Int) = false := by rw [h', hpost]; rfl
            rw [hl1]
            (simp (disch := first | omega | rfl) only [PS, ite_t, ite_f, ↓bind_s, List.length_cons, List.length_nil, addW_eq, subW_eq, if_pos, if_neg])
            exact go (by rw [h', hpost]; simp [canon])
          · have hl1 : ltI 1 ((bs s).length : Int) = true := by
              have : post.length ≠ 0 := fun e => hpost (List.length_eq_zero_iff.1 e)
              rw [h']; simp [ltI]; omega
            have e : deathsS s = 0 := by
              have : canon (bs s) = false := by rw [h']; simp [canon, h48, hpost]
              simp [deathsS, this]
            rw [e, hl1]
            (simp (disch := first | omega | rfl) only [PS, ite_t, ite_f, ↓bind_s, List.length_cons, List.length_nil, addW_eq, subW_eq, if_pos, if_neg])
            refine Ev.succ ?_
            simp only [F14.PL]
            (simp (disch := first | omega | rfl) only [PS, ite_t, ite_f, ↓bind_s, List.length_cons, List.length_nil, addW_eq, subW_eq, if_pos, if_neg])
            exact Ev.const
        · (simp (disch := first | omega | rfl) only [PS, ite_t, ite_f, ↓bind_s, List.length_cons, List.length_nil, addW_eq, subW_eq, if_pos, if_neg])
          exact go (by rw [h']; simp [canon, h48])
      · have : pre.length ≠ 0 := fun e => hp (List.length_eq_zero_iff.1 e)
        (simp (disch := first | omega | rfl) only [PS, ite_t, ite_f, ↓bind_s, List.length_cons, List.length_nil, addW_eq, subW_eq, if_pos, if_neg])
        exact go (hc hp)
    · have e : deathsS s = 0 := by
        have : digs (bs s) = false := by
          have : digN b.toNat = false := by
            cases h : digN b.toNat
            · rfl
            · exact absurd (digN_iff.1 h) hb
          rw [h]
          simp [digs, this]
        simp [deathsS, this]
      rw [e]
      by_cases h1 : 48 ≤ b.toNat <;> (simp (disch := first | omega | rfl) only [PS, ite_t, ite_f, ↓bind_s, List.length_cons, List.length_nil, addW_eq, subW_eq, if_pos, if_neg]) <;> refine Ev.succ ?_ <;> simp only [F14.PL] <;> (simp (disch := first | omega | rfl) only [PS, ite_t, ite_f, ↓bind_s, List.length_cons, List.length_nil, addW_eq, subW_eq, if_pos, if_neg]) <;> exact Ev.const
theorem F14.eq {l : List Pp} (hs : l.length ≤ 100000) : F14.P a0 a1 a2 a3 a4 a5 a6 a7 (props l) = some (.int .i64 (deathsS (getL ⟨#[100, 101, 97, 116, 104, 115]⟩ l))) := by
  refine lim_eq ?_
  rw [F30.eq hs]
  (simp (disch := first | omega | rfl) only [PS, ite_t, ite_f, ↓bind_s, List.length_cons, List.length_nil, addW_eq, subW_eq, if_pos, if_neg])
  cases hk : hasK ⟨#[100, 101, 97, 116, 104, 115]⟩ l
  · rw [getL_no hk]
    (simp (disch := first | omega | rfl) only [PS, ite_t, ite_f, ↓bind_s, List.length_cons, List.length_nil, addW_eq, subW_eq, if_pos, if_neg])
    refine Ev.succ ?_
    simp only [F14.PL]
    (simp (disch := first | omega | rfl) only [PS, ite_t, ite_f, ↓bind_s, List.length_cons, List.length_nil, addW_eq, subW_eq, if_pos, if_neg])
    exact Ev.const
  · generalize getL ⟨#[100, 101, 97, 116, 104, 115]⟩ l = s
    have hz : sizeI s = (s.size : Int) := rfl
    (simp (disch := first | omega | rfl) only [PS, ite_t, ite_f, ↓bind_s, List.length_cons, List.length_nil, addW_eq, subW_eq, if_pos, if_neg])
    simp only [toStr_str, hz]
    by_cases he : s = ⟨#[]⟩
    · subst he
      (simp (disch := first | omega | rfl) only [PS, ite_t, ite_f, ↓bind_s, List.length_cons, List.length_nil, addW_eq, subW_eq, if_pos, if_neg])
      refine Ev.succ ?_
      simp only [F14.PL]
      (simp (disch := first | omega | rfl) only [PS, ite_t, ite_f, ↓bind_s, List.length_cons, List.length_nil, addW_eq, subW_eq, if_pos, if_neg])
      exact Ev.const
    · have h1 : 1 ≤ s.size := by
        rw [bs_size]
        cases hb : bs s with
        | nil =>
          refine absurd ?_ he
          obtain ⟨⟨l⟩⟩ := s
          simp only [bs] at hb
          rw [hb]
        | cons b r => simp
      (simp (disch := first | omega | rfl) only [PS, ite_t, ite_f, ↓bind_s, List.length_cons, List.length_nil, addW_eq, subW_eq, if_pos, if_neg])
      (try simp only [he, if_false])
      refine Ev.succ ?_
      simp only [F14.PL, hz]
      by_cases h2 : s.size ≤ 13
      · (simp (disch := first | omega | rfl) only [PS, ite_t, ite_f, ↓bind_s, List.length_cons, List.length_nil, addW_eq, subW_eq, if_pos, if_neg])
        exact F14.loop h2 h1 (bs s) [] rfl rfl (fun e => absurd rfl e)
      · (simp (disch := first | omega | rfl) only [PS, ite_t, ite_f, ↓bind_s, List.length_cons, List.length_nil, addW_eq, subW_eq, if_pos, if_neg])
        simpa [deathsS, h2] using Ev.const
end

/-! From -/
theorem index_lt (c : UInt8) : ∀ l : List UInt8, -1 ≤ Lib.indexByte l c ∧ Lib.indexByte l c < l.length
  | [] => by simp [Lib.indexByte]
  | b :: l => by
    have := index_lt c l
    simp only [Lib.indexByte]
    split
    · simp
    · split
      · simp <;> omega
      · rename_i h1 h2
        simp at h2
        simp
        omega
def sp : ByteArray := ⟨#[32]⟩
def cutAt (s : ByteArray) : Int := Lib.indexByte (bs s) 32
def cutV (s : ByteArray) : ByteArray × ByteArray × Bool :=
  if 0 ≤ cutAt s then (s.extract 0 (cutAt s).toNat, s.extract ((cutAt s) + 1).toNat s.size, true) else (s, ⟨#[]⟩, false)
theorem F46.eq {s : ByteArray} (hs : s.size ≤ 100000) : F46.P s ⟨#[32]⟩ = some (.tup [.str (cutV s).1, .str (cutV s).2.1, .bool (cutV s).2.2]) := by
  unfold F46.P
  rw [IdxP.of]
  have h := index_lt 32 (bs s)
  rw [← bs_size] at h
  have hz : sizeI s = (s.size : Int) := rfl
  have h1 : sizeI (⟨#[32]⟩ : ByteArray) = 1 := rfl
  unfold cutV
  change -1 ≤ cutAt s ∧ cutAt s < _ at h
  change (some (AV.int .i64 (cutAt s))).bind _ = _
  generalize cutAt s = i at h ⊢
  (simp (disch := first | omega | rfl) only [PS, ite_t, ite_f, ↓bind_s, List.length_cons, List.length_nil, addW_eq, subW_eq, if_pos, if_neg])
  simp only [toInt_int, hz, h1]
  by_cases h0 : 0 ≤ i
  · (simp (disch := first | omega | rfl) only [PS, ite_t, ite_f, ↓bind_s, List.length_cons, List.length_nil, addW_eq, subW_eq, if_pos, if_neg])
    simp
  · (simp (disch := first | omega | rfl) only [PS, ite_t, ite_f, ↓bind_s, List.length_cons, List.length_nil, addW_eq, subW_eq, if_pos, if_neg])
theorem F31.eq {s : ByteArray} (hs : s.size ≤ 100000) : F31.P s ⟨#[32]⟩ = some (.tup [.str (cutV s).1, .str (cutV s).2.1, .bool (cutV s).2.2]) := by
  unfold F31.P
  rw [F46.eq hs]
  rfl
def reasonB (r : ByteArray) : Bool := decide (r.size = 1) && (decide (49 ≤ bt r 0) && decide (bt r 0 ≤ 52))
def fromS (s : ByteArray) : ByteArray × Int := if (cutV s).2.2 && (nameB (cutV s).1 && reasonB (cutV s).2.1) then ((cutV s).1, bt (cutV s).2.1 0 - 48) else (⟨#[]⟩, 0)
theorem one_byte {r : ByteArray} (h : r.size = 1) : ∃ b : UInt8, bs r = [b] ∧ bt r 0 = (b.toNat : Int) := by
  obtain ⟨b, t, hb⟩ := bs_pos (s := r) (by omega)
  rw [bs_size, hb] at h
  obtain rfl : t = [] := List.length_eq_zero_iff.1 (by simpa using h)
  exact ⟨b, hb, bt_mid (pre := []) hb⟩
theorem lt_one {r : ByteArray} (h : r.size = 1) (c : UInt8) : ltS r ⟨#[c]⟩ = decide (bt r 0 < (c.toNat : Int)) ∧ ltS ⟨#[c]⟩ r = decide ((c.toNat : Int) < bt r 0) := by
  obtain ⟨b, h1, h2⟩ := one_byte h
  rw [ltS_eq, ltS_eq, h1, h2]
  constructor <;> rw [decide_eq_decide] <;> simp [bs, List.cons_lt_cons_iff, UInt8.lt_iff_toNat_lt]
section
variable {a0 a1 : ByteArray} {a2 : Int} {a3 : Bool} {a4 a5 : Int} {a6 : ByteArray} {a7 : Int}
theorem sub48 {r : ByteArray} (h : r.size = 1) (h1 : 49 ≤ bt r 0) (h2 : bt r 0 ≤ 52) : IntKind.i64.wrap (subW .u8 (bt r 0) 48) = bt r 0 - 48 := by
  have e2 : subW .u8 (bt r 0) 48 = bt r 0 - 48 := by
    unfold subW
    simp [IntKind.wrap, IntKind.signed, IntKind.bits]
    omega
  rw [e2, wrap_i64 (by omega) (by omega)]
theorem F12.eq {l : List Pp} (hs : l.length ≤ 100000) (hv : (getL ⟨#[100, 105, 101, 100]⟩ l).size ≤ 100000) : F12.P a0 a1 a2 a3 a4 a5 a6 a7 (props l) = some (.tup [.str (fromS (getL ⟨#[100, 105, 101, 100]⟩ l)).1, .int .i64 (fromS (getL ⟨#[100, 105, 101, 100]⟩ l)).2]) := by
  refine lim_eq ?_
  rw [F30.eq hs]
  generalize getL ⟨#[100, 105, 101, 100]⟩ l = s at hv
  simp only [↓bind_s, isTup_t, Bool.true_and, tt_beq, tupVs_t, headD_c, tail_c, isStr_s, isBool_b, List.length_cons, List.length_nil, Nat.zero_add, Nat.reduceAdd, if_true, toStr_str, toBool_bool]
  rw [F31.eq hv]
  unfold fromS
  generalize (cutV s).1 = n
  generalize (cutV s).2.1 = r
  generalize (cutV s).2.2 = ok
  have hz : sizeI r = (r.size : Int) := rfl
  simp only [↓bind_s, isTup_t, Bool.true_and, tt_beq, tupVs_t, headD_c, tail_c, isStr_s, isBool_b, List.length_cons, List.length_nil, Nat.zero_add, Nat.reduceAdd, if_true, toStr_str, toBool_bool]
  simp only [F32.eq, hz]
  cases ok
  · (simp (disch := first | omega | rfl) only [PS, ite_t, ite_f, ↓bind_s, List.length_cons, List.length_nil, addW_eq, subW_eq, if_pos, if_neg])
    refine Ev.succ ?_
    simp only [F12.PL]
    (simp (disch := first | omega | rfl) only [PS, ite_t, ite_f, ↓bind_s, List.length_cons, List.length_nil, addW_eq, subW_eq, if_pos, if_neg])
    simpa using Ev.const
  · cases hn : nameB n
    · (simp (disch := first | omega | rfl) only [PS, ite_t, ite_f, ↓bind_s, List.length_cons, List.length_nil, addW_eq, subW_eq, if_pos, if_neg])
      refine Ev.succ ?_
      simp only [F12.PL]
      (simp (disch := first | omega | rfl) only [PS, ite_t, ite_f, ↓bind_s, List.length_cons, List.length_nil, addW_eq, subW_eq, if_pos, if_neg])
      simpa using Ev.const
    · by_cases h1 : r.size = 1
      · by_cases h2 : 49 ≤ bt r 0
        · by_cases h3 : bt r 0 ≤ 52
          · (simp (disch := first | omega | rfl) only [PS, ite_t, ite_f, ↓bind_s, List.length_cons, List.length_nil, addW_eq, subW_eq, if_pos, if_neg])
            refine Ev.succ ?_
            simp only [F12.PL, hz, ltI, sub48 h1 h2 h3]
            (simp (disch := first | omega | rfl) only [PS, ite_t, ite_f, ↓bind_s, List.length_cons, List.length_nil, addW_eq, subW_eq, if_pos, if_neg])
            simpa [reasonB, h1, h2, h3] using Ev.const
          · (simp (disch := first | omega | rfl) only [PS, ite_t, ite_f, ↓bind_s, List.length_cons, List.length_nil, addW_eq, subW_eq, if_pos, if_neg])
            refine Ev.succ ?_
            simp only [F12.PL, ltI]
            (simp (disch := first | omega | rfl) only [PS, ite_t, ite_f, ↓bind_s, List.length_cons, List.length_nil, addW_eq, subW_eq, if_pos, if_neg])
            simpa [reasonB, h1, h2, h3] using Ev.const
        · (simp (disch := first | omega | rfl) only [PS, ite_t, ite_f, ↓bind_s, List.length_cons, List.length_nil, addW_eq, subW_eq, if_pos, if_neg])
          refine Ev.succ ?_
          simp only [F12.PL]
          (simp (disch := first | omega | rfl) only [PS, ite_t, ite_f, ↓bind_s, List.length_cons, List.length_nil, addW_eq, subW_eq, if_pos, if_neg])
          simpa [reasonB, h1, h2] using Ev.const
      · (simp (disch := first | omega | rfl) only [PS, ite_t, ite_f, ↓bind_s, List.length_cons, List.length_nil, addW_eq, subW_eq, if_pos, if_neg])
        refine Ev.succ ?_
        simp only [F12.PL]
        (simp (disch := first | omega | rfl) only [PS, ite_t, ite_f, ↓bind_s, List.length_cons, List.length_nil, addW_eq, subW_eq, if_pos, if_neg])
        simpa [reasonB, h1] using Ev.const
theorem F13.eq {l : List Pp} (hs : l.length ≤ 100000) (hv : (getL ⟨#[100, 105, 101, 100]⟩ l).size ≤ 100000) : F13.P a0 a1 a2 a3 a4 a5 a6 a7 (props l) = some (.tup [.str (fromS (getL ⟨#[100, 105, 101, 100]⟩ l)).1, .int .i64 (fromS (getL ⟨#[100, 105, 101, 100]⟩ l)).2]) := by
  refine lim_eq ?_
  rw [F33.eq hs]
  generalize getL ⟨#[100, 105, 101, 100]⟩ l = s at hv
  simp only [↓bind_s, isTup_t, Bool.true_and, tt_beq, tupVs_t, headD_c, tail_c, isStr_s, isBool_b, List.length_cons, List.length_nil, Nat.zero_add, Nat.reduceAdd, if_true, toStr_str, toBool_bool]
  rw [F31.eq hv]
  unfold fromS
  generalize (cutV s).1 = n
  generalize (cutV s).2.1 = r
  generalize (cutV s).2.2 = ok
  have hz : sizeI r = (r.size : Int) := rfl
  simp only [↓bind_s, isTup_t, Bool.true_and, tt_beq, tupVs_t, headD_c, tail_c, isStr_s, isBool_b, List.length_cons, List.length_nil, Nat.zero_add, Nat.reduceAdd, if_true, toStr_str, toBool_bool]
  simp only [F25.eq, hz]
  cases ok
  · (simp (disch := first | omega | rfl) only [PS, ite_t, ite_f, ↓bind_s, List.length_cons, List.length_nil, addW_eq, subW_eq, if_pos, if_neg])
    refine Ev.succ ?_
    simp only [F13.PL]
    (simp (disch := first | omega | rfl) only [PS, ite_t, ite_f, ↓bind_s, List.length_cons, List.length_nil, addW_eq, subW_eq, if_pos, if_neg])
    simpa using Ev.const
  · cases hn : nameB n
    · (simp (disch := first | omega | rfl) only [PS, ite_t, ite_f, ↓bind_s, List.length_cons, List.length_nil, addW_eq, subW_eq, if_pos, if_neg])
      refine Ev.succ ?_
      simp only [F13.PL]
      (simp (disch := first | omega | rfl) only [PS, ite_t, ite_f, ↓bind_s, List.length_cons, List.length_nil, addW_eq, subW_eq, if_pos, if_neg])
      simpa using Ev.const
    · by_cases h1 : r.size = 1
      · have q1 : ltS r ⟨#[49]⟩ = decide (bt r 0 < 49) := (lt_one h1 49).1
        have q2 : ltS ⟨#[52]⟩ r = decide (52 < bt r 0) := (lt_one h1 52).2
        simp only [q1, q2]
        by_cases h2 : 49 ≤ bt r 0
        · by_cases h3 : bt r 0 ≤ 52
          · (simp (disch := first | omega | rfl) only [PS, ite_t, ite_f, ↓bind_s, List.length_cons, List.length_nil, addW_eq, subW_eq, if_pos, if_neg])
            refine Ev.succ ?_
            simp only [F13.PL, hz, sub48 h1 h2 h3]
            (simp (disch := first | omega | rfl) only [PS, ite_t, ite_f, ↓bind_s, List.length_cons, List.length_nil, addW_eq, subW_eq, if_pos, if_neg])
            simpa [reasonB, h1, h2, h3] using Ev.const
          · (simp (disch := first | omega | rfl) only [PS, ite_t, ite_f, ↓bind_s, List.length_cons, List.length_nil, addW_eq, subW_eq, if_pos, if_neg])
            refine Ev.succ ?_
            simp only [F13.PL]
            (simp (disch := first | omega | rfl) only [PS, ite_t, ite_f, ↓bind_s, List.length_cons, List.length_nil, addW_eq, subW_eq, if_pos, if_neg])
            simpa [reasonB, h1, h2, h3] using Ev.const
        · (simp (disch := first | omega | rfl) only [PS, ite_t, ite_f, ↓bind_s, List.length_cons, List.length_nil, addW_eq, subW_eq, if_pos, if_neg])
          refine Ev.succ ?_
          simp only [F13.PL]
          (simp (disch := first | omega | rfl) only [PS, ite_t, ite_f, ↓bind_s, List.length_cons, List.length_nil, addW_eq, subW_eq, if_pos, if_neg])
          simpa [reasonB, h1, h2] using Ev.const
      · (simp (disch := first | omega | rfl) only [PS, ite_t, ite_f, ↓bind_s, List.length_cons, List.length_nil, addW_eq, subW_eq, if_pos, if_neg])
        refine Ev.succ ?_
        simp only [F13.PL]
        (simp (disch := first | omega | rfl) only [PS, ite_t, ite_f, ↓bind_s, List.length_cons, List.length_nil, addW_eq, subW_eq, if_pos, if_neg])
        simpa [reasonB, h1] using Ev.const
def againS (l : List Pp) : Bool := decide (deathsS (getL ⟨#[100, 101, 97, 116, 104, 115]⟩ l) < 8)
theorem F16.eq {l : List Pp} (hs : l.length ≤ 100000) : F16.P a0 a1 a2 a3 a4 a5 a6 a7 (props l) = some (.bool (againS l)) := by
  unfold F16.P
  rw [F14.eq hs]
  (simp (disch := first | omega | rfl) only [PS, ite_t, ite_f, ↓bind_s, List.length_cons, List.length_nil, addW_eq, subW_eq, if_pos, if_neg])
  rfl
theorem F17.eq {l : List Pp} (hs : l.length ≤ 100000) : F17.P a0 a1 a2 a3 a4 a5 a6 a7 (props l) = some (.bool (againS l)) := by
  unfold F17.P
  rw [F15.eq hs]
  (simp (disch := first | omega | rfl) only [PS, ite_t, ite_f, ↓bind_s, List.length_cons, List.length_nil, addW_eq, subW_eq, if_pos, if_neg])
  rfl
end
end Go.Proofs.YtlaieomjooeofaaDoor.Ab
