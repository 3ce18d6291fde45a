/- For contracts: what the trees' conditions say, in plain Lean. -/
import Derived.Test.YtbkkhhmjmbbfpaaAbMono
import Derived.Laws.RangeAny
import Derived.Sort.Walk0
import Derived.Lib.Strings
namespace Go.Proofs.Ytbkkhhmjmbbfpaa.Ab
open Go
set_option linter.unusedSimpArgs false

section
variable {p q : Prop} {a b c : Int} {s t : ByteArray} {x y : Bool} {m n : Nat}
theorem cond_lt : cond (ltI a b) p q = if a < b then p else q := by unfold ltI; by_cases h : a < b <;> simp [h]
theorem cond_le : cond (leI a b) p q = if a ≤ b then p else q := by unfold leI; by_cases h : a ≤ b <;> simp [h]
theorem cond_eq : cond (eqI a b) p q = if a = b then p else q := by unfold eqI; by_cases h : a = b <;> simp [h]
theorem cond_eqS : cond (eqS s t) p q = if s = t then p else q := by unfold eqS; by_cases h : s = t <;> simp [h]
theorem cond_nblt : cond (Nat.blt m n) p q = if m < n then p else q := by
  by_cases h : m < n
  · rw [if_pos h, show Nat.blt m n = true by rw [Nat.blt_eq]; exact h]; rfl
  · rw [if_neg h, show Nat.blt m n = false by
      cases hb : Nat.blt m n with
      | false => rfl
      | true => rw [Nat.blt_eq] at hb; exact absurd hb h]; rfl
theorem cond_nble : cond (Nat.ble m n) p q = if m ≤ n then p else q := by
  by_cases h : m ≤ n
  · rw [if_pos h, show Nat.ble m n = true by rw [Nat.ble_eq]; exact h]; rfl
  · rw [if_neg h, show Nat.ble m n = false by
      cases hb : Nat.ble m n with
      | false => rfl
      | true => rw [Nat.ble_eq] at hb; exact absurd hb h]; rfl
theorem cond_ltS : cond (ltS s t) p q = if s.data.toList < t.data.toList then p else q := by
  unfold ltS
  rw [bytesLess_eq]
  rw [Lib.toList_data, Lib.toList_data]
  by_cases h : s.data.toList < t.data.toList <;> simp [h]
theorem cond_not : cond (!x) p q = cond x q p := by cases x <;> rfl
theorem cond_bool : cond x p q = if x = true then p else q := by cases x <;> simp
theorem cond_dec [Decidable p] {r s : Prop} : cond (decide p) r s = if p then r else s := by by_cases h : p <;> simp [h]
theorem imp_of {r : Prop} [Decidable r] (h : x = decide r) : cond x p q = ((r → p) ∧ (¬ r → q)) := by
  subst h
  by_cases h : r <;> simp [h]
theorem ci_lt : cond (ltI a b) p q = ((a < b → p) ∧ (¬ a < b → q)) := imp_of rfl
theorem ci_le : cond (leI a b) p q = ((a ≤ b → p) ∧ (¬ a ≤ b → q)) := imp_of rfl
theorem ci_eq : cond (eqI a b) p q = ((a = b → p) ∧ (¬ a = b → q)) := imp_of rfl
theorem ci_eqS : cond (eqS s t) p q = ((s = t → p) ∧ (¬ s = t → q)) := imp_of rfl
theorem ci_bool : cond x p q = ((x = true → p) ∧ (x = false → q)) := by cases x <;> simp
theorem ci_nblt : cond (Nat.blt m n) p q = ((m < n → p) ∧ (¬ m < n → q)) := by rw [cond_nblt]; by_cases h : m < n <;> simp [h]
theorem ci_nble : cond (Nat.ble m n) p q = ((m ≤ n → p) ∧ (¬ m ≤ n → q)) := by rw [cond_nble]; by_cases h : m ≤ n <;> simp [h]
theorem G_lt : G (ltI a b) p = (a < b ∧ p) := by unfold G ltI; by_cases h : a < b <;> simp [h]
theorem G_le : G (leI a b) p = (a ≤ b ∧ p) := by unfold G leI; by_cases h : a ≤ b <;> simp [h]
theorem G_eq : G (eqI a b) p = (a = b ∧ p) := by unfold G eqI; by_cases h : a = b <;> simp [h]
theorem G_nble : G (Nat.ble m n) p = (m ≤ n ∧ p) := by unfold G; rw [cond_nble]; by_cases h : m ≤ n <;> simp [h]
theorem G_nblt : G (Nat.blt m n) p = (m < n ∧ p) := by unfold G; rw [cond_nblt]; by_cases h : m < n <;> simp [h]
theorem G_true : G true p = p := rfl
theorem G_iff : G x p = (x = true ∧ p) := by cases x <;> simp [G]
theorem G_room {xs ys : List (List AV)} : G (room xs ys m) p = ((xs.length + ys.length) * m ≤ 140737488355328 ∧ p) := by unfold room; rw [G_nble]
theorem G_roomN : G (roomN a m) p = (a * (m : Int) ≤ 140737488355328 ∧ p) := by unfold roomN; rw [G_le]
theorem wrap_i64 (h1 : -9223372036854775808 ≤ a) (h2 : a ≤ 9223372036854775807) : IntKind.i64.wrap a = a := by simp [IntKind.wrap, IntKind.signed, IntKind.bits]; omega
theorem addW_eq (h1 : -9223372036854775808 ≤ a + b) (h2 : a + b ≤ 9223372036854775807) : addW .i64 a b = a + b := wrap_i64 h1 h2
theorem subW_eq (h1 : -9223372036854775808 ≤ a - b) (h2 : a - b ≤ 9223372036854775807) : subW .i64 a b = a - b := wrap_i64 h1 h2
end

/-! Values, seen through their accessors. -/
theorem isInt_int (k : IntKind) (n : Int) : (AV.int k n).isInt k = true := by simp [AV.isInt]
theorem G_int {k : IntKind} {n : Int} {p : Prop} : G ((AV.int k n).isInt k) p = p := by rw [isInt_int]; rfl
theorem G_bool {b : Bool} {p : Prop} : G ((AV.bool b).isBool) p = p := rfl
theorem G_str {s : ByteArray} {p : Prop} : G ((AV.str s).isStr) p = p := rfl
theorem G_sl {k : Nat} {xs : List (List AV)} {p : Prop} : G ((AV.sl 0 k xs).isSl k) p = p := by simp [AV.isSl, G]
theorem G_own {t k : Nat} {xs : List (List AV)} {p : Prop} : G ((AV.sl (t + 1) k xs).isOwn k) p = p := by simp [AV.isOwn, G]
theorem toInt_int {k : IntKind} {n : Int} : (AV.int k n).toInt = n := rfl
theorem toBool_bool {b : Bool} : (AV.bool b).toBool = b := rfl
theorem toStr_str {s : ByteArray} : (AV.str s).toStr = s := rfl
theorem slXs_sl {t k : Nat} {xs : List (List AV)} : (AV.sl t k xs).slXs = xs := rfl


/-! Strings as lists. -/
def bs (s : ByteArray) : List UInt8 := s.data.toList
theorem bs_size (s : ByteArray) : s.size = (bs s).length := by simp [bs]
theorem sizeI_bs (s : ByteArray) : sizeI s = ((bs s).length : Int) := by unfold sizeI; rw [bs_size]
theorem bs_inj {s t : ByteArray} (h : bs s = bs t) : s = t := by
  cases s; cases t
  simp only [bs] at h
  congr 1
  exact Array.toList_inj.1 h
theorem bt_mid {s : ByteArray} {pre post : List UInt8} {x : UInt8} (h : bs s = pre ++ x :: post) : bt s (pre.length : Int) = (x.toNat : Int) := by
  unfold bt
  have : s.data.toList = pre ++ x :: post := h
  rw [this]
  simp
theorem lenI_nat {α : Type} (l : List α) : lenI l = (l.length : Int) := rfl

/-! A range over a string: its ASCII runes are its ASCII bytes. -/
theorem get_bs {s : ByteArray} {i : Nat} (h : i < s.size) : s.get! i = (bs s)[i]'(by rw [← bs_size]; exact h) := by
  have : s.get! i = s[i]'h := by
    show s.get! i = _
    simp [ByteArray.get!, getElem!_pos, h]
    rfl
  rw [this]
  rfl
theorem decode_at_ascii {s : ByteArray} {i : Nat} (h : i < s.size) (ha : ((bs s)[i]'(by rw [← bs_size]; exact h)).toNat < 128) : Utf8.decode s i = (((bs s)[i]'(by rw [← bs_size]; exact h)).toNat, 1) := decode_ascii s i h ha
theorem decode_at_high {s : ByteArray} {i : Nat} (h : i < s.size) (ha : 128 ≤ ((bs s)[i]'(by rw [← bs_size]; exact h)).toNat) :
    128 ≤ (Utf8.decode s i).1 ∧ 1 ≤ (Utf8.decode s i).2 ∧ i + (Utf8.decode s i).2 ≤ s.size ∧ ∀ k, i ≤ k → k < i + (Utf8.decode s i).2 → 128 ≤ (s.get! k).toNat := by
  obtain ⟨h1, h2⟩ := decode_high s i h ha
  refine ⟨h1, h2, ?_⟩
  have hg : (s.get! (i + 0)).toNat = ((bs s)[i]'(by rw [← bs_size]; exact h)).toNat := by rw [Nat.add_zero, get_bs h]
  have h0 : ∀ k, i ≤ k → k < i + 1 → 128 ≤ (s.get! k).toNat := fun k a b => by
    have e : k = i := by omega
    rw [e, ← Nat.add_zero i, hg]; exact ha
  have hc : ∀ k, (decide (i + k < s.size) && (s.get! (i + k)).toNat / 64 == 2) = true → i + k < s.size ∧ 128 ≤ (s.get! (i + k)).toNat := fun k hk => by
    simp only [Bool.and_eq_true, decide_eq_true_eq, beq_iff_eq] at hk
    exact ⟨hk.1, by omega⟩
  simp only [Utf8.decode]
  split
  · omega
  · split
    · rename_i hb
      simp only [Bool.and_eq_true] at hb
      obtain ⟨c1, c2⟩ := hc 1 (by simpa using hb.2)
      split
      · refine ⟨by show i + 2 ≤ _; omega, fun k a b => ?_⟩
        have b : k < i + 2 := b
        by_cases e : k = i + 1
        · subst e; exact c2
        · exact h0 k a (by omega)
      · exact ⟨by show i + 1 ≤ _; omega, fun k a b => h0 k a b⟩
    · split
      · rename_i hb
        simp only [Bool.and_eq_true] at hb
        obtain ⟨c1, c2⟩ := hc 1 (by simpa using hb.1.2)
        obtain ⟨d1, d2⟩ := hc 2 (by simpa using hb.2)
        split
        · refine ⟨by show i + 3 ≤ _; omega, fun k a b => ?_⟩
          have b : k < i + 3 := b
          by_cases e : k = i + 1
          · subst e; exact c2
          · by_cases e' : k = i + 2
            · subst e'; exact d2
            · exact h0 k a (by omega)
        · exact ⟨by show i + 1 ≤ _; omega, fun k a b => h0 k a b⟩
      · split
        · rename_i hb
          simp only [Bool.and_eq_true] at hb
          obtain ⟨c1, c2⟩ := hc 1 (by simpa using hb.1.1.2)
          obtain ⟨d1, d2⟩ := hc 2 (by simpa using hb.1.2)
          obtain ⟨e1, e2⟩ := hc 3 (by simpa using hb.2)
          split
          · refine ⟨by show i + 4 ≤ _; omega, fun k a b => ?_⟩
            have b : k < i + 4 := b
            by_cases e : k = i + 1
            · subst e; exact c2
            · by_cases e' : k = i + 2
              · subst e'; exact d2
              · by_cases e'' : k = i + 3
                · subst e''; exact e2
                · exact h0 k a (by omega)
          · exact ⟨by show i + 1 ≤ _; omega, fun k a b => h0 k a b⟩
        · exact ⟨by show i + 1 ≤ _; omega, fun k a b => h0 k a b⟩
end Go.Proofs.Ytbkkhhmjmbbfpaa.Ab
