/- Heal: what its functions compute, part three: Get, Set. -/
import Derived.Test.YtkjmkhgaghighaaHealInsert
namespace Go.Proofs.Ytkjmkhgaghighaa.Ab
open Go
set_option linter.unusedSimpArgs false

theorem G_tup2 {x y : AV} {p : Prop} : G ((AV.tup [x, y]).isTup && Nat.beq (AV.tup [x, y]).tupVs.length 2) p = p := rfl
theorem tup2_0 {x y : AV} : ((AV.tup [x, y]).tupVs).headD .any = x := rfl
theorem tup2_1 {x y : AV} : (((AV.tup [x, y]).tupVs).tail).headD .any = y := rfl
theorem G_own' {v : AV} {p : Prop} (h : v.isOwn 5 = true) : G (v.isOwn 5) p = p := by rw [h]; rfl

theorem low_cases (k : ByteArray) : ∀ (xs : List Cl) (n : Nat), ∃ pre post, xs = pre ++ post ∧ (low k xs n).1 = n + pre.length ∧ (∀ d ∈ pre, ltS d.key k = true) ∧
    ((post = [] ∧ (low k xs n).2 = false) ∨ ∃ c r, post = c :: r ∧ ltS c.key k = false ∧ (low k xs n).2 = eqS c.key k)
  | [], n => ⟨[], [], rfl, rfl, by simp, .inl ⟨rfl, rfl⟩⟩
  | c :: r, n => by
    cases h : ltS c.key k with
    | false => exact ⟨[], c :: r, rfl, by simp [low, h], by simp, .inr ⟨c, r, rfl, h, by simp [low, h]⟩⟩
    | true =>
      obtain ⟨pre, post, h1, h2, h3, h4⟩ := low_cases k r (n + 1)
      refine ⟨c :: pre, post, by rw [h1]; rfl, ?_, by simpa [h] using h3, ?_⟩
      · simp only [low, h, if_true, h2, List.length_cons]; omega
      · simpa only [low, h, if_true] using h4

/-! heal.Get -/
def getH (xs : List Cl) (k : ByteArray) : ByteArray × Bool := match (low k xs 0).2, xs[(low k xs 0).1]? with | true, some c => if c.gone then (⟨#[]⟩, false) else (c.value, true) | _, _ => (⟨#[]⟩, false)
theorem F16.spec {xs : List Cl} {k : ByteArray} {H : Heap} {Q : AV → Heap → Prop} (hs : xs.length ≤ 140737488355328) (h : ∀ H, Q (.tup [.str (getH xs k).1, .bool (getH xs k).2]) H) : C 16 [.sl 0 5 (rows xs), .str k] H Q := by
  refine F16.call ?_
  unfold F16.t
  refine F33.spec hs fun H1 => ?_
  have h := h (H.past H1)
  simp only [G_tup2, tup2_0, tup2_1]
  ((try simp only [G_int, G_bool, G_str, G_sl, G_own, toInt_int, toBool_bool, toStr_str, slXs_sl, enc_0, enc_1, enc_2, enc_3, enc_4, lenI_rows]); (try simp only [ci_lt, ci_le, ci_eq, ci_eqS, ci_nblt, ci_nble, cond_not, G_lt, G_le, G_eq, G_nble, G_nblt, G_room, G_roomN, cond_true, cond_false, G_true, Nat.add_zero]))
  unfold getH at h
  obtain ⟨pre, post, h1, h2, h3, h4⟩ := low_cases k xs 0
  rw [Nat.zero_add] at h2
  rcases h4 with ⟨rfl, h5⟩ | ⟨c, r, rfl, h5, h6⟩
  · rw [h5]
    rw [h5] at h
    simpa only [cond_false] using h
  · have hl := fits_len h1
    have hc : xs[pre.length]? = some c := by rw [h1]; simp
    rw [h2, hc] at h
    rw [h2, row_mid h1]
    ((try simp only [G_int, G_bool, G_str, G_sl, G_own, toInt_int, toBool_bool, toStr_str, slXs_sl, enc_0, enc_1, enc_2, enc_3, enc_4, lenI_rows]); (try simp only [ci_lt, ci_le, ci_eq, ci_eqS, ci_nblt, ci_nble, cond_not, G_lt, G_le, G_eq, G_nble, G_nblt, G_room, G_roomN, cond_true, cond_false, G_true, Nat.add_zero]))
    cases hb : (low k xs 0).2 <;> rw [hb] at h
    · simpa only [cond_false] using h
    · simp only [cond_true]
      refine ⟨by omega, by omega, ?_⟩
      cases hg : c.gone
      · simp only [cond_false]
        simp only [hg, Bool.false_eq_true, if_false] at h
        exact ⟨by omega, by omega, h⟩
      · simp only [cond_true]
        simpa [hg] using h

/-! Set -/
def setV (r : List Cl × Int) : AV := if r.2 = 0 then .tup [.sl 0 5 (rows r.1), .int .i64 0] else .tup [.nilsl, .int .i64 r.2]
def setR (xs : List Cl) (d : Cl) : List Cl × Int :=
  if oneE d = 0 then match xs.find? (keyIs d.key) with
    | some c => if higher d c then (putL xs d, 0) else ([], 25)
    | none => if 256 ≤ xs.length then ([], 6) else (putL xs d, 0)
  else ([], oneE d)
theorem F14.spec {xs : List Cl} {d : Cl} {H : Heap} {Q : AV → Heap → Prop} (hs : xs.length ≤ 100000) (h : ∀ H, Q (setV (setR xs d)) H) : C 14 [.sl 0 5 (rows xs), .agg d.enc] H Q := by
  refine F14.call ?_
  unfold F14.t
  refine F30.spec (c := d) fun H1 => ?_
  ((try simp only [G_int, G_bool, G_str, G_sl, G_own, toInt_int, toBool_bool, toStr_str, slXs_sl, enc_0, enc_1, enc_2, enc_3, enc_4, lenI_rows]); (try simp only [ci_lt, ci_le, ci_eq, ci_eqS, ci_nblt, ci_nble, cond_not, G_lt, G_le, G_eq, G_nble, G_nblt, G_room, G_roomN, cond_true, cond_false, G_true, Nat.add_zero]))
  refine ⟨fun e => ?_, fun e => ?_⟩
  · refine F36.spec (by omega) fun H2 => ?_
    ((try simp only [G_int, G_bool, G_str, G_sl, G_own, toInt_int, toBool_bool, toStr_str, slXs_sl, enc_0, enc_1, enc_2, enc_3, enc_4, lenI_rows]); (try simp only [ci_lt, ci_le, ci_eq, ci_eqS, ci_nblt, ci_nble, cond_not, G_lt, G_le, G_eq, G_nble, G_nblt, G_room, G_roomN, cond_true, cond_false, G_true, Nat.add_zero]))
    rcases idx_cases (keyIs d.key) xs 0 with ⟨h1, h2⟩ | ⟨pre, c, post, h1, h2, h3, h4⟩
    · have hf : xs.find? (keyIs d.key) = none := by simpa using h2
      rw [h1]
      refine ⟨fun e => absurd e (by omega), fun _ => ⟨fun _ => ⟨fun e1 => ?_, fun e1 => ?_⟩, fun e => absurd (by omega) e⟩⟩
      · have h := h (H.past H2)
        rw [setR, if_pos e, hf, setV] at h
        have e2 : 256 ≤ xs.length := by omega
        simpa [e2] using h
      · refine F38.spec hs fun H3 => ?_
        ((try simp only [G_int, G_bool, G_str, G_sl, G_own, toInt_int, toBool_bool, toStr_str, slXs_sl, enc_0, enc_1, enc_2, enc_3, enc_4, lenI_rows]); (try simp only [ci_lt, ci_le, ci_eq, ci_eqS, ci_nblt, ci_nble, cond_not, G_lt, G_le, G_eq, G_nble, G_nblt, G_room, G_roomN, cond_true, cond_false, G_true, Nat.add_zero]))
        have h := h (H.past H3)
        rw [setR, if_pos e, hf, setV] at h
        have e2 : ¬ 256 ≤ xs.length := by omega
        simpa [e2] using h
    · have hl := fits_len h1
      have hf : xs.find? (keyIs d.key) = some c := by
        rw [h1, List.find?_append, List.find?_cons, h3]
        have : pre.find? (keyIs d.key) = none := by simpa using h4
        rw [this]; rfl
      rw [h2, Nat.zero_add, row_mid h1]
      ((try simp only [G_int, G_bool, G_str, G_sl, G_own, toInt_int, toBool_bool, toStr_str, slXs_sl, enc_0, enc_1, enc_2, enc_3, enc_4, lenI_rows]); (try simp only [ci_lt, ci_le, ci_eq, ci_eqS, ci_nblt, ci_nble, cond_not, G_lt, G_le, G_eq, G_nble, G_nblt, G_room, G_roomN, cond_true, cond_false, G_true, Nat.add_zero]))
      refine ⟨fun _ => ⟨by omega, by omega, ?_⟩, fun e => absurd (by omega) e⟩
      refine F37.spec (a := d) (b := c) fun H3 => ?_
      ((try simp only [G_int, G_bool, G_str, G_sl, G_own, toInt_int, toBool_bool, toStr_str, slXs_sl, enc_0, enc_1, enc_2, enc_3, enc_4, lenI_rows]); (try simp only [ci_lt, ci_le, ci_eq, ci_eqS, ci_nblt, ci_nble, cond_not, G_lt, G_le, G_eq, G_nble, G_nblt, G_room, G_roomN, cond_true, cond_false, G_true, Nat.add_zero]))
      cases hh : higher d c
      · rw [cond_false]
        have h := h (H.past H3)
        rw [setR, if_pos e, hf] at h
        simpa [hh, setV] using h
      · rw [cond_true]
        refine ⟨fun e => absurd e (by omega), fun _ => ?_⟩
        refine F38.spec hs fun H4 => ?_
        ((try simp only [G_int, G_bool, G_str, G_sl, G_own, toInt_int, toBool_bool, toStr_str, slXs_sl, enc_0, enc_1, enc_2, enc_3, enc_4, lenI_rows]); (try simp only [ci_lt, ci_le, ci_eq, ci_eqS, ci_nblt, ci_nble, cond_not, G_lt, G_le, G_eq, G_nble, G_nblt, G_room, G_roomN, cond_true, cond_false, G_true, Nat.add_zero]))
        have h := h (H.past H4)
        rw [setR, if_pos e, hf] at h
        simpa [hh, setV] using h
  · have h := h (H.past H1)
    rw [setR, if_neg e, setV, if_neg e] at h
    exact h
def setH (xs : List Cl) (d : Cl) : List Cl × Int :=
  if oneE d = 0 then match (low d.key xs 0).2, xs[(low d.key xs 0).1]? with
    | true, some c => if higher d c then (xs.set (low d.key xs 0).1 d, 0) else ([], 25)
    | _, _ => if 256 ≤ xs.length then ([], 6) else (xs.take (low d.key xs 0).1 ++ d :: xs.drop (low d.key xs 0).1, 0)
  else ([], oneE d)
theorem enc_set (c d : Cl) : ((((c.enc.set 0 (.str d.key)).set 1 (.str d.value)).set 2 (.bool d.gone)).set 3 (.int .i64 d.epoch)).set 4 (.int .i64 d.node) = d.enc := rfl
theorem rows_set {xs : List Cl} {d : Cl} {i : Nat} : (rows xs).set i d.enc = rows (xs.set i d) := by simp [rows]
theorem F13.spec {xs : List Cl} {d : Cl} {H : Heap} {Q : AV → Heap → Prop} (hs : xs.length ≤ 100000) (h : ∀ H, Q (setV (setH xs d)) H) : C 13 [.sl 0 5 (rows xs), .agg d.enc] H Q := by
  refine F13.call ?_
  unfold F13.t
  refine F32.spec (c := d) fun H1 => ?_
  ((try simp only [G_int, G_bool, G_str, G_sl, G_own, toInt_int, toBool_bool, toStr_str, slXs_sl, enc_0, enc_1, enc_2, enc_3, enc_4, lenI_rows]); (try simp only [ci_lt, ci_le, ci_eq, ci_eqS, ci_nblt, ci_nble, cond_not, G_lt, G_le, G_eq, G_nble, G_nblt, G_room, G_roomN, cond_true, cond_false, G_true, Nat.add_zero]))
  refine ⟨fun e => ?_, fun e => ?_⟩
  · refine F33.spec (by omega) fun H2 => ?_
    simp only [G_tup2, tup2_0, tup2_1]
    ((try simp only [G_int, G_bool, G_str, G_sl, G_own, toInt_int, toBool_bool, toStr_str, slXs_sl, enc_0, enc_1, enc_2, enc_3, enc_4, lenI_rows]); (try simp only [ci_lt, ci_le, ci_eq, ci_eqS, ci_nblt, ci_nble, cond_not, G_lt, G_le, G_eq, G_nble, G_nblt, G_room, G_roomN, cond_true, cond_false, G_true, Nat.add_zero]))
    have h : ∀ H, Q (setV (match (low d.key xs 0).2, xs[(low d.key xs 0).1]? with
      | true, some c => if higher d c then (xs.set (low d.key xs 0).1 d, 0) else ([], 25)
      | _, _ => if 256 ≤ xs.length then ([], 6) else (xs.take (low d.key xs 0).1 ++ d :: xs.drop (low d.key xs 0).1, 0))) H := fun H => by
      have := h H
      rwa [setH, if_pos e] at this
    obtain ⟨pre, post, h1, h2, h3, h4⟩ := low_cases d.key xs 0
    rw [Nat.zero_add] at h2
    have hle : pre.length ≤ xs.length := by rw [h1]; simp
    -- a new key
    have new : (low d.key xs 0).2 = false → (∀ H, Q (setV (if 256 ≤ xs.length then ([], 6) else (xs.take pre.length ++ d :: xs.drop pre.length, 0))) H) → ∀ H3 : Heap, (((256 : Int) ≤ xs.length → Q (.tup [.nilsl, .int .i64 6]) H3) ∧ (¬ (256 : Int) ≤ xs.length → C 26 [.sl 0 5 (rows xs)] (H3.none) fun v H4 => G (v.isOwn 5) (ioBack C 35 5 v.slXs [.int .i64 pre.length, .sl 0 5 [d.enc]] (H.past H4) fun y H5 => Q (.tup [.sl 0 5 y, .int .i64 0]) H5))) := by
      intro hb h H3
      refine ⟨fun e1 => ?_, fun e1 => ?_⟩
      · have h := h H3
        have e2 : 256 ≤ xs.length := by omega
        simpa [e2, setV] using h
      · refine F26.spec hs fun v H4 hv hx => ?_
        rw [G_own' hv, hx]
        refine insert_spec hle hs fun H5 => ?_
        have h := h H5
        have e2 : ¬ 256 ≤ xs.length := by omega
        simpa [e2, setV] using h
    rcases h4 with ⟨rfl, h5⟩ | ⟨c, r, rfl, h5, h6⟩
    · rw [h2, h5] at h
      rw [h5, h2]
      simp only [cond_false]
      exact new h5 h _
    · have hl := fits_len h1
      have hc : xs[pre.length]? = some c := by rw [h1]; simp
      rw [h2, hc] at h
      rw [h2, row_mid h1]
      ((try simp only [G_int, G_bool, G_str, G_sl, G_own, toInt_int, toBool_bool, toStr_str, slXs_sl, enc_0, enc_1, enc_2, enc_3, enc_4, lenI_rows]); (try simp only [ci_lt, ci_le, ci_eq, ci_eqS, ci_nblt, ci_nble, cond_not, G_lt, G_le, G_eq, G_nble, G_nblt, G_room, G_roomN, cond_true, cond_false, G_true, Nat.add_zero]))
      cases hb : (low d.key xs 0).2 <;> rw [hb] at h
      · simp only [cond_false]
        exact new hb h _
      · simp only [cond_true]
        refine ⟨by omega, by omega, ?_⟩
        refine F34.spec (a := d) (b := c) fun H3 => ?_
        ((try simp only [G_int, G_bool, G_str, G_sl, G_own, toInt_int, toBool_bool, toStr_str, slXs_sl, enc_0, enc_1, enc_2, enc_3, enc_4, lenI_rows]); (try simp only [ci_lt, ci_le, ci_eq, ci_eqS, ci_nblt, ci_nble, cond_not, G_lt, G_le, G_eq, G_nble, G_nblt, G_room, G_roomN, cond_true, cond_false, G_true, Nat.add_zero]))
        cases hh : higher d c
        · rw [cond_false]
          have h := h (H.past H3)
          simpa [hh, setV] using h
        · rw [cond_true]
          refine F26.spec hs fun v H4 hv hx => ?_
          rw [G_own' hv, hx]
          rw [row_mid h1, enc_set, Int.toNat_natCast, rows_set]
          ((try simp only [G_int, G_bool, G_str, G_sl, G_own, toInt_int, toBool_bool, toStr_str, slXs_sl, enc_0, enc_1, enc_2, enc_3, enc_4, lenI_rows]); (try simp only [ci_lt, ci_le, ci_eq, ci_eqS, ci_nblt, ci_nble, cond_not, G_lt, G_le, G_eq, G_nble, G_nblt, G_room, G_roomN, cond_true, cond_false, G_true, Nat.add_zero]))
          refine ⟨by omega, by omega, ?_⟩
          have h := h (H.past H4)
          simpa [hh, setV] using h
  · have h := h (H.past H1)
    rw [setH, if_neg e, setV, if_neg e] at h
    exact h
end Go.Proofs.Ytkjmkhgaghighaa.Ab
