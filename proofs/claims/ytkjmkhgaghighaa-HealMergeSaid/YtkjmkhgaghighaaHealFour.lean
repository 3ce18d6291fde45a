/- Heal: what its functions compute, part four: merging. -/
import Derived.Test.YtkjmkhgaghighaaHealThree
namespace Go.Proofs.Ytkjmkhgaghighaa.Ab
open Go
set_option linter.unusedSimpArgs false

def mg {β : Type} (one : Cl → List β) (both : Cl → Cl → List β) : List Cl → List Cl → List β
  | [], [] => []
  | a :: us, [] => one a ++ mg one both us []
  | [], b :: ws => one b ++ mg one both [] ws
  | a :: us, b :: ws => if ltS a.key b.key then one a ++ mg one both us (b :: ws) else if ltS b.key a.key then one b ++ mg one both (a :: us) ws else both a b ++ mg one both us ws
  termination_by us ws => us.length + ws.length
def one1' (c : Cl) : List Cl := [c]
def both1 (a b : Cl) : List Cl := if prevB b a then [b] else [a]
def one2 (c : Cl) : List ByteArray := [c.key]
def both2 (a b : Cl) : List ByteArray := if a = b then [] else [a.key]
def mergeH (xs ys : List Cl) : List Cl := mg one1' both1 xs ys
def diffH (xs ys : List Cl) : List ByteArray := mg one2 both2 xs ys

theorem F43.spec {c : Cl} {H : Heap} {Q : AV → Heap → Prop} (h : ∀ H, Q (.str c.key) H) : C 43 [.agg c.enc] H Q := F43.call (h H)
theorem F39.spec {c : Cl} {H : Heap} {Q : AV → Heap → Prop} (h : ∀ H v, v.isSl 5 = true → v.slXs = rows (one1' c) → Q v H) : C 39 [.agg c.enc] H Q := F39.call (h H _ rfl rfl)
theorem F44.spec {c : Cl} {H : Heap} {Q : AV → Heap → Prop} (h : ∀ H v, v.isSl 1 = true → v.slXs = strs (one2 c) → Q v H) : C 44 [.agg c.enc] H Q := F44.call (h H _ rfl rfl)
theorem F40.spec {a b : Cl} {H : Heap} {Q : AV → Heap → Prop} (h : ∀ H v, v.isSl 5 = true → v.slXs = rows (both1 a b) → Q v H) : C 40 [.agg a.enc, .agg b.enc] H Q := by
  refine F40.call ?_
  unfold F40.t
  refine F41.spec (a := b) (b := a) fun H1 => ?_
  ((try simp only [G_int, G_bool, G_str, G_sl, G_own, toInt_int, toBool_bool, toStr_str, slXs_sl, enc_0, enc_1, enc_2, enc_3, enc_4, lenI_rows]); (try simp only [ci_lt, ci_le, ci_eq, ci_eqS, ci_nblt, ci_nble, cond_not, G_lt, G_le, G_eq, G_nble, G_nblt, G_room, G_roomN, cond_true, cond_false, G_true, Nat.add_zero]))
  cases e : prevB b a
  · exact h _ _ rfl (by simp [both1, e]; rfl)
  · exact h _ _ rfl (by simp [both1, e]; rfl)
theorem F45.spec {a b : Cl} {H : Heap} {Q : AV → Heap → Prop} (h : ∀ H v, v.isSl 1 = true → v.slXs = strs (both2 a b) → Q v H) : C 45 [.agg a.enc, .agg b.enc] H Q := by
  refine F45.call ?_
  unfold F45.t
  rw [cell_eq]
  by_cases e : a = b
  · rw [decide_eq_true e]
    exact h _ _ rfl (by simp [both2, e]; rfl)
  · rw [decide_eq_false e]
    exact h _ _ rfl (by simp [both2, e]; rfl)
theorem G_sl' {v : AV} {k : Nat} {p : Prop} (h : v.isSl k = true) : G (v.isSl k) p = p := by rw [h]; rfl
theorem rows_append {xs ys : List Cl} : rows xs ++ rows ys = rows (xs ++ ys) := by simp [rows]
theorem strs_append {xs ys : List ByteArray} : strs xs ++ strs ys = strs (xs ++ ys) := by simp [strs]
theorem length_strs {xs : List ByteArray} : (strs xs).length = xs.length := by simp [strs]
theorem F42.loop {xs ys : List Cl} {Q : AV → Heap → Prop} (hs : xs.length ≤ 100000) (hs' : ys.length ≤ 100000) : ∀ (n : Nat) (q1 q2 p1 p2 : List Cl) (out : List Cl) (H : Heap), n = q1.length + q2.length → xs = p1 ++ q1 → ys = p2 ++ q2 → out.length ≤ p1.length + p2.length →
    (∀ H, Q (.sl 0 5 (rows (out ++ mg one1' both1 q1 q2))) H) → F42.L0 (rows xs) (rows ys) Q (rows out) p1.length p2.length H := by
  intro n
  induction n using Nat.strongRecOn with
  | ind n ih =>
    intro q1 q2 p1 p2 out H hn h1 h2 ho hQ
    refine F42.L0_step ?_
    unfold F42.r0
    -- one element, of the first list
    have goA : ∀ (a : Cl) (t : List Cl), q1 = a :: t → (∀ H, Q (.sl 0 5 (rows (out ++ (one1' a ++ mg one1' both1 t q2)))) H) → ∀ H1 : Heap, C 39 [.agg a.enc] H1.none fun v H2 => G (v.isSl 5) (((rows out).length + v.slXs.length) * 56 ≤ 140737488355328 ∧ F42.L0 (rows xs) (rows ys) Q (rows out ++ v.slXs) (addW .i64 (p1.length : Int) 1) p2.length (H1.past H2)) := by
      rintro a t rfl hQ H1
      have hl := fits_len h1
      have hl2 : ys.length = p2.length + q2.length := by rw [h2]; simp
      refine F39.spec fun H2 v hv hx => ?_
      rw [G_sl' hv, hx, addW_eq (by omega) (by omega), rows_append]
      refine ⟨by rw [length_rows, length_rows]; simp only [one1', List.length_singleton]; omega, ?_⟩
      have := ih (t.length + q2.length) (by rw [hn, List.length_cons]; omega) t q2 (p1 ++ [a]) p2 (out ++ one1' a) (H1.past H2) rfl (by rw [h1]; simp) h2 (by simp only [List.length_append, one1', List.length_singleton]; omega) (by simpa only [List.append_assoc] using hQ)
      rw [List.length_append, List.length_singleton] at this
      exact this
    have goB : ∀ (b : Cl) (t : List Cl), q2 = b :: t → (∀ H, Q (.sl 0 5 (rows (out ++ (one1' b ++ mg one1' both1 q1 t)))) H) → ∀ H1 : Heap, C 39 [.agg b.enc] H1.none fun v H2 => G (v.isSl 5) (((rows out).length + v.slXs.length) * 56 ≤ 140737488355328 ∧ F42.L0 (rows xs) (rows ys) Q (rows out ++ v.slXs) p1.length (addW .i64 (p2.length : Int) 1) (H1.past H2)) := by
      rintro b t rfl hQ H1
      have hl := fits_len h2
      have hl2 : xs.length = p1.length + q1.length := by rw [h1]; simp
      refine F39.spec fun H2 v hv hx => ?_
      rw [G_sl' hv, hx, addW_eq (by omega) (by omega), rows_append]
      refine ⟨by rw [length_rows, length_rows]; simp only [one1', List.length_singleton]; omega, ?_⟩
      have := ih (q1.length + t.length) (by rw [hn, List.length_cons]; omega) q1 t p1 (p2 ++ [b]) (out ++ one1' b) (H1.past H2) rfl h1 (by rw [h2]; simp) (by simp only [List.length_append, one1', List.length_singleton]; omega) (by simpa only [List.append_assoc] using hQ)
      rw [List.length_append, List.length_singleton] at this
      exact this
    cases q1 with
    | nil =>
      have hl1 : xs.length = p1.length := by rw [h1]; simp
      cases q2 with
      | nil =>
        have hl2 : ys.length = p2.length := by rw [h2]; simp
        ((try simp only [G_int, G_bool, G_str, G_sl, G_own, toInt_int, toBool_bool, toStr_str, slXs_sl, enc_0, enc_1, enc_2, enc_3, enc_4, lenI_rows]); (try simp only [ci_lt, ci_le, ci_eq, ci_eqS, ci_nblt, ci_nble, cond_not, G_lt, G_le, G_eq, G_nble, G_nblt, G_room, G_roomN, cond_true, cond_false, G_true, Nat.add_zero]))
        refine ⟨fun e => absurd e (by omega), fun _ => ⟨fun e => absurd e (by omega), fun _ => ?_⟩⟩
        have := hQ H
        rw [mg, List.append_nil] at this
        exact this
      | cons b t =>
        have hl2 := fits_len h2
        rw [row_mid h2]
        ((try simp only [G_int, G_bool, G_str, G_sl, G_own, toInt_int, toBool_bool, toStr_str, slXs_sl, enc_0, enc_1, enc_2, enc_3, enc_4, lenI_rows]); (try simp only [ci_lt, ci_le, ci_eq, ci_eqS, ci_nblt, ci_nble, cond_not, G_lt, G_le, G_eq, G_nble, G_nblt, G_room, G_roomN, cond_true, cond_false, G_true, Nat.add_zero]))
        refine ⟨fun e => absurd e (by omega), fun _ => ⟨fun _ => ⟨fun e => absurd e (by omega), fun _ => ⟨fun e => absurd e (by omega), fun _ => ⟨fun _ => ⟨by omega, by omega, ?_⟩, fun e => absurd (by omega) e⟩⟩⟩, fun e => absurd (by omega) e⟩⟩
        exact goB b t rfl (fun H => by have := hQ H; rwa [mg] at this) H
    | cons a q =>
      have hl1 := fits_len h1
      rw [row_mid h1]
      cases q2 with
      | nil =>
        have hl2 : ys.length = p2.length := by rw [h2]; simp
        ((try simp only [G_int, G_bool, G_str, G_sl, G_own, toInt_int, toBool_bool, toStr_str, slXs_sl, enc_0, enc_1, enc_2, enc_3, enc_4, lenI_rows]); (try simp only [ci_lt, ci_le, ci_eq, ci_eqS, ci_nblt, ci_nble, cond_not, G_lt, G_le, G_eq, G_nble, G_nblt, G_room, G_roomN, cond_true, cond_false, G_true, Nat.add_zero]))
        refine ⟨fun _ => ⟨fun _ => ⟨by omega, by omega, ?_⟩, fun e => absurd (by omega) e⟩, fun e => absurd (by omega) e⟩
        exact goA a q rfl (fun H => by have := hQ H; rwa [mg] at this) H
      | cons b t =>
        have hl2 := fits_len h2
        rw [row_mid h2]
        ((try simp only [G_int, G_bool, G_str, G_sl, G_own, toInt_int, toBool_bool, toStr_str, slXs_sl, enc_0, enc_1, enc_2, enc_3, enc_4, lenI_rows]); (try simp only [ci_lt, ci_le, ci_eq, ci_eqS, ci_nblt, ci_nble, cond_not, G_lt, G_le, G_eq, G_nble, G_nblt, G_room, G_roomN, cond_true, cond_false, G_true, Nat.add_zero]))
        refine ⟨fun _ => ⟨fun e => absurd e (by omega), fun _ => ⟨fun _ => ⟨by omega, by omega, ?_⟩, fun e => absurd (by omega) e⟩⟩, fun e => absurd (by omega) e⟩
        refine F43.spec (c := a) fun H1 => ?_
        ((try simp only [G_int, G_bool, G_str, G_sl, G_own, toInt_int, toBool_bool, toStr_str, slXs_sl, enc_0, enc_1, enc_2, enc_3, enc_4, lenI_rows]); (try simp only [ci_lt, ci_le, ci_eq, ci_eqS, ci_nblt, ci_nble, cond_not, G_lt, G_le, G_eq, G_nble, G_nblt, G_room, G_roomN, cond_true, cond_false, G_true, Nat.add_zero]))
        refine ⟨by omega, by omega, ?_⟩
        refine F43.spec (c := b) fun H2 => ?_
        ((try simp only [G_int, G_bool, G_str, G_sl, G_own, toInt_int, toBool_bool, toStr_str, slXs_sl, enc_0, enc_1, enc_2, enc_3, enc_4, lenI_rows]); (try simp only [ci_lt, ci_le, ci_eq, ci_eqS, ci_nblt, ci_nble, cond_not, G_lt, G_le, G_eq, G_nble, G_nblt, G_room, G_roomN, cond_true, cond_false, G_true, Nat.add_zero]))
        cases hab : ltS a.key b.key
        · rw [cond_false]
          refine ⟨fun e => absurd e (by omega), fun _ => ⟨by omega, by omega, ?_⟩⟩
          refine F43.spec (c := b) fun H3 => ?_
          ((try simp only [G_int, G_bool, G_str, G_sl, G_own, toInt_int, toBool_bool, toStr_str, slXs_sl, enc_0, enc_1, enc_2, enc_3, enc_4, lenI_rows]); (try simp only [ci_lt, ci_le, ci_eq, ci_eqS, ci_nblt, ci_nble, cond_not, G_lt, G_le, G_eq, G_nble, G_nblt, G_room, G_roomN, cond_true, cond_false, G_true, Nat.add_zero]))
          refine ⟨by omega, by omega, ?_⟩
          refine F43.spec (c := a) fun H4 => ?_
          ((try simp only [G_int, G_bool, G_str, G_sl, G_own, toInt_int, toBool_bool, toStr_str, slXs_sl, enc_0, enc_1, enc_2, enc_3, enc_4, lenI_rows]); (try simp only [ci_lt, ci_le, ci_eq, ci_eqS, ci_nblt, ci_nble, cond_not, G_lt, G_le, G_eq, G_nble, G_nblt, G_room, G_roomN, cond_true, cond_false, G_true, Nat.add_zero]))
          cases hba : ltS b.key a.key
          · rw [cond_false]
            refine ⟨by omega, by omega, by omega, by omega, ?_⟩
            refine F40.spec (a := a) (b := b) fun H5 v hv hx => ?_
            have hlen : (both1 a b).length ≤ 1 := by unfold both1; split <;> simp
            rw [G_sl' hv, hx, addW_eq (by omega) (by omega), addW_eq (by omega) (by omega), rows_append]
            refine ⟨by rw [length_rows, length_rows]; omega, ?_⟩
            have := ih (q.length + t.length) (by rw [hn, List.length_cons, List.length_cons]; omega) q t (p1 ++ [a]) (p2 ++ [b]) (out ++ both1 a b) (H.past H5) rfl (by rw [h1]; simp) (by rw [h2]; simp) (by simp only [List.length_append, List.length_singleton]; omega) (fun H => by
              have := hQ H
              rw [mg, hab, hba, if_neg (by simp), if_neg (by simp)] at this
              simpa only [List.append_assoc] using this)
            rw [List.length_append, List.length_singleton, List.length_append, List.length_singleton] at this
            exact this
          · rw [cond_true]
            refine ⟨by omega, by omega, ?_⟩
            exact goB b t rfl (fun H => by have := hQ H; rwa [mg, hab, hba, if_neg (by simp), if_pos rfl] at this) (H.past H4)
        · rw [cond_true]
          refine ⟨by omega, by omega, ?_⟩
          exact goA a q rfl (fun H => by have := hQ H; rwa [mg, hab, if_pos rfl] at this) (H.past H2)
theorem F46.loop {xs ys : List Cl} {Q : AV → Heap → Prop} (hs : xs.length ≤ 100000) (hs' : ys.length ≤ 100000) : ∀ (n : Nat) (q1 q2 p1 p2 : List Cl) (out : List ByteArray) (H : Heap), n = q1.length + q2.length → xs = p1 ++ q1 → ys = p2 ++ q2 → out.length ≤ p1.length + p2.length →
    (∀ H, Q (.sl 0 1 (strs (out ++ mg one2 both2 q1 q2))) H) → F46.L0 (rows xs) (rows ys) Q (strs out) p1.length p2.length H := by
  intro n
  induction n using Nat.strongRecOn with
  | ind n ih =>
    intro q1 q2 p1 p2 out H hn h1 h2 ho hQ
    refine F46.L0_step ?_
    unfold F46.r0
    -- one element, of the first list
    have goA : ∀ (a : Cl) (t : List Cl), q1 = a :: t → (∀ H, Q (.sl 0 1 (strs (out ++ (one2 a ++ mg one2 both2 t q2)))) H) → ∀ H1 : Heap, C 44 [.agg a.enc] H1.none fun v H2 => G (v.isSl 1) (((strs out).length + v.slXs.length) * 16 ≤ 140737488355328 ∧ F46.L0 (rows xs) (rows ys) Q (strs out ++ v.slXs) (addW .i64 (p1.length : Int) 1) p2.length (H1.past H2)) := by
      rintro a t rfl hQ H1
      have hl := fits_len h1
      have hl2 : ys.length = p2.length + q2.length := by rw [h2]; simp
      refine F44.spec fun H2 v hv hx => ?_
      rw [G_sl' hv, hx, addW_eq (by omega) (by omega), strs_append]
      refine ⟨by rw [length_strs, length_strs]; simp only [one2, List.length_singleton]; omega, ?_⟩
      have := ih (t.length + q2.length) (by rw [hn, List.length_cons]; omega) t q2 (p1 ++ [a]) p2 (out ++ one2 a) (H1.past H2) rfl (by rw [h1]; simp) h2 (by simp only [List.length_append, one2, List.length_singleton]; omega) (by simpa only [List.append_assoc] using hQ)
      rw [List.length_append, List.length_singleton] at this
      exact this
    have goB : ∀ (b : Cl) (t : List Cl), q2 = b :: t → (∀ H, Q (.sl 0 1 (strs (out ++ (one2 b ++ mg one2 both2 q1 t)))) H) → ∀ H1 : Heap, C 44 [.agg b.enc] H1.none fun v H2 => G (v.isSl 1) (((strs out).length + v.slXs.length) * 16 ≤ 140737488355328 ∧ F46.L0 (rows xs) (rows ys) Q (strs out ++ v.slXs) p1.length (addW .i64 (p2.length : Int) 1) (H1.past H2)) := by
      rintro b t rfl hQ H1
      have hl := fits_len h2
      have hl2 : xs.length = p1.length + q1.length := by rw [h1]; simp
      refine F44.spec fun H2 v hv hx => ?_
      rw [G_sl' hv, hx, addW_eq (by omega) (by omega), strs_append]
      refine ⟨by rw [length_strs, length_strs]; simp only [one2, List.length_singleton]; omega, ?_⟩
      have := ih (q1.length + t.length) (by rw [hn, List.length_cons]; omega) q1 t p1 (p2 ++ [b]) (out ++ one2 b) (H1.past H2) rfl h1 (by rw [h2]; simp) (by simp only [List.length_append, one2, List.length_singleton]; omega) (by simpa only [List.append_assoc] using hQ)
      rw [List.length_append, List.length_singleton] at this
      exact this
    cases q1 with
    | nil =>
      have hl1 : xs.length = p1.length := by rw [h1]; simp
      cases q2 with
      | nil =>
        have hl2 : ys.length = p2.length := by rw [h2]; simp
        ((try simp only [G_int, G_bool, G_str, G_sl, G_own, toInt_int, toBool_bool, toStr_str, slXs_sl, enc_0, enc_1, enc_2, enc_3, enc_4, lenI_rows]); (try simp only [ci_lt, ci_le, ci_eq, ci_eqS, ci_nblt, ci_nble, cond_not, G_lt, G_le, G_eq, G_nble, G_nblt, G_room, G_roomN, cond_true, cond_false, G_true, Nat.add_zero]))
        refine ⟨fun e => absurd e (by omega), fun _ => ⟨fun e => absurd e (by omega), fun _ => ?_⟩⟩
        have := hQ H
        rw [mg, List.append_nil] at this
        exact this
      | cons b t =>
        have hl2 := fits_len h2
        rw [row_mid h2]
        ((try simp only [G_int, G_bool, G_str, G_sl, G_own, toInt_int, toBool_bool, toStr_str, slXs_sl, enc_0, enc_1, enc_2, enc_3, enc_4, lenI_rows]); (try simp only [ci_lt, ci_le, ci_eq, ci_eqS, ci_nblt, ci_nble, cond_not, G_lt, G_le, G_eq, G_nble, G_nblt, G_room, G_roomN, cond_true, cond_false, G_true, Nat.add_zero]))
        refine ⟨fun e => absurd e (by omega), fun _ => ⟨fun _ => ⟨fun e => absurd e (by omega), fun _ => ⟨fun e => absurd e (by omega), fun _ => ⟨fun _ => ⟨by omega, by omega, ?_⟩, fun e => absurd (by omega) e⟩⟩⟩, fun e => absurd (by omega) e⟩⟩
        exact goB b t rfl (fun H => by have := hQ H; rwa [mg] at this) H
    | cons a q =>
      have hl1 := fits_len h1
      rw [row_mid h1]
      cases q2 with
      | nil =>
        have hl2 : ys.length = p2.length := by rw [h2]; simp
        ((try simp only [G_int, G_bool, G_str, G_sl, G_own, toInt_int, toBool_bool, toStr_str, slXs_sl, enc_0, enc_1, enc_2, enc_3, enc_4, lenI_rows]); (try simp only [ci_lt, ci_le, ci_eq, ci_eqS, ci_nblt, ci_nble, cond_not, G_lt, G_le, G_eq, G_nble, G_nblt, G_room, G_roomN, cond_true, cond_false, G_true, Nat.add_zero]))
        refine ⟨fun _ => ⟨fun _ => ⟨by omega, by omega, ?_⟩, fun e => absurd (by omega) e⟩, fun e => absurd (by omega) e⟩
        exact goA a q rfl (fun H => by have := hQ H; rwa [mg] at this) H
      | cons b t =>
        have hl2 := fits_len h2
        rw [row_mid h2]
        ((try simp only [G_int, G_bool, G_str, G_sl, G_own, toInt_int, toBool_bool, toStr_str, slXs_sl, enc_0, enc_1, enc_2, enc_3, enc_4, lenI_rows]); (try simp only [ci_lt, ci_le, ci_eq, ci_eqS, ci_nblt, ci_nble, cond_not, G_lt, G_le, G_eq, G_nble, G_nblt, G_room, G_roomN, cond_true, cond_false, G_true, Nat.add_zero]))
        refine ⟨fun _ => ⟨fun e => absurd e (by omega), fun _ => ⟨fun _ => ⟨by omega, by omega, ?_⟩, fun e => absurd (by omega) e⟩⟩, fun e => absurd (by omega) e⟩
        refine F43.spec (c := a) fun H1 => ?_
        ((try simp only [G_int, G_bool, G_str, G_sl, G_own, toInt_int, toBool_bool, toStr_str, slXs_sl, enc_0, enc_1, enc_2, enc_3, enc_4, lenI_rows]); (try simp only [ci_lt, ci_le, ci_eq, ci_eqS, ci_nblt, ci_nble, cond_not, G_lt, G_le, G_eq, G_nble, G_nblt, G_room, G_roomN, cond_true, cond_false, G_true, Nat.add_zero]))
        refine ⟨by omega, by omega, ?_⟩
        refine F43.spec (c := b) fun H2 => ?_
        ((try simp only [G_int, G_bool, G_str, G_sl, G_own, toInt_int, toBool_bool, toStr_str, slXs_sl, enc_0, enc_1, enc_2, enc_3, enc_4, lenI_rows]); (try simp only [ci_lt, ci_le, ci_eq, ci_eqS, ci_nblt, ci_nble, cond_not, G_lt, G_le, G_eq, G_nble, G_nblt, G_room, G_roomN, cond_true, cond_false, G_true, Nat.add_zero]))
        cases hab : ltS a.key b.key
        · rw [cond_false]
          refine ⟨fun e => absurd e (by omega), fun _ => ⟨by omega, by omega, ?_⟩⟩
          refine F43.spec (c := b) fun H3 => ?_
          ((try simp only [G_int, G_bool, G_str, G_sl, G_own, toInt_int, toBool_bool, toStr_str, slXs_sl, enc_0, enc_1, enc_2, enc_3, enc_4, lenI_rows]); (try simp only [ci_lt, ci_le, ci_eq, ci_eqS, ci_nblt, ci_nble, cond_not, G_lt, G_le, G_eq, G_nble, G_nblt, G_room, G_roomN, cond_true, cond_false, G_true, Nat.add_zero]))
          refine ⟨by omega, by omega, ?_⟩
          refine F43.spec (c := a) fun H4 => ?_
          ((try simp only [G_int, G_bool, G_str, G_sl, G_own, toInt_int, toBool_bool, toStr_str, slXs_sl, enc_0, enc_1, enc_2, enc_3, enc_4, lenI_rows]); (try simp only [ci_lt, ci_le, ci_eq, ci_eqS, ci_nblt, ci_nble, cond_not, G_lt, G_le, G_eq, G_nble, G_nblt, G_room, G_roomN, cond_true, cond_false, G_true, Nat.add_zero]))
          cases hba : ltS b.key a.key
          · rw [cond_false]
            refine ⟨by omega, by omega, by omega, by omega, ?_⟩
            refine F45.spec (a := a) (b := b) fun H5 v hv hx => ?_
            have hlen : (both2 a b).length ≤ 1 := by unfold both2; split <;> simp
            rw [G_sl' hv, hx, addW_eq (by omega) (by omega), addW_eq (by omega) (by omega), strs_append]
            refine ⟨by rw [length_strs, length_strs]; omega, ?_⟩
            have := ih (q.length + t.length) (by rw [hn, List.length_cons, List.length_cons]; omega) q t (p1 ++ [a]) (p2 ++ [b]) (out ++ both2 a b) (H.past H5) rfl (by rw [h1]; simp) (by rw [h2]; simp) (by simp only [List.length_append, List.length_singleton]; omega) (fun H => by
              have := hQ H
              rw [mg, hab, hba, if_neg (by simp), if_neg (by simp)] at this
              simpa only [List.append_assoc] using this)
            rw [List.length_append, List.length_singleton, List.length_append, List.length_singleton] at this
            exact this
          · rw [cond_true]
            refine ⟨by omega, by omega, ?_⟩
            exact goB b t rfl (fun H => by have := hQ H; rwa [mg, hab, hba, if_neg (by simp), if_pos rfl] at this) (H.past H4)
        · rw [cond_true]
          refine ⟨by omega, by omega, ?_⟩
          exact goA a q rfl (fun H => by have := hQ H; rwa [mg, hab, if_pos rfl] at this) (H.past H2)
theorem F20.spec {xs ys : List Cl} {H : Heap} {Q : AV → Heap → Prop} (hs : xs.length ≤ 100000) (hs' : ys.length ≤ 100000) (h : ∀ H, Q (.sl 0 5 (rows (mergeH xs ys))) H) : C 20 [.sl 0 5 (rows xs), .sl 0 5 (rows ys)] H Q := by
  refine F20.call ?_
  unfold F20.t
  refine F42.call ?_
  unfold F42.t
  refine F42.loop hs hs' _ xs ys [] [] [] _ rfl rfl rfl (Nat.le_refl _) fun H1 => ?_
  ((try simp only [G_int, G_bool, G_str, G_sl, G_own, toInt_int, toBool_bool, toStr_str, slXs_sl, enc_0, enc_1, enc_2, enc_3, enc_4, lenI_rows]); (try simp only [ci_lt, ci_le, ci_eq, ci_eqS, ci_nblt, ci_nble, cond_not, G_lt, G_le, G_eq, G_nble, G_nblt, G_room, G_roomN, cond_true, cond_false, G_true, Nat.add_zero]))
  exact h _
theorem F23.spec {xs ys : List Cl} {H : Heap} {Q : AV → Heap → Prop} (hs : xs.length ≤ 100000) (hs' : ys.length ≤ 100000) (h : ∀ H, Q (.sl 0 1 (strs (diffH xs ys))) H) : C 23 [.sl 0 5 (rows xs), .sl 0 5 (rows ys)] H Q := by
  refine F23.call ?_
  unfold F23.t
  refine F46.call ?_
  unfold F46.t
  refine F46.loop hs hs' _ xs ys [] [] [] _ rfl rfl rfl (Nat.le_refl _) fun H1 => ?_
  ((try simp only [G_int, G_bool, G_str, G_sl, G_own, toInt_int, toBool_bool, toStr_str, slXs_sl, enc_0, enc_1, enc_2, enc_3, enc_4, lenI_rows]); (try simp only [ci_lt, ci_le, ci_eq, ci_eqS, ci_nblt, ci_nble, cond_not, G_lt, G_le, G_eq, G_nble, G_nblt, G_room, G_roomN, cond_true, cond_false, G_true, Nat.add_zero]))
  exact h _
end Go.Proofs.Ytkjmkhgaghighaa.Ab
