/- Heal: what its functions compute, part two: finding, putting, comparing. -/
import Derived.Test.YtkjmkhgaghighaaHealOne
namespace Go.Proofs.Ytkjmkhgaghighaa.Ab
open Go
set_option linter.unusedSimpArgs false

theorem fits_len {α : Type} {xs pre : List α} {c : α} {post : List α} (h : xs = pre ++ c :: post) : xs.length = pre.length + (post.length + 1) := by subst h; simp
/-- The index of the first that fits, or -1. -/
def idx {α : Type} (p : α → Bool) : List α → Nat → Int
  | [], _ => -1
  | c :: r, n => if p c then n else idx p r (n + 1)
theorem idx_cases {α : Type} (p : α → Bool) : ∀ (xs : List α) (n : Nat), (idx p xs n = -1 ∧ ∀ c ∈ xs, p c = false) ∨ ∃ pre c post, xs = pre ++ c :: post ∧ idx p xs n = ((n + pre.length : Nat) : Int) ∧ p c = true ∧ ∀ d ∈ pre, p d = false
  | [], n => .inl ⟨rfl, by simp⟩
  | c :: r, n => by
    cases h : p c with
    | true => exact .inr ⟨[], c, r, rfl, by simp [idx, h], h, by simp⟩
    | false =>
      rcases idx_cases p r (n + 1) with ⟨h1, h2⟩ | ⟨pre, d, post, h1, h2, h3, h4⟩
      · exact .inl ⟨by simp [idx, h, h1], by simpa [h] using h2⟩
      · refine .inr ⟨c :: pre, d, post, by rw [h1]; rfl, ?_, h3, by simpa [h] using h4⟩
        simp only [idx, h, Bool.false_eq_true, if_false, h2, List.length_cons]
        omega

/-! find -/
def keyIs (k : ByteArray) (c : Cl) : Bool := decide (c.key = k)
theorem F36.loop {xs : List Cl} {k : ByteArray} {Q : AV → Heap → Prop} (hs : xs.length ≤ 140737488355328) (H : Heap) : ∀ (post pre : List Cl), xs = pre ++ post → Q (.int .i64 (idx (keyIs k) post pre.length)) H → F36.L0 (rows xs) k Q pre.length H
  | [], pre, h, hQ => by
    refine F36.L0_step ?_
    unfold F36.r0
    ((try simp only [G_int, G_bool, G_str, G_sl, G_own, toInt_int, toBool_bool, toStr_str, slXs_sl, enc_0, enc_1, enc_2, enc_3, enc_4, lenI_rows]); (try simp only [ci_lt, ci_le, ci_eq, ci_eqS, ci_nblt, ci_nble, cond_not, G_lt, G_le, G_eq, G_nble, G_nblt, G_room, G_roomN, cond_true, cond_false, G_true, Nat.add_zero]))
    exact ⟨fun e => absurd e (by simp [h]), fun _ => hQ⟩
  | c :: post, pre, h, hQ => by
    have hl := fits_len h
    refine F36.L0_step ?_
    unfold F36.r0
    rw [row_mid h]
    ((try simp only [G_int, G_bool, G_str, G_sl, G_own, toInt_int, toBool_bool, toStr_str, slXs_sl, enc_0, enc_1, enc_2, enc_3, enc_4, lenI_rows]); (try simp only [ci_lt, ci_le, ci_eq, ci_eqS, ci_nblt, ci_nble, cond_not, G_lt, G_le, G_eq, G_nble, G_nblt, G_room, G_roomN, cond_true, cond_false, G_true, Nat.add_zero]))
    refine ⟨fun _ => ⟨by omega, by omega, ?_⟩, fun e => absurd e (by omega)⟩
    refine ⟨fun e => ?_, fun e => ?_⟩
    · rw [idx, keyIs, decide_eq_true e, if_pos rfl] at hQ
      exact hQ
    · rw [addW_eq (by omega) (by omega)]
      have := F36.loop (k := k) (Q := Q) hs H post (pre ++ [c]) (by rw [h]; simp) (by
        rw [idx, keyIs, decide_eq_false e, if_neg (by simp)] at hQ
        simpa using hQ)
      rw [List.length_append, List.length_singleton] at this
      exact this
theorem F36.spec {xs : List Cl} {k : ByteArray} {H : Heap} {Q : AV → Heap → Prop} (hs : xs.length ≤ 140737488355328) (h : ∀ H, Q (.int .i64 (idx (keyIs k) xs 0)) H) : C 36 [.sl 0 5 (rows xs), .str k] H Q :=
  F36.call (F36.loop hs H xs [] rfl (h H))
theorem F27.loop {xs : List Cl} {k : ByteArray} {Q : AV → Heap → Prop} (hs : xs.length ≤ 140737488355328) (H : Heap) : ∀ (post pre : List Cl), xs = pre ++ post → Q (.int .i64 (idx (keyIs k) post pre.length)) H → F27.L0 (rows xs) k Q pre.length H
  | [], pre, h, hQ => by
    refine F27.L0_step ?_
    unfold F27.r0
    ((try simp only [G_int, G_bool, G_str, G_sl, G_own, toInt_int, toBool_bool, toStr_str, slXs_sl, enc_0, enc_1, enc_2, enc_3, enc_4, lenI_rows]); (try simp only [ci_lt, ci_le, ci_eq, ci_eqS, ci_nblt, ci_nble, cond_not, G_lt, G_le, G_eq, G_nble, G_nblt, G_room, G_roomN, cond_true, cond_false, G_true, Nat.add_zero]))
    exact ⟨fun e => absurd e (by simp [h]), fun _ => hQ⟩
  | c :: post, pre, h, hQ => by
    have hl := fits_len h
    refine F27.L0_step ?_
    unfold F27.r0
    rw [row_mid h]
    ((try simp only [G_int, G_bool, G_str, G_sl, G_own, toInt_int, toBool_bool, toStr_str, slXs_sl, enc_0, enc_1, enc_2, enc_3, enc_4, lenI_rows]); (try simp only [ci_lt, ci_le, ci_eq, ci_eqS, ci_nblt, ci_nble, cond_not, G_lt, G_le, G_eq, G_nble, G_nblt, G_room, G_roomN, cond_true, cond_false, G_true, Nat.add_zero]))
    refine ⟨fun _ => ⟨by omega, by omega, ?_⟩, fun e => absurd e (by omega)⟩
    refine ⟨fun e => ?_, fun e => ?_⟩
    · rw [idx, keyIs, decide_eq_true e, if_pos rfl] at hQ
      exact hQ
    · rw [addW_eq (by omega) (by omega)]
      have := F27.loop (k := k) (Q := Q) hs H post (pre ++ [c]) (by rw [h]; simp) (by
        rw [idx, keyIs, decide_eq_false e, if_neg (by simp)] at hQ
        simpa using hQ)
      rw [List.length_append, List.length_singleton] at this
      exact this
theorem F27.spec {xs : List Cl} {k : ByteArray} {H : Heap} {Q : AV → Heap → Prop} (hs : xs.length ≤ 140737488355328) (h : ∀ H, Q (.int .i64 (idx (keyIs k) xs 0)) H) : C 27 [.sl 0 5 (rows xs), .str k] H Q :=
  F27.call (F27.loop hs H xs [] rfl (h H))

def low (k : ByteArray) : List Cl → Nat → Nat × Bool
  | [], n => (n, false)
  | c :: r, n => if ltS c.key k then low k r (n + 1) else (n, eqS c.key k)
theorem F33.loop {xs : List Cl} {k : ByteArray} {Q : AV → Heap → Prop} (hs : xs.length ≤ 140737488355328) (H : Heap) : ∀ (post pre : List Cl), xs = pre ++ post → Q (.tup [.int .i64 (low k post pre.length).1, .bool (low k post pre.length).2]) H → F33.L0 (rows xs) k Q pre.length H
  | [], pre, h, hQ => by
    refine F33.L0_step ?_
    unfold F33.r0
    ((try simp only [G_int, G_bool, G_str, G_sl, G_own, toInt_int, toBool_bool, toStr_str, slXs_sl, enc_0, enc_1, enc_2, enc_3, enc_4, lenI_rows]); (try simp only [ci_lt, ci_le, ci_eq, ci_eqS, ci_nblt, ci_nble, cond_not, G_lt, G_le, G_eq, G_nble, G_nblt, G_room, G_roomN, cond_true, cond_false, G_true, Nat.add_zero]))
    exact ⟨fun e => absurd e (by simp [h]), fun _ => ⟨fun e => absurd e (by simp [h]), fun _ => hQ⟩⟩
  | c :: post, pre, h, hQ => by
    have hl := fits_len h
    refine F33.L0_step ?_
    unfold F33.r0
    rw [row_mid h]
    ((try simp only [G_int, G_bool, G_str, G_sl, G_own, toInt_int, toBool_bool, toStr_str, slXs_sl, enc_0, enc_1, enc_2, enc_3, enc_4, lenI_rows]); (try simp only [ci_lt, ci_le, ci_eq, ci_eqS, ci_nblt, ci_nble, cond_not, G_lt, G_le, G_eq, G_nble, G_nblt, G_room, G_roomN, cond_true, cond_false, G_true, Nat.add_zero]))
    refine ⟨fun _ => ⟨by omega, by omega, ?_⟩, fun e => absurd e (by omega)⟩
    cases e : ltS c.key k
    · rw [low, e, if_neg (by simp)] at hQ
      exact ⟨fun _ => ⟨by omega, by omega, hQ⟩, fun e => absurd (by omega) e⟩
    · rw [cond_true, addW_eq (by omega) (by omega)]
      have := F33.loop (k := k) (Q := Q) hs H post (pre ++ [c]) (by rw [h]; simp) (by
        rw [low, e, if_pos rfl] at hQ
        simpa using hQ)
      rw [List.length_append, List.length_singleton] at this
      exact this
theorem F33.spec {xs : List Cl} {k : ByteArray} {H : Heap} {Q : AV → Heap → Prop} (hs : xs.length ≤ 140737488355328) (h : ∀ H, Q (.tup [.int .i64 (low k xs 0).1, .bool (low k xs 0).2]) H) : C 33 [.sl 0 5 (rows xs), .str k] H Q :=
  F33.call (F33.loop hs H xs [] rfl (h H))

/-! put -/
def putL (xs : List Cl) (c : Cl) : List Cl := xs.filter (fun x => ltS x.key c.key) ++ c :: xs.filter (fun x => ltS c.key x.key)
theorem F38.loop1 {xs : List Cl} {d : Cl} {Q : AV → Heap → Prop} (hs : xs.length ≤ 100000) (H : Heap) : ∀ (post pre out : List Cl), xs = pre ++ post → out.length ≤ 100001 + pre.length → Q (.sl 0 5 (rows (out ++ post.filter (fun x => ltS d.key x.key)))) H → F38.L1 (rows xs) d.key d.value d.gone d.epoch d.node Q (rows out) pre.length H
  | [], pre, out, h, ho, hQ => by
    have hl : xs.length = pre.length := by rw [h]; simp
    refine F38.L1_step ?_
    unfold F38.r1
    ((try simp only [G_int, G_bool, G_str, G_sl, G_own, toInt_int, toBool_bool, toStr_str, slXs_sl, enc_0, enc_1, enc_2, enc_3, enc_4, lenI_rows]); (try simp only [ci_lt, ci_le, ci_eq, ci_eqS, ci_nblt, ci_nble, cond_not, G_lt, G_le, G_eq, G_nble, G_nblt, G_room, G_roomN, cond_true, cond_false, G_true, Nat.add_zero]))
    refine ⟨fun e => absurd e (by simp [h]), fun _ => ?_⟩
    simpa using hQ
  | c :: post, pre, out, h, ho, hQ => by
    have hl := fits_len h
    refine F38.L1_step ?_
    unfold F38.r1
    rw [row_mid h]
    ((try simp only [G_int, G_bool, G_str, G_sl, G_own, toInt_int, toBool_bool, toStr_str, slXs_sl, enc_0, enc_1, enc_2, enc_3, enc_4, lenI_rows]); (try simp only [ci_lt, ci_le, ci_eq, ci_eqS, ci_nblt, ci_nble, cond_not, G_lt, G_le, G_eq, G_nble, G_nblt, G_room, G_roomN, cond_true, cond_false, G_true, Nat.add_zero]))
    refine ⟨fun _ => ⟨by omega, by omega, ?_⟩, fun e => absurd e (by omega)⟩
    rw [addW_eq (by omega) (by omega), enc_def, rows_snoc, length_rows]
    rw [List.filter_cons] at hQ
    cases e : ltS d.key c.key
    · rw [e, if_neg (by simp)] at hQ
      have := F38.loop1 (d := d) (Q := Q) hs H post (pre ++ [c]) out (by rw [h]; simp) (by simp; omega) hQ
      rw [List.length_append, List.length_singleton] at this
      exact this
    · rw [e, if_pos rfl] at hQ
      refine ⟨by simp; omega, ?_⟩
      have := F38.loop1 (d := d) (Q := Q) hs H post (pre ++ [c]) (out ++ [c]) (by rw [h]; simp) (by simp; omega) (by simpa using hQ)
      rw [List.length_append, List.length_singleton] at this
      exact this
theorem F38.loop0 {xs : List Cl} {d : Cl} {Q : AV → Heap → Prop} (hs : xs.length ≤ 100000) (H : Heap) : ∀ (post pre out : List Cl), xs = pre ++ post → out.length ≤ 0 + pre.length → Q (.sl 0 5 (rows (out ++ post.filter (fun x => ltS x.key d.key) ++ d :: xs.filter (fun x => ltS d.key x.key)))) H → F38.L0 (rows xs) d.key d.value d.gone d.epoch d.node Q (rows out) pre.length H
  | [], pre, out, h, ho, hQ => by
    have hl : xs.length = pre.length := by rw [h]; simp
    refine F38.L0_step ?_
    unfold F38.r0
    ((try simp only [G_int, G_bool, G_str, G_sl, G_own, toInt_int, toBool_bool, toStr_str, slXs_sl, enc_0, enc_1, enc_2, enc_3, enc_4, lenI_rows]); (try simp only [ci_lt, ci_le, ci_eq, ci_eqS, ci_nblt, ci_nble, cond_not, G_lt, G_le, G_eq, G_nble, G_nblt, G_room, G_roomN, cond_true, cond_false, G_true, Nat.add_zero]))
    refine ⟨fun e => absurd e (by simp [h]), fun _ => ?_⟩
    rw [enc_def, rows_snoc, length_rows]
    exact ⟨by simp; omega, F38.loop1 hs H xs [] (out ++ [d]) rfl (by simp; omega) (by simpa using hQ)⟩
  | c :: post, pre, out, h, ho, hQ => by
    have hl := fits_len h
    refine F38.L0_step ?_
    unfold F38.r0
    rw [row_mid h]
    ((try simp only [G_int, G_bool, G_str, G_sl, G_own, toInt_int, toBool_bool, toStr_str, slXs_sl, enc_0, enc_1, enc_2, enc_3, enc_4, lenI_rows]); (try simp only [ci_lt, ci_le, ci_eq, ci_eqS, ci_nblt, ci_nble, cond_not, G_lt, G_le, G_eq, G_nble, G_nblt, G_room, G_roomN, cond_true, cond_false, G_true, Nat.add_zero]))
    refine ⟨fun _ => ⟨by omega, by omega, ?_⟩, fun e => absurd e (by omega)⟩
    rw [addW_eq (by omega) (by omega), enc_def, rows_snoc, length_rows]
    rw [List.filter_cons] at hQ
    cases e : ltS c.key d.key
    · rw [e, if_neg (by simp)] at hQ
      have := F38.loop0 (d := d) (Q := Q) hs H post (pre ++ [c]) out (by rw [h]; simp) (by simp; omega) hQ
      rw [List.length_append, List.length_singleton] at this
      exact this
    · rw [e, if_pos rfl] at hQ
      refine ⟨by simp; omega, ?_⟩
      have := F38.loop0 (d := d) (Q := Q) hs H post (pre ++ [c]) (out ++ [c]) (by rw [h]; simp) (by simp; omega) (by simpa using hQ)
      rw [List.length_append, List.length_singleton] at this
      exact this
theorem F38.spec {xs : List Cl} {d : Cl} {H : Heap} {Q : AV → Heap → Prop} (hs : xs.length ≤ 100000) (h : ∀ H, Q (.sl 0 5 (rows (putL xs d))) H) : C 38 [.sl 0 5 (rows xs), .agg d.enc] H Q :=
  F38.call (F38.loop0 hs H xs [] [] rfl (by simp) (by simpa [putL] using h H))

/-! Above -/
def maxE (xs : List Cl) : Int := xs.foldl (fun e c => cond (ltI e c.epoch) c.epoch e) 0
theorem maxE_range {xs : List Cl} (hx : ∀ c ∈ xs, c.epoch ≤ 1099511627776) : ∀ e : Int, 0 ≤ e → e ≤ 1099511627776 → 0 ≤ xs.foldl (fun e c => cond (ltI e c.epoch) c.epoch e) e ∧ xs.foldl (fun e c => cond (ltI e c.epoch) c.epoch e) e ≤ 1099511627776 := by
  induction xs with
  | nil => intro e h1 h2; exact ⟨h1, h2⟩
  | cons c xs ih =>
    intro e h1 h2
    rw [List.foldl_cons]
    have := hx c (by simp)
    refine ih (fun c hc => hx c (by simp [hc])) _ ?_ ?_ <;> unfold ltI <;> by_cases h : e < c.epoch <;> simp [h] <;> omega
theorem F18.loop {xs : List Cl} {n : Int} {Q : AV → Heap → Prop} (hs : xs.length ≤ 140737488355328) (hx : ∀ c ∈ xs, c.epoch ≤ 1099511627776) (H : Heap) : ∀ (post pre : List Cl) (e : Int), xs = pre ++ post → 0 ≤ e → e ≤ 1099511627776 → Q (.agg [.int .i64 (post.foldl (fun e c => cond (ltI e c.epoch) c.epoch e) e + 1), .int .i64 n]) H → F18.L0 (rows xs) n Q e pre.length H
  | [], pre, e, h, e0, e1, hQ => by
    refine F18.L0_step ?_
    unfold F18.r0
    ((try simp only [G_int, G_bool, G_str, G_sl, G_own, toInt_int, toBool_bool, toStr_str, slXs_sl, enc_0, enc_1, enc_2, enc_3, enc_4, lenI_rows]); (try simp only [ci_lt, ci_le, ci_eq, ci_eqS, ci_nblt, ci_nble, cond_not, G_lt, G_le, G_eq, G_nble, G_nblt, G_room, G_roomN, cond_true, cond_false, G_true, Nat.add_zero]))
    refine ⟨fun e => absurd e (by simp [h]), fun _ => ?_⟩
    rw [addW_eq (by omega) (by omega)]
    exact hQ
  | c :: post, pre, e, h, e0, e1, hQ => by
    have hl := fits_len h
    refine F18.L0_step ?_
    unfold F18.r0
    rw [row_mid h]
    ((try simp only [G_int, G_bool, G_str, G_sl, G_own, toInt_int, toBool_bool, toStr_str, slXs_sl, enc_0, enc_1, enc_2, enc_3, enc_4, lenI_rows]); (try simp only [ci_lt, ci_le, ci_eq, ci_eqS, ci_nblt, ci_nble, cond_not, G_lt, G_le, G_eq, G_nble, G_nblt, G_room, G_roomN, cond_true, cond_false, G_true, Nat.add_zero]))
    refine ⟨fun _ => ⟨by omega, by omega, ?_⟩, fun e => absurd e (by omega)⟩
    rw [addW_eq (by omega) (by omega)]
    have hc := hx c (by rw [h]; simp)
    have := F18.loop (n := n) (Q := Q) hs hx H post (pre ++ [c]) (cond (ltI e c.epoch) c.epoch e) (by rw [h]; simp) (by unfold ltI; by_cases h : e < c.epoch <;> simp [h] <;> omega) (by unfold ltI; by_cases h : e < c.epoch <;> simp [h] <;> omega) hQ
    rw [List.length_append, List.length_singleton] at this
    exact this
theorem F18.spec {xs : List Cl} {n : Int} {H : Heap} {Q : AV → Heap → Prop} (hs : xs.length ≤ 140737488355328) (hx : ∀ c ∈ xs, c.epoch ≤ 1099511627776) (h : ∀ H, Q (.agg [.int .i64 (maxE xs + 1), .int .i64 n]) H) : C 18 [.sl 0 5 (rows xs), .int .i64 n] H Q :=
  F18.call (F18.loop hs hx H xs [] 0 rfl (by omega) (by omega) (h H))
theorem F19.loop {xs : List Cl} {n : Int} {Q : AV → Heap → Prop} (hs : xs.length ≤ 140737488355328) (hx : ∀ c ∈ xs, -1 ≤ c.epoch ∧ c.epoch ≤ 1099511627776) (H : Heap) : ∀ (post pre : List Cl) (e : Int), xs = pre ++ post → Q (.agg [.int .i64 (post.foldl (fun e c => cond (ltI e c.epoch) c.epoch e) e + 1), .int .i64 n]) H → F19.L0 (rows xs) n Q pre.length (e + 1) H
  | [], pre, e, h, hQ => by
    refine F19.L0_step ?_
    unfold F19.r0
    ((try simp only [G_int, G_bool, G_str, G_sl, G_own, toInt_int, toBool_bool, toStr_str, slXs_sl, enc_0, enc_1, enc_2, enc_3, enc_4, lenI_rows]); (try simp only [ci_lt, ci_le, ci_eq, ci_eqS, ci_nblt, ci_nble, cond_not, G_lt, G_le, G_eq, G_nble, G_nblt, G_room, G_roomN, cond_true, cond_false, G_true, Nat.add_zero]))
    exact ⟨fun e => absurd e (by simp [h]), fun _ => hQ⟩
  | c :: post, pre, e, h, hQ => by
    have hl := fits_len h
    refine F19.L0_step ?_
    unfold F19.r0
    rw [row_mid h]
    ((try simp only [G_int, G_bool, G_str, G_sl, G_own, toInt_int, toBool_bool, toStr_str, slXs_sl, enc_0, enc_1, enc_2, enc_3, enc_4, lenI_rows]); (try simp only [ci_lt, ci_le, ci_eq, ci_eqS, ci_nblt, ci_nble, cond_not, G_lt, G_le, G_eq, G_nble, G_nblt, G_room, G_roomN, cond_true, cond_false, G_true, Nat.add_zero]))
    refine ⟨fun _ => ⟨by omega, by omega, ?_⟩, fun e => absurd e (by omega)⟩
    have hc := hx c (by rw [h]; simp)
    rw [addW_eq (by omega) (by omega), addW_eq (a := c.epoch) (by omega) (by omega)]
    have := F19.loop (n := n) (Q := Q) hs hx H post (pre ++ [c]) (cond (ltI e c.epoch) c.epoch e) (by rw [h]; simp) hQ
    rw [List.length_append, List.length_singleton] at this
    have e1 : cond (ltI (e + 1) (c.epoch + 1)) (c.epoch + 1) (e + 1) = cond (ltI e c.epoch) c.epoch e + 1 := by
      unfold ltI
      by_cases h : e < c.epoch
      · have h' : e + 1 < c.epoch + 1 := by omega
        simp [h, h']
      · have h' : ¬ e + 1 < c.epoch + 1 := by omega
        simp [h, h']
    rw [e1]
    exact this
theorem F19.spec {xs : List Cl} {n : Int} {H : Heap} {Q : AV → Heap → Prop} (hs : xs.length ≤ 140737488355328) (hx : ∀ c ∈ xs, -1 ≤ c.epoch ∧ c.epoch ≤ 1099511627776) (h : ∀ H, Q (.agg [.int .i64 (maxE xs + 1), .int .i64 n]) H) : C 19 [.sl 0 5 (rows xs), .int .i64 n] H Q :=
  F19.call (F19.loop hs hx H xs [] 0 rfl (h H))

/-! Cells, compared -/
theorem cell_eq (a b : Cl) : (eqS a.key b.key && (eqS a.value b.value && ((a.gone == b.gone) && (eqI a.epoch b.epoch && (eqI a.node b.node && true))))) = decide (a = b) := by
  cases a; cases b
  simp only [Cl.mk.injEq, eqS, eqI, Bool.and_true]
  rw [Bool.eq_iff_iff]
  simp [and_assoc]
def keyOfS (s : ByteArray) : List AV := [.str s]
def strs (l : List ByteArray) : List (List AV) := l.map keyOfS
theorem lenI_strs {l : List ByteArray} : lenI (strs l) = (l.length : Int) := by simp [lenI, strs]
theorem srow_mid {l pre post : List ByteArray} {c : ByteArray} (h : l = pre ++ c :: post) : (strs l).getD (pre.length : Int).toNat [] = [.str c] := by subst h; simp [strs, keyOfS]
theorem srow_at {l : List ByteArray} {c : ByteArray} {i : Int} {n : Nat} (hi : i = n) (h : l[n]? = some c) : (strs l).getD i.toNat [] = [.str c] := by subst hi; simp [strs, keyOfS, h]
theorem str_0 {s : ByteArray} : [AV.str s].getD 0 .any = .str s := rfl
theorem F15.loop {xs ys : List Cl} {Q : AV → Heap → Prop} (hs : xs.length ≤ 140737488355328) (H : Heap) : ∀ (post pre post' pre' : List Cl), xs = pre ++ post → ys = pre' ++ post' → pre.length = pre'.length → post.length = post'.length → Q (.bool (decide (post = post'))) H → F15.L0 (rows xs) (rows ys) Q pre.length H
  | [], pre, [], pre', h, h', e1, e2, hQ => by
    refine F15.L0_step ?_
    unfold F15.r0
    ((try simp only [G_int, G_bool, G_str, G_sl, G_own, toInt_int, toBool_bool, toStr_str, slXs_sl, enc_0, enc_1, enc_2, enc_3, enc_4, lenI_rows]); (try simp only [ci_lt, ci_le, ci_eq, ci_eqS, ci_nblt, ci_nble, cond_not, G_lt, G_le, G_eq, G_nble, G_nblt, G_room, G_roomN, cond_true, cond_false, G_true, Nat.add_zero]))
    exact ⟨fun e => absurd e (by simp [h]), fun _ => by simpa using hQ⟩
  | c :: post, pre, d :: post', pre', h, h', e1, e2, hQ => by
    have hl := fits_len h
    have hl' := fits_len h'
    refine F15.L0_step ?_
    unfold F15.r0
    rw [row_mid h, row_at (xs := ys) (c := d) (n := pre'.length) (by rw [e1]) (by rw [h']; simp)]
    ((try simp only [G_int, G_bool, G_str, G_sl, G_own, toInt_int, toBool_bool, toStr_str, slXs_sl, enc_0, enc_1, enc_2, enc_3, enc_4, lenI_rows]); (try simp only [ci_lt, ci_le, ci_eq, ci_eqS, ci_nblt, ci_nble, cond_not, G_lt, G_le, G_eq, G_nble, G_nblt, G_room, G_roomN, cond_true, cond_false, G_true, Nat.add_zero]))
    refine ⟨fun _ => ⟨by omega, by omega, by omega, by omega, ?_⟩, fun e => absurd e (by omega)⟩
    rw [cell_eq]
    by_cases e : c = d
    · rw [decide_eq_true e, cond_true, addW_eq (by omega) (by omega)]
      have := F15.loop (ys := ys) (Q := Q) hs H post (pre ++ [c]) post' (pre' ++ [d]) (by rw [h]; simp) (by rw [h']; simp) (by simp [e1]) (by simpa using e2) (by simpa [e] using hQ)
      rw [List.length_append, List.length_singleton] at this
      exact this
    · rw [decide_eq_false e, cond_false]
      simpa [e] using hQ
  | [], _, _ :: _, _, _, _, _, e2, _ => by simp at e2
  | _ :: _, _, [], _, _, _, _, e2, _ => by simp at e2
theorem F15.spec {xs ys : List Cl} {H : Heap} {Q : AV → Heap → Prop} (hs : xs.length ≤ 140737488355328) (h : ∀ H, Q (.bool (decide (xs = ys))) H) : C 15 [.sl 0 5 (rows xs), .sl 0 5 (rows ys)] H Q := by
  refine F15.call ?_
  unfold F15.t
  ((try simp only [G_int, G_bool, G_str, G_sl, G_own, toInt_int, toBool_bool, toStr_str, slXs_sl, enc_0, enc_1, enc_2, enc_3, enc_4, lenI_rows]); (try simp only [ci_lt, ci_le, ci_eq, ci_eqS, ci_nblt, ci_nble, cond_not, G_lt, G_le, G_eq, G_nble, G_nblt, G_room, G_roomN, cond_true, cond_false, G_true, Nat.add_zero]))
  refine ⟨fun e => F15.loop hs H xs [] ys [] rfl rfl rfl (by omega) (h H), fun e => ?_⟩
  have := h H
  rwa [decide_eq_false (fun e' => e (by rw [e']))] at this
theorem F22.loop {xs ys : List ByteArray} {Q : AV → Heap → Prop} (hs : xs.length ≤ 140737488355328) (H : Heap) : ∀ (post pre post' pre' : List ByteArray), xs = pre ++ post → ys = pre' ++ post' → pre.length = pre'.length → post.length = post'.length → Q (.bool (decide (post = post'))) H → F22.L0 (strs xs) (strs ys) Q pre.length H
  | [], pre, [], pre', h, h', e1, e2, hQ => by
    refine F22.L0_step ?_
    unfold F22.r0
    rw [lenI_strs]
    ((try simp only [G_int, G_bool, G_str, G_sl, G_own, toInt_int, toBool_bool, toStr_str, slXs_sl, enc_0, enc_1, enc_2, enc_3, enc_4, lenI_rows]); (try simp only [ci_lt, ci_le, ci_eq, ci_eqS, ci_nblt, ci_nble, cond_not, G_lt, G_le, G_eq, G_nble, G_nblt, G_room, G_roomN, cond_true, cond_false, G_true, Nat.add_zero]))
    exact ⟨fun e => absurd e (by simp [h]), fun _ => by simpa using hQ⟩
  | c :: post, pre, d :: post', pre', h, h', e1, e2, hQ => by
    have hl := fits_len h
    have hl' := fits_len h'
    refine F22.L0_step ?_
    unfold F22.r0
    rw [srow_mid h, srow_at (l := ys) (c := d) (n := pre'.length) (by rw [e1]) (by rw [h']; simp), lenI_strs, lenI_strs, str_0, str_0]
    ((try simp only [G_int, G_bool, G_str, G_sl, G_own, toInt_int, toBool_bool, toStr_str, slXs_sl, enc_0, enc_1, enc_2, enc_3, enc_4, lenI_rows]); (try simp only [ci_lt, ci_le, ci_eq, ci_eqS, ci_nblt, ci_nble, cond_not, G_lt, G_le, G_eq, G_nble, G_nblt, G_room, G_roomN, cond_true, cond_false, G_true, Nat.add_zero]))
    refine ⟨fun _ => ⟨by omega, by omega, by omega, by omega, ?_⟩, fun e => absurd e (by omega)⟩
    refine ⟨fun e => ?_, fun e => by simpa [e] using hQ⟩
    rw [addW_eq (by omega) (by omega)]
    have := F22.loop (ys := ys) (Q := Q) hs H post (pre ++ [c]) post' (pre' ++ [d]) (by rw [h]; simp) (by rw [h']; simp) (by simp [e1]) (by simpa using e2) (by simpa [e] using hQ)
    rw [List.length_append, List.length_singleton] at this
    exact this
  | [], _, _ :: _, _, _, _, _, e2, _ => by simp at e2
  | _ :: _, _, [], _, _, _, _, e2, _ => by simp at e2
theorem F22.spec {xs ys : List ByteArray} {H : Heap} {Q : AV → Heap → Prop} (hs : xs.length ≤ 140737488355328) (h : ∀ H, Q (.bool (decide (xs = ys))) H) : C 22 [.sl 0 1 (strs xs), .sl 0 1 (strs ys)] H Q := by
  refine F22.call ?_
  unfold F22.t
  rw [lenI_strs, lenI_strs]
  ((try simp only [G_int, G_bool, G_str, G_sl, G_own, toInt_int, toBool_bool, toStr_str, slXs_sl, enc_0, enc_1, enc_2, enc_3, enc_4, lenI_rows]); (try simp only [ci_lt, ci_le, ci_eq, ci_eqS, ci_nblt, ci_nble, cond_not, G_lt, G_le, G_eq, G_nble, G_nblt, G_room, G_roomN, cond_true, cond_false, G_true, Nat.add_zero]))
  refine ⟨fun e => F22.loop hs H xs [] ys [] rfl rfl rfl (by omega) (h H), fun e => ?_⟩
  have := h H
  rwa [decide_eq_false (fun e' => e (by rw [e']))] at this
theorem F47.loop {xs : List Cl} {d : Cl} {Q : AV → Heap → Prop} (hs : xs.length ≤ 140737488355328) (H : Heap) : ∀ (post pre : List Cl), xs = pre ++ post → Q (.int .i64 (idx (fun c => decide (d = c)) post pre.length)) H → F47.L0 (rows xs) d.key d.value d.gone d.epoch d.node Q pre.length H
  | [], pre, h, hQ => by
    refine F47.L0_step ?_
    unfold F47.r0
    ((try simp only [G_int, G_bool, G_str, G_sl, G_own, toInt_int, toBool_bool, toStr_str, slXs_sl, enc_0, enc_1, enc_2, enc_3, enc_4, lenI_rows]); (try simp only [ci_lt, ci_le, ci_eq, ci_eqS, ci_nblt, ci_nble, cond_not, G_lt, G_le, G_eq, G_nble, G_nblt, G_room, G_roomN, cond_true, cond_false, G_true, Nat.add_zero]))
    exact ⟨fun e => absurd e (by simp [h]), fun _ => hQ⟩
  | c :: post, pre, h, hQ => by
    have hl := fits_len h
    refine F47.L0_step ?_
    unfold F47.r0
    rw [row_mid h]
    ((try simp only [G_int, G_bool, G_str, G_sl, G_own, toInt_int, toBool_bool, toStr_str, slXs_sl, enc_0, enc_1, enc_2, enc_3, enc_4, lenI_rows]); (try simp only [ci_lt, ci_le, ci_eq, ci_eqS, ci_nblt, ci_nble, cond_not, G_lt, G_le, G_eq, G_nble, G_nblt, G_room, G_roomN, cond_true, cond_false, G_true, Nat.add_zero]))
    refine ⟨fun _ => ⟨by omega, by omega, ?_⟩, fun e => absurd e (by omega)⟩
    rw [cell_eq]
    rw [idx] at hQ
    by_cases e : d = c
    · rw [decide_eq_true e, cond_true]
      rwa [decide_eq_true e, if_pos rfl] at hQ
    · rw [decide_eq_false e, cond_false, addW_eq (by omega) (by omega)]
      have := F47.loop (d := d) (Q := Q) hs H post (pre ++ [c]) (by rw [h]; simp) (by
        rw [decide_eq_false e, if_neg (by simp)] at hQ
        simpa using hQ)
      rw [List.length_append, List.length_singleton] at this
      exact this
theorem F47.spec {xs : List Cl} {d : Cl} {H : Heap} {Q : AV → Heap → Prop} (hs : xs.length ≤ 140737488355328) (h : ∀ H, Q (.int .i64 (idx (fun c => decide (d = c)) xs 0)) H) : C 47 [.sl 0 5 (rows xs), .agg d.enc] H Q :=
  F47.call (F47.loop hs H xs [] rfl (h H))
theorem idx_any {α : Type} (p : α → Bool) (xs : List α) : leI 0 (idx p xs 0) = xs.any p := by
  rcases idx_cases p xs 0 with ⟨h1, h2⟩ | ⟨pre, c, post, h1, h2, h3, _⟩
  · rw [h1]
    have : xs.any p = false := by rw [List.any_eq_false]; intro c hc; simp [h2 c hc]
    rw [this]; rfl
  · rw [h2]
    have : xs.any p = true := by rw [List.any_eq_true]; exact ⟨c, by rw [h1]; simp, h3⟩
    rw [this]
    simp [leI]
theorem F25.spec {xs : List Cl} {d : Cl} {H : Heap} {Q : AV → Heap → Prop} (hs : xs.length ≤ 140737488355328) (h : ∀ H, Q (.bool (xs.any fun c => decide (d = c))) H) : C 25 [.sl 0 5 (rows xs), .agg d.enc] H Q := by
  refine F25.call ?_
  unfold F25.t
  refine F47.spec hs fun H1 => ?_
  ((try simp only [G_int, G_bool, G_str, G_sl, G_own, toInt_int, toBool_bool, toStr_str, slXs_sl, enc_0, enc_1, enc_2, enc_3, enc_4, lenI_rows]); (try simp only [ci_lt, ci_le, ci_eq, ci_eqS, ci_nblt, ci_nble, cond_not, G_lt, G_le, G_eq, G_nble, G_nblt, G_room, G_roomN, cond_true, cond_false, G_true, Nat.add_zero]))
  rw [idx_any]
  exact h _
theorem F48.loop {xs : List ByteArray} {d : ByteArray} {Q : AV → Heap → Prop} (hs : xs.length ≤ 140737488355328) (H : Heap) : ∀ (post pre : List ByteArray), xs = pre ++ post → Q (.int .i64 (idx (fun c => decide (d = c)) post pre.length)) H → F48.L0 (strs xs) d Q pre.length H
  | [], pre, h, hQ => by
    refine F48.L0_step ?_
    unfold F48.r0
    rw [lenI_strs]
    ((try simp only [G_int, G_bool, G_str, G_sl, G_own, toInt_int, toBool_bool, toStr_str, slXs_sl, enc_0, enc_1, enc_2, enc_3, enc_4, lenI_rows]); (try simp only [ci_lt, ci_le, ci_eq, ci_eqS, ci_nblt, ci_nble, cond_not, G_lt, G_le, G_eq, G_nble, G_nblt, G_room, G_roomN, cond_true, cond_false, G_true, Nat.add_zero]))
    exact ⟨fun e => absurd e (by simp [h]), fun _ => hQ⟩
  | c :: post, pre, h, hQ => by
    have hl := fits_len h
    refine F48.L0_step ?_
    unfold F48.r0
    rw [srow_mid h, lenI_strs, str_0]
    ((try simp only [G_int, G_bool, G_str, G_sl, G_own, toInt_int, toBool_bool, toStr_str, slXs_sl, enc_0, enc_1, enc_2, enc_3, enc_4, lenI_rows]); (try simp only [ci_lt, ci_le, ci_eq, ci_eqS, ci_nblt, ci_nble, cond_not, G_lt, G_le, G_eq, G_nble, G_nblt, G_room, G_roomN, cond_true, cond_false, G_true, Nat.add_zero]))
    refine ⟨fun _ => ⟨by omega, by omega, ?_⟩, fun e => absurd e (by omega)⟩
    rw [idx] at hQ
    refine ⟨fun e => by rwa [decide_eq_true e, if_pos rfl] at hQ, fun e => ?_⟩
    rw [addW_eq (by omega) (by omega)]
    have := F48.loop (d := d) (Q := Q) hs H post (pre ++ [c]) (by rw [h]; simp) (by
      rw [decide_eq_false e, if_neg (by simp)] at hQ
      simpa using hQ)
    rw [List.length_append, List.length_singleton] at this
    exact this
theorem F29.spec {xs : List ByteArray} {d : ByteArray} {H : Heap} {Q : AV → Heap → Prop} (hs : xs.length ≤ 140737488355328) (h : ∀ H, Q (.bool (xs.any fun c => decide (d = c))) H) : C 29 [.sl 0 1 (strs xs), .str d] H Q := by
  refine F29.call ?_
  unfold F29.t
  refine F48.call (F48.loop hs _ xs [] rfl ?_)
  ((try simp only [G_int, G_bool, G_str, G_sl, G_own, toInt_int, toBool_bool, toStr_str, slXs_sl, enc_0, enc_1, enc_2, enc_3, enc_4, lenI_rows]); (try simp only [ci_lt, ci_le, ci_eq, ci_eqS, ci_nblt, ci_nble, cond_not, G_lt, G_le, G_eq, G_nble, G_nblt, G_room, G_roomN, cond_true, cond_false, G_true, Nat.add_zero]))
  rw [List.length_nil, idx_any]
  exact h _

/-! Clone -/
theorem F26.spec {xs : List Cl} {H : Heap} {Q : AV → Heap → Prop} (hs : xs.length ≤ 100000) (h : ∀ v H, v.isOwn 5 = true → v.slXs = rows xs → Q v H) : C 26 [.sl 0 5 (rows xs)] H Q := by
  refine F26.call ?_
  unfold F26.t
  intro b hb
  cases b
  · rw [cond_false, G_room, length_rows]
    exact ⟨by simp; omega, h _ _ rfl rfl⟩
  · rw [cond_true]
    exact h _ _ rfl (hb rfl).symm

/-! Get -/
def getL (xs : List Cl) (k : ByteArray) : ByteArray × Bool := match xs.find? (keyIs k) with | some c => if c.gone then (⟨#[]⟩, false) else (c.value, true) | none => (⟨#[]⟩, false)
theorem F17.spec {xs : List Cl} {k : ByteArray} {H : Heap} {Q : AV → Heap → Prop} (hs : xs.length ≤ 140737488355328) (h : ∀ H, Q (.tup [.str (getL xs k).1, .bool (getL xs k).2]) H) : C 17 [.sl 0 5 (rows xs), .str k] H Q := by
  refine F17.call ?_
  unfold F17.t
  refine F36.spec hs fun H1 => ?_
  have h := h (H.past H1)
  ((try simp only [G_int, G_bool, G_str, G_sl, G_own, toInt_int, toBool_bool, toStr_str, slXs_sl, enc_0, enc_1, enc_2, enc_3, enc_4, lenI_rows]); (try simp only [ci_lt, ci_le, ci_eq, ci_eqS, ci_nblt, ci_nble, cond_not, G_lt, G_le, G_eq, G_nble, G_nblt, G_room, G_roomN, cond_true, cond_false, G_true, Nat.add_zero]))
  rcases idx_cases (keyIs k) xs 0 with ⟨h1, h2⟩ | ⟨pre, c, post, h1, h2, h3, h4⟩
  · rw [h1]
    have hf : xs.find? (keyIs k) = none := by simpa using h2
    rw [getL, hf] at h
    exact ⟨fun _ => h, fun e => absurd (by omega) e⟩
  · rw [h2, Nat.zero_add]
    have hl := fits_len h1
    have hf : xs.find? (keyIs k) = some c := by
      rw [h1, List.find?_append, List.find?_cons, h3]
      have : pre.find? (keyIs k) = none := by simpa using h4
      rw [this]; rfl
    rw [getL, hf] at h
    rw [row_mid h1]
    ((try simp only [G_int, G_bool, G_str, G_sl, G_own, toInt_int, toBool_bool, toStr_str, slXs_sl, enc_0, enc_1, enc_2, enc_3, enc_4, lenI_rows]); (try simp only [ci_lt, ci_le, ci_eq, ci_eqS, ci_nblt, ci_nble, cond_not, G_lt, G_le, G_eq, G_nble, G_nblt, G_room, G_roomN, cond_true, cond_false, G_true, Nat.add_zero]))
    refine ⟨fun e => absurd e (by omega), fun _ => ⟨by omega, by omega, ?_⟩⟩
    cases hg : c.gone
    · rw [cond_false]
      simp only [hg, Bool.false_eq_true, if_false] at h
      exact ⟨by omega, by omega, h⟩
    · rw [cond_true]
      simpa [hg] using h
end Go.Proofs.Ytkjmkhgaghighaa.Ab
