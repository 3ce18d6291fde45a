/- Heal: what its functions compute, part one. -/
import Derived.Test.YtkjmkhgaghighaaHealTopic
namespace Go.Proofs.Ytkjmkhgaghighaa.Ab
open Go
set_option linter.unusedSimpArgs false

structure Cl where
  key : ByteArray
  value : ByteArray
  gone : Bool
  epoch : Int
  node : Int
  deriving DecidableEq
def Cl.enc (c : Cl) : List AV := [.str c.key, .str c.value, .bool c.gone, .int .i64 c.epoch, .int .i64 c.node]
def rows (xs : List Cl) : List (List AV) := xs.map Cl.enc
instance : Inhabited Cl := ⟨⟨⟨#[]⟩, ⟨#[]⟩, false, 0, 0⟩⟩
section
variable {c : Cl} {xs pre post : List Cl}
theorem enc_0 : c.enc.getD 0 .any = .str c.key := rfl
theorem enc_1 : c.enc.getD 1 .any = .str c.value := rfl
theorem enc_2 : c.enc.getD 2 .any = .bool c.gone := rfl
theorem enc_3 : c.enc.getD 3 .any = .int .i64 c.epoch := rfl
theorem enc_4 : c.enc.getD 4 .any = .int .i64 c.node := rfl
theorem lenI_rows : lenI (rows xs) = (xs.length : Int) := by simp [lenI, rows]
theorem length_rows : (rows xs).length = xs.length := by simp [rows]
theorem row_mid (h : xs = pre ++ c :: post) : (rows xs).getD (pre.length : Int).toNat [] = c.enc := by subst h; simp [rows]
theorem row_at {i : Int} {n : Nat} (hi : i = n) (h : xs[n]? = some c) : (rows xs).getD i.toNat [] = c.enc := by subst hi; simp [rows, h]
theorem rows_snoc : rows xs ++ [c.enc] = rows (xs ++ [c]) := by simp [rows]
theorem enc_def : [AV.str c.key, AV.str c.value, AV.bool c.gone, AV.int .i64 c.epoch, AV.int .i64 c.node] = c.enc := rfl
end

/-! One cell -/
def oneE (c : Cl) : Int :=
  if topicB c.key then
    if (4096 : Int) < c.value.size then 5 else if c.gone = true ∧ c.value ≠ ⟨#[]⟩ then 28
    else if c.epoch < 1 ∨ 1099511627776 < c.epoch ∨ c.node < 0 ∨ 7 ≤ c.node then 1 else 0
  else 12
theorem F30.spec {c : Cl} {H : Heap} {Q : AV → Heap → Prop} (h : ∀ H, Q (.int .i64 (oneE c)) H) : C 30 [.agg c.enc] H Q := by
  refine F30.call ?_
  unfold F30.t
  refine F49.spec fun H1 => ?_
  have h := h (H.past H1)
  unfold oneE at h
  ((try simp only [G_int, G_bool, G_str, G_sl, G_own, toInt_int, toBool_bool, toStr_str, slXs_sl, enc_0, enc_1, enc_2, enc_3, enc_4, lenI_rows]); (try simp only [ci_lt, ci_le, ci_eq, ci_eqS, ci_nblt, ci_nble, cond_not, G_lt, G_le, G_eq, G_nble, G_nblt, G_room, G_roomN, cond_true, cond_false, G_true, Nat.add_zero]))
  rw [sizeI_bs, ← bs_size]
  cases ht : topicB c.key <;> rw [ht] at h
  · simpa only [cond_false, Bool.false_eq_true, if_false] using h
  · simp only [if_true] at h
    rw [cond_true]
    refine ⟨fun e => by rwa [if_pos e] at h, fun e => ?_⟩
    rw [if_neg e] at h
    have tail : Q (.int .i64 (if c.epoch < 1 ∨ 1099511627776 < c.epoch ∨ c.node < 0 ∨ 7 ≤ c.node then 1 else 0)) (H.past H1) → ((c.epoch < 1 → Q (.int .i64 1) (H.past H1)) ∧ (¬ c.epoch < 1 → (1099511627776 < c.epoch → Q (.int .i64 1) (H.past H1)) ∧ (¬ 1099511627776 < c.epoch → (c.node < 0 → Q (.int .i64 1) (H.past H1)) ∧ (¬ c.node < 0 → (7 ≤ c.node → Q (.int .i64 1) (H.past H1)) ∧ (¬ 7 ≤ c.node → Q (.int .i64 0) (H.past H1)))))) := by
      intro h
      refine ⟨fun e1 => by rwa [if_pos (.inl e1)] at h, fun e1 => ⟨fun e2 => by rwa [if_pos (.inr (.inl e2))] at h, fun e2 => ⟨fun e3 => by rwa [if_pos (.inr (.inr (.inl e3)))] at h, fun e3 => ⟨fun e4 => by rwa [if_pos (.inr (.inr (.inr e4)))] at h, fun e4 => by rwa [if_neg (by simp [e1, e2, e3, e4])] at h⟩⟩⟩⟩
    cases hg : c.gone <;> rw [hg] at h
    · rw [if_neg (by simp)] at h
      exact tail h
    · rw [cond_true]
      refine ⟨fun ev => ?_, fun ev => by rwa [if_pos ⟨rfl, ev⟩] at h⟩
      rw [if_neg (by simp [ev])] at h
      exact tail h
theorem F32.spec {c : Cl} {H : Heap} {Q : AV → Heap → Prop} (h : ∀ H, Q (.int .i64 (oneE c)) H) : C 32 [.agg c.enc] H Q := by
  refine F32.call ?_
  unfold F32.t
  refine F50.spec fun H1 => ?_
  have h := h (H.past H1)
  unfold oneE at h
  ((try simp only [G_int, G_bool, G_str, G_sl, G_own, toInt_int, toBool_bool, toStr_str, slXs_sl, enc_0, enc_1, enc_2, enc_3, enc_4, lenI_rows]); (try simp only [ci_lt, ci_le, ci_eq, ci_eqS, ci_nblt, ci_nble, cond_not, G_lt, G_le, G_eq, G_nble, G_nblt, G_room, G_roomN, cond_true, cond_false, G_true, Nat.add_zero]))
  rw [sizeI_bs, ← bs_size]
  cases ht : topicB c.key <;> rw [ht] at h
  · simpa only [cond_false, Bool.false_eq_true, if_false] using h
  · simp only [if_true] at h
    rw [cond_true]
    refine ⟨fun e => by rwa [if_pos e] at h, fun e => ?_⟩
    rw [if_neg e] at h
    have tail : Q (.int .i64 (if c.epoch < 1 ∨ 1099511627776 < c.epoch ∨ c.node < 0 ∨ 7 ≤ c.node then 1 else 0)) (H.past H1) → ((c.epoch < 1 → Q (.int .i64 1) (H.past H1)) ∧ (¬ c.epoch < 1 → (1099511627776 < c.epoch → Q (.int .i64 1) (H.past H1)) ∧ (¬ 1099511627776 < c.epoch → (c.node < 0 → Q (.int .i64 1) (H.past H1)) ∧ (¬ c.node < 0 → (7 ≤ c.node → Q (.int .i64 1) (H.past H1)) ∧ (¬ 7 ≤ c.node → Q (.int .i64 0) (H.past H1)))))) := by
      intro h
      refine ⟨fun e1 => by rwa [if_pos (.inl e1)] at h, fun e1 => ⟨fun e2 => by rwa [if_pos (.inr (.inl e2))] at h, fun e2 => ⟨fun e3 => by rwa [if_pos (.inr (.inr (.inl e3)))] at h, fun e3 => ⟨fun e4 => by rwa [if_pos (.inr (.inr (.inr e4)))] at h, fun e4 => by rwa [if_neg (by simp [e1, e2, e3, e4])] at h⟩⟩⟩⟩
    cases hg : c.gone <;> rw [hg] at h
    · rw [if_neg (by simp)] at h
      exact tail h
    · rw [cond_true]
      refine ⟨fun ev => ?_, fun ev => by rwa [if_pos ⟨rfl, ev⟩] at h⟩
      rw [if_neg (by simp [ev])] at h
      exact tail h

/-! A list of cells -/
def chk : Option ByteArray → List Cl → Int
  | _, [] => 0
  | p, c :: r => if oneE c = 0 then (match p with | some k => if ltS k c.key then chk (some c.key) r else 22 | none => chk (some c.key) r) else oneE c
def checkE (xs : List Cl) : Int := if (256 : Int) < xs.length then 5 else chk none xs
def lastK (pre : List Cl) : Option ByteArray := pre.getLast?.map (·.key)
theorem F11.loop {xs : List Cl} {Q : AV → Heap → Prop} (hs : xs.length ≤ 140737488355328) : ∀ (post pre : List Cl) (H : Heap), xs = pre ++ post → (∀ H, Q (.int .i64 (chk (lastK pre) post)) H) → F11.L0 (rows xs) Q pre.length H
  | [], pre, H, h, hQ => by
    refine F11.L0_step ?_
    unfold F11.r0
    ((try simp only [G_int, G_bool, G_str, G_sl, G_own, toInt_int, toBool_bool, toStr_str, slXs_sl, enc_0, enc_1, enc_2, enc_3, enc_4, lenI_rows]); (try simp only [ci_lt, ci_le, ci_eq, ci_eqS, ci_nblt, ci_nble, cond_not, G_lt, G_le, G_eq, G_nble, G_nblt, G_room, G_roomN, cond_true, cond_false, G_true, Nat.add_zero]))
    exact ⟨fun e => absurd e (by simp [h]), fun _ => hQ H⟩
  | c :: post, pre, H, h, hQ => by
    have hl : xs.length = pre.length + (post.length + 1) := by rw [h]; simp
    refine F11.L0_step ?_
    unfold F11.r0
    rw [row_mid h]
    ((try simp only [G_int, G_bool, G_str, G_sl, G_own, toInt_int, toBool_bool, toStr_str, slXs_sl, enc_0, enc_1, enc_2, enc_3, enc_4, lenI_rows]); (try simp only [ci_lt, ci_le, ci_eq, ci_eqS, ci_nblt, ci_nble, cond_not, G_lt, G_le, G_eq, G_nble, G_nblt, G_room, G_roomN, cond_true, cond_false, G_true, Nat.add_zero]))
    refine ⟨fun _ => ⟨by omega, by omega, ?_⟩, fun e => absurd e (by omega)⟩
    refine F30.spec fun H1 => ?_
    ((try simp only [G_int, G_bool, G_str, G_sl, G_own, toInt_int, toBool_bool, toStr_str, slXs_sl, enc_0, enc_1, enc_2, enc_3, enc_4, lenI_rows]); (try simp only [ci_lt, ci_le, ci_eq, ci_eqS, ci_nblt, ci_nble, cond_not, G_lt, G_le, G_eq, G_nble, G_nblt, G_room, G_roomN, cond_true, cond_false, G_true, Nat.add_zero]))
    have hq := hQ (H.past H1)
    simp only [chk] at hq
    refine ⟨fun e => ?_, fun e => by rwa [if_neg e] at hq⟩
    · rw [if_pos e] at hq
      have next : (∀ H, Q (.int .i64 (chk (some c.key) post)) H) → F11.L0 (rows xs) Q (addW .i64 (pre.length : Int) 1) (H.past H1) := by
        intro hq
        rw [addW_eq (by omega) (by omega)]
        have := F11.loop hs post (pre ++ [c]) (H.past H1) (by rw [h]; simp) (by simpa [lastK] using hq)
        rw [List.length_append, List.length_singleton] at this
        exact this
      rcases List.eq_nil_or_concat pre with rfl | ⟨pre', d, rfl⟩
      · refine ⟨fun e => absurd e (by simp), fun _ => next fun H' => ?_⟩
        have := hQ H'
        simp only [chk, if_pos e, lastK, List.getLast?_nil, Option.map_none] at this
        exact this
      · refine ⟨fun _ => ?_, fun e => absurd e (by simp)⟩
        have hlen : ((pre'.concat d).length : Int) = (pre'.length : Int) + 1 := by simp
        have hd : xs[pre'.length]? = some d := by rw [h]; simp
        rw [subW_eq (by omega) (by omega), row_at (n := pre'.length) (by omega) hd]
        ((try simp only [G_int, G_bool, G_str, G_sl, G_own, toInt_int, toBool_bool, toStr_str, slXs_sl, enc_0, enc_1, enc_2, enc_3, enc_4, lenI_rows]); (try simp only [ci_lt, ci_le, ci_eq, ci_eqS, ci_nblt, ci_nble, cond_not, G_lt, G_le, G_eq, G_nble, G_nblt, G_room, G_roomN, cond_true, cond_false, G_true, Nat.add_zero]))
        refine ⟨by omega, by omega, ?_⟩
        have hk : lastK (pre'.concat d) = some d.key := by simp [lastK]
        cases hlt : ltS d.key c.key
        · simp only [cond_false]
          rw [hk] at hq
          simpa [hlt] using hq
        · simp only [cond_true]
          refine next fun H' => ?_
          have := hQ H'
          simp only [chk, if_pos e, hk, hlt, if_true] at this
          exact this
theorem F11.spec {xs : List Cl} {H : Heap} {Q : AV → Heap → Prop} (hs : xs.length ≤ 140737488355328) (h : ∀ H, Q (.int .i64 (checkE xs)) H) : C 11 [.sl 0 5 (rows xs)] H Q := by
  refine F11.call ?_
  unfold F11.t
  ((try simp only [G_int, G_bool, G_str, G_sl, G_own, toInt_int, toBool_bool, toStr_str, slXs_sl, enc_0, enc_1, enc_2, enc_3, enc_4, lenI_rows]); (try simp only [ci_lt, ci_le, ci_eq, ci_eqS, ci_nblt, ci_nble, cond_not, G_lt, G_le, G_eq, G_nble, G_nblt, G_room, G_roomN, cond_true, cond_false, G_true, Nat.add_zero]))
  refine ⟨fun e => ?_, fun e => F11.loop hs xs [] H rfl fun H => by have := h H; rwa [checkE, if_neg e] at this⟩
  have := h H
  rwa [checkE, if_pos e] at this
theorem F10.loop {xs : List Cl} {Q : AV → Heap → Prop} (hs : xs.length ≤ 140737488355328) : ∀ (post pre : List Cl) (H : Heap), xs = pre ++ post → (∀ H, Q (.int .i64 (chk (lastK pre) post)) H) → F10.L0 (rows xs) Q pre.length H
  | [], pre, H, h, hQ => by
    refine F10.L0_step ?_
    unfold F10.r0
    ((try simp only [G_int, G_bool, G_str, G_sl, G_own, toInt_int, toBool_bool, toStr_str, slXs_sl, enc_0, enc_1, enc_2, enc_3, enc_4, lenI_rows]); (try simp only [ci_lt, ci_le, ci_eq, ci_eqS, ci_nblt, ci_nble, cond_not, G_lt, G_le, G_eq, G_nble, G_nblt, G_room, G_roomN, cond_true, cond_false, G_true, Nat.add_zero]))
    exact ⟨fun e => absurd e (by simp [h]), fun _ => hQ H⟩
  | c :: post, pre, H, h, hQ => by
    have hl : xs.length = pre.length + (post.length + 1) := by rw [h]; simp
    refine F10.L0_step ?_
    unfold F10.r0
    rw [row_mid h]
    ((try simp only [G_int, G_bool, G_str, G_sl, G_own, toInt_int, toBool_bool, toStr_str, slXs_sl, enc_0, enc_1, enc_2, enc_3, enc_4, lenI_rows]); (try simp only [ci_lt, ci_le, ci_eq, ci_eqS, ci_nblt, ci_nble, cond_not, G_lt, G_le, G_eq, G_nble, G_nblt, G_room, G_roomN, cond_true, cond_false, G_true, Nat.add_zero]))
    refine ⟨fun _ => ⟨by omega, by omega, ?_⟩, fun e => absurd e (by omega)⟩
    refine F32.spec fun H1 => ?_
    ((try simp only [G_int, G_bool, G_str, G_sl, G_own, toInt_int, toBool_bool, toStr_str, slXs_sl, enc_0, enc_1, enc_2, enc_3, enc_4, lenI_rows]); (try simp only [ci_lt, ci_le, ci_eq, ci_eqS, ci_nblt, ci_nble, cond_not, G_lt, G_le, G_eq, G_nble, G_nblt, G_room, G_roomN, cond_true, cond_false, G_true, Nat.add_zero]))
    have hq := hQ (H.past H1)
    simp only [chk] at hq
    refine ⟨fun e => ?_, fun e => by rwa [if_neg e] at hq⟩
    · rw [if_pos e] at hq
      have next : (∀ H, Q (.int .i64 (chk (some c.key) post)) H) → F10.L0 (rows xs) Q (addW .i64 (pre.length : Int) 1) (H.past H1) := by
        intro hq
        rw [addW_eq (by omega) (by omega)]
        have := F10.loop hs post (pre ++ [c]) (H.past H1) (by rw [h]; simp) (by simpa [lastK] using hq)
        rw [List.length_append, List.length_singleton] at this
        exact this
      rcases List.eq_nil_or_concat pre with rfl | ⟨pre', d, rfl⟩
      · refine ⟨fun e => absurd e (by simp), fun _ => next fun H' => ?_⟩
        have := hQ H'
        simp only [chk, if_pos e, lastK, List.getLast?_nil, Option.map_none] at this
        exact this
      · refine ⟨fun _ => ?_, fun e => absurd e (by simp)⟩
        have hlen : ((pre'.concat d).length : Int) = (pre'.length : Int) + 1 := by simp
        have hd : xs[pre'.length]? = some d := by rw [h]; simp
        rw [subW_eq (by omega) (by omega), row_at (n := pre'.length) (by omega) hd]
        ((try simp only [G_int, G_bool, G_str, G_sl, G_own, toInt_int, toBool_bool, toStr_str, slXs_sl, enc_0, enc_1, enc_2, enc_3, enc_4, lenI_rows]); (try simp only [ci_lt, ci_le, ci_eq, ci_eqS, ci_nblt, ci_nble, cond_not, G_lt, G_le, G_eq, G_nble, G_nblt, G_room, G_roomN, cond_true, cond_false, G_true, Nat.add_zero]))
        refine ⟨by omega, by omega, ?_⟩
        have hk : lastK (pre'.concat d) = some d.key := by simp [lastK]
        cases hlt : ltS d.key c.key
        · simp only [cond_false]
          rw [hk] at hq
          simpa [hlt] using hq
        · simp only [cond_true]
          refine next fun H' => ?_
          have := hQ H'
          simp only [chk, if_pos e, hk, hlt, if_true] at this
          exact this
theorem F10.spec {xs : List Cl} {H : Heap} {Q : AV → Heap → Prop} (hs : xs.length ≤ 140737488355328) (h : ∀ H, Q (.int .i64 (checkE xs)) H) : C 10 [.sl 0 5 (rows xs)] H Q := by
  refine F10.call ?_
  unfold F10.t
  ((try simp only [G_int, G_bool, G_str, G_sl, G_own, toInt_int, toBool_bool, toStr_str, slXs_sl, enc_0, enc_1, enc_2, enc_3, enc_4, lenI_rows]); (try simp only [ci_lt, ci_le, ci_eq, ci_eqS, ci_nblt, ci_nble, cond_not, G_lt, G_le, G_eq, G_nble, G_nblt, G_room, G_roomN, cond_true, cond_false, G_true, Nat.add_zero]))
  refine ⟨fun e => ?_, fun e => F10.loop hs xs [] H rfl fun H => by have := h H; rwa [checkE, if_neg e] at this⟩
  have := h H
  rwa [checkE, if_pos e] at this

/-! Stamps -/
def higher (a b : Cl) : Bool := decide (b.epoch < a.epoch) || (decide (a.epoch = b.epoch) && decide (b.node < a.node))
def prevB (a b : Cl) : Bool := if a.epoch = b.epoch ∧ a.node = b.node then (if a.gone = b.gone then ltS b.value a.value else b.gone) else higher a b
theorem F37.spec {a b : Cl} {H : Heap} {Q : AV → Heap → Prop} (h : ∀ H, Q (.bool (higher a b)) H) : C 37 [.agg [.int .i64 a.epoch, .int .i64 a.node], .agg [.int .i64 b.epoch, .int .i64 b.node]] H Q := by
  refine F37.call ?_
  unfold F37.t
  ((try simp only [G_int, G_bool, G_str, G_sl, G_own, toInt_int, toBool_bool, toStr_str, slXs_sl, enc_0, enc_1, enc_2, enc_3, enc_4, lenI_rows]); (try simp only [ci_lt, ci_le, ci_eq, ci_eqS, ci_nblt, ci_nble, cond_not, G_lt, G_le, G_eq, G_nble, G_nblt, G_room, G_roomN, cond_true, cond_false, G_true, Nat.add_zero]))
  have h := h H
  unfold higher at h
  exact ⟨fun e => by simpa [e] using h, fun e => ⟨fun e1 => by simpa [e, e1, ltI] using h, fun e1 => by simpa [e, e1] using h⟩⟩
theorem F34.spec {a b : Cl} {H : Heap} {Q : AV → Heap → Prop} (h : ∀ H, Q (.bool (higher a b)) H) : C 34 [.agg [.int .i64 a.epoch, .int .i64 a.node], .agg [.int .i64 b.epoch, .int .i64 b.node]] H Q := by
  refine F34.call ?_
  unfold F34.t
  ((try simp only [G_int, G_bool, G_str, G_sl, G_own, toInt_int, toBool_bool, toStr_str, slXs_sl, enc_0, enc_1, enc_2, enc_3, enc_4, lenI_rows]); (try simp only [ci_lt, ci_le, ci_eq, ci_eqS, ci_nblt, ci_nble, cond_not, G_lt, G_le, G_eq, G_nble, G_nblt, G_room, G_roomN, cond_true, cond_false, G_true, Nat.add_zero]))
  have h := h H
  unfold higher at h
  exact ⟨fun e => by simpa [e] using h, fun e => ⟨fun e1 => by simpa [e, e1, ltI] using h, fun e1 => by simpa [e, e1] using h⟩⟩
theorem F28.spec {a b : Cl} {H : Heap} {Q : AV → Heap → Prop} (h : ∀ H, Q (.bool (prevB a b)) H) : C 28 [.agg a.enc, .agg b.enc] H Q := by
  refine F28.call ?_
  unfold F28.t
  rw [cond_not, Bool.and_true]
  by_cases e : a.epoch = b.epoch ∧ a.node = b.node
  · have h := h H
    rw [prevB, if_pos e] at h
    rw [show (eqI a.epoch b.epoch && eqI a.node b.node) = true by simp [eqI, e.1, e.2], cond_true, cond_not]
    by_cases g : a.gone = b.gone
    · rw [if_pos g] at h
      rw [show (a.gone == b.gone) = true by simp [g], cond_true]
      exact h
    · rw [if_neg g] at h
      rw [show (a.gone == b.gone) = false by simp [g], cond_false]
      exact h
  · rw [show (eqI a.epoch b.epoch && eqI a.node b.node) = false by simp only [eqI, Bool.and_eq_false_iff, decide_eq_false_iff_not]; exact Classical.not_and_iff_not_or_not.1 e, cond_false]
    refine F37.spec fun H1 => ?_
    ((try simp only [G_int, G_bool, G_str, G_sl, G_own, toInt_int, toBool_bool, toStr_str, slXs_sl, enc_0, enc_1, enc_2, enc_3, enc_4, lenI_rows]); (try simp only [ci_lt, ci_le, ci_eq, ci_eqS, ci_nblt, ci_nble, cond_not, G_lt, G_le, G_eq, G_nble, G_nblt, G_room, G_roomN, cond_true, cond_false, G_true, Nat.add_zero]))
    have h := h (H.past H1)
    rwa [prevB, if_neg e] at h
theorem F41.spec {a b : Cl} {H : Heap} {Q : AV → Heap → Prop} (h : ∀ H, Q (.bool (prevB a b)) H) : C 41 [.agg a.enc, .agg b.enc] H Q := by
  refine F41.call ?_
  unfold F41.t
  rw [cond_not, Bool.and_true]
  by_cases e : a.epoch = b.epoch ∧ a.node = b.node
  · have h := h H
    rw [prevB, if_pos e] at h
    rw [show (eqI a.epoch b.epoch && eqI a.node b.node) = true by simp [eqI, e.1, e.2], cond_true, cond_not]
    by_cases g : a.gone = b.gone
    · rw [if_pos g] at h
      rw [show (a.gone == b.gone) = true by simp [g], cond_true]
      exact h
    · rw [if_neg g] at h
      rw [show (a.gone == b.gone) = false by simp [g], cond_false]
      exact h
  · rw [show (eqI a.epoch b.epoch && eqI a.node b.node) = false by simp only [eqI, Bool.and_eq_false_iff, decide_eq_false_iff_not]; exact Classical.not_and_iff_not_or_not.1 e, cond_false]
    refine F34.spec fun H1 => ?_
    ((try simp only [G_int, G_bool, G_str, G_sl, G_own, toInt_int, toBool_bool, toStr_str, slXs_sl, enc_0, enc_1, enc_2, enc_3, enc_4, lenI_rows]); (try simp only [ci_lt, ci_le, ci_eq, ci_eqS, ci_nblt, ci_nble, cond_not, G_lt, G_le, G_eq, G_nble, G_nblt, G_room, G_roomN, cond_true, cond_false, G_true, Nat.add_zero]))
    have h := h (H.past H1)
    rwa [prevB, if_neg e] at h
end Go.Proofs.Ytkjmkhgaghighaa.Ab
