/- Heal: sorted lists of cells, as finite maps. -/
import Derived.Test.YtkjmkhgaghighaaHealEx
namespace Go.Proofs.Ytkjmkhgaghighaa.Ab
open Go

theorem lt_irr (s : ByteArray) : ltS s s = false := by rw [ltS_eq]; simp [List.lt_irrefl]
theorem lt_tr {s t u : ByteArray} (h : ltS s t = true) (k : ltS t u = true) : ltS s u = true := by
  rw [ltS_eq, decide_eq_true_eq] at *
  exact List.lt_trans h k
theorem lt_asymm {s t : ByteArray} (h : ltS s t = true) : ltS t s = false := by
  cases k : ltS t s with
  | false => rfl
  | true => have := lt_tr h k; rw [lt_irr] at this; cases this
theorem lt_tri {s t : ByteArray} (h : ltS s t = false) (k : ltS t s = false) : s = t := by
  rw [ltS_eq, decide_eq_false_iff_not] at *
  exact bs_inj (List.le_antisymm (List.not_lt.1 k) (List.not_lt.1 h))
theorem lt_ne {s t : ByteArray} (h : ltS s t = true) : s ≠ t := fun e => by rw [e, lt_irr] at h; cases h

def Srt (xs : List Cl) : Prop := xs.Pairwise fun a b => ltS a.key b.key = true
theorem chk_zero : ∀ (xs : List Cl) (p : Option ByteArray), chk p xs = 0 → (∀ c ∈ xs, oneE c = 0) ∧ Srt xs ∧ ∀ k, p = some k → ∀ c ∈ xs, ltS k c.key = true
  | [], p, _ => ⟨by simp, List.Pairwise.nil, by simp⟩
  | c :: r, p, h => by
    simp only [chk] at h
    by_cases e : oneE c = 0
    · rw [if_pos e] at h
      have key : chk (some c.key) r = 0 ∧ ∀ k, p = some k → ltS k c.key = true := by
        cases p with
        | none => exact ⟨h, by simp⟩
        | some k =>
          simp only at h
          cases hk : ltS k c.key
          · rw [hk] at h; simp at h
          · rw [hk] at h; exact ⟨by simpa using h, fun k' e => by cases e; exact hk⟩
      obtain ⟨h1, h2, h3⟩ := chk_zero r _ key.1
      refine ⟨fun d hd => (List.mem_cons.1 hd).elim (fun q => q ▸ e) (h1 d), List.Pairwise.cons (h3 _ rfl) h2, fun k hk d hd => ?_⟩
      rcases List.mem_cons.1 hd with hd | hd
      · rw [hd]; exact key.2 k hk
      · exact lt_tr (key.2 k hk) (h3 _ rfl d hd)
    · rw [if_neg e] at h
      exact absurd h e
theorem chk_of : ∀ (xs : List Cl) (p : Option ByteArray), (∀ c ∈ xs, oneE c = 0) → Srt xs → (∀ k, p = some k → ∀ c ∈ xs, ltS k c.key = true) → chk p xs = 0
  | [], _, _, _, _ => rfl
  | c :: r, p, h1, h2, h3 => by
    have := chk_of r (some c.key) (fun d hd => h1 d (by simp [hd])) (List.pairwise_cons.1 h2).2 (fun k hk d hd => by cases hk; exact (List.pairwise_cons.1 h2).1 d hd)
    simp only [chk]
    rw [if_pos (h1 c (by simp))]
    cases p with
    | none => exact this
    | some k => simp only [h3 k rfl c (by simp), if_true]; exact this

/-- The cell of a key. -/
def look (xs : List Cl) (k : ByteArray) : Option Cl := xs.find? (keyIs k)
theorem look_nil (k : ByteArray) : look [] k = none := rfl
theorem look_cons (c : Cl) (xs : List Cl) (k : ByteArray) : look (c :: xs) k = if c.key = k then some c else look xs k := by
  unfold look
  rw [List.find?_cons]
  by_cases h : c.key = k <;> simp [keyIs, h]
theorem look_key {xs : List Cl} {k : ByteArray} {c : Cl} (h : look xs k = some c) : c.key = k := by
  have := List.find?_some h
  simpa [keyIs] using this
theorem look_mem {xs : List Cl} {k : ByteArray} {c : Cl} (h : look xs k = some c) : c ∈ xs := List.mem_of_find?_eq_some h
theorem look_none {xs : List Cl} {k : ByteArray} : look xs k = none ↔ ∀ c ∈ xs, c.key ≠ k := by
  unfold look
  rw [List.find?_eq_none]
  simp [keyIs]
theorem look_of_mem {xs : List Cl} (hs : Srt xs) {c : Cl} (hc : c ∈ xs) : look xs c.key = some c := by
  induction xs with
  | nil => simp at hc
  | cons d xs ih =>
    rw [look_cons]
    rcases List.mem_cons.1 hc with rfl | hc
    · rw [if_pos rfl]
    · have h1 := (List.pairwise_cons.1 hs).1 c hc
      rw [if_neg (lt_ne h1)]
      exact ih (List.pairwise_cons.1 hs).2 hc
theorem look_low {c : Cl} {xs : List Cl} (hs : Srt (c :: xs)) {k : ByteArray} (h : ltS k c.key = true) : look (c :: xs) k = none := by
  rw [look_none]
  intro d hd e
  rcases List.mem_cons.1 hd with rfl | hd
  · rw [e, lt_irr] at h; cases h
  · have := lt_tr h ((List.pairwise_cons.1 hs).1 d hd)
    rw [e, lt_irr] at this; cases this
theorem srt_ext : ∀ {xs ys : List Cl}, Srt xs → Srt ys → (∀ k, look xs k = look ys k) → xs = ys
  | [], [], _, _, _ => rfl
  | [], d :: ys, _, hy, h => by have := h d.key; rw [look_nil, look_cons, if_pos rfl] at this; cases this
  | c :: xs, [], hx, _, h => by have := h c.key; rw [look_nil, look_cons, if_pos rfl] at this; cases this
  | c :: xs, d :: ys, hx, hy, h => by
    have hk : c.key = d.key := by
      cases h1 : ltS c.key d.key with
      | true => have := h c.key; rw [look_low hy h1, look_cons, if_pos rfl] at this; cases this
      | false =>
        cases h2 : ltS d.key c.key with
        | true => have := h d.key; rw [look_low hx h2, look_cons, if_pos rfl] at this; cases this
        | false => exact lt_tri h1 h2
    have hcd : c = d := by
      have := h c.key
      rw [look_cons, if_pos rfl, look_cons, if_pos hk.symm] at this
      exact Option.some.inj this
    subst hcd
    congr 1
    refine srt_ext (List.pairwise_cons.1 hx).2 (List.pairwise_cons.1 hy).2 fun k => ?_
    have := h k
    rw [look_cons, look_cons] at this
    by_cases e : c.key = k
    · subst e
      have e1 : look xs c.key = none := by rw [look_none]; intro d hd e; have := (List.pairwise_cons.1 hx).1 d hd; rw [e, lt_irr] at this; cases this
      have e2 : look ys c.key = none := by rw [look_none]; intro d hd e; have := (List.pairwise_cons.1 hy).1 d hd; rw [e, lt_irr] at this; cases this
      rw [e1, e2]
    · rwa [if_neg e, if_neg e] at this

/-! putL -/
theorem putL_srt {xs : List Cl} (hs : Srt xs) (d : Cl) : Srt (putL xs d) := by
  unfold putL Srt
  rw [List.pairwise_append]
  refine ⟨hs.filter _, List.Pairwise.cons (fun c hc => ?_) (hs.filter _), fun a ha b hb => ?_⟩
  · exact (List.mem_filter.1 hc).2
  · have h1 := (List.mem_filter.1 ha).2
    rcases List.mem_cons.1 hb with rfl | hb
    · exact h1
    · exact lt_tr h1 (List.mem_filter.1 hb).2
theorem putL_mem {xs : List Cl} {d c : Cl} : c ∈ putL xs d ↔ c = d ∨ (c ∈ xs ∧ c.key ≠ d.key) := by
  unfold putL
  simp only [List.mem_append, List.mem_filter, List.mem_cons]
  constructor
  · rintro (⟨h1, h2⟩ | h | ⟨h1, h2⟩)
    · exact .inr ⟨h1, lt_ne h2⟩
    · exact .inl h
    · exact .inr ⟨h1, (lt_ne h2).symm⟩
  · rintro (h | ⟨h1, h2⟩)
    · exact .inr (.inl h)
    · cases h3 : ltS c.key d.key with
      | true => exact .inl ⟨h1, rfl⟩
      | false =>
        cases h4 : ltS d.key c.key with
        | true => exact .inr (.inr ⟨h1, rfl⟩)
        | false => exact absurd (lt_tri h3 h4) h2
theorem look_putL {xs : List Cl} (hs : Srt xs) (d : Cl) (k : ByteArray) : look (putL xs d) k = if d.key = k then some d else look xs k := by
  by_cases e : d.key = k
  · subst e
    rw [if_pos rfl]
    exact look_of_mem (putL_srt hs d) (putL_mem.2 (.inl rfl))
  · rw [if_neg e]
    cases h : look xs k with
    | none =>
      rw [look_none] at h ⊢
      intro c hc
      rcases putL_mem.1 hc with rfl | ⟨h1, _⟩
      · exact e
      · exact h c h1
    | some c =>
      have hk := look_key h
      have := look_of_mem (putL_srt hs d) (putL_mem.2 (.inr ⟨look_mem h, by rw [hk]; exact fun q => e q.symm⟩))
      rwa [hk] at this
end Go.Proofs.Ytkjmkhgaghighaa.Ab
