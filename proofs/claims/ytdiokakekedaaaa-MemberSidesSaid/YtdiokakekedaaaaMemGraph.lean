/- Links between nodes: the least node that each is connected with, and how rounds of relaxing find it. -/
import Derived.Test.YtdiokakekedaaaaAbPs
namespace Go.Proofs.Ytdiokakekedaaaa.Ab
open Go

namespace Gr
/-- The nodes that links connect. -/
inductive Conn (E : List (Nat × Nat)) : Nat → Nat → Prop
  | refl (a : Nat) : Conn E a a
  | step {a b c : Nat} (h : Conn E a b) (e : (b, c) ∈ E ∨ (c, b) ∈ E) : Conn E a c
theorem Conn.trans {E : List (Nat × Nat)} {a b c : Nat} (h : Conn E a b) (k : Conn E b c) : Conn E a c := by
  induction k with
  | refl => exact h
  | step _ e ih => exact .step ih e
theorem Conn.one {E : List (Nat × Nat)} {a b : Nat} (e : (a, b) ∈ E ∨ (b, a) ∈ E) : Conn E a b := .step (.refl a) e
theorem Conn.symm {E : List (Nat × Nat)} {a b : Nat} (h : Conn E a b) : Conn E b a := by
  induction h with
  | refl => exact .refl _
  | step _ e ih => exact (Conn.one e.symm).trans ih
theorem Conn.mono {E E' : List (Nat × Nat)} (hE : ∀ e ∈ E, e ∈ E') {a b : Nat} (h : Conn E a b) : Conn E' a b := by
  induction h with
  | refl => exact .refl _
  | step _ e ih => exact .step ih (e.imp (hE _) (hE _))
/-- Every node has the least node that it is connected with. -/
structure Low (n : Nat) (E : List (Nat × Nat)) (f : Nat → Nat) : Prop where
  le : ∀ k, k < n → f k ≤ k
  conn : ∀ k, k < n → Conn E k (f k)
  edge : ∀ e ∈ E, f e.1 = f e.2
def relab (n frm to : Nat) (f : Nat → Nat) (k : Nat) : Nat := if k < n ∧ f k = frm then to else f k
theorem Low.start (n : Nat) : Low n [] id := ⟨fun _ _ => Nat.le_refl _, fun _ _ => .refl _, by simp⟩
theorem Low.link {n : Nat} {E : List (Nat × Nat)} {f : Nat → Nat} (h : Low n E f) (hE : ∀ e ∈ E, e.1 < n ∧ e.2 < n) {a b : Nat} (ha : a < n) (hb : b < n) : Low n (E ++ [(a, b)]) (relab n (max (f a) (f b)) (min (f a) (f b)) f) where
  le k hk := by
    have := h.le k hk
    unfold relab
    split
    · rename_i q; omega
    · exact this
  conn k hk := by
    have mono : ∀ e ∈ E, e ∈ E ++ [(a, b)] := fun e he => by simp [he]
    have hc := (h.conn k hk).mono mono
    have hab : Conn (E ++ [(a, b)]) (f a) (f b) := ((h.conn a ha).mono mono).symm.trans ((Conn.one (.inl (by simp))).trans ((h.conn b hb).mono mono))
    unfold relab
    split
    · rename_i q
      rcases Nat.le_total (f a) (f b) with hle | hle
      · rw [Nat.min_eq_left hle]
        rw [Nat.max_eq_right hle] at q
        exact (q.2 ▸ hc).trans hab.symm
      · rw [Nat.min_eq_right hle]
        rw [Nat.max_eq_left hle] at q
        exact (q.2 ▸ hc).trans hab
    · exact hc
  edge e he := by
    rcases List.mem_append.1 he with he | he
    · obtain ⟨h1, h2⟩ := hE e he
      have := h.edge e he
      unfold relab
      rw [this]
      simp only [h1, h2, true_and]
    · rw [List.mem_singleton] at he
      subst he
      unfold relab
      simp only [ha, hb, true_and]
      rcases Nat.le_total (f a) (f b) with hle | hle
      · rw [Nat.max_eq_right hle, Nat.min_eq_left hle]
        by_cases q : f a = f b <;> simp [q]
      · rw [Nat.max_eq_left hle, Nat.min_eq_right hle]
        by_cases q : f b = f a <;> simp [q]
theorem Low.const {n : Nat} {E : List (Nat × Nat)} {f : Nat → Nat} (h : Low n E f) {a b : Nat} (hc : Conn E a b) : f a = f b := by
  induction hc with
  | refl => rfl
  | step _ e ih =>
    rcases e with e | e
    · exact ih.trans (h.edge _ e)
    · exact ih.trans (h.edge _ e).symm

/-! Round by round -/
/-- On the way: every node has some node that it is connected with, not below the least and not above itself. -/
structure Way (n : Nat) (f g : Nat → Nat) : Prop where
  low : ∀ k, k < n → f k ≤ g k
  le : ∀ k, k < n → g k ≤ k
def relax (a b : Nat) (g : Nat → Nat) (k : Nat) : Nat := if k = a ∨ k = b then min (g a) (g b) else g k
theorem Way.start {n : Nat} {E : List (Nat × Nat)} {f : Nat → Nat} (h : Low n E f) : Way n f id := ⟨h.le, fun _ _ => Nat.le_refl _⟩
theorem relax_le (a b : Nat) (g : Nat → Nat) (k : Nat) : relax a b g k ≤ g k := by
  unfold relax
  split
  · rename_i h
    rcases h with rfl | rfl
    · exact Nat.min_le_left _ _
    · exact Nat.min_le_right _ _
  · exact Nat.le_refl _
theorem Way.link {n : Nat} {f g : Nat → Nat} (h : Way n f g) {a b : Nat} (ha : a < n) (hb : b < n) (he : f a = f b) : Way n f (relax a b g) where
  low k hk := by
    unfold relax
    split
    · rename_i q
      have h1 := h.low a ha
      have h2 := h.low b hb
      rcases q with rfl | rfl <;> omega
    · exact h.low k hk
  le k hk := Nat.le_trans (relax_le a b g k) (h.le k hk)
def round (E : List (Nat × Nat)) (g : Nat → Nat) : Nat → Nat := E.foldl (fun g e => relax e.1 e.2 g) g
theorem round_way {n : Nat} {f : Nat → Nat} : ∀ {E : List (Nat × Nat)} {g : Nat → Nat}, (∀ e ∈ E, e.1 < n ∧ e.2 < n ∧ f e.1 = f e.2) → Way n f g → Way n f (round E g)
  | [], _, _, h => h
  | e :: E, g, hE, h => by
    obtain ⟨h1, h2, h3⟩ := hE e (by simp)
    exact round_way (E := E) (fun e he => hE e (by simp [he])) (h.link h1 h2 h3)
theorem round_le : ∀ (E : List (Nat × Nat)) (g : Nat → Nat) (k : Nat), round E g k ≤ g k
  | [], _, _ => Nat.le_refl _
  | e :: E, g, k => Nat.le_trans (round_le E _ k) (relax_le _ _ _ _)
/-- A link passes on what one of its ends has. -/
theorem round_edge {n : Nat} {f : Nat → Nat} : ∀ {E : List (Nat × Nat)} {g : Nat → Nat}, (∀ e ∈ E, e.1 < n ∧ e.2 < n ∧ f e.1 = f e.2) → Way n f g → ∀ {a b : Nat}, ((a, b) ∈ E ∨ (b, a) ∈ E) → g a = f a → round E g b = f b
  | [], g, _, _, a, b, he, _ => by simp at he
  | e :: E, g, hE, h, a, b, he, ha => by
    obtain ⟨h1, h2, h3⟩ := hE e (by simp)
    have hw := h.link h1 h2 h3
    have hE' : ∀ e ∈ E, e.1 < n ∧ e.2 < n ∧ f e.1 = f e.2 := fun e he => hE e (by simp [he])
    have hwr := round_way hE' hw
    -- settled from here on
    have done : relax e.1 e.2 g b = f b → b < n → round (e :: E) g b = f b := fun hb hbn => by
      have q1 := round_le E (relax e.1 e.2 g) b
      have q2 := hwr.low b hbn
      show round E (relax e.1 e.2 g) b = f b
      omega
    by_cases q : e = (a, b) ∨ e = (b, a)
    · have hfab : f a = f b ∧ a < n ∧ b < n := by rcases q with rfl | rfl <;> simp only at h1 h2 h3 <;> omega
      refine done ?_ hfab.2.2
      have hb := h.low b hfab.2.2
      unfold relax
      rcases q with rfl | rfl
      · rw [if_pos (.inr rfl)]; simp only; omega
      · rw [if_pos (.inl rfl)]; simp only; omega
    · have he' : (a, b) ∈ E ∨ (b, a) ∈ E := by
        rcases he with he | he
        · rcases List.mem_cons.1 he with r | r
          · exact absurd (.inl r.symm) q
          · exact .inl r
        · rcases List.mem_cons.1 he with r | r
          · exact absurd (.inr r.symm) q
          · exact .inr r
      have han : a < n := by
        rcases he' with r | r
        · exact (hE' _ r).1
        · exact (hE' _ r).2.1
      refine round_edge hE' hw he' ?_
      have q1 := relax_le e.1 e.2 g a
      have q2 := hw.low a han
      omega
def settled (n : Nat) (f g : Nat → Nat) : Nat := (List.range n).countP fun k => decide (g k = f k)
theorem countP_lt {α : Type} {p q : α → Bool} : ∀ {l : List α}, (∀ x ∈ l, p x = true → q x = true) → (∃ x ∈ l, p x = false ∧ q x = true) → l.countP p < l.countP q
  | [], _, ⟨x, hx, _⟩ => by simp at hx
  | y :: l, h, ⟨x, hx, h1, h2⟩ => by
    have hle : l.countP p ≤ l.countP q := List.countP_mono_left fun z hz => h z (by simp [hz])
    rw [List.countP_cons, List.countP_cons]
    rcases List.mem_cons.1 hx with rfl | hx
    · rw [h1, h2]; simp; omega
    · have := countP_lt (l := l) (fun z hz => h z (by simp [hz])) ⟨x, hx, h1, h2⟩
      cases hp : p y
      · cases hq : q y <;> simp <;> omega
      · rw [h y (by simp) hp]; simp; omega
theorem cross {n : Nat} {E : List (Nat × Nat)} {f g : Nat → Nat} {r k : Nat} (hc : Conn E r k) (hr : g r = f r) (hk : g k ≠ f k) : ∃ a b, ((a, b) ∈ E ∨ (b, a) ∈ E) ∧ g a = f a ∧ g b ≠ f b := by
  induction hc with
  | refl => exact absurd hr hk
  | @step b c _ e ih =>
    by_cases q : g b = f b
    · exact ⟨b, c, e, q, hk⟩
    · exact ih q
theorem round_more {n : Nat} {E : List (Nat × Nat)} {f g : Nat → Nat} (h : Low n E f) (hE : ∀ e ∈ E, e.1 < n ∧ e.2 < n) (hw : Way n f g) (hs : settled n f g < n) : settled n f g < settled n f (round E g) := by
  have hE' : ∀ e ∈ E, e.1 < n ∧ e.2 < n ∧ f e.1 = f e.2 := fun e he => ⟨(hE e he).1, (hE e he).2, h.edge e he⟩
  have hwr := round_way hE' hw
  have : ∃ k, k < n ∧ g k ≠ f k := Classical.byContradiction fun q => by
    have : settled n f g = (List.range n).length := by
      unfold settled
      rw [List.countP_eq_length]
      intro k hk
      have := List.mem_range.1 hk
      exact decide_eq_true (Classical.byContradiction fun r => q ⟨k, this, r⟩)
    rw [List.length_range] at this
    omega
  obtain ⟨k, hk, hgk⟩ := this
  have hfk := h.le k hk
  have hroot : g (f k) = f (f k) := by
    have h1 := h.const (h.conn k hk)
    have h2 := hw.low (f k) (by omega)
    have h3 := hw.le (f k) (by omega)
    omega
  obtain ⟨a, b, he, ha, hb⟩ := cross (n := n) (h.conn k hk).symm hroot hgk
  have hbn : b < n := by
    rcases he with r | r
    · exact (hE _ r).2
    · exact (hE _ r).1
  refine countP_lt (fun z hz hp => ?_) ⟨b, List.mem_range.2 hbn, by simpa using hb, by simpa using round_edge hE' hw he ha⟩
  have hz := List.mem_range.1 hz
  have hp := of_decide_eq_true hp
  refine decide_eq_true ?_
  have q1 := round_le E g z
  have q2 := hwr.low z hz
  omega
def rounds (E : List (Nat × Nat)) : Nat → (Nat → Nat) → Nat → Nat
  | 0, g => g
  | r + 1, g => rounds E r (round E g)
theorem rounds_all {n : Nat} {E : List (Nat × Nat)} {f : Nat → Nat} (h : Low n E f) (hE : ∀ e ∈ E, e.1 < n ∧ e.2 < n) : ∀ (r : Nat) (g : Nat → Nat), Way n f g → n ≤ settled n f g + r → ∀ k, k < n → rounds E r g k = f k
  | 0, g, hw, hs, k, hk => by
    have : settled n f g = (List.range n).length := by
      have := List.countP_le_length (p := fun k => decide (g k = f k)) (l := List.range n)
      rw [List.length_range] at this ⊢
      unfold settled at *
      omega
    unfold settled at this
    rw [List.countP_eq_length] at this
    exact of_decide_eq_true (this k (List.mem_range.2 hk))
  | r + 1, g, hw, hs, k, hk => by
    have hE' : ∀ e ∈ E, e.1 < n ∧ e.2 < n ∧ f e.1 = f e.2 := fun e he => ⟨(hE e he).1, (hE e he).2, h.edge e he⟩
    refine rounds_all h hE r (round E g) (round_way hE' hw) ?_ k hk
    by_cases q : settled n f g < n
    · have := round_more h hE hw q; omega
    · have hle : settled n f g ≤ settled n f (round E g) := List.countP_mono_left fun z hz hp => by
        have hz := List.mem_range.1 hz
        have hp := of_decide_eq_true hp
        refine decide_eq_true ?_
        have q1 := round_le E g z
        have q2 := (round_way hE' hw).low z hz
        omega
      omega
end Gr
end Go.Proofs.Ytdiokakekedaaaa.Ab
