/- Place: P42.6, P42.7: a new node changes a placement only by itself, and the loads add up. -/
import Derived.Test.YtagckffnpnejaaaDoorPl2
namespace Go.Proofs.YtagckffnpnejaaaDoor.Ab
open Go

/-! Rankings of fewer nodes -/
theorem insL_filter {sc : Int → Nat} {x : Int} {p : Int → Bool} {D : List Int} (h : Desc sc D) : (insL sc x D).filter p = if p x then insL sc x (D.filter p) else D.filter p := by
  obtain ⟨A, B, rfl, h1, h2⟩ := desc_cut x h
  rw [insL_cut h1 h2, List.filter_append, List.filter_cons, List.filter_append]
  cases hp : p x
  · simp
  · rw [if_pos rfl, if_pos rfl, insL_cut (fun a ha => h1 a (List.mem_filter.1 ha).1) (fun b hb => h2 b (List.mem_filter.1 hb).1)]
theorem filter_desc {sc : Int → Nat} {p : Int → Bool} {D : List Int} (h : Desc sc D) : Desc sc (D.filter p) := List.Pairwise.filter _ h
theorem fold_filter {sc : Int → Nat} {p : Int → Bool} : ∀ (l D : List Int), Desc sc D → (l.foldl (fun D x => insL sc x D) D).filter p = (l.filter p).foldl (fun D x => insL sc x D) (D.filter p)
  | [], D, _ => rfl
  | x :: r, D, h => by
    rw [List.foldl_cons, fold_filter r _ (insL_desc h), insL_filter h, List.filter_cons]
    cases hp : p x
    · simp
    · simp
theorem rk_fold (name : ByteArray) (nodes : List Int) : rk name nodes = (sel nodes).foldl (fun D x => insL (scoreV name) x D) [] := isort_fold _ _ (by simp [Desc])
theorem fold_mem {sc : Int → Nat} : ∀ (l D : List Int) (z : Int), z ∈ l.foldl (fun D x => insL sc x D) D ↔ z ∈ l ∨ z ∈ D
  | [], D, z => by simp
  | x :: r, D, z => by
    rw [List.foldl_cons, fold_mem r, insL_mem]
    simp only [List.mem_cons]
    exact ⟨fun h => h.elim (fun h => .inl (.inr h)) fun h => h.elim (fun h => .inl (.inl h)) .inr, fun h => h.elim (fun h => h.elim (fun h => .inr (.inl h)) .inl) fun h => .inr (.inr h)⟩
theorem rk_mem {name : ByteArray} {nodes : List Int} {z : Int} : z ∈ rk name nodes ↔ z ∈ sel nodes := by rw [rk_fold, fold_mem]; simp
theorem selFrom_filter {nodes nodes' : List Int} {p : Int → Bool} (h : ∀ z : Int, z ∈ nodes' ↔ z ∈ nodes ∧ p z = true) : ∀ d k, (selFrom nodes k d).filter p = selFrom nodes' k d
  | 0, k => rfl
  | d + 1, k => by
    have ih := selFrom_filter h d (k + 1)
    have hk := h (k : Int)
    rw [← has_iff, ← has_iff] at hk
    simp only [selFrom]
    cases h1 : has (k : Int) nodes
    · have h2 : has (k : Int) nodes' = false := by
        cases h2 : has (k : Int) nodes' with
        | false => rfl
        | true => have := (hk.1 h2).1; rw [h1] at this; cases this
      rw [h2, if_neg Bool.false_ne_true, if_neg Bool.false_ne_true, ih]
    · rw [if_pos rfl, List.filter_cons]
      cases hp : p (k : Int)
      · have h2 : has (k : Int) nodes' = false := by
          cases h2 : has (k : Int) nodes' with
          | false => rfl
          | true => have := (hk.1 h2).2; rw [hp] at this; cases this
        rw [h2, if_neg Bool.false_ne_true, if_neg Bool.false_ne_true, ih]
      · have h2 : has (k : Int) nodes' = true := hk.2 ⟨h1, hp⟩
        rw [h2, if_pos rfl, if_pos rfl, ih]
theorem sel_filter {nodes nodes' : List Int} {p : Int → Bool} (h : ∀ z : Int, z ∈ nodes' ↔ z ∈ nodes ∧ p z = true) : (sel nodes).filter p = sel nodes' := selFrom_filter h 7 0
theorem sel_same {a b : List Int} (h : ∀ z : Int, z ∈ a ↔ z ∈ b) : sel a = sel b := by
  have := sel_filter (nodes := b) (nodes' := a) (p := fun _ => true) (fun z => by simp [h z])
  exact this.symm.trans (List.filter_eq_self.2 fun _ _ => rfl)
theorem rk_same {name : ByteArray} {a b : List Int} (h : ∀ z : Int, z ∈ a ↔ z ∈ b) : rk name a = rk name b := by unfold rk; rw [sel_same h]
theorem rk_filter {name : ByteArray} {nodes nodes' : List Int} {p : Int → Bool} (h : ∀ z : Int, z ∈ nodes' ↔ z ∈ nodes ∧ p z = true) : (rk name nodes).filter p = rk name nodes' := by
  rw [rk_fold, rk_fold, fold_filter _ _ (by simp [Desc]), sel_filter h]
  rfl
theorem selFrom_inc (nodes : List Int) : ∀ d k, (selFrom nodes k d).Pairwise (· < ·)
  | 0, k => by simp [selFrom]
  | d + 1, k => by
    have ih := selFrom_inc nodes d (k + 1)
    simp only [selFrom]
    split
    · exact List.pairwise_cons.2 ⟨fun z hz => by have := ((selFrom_mem nodes d (k + 1) z).1 hz).1.1; omega, ih⟩
    · exact ih
theorem insL_perm (sc : Int → Nat) (x : Int) : ∀ l, (insL sc x l).Perm (x :: l)
  | [] => List.Perm.refl _
  | y :: r => by
    simp only [insL]
    split
    · exact ((insL_perm sc x r).cons y).trans (List.Perm.swap x y r)
    · exact List.Perm.refl _
theorem fold_perm {sc : Int → Nat} : ∀ (l D : List Int), (l.foldl (fun D x => insL sc x D) D).Perm (l ++ D)
  | [], D => List.Perm.refl _
  | x :: r, D => by
    rw [List.foldl_cons]
    refine (fold_perm r _).trans ?_
    exact ((insL_perm sc x D).append_left r).trans List.perm_middle
theorem rk_nodup (name : ByteArray) (nodes : List Int) : (rk name nodes).Nodup := by
  rw [rk_fold]
  refine ((fold_perm (sc := scoreV name) (sel nodes) []).nodup_iff).2 ?_
  rw [List.append_nil]
  exact (selFrom_inc nodes 7 0).imp (fun h => by omega)

/-! The first ones of two lists of which one lacks an element -/
theorem filter_id {α : Type} {p : α → Bool} {l : List α} (h : ∀ a ∈ l, p a = true) : l.filter p = l := List.filter_eq_self.2 h
theorem take_lack {L : List Int} {x : Int} {m : Nat} (h : x ∉ L.take m) : (L.filter fun z => !(decide (z = x))).take m = L.take m := by
  have h1 : L.filter (fun z => !(decide (z = x))) = L.take m ++ (L.drop m).filter fun z => !(decide (z = x)) := by
    conv => lhs; rw [← List.take_append_drop m L]
    rw [List.filter_append, filter_id fun a ha => by simp; exact fun e => h (e ▸ ha)]
  rw [h1]
  by_cases hm : m ≤ L.length
  · rw [List.take_append_of_le_length (by simp; omega), List.take_take, Nat.min_self]
  · rw [List.drop_of_length_le (by omega)]
    simp [List.take_take]
theorem nodup_filter_len {x : Int} : ∀ {l : List Int}, l.Nodup → x ∈ l → (l.filter fun z => !(decide (z = x))).length + 1 = l.length
  | [], _, h => by simp at h
  | y :: r, hn, h => by
    have hn' := List.nodup_cons.1 hn
    by_cases e : y = x
    · subst e
      have : r.filter (fun z => !(decide (z = y))) = r := filter_id fun a ha => by simp; exact fun e => hn'.1 (e ▸ ha)
      simp [this]
    · have hr : x ∈ r := (List.mem_cons.1 h).elim (fun e' => absurd e'.symm e) id
      have := nodup_filter_len hn'.2 hr
      simp [e]
      omega
theorem take_rest {L : List Int} {x : Int} {m : Nat} (hn : L.Nodup) (hx : x ∈ L.take m) : ((L.take m).filter fun z => !(decide (z = x))).length + 1 = (L.take m).length ∧
    ((L.take m).filter fun z => !(decide (z = x))).length ≤ ((L.filter fun z => !(decide (z = x))).take m).length ∧
    ((L.filter fun z => !(decide (z = x))).take m).take ((L.take m).filter fun z => !(decide (z = x))).length = (L.take m).filter fun z => !(decide (z = x)) := by
  have h1 : L.filter (fun z => !(decide (z = x))) = ((L.take m).filter fun z => !(decide (z = x))) ++ (L.drop m).filter fun z => !(decide (z = x)) := by
    conv => lhs; rw [← List.take_append_drop m L]
    rw [List.filter_append]
  have hl := nodup_filter_len (List.Sublist.nodup (List.take_sublist m L) hn) hx
  have hm : (L.take m).length ≤ m := by simp; omega
  refine ⟨hl, ?_, ?_⟩
  · rw [h1, List.length_take, List.length_append]; omega
  · rw [List.take_take, Nat.min_eq_left (by omega), h1, List.take_append_of_le_length (Nat.le_refl _), List.take_length]

/-! Those that differ -/
def diffF (D : List Int) (k : Int) : List Int := if decide (0 ≤ k) && (decide (k < 7) && !(has k D)) then D ++ [k] else D
def diffs (nodes : List Int) : List Int := nodes.foldl diffF []
theorem diff_nodup : ∀ (l D : List Int), D.Nodup → (l.foldl diffF D).Nodup
  | [], D, h => h
  | k :: r, D, h => by
    rw [List.foldl_cons]
    refine diff_nodup r _ ?_
    unfold diffF
    split
    · rename_i hc
      simp only [Bool.and_eq_true, decide_eq_true_eq, Bool.not_eq_eq_eq_not, Bool.not_true] at hc
      have hk : k ∉ D := fun hk => by have := has_iff.2 hk; rw [hc.2.2] at this; cases this
      exact List.nodup_append.2 ⟨h, by simp, fun a ha b hb => by rw [List.mem_singleton.1 hb]; exact fun e => hk (e ▸ ha)⟩
    · exact h
theorem diff_mem : ∀ (l D : List Int) (z : Int), z ∈ l.foldl diffF D ↔ z ∈ D ∨ ((0 ≤ z ∧ z < 7) ∧ z ∈ l)
  | [], D, z => by simp
  | k :: r, D, z => by
    rw [List.foldl_cons, diff_mem r]
    unfold diffF
    split
    · rename_i hc
      simp only [Bool.and_eq_true, decide_eq_true_eq] at hc
      simp only [List.mem_append, List.mem_cons, List.not_mem_nil, or_false]
      constructor
      · rintro ((h | rfl) | ⟨h1, h2⟩)
        · exact .inl h
        · exact .inr ⟨⟨hc.1, hc.2.1⟩, .inl rfl⟩
        · exact .inr ⟨h1, .inr h2⟩
      · rintro (h | ⟨h1, rfl | h2⟩)
        · exact .inl (.inl h)
        · exact .inl (.inr rfl)
        · exact .inr ⟨h1, h2⟩
    · rename_i hc
      simp only [Bool.and_eq_true, decide_eq_true_eq, Bool.not_eq_eq_eq_not, Bool.not_true] at hc
      simp only [List.mem_cons]
      constructor
      · rintro (h | ⟨h1, h2⟩)
        · exact .inl h
        · exact .inr ⟨h1, .inr h2⟩
      · rintro (h | ⟨h1, rfl | h2⟩)
        · exact .inl h
        · left
          cases hh : has z D with
          | true => exact has_iff.1 hh
          | false => exact absurd ⟨h1.1, h1.2, hh⟩ hc
        · exact .inr ⟨h1, h2⟩
theorem diff_len (nodes : List Int) : (diffs nodes).length = (sel nodes).length := by
  have h1 := diff_nodup nodes [] (by simp)
  have h2 : (sel nodes).Nodup := (selFrom_inc nodes 7 0).imp (fun h => by omega)
  exact ((List.perm_ext_iff_of_nodup h1 h2).2 fun z => by rw [diff_mem, sel_mem]; simp).length_eq

/-! Sums -/
def sumI (l : List Int) : Int := l.foldl (· + ·) 0
theorem fold_add : ∀ (l : List Int) (a : Int), l.foldl (· + ·) a = a + sumI l
  | [], a => by simp [sumI]
  | x :: r, a => by
    have h1 := fold_add r (a + x)
    have h2 := fold_add r (0 + x)
    simp only [sumI, List.foldl_cons] at h1 h2 ⊢
    rw [h1, h2]; omega
theorem sumI_cons (x : Int) (r : List Int) : sumI (x :: r) = x + sumI r := by
  have := fold_add r (0 + x)
  simp only [sumI, List.foldl_cons] at this ⊢
  rw [this]; omega
theorem count_in {D : List Int} (hD : D.Nodup) : ∀ {P : List Int}, P.Nodup → (∀ z ∈ P, z ∈ D) → (D.countP fun k => has k P) = P.length := by
  intro P hP hs
  rw [List.countP_eq_length_filter]
  refine List.Perm.length_eq ?_
  refine (List.perm_ext_iff_of_nodup (List.Pairwise.filter _ hD) hP).2 fun z => ?_
  rw [List.mem_filter, has_iff]
  exact ⟨fun h => h.2, fun h => ⟨hs z h, h⟩⟩
theorem sum_loads {D : List Int} (hD : D.Nodup) : ∀ (l : List Pm), (∀ p ∈ l, p.nodes.Nodup ∧ ∀ z ∈ p.nodes, z ∈ D) → sumI (loads l D) = sumI (l.map fun p => (p.nodes.length : Int))
  | [], _ => by
    have : ∀ D : List Int, sumI (loads [] D) = 0 := by
      intro D
      induction D with
      | nil => rfl
      | cons d D ih => simp only [loads, List.map_cons, sumI_cons]; rw [show List.map (fun k => (cnt k [] : Int)) D = loads [] D from rfl, ih]; simp [cnt]
    rw [this]; rfl
  | p :: l, h => by
    have ih := sum_loads hD l (fun q hq => h q (by simp [hq]))
    have hp := h p (by simp)
    have key : ∀ D : List Int, sumI (loads (p :: l) D) = (D.countP fun k => has k p.nodes : Nat) + sumI (loads l D) := by
      intro D
      induction D with
      | nil => simp [loads, sumI]
      | cons d D ih =>
        simp only [loads, List.map_cons, sumI_cons] at ih ⊢
        rw [ih]
        simp only [cnt, List.countP_cons]
        cases has d p.nodes <;> simp <;> omega
    rw [key, count_in hD hp.1 hp.2, ih, List.map_cons, sumI_cons]
theorem sum_plan (nodes : List Int) (m : Int) : ∀ names : List ByteArray, sumI ((plan names nodes m).map fun p => (p.nodes.length : Int)) = (names.length : Int) * (min m.toNat (sel nodes).length : Nat)
  | [] => by simp [plan, sumI]
  | s :: r => by
    have ih := sum_plan nodes m r
    have : (pl s nodes m).nodes.length = min m.toNat (sel nodes).length := by simp only [pl, List.length_take, rk_len]
    simp only [plan, List.map_cons, sumI_cons] at ih ⊢
    rw [ih, this]
    simp only [List.length_cons, Int.natCast_add, Int.natCast_one, Int.add_mul, Int.one_mul]
    omega
end Go.Proofs.YtagckffnpnejaaaDoor.Ab
