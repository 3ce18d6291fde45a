/- P39.8: the law of times. -/
import Derived.Test.YtdiokakekedaaaaMemLaws
namespace Go.Proofs.Ytdiokakekedaaaa.Ab
open Go

theorem quo_iff {n m : Int} : quoB n m = true ↔ 1 ≤ m ∧ m / 2 < n := by simp [quoB]
theorem seenIn_has {v now : Int} : ∀ l : List Pr, ∃ p ∈ seenIn v now l, p.node = v ∧ now ≤ p.seen
  | [] => ⟨⟨v, now⟩, by simp [seenIn], rfl, Int.le_refl _⟩
  | p :: r => by
    simp only [seenIn]
    by_cases e : p.node < v
    · rw [if_pos e]
      obtain ⟨q, h1, h2⟩ := seenIn_has (v := v) (now := now) r
      exact ⟨q, by simp [h1], h2⟩
    · rw [if_neg e]
      by_cases e2 : p.node = v
      · rw [if_pos e2]
        refine ⟨_, List.mem_cons_self, e2, ?_⟩
        simp only
        unfold ltI
        by_cases q : p.seen < now
        · rw [decide_eq_true q, cond_true]; omega
        · rw [decide_eq_false q, cond_false]; omega
      · rw [if_neg e2]
        exact ⟨⟨v, now⟩, by simp, rfl, Int.le_refl _⟩
theorem rest_seen {v now : Int} : ∀ l : List Pr, restP v (seenIn v now l) = restP v l
  | [] => by simp [seenIn, restP]
  | p :: r => by
    have ih := rest_seen (v := v) (now := now) r
    unfold restP at *
    simp only [seenIn]
    by_cases e : p.node < v
    · rw [if_pos e, List.filter_cons, List.filter_cons, ih]
    · rw [if_neg e]
      by_cases e2 : p.node = v
      · rw [if_pos e2]
        simp [e2]
      · rw [if_neg e2]
        simp
theorem rest_len {v now : Int} : ∀ {l : List Pr}, Asc l → (seenIn v now l).length = (restP v l).length + 1
  | [], _ => by simp [seenIn, restP]
  | p :: r, h => by
    have h' := List.pairwise_cons.1 h
    have ih := rest_len (v := v) (now := now) h'.2
    simp only [seenIn]
    by_cases e : p.node < v
    · rw [if_pos e]
      unfold restP at *
      rw [List.filter_cons, if_pos (by simp; omega), List.length_cons, List.length_cons, ih]
    · have all : restP v r = r := by
        unfold restP
        rw [List.filter_eq_self]
        intro q hq
        have := h'.1 q hq
        simp
        omega
      rw [if_neg e]
      by_cases e2 : p.node = v
      · rw [if_pos e2]
        have : restP v (p :: r) = restP v r := by simp [restP, e2]
        rw [this, all]
        simp
      · rw [if_neg e2]
        have : restP v (p :: r) = p :: restP v r := by simp [restP, e2]
        rw [this, all]
        simp
theorem F8.tail {l : List Pr} {v now within a b : Int} : Ev (fun n => F8.PL (peers l) v now within a b n (.lR3 false)) (.bool true) := by
  have yes : Ev (fun n => F8.PL (peers l) v now within a b n (.lR5 true)) (.bool true) := by
    refine Ev.succ ?_
    simp only [F8.PL]
    exact Ev.pos trivial (Ev.of' F10.fin)
  refine Ev.succ ?_
  simp only [F8.PL, lenI_peers]
  refine Ev.neg (by simp) ?_
  by_cases e : (30 : Int) < l.length
  · exact Ev.pos (by rw [tt_lt]; exact e) yes
  · refine Ev.neg (by rw [tt_lt]; exact e) ?_
    refine Ev.bind (F9.eq (by omega)) (Ev.pos rfl ?_)
    cases ha : ascB l
    · exact Ev.pos rfl yes
    · have hasc := ascB_iff.1 ha
      refine Ev.neg Bool.false_ne_true ?_
      by_cases e1 : v < 0
      · exact Ev.pos (by rw [tt_lt]; exact e1) yes
      · refine Ev.neg (by rw [tt_lt]; exact e1) ?_
        by_cases e2 : 7 ≤ v
        · rw [show leI 7 v = true by rw [tt_le]; exact e2]
          exact yes
        · rw [show leI 7 v = false by rw [ff_le]; exact e2]
          have hm : seenL v now l = seenIn v now l := by rw [seenL, if_neg (by omega)]
          have hlm := seenIn_len (v := v) (now := now) l
          have last : Ev (fun n => F8.PL (peers l) v now within a b n (.lR8 (peers (seenIn v now l)) false)) (.bool true) := by
            refine Ev.succ ?_
            simp only [F8.PL]
            refine Ev.neg (by simp) ?_
            refine Ev.of' ?_
            have r1 := F28.eq (l := l) (v := v) (by omega)
            have r2 := F28.eq (l := seenIn v now l) (v := v) (by omega)
            rw [rest_seen] at r2
            have hrl : (restP v l).length ≤ l.length := List.length_filter_le _ _
            have r3 := F12.eq (a := restP v l) (b := restP v l) (by omega)
            rw [decide_eq_true rfl] at r3
            refine bind_of r1 ((if_pos rfl).trans ?_)
            refine bind_of r2 ((if_pos rfl).trans ?_)
            refine bind_of r3 ((if_pos rfl).trans ((if_pos rfl).trans ?_))
            refine bind_of r1 ((if_pos rfl).trans ?_)
            rw [slXs_sl, lenI_peers, lenI_peers, rest_len hasc, addW_eq (by omega) (by omega)]
            refine (if_pos (by rw [tt_eq]; omega)).trans ?_
            exact F10.fin
          refine Ev.succ ?_
          simp only [F8.PL]
          refine Ev.neg (by simp) ?_
          have s1 := F11.eq (l := l) (v := v) (now := now) (by omega) hasc
          rw [hm] at s1
          refine Ev.bind s1 (Ev.pos rfl ?_)
          have s2 := F14.eq (l := seenIn v now l) (now := now) (within := within) (by omega)
          have hal := aliveL_len now within (seenIn v now l)
          have hcl := comp_len (sorted (aliveL now within (seenIn v now l)))
          rw [sorted_len] at hcl
          by_cases e3 : 0 ≤ within
          · refine Ev.pos (by rw [tt_le]; exact e3) ?_
            refine Ev.bind s2 (Ev.pos rfl ?_)
            have s3 := F27.eq (zs := comp (sorted (aliveL now within (seenIn v now l)))) (v := v) (by omega)
            have hin : v ∈ comp (sorted (aliveL now within (seenIn v now l))) := by
              rw [comp_mem, (sorted_perm _).mem_iff]
              obtain ⟨p, h1, h2, h3⟩ := seenIn_has (v := v) (now := now) l
              refine List.mem_map.2 ⟨p, List.mem_filter.2 ⟨h1, ?_⟩, h2⟩
              simp [isAlive, e3, h3]
            rw [List.any_eq_true.2 ⟨v, hin, by simp⟩] at s3
            refine Ev.bind s3 (Ev.pos rfl ?_)
            refine Ev.neg Bool.false_ne_true ?_
            refine Ev.neg (by rw [tt_lt]; omega) ?_
            exact last
          · refine Ev.neg (by rw [tt_le]; exact e3) ?_
            refine Ev.pos (by rw [tt_lt]; omega) ?_
            have h0 : aliveL now within (seenIn v now l) = [] := by
              unfold aliveL
              rw [List.filter_eq_nil_iff.2 (by intro p _; simp [isAlive, e3])]
              rfl
            rw [h0] at s2
            have h1 : comp (sorted []) = [] := by simp [sorted, comp]
            rw [h1] at s2
            refine Ev.bind s2 (Ev.pos rfl ?_)
            exact last
theorem F8.eq {l : List Pr} {v now within a b : Int} (ha : 0 ≤ a ∧ a ≤ 255) (hb : 0 ≤ b ∧ b ≤ 255) : F8.P (peers l) v now within a b = some (.bool true) := by
  have w1 : IntKind.i64.wrap a = a := wrap_i64 (by omega) (by omega)
  have w2 : IntKind.i64.wrap b = b := wrap_i64 (by omega) (by omega)
  have w3 : IntKind.i64.wrap (Int.tdiv a 10) = a / 10 := by rw [Int.tdiv_eq_ediv_of_nonneg (by omega)]; exact wrap_i64 (by omega) (by omega)
  unfold F8.P
  refine lim_eq ?_
  simp only [w1, w2, w3]
  rw [Int.tmod_eq_emod_of_nonneg (by omega : 0 ≤ a), Int.tmod_eq_emod_of_nonneg (by omega : 0 ≤ b), Int.tmod_eq_emod_of_nonneg (by omega : 0 ≤ a / 10)]
  have tail := F8.tail (l := l) (v := v) (now := now) (within := within) (a := a) (b := b)
  generalize hA : a % 10 = A
  generalize hB : b % 10 = B
  generalize hM : a / 10 % 9 = M
  have bA : 0 ≤ A ∧ A ≤ 9 := by omega
  have bB : 0 ≤ B ∧ B ≤ 9 := by omega
  have bM : 0 ≤ M ∧ M ≤ 8 := by omega
  rw [subW_eq (by omega) (by omega), addW_eq (by omega) (by omega)]
  have q1 := F24.eq (n := A) (m := M) (by omega)
  have q2 := F24.eq (n := B) (m := M) (by omega)
  have q3 := F24.eq (n := M - A) (m := M) (by omega)
  have n1 : quoB A M = true → quoB (M - A) M = false := fun h => by
    cases h2 : quoB (M - A) M with
    | false => rfl
    | true => rw [quo_iff] at h h2; omega
  refine Ev.bind q1 (Ev.pos rfl ?_)
  cases h1 : quoB A M
  · refine Ev.neg Bool.false_ne_true ?_
    rw [h1] at q1
    refine Ev.bind q1 (Ev.pos rfl ?_)
    exact Ev.neg Bool.false_ne_true tail
  · rw [h1] at q1
    rw [n1 h1] at q3
    refine Ev.pos rfl ?_
    refine Ev.bind q2 (Ev.pos rfl ?_)
    cases h2 : quoB B M
    · refine Ev.neg Bool.false_ne_true ?_
      refine Ev.bind q1 (Ev.pos rfl (Ev.pos rfl ?_))
      exact Ev.bind q3 (Ev.pos rfl tail)
    · refine Ev.pos rfl ?_
      refine Ev.neg (by rw [tt_le]; rw [quo_iff] at h1 h2; omega) ?_
      refine Ev.bind q1 (Ev.pos rfl (Ev.pos rfl ?_))
      exact Ev.bind q3 (Ev.pos rfl tail)
end Go.Proofs.Ytdiokakekedaaaa.Ab
