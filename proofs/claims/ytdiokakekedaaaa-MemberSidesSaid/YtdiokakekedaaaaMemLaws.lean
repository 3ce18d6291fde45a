/- P39.1, P39.2, P39.5, P39.6: laws of members. -/
import Derived.Test.YtdiokakekedaaaaMemEx
namespace Go.Proofs.Ytdiokakekedaaaa.Ab
open Go
set_option linter.unusedSimpArgs false

theorem F10.fin : (F10.P.bind fun v => if v.isBool then some (AV.bool v.toBool) else none) = some (AV.bool true) := bind_of F10.eq rfl

/-! P39.1 -/
theorem seenIn_asc {v now : Int} : ∀ {l : List Pr}, Asc l → Asc (seenIn v now l) ∧ ∀ a : Int, a < v → (∀ p ∈ l, a < p.node) → ∀ p ∈ seenIn v now l, a < p.node
  | [], _ => ⟨by simp [seenIn, Asc], fun a ha _ p hp => by simp [seenIn] at hp; subst hp; exact ha⟩
  | p :: r, h => by
    have h' := List.pairwise_cons.1 h
    obtain ⟨i1, i2⟩ := seenIn_asc (v := v) (now := now) h'.2
    simp only [seenIn]
    by_cases e : p.node < v
    · rw [if_pos e]
      refine ⟨List.pairwise_cons.2 ⟨i2 p.node e h'.1, i1⟩, fun a ha hl q hq => ?_⟩
      rcases List.mem_cons.1 hq with rfl | hq
      · exact hl q (by simp)
      · exact i2 a ha (fun x hx => hl x (by simp [hx])) q hq
    · rw [if_neg e]
      by_cases e2 : p.node = v
      · rw [if_pos e2]
        refine ⟨List.pairwise_cons.2 ⟨fun q hq => h'.1 q hq, h'.2⟩, fun a ha hl q hq => ?_⟩
        rcases List.mem_cons.1 hq with rfl | hq
        · exact hl p (by simp)
        · exact hl q (by simp [hq])
      · rw [if_neg e2]
        refine ⟨List.pairwise_cons.2 ⟨fun q hq => ?_, h⟩, fun a ha hl q hq => ?_⟩
        · rcases List.mem_cons.1 hq with rfl | hq
          · simp only; omega
          · have := h'.1 q hq; simp only; omega
        · rcases List.mem_cons.1 hq with rfl | hq
          · exact ha
          · exact hl q hq
theorem seenL_asc {v now : Int} {l : List Pr} (h : Asc l) : Asc (seenL v now l) := by
  unfold seenL
  split
  · exact h
  · exact (seenIn_asc h).1
theorem seenIn_len {v now : Int} : ∀ (l : List Pr), (seenIn v now l).length ≤ l.length + 1
  | [] => by simp [seenIn]
  | p :: r => by
    have := seenIn_len (v := v) (now := now) r
    simp only [seenIn]
    split
    · simp; omega
    · split <;> simp
theorem seenL_len {v now : Int} (l : List Pr) : (seenL v now l).length ≤ l.length + 1 := by
  unfold seenL
  split
  · omega
  · exact seenIn_len l
theorem F3.eq {l : List Pr} {v now : Int} : F3.P (peers l) v now = some (.bool true) := by
  unfold F3.P
  rw [lenI_peers]
  by_cases e : (30 : Int) < l.length
  · rw [if_pos (by rw [tt_lt]; exact e)]
    exact F10.fin
  · rw [if_neg (by rw [tt_lt]; exact e), F9.eq (by omega)]
    cases ha : ascB l
    · exact F10.fin
    · have hasc := ascB_iff.1 ha
      have hl := seenL_len (v := v) (now := now) l
      have e1 := F11.eq (v := v) (now := now) (by omega) hasc
      have e2 := F13.eq (l := l) (v := v) (now := now) (by omega)
      have e3 := F12.eq (a := seenL v now l) (b := seenL v now l) (by omega)
      have e4 := F9.eq (l := seenL v now l) (by omega)
      rw [decide_eq_true rfl] at e3
      rw [ascB_iff.2 (seenL_asc hasc)] at e4
      refine bind_of rfl ((if_pos rfl).trans ((if_neg Bool.false_ne_true).trans ?_))
      refine bind_of e1 ((if_pos rfl).trans ?_)
      refine bind_of e2 ((if_pos rfl).trans ?_)
      refine bind_of e3 ((if_pos rfl).trans ((if_pos rfl).trans ?_))
      refine bind_of e4 ((if_pos rfl).trans ((if_pos rfl).trans ?_))
      exact F10.fin

/-! P39.2, P39.6 -/
theorem compT_mem : ∀ {p : Int} {l : List Int} {z : Int}, (z ∈ compT p l → z ∈ l) ∧ (z ∈ l → z = p ∨ z ∈ compT p l)
  | p, [], z => by simp [compT]
  | p, x :: r, z => by
    simp only [compT]
    by_cases e : x = p
    · rw [if_pos e]
      obtain ⟨h1, h2⟩ := compT_mem (p := p) (l := r) (z := z)
      exact ⟨fun h => by simp [h1 h], fun h => (List.mem_cons.1 h).elim (fun h => .inl (h.trans e)) h2⟩
    · rw [if_neg e]
      obtain ⟨h1, h2⟩ := compT_mem (p := x) (l := r) (z := z)
      exact ⟨fun h => (List.mem_cons.1 h).elim (fun h => by simp [h]) fun h => by simp [h1 h], fun h => .inr ((List.mem_cons.1 h).elim (fun h => by simp [h]) fun h => (h2 h).elim (fun h => by simp [h]) fun h => by simp [h])⟩
theorem comp_mem {l : List Int} {z : Int} : z ∈ comp l ↔ z ∈ l := by
  cases l with
  | nil => simp [comp]
  | cons p r =>
    obtain ⟨h1, h2⟩ := compT_mem (p := p) (l := r) (z := z)
    simp only [comp, List.mem_cons]
    exact ⟨fun h => h.imp id h1, fun h => h.elim .inl h2⟩
theorem compT_st : ∀ {p : Int} {l : List Int}, (p :: l).Pairwise (· ≤ ·) → (p :: compT p l).Pairwise (· < ·)
  | p, [], _ => by simp [compT]
  | p, x :: r, h => by
    have h' := List.pairwise_cons.1 h
    simp only [compT]
    by_cases e : x = p
    · rw [if_pos e]
      exact compT_st (List.pairwise_cons.2 ⟨fun z hz => h'.1 z (by simp [hz]), (List.pairwise_cons.1 h'.2).2⟩)
    · rw [if_neg e]
      have hx := h'.1 x (by simp)
      have ih := compT_st h'.2
      refine List.pairwise_cons.2 ⟨fun z hz => ?_, ih⟩
      rcases List.mem_cons.1 hz with rfl | hz
      · omega
      · have := (List.pairwise_cons.1 ih).1 z hz; omega
theorem comp_st {l : List Int} (h : l.Pairwise (· ≤ ·)) : (comp l).Pairwise (· < ·) := by
  cases l with
  | nil => simp [comp]
  | cons p r => exact compT_st h
theorem st_ext : ∀ {a b : List Int}, a.Pairwise (· < ·) → b.Pairwise (· < ·) → (∀ z, z ∈ a ↔ z ∈ b) → a = b
  | [], [], _, _, _ => rfl
  | [], d :: ys, _, _, h => by have := (h d).2 (by simp); simp at this
  | c :: xs, [], _, _, h => by have := (h c).1 (by simp); simp at this
  | c :: xs, d :: ys, hx, hy, h => by
    have hx' := List.pairwise_cons.1 hx
    have hy' := List.pairwise_cons.1 hy
    have hcd : c = d := by
      rcases List.mem_cons.1 ((h c).1 (by simp)) with q | q
      · exact q
      · rcases List.mem_cons.1 ((h d).2 (by simp)) with r | r
        · exact r.symm
        · have := hy'.1 c q; have := hx'.1 d r; omega
    subst hcd
    congr 1
    refine st_ext hx'.2 hy'.2 fun k => ⟨fun q => ?_, fun q => ?_⟩
    · rcases List.mem_cons.1 ((h k).1 (by simp [q])) with r | r
      · have := hx'.1 k q; omega
      · exact r
    · rcases List.mem_cons.1 ((h k).2 (by simp [q])) with r | r
      · have := hy'.1 k q; omega
      · exact r
theorem sorted_perm (l : List Int) : (sorted l).Perm l := List.mergeSort_perm l _
theorem sorted_le (l : List Int) : (sorted l).Pairwise (· ≤ ·) := by
  have := List.pairwise_mergeSort (le := fun x y : Int => decide (x ≤ y)) (fun a b c h1 h2 => by simp at *; omega) (fun a b => by simp; omega) l
  exact this.imp fun h => by simpa using h
theorem heirs_eq (lost l : List Int) : comp (sorted (restL lost l)) = restL lost (comp (sorted l)) := by
  refine st_ext (comp_st (sorted_le _)) ((comp_st (sorted_le _)).filter _) fun z => ?_
  unfold restL
  rw [comp_mem, (sorted_perm _).mem_iff, List.mem_filter, List.mem_filter, comp_mem, (sorted_perm _).mem_iff]
theorem restL_len (lost l : List Int) : (restL lost l).length ≤ l.length := List.length_filter_le _ _
theorem F4.loop {l : List Pr} {n0 n1 : Int} {lost B : List Int} (hs : l.length ≤ 60) (hlost : lost.length ≤ 60) (hB : B.length ≤ 60) : ∀ (post pre : List Pr) (nodes : List Int), l = pre ++ post → nodes.length = pre.length → Ev (fun n => F4.PL (peers l) n0 n1 (ints lost) n (.l0 (ints B) (ints B) (ints nodes) pre.length)) (.bool true)
  | [], pre, nodes, h, hn => by
    have hl := len_end h
    refine Ev.succ ?_
    simp only [F4.PL, lenI_peers]
    refine Ev.neg (by rw [tt_lt]; omega) ?_
    have r1 := restL_len lost B
    have r2 := restL_len lost nodes
    have r3 := comp_len (sorted (restL lost B))
    have r4 := comp_len (sorted (restL lost nodes))
    rw [sorted_len] at r3 r4
    have e1 := F16.eq (a := B) (b := B) (by omega)
    have e2 := F17.eq (l := B) (lost := lost) (by omega) (by omega)
    have e3 := F18.eq (l := B) (lost := lost) (by omega) (by omega)
    have e4 := F16.eq (a := comp (sorted (restL lost B))) (b := restL lost (comp (sorted B))) (by omega)
    have e5 := F17.eq (l := nodes) (lost := lost) (by omega) (by omega)
    have e6 := F18.eq (l := nodes) (lost := lost) (by omega) (by omega)
    have e7 := F16.eq (a := comp (sorted (restL lost nodes))) (b := restL lost (comp (sorted nodes))) (by omega)
    rw [decide_eq_true rfl] at e1
    rw [decide_eq_true (heirs_eq lost B)] at e4
    rw [decide_eq_true (heirs_eq lost nodes)] at e7
    refine Ev.of' ?_
    refine bind_of e1 ((if_pos rfl).trans ((if_pos rfl).trans ?_))
    refine bind_of e2 ((if_pos rfl).trans ?_)
    refine bind_of e3 ((if_pos rfl).trans ?_)
    refine bind_of e4 ((if_pos rfl).trans ((if_pos rfl).trans ?_))
    refine bind_of e5 ((if_pos rfl).trans ?_)
    refine bind_of e6 ((if_pos rfl).trans ?_)
    refine bind_of e7 ((if_pos rfl).trans ((if_pos rfl).trans ?_))
    exact F10.fin
  | p :: post, pre, nodes, h, hn => by
    have hl := len_mid h
    have hi := length_ints (l := nodes)
    refine Ev.succ ?_
    simp only [F4.PL, lenI_peers, peers_at h]
    (simp (disch := first | omega | rfl) only [tt_lt, tt_le, tt_eq, tt_eqS, tt_nblt, tt_nble, ff_lt, ff_le, ff_eq, ff_eqS, tt_not, ff_not, tt_dec, ff_dec, tt_true, tt_false, ff_true, ff_false, tt_room, tt_roomN, isInt_i, isBool_b, isStr_s, isSl_s, isSl_n, isOwn_s, isOwn_1, slXs_n, isTup_t, isAgg_a, Bool.true_and, tt_beq, tupVs_t, aggCs_a, headD_c, tail_c, ce_0, ce_s, ↓bind_s, ite_t, ite_f, toInt_int, toBool_bool, toStr_str, slXs_sl, Nat.add_zero, Nat.zero_add, List.length_cons, List.length_nil, addW_eq, subW_eq, if_pos, if_neg])
    rw [ints_snoc]
    have := F4.loop (n0 := n0) (n1 := n1) hs hlost hB post (pre ++ [p]) (nodes ++ [p.node]) (by rw [h]; simp) (by simp [hn])
    simpa using this
theorem F4.eq {l : List Pr} {n0 n1 : Int} {lost : List Int} : F4.P (peers l) n0 n1 (ints lost) = some (.bool true) := by
  unfold F4.P
  refine lim_eq ?_
  rw [lenI_peers, lenI_ints]
  by_cases e : (60 : Int) < l.length
  · exact Ev.pos (by rw [tt_lt]; exact e) (Ev.of' F10.fin)
  · refine Ev.neg (by rw [tt_lt]; exact e) ?_
    by_cases e2 : (60 : Int) < lost.length
    · exact Ev.pos (by rw [tt_lt]; exact e2) (Ev.of' F10.fin)
    · refine Ev.neg (by rw [tt_lt]; exact e2) ?_
      have h1 := aliveL_len n0 n1 l
      have h2 := comp_len (sorted (aliveL n0 n1 l))
      rw [sorted_len] at h2
      refine Ev.bind (F14.eq (l := l) (by omega)) (Ev.pos rfl ?_)
      refine Ev.bind (F15.eq (l := l) (by omega)) (Ev.pos rfl ?_)
      exact F4.loop (by omega) (by omega) (by omega) l [] [] rfl rfl

/-! P39.5 -/
theorem F6.loop {l : List (List Int)} {m : Int} (hm : m ≤ 9223372036854775807) (hs : l.length ≤ 20) : ∀ (post pre : List (List Int)), l = pre ++ post → (∀ g ∈ pre, g.length ≤ 20) → Ev (fun n => F6.PL (grps l) m n (.l0 pre.length)) (.bool true)
  | [], pre, h, hp => by
    have hl := len_end h
    rw [List.append_nil] at h
    subst h
    refine Ev.succ ?_
    simp only [F6.PL, lenI_grps]
    refine Ev.neg (by rw [tt_lt]; omega) ?_
    have hg : ∀ g ∈ l, g.length ≤ 100000 := fun g hg => by have := hp g hg; omega
    have e1 := F21.eq hm (by omega : l.length ≤ 100000) hg
    have e2 := F22.eq hm (by omega : l.length ≤ 100000) hg
    refine Ev.of' ?_
    cases hq : major m l with
    | none =>
      rw [hq] at e1 e2
      refine bind_of e1 ((if_pos rfl).trans ((if_pos rfl).trans ((if_pos rfl).trans ?_)))
      refine bind_of e2 ((if_pos rfl).trans ((if_pos rfl).trans ((if_pos rfl).trans ?_)))
      refine bind_of (F16.eq (a := []) (b := []) (by simp)) ((if_pos rfl).trans ((if_pos rfl).trans ((if_pos rfl).trans ?_)))
      exact F10.fin
    | some g =>
      rw [hq] at e1 e2
      have e3 := F16.eq (a := g) (b := g) (hg g (List.mem_of_find?_eq_some hq))
      rw [decide_eq_true rfl] at e3
      refine bind_of e1 ((if_pos rfl).trans ((if_pos rfl).trans ((if_pos rfl).trans ?_)))
      refine bind_of e2 ((if_pos rfl).trans ((if_pos rfl).trans ((if_pos rfl).trans ?_)))
      refine bind_of e3 ((if_pos rfl).trans ((if_pos rfl).trans ((if_pos rfl).trans ?_)))
      exact F10.fin
  | g :: post, pre, h, hp => by
    have hl := len_mid h
    refine Ev.succ ?_
    simp only [F6.PL, lenI_grps, grps_at h, ce_0, slXs_sl, lenI_ints]
    (simp (disch := first | omega | rfl) only [tt_lt, tt_le, tt_eq, tt_eqS, tt_nblt, tt_nble, ff_lt, ff_le, ff_eq, ff_eqS, tt_not, ff_not, tt_dec, ff_dec, tt_true, tt_false, ff_true, ff_false, tt_room, tt_roomN, isInt_i, isBool_b, isStr_s, isSl_s, isSl_n, isOwn_s, isOwn_1, slXs_n, isTup_t, isAgg_a, Bool.true_and, tt_beq, tupVs_t, aggCs_a, headD_c, tail_c, ce_0, ce_s, ↓bind_s, ite_t, ite_f, toInt_int, toBool_bool, toStr_str, slXs_sl, Nat.add_zero, Nat.zero_add, List.length_cons, List.length_nil, addW_eq, subW_eq, if_pos, if_neg])
    by_cases e : (20 : Int) < g.length
    · exact Ev.pos e (Ev.of' F10.fin)
    · refine Ev.neg e ?_
      have := F6.loop hm hs post (pre ++ [g]) (by rw [h]; simp) (fun x hx => by
        rcases List.mem_append.1 hx with hx | hx
        · exact hp x hx
        · rw [List.mem_singleton] at hx; subst hx; omega)
      simpa using this
theorem F6.eq {l : List (List Int)} {m : Int} (hm : m ≤ 9223372036854775807) : F6.P (grps l) m = some (.bool true) := by
  unfold F6.P
  refine lim_eq ?_
  rw [lenI_grps]
  by_cases e : (20 : Int) < l.length
  · exact Ev.pos (by rw [tt_lt]; exact e) (Ev.of' F10.fin)
  · exact Ev.neg (by rw [tt_lt]; exact e) (F6.loop hm (by omega) l [] rfl (by simp))
end Go.Proofs.Ytdiokakekedaaaa.Ab
