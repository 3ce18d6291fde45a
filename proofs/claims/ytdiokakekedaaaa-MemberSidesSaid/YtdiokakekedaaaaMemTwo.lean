/- Member: what its functions compute, part two: hearing from a node. -/
import Derived.Test.YtdiokakekedaaaaMemOne
namespace Go.Proofs.Ytdiokakekedaaaa.Ab
open Go
set_option linter.unusedSimpArgs false

theorem F29.eq {l : List Pr} (hs : l.length ≤ 100000) : F29.P (peers l) = some (.sl 1 2 (peers l)) := by
  refine clone_any (fun e => ?_) ?_
  · rw [e]; (simp (disch := first | omega | rfl) only [tt_lt, tt_le, tt_eq, tt_eqS, tt_nblt, tt_nble, ff_lt, ff_le, ff_eq, ff_eqS, tt_not, ff_not, tt_dec, ff_dec, tt_true, tt_false, ff_true, ff_false, tt_room, tt_roomN, isInt_i, isBool_b, isStr_s, isSl_s, isSl_n, isOwn_s, isOwn_1, slXs_n, isTup_t, isAgg_a, Bool.true_and, tt_beq, tupVs_t, aggCs_a, headD_c, tail_c, ce_0, ce_s, ↓bind_s, ite_t, ite_f, toInt_int, toBool_bool, toStr_str, slXs_sl, Nat.add_zero, Nat.zero_add, List.length_cons, List.length_nil, addW_eq, subW_eq, if_pos, if_neg])
  · have : (peers l).length = l.length := by simp [peers]
    (simp (disch := first | omega | rfl) only [tt_lt, tt_le, tt_eq, tt_eqS, tt_nblt, tt_nble, ff_lt, ff_le, ff_eq, ff_eqS, tt_not, ff_not, tt_dec, ff_dec, tt_true, tt_false, ff_true, ff_false, tt_room, tt_roomN, isInt_i, isBool_b, isStr_s, isSl_s, isSl_n, isOwn_s, isOwn_1, slXs_n, isTup_t, isAgg_a, Bool.true_and, tt_beq, tupVs_t, aggCs_a, headD_c, tail_c, ce_0, ce_s, ↓bind_s, ite_t, ite_f, toInt_int, toBool_bool, toStr_str, slXs_sl, Nat.add_zero, Nat.zero_add, List.length_cons, List.length_nil, addW_eq, subW_eq, if_pos, if_neg])
def cmpI (a b : Int) : Int := if a < b then -1 else if b < a then 1 else 0
theorem F38.eq {a : Int} : F38.P a = some (.bool false) := by simp [F38.P, eqI]
theorem F32.eq {a b : Int} : F32.P a b = some (.int .i64 (cmpI a b)) := by
  simp only [F32.P, F38.eq]
  (simp (disch := first | omega | rfl) only [tt_lt, tt_le, tt_eq, tt_eqS, tt_nblt, tt_nble, ff_lt, ff_le, ff_eq, ff_eqS, tt_not, ff_not, tt_dec, ff_dec, tt_true, tt_false, ff_true, ff_false, tt_room, tt_roomN, isInt_i, isBool_b, isStr_s, isSl_s, isSl_n, isOwn_s, isOwn_1, slXs_n, isTup_t, isAgg_a, Bool.true_and, tt_beq, tupVs_t, aggCs_a, headD_c, tail_c, ce_0, ce_s, ↓bind_s, ite_t, ite_f, toInt_int, toBool_bool, toStr_str, slXs_sl, Nat.add_zero, Nat.zero_add, List.length_cons, List.length_nil, addW_eq, subW_eq, if_pos, if_neg])
  unfold cmpI
  split
  · rfl
  · split <;> rfl
theorem F31.eq {a b c : Int} : F31.P a b c = some (.int .i64 (cmpI a c)) := by
  simp only [F31.P, F32.eq]
  (simp (disch := first | omega | rfl) only [tt_lt, tt_le, tt_eq, tt_eqS, tt_nblt, tt_nble, ff_lt, ff_le, ff_eq, ff_eqS, tt_not, ff_not, tt_dec, ff_dec, tt_true, tt_false, ff_true, ff_false, tt_room, tt_roomN, isInt_i, isBool_b, isStr_s, isSl_s, isSl_n, isOwn_s, isOwn_1, slXs_n, isTup_t, isAgg_a, Bool.true_and, tt_beq, tupVs_t, aggCs_a, headD_c, tail_c, ce_0, ce_s, ↓bind_s, ite_t, ite_f, toInt_int, toBool_bool, toStr_str, slXs_sl, Nat.add_zero, Nat.zero_add, List.length_cons, List.length_nil, addW_eq, subW_eq, if_pos, if_neg])
theorem wrap_u64 {a : Int} (h : 0 ≤ a) (h' : a ≤ 18446744073709551615) : IntKind.u64.wrap a = a := by
  simp [IntKind.wrap, IntKind.signed, IntKind.bits]; omega
theorem shr1 {a : Int} : shrW .u64 a 1 = a / 2 := by
  unfold shrW
  rw [show 2 ^ min (1 : Int).toNat IntKind.u64.bits = (2 : Int) from rfl]
  exact Int.fdiv_eq_ediv_of_nonneg a (by omega)
theorem mid {i j : Nat} (hi : i ≤ 100000) (hj : j ≤ 100000) : IntKind.i64.wrap (shrW .u64 (IntKind.u64.wrap (addW .i64 (i : Int) (j : Int))) 1) = ((i + j) / 2 : Nat) := by
  rw [addW_eq (by omega) (by omega), wrap_u64 (by omega) (by omega), shr1, wrap_i64 (by omega) (by omega)]
  omega
theorem peers_get {l : List Pr} {x : Pr} {i : Int} {n : Nat} (hi : i = n) (h : l[n]? = some x) : ro (peers l) i.toNat = [.int .i64 x.node, .int .i64 x.seen] := ro_get hi h

theorem F30.loop {l pre post : List Pr} {v : Int} (hs : l.length ≤ 100000) (h : l = pre ++ post) (h1 : ∀ p ∈ pre, p.node < v) (h2 : ∀ p ∈ post, v ≤ p.node) : ∀ (d i j : Nat), d = j - i → i ≤ pre.length → pre.length ≤ j → j ≤ l.length →
    Ev (fun n => F30.PL (peers l) v n (.l0 i j)) (.tup [.int .i64 pre.length, .bool (match post with | p :: _ => decide (p.node = v) | [] => false)]) := by
  intro d
  induction d using Nat.strongRecOn with
  | ind d ih =>
    intro i j hd hi hj hjl
    have hl : l.length = pre.length + post.length := by rw [h]; simp
    refine Ev.succ ?_
    by_cases hij : i < j
    · have hm : (i + j) / 2 < l.length := by omega
      obtain ⟨x, hx⟩ : ∃ x, l[(i + j) / 2]? = some x := ⟨_, List.getElem?_eq_getElem hm⟩
      simp only [F30.PL, lenI_peers, mid (by omega : i ≤ 100000) (by omega : j ≤ 100000), peers_get rfl hx, F31.eq]
      (simp (disch := first | omega | rfl) only [tt_lt, tt_le, tt_eq, tt_eqS, tt_nblt, tt_nble, ff_lt, ff_le, ff_eq, ff_eqS, tt_not, ff_not, tt_dec, ff_dec, tt_true, tt_false, ff_true, ff_false, tt_room, tt_roomN, isInt_i, isBool_b, isStr_s, isSl_s, isSl_n, isOwn_s, isOwn_1, slXs_n, isTup_t, isAgg_a, Bool.true_and, tt_beq, tupVs_t, aggCs_a, headD_c, tail_c, ce_0, ce_s, ↓bind_s, ite_t, ite_f, toInt_int, toBool_bool, toStr_str, slXs_sl, Nat.add_zero, Nat.zero_add, List.length_cons, List.length_nil, addW_eq, subW_eq, if_pos, if_neg])
      by_cases hlt : (i + j) / 2 < pre.length
      · have hxv : x.node < v := by
          rw [h, List.getElem?_append_left hlt] at hx
          exact h1 x (List.mem_of_getElem? hx)
        rw [show cmpI x.node v = -1 by simp [cmpI, hxv]]
        (simp (disch := first | omega | rfl) only [tt_lt, tt_le, tt_eq, tt_eqS, tt_nblt, tt_nble, ff_lt, ff_le, ff_eq, ff_eqS, tt_not, ff_not, tt_dec, ff_dec, tt_true, tt_false, ff_true, ff_false, tt_room, tt_roomN, isInt_i, isBool_b, isStr_s, isSl_s, isSl_n, isOwn_s, isOwn_1, slXs_n, isTup_t, isAgg_a, Bool.true_and, tt_beq, tupVs_t, aggCs_a, headD_c, tail_c, ce_0, ce_s, ↓bind_s, ite_t, ite_f, toInt_int, toBool_bool, toStr_str, slXs_sl, Nat.add_zero, Nat.zero_add, List.length_cons, List.length_nil, addW_eq, subW_eq, if_pos, if_neg])
        have := ih (j - ((i + j) / 2 + 1)) (by omega) ((i + j) / 2 + 1) j rfl (by omega) hj hjl
        simpa using this
      · have hxv : v ≤ x.node := by
          rw [h, List.getElem?_append_right (by omega)] at hx
          exact h2 x (List.mem_of_getElem? hx)
        have hc : ¬ cmpI x.node v < 0 := by unfold cmpI; rw [if_neg (by omega)]; split <;> omega
        (simp (disch := first | omega | rfl) only [tt_lt, tt_le, tt_eq, tt_eqS, tt_nblt, tt_nble, ff_lt, ff_le, ff_eq, ff_eqS, tt_not, ff_not, tt_dec, ff_dec, tt_true, tt_false, ff_true, ff_false, tt_room, tt_roomN, isInt_i, isBool_b, isStr_s, isSl_s, isSl_n, isOwn_s, isOwn_1, slXs_n, isTup_t, isAgg_a, Bool.true_and, tt_beq, tupVs_t, aggCs_a, headD_c, tail_c, ce_0, ce_s, ↓bind_s, ite_t, ite_f, toInt_int, toBool_bool, toStr_str, slXs_sl, Nat.add_zero, Nat.zero_add, List.length_cons, List.length_nil, addW_eq, subW_eq, if_pos, if_neg])
        exact ih ((i + j) / 2 - i) (by omega) i ((i + j) / 2) rfl hi (by omega) (by omega)
    · obtain rfl : i = pre.length := by omega
      obtain rfl : j = pre.length := by omega
      cases post with
      | nil =>
        have hl2 : l.length = pre.length := by rw [h]; simp
        simp only [F30.PL, lenI_peers]
        (simp (disch := first | omega | rfl) only [tt_lt, tt_le, tt_eq, tt_eqS, tt_nblt, tt_nble, ff_lt, ff_le, ff_eq, ff_eqS, tt_not, ff_not, tt_dec, ff_dec, tt_true, tt_false, ff_true, ff_false, tt_room, tt_roomN, isInt_i, isBool_b, isStr_s, isSl_s, isSl_n, isOwn_s, isOwn_1, slXs_n, isTup_t, isAgg_a, Bool.true_and, tt_beq, tupVs_t, aggCs_a, headD_c, tail_c, ce_0, ce_s, ↓bind_s, ite_t, ite_f, toInt_int, toBool_bool, toStr_str, slXs_sl, Nat.add_zero, Nat.zero_add, List.length_cons, List.length_nil, addW_eq, subW_eq, if_pos, if_neg])
        exact Ev.const
      | cons x r =>
        have hl2 := len_mid h
        simp only [F30.PL, lenI_peers, peers_at h, F31.eq]
        (simp (disch := first | omega | rfl) only [tt_lt, tt_le, tt_eq, tt_eqS, tt_nblt, tt_nble, ff_lt, ff_le, ff_eq, ff_eqS, tt_not, ff_not, tt_dec, ff_dec, tt_true, tt_false, ff_true, ff_false, tt_room, tt_roomN, isInt_i, isBool_b, isStr_s, isSl_s, isSl_n, isOwn_s, isOwn_1, slXs_n, isTup_t, isAgg_a, Bool.true_and, tt_beq, tupVs_t, aggCs_a, headD_c, tail_c, ce_0, ce_s, ↓bind_s, ite_t, ite_f, toInt_int, toBool_bool, toStr_str, slXs_sl, Nat.add_zero, Nat.zero_add, List.length_cons, List.length_nil, addW_eq, subW_eq, if_pos, if_neg])
        refine Ev.of ?_
        have : v ≤ x.node := h2 x (by simp)
        congr 3
        unfold cmpI eqI
        rw [if_neg (by omega)]
        by_cases e : x.node = v
        · rw [if_neg (by omega)]; simp [e]
        · rw [if_pos (by omega)]; simp [e]
theorem F30.eq {l pre post : List Pr} {v : Int} (hs : l.length ≤ 100000) (h : l = pre ++ post) (h1 : ∀ p ∈ pre, p.node < v) (h2 : ∀ p ∈ post, v ≤ p.node) :
    F30.P (peers l) v = some (.tup [.int .i64 pre.length, .bool (match post with | p :: _ => decide (p.node = v) | [] => false)]) := by
  unfold F30.P
  refine lim_eq ?_
  rw [lenI_peers]
  have hl : l.length = pre.length + post.length := by rw [h]; simp
  exact F30.loop hs h h1 h2 _ 0 l.length rfl (by omega) (by omega) (Nat.le_refl _)

/-! The list after hearing from a node -/
def seenIn (v now : Int) : List Pr → List Pr
  | [] => [⟨v, now⟩]
  | p :: r => if p.node < v then p :: seenIn v now r else if p.node = v then ⟨p.node, cond (ltI p.seen now) now p.seen⟩ :: r else ⟨v, now⟩ :: p :: r
def seenL (v now : Int) (l : List Pr) : List Pr := if v < 0 ∨ 7 ≤ v then l else seenIn v now l
theorem seenIn_pre {v now : Int} : ∀ {pre post : List Pr}, (∀ p ∈ pre, p.node < v) → seenIn v now (pre ++ post) = pre ++ seenIn v now post
  | [], post, _ => rfl
  | p :: pre, post, h => by
    rw [List.cons_append, seenIn, if_pos (h p (by simp)), seenIn_pre fun q hq => h q (by simp [hq])]
    rfl
theorem peers_set {pre r : List Pr} {p q : Pr} {x : AV} (hq : q.enc = p.enc.set 1 x) : (peers (pre ++ p :: r)).set (pre.length : Int).toNat (p.enc.set 1 x) = peers (pre ++ q :: r) := by
  rw [← hq]
  simp [peers]
theorem enc_pr (p : Pr) : [AV.int .i64 p.node, AV.int .i64 p.seen] = p.enc := rfl
theorem InsP.eq {l pre post : List Pr} {q : Pr} (hs : l.length ≤ 100000) (h : l = pre ++ post) : InsP.P 2 (peers l) [.int .i64 pre.length, .sl 0 2 [[.int .i64 q.node, .int .i64 q.seen]]] = some (peers (pre ++ q :: post)) := by
  have hl : (peers l).length = l.length := by simp [peers]
  have hl2 : l.length = pre.length + post.length := by rw [h]; simp
  simp only [InsP.P]
  rw [if_pos ⟨trivial, by omega, by omega, by omega⟩]
  subst h
  congr 1
  simp [peers, Pr.enc]
theorem F13.loop {l a : List Pr} {v now : Int} (hs : l.length ≤ 100000) : ∀ (post pre : List Pr), l = pre ++ post → (∀ p ∈ pre, p.node < v) → Ev (fun n => F13.PL (peers a) v now n (.l0 (peers l) pre.length)) (.sl 0 2 (peers (seenIn v now l)))
  | [], pre, h, hp => by
    have hl := len_end h
    refine Ev.succ ?_
    simp only [F13.PL, lenI_peers]
    (simp (disch := first | omega | rfl) only [tt_lt, tt_le, tt_eq, tt_eqS, tt_nblt, tt_nble, ff_lt, ff_le, ff_eq, ff_eqS, tt_not, ff_not, tt_dec, ff_dec, tt_true, tt_false, ff_true, ff_false, tt_room, tt_roomN, isInt_i, isBool_b, isStr_s, isSl_s, isSl_n, isOwn_s, isOwn_1, slXs_n, isTup_t, isAgg_a, Bool.true_and, tt_beq, tupVs_t, aggCs_a, headD_c, tail_c, ce_0, ce_s, ↓bind_s, ite_t, ite_f, toInt_int, toBool_bool, toStr_str, slXs_sl, Nat.add_zero, Nat.zero_add, List.length_cons, List.length_nil, addW_eq, subW_eq, if_pos, if_neg])
    have := InsP.eq (q := ⟨v, now⟩) hs h
    simp only at this
    rw [this]
    (simp (disch := first | omega | rfl) only [tt_lt, tt_le, tt_eq, tt_eqS, tt_nblt, tt_nble, ff_lt, ff_le, ff_eq, ff_eqS, tt_not, ff_not, tt_dec, ff_dec, tt_true, tt_false, ff_true, ff_false, tt_room, tt_roomN, isInt_i, isBool_b, isStr_s, isSl_s, isSl_n, isOwn_s, isOwn_1, slXs_n, isTup_t, isAgg_a, Bool.true_and, tt_beq, tupVs_t, aggCs_a, headD_c, tail_c, ce_0, ce_s, ↓bind_s, ite_t, ite_f, toInt_int, toBool_bool, toStr_str, slXs_sl, Nat.add_zero, Nat.zero_add, List.length_cons, List.length_nil, addW_eq, subW_eq, if_pos, if_neg])
    rw [h, seenIn_pre hp]
    exact Ev.const
  | p :: post, pre, h, hp => by
    have hl := len_mid h
    refine Ev.succ ?_
    simp only [F13.PL, lenI_peers, peers_at h]
    (simp (disch := first | omega | rfl) only [tt_lt, tt_le, tt_eq, tt_eqS, tt_nblt, tt_nble, ff_lt, ff_le, ff_eq, ff_eqS, tt_not, ff_not, tt_dec, ff_dec, tt_true, tt_false, ff_true, ff_false, tt_room, tt_roomN, isInt_i, isBool_b, isStr_s, isSl_s, isSl_n, isOwn_s, isOwn_1, slXs_n, isTup_t, isAgg_a, Bool.true_and, tt_beq, tupVs_t, aggCs_a, headD_c, tail_c, ce_0, ce_s, ↓bind_s, ite_t, ite_f, toInt_int, toBool_bool, toStr_str, slXs_sl, Nat.add_zero, Nat.zero_add, List.length_cons, List.length_nil, addW_eq, subW_eq, if_pos, if_neg])
    by_cases e : p.node < v
    · simp only [if_pos e]
      have := F13.loop (a := a) (now := now) hs post (pre ++ [p]) (by rw [h]; simp) (fun q hq => by
        rcases List.mem_append.1 hq with hq | hq
        · exact hp q hq
        · rw [List.mem_singleton] at hq; exact hq ▸ e)
      simpa using this
    · simp only [if_neg e]
      by_cases e2 : p.node = v
      · simp only [if_pos e2]
        refine Ev.of ?_
        rw [h, seenIn_pre hp, seenIn, if_neg e, if_pos e2, enc_pr, peers_set (p := p) (q := ⟨p.node, cond (ltI p.seen now) now p.seen⟩) rfl]
      · simp only [if_neg e2]
        have := InsP.eq (q := ⟨v, now⟩) hs h
        simp only at this
        rw [this]
        (simp (disch := first | omega | rfl) only [tt_lt, tt_le, tt_eq, tt_eqS, tt_nblt, tt_nble, ff_lt, ff_le, ff_eq, ff_eqS, tt_not, ff_not, tt_dec, ff_dec, tt_true, tt_false, ff_true, ff_false, tt_room, tt_roomN, isInt_i, isBool_b, isStr_s, isSl_s, isSl_n, isOwn_s, isOwn_1, slXs_n, isTup_t, isAgg_a, Bool.true_and, tt_beq, tupVs_t, aggCs_a, headD_c, tail_c, ce_0, ce_s, ↓bind_s, ite_t, ite_f, toInt_int, toBool_bool, toStr_str, slXs_sl, Nat.add_zero, Nat.zero_add, List.length_cons, List.length_nil, addW_eq, subW_eq, if_pos, if_neg])
        refine Ev.of ?_
        rw [h, seenIn_pre hp, seenIn, if_neg e, if_neg e2]
theorem F13.eq {l : List Pr} {v now : Int} (hs : l.length ≤ 100000) : F13.P (peers l) v now = some (.sl 0 2 (peers (seenL v now l))) := by
  unfold F13.P
  refine lim_eq ?_
  simp only [F29.eq hs]
  (simp (disch := first | omega | rfl) only [tt_lt, tt_le, tt_eq, tt_eqS, tt_nblt, tt_nble, ff_lt, ff_le, ff_eq, ff_eqS, tt_not, ff_not, tt_dec, ff_dec, tt_true, tt_false, ff_true, ff_false, tt_room, tt_roomN, isInt_i, isBool_b, isStr_s, isSl_s, isSl_n, isOwn_s, isOwn_1, slXs_n, isTup_t, isAgg_a, Bool.true_and, tt_beq, tupVs_t, aggCs_a, headD_c, tail_c, ce_0, ce_s, ↓bind_s, ite_t, ite_f, toInt_int, toBool_bool, toStr_str, slXs_sl, Nat.add_zero, Nat.zero_add, List.length_cons, List.length_nil, addW_eq, subW_eq, if_pos, if_neg])
  unfold seenL
  by_cases e : v < 0
  · simp only [if_pos e, if_pos (Or.inl e : v < 0 ∨ 7 ≤ v)]
    exact Ev.const
  · by_cases e2 : 7 ≤ v
    · simp only [if_neg e, if_pos e2, if_pos (Or.inr e2 : v < 0 ∨ 7 ≤ v)]
      exact Ev.const
    · simp only [if_neg e, if_neg e2, if_neg (show ¬ (v < 0 ∨ 7 ≤ v) by omega)]
      exact F13.loop hs l [] rfl (by simp)
/-- In ascending order of nodes. -/
def Asc (l : List Pr) : Prop := l.Pairwise fun a b => a.node < b.node
theorem asc_split {v : Int} : ∀ {l : List Pr}, Asc l → ∃ pre post, l = pre ++ post ∧ (∀ p ∈ pre, p.node < v) ∧ ∀ p ∈ post, v ≤ p.node
  | [], _ => ⟨[], [], rfl, by simp, by simp⟩
  | p :: l, h => by
    have h' := List.pairwise_cons.1 h
    by_cases e : p.node < v
    · obtain ⟨pre, post, h1, h2, h3⟩ := asc_split (v := v) h'.2
      exact ⟨p :: pre, post, by rw [h1]; rfl, by simpa [e] using h2, h3⟩
    · exact ⟨[], p :: l, rfl, by simp, fun q hq => (List.mem_cons.1 hq).elim (fun e' => by subst e'; omega) fun hq => by have := h'.1 q hq; omega⟩
theorem F11.eq {l : List Pr} {v now : Int} (hs : l.length ≤ 100000) (ha : Asc l) : F11.P (peers l) v now = some (.sl 0 2 (peers (seenL v now l))) := by
  simp only [F11.P, F29.eq hs]
  (simp (disch := first | omega | rfl) only [tt_lt, tt_le, tt_eq, tt_eqS, tt_nblt, tt_nble, ff_lt, ff_le, ff_eq, ff_eqS, tt_not, ff_not, tt_dec, ff_dec, tt_true, tt_false, ff_true, ff_false, tt_room, tt_roomN, isInt_i, isBool_b, isStr_s, isSl_s, isSl_n, isOwn_s, isOwn_1, slXs_n, isTup_t, isAgg_a, Bool.true_and, tt_beq, tupVs_t, aggCs_a, headD_c, tail_c, ce_0, ce_s, ↓bind_s, ite_t, ite_f, toInt_int, toBool_bool, toStr_str, slXs_sl, Nat.add_zero, Nat.zero_add, List.length_cons, List.length_nil, addW_eq, subW_eq, if_pos, if_neg])
  unfold seenL
  by_cases e : v < 0
  · simp only [if_pos e, if_pos (Or.inl e : v < 0 ∨ 7 ≤ v)]
  · by_cases e2 : 7 ≤ v
    · simp only [if_neg e, if_pos e2, if_pos (Or.inr e2 : v < 0 ∨ 7 ≤ v)]
    · simp only [if_neg e, if_neg e2, if_neg (show ¬ (v < 0 ∨ 7 ≤ v) by omega)]
      obtain ⟨pre, post, h, h1, h2⟩ := asc_split (v := v) ha
      rw [F30.eq hs h h1 h2]
      (simp (disch := first | omega | rfl) only [tt_lt, tt_le, tt_eq, tt_eqS, tt_nblt, tt_nble, ff_lt, ff_le, ff_eq, ff_eqS, tt_not, ff_not, tt_dec, ff_dec, tt_true, tt_false, ff_true, ff_false, tt_room, tt_roomN, isInt_i, isBool_b, isStr_s, isSl_s, isSl_n, isOwn_s, isOwn_1, slXs_n, isTup_t, isAgg_a, Bool.true_and, tt_beq, tupVs_t, aggCs_a, headD_c, tail_c, ce_0, ce_s, ↓bind_s, ite_t, ite_f, toInt_int, toBool_bool, toStr_str, slXs_sl, Nat.add_zero, Nat.zero_add, List.length_cons, List.length_nil, addW_eq, subW_eq, if_pos, if_neg])
      have ins := InsP.eq (q := ⟨v, now⟩) hs h
      simp only at ins
      cases post with
      | nil =>
        simp only
        (simp (disch := first | omega | rfl) only [tt_lt, tt_le, tt_eq, tt_eqS, tt_nblt, tt_nble, ff_lt, ff_le, ff_eq, ff_eqS, tt_not, ff_not, tt_dec, ff_dec, tt_true, tt_false, ff_true, ff_false, tt_room, tt_roomN, isInt_i, isBool_b, isStr_s, isSl_s, isSl_n, isOwn_s, isOwn_1, slXs_n, isTup_t, isAgg_a, Bool.true_and, tt_beq, tupVs_t, aggCs_a, headD_c, tail_c, ce_0, ce_s, ↓bind_s, ite_t, ite_f, toInt_int, toBool_bool, toStr_str, slXs_sl, Nat.add_zero, Nat.zero_add, List.length_cons, List.length_nil, addW_eq, subW_eq, if_pos, if_neg])
        rw [ins]
        (simp (disch := first | omega | rfl) only [tt_lt, tt_le, tt_eq, tt_eqS, tt_nblt, tt_nble, ff_lt, ff_le, ff_eq, ff_eqS, tt_not, ff_not, tt_dec, ff_dec, tt_true, tt_false, ff_true, ff_false, tt_room, tt_roomN, isInt_i, isBool_b, isStr_s, isSl_s, isSl_n, isOwn_s, isOwn_1, slXs_n, isTup_t, isAgg_a, Bool.true_and, tt_beq, tupVs_t, aggCs_a, headD_c, tail_c, ce_0, ce_s, ↓bind_s, ite_t, ite_f, toInt_int, toBool_bool, toStr_str, slXs_sl, Nat.add_zero, Nat.zero_add, List.length_cons, List.length_nil, addW_eq, subW_eq, if_pos, if_neg])
        rw [h, seenIn_pre h1]
        rfl
      | cons p r =>
        have hl := len_mid h
        have hp := h2 p (by simp)
        by_cases e3 : p.node = v
        · simp only [decide_eq_true e3, lenI_peers, peers_at h]
          (simp (disch := first | omega | rfl) only [tt_lt, tt_le, tt_eq, tt_eqS, tt_nblt, tt_nble, ff_lt, ff_le, ff_eq, ff_eqS, tt_not, ff_not, tt_dec, ff_dec, tt_true, tt_false, ff_true, ff_false, tt_room, tt_roomN, isInt_i, isBool_b, isStr_s, isSl_s, isSl_n, isOwn_s, isOwn_1, slXs_n, isTup_t, isAgg_a, Bool.true_and, tt_beq, tupVs_t, aggCs_a, headD_c, tail_c, ce_0, ce_s, ↓bind_s, ite_t, ite_f, toInt_int, toBool_bool, toStr_str, slXs_sl, Nat.add_zero, Nat.zero_add, List.length_cons, List.length_nil, addW_eq, subW_eq, if_pos, if_neg])
          rw [h, seenIn_pre h1, seenIn, if_neg (by omega), if_pos e3, enc_pr, peers_set (p := p) (q := ⟨p.node, cond (ltI p.seen now) now p.seen⟩) rfl]
        · simp only [decide_eq_false e3]
          (simp (disch := first | omega | rfl) only [tt_lt, tt_le, tt_eq, tt_eqS, tt_nblt, tt_nble, ff_lt, ff_le, ff_eq, ff_eqS, tt_not, ff_not, tt_dec, ff_dec, tt_true, tt_false, ff_true, ff_false, tt_room, tt_roomN, isInt_i, isBool_b, isStr_s, isSl_s, isSl_n, isOwn_s, isOwn_1, slXs_n, isTup_t, isAgg_a, Bool.true_and, tt_beq, tupVs_t, aggCs_a, headD_c, tail_c, ce_0, ce_s, ↓bind_s, ite_t, ite_f, toInt_int, toBool_bool, toStr_str, slXs_sl, Nat.add_zero, Nat.zero_add, List.length_cons, List.length_nil, addW_eq, subW_eq, if_pos, if_neg])
          rw [ins]
          (simp (disch := first | omega | rfl) only [tt_lt, tt_le, tt_eq, tt_eqS, tt_nblt, tt_nble, ff_lt, ff_le, ff_eq, ff_eqS, tt_not, ff_not, tt_dec, ff_dec, tt_true, tt_false, ff_true, ff_false, tt_room, tt_roomN, isInt_i, isBool_b, isStr_s, isSl_s, isSl_n, isOwn_s, isOwn_1, slXs_n, isTup_t, isAgg_a, Bool.true_and, tt_beq, tupVs_t, aggCs_a, headD_c, tail_c, ce_0, ce_s, ↓bind_s, ite_t, ite_f, toInt_int, toBool_bool, toStr_str, slXs_sl, Nat.add_zero, Nat.zero_add, List.length_cons, List.length_nil, addW_eq, subW_eq, if_pos, if_neg])
          rw [h, seenIn_pre h1, seenIn, if_neg (by omega), if_neg e3]
/-! In order -/
def ascB : List Pr → Bool
  | [] => true
  | [_] => true
  | a :: b :: r => decide (a.node < b.node) && ascB (b :: r)
theorem ascB_iff : ∀ {l : List Pr}, ascB l = true ↔ Asc l
  | [] => by simp [ascB, Asc]
  | [a] => by simp [ascB, Asc]
  | a :: b :: r => by
    have ih := ascB_iff (l := b :: r)
    simp only [ascB, Bool.and_eq_true, decide_eq_true_eq, ih]
    unfold Asc
    constructor
    · rintro ⟨h1, h2⟩
      refine List.pairwise_cons.2 ⟨fun q hq => ?_, h2⟩
      rcases List.mem_cons.1 hq with rfl | hq
      · exact h1
      · have := (List.pairwise_cons.1 h2).1 q hq; omega
    · intro h
      exact ⟨(List.pairwise_cons.1 h).1 b (by simp), (List.pairwise_cons.1 h).2⟩
theorem F9.loop {l : List Pr} (hs : l.length ≤ 100000) : ∀ (post pre : List Pr) (p : Pr), l = pre ++ p :: post → Ev (fun n => F9.PL (peers l) n (.l0 (pre.length + 1 : Int))) (.bool (ascB (p :: post)))
  | [], pre, p, h => by
    have hl := len_mid h
    rw [List.length_nil] at hl
    refine Ev.succ ?_
    simp only [F9.PL, lenI_peers]
    (simp (disch := first | omega | rfl) only [tt_lt, tt_le, tt_eq, tt_eqS, tt_nblt, tt_nble, ff_lt, ff_le, ff_eq, ff_eqS, tt_not, ff_not, tt_dec, ff_dec, tt_true, tt_false, ff_true, ff_false, tt_room, tt_roomN, isInt_i, isBool_b, isStr_s, isSl_s, isSl_n, isOwn_s, isOwn_1, slXs_n, isTup_t, isAgg_a, Bool.true_and, tt_beq, tupVs_t, aggCs_a, headD_c, tail_c, ce_0, ce_s, ↓bind_s, ite_t, ite_f, toInt_int, toBool_bool, toStr_str, slXs_sl, Nat.add_zero, Nat.zero_add, List.length_cons, List.length_nil, addW_eq, subW_eq, if_pos, if_neg])
    exact Ev.const
  | q :: post, pre, p, h => by
    have hl := len_mid h
    rw [List.length_cons] at hl
    have h' : l = (pre ++ [p]) ++ q :: post := by rw [h]; simp
    have hq : ro (peers l) ((pre.length : Int) + 1).toNat = [.int .i64 q.node, .int .i64 q.seen] := peers_get (n := pre.length + 1) (by omega) (by rw [h]; simp)
    have hp : ro (peers l) (subW .i64 ((pre.length : Int) + 1) 1).toNat = [.int .i64 p.node, .int .i64 p.seen] := by
      rw [subW_eq (by omega) (by omega)]
      exact peers_get (n := pre.length) (by omega) (by rw [h]; simp)
    refine Ev.succ ?_
    simp only [F9.PL, lenI_peers, hq, hp]
    (simp (disch := first | omega | rfl) only [tt_lt, tt_le, tt_eq, tt_eqS, tt_nblt, tt_nble, ff_lt, ff_le, ff_eq, ff_eqS, tt_not, ff_not, tt_dec, ff_dec, tt_true, tt_false, ff_true, ff_false, tt_room, tt_roomN, isInt_i, isBool_b, isStr_s, isSl_s, isSl_n, isOwn_s, isOwn_1, slXs_n, isTup_t, isAgg_a, Bool.true_and, tt_beq, tupVs_t, aggCs_a, headD_c, tail_c, ce_0, ce_s, ↓bind_s, ite_t, ite_f, toInt_int, toBool_bool, toStr_str, slXs_sl, Nat.add_zero, Nat.zero_add, List.length_cons, List.length_nil, addW_eq, subW_eq, if_pos, if_neg])
    by_cases e : q.node ≤ p.node
    · simp only [if_pos e, ascB, decide_eq_false (show ¬ p.node < q.node by omega), Bool.false_and]
      exact Ev.const
    · simp only [if_neg e, ascB, decide_eq_true (show p.node < q.node by omega), Bool.true_and]
      have := F9.loop hs post (pre ++ [p]) q h'
      simpa using this
theorem F9.eq {l : List Pr} (hs : l.length ≤ 100000) : F9.P (peers l) = some (.bool (ascB l)) := by
  unfold F9.P
  refine lim_eq (Ev.succ ?_)
  cases l with
  | nil =>
    simp only [F9.PL, lenI_peers]
    (simp (disch := first | omega | rfl) only [tt_lt, tt_le, tt_eq, tt_eqS, tt_nblt, tt_nble, ff_lt, ff_le, ff_eq, ff_eqS, tt_not, ff_not, tt_dec, ff_dec, tt_true, tt_false, ff_true, ff_false, tt_room, tt_roomN, isInt_i, isBool_b, isStr_s, isSl_s, isSl_n, isOwn_s, isOwn_1, slXs_n, isTup_t, isAgg_a, Bool.true_and, tt_beq, tupVs_t, aggCs_a, headD_c, tail_c, ce_0, ce_s, ↓bind_s, ite_t, ite_f, toInt_int, toBool_bool, toStr_str, slXs_sl, Nat.add_zero, Nat.zero_add, List.length_cons, List.length_nil, addW_eq, subW_eq, if_pos, if_neg])
    exact Ev.const
  | cons p r =>
    rw [List.length_cons] at hs
    have h0 : ro (peers (p :: r)) (0 : Int).toNat = [.int .i64 p.node, .int .i64 p.seen] := peers_get (n := 0) rfl rfl
    simp only [F9.PL, lenI_peers, h0]
    (simp (disch := first | omega | rfl) only [tt_lt, tt_le, tt_eq, tt_eqS, tt_nblt, tt_nble, ff_lt, ff_le, ff_eq, ff_eqS, tt_not, ff_not, tt_dec, ff_dec, tt_true, tt_false, ff_true, ff_false, tt_room, tt_roomN, isInt_i, isBool_b, isStr_s, isSl_s, isSl_n, isOwn_s, isOwn_1, slXs_n, isTup_t, isAgg_a, Bool.true_and, tt_beq, tupVs_t, aggCs_a, headD_c, tail_c, ce_0, ce_s, ↓bind_s, ite_t, ite_f, toInt_int, toBool_bool, toStr_str, slXs_sl, Nat.add_zero, Nat.zero_add, List.length_cons, List.length_nil, addW_eq, subW_eq, if_pos, if_neg])
    have := F9.loop (l := p :: r) (by simp; omega) r [] p rfl
    simpa using this
end Go.Proofs.Ytdiokakekedaaaa.Ab
