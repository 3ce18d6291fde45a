/- Member: what its functions compute, part three: equality, quorums, groups. -/
import Derived.Test.YtdiokakekedaaaaMemTwo
namespace Go.Proofs.Ytdiokakekedaaaa.Ab
open Go
set_option linter.unusedSimpArgs false

theorem F16.loop {a b : List Int} (hs : a.length ≤ 100000) : ∀ (q1 q2 p1 p2 : List Int), a = p1 ++ q1 → b = p2 ++ q2 → p1.length = p2.length → q1.length = q2.length → Ev (fun n => F16.PL (ints a) (ints b) n (.l0 p1.length)) (.bool (decide (q1 = q2)))
  | [], [], p1, p2, h1, h2, hp, hq => by
    have hl := len_end h1
    refine Ev.succ ?_
    simp only [F16.PL, lenI_ints]
    (simp (disch := first | omega | rfl) only [tt_lt, tt_le, tt_eq, tt_eqS, tt_nblt, tt_nble, ff_lt, ff_le, ff_eq, ff_eqS, tt_not, ff_not, tt_dec, ff_dec, tt_true, tt_false, ff_true, ff_false, tt_room, tt_roomN, isInt_i, isBool_b, isStr_s, isSl_s, isSl_n, isOwn_s, isOwn_1, slXs_n, isTup_t, isAgg_a, Bool.true_and, tt_beq, tupVs_t, aggCs_a, headD_c, tail_c, ce_0, ce_s, ↓bind_s, ite_t, ite_f, toInt_int, toBool_bool, toStr_str, slXs_sl, Nat.add_zero, Nat.zero_add, List.length_cons, List.length_nil, addW_eq, subW_eq, if_pos, if_neg])
    exact Ev.const
  | x :: q1, y :: q2, p1, p2, h1, h2, hp, hq => by
    have hl := len_mid h1
    have hl2 := len_mid h2
    have hy : ro (ints b) (p1.length : Int).toNat = [.int .i64 y] := by rw [hp]; exact ints_at h2
    refine Ev.succ ?_
    simp only [F16.PL, lenI_ints, ints_at h1, hy]
    (simp (disch := first | omega | rfl) only [tt_lt, tt_le, tt_eq, tt_eqS, tt_nblt, tt_nble, ff_lt, ff_le, ff_eq, ff_eqS, tt_not, ff_not, tt_dec, ff_dec, tt_true, tt_false, ff_true, ff_false, tt_room, tt_roomN, isInt_i, isBool_b, isStr_s, isSl_s, isSl_n, isOwn_s, isOwn_1, slXs_n, isTup_t, isAgg_a, Bool.true_and, tt_beq, tupVs_t, aggCs_a, headD_c, tail_c, ce_0, ce_s, ↓bind_s, ite_t, ite_f, toInt_int, toBool_bool, toStr_str, slXs_sl, Nat.add_zero, Nat.zero_add, List.length_cons, List.length_nil, addW_eq, subW_eq, if_pos, if_neg])
    by_cases e : x = y
    · subst e
      simp only [not_true_eq_false, if_false]
      have := F16.loop (b := b) hs q1 q2 (p1 ++ [x]) (p2 ++ [x]) (by rw [h1]; simp) (by rw [h2]; simp) (by simp [hp]) (by simpa using hq)
      simpa using this
    · simp only [e, not_false_eq_true, if_true]
      refine Ev.of ?_
      simp [e]
  | [], _ :: _, _, _, _, _, _, hq => by simp at hq
  | _ :: _, [], _, _, _, _, _, hq => by simp at hq
theorem F16.eq {a b : List Int} (hs : a.length ≤ 100000) : F16.P (ints a) (ints b) = some (.bool (decide (a = b))) := by
  unfold F16.P
  refine lim_eq ?_
  simp only [lenI_ints]
  by_cases e : a.length = b.length
  · have e' : (a.length : Int) = b.length := by omega
    (simp (disch := first | omega | rfl) only [tt_lt, tt_le, tt_eq, tt_eqS, tt_nblt, tt_nble, ff_lt, ff_le, ff_eq, ff_eqS, tt_not, ff_not, tt_dec, ff_dec, tt_true, tt_false, ff_true, ff_false, tt_room, tt_roomN, isInt_i, isBool_b, isStr_s, isSl_s, isSl_n, isOwn_s, isOwn_1, slXs_n, isTup_t, isAgg_a, Bool.true_and, tt_beq, tupVs_t, aggCs_a, headD_c, tail_c, ce_0, ce_s, ↓bind_s, ite_t, ite_f, toInt_int, toBool_bool, toStr_str, slXs_sl, Nat.add_zero, Nat.zero_add, List.length_cons, List.length_nil, addW_eq, subW_eq, if_pos, if_neg])
    exact F16.loop hs a b [] [] rfl rfl rfl e
  · have e' : ¬ (a.length : Int) = b.length := by omega
    (simp (disch := first | omega | rfl) only [tt_lt, tt_le, tt_eq, tt_eqS, tt_nblt, tt_nble, ff_lt, ff_le, ff_eq, ff_eqS, tt_not, ff_not, tt_dec, ff_dec, tt_true, tt_false, ff_true, ff_false, tt_room, tt_roomN, isInt_i, isBool_b, isStr_s, isSl_s, isSl_n, isOwn_s, isOwn_1, slXs_n, isTup_t, isAgg_a, Bool.true_and, tt_beq, tupVs_t, aggCs_a, headD_c, tail_c, ce_0, ce_s, ↓bind_s, ite_t, ite_f, toInt_int, toBool_bool, toStr_str, slXs_sl, Nat.add_zero, Nat.zero_add, List.length_cons, List.length_nil, addW_eq, subW_eq, if_pos, if_neg])
    refine Ev.of ?_
    have : a ≠ b := fun h => e (by rw [h])
    simp [this]
theorem F12.loop {a b : List Pr} (hs : a.length ≤ 100000) : ∀ (q1 q2 p1 p2 : List Pr), a = p1 ++ q1 → b = p2 ++ q2 → p1.length = p2.length → q1.length = q2.length → Ev (fun n => F12.PL (peers a) (peers b) n (.l0 p1.length)) (.bool (decide (q1 = q2)))
  | [], [], p1, p2, h1, h2, hp, hq => by
    have hl := len_end h1
    refine Ev.succ ?_
    simp only [F12.PL, lenI_peers]
    (simp (disch := first | omega | rfl) only [tt_lt, tt_le, tt_eq, tt_eqS, tt_nblt, tt_nble, ff_lt, ff_le, ff_eq, ff_eqS, tt_not, ff_not, tt_dec, ff_dec, tt_true, tt_false, ff_true, ff_false, tt_room, tt_roomN, isInt_i, isBool_b, isStr_s, isSl_s, isSl_n, isOwn_s, isOwn_1, slXs_n, isTup_t, isAgg_a, Bool.true_and, tt_beq, tupVs_t, aggCs_a, headD_c, tail_c, ce_0, ce_s, ↓bind_s, ite_t, ite_f, toInt_int, toBool_bool, toStr_str, slXs_sl, Nat.add_zero, Nat.zero_add, List.length_cons, List.length_nil, addW_eq, subW_eq, if_pos, if_neg])
    exact Ev.const
  | x :: q1, y :: q2, p1, p2, h1, h2, hp, hq => by
    have hl := len_mid h1
    have hl2 := len_mid h2
    have hy : ro (peers b) (p1.length : Int).toNat = [.int .i64 y.node, .int .i64 y.seen] := by rw [hp]; exact peers_at h2
    have hxy : (eqI x.node y.node && (eqI x.seen y.seen && true)) = decide (x = y) := by
      cases x; cases y
      simp only [eqI, Pr.mk.injEq, Bool.and_true]
      rw [Bool.eq_iff_iff]
      simp
    refine Ev.succ ?_
    simp only [F12.PL, lenI_peers, peers_at h1, hy, ce_0, ce_s, toInt_int, hxy]
    (simp (disch := first | omega | rfl) only [tt_lt, tt_le, tt_eq, tt_eqS, tt_nblt, tt_nble, ff_lt, ff_le, ff_eq, ff_eqS, tt_not, ff_not, tt_dec, ff_dec, tt_true, tt_false, ff_true, ff_false, tt_room, tt_roomN, isInt_i, isBool_b, isStr_s, isSl_s, isSl_n, isOwn_s, isOwn_1, slXs_n, isTup_t, isAgg_a, Bool.true_and, tt_beq, tupVs_t, aggCs_a, headD_c, tail_c, ce_0, ce_s, ↓bind_s, ite_t, ite_f, toInt_int, toBool_bool, toStr_str, slXs_sl, Nat.add_zero, Nat.zero_add, List.length_cons, List.length_nil, addW_eq, subW_eq, if_pos, if_neg])
    by_cases e : x = y
    · subst e
      simp only [not_true_eq_false, if_false]
      have := F12.loop (b := b) hs q1 q2 (p1 ++ [x]) (p2 ++ [x]) (by rw [h1]; simp) (by rw [h2]; simp) (by simp [hp]) (by simpa using hq)
      simpa using this
    · simp only [e, not_false_eq_true, if_true]
      refine Ev.of ?_
      simp [e]
  | [], _ :: _, _, _, _, _, _, hq => by simp at hq
  | _ :: _, [], _, _, _, _, _, hq => by simp at hq
theorem F12.eq {a b : List Pr} (hs : a.length ≤ 100000) : F12.P (peers a) (peers b) = some (.bool (decide (a = b))) := by
  unfold F12.P
  refine lim_eq ?_
  simp only [lenI_peers]
  by_cases e : a.length = b.length
  · have e' : (a.length : Int) = b.length := by omega
    (simp (disch := first | omega | rfl) only [tt_lt, tt_le, tt_eq, tt_eqS, tt_nblt, tt_nble, ff_lt, ff_le, ff_eq, ff_eqS, tt_not, ff_not, tt_dec, ff_dec, tt_true, tt_false, ff_true, ff_false, tt_room, tt_roomN, isInt_i, isBool_b, isStr_s, isSl_s, isSl_n, isOwn_s, isOwn_1, slXs_n, isTup_t, isAgg_a, Bool.true_and, tt_beq, tupVs_t, aggCs_a, headD_c, tail_c, ce_0, ce_s, ↓bind_s, ite_t, ite_f, toInt_int, toBool_bool, toStr_str, slXs_sl, Nat.add_zero, Nat.zero_add, List.length_cons, List.length_nil, addW_eq, subW_eq, if_pos, if_neg])
    exact F12.loop hs a b [] [] rfl rfl rfl e
  · have e' : ¬ (a.length : Int) = b.length := by omega
    (simp (disch := first | omega | rfl) only [tt_lt, tt_le, tt_eq, tt_eqS, tt_nblt, tt_nble, ff_lt, ff_le, ff_eq, ff_eqS, tt_not, ff_not, tt_dec, ff_dec, tt_true, tt_false, ff_true, ff_false, tt_room, tt_roomN, isInt_i, isBool_b, isStr_s, isSl_s, isSl_n, isOwn_s, isOwn_1, slXs_n, isTup_t, isAgg_a, Bool.true_and, tt_beq, tupVs_t, aggCs_a, headD_c, tail_c, ce_0, ce_s, ↓bind_s, ite_t, ite_f, toInt_int, toBool_bool, toStr_str, slXs_sl, Nat.add_zero, Nat.zero_add, List.length_cons, List.length_nil, addW_eq, subW_eq, if_pos, if_neg])
    refine Ev.of ?_
    have : a ≠ b := fun h => e (by rw [h])
    simp [this]

/-! Quorums -/
def quoB (n m : Int) : Bool := decide (1 ≤ m) && decide (m / 2 < n)
theorem F24.eq {n m : Int} (h : m ≤ 9223372036854775807) : F24.P n m = some (.bool (quoB n m)) := by
  unfold F24.P quoB
  by_cases e : 1 ≤ m
  · rw [if_pos (by rw [tt_le]; exact e), Int.tdiv_eq_ediv_of_nonneg (by omega), wrap_i64 (by omega) (by omega)]
    simp [e, ltI]
  · rw [if_neg (by rw [tt_le]; exact e)]
    simp [e]
theorem F25.eq {n m : Int} (h : m ≤ 9223372036854775807) : F25.P n m = some (.bool (quoB n m)) := by
  unfold F25.P quoB
  by_cases e : 1 ≤ m
  · rw [if_pos (by rw [tt_le]; exact e), Int.tdiv_eq_ediv_of_nonneg (by omega), wrap_i64 (by omega) (by omega)]
    simp [e, ltI]
  · rw [if_neg (by rw [tt_le]; exact e)]
    simp [e]

/-! Groups -/
def grps (l : List (List Int)) : List (List AV) := l.map fun g => [.sl 0 1 (ints g)]
theorem lenI_grps {l : List (List Int)} : lenI (grps l) = (l.length : Int) := lenI_map
theorem grps_at {l pre post : List (List Int)} {x : List Int} (h : l = pre ++ x :: post) : ro (grps l) (pre.length : Int).toNat = [.sl 0 1 (ints x)] := ro_at h
def majV : Option (List Int) → AV
  | some g => .tup [.sl 0 1 (ints g), .bool true]
  | none => .tup [.nilsl, .bool false]
def major (m : Int) (l : List (List Int)) : Option (List Int) := l.find? fun g => quoB (g.length : Int) m
theorem F21.loop {l : List (List Int)} {m : Int} (hm : m ≤ 9223372036854775807) (hs : l.length ≤ 100000) (hg : ∀ g ∈ l, g.length ≤ 100000) : ∀ (post pre : List (List Int)), l = pre ++ post → Ev (fun n => F21.PL (grps l) m n (.l0 pre.length)) (majV (major m post))
  | [], pre, h => by
    have hl := len_end h
    refine Ev.succ ?_
    simp only [F21.PL, lenI_grps]
    (simp (disch := first | omega | rfl) only [tt_lt, tt_le, tt_eq, tt_eqS, tt_nblt, tt_nble, ff_lt, ff_le, ff_eq, ff_eqS, tt_not, ff_not, tt_dec, ff_dec, tt_true, tt_false, ff_true, ff_false, tt_room, tt_roomN, isInt_i, isBool_b, isStr_s, isSl_s, isSl_n, isOwn_s, isOwn_1, slXs_n, isTup_t, isAgg_a, Bool.true_and, tt_beq, tupVs_t, aggCs_a, headD_c, tail_c, ce_0, ce_s, ↓bind_s, ite_t, ite_f, toInt_int, toBool_bool, toStr_str, slXs_sl, Nat.add_zero, Nat.zero_add, List.length_cons, List.length_nil, addW_eq, subW_eq, if_pos, if_neg])
    exact Ev.const
  | g :: post, pre, h => by
    have hl := len_mid h
    have hgl := hg g (by rw [h]; simp)
    refine Ev.succ ?_
    simp only [F21.PL, lenI_grps, grps_at h, ce_0, slXs_sl, lenI_ints, F24.eq hm, F36.eq hgl]
    (simp (disch := first | omega | rfl) only [tt_lt, tt_le, tt_eq, tt_eqS, tt_nblt, tt_nble, ff_lt, ff_le, ff_eq, ff_eqS, tt_not, ff_not, tt_dec, ff_dec, tt_true, tt_false, ff_true, ff_false, tt_room, tt_roomN, isInt_i, isBool_b, isStr_s, isSl_s, isSl_n, isOwn_s, isOwn_1, slXs_n, isTup_t, isAgg_a, Bool.true_and, tt_beq, tupVs_t, aggCs_a, headD_c, tail_c, ce_0, ce_s, ↓bind_s, ite_t, ite_f, toInt_int, toBool_bool, toStr_str, slXs_sl, Nat.add_zero, Nat.zero_add, List.length_cons, List.length_nil, addW_eq, subW_eq, if_pos, if_neg])
    cases hq : quoB (g.length : Int) m
    · (simp (disch := first | omega | rfl) only [tt_lt, tt_le, tt_eq, tt_eqS, tt_nblt, tt_nble, ff_lt, ff_le, ff_eq, ff_eqS, tt_not, ff_not, tt_dec, ff_dec, tt_true, tt_false, ff_true, ff_false, tt_room, tt_roomN, isInt_i, isBool_b, isStr_s, isSl_s, isSl_n, isOwn_s, isOwn_1, slXs_n, isTup_t, isAgg_a, Bool.true_and, tt_beq, tupVs_t, aggCs_a, headD_c, tail_c, ce_0, ce_s, ↓bind_s, ite_t, ite_f, toInt_int, toBool_bool, toStr_str, slXs_sl, Nat.add_zero, Nat.zero_add, List.length_cons, List.length_nil, addW_eq, subW_eq, if_pos, if_neg])
      have := F21.loop hm hs hg post (pre ++ [g]) (by rw [h]; simp)
      simpa [major, hq] using this
    · (simp (disch := first | omega | rfl) only [tt_lt, tt_le, tt_eq, tt_eqS, tt_nblt, tt_nble, ff_lt, ff_le, ff_eq, ff_eqS, tt_not, ff_not, tt_dec, ff_dec, tt_true, tt_false, ff_true, ff_false, tt_room, tt_roomN, isInt_i, isBool_b, isStr_s, isSl_s, isSl_n, isOwn_s, isOwn_1, slXs_n, isTup_t, isAgg_a, Bool.true_and, tt_beq, tupVs_t, aggCs_a, headD_c, tail_c, ce_0, ce_s, ↓bind_s, ite_t, ite_f, toInt_int, toBool_bool, toStr_str, slXs_sl, Nat.add_zero, Nat.zero_add, List.length_cons, List.length_nil, addW_eq, subW_eq, if_pos, if_neg])
      refine Ev.of ?_
      simp [major, hq, majV]
theorem F21.eq {l : List (List Int)} {m : Int} (hm : m ≤ 9223372036854775807) (hs : l.length ≤ 100000) (hg : ∀ g ∈ l, g.length ≤ 100000) : F21.P (grps l) m = some (majV (major m l)) := lim_eq (F21.loop hm hs hg l [] rfl)
theorem F22.loop {l : List (List Int)} {m : Int} (hm : m ≤ 9223372036854775807) (hs : l.length ≤ 100000) (hg : ∀ g ∈ l, g.length ≤ 100000) : ∀ (post pre : List (List Int)), l = pre ++ post → Ev (fun n => F22.PL (grps l) m n (.l0 pre.length)) (majV (major m post))
  | [], pre, h => by
    have hl := len_end h
    refine Ev.succ ?_
    simp only [F22.PL, lenI_grps]
    (simp (disch := first | omega | rfl) only [tt_lt, tt_le, tt_eq, tt_eqS, tt_nblt, tt_nble, ff_lt, ff_le, ff_eq, ff_eqS, tt_not, ff_not, tt_dec, ff_dec, tt_true, tt_false, ff_true, ff_false, tt_room, tt_roomN, isInt_i, isBool_b, isStr_s, isSl_s, isSl_n, isOwn_s, isOwn_1, slXs_n, isTup_t, isAgg_a, Bool.true_and, tt_beq, tupVs_t, aggCs_a, headD_c, tail_c, ce_0, ce_s, ↓bind_s, ite_t, ite_f, toInt_int, toBool_bool, toStr_str, slXs_sl, Nat.add_zero, Nat.zero_add, List.length_cons, List.length_nil, addW_eq, subW_eq, if_pos, if_neg])
    exact Ev.const
  | g :: post, pre, h => by
    have hl := len_mid h
    have hgl := hg g (by rw [h]; simp)
    refine Ev.succ ?_
    simp only [F22.PL, lenI_grps, grps_at h, ce_0, slXs_sl, lenI_ints, F25.eq hm, F36.eq hgl]
    (simp (disch := first | omega | rfl) only [tt_lt, tt_le, tt_eq, tt_eqS, tt_nblt, tt_nble, ff_lt, ff_le, ff_eq, ff_eqS, tt_not, ff_not, tt_dec, ff_dec, tt_true, tt_false, ff_true, ff_false, tt_room, tt_roomN, isInt_i, isBool_b, isStr_s, isSl_s, isSl_n, isOwn_s, isOwn_1, slXs_n, isTup_t, isAgg_a, Bool.true_and, tt_beq, tupVs_t, aggCs_a, headD_c, tail_c, ce_0, ce_s, ↓bind_s, ite_t, ite_f, toInt_int, toBool_bool, toStr_str, slXs_sl, Nat.add_zero, Nat.zero_add, List.length_cons, List.length_nil, addW_eq, subW_eq, if_pos, if_neg])
    cases hq : quoB (g.length : Int) m
    · (simp (disch := first | omega | rfl) only [tt_lt, tt_le, tt_eq, tt_eqS, tt_nblt, tt_nble, ff_lt, ff_le, ff_eq, ff_eqS, tt_not, ff_not, tt_dec, ff_dec, tt_true, tt_false, ff_true, ff_false, tt_room, tt_roomN, isInt_i, isBool_b, isStr_s, isSl_s, isSl_n, isOwn_s, isOwn_1, slXs_n, isTup_t, isAgg_a, Bool.true_and, tt_beq, tupVs_t, aggCs_a, headD_c, tail_c, ce_0, ce_s, ↓bind_s, ite_t, ite_f, toInt_int, toBool_bool, toStr_str, slXs_sl, Nat.add_zero, Nat.zero_add, List.length_cons, List.length_nil, addW_eq, subW_eq, if_pos, if_neg])
      have := F22.loop hm hs hg post (pre ++ [g]) (by rw [h]; simp)
      simpa [major, hq] using this
    · (simp (disch := first | omega | rfl) only [tt_lt, tt_le, tt_eq, tt_eqS, tt_nblt, tt_nble, ff_lt, ff_le, ff_eq, ff_eqS, tt_not, ff_not, tt_dec, ff_dec, tt_true, tt_false, ff_true, ff_false, tt_room, tt_roomN, isInt_i, isBool_b, isStr_s, isSl_s, isSl_n, isOwn_s, isOwn_1, slXs_n, isTup_t, isAgg_a, Bool.true_and, tt_beq, tupVs_t, aggCs_a, headD_c, tail_c, ce_0, ce_s, ↓bind_s, ite_t, ite_f, toInt_int, toBool_bool, toStr_str, slXs_sl, Nat.add_zero, Nat.zero_add, List.length_cons, List.length_nil, addW_eq, subW_eq, if_pos, if_neg])
      refine Ev.of ?_
      simp [major, hq, majV]
theorem F22.eq {l : List (List Int)} {m : Int} (hm : m ≤ 9223372036854775807) (hs : l.length ≤ 100000) (hg : ∀ g ∈ l, g.length ≤ 100000) : F22.P (grps l) m = some (majV (major m l)) := lim_eq (F22.loop hm hs hg l [] rfl)
theorem F23.loop {a b : List (List Int)} (hs : a.length ≤ 100000) (hg : ∀ g ∈ a, g.length ≤ 100000) : ∀ (q1 q2 p1 p2 : List (List Int)), a = p1 ++ q1 → b = p2 ++ q2 → p1.length = p2.length → q1.length = q2.length → Ev (fun n => F23.PL (grps a) (grps b) n (.l0 p1.length)) (.bool (decide (q1 = q2)))
  | [], [], p1, p2, h1, h2, hp, hq => by
    have hl := len_end h1
    refine Ev.succ ?_
    simp only [F23.PL, lenI_grps]
    (simp (disch := first | omega | rfl) only [tt_lt, tt_le, tt_eq, tt_eqS, tt_nblt, tt_nble, ff_lt, ff_le, ff_eq, ff_eqS, tt_not, ff_not, tt_dec, ff_dec, tt_true, tt_false, ff_true, ff_false, tt_room, tt_roomN, isInt_i, isBool_b, isStr_s, isSl_s, isSl_n, isOwn_s, isOwn_1, slXs_n, isTup_t, isAgg_a, Bool.true_and, tt_beq, tupVs_t, aggCs_a, headD_c, tail_c, ce_0, ce_s, ↓bind_s, ite_t, ite_f, toInt_int, toBool_bool, toStr_str, slXs_sl, Nat.add_zero, Nat.zero_add, List.length_cons, List.length_nil, addW_eq, subW_eq, if_pos, if_neg])
    exact Ev.const
  | x :: q1, y :: q2, p1, p2, h1, h2, hp, hq => by
    have hl := len_mid h1
    have hl2 := len_mid h2
    have hy : ro (grps b) (p1.length : Int).toNat = [.sl 0 1 (ints y)] := by rw [hp]; exact grps_at h2
    refine Ev.succ ?_
    simp only [F23.PL, lenI_grps, grps_at h1, hy, ce_0, slXs_sl, F16.eq (hg x (by rw [h1]; simp))]
    (simp (disch := first | omega | rfl) only [tt_lt, tt_le, tt_eq, tt_eqS, tt_nblt, tt_nble, ff_lt, ff_le, ff_eq, ff_eqS, tt_not, ff_not, tt_dec, ff_dec, tt_true, tt_false, ff_true, ff_false, tt_room, tt_roomN, isInt_i, isBool_b, isStr_s, isSl_s, isSl_n, isOwn_s, isOwn_1, slXs_n, isTup_t, isAgg_a, Bool.true_and, tt_beq, tupVs_t, aggCs_a, headD_c, tail_c, ce_0, ce_s, ↓bind_s, ite_t, ite_f, toInt_int, toBool_bool, toStr_str, slXs_sl, Nat.add_zero, Nat.zero_add, List.length_cons, List.length_nil, addW_eq, subW_eq, if_pos, if_neg])
    by_cases e : x = y
    · subst e
      simp only [not_true_eq_false, if_false]
      have := F23.loop (b := b) hs hg q1 q2 (p1 ++ [x]) (p2 ++ [x]) (by rw [h1]; simp) (by rw [h2]; simp) (by simp [hp]) (by simpa using hq)
      simpa using this
    · simp only [e, not_false_eq_true, if_true]
      refine Ev.of ?_
      simp [e]
  | [], _ :: _, _, _, _, _, _, hq => by simp at hq
  | _ :: _, [], _, _, _, _, _, hq => by simp at hq
theorem F23.eq {a b : List (List Int)} (hs : a.length ≤ 100000) (hg : ∀ g ∈ a, g.length ≤ 100000) : F23.P (grps a) (grps b) = some (.bool (decide (a = b))) := by
  unfold F23.P
  refine lim_eq ?_
  simp only [lenI_grps]
  by_cases e : a.length = b.length
  · have e' : (a.length : Int) = b.length := by omega
    (simp (disch := first | omega | rfl) only [tt_lt, tt_le, tt_eq, tt_eqS, tt_nblt, tt_nble, ff_lt, ff_le, ff_eq, ff_eqS, tt_not, ff_not, tt_dec, ff_dec, tt_true, tt_false, ff_true, ff_false, tt_room, tt_roomN, isInt_i, isBool_b, isStr_s, isSl_s, isSl_n, isOwn_s, isOwn_1, slXs_n, isTup_t, isAgg_a, Bool.true_and, tt_beq, tupVs_t, aggCs_a, headD_c, tail_c, ce_0, ce_s, ↓bind_s, ite_t, ite_f, toInt_int, toBool_bool, toStr_str, slXs_sl, Nat.add_zero, Nat.zero_add, List.length_cons, List.length_nil, addW_eq, subW_eq, if_pos, if_neg])
    exact F23.loop hs hg a b [] [] rfl rfl rfl e
  · have e' : ¬ (a.length : Int) = b.length := by omega
    (simp (disch := first | omega | rfl) only [tt_lt, tt_le, tt_eq, tt_eqS, tt_nblt, tt_nble, ff_lt, ff_le, ff_eq, ff_eqS, tt_not, ff_not, tt_dec, ff_dec, tt_true, tt_false, ff_true, ff_false, tt_room, tt_roomN, isInt_i, isBool_b, isStr_s, isSl_s, isSl_n, isOwn_s, isOwn_1, slXs_n, isTup_t, isAgg_a, Bool.true_and, tt_beq, tupVs_t, aggCs_a, headD_c, tail_c, ce_0, ce_s, ↓bind_s, ite_t, ite_f, toInt_int, toBool_bool, toStr_str, slXs_sl, Nat.add_zero, Nat.zero_add, List.length_cons, List.length_nil, addW_eq, subW_eq, if_pos, if_neg])
    refine Ev.of ?_
    have : a ≠ b := fun h => e (by rw [h])
    simp [this]

/-! rest -/
theorem length_peers {l : List Pr} : (peers l).length = l.length := by simp [peers]
theorem peers_snoc {l : List Pr} {p : Pr} : peers l ++ [[.int .i64 p.node, .int .i64 p.seen]] = peers (l ++ [p]) := by simp [peers, Pr.enc]
def restP (v : Int) (l : List Pr) : List Pr := l.filter fun p => decide (p.node ≠ v)
theorem F28.loop {l : List Pr} {v : Int} (hs : l.length ≤ 100000) : ∀ (post pre out : List Pr), l = pre ++ post → out.length ≤ pre.length → Ev (fun n => F28.PL (peers l) v n (.l0 (peers out) pre.length)) (.sl 0 2 (peers (out ++ restP v post)))
  | [], pre, out, h, ho => by
    have hl := len_end h
    refine Ev.succ ?_
    simp only [F28.PL, lenI_peers]
    (simp (disch := first | omega | rfl) only [tt_lt, tt_le, tt_eq, tt_eqS, tt_nblt, tt_nble, ff_lt, ff_le, ff_eq, ff_eqS, tt_not, ff_not, tt_dec, ff_dec, tt_true, tt_false, ff_true, ff_false, tt_room, tt_roomN, isInt_i, isBool_b, isStr_s, isSl_s, isSl_n, isOwn_s, isOwn_1, slXs_n, isTup_t, isAgg_a, Bool.true_and, tt_beq, tupVs_t, aggCs_a, headD_c, tail_c, ce_0, ce_s, ↓bind_s, ite_t, ite_f, toInt_int, toBool_bool, toStr_str, slXs_sl, Nat.add_zero, Nat.zero_add, List.length_cons, List.length_nil, addW_eq, subW_eq, if_pos, if_neg])
    simp only [restP, List.filter_nil, List.append_nil]
    exact Ev.const
  | p :: post, pre, out, h, ho => by
    have hl := len_mid h
    have hi := length_peers (l := out)
    refine Ev.succ ?_
    simp only [F28.PL, lenI_peers, peers_at h]
    (simp (disch := first | omega | rfl) only [tt_lt, tt_le, tt_eq, tt_eqS, tt_nblt, tt_nble, ff_lt, ff_le, ff_eq, ff_eqS, tt_not, ff_not, tt_dec, ff_dec, tt_true, tt_false, ff_true, ff_false, tt_room, tt_roomN, isInt_i, isBool_b, isStr_s, isSl_s, isSl_n, isOwn_s, isOwn_1, slXs_n, isTup_t, isAgg_a, Bool.true_and, tt_beq, tupVs_t, aggCs_a, headD_c, tail_c, ce_0, ce_s, ↓bind_s, ite_t, ite_f, toInt_int, toBool_bool, toStr_str, slXs_sl, Nat.add_zero, Nat.zero_add, List.length_cons, List.length_nil, addW_eq, subW_eq, if_pos, if_neg])
    by_cases e : p.node = v
    · simp only [e, not_true_eq_false, if_false]
      have := F28.loop (v := v) hs post (pre ++ [p]) out (by rw [h]; simp) (by simp; omega)
      simpa [restP, e] using this
    · simp only [e, not_false_eq_true, if_true]
      try (simp (disch := first | omega | rfl) only [tt_lt, tt_le, tt_eq, tt_eqS, tt_nblt, tt_nble, ff_lt, ff_le, ff_eq, ff_eqS, tt_not, ff_not, tt_dec, ff_dec, tt_true, tt_false, ff_true, ff_false, tt_room, tt_roomN, isInt_i, isBool_b, isStr_s, isSl_s, isSl_n, isOwn_s, isOwn_1, slXs_n, isTup_t, isAgg_a, Bool.true_and, tt_beq, tupVs_t, aggCs_a, headD_c, tail_c, ce_0, ce_s, ↓bind_s, ite_t, ite_f, toInt_int, toBool_bool, toStr_str, slXs_sl, Nat.add_zero, Nat.zero_add, List.length_cons, List.length_nil, addW_eq, subW_eq, if_pos, if_neg])
      rw [peers_snoc]
      have := F28.loop (v := v) hs post (pre ++ [p]) (out ++ [p]) (by rw [h]; simp) (by simp; omega)
      simpa [restP, e] using this
theorem F28.eq {l : List Pr} {v : Int} (hs : l.length ≤ 100000) : F28.P (peers l) v = some (.sl 0 2 (peers (restP v l))) := lim_eq (F28.loop hs l [] [] rfl (Nat.le_refl _))
end Go.Proofs.Ytdiokakekedaaaa.Ab
