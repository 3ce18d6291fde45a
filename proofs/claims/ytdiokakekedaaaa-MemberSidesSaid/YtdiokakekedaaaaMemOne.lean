/- Member: what its functions compute. -/
import Derived.Test.YtdiokakekedaaaaTrP
import Derived.Test.YtdiokakekedaaaaAbPs
namespace Go.Proofs.Ytdiokakekedaaaa.Ab
open Go
set_option linter.unusedSimpArgs false

theorem lenI_ints {l : List Int} : lenI (ints l) = (l.length : Int) := lenI_map
theorem ints_at {l pre post : List Int} {x : Int} (h : l = pre ++ x :: post) : ro (ints l) (pre.length : Int).toNat = [.int .i64 x] := ro_at h
theorem ints_snoc {l : List Int} {x : Int} : ints l ++ [[.int .i64 x]] = ints (l ++ [x]) := by simp [ints]
theorem clone_any {β : Type} {xs : List (List AV)} {k : Bool → Option β} {r : β} (ht : xs = [] → k true = some r) (hf : k false = some r) : anyB xs k = some r := by
  cases xs with
  | nil => rw [anyB_nil (by rw [ht rfl, hf]), ht rfl]
  | cons x xs => exact hf

/-! Numbers -/
theorem F37.loop {zs : List Int} {v : Int} (hs : zs.length ≤ 100000) : ∀ (post pre : List Int), zs = pre ++ post → Ev (fun n => F37.PL (ints zs) v n (.l0 pre.length)) (.int .i64 (idx (fun z => decide (v = z)) post pre.length))
  | [], pre, h => by
    have hl := len_end h
    refine Ev.succ ?_
    simp only [F37.PL, lenI_ints]
    (simp (disch := first | omega | rfl) only [tt_lt, tt_le, tt_eq, tt_eqS, tt_nblt, tt_nble, ff_lt, ff_le, ff_eq, ff_eqS, tt_not, ff_not, tt_dec, ff_dec, tt_true, tt_false, ff_true, ff_false, tt_room, tt_roomN, isInt_i, isBool_b, isStr_s, isSl_s, isSl_n, isOwn_s, isOwn_1, slXs_n, isTup_t, isAgg_a, Bool.true_and, tt_beq, tupVs_t, aggCs_a, headD_c, tail_c, ce_0, ce_s, ↓bind_s, ite_t, ite_f, toInt_int, toBool_bool, toStr_str, slXs_sl, Nat.add_zero, Nat.zero_add, List.length_cons, List.length_nil, addW_eq, subW_eq, if_pos, if_neg])
    exact Ev.const
  | z :: post, pre, h => by
    have hl := len_mid h
    refine Ev.succ ?_
    simp only [F37.PL, lenI_ints, ints_at h]
    (simp (disch := first | omega | rfl) only [tt_lt, tt_le, tt_eq, tt_eqS, tt_nblt, tt_nble, ff_lt, ff_le, ff_eq, ff_eqS, tt_not, ff_not, tt_dec, ff_dec, tt_true, tt_false, ff_true, ff_false, tt_room, tt_roomN, isInt_i, isBool_b, isStr_s, isSl_s, isSl_n, isOwn_s, isOwn_1, slXs_n, isTup_t, isAgg_a, Bool.true_and, tt_beq, tupVs_t, aggCs_a, headD_c, tail_c, ce_0, ce_s, ↓bind_s, ite_t, ite_f, toInt_int, toBool_bool, toStr_str, slXs_sl, Nat.add_zero, Nat.zero_add, List.length_cons, List.length_nil, addW_eq, subW_eq, if_pos, if_neg])
    by_cases e : v = z
    · simp only [if_pos e, idx, decide_eq_true e, if_true]
      exact Ev.const
    · simp only [if_neg e, idx, decide_eq_false e, Bool.false_eq_true, if_false]
      have := F37.loop (v := v) hs post (pre ++ [z]) (by rw [h]; simp)
      simpa using this
theorem F37.eq {zs : List Int} {v : Int} (hs : zs.length ≤ 100000) : F37.P (ints zs) v = some (.int .i64 (idx (fun z => decide (v = z)) zs 0)) := lim_eq (F37.loop hs zs [] rfl)
theorem F27.eq {zs : List Int} {v : Int} (hs : zs.length ≤ 100000) : F27.P (ints zs) v = some (.bool (zs.any fun z => decide (v = z))) := by
  simp only [F27.P, F37.eq hs]
  (simp (disch := first | omega | rfl) only [tt_lt, tt_le, tt_eq, tt_eqS, tt_nblt, tt_nble, ff_lt, ff_le, ff_eq, ff_eqS, tt_not, ff_not, tt_dec, ff_dec, tt_true, tt_false, ff_true, ff_false, tt_room, tt_roomN, isInt_i, isBool_b, isStr_s, isSl_s, isSl_n, isOwn_s, isOwn_1, slXs_n, isTup_t, isAgg_a, Bool.true_and, tt_beq, tupVs_t, aggCs_a, headD_c, tail_c, ce_0, ce_s, ↓bind_s, ite_t, ite_f, toInt_int, toBool_bool, toStr_str, slXs_sl, Nat.add_zero, Nat.zero_add, List.length_cons, List.length_nil, addW_eq, subW_eq, if_pos, if_neg])
  have := idx_any (fun z => decide (v = z)) zs 0
  rw [show leI 0 (idx (fun z => decide (v = z)) zs 0) = zs.any fun z => decide (v = z) by rw [Bool.eq_iff_iff, tt_le]; exact Iff.of_eq this]
theorem F36.eq {zs : List Int} (hs : zs.length ≤ 100000) : F36.P (ints zs) = some (.sl 1 1 (ints zs)) := by
  refine clone_any (fun e => ?_) ?_
  · rw [e]; (simp (disch := first | omega | rfl) only [tt_lt, tt_le, tt_eq, tt_eqS, tt_nblt, tt_nble, ff_lt, ff_le, ff_eq, ff_eqS, tt_not, ff_not, tt_dec, ff_dec, tt_true, tt_false, ff_true, ff_false, tt_room, tt_roomN, isInt_i, isBool_b, isStr_s, isSl_s, isSl_n, isOwn_s, isOwn_1, slXs_n, isTup_t, isAgg_a, Bool.true_and, tt_beq, tupVs_t, aggCs_a, headD_c, tail_c, ce_0, ce_s, ↓bind_s, ite_t, ite_f, toInt_int, toBool_bool, toStr_str, slXs_sl, Nat.add_zero, Nat.zero_add, List.length_cons, List.length_nil, addW_eq, subW_eq, if_pos, if_neg])
  · have := length_ints (l := zs)
    (simp (disch := first | omega | rfl) only [tt_lt, tt_le, tt_eq, tt_eqS, tt_nblt, tt_nble, ff_lt, ff_le, ff_eq, ff_eqS, tt_not, ff_not, tt_dec, ff_dec, tt_true, tt_false, ff_true, ff_false, tt_room, tt_roomN, isInt_i, isBool_b, isStr_s, isSl_s, isSl_n, isOwn_s, isOwn_1, slXs_n, isTup_t, isAgg_a, Bool.true_and, tt_beq, tupVs_t, aggCs_a, headD_c, tail_c, ce_0, ce_s, ↓bind_s, ite_t, ite_f, toInt_int, toBool_bool, toStr_str, slXs_sl, Nat.add_zero, Nat.zero_add, List.length_cons, List.length_nil, addW_eq, subW_eq, if_pos, if_neg])
theorem F35.eq {zs : List Int} (hs : zs.length ≤ 100000) : F35.P (ints zs) = some (.sl 0 1 (ints (comp (sorted zs)))) := by
  have := sorted_len zs
  simp only [F35.P, F36.eq hs]
  (simp (disch := first | omega | rfl) only [tt_lt, tt_le, tt_eq, tt_eqS, tt_nblt, tt_nble, ff_lt, ff_le, ff_eq, ff_eqS, tt_not, ff_not, tt_dec, ff_dec, tt_true, tt_false, ff_true, ff_false, tt_room, tt_roomN, isInt_i, isBool_b, isStr_s, isSl_s, isSl_n, isOwn_s, isOwn_1, slXs_n, isTup_t, isAgg_a, Bool.true_and, tt_beq, tupVs_t, aggCs_a, headD_c, tail_c, ce_0, ce_s, ↓bind_s, ite_t, ite_f, toInt_int, toBool_bool, toStr_str, slXs_sl, Nat.add_zero, Nat.zero_add, List.length_cons, List.length_nil, addW_eq, subW_eq, if_pos, if_neg])
  rw [SortP.of hs]
  (simp (disch := first | omega | rfl) only [tt_lt, tt_le, tt_eq, tt_eqS, tt_nblt, tt_nble, ff_lt, ff_le, ff_eq, ff_eqS, tt_not, ff_not, tt_dec, ff_dec, tt_true, tt_false, ff_true, ff_false, tt_room, tt_roomN, isInt_i, isBool_b, isStr_s, isSl_s, isSl_n, isOwn_s, isOwn_1, slXs_n, isTup_t, isAgg_a, Bool.true_and, tt_beq, tupVs_t, aggCs_a, headD_c, tail_c, ce_0, ce_s, ↓bind_s, ite_t, ite_f, toInt_int, toBool_bool, toStr_str, slXs_sl, Nat.add_zero, Nat.zero_add, List.length_cons, List.length_nil, addW_eq, subW_eq, if_pos, if_neg])
  rw [CompP.of (by omega)]
  (simp (disch := first | omega | rfl) only [tt_lt, tt_le, tt_eq, tt_eqS, tt_nblt, tt_nble, ff_lt, ff_le, ff_eq, ff_eqS, tt_not, ff_not, tt_dec, ff_dec, tt_true, tt_false, ff_true, ff_false, tt_room, tt_roomN, isInt_i, isBool_b, isStr_s, isSl_s, isSl_n, isOwn_s, isOwn_1, slXs_n, isTup_t, isAgg_a, Bool.true_and, tt_beq, tupVs_t, aggCs_a, headD_c, tail_c, ce_0, ce_s, ↓bind_s, ite_t, ite_f, toInt_int, toBool_bool, toStr_str, slXs_sl, Nat.add_zero, Nat.zero_add, List.length_cons, List.length_nil, addW_eq, subW_eq, if_pos, if_neg])

/-! Peers -/
structure Pr where
  node : Int
  seen : Int
  deriving DecidableEq
def Pr.enc (p : Pr) : List AV := [.int .i64 p.node, .int .i64 p.seen]
def peers (l : List Pr) : List (List AV) := l.map Pr.enc
theorem lenI_peers {l : List Pr} : lenI (peers l) = (l.length : Int) := lenI_map
theorem peers_at {l pre post : List Pr} {x : Pr} (h : l = pre ++ x :: post) : ro (peers l) (pre.length : Int).toNat = [.int .i64 x.node, .int .i64 x.seen] := ro_at h

/-- Alive: the nodes, in the list's order. -/
def isAlive (now within : Int) (p : Pr) : Bool := decide (0 ≤ within) && (decide (now ≤ p.seen) || decide (subW .u64 (IntKind.u64.wrap now) (IntKind.u64.wrap p.seen) ≤ IntKind.u64.wrap within))
def aliveL (now within : Int) (l : List Pr) : List Int := (l.filter (isAlive now within)).map (·.node)
theorem aliveL_len (now within : Int) (l : List Pr) : (aliveL now within l).length ≤ l.length := by
  unfold aliveL
  rw [List.length_map]
  exact List.length_filter_le _ _
theorem F14.loop {l : List Pr} {now within : Int} (hs : l.length ≤ 100000) : ∀ (post pre : List Pr) (out : List Int), l = pre ++ post → out.length ≤ pre.length → Ev (fun n => F14.PL (peers l) now within n (.l0 (ints out) pre.length)) (.sl 0 1 (ints (comp (sorted (out ++ aliveL now within post)))))
  | [], pre, out, h, ho => by
    have hl := len_end h
    refine Ev.succ ?_
    simp only [F14.PL, lenI_peers]
    (simp (disch := first | omega | rfl) only [tt_lt, tt_le, tt_eq, tt_eqS, tt_nblt, tt_nble, ff_lt, ff_le, ff_eq, ff_eqS, tt_not, ff_not, tt_dec, ff_dec, tt_true, tt_false, ff_true, ff_false, tt_room, tt_roomN, isInt_i, isBool_b, isStr_s, isSl_s, isSl_n, isOwn_s, isOwn_1, slXs_n, isTup_t, isAgg_a, Bool.true_and, tt_beq, tupVs_t, aggCs_a, headD_c, tail_c, ce_0, ce_s, ↓bind_s, ite_t, ite_f, toInt_int, toBool_bool, toStr_str, slXs_sl, Nat.add_zero, Nat.zero_add, List.length_cons, List.length_nil, addW_eq, subW_eq, if_pos, if_neg])
    rw [UniP.of (by omega)]
    (simp (disch := first | omega | rfl) only [tt_lt, tt_le, tt_eq, tt_eqS, tt_nblt, tt_nble, ff_lt, ff_le, ff_eq, ff_eqS, tt_not, ff_not, tt_dec, ff_dec, tt_true, tt_false, ff_true, ff_false, tt_room, tt_roomN, isInt_i, isBool_b, isStr_s, isSl_s, isSl_n, isOwn_s, isOwn_1, slXs_n, isTup_t, isAgg_a, Bool.true_and, tt_beq, tupVs_t, aggCs_a, headD_c, tail_c, ce_0, ce_s, ↓bind_s, ite_t, ite_f, toInt_int, toBool_bool, toStr_str, slXs_sl, Nat.add_zero, Nat.zero_add, List.length_cons, List.length_nil, addW_eq, subW_eq, if_pos, if_neg])
    simp only [aliveL, List.filter_nil, List.map_nil, List.append_nil]
    exact Ev.const
  | p :: post, pre, out, h, ho => by
    have hl := len_mid h
    have next : ∀ b, b = isAlive now within p → Ev (fun n => F14.PL (peers l) now within n (.lR5 (ints out) pre.length b p.node p.seen)) (.sl 0 1 (ints (comp (sorted (out ++ aliveL now within (p :: post)))))) := by
      rintro b rfl
      refine Ev.succ ?_
      simp only [F14.PL, ints_snoc]
      have := length_ints (l := out)
      cases hb : isAlive now within p
      · (simp (disch := first | omega | rfl) only [tt_lt, tt_le, tt_eq, tt_eqS, tt_nblt, tt_nble, ff_lt, ff_le, ff_eq, ff_eqS, tt_not, ff_not, tt_dec, ff_dec, tt_true, tt_false, ff_true, ff_false, tt_room, tt_roomN, isInt_i, isBool_b, isStr_s, isSl_s, isSl_n, isOwn_s, isOwn_1, slXs_n, isTup_t, isAgg_a, Bool.true_and, tt_beq, tupVs_t, aggCs_a, headD_c, tail_c, ce_0, ce_s, ↓bind_s, ite_t, ite_f, toInt_int, toBool_bool, toStr_str, slXs_sl, Nat.add_zero, Nat.zero_add, List.length_cons, List.length_nil, addW_eq, subW_eq, if_pos, if_neg])
        have := F14.loop (now := now) (within := within) hs post (pre ++ [p]) out (by rw [h]; simp) (by simp; omega)
        simpa [aliveL, hb] using this
      · (simp (disch := first | omega | rfl) only [tt_lt, tt_le, tt_eq, tt_eqS, tt_nblt, tt_nble, ff_lt, ff_le, ff_eq, ff_eqS, tt_not, ff_not, tt_dec, ff_dec, tt_true, tt_false, ff_true, ff_false, tt_room, tt_roomN, isInt_i, isBool_b, isStr_s, isSl_s, isSl_n, isOwn_s, isOwn_1, slXs_n, isTup_t, isAgg_a, Bool.true_and, tt_beq, tupVs_t, aggCs_a, headD_c, tail_c, ce_0, ce_s, ↓bind_s, ite_t, ite_f, toInt_int, toBool_bool, toStr_str, slXs_sl, Nat.add_zero, Nat.zero_add, List.length_cons, List.length_nil, addW_eq, subW_eq, if_pos, if_neg])
        have := F14.loop (now := now) (within := within) hs post (pre ++ [p]) (out ++ [p.node]) (by rw [h]; simp) (by simp; omega)
        simpa [aliveL, hb] using this
    refine Ev.succ ?_
    simp only [F14.PL, lenI_peers, peers_at h]
    (simp (disch := first | omega | rfl) only [tt_lt, tt_le, tt_eq, tt_eqS, tt_nblt, tt_nble, ff_lt, ff_le, ff_eq, ff_eqS, tt_not, ff_not, tt_dec, ff_dec, tt_true, tt_false, ff_true, ff_false, tt_room, tt_roomN, isInt_i, isBool_b, isStr_s, isSl_s, isSl_n, isOwn_s, isOwn_1, slXs_n, isTup_t, isAgg_a, Bool.true_and, tt_beq, tupVs_t, aggCs_a, headD_c, tail_c, ce_0, ce_s, ↓bind_s, ite_t, ite_f, toInt_int, toBool_bool, toStr_str, slXs_sl, Nat.add_zero, Nat.zero_add, List.length_cons, List.length_nil, addW_eq, subW_eq, if_pos, if_neg])
    by_cases e1 : 0 ≤ within
    · by_cases e2 : now ≤ p.seen
      · simp only [if_pos e1, if_pos e2]
        exact next _ (by simp [isAlive, e1, e2])
      · simp only [if_pos e1, if_neg e2]
        exact next _ (by simp [isAlive, e1, e2, leI])
    · simp only [if_neg e1]
      exact next _ (by simp [isAlive, e1])
theorem F14.eq {l : List Pr} {now within : Int} (hs : l.length ≤ 100000) : F14.P (peers l) now within = some (.sl 0 1 (ints (comp (sorted (aliveL now within l))))) := lim_eq (F14.loop hs l [] [] rfl (Nat.le_refl _))
theorem F15.loop {l : List Pr} {now within : Int} (hs : l.length ≤ 100000) : ∀ (post pre : List Pr) (out : List Int), l = pre ++ post → out.length ≤ pre.length → Ev (fun n => F15.PL (peers l) now within n (.l0 (ints out) pre.length)) (.sl 0 1 (ints (comp (sorted (out ++ aliveL now within post)))))
  | [], pre, out, h, ho => by
    have hl := len_end h
    refine Ev.succ ?_
    simp only [F15.PL, lenI_peers]
    (simp (disch := first | omega | rfl) only [tt_lt, tt_le, tt_eq, tt_eqS, tt_nblt, tt_nble, ff_lt, ff_le, ff_eq, ff_eqS, tt_not, ff_not, tt_dec, ff_dec, tt_true, tt_false, ff_true, ff_false, tt_room, tt_roomN, isInt_i, isBool_b, isStr_s, isSl_s, isSl_n, isOwn_s, isOwn_1, slXs_n, isTup_t, isAgg_a, Bool.true_and, tt_beq, tupVs_t, aggCs_a, headD_c, tail_c, ce_0, ce_s, ↓bind_s, ite_t, ite_f, toInt_int, toBool_bool, toStr_str, slXs_sl, Nat.add_zero, Nat.zero_add, List.length_cons, List.length_nil, addW_eq, subW_eq, if_pos, if_neg])
    rw [F35.eq (by omega)]
    (simp (disch := first | omega | rfl) only [tt_lt, tt_le, tt_eq, tt_eqS, tt_nblt, tt_nble, ff_lt, ff_le, ff_eq, ff_eqS, tt_not, ff_not, tt_dec, ff_dec, tt_true, tt_false, ff_true, ff_false, tt_room, tt_roomN, isInt_i, isBool_b, isStr_s, isSl_s, isSl_n, isOwn_s, isOwn_1, slXs_n, isTup_t, isAgg_a, Bool.true_and, tt_beq, tupVs_t, aggCs_a, headD_c, tail_c, ce_0, ce_s, ↓bind_s, ite_t, ite_f, toInt_int, toBool_bool, toStr_str, slXs_sl, Nat.add_zero, Nat.zero_add, List.length_cons, List.length_nil, addW_eq, subW_eq, if_pos, if_neg])
    simp only [aliveL, List.filter_nil, List.map_nil, List.append_nil]
    exact Ev.const
  | p :: post, pre, out, h, ho => by
    have hl := len_mid h
    have next : ∀ b, b = isAlive now within p → Ev (fun n => F15.PL (peers l) now within n (.lR5 (ints out) pre.length b p.node p.seen)) (.sl 0 1 (ints (comp (sorted (out ++ aliveL now within (p :: post)))))) := by
      rintro b rfl
      refine Ev.succ ?_
      simp only [F15.PL, ints_snoc]
      have := length_ints (l := out)
      cases hb : isAlive now within p
      · (simp (disch := first | omega | rfl) only [tt_lt, tt_le, tt_eq, tt_eqS, tt_nblt, tt_nble, ff_lt, ff_le, ff_eq, ff_eqS, tt_not, ff_not, tt_dec, ff_dec, tt_true, tt_false, ff_true, ff_false, tt_room, tt_roomN, isInt_i, isBool_b, isStr_s, isSl_s, isSl_n, isOwn_s, isOwn_1, slXs_n, isTup_t, isAgg_a, Bool.true_and, tt_beq, tupVs_t, aggCs_a, headD_c, tail_c, ce_0, ce_s, ↓bind_s, ite_t, ite_f, toInt_int, toBool_bool, toStr_str, slXs_sl, Nat.add_zero, Nat.zero_add, List.length_cons, List.length_nil, addW_eq, subW_eq, if_pos, if_neg])
        have := F15.loop (now := now) (within := within) hs post (pre ++ [p]) out (by rw [h]; simp) (by simp; omega)
        simpa [aliveL, hb] using this
      · (simp (disch := first | omega | rfl) only [tt_lt, tt_le, tt_eq, tt_eqS, tt_nblt, tt_nble, ff_lt, ff_le, ff_eq, ff_eqS, tt_not, ff_not, tt_dec, ff_dec, tt_true, tt_false, ff_true, ff_false, tt_room, tt_roomN, isInt_i, isBool_b, isStr_s, isSl_s, isSl_n, isOwn_s, isOwn_1, slXs_n, isTup_t, isAgg_a, Bool.true_and, tt_beq, tupVs_t, aggCs_a, headD_c, tail_c, ce_0, ce_s, ↓bind_s, ite_t, ite_f, toInt_int, toBool_bool, toStr_str, slXs_sl, Nat.add_zero, Nat.zero_add, List.length_cons, List.length_nil, addW_eq, subW_eq, if_pos, if_neg])
        have := F15.loop (now := now) (within := within) hs post (pre ++ [p]) (out ++ [p.node]) (by rw [h]; simp) (by simp; omega)
        simpa [aliveL, hb] using this
    refine Ev.succ ?_
    simp only [F15.PL, lenI_peers, peers_at h]
    (simp (disch := first | omega | rfl) only [tt_lt, tt_le, tt_eq, tt_eqS, tt_nblt, tt_nble, ff_lt, ff_le, ff_eq, ff_eqS, tt_not, ff_not, tt_dec, ff_dec, tt_true, tt_false, ff_true, ff_false, tt_room, tt_roomN, isInt_i, isBool_b, isStr_s, isSl_s, isSl_n, isOwn_s, isOwn_1, slXs_n, isTup_t, isAgg_a, Bool.true_and, tt_beq, tupVs_t, aggCs_a, headD_c, tail_c, ce_0, ce_s, ↓bind_s, ite_t, ite_f, toInt_int, toBool_bool, toStr_str, slXs_sl, Nat.add_zero, Nat.zero_add, List.length_cons, List.length_nil, addW_eq, subW_eq, if_pos, if_neg])
    by_cases e1 : 0 ≤ within
    · by_cases e2 : now ≤ p.seen
      · simp only [if_pos e1, if_pos e2]
        exact next _ (by simp [isAlive, e1, e2])
      · simp only [if_pos e1, if_neg e2]
        exact next _ (by simp [isAlive, e1, e2, leI])
    · simp only [if_neg e1]
      exact next _ (by simp [isAlive, e1])
theorem F15.eq {l : List Pr} {now within : Int} (hs : l.length ≤ 100000) : F15.P (peers l) now within = some (.sl 0 1 (ints (comp (sorted (aliveL now within l))))) := lim_eq (F15.loop hs l [] [] rfl (Nat.le_refl _))

/-! Heirs -/
def restL (lost l : List Int) : List Int := l.filter fun z => !(lost.any fun y => decide (z = y))
theorem F17.loop {l lost : List Int} (hs : l.length ≤ 100000) (hs' : lost.length ≤ 100000) : ∀ (post pre out : List Int), l = pre ++ post → out.length ≤ pre.length → Ev (fun n => F17.PL (ints l) (ints lost) n (.l0 (ints out) pre.length)) (.sl 0 1 (ints (comp (sorted (out ++ restL lost post)))))
  | [], pre, out, h, ho => by
    have hl := len_end h
    refine Ev.succ ?_
    simp only [F17.PL, lenI_ints]
    (simp (disch := first | omega | rfl) only [tt_lt, tt_le, tt_eq, tt_eqS, tt_nblt, tt_nble, ff_lt, ff_le, ff_eq, ff_eqS, tt_not, ff_not, tt_dec, ff_dec, tt_true, tt_false, ff_true, ff_false, tt_room, tt_roomN, isInt_i, isBool_b, isStr_s, isSl_s, isSl_n, isOwn_s, isOwn_1, slXs_n, isTup_t, isAgg_a, Bool.true_and, tt_beq, tupVs_t, aggCs_a, headD_c, tail_c, ce_0, ce_s, ↓bind_s, ite_t, ite_f, toInt_int, toBool_bool, toStr_str, slXs_sl, Nat.add_zero, Nat.zero_add, List.length_cons, List.length_nil, addW_eq, subW_eq, if_pos, if_neg])
    rw [UniP.of (by omega)]
    (simp (disch := first | omega | rfl) only [tt_lt, tt_le, tt_eq, tt_eqS, tt_nblt, tt_nble, ff_lt, ff_le, ff_eq, ff_eqS, tt_not, ff_not, tt_dec, ff_dec, tt_true, tt_false, ff_true, ff_false, tt_room, tt_roomN, isInt_i, isBool_b, isStr_s, isSl_s, isSl_n, isOwn_s, isOwn_1, slXs_n, isTup_t, isAgg_a, Bool.true_and, tt_beq, tupVs_t, aggCs_a, headD_c, tail_c, ce_0, ce_s, ↓bind_s, ite_t, ite_f, toInt_int, toBool_bool, toStr_str, slXs_sl, Nat.add_zero, Nat.zero_add, List.length_cons, List.length_nil, addW_eq, subW_eq, if_pos, if_neg])
    simp only [restL, List.filter_nil, List.append_nil]
    exact Ev.const
  | z :: post, pre, out, h, ho => by
    have hl := len_mid h
    have hi := length_ints (l := out)
    refine Ev.succ ?_
    simp only [F17.PL, lenI_ints, ints_at h]
    (simp (disch := first | omega | rfl) only [tt_lt, tt_le, tt_eq, tt_eqS, tt_nblt, tt_nble, ff_lt, ff_le, ff_eq, ff_eqS, tt_not, ff_not, tt_dec, ff_dec, tt_true, tt_false, ff_true, ff_false, tt_room, tt_roomN, isInt_i, isBool_b, isStr_s, isSl_s, isSl_n, isOwn_s, isOwn_1, slXs_n, isTup_t, isAgg_a, Bool.true_and, tt_beq, tupVs_t, aggCs_a, headD_c, tail_c, ce_0, ce_s, ↓bind_s, ite_t, ite_f, toInt_int, toBool_bool, toStr_str, slXs_sl, Nat.add_zero, Nat.zero_add, List.length_cons, List.length_nil, addW_eq, subW_eq, if_pos, if_neg])
    rw [F27.eq hs']
    (simp (disch := first | omega | rfl) only [tt_lt, tt_le, tt_eq, tt_eqS, tt_nblt, tt_nble, ff_lt, ff_le, ff_eq, ff_eqS, tt_not, ff_not, tt_dec, ff_dec, tt_true, tt_false, ff_true, ff_false, tt_room, tt_roomN, isInt_i, isBool_b, isStr_s, isSl_s, isSl_n, isOwn_s, isOwn_1, slXs_n, isTup_t, isAgg_a, Bool.true_and, tt_beq, tupVs_t, aggCs_a, headD_c, tail_c, ce_0, ce_s, ↓bind_s, ite_t, ite_f, toInt_int, toBool_bool, toStr_str, slXs_sl, Nat.add_zero, Nat.zero_add, List.length_cons, List.length_nil, addW_eq, subW_eq, if_pos, if_neg])
    cases hb : lost.any fun y => decide (z = y)
    · (simp (disch := first | omega | rfl) only [tt_lt, tt_le, tt_eq, tt_eqS, tt_nblt, tt_nble, ff_lt, ff_le, ff_eq, ff_eqS, tt_not, ff_not, tt_dec, ff_dec, tt_true, tt_false, ff_true, ff_false, tt_room, tt_roomN, isInt_i, isBool_b, isStr_s, isSl_s, isSl_n, isOwn_s, isOwn_1, slXs_n, isTup_t, isAgg_a, Bool.true_and, tt_beq, tupVs_t, aggCs_a, headD_c, tail_c, ce_0, ce_s, ↓bind_s, ite_t, ite_f, toInt_int, toBool_bool, toStr_str, slXs_sl, Nat.add_zero, Nat.zero_add, List.length_cons, List.length_nil, addW_eq, subW_eq, if_pos, if_neg])
      rw [ints_snoc]
      have := F17.loop hs hs' post (pre ++ [z]) (out ++ [z]) (by rw [h]; simp) (by simp; omega)
      simpa [restL, hb] using this
    · (simp (disch := first | omega | rfl) only [tt_lt, tt_le, tt_eq, tt_eqS, tt_nblt, tt_nble, ff_lt, ff_le, ff_eq, ff_eqS, tt_not, ff_not, tt_dec, ff_dec, tt_true, tt_false, ff_true, ff_false, tt_room, tt_roomN, isInt_i, isBool_b, isStr_s, isSl_s, isSl_n, isOwn_s, isOwn_1, slXs_n, isTup_t, isAgg_a, Bool.true_and, tt_beq, tupVs_t, aggCs_a, headD_c, tail_c, ce_0, ce_s, ↓bind_s, ite_t, ite_f, toInt_int, toBool_bool, toStr_str, slXs_sl, Nat.add_zero, Nat.zero_add, List.length_cons, List.length_nil, addW_eq, subW_eq, if_pos, if_neg])
      have := F17.loop hs hs' post (pre ++ [z]) out (by rw [h]; simp) (by simp; omega)
      simpa [restL, hb] using this
theorem F17.eq {l lost : List Int} (hs : l.length ≤ 100000) (hs' : lost.length ≤ 100000) : F17.P (ints l) (ints lost) = some (.sl 0 1 (ints (comp (sorted (restL lost l))))) := lim_eq (F17.loop hs hs' l [] [] rfl (Nat.le_refl _))
theorem F18.loop {l lost : List Int} (hs : l.length ≤ 100000) (hs' : lost.length ≤ 100000) {a : List (List AV)} : ∀ (post pre out : List Int), l = pre ++ post → out.length ≤ pre.length → Ev (fun n => F18.PL a (ints lost) n (.l0 (ints out) (ints l) (l.length : Int) pre.length)) (.sl 0 1 (ints (out ++ restL lost post)))
  | [], pre, out, h, ho => by
    have hl := len_end h
    refine Ev.succ ?_
    simp only [F18.PL, lenI_ints]
    (simp (disch := first | omega | rfl) only [tt_lt, tt_le, tt_eq, tt_eqS, tt_nblt, tt_nble, ff_lt, ff_le, ff_eq, ff_eqS, tt_not, ff_not, tt_dec, ff_dec, tt_true, tt_false, ff_true, ff_false, tt_room, tt_roomN, isInt_i, isBool_b, isStr_s, isSl_s, isSl_n, isOwn_s, isOwn_1, slXs_n, isTup_t, isAgg_a, Bool.true_and, tt_beq, tupVs_t, aggCs_a, headD_c, tail_c, ce_0, ce_s, ↓bind_s, ite_t, ite_f, toInt_int, toBool_bool, toStr_str, slXs_sl, Nat.add_zero, Nat.zero_add, List.length_cons, List.length_nil, addW_eq, subW_eq, if_pos, if_neg])
    simp only [restL, List.filter_nil, List.append_nil]
    exact Ev.const
  | z :: post, pre, out, h, ho => by
    have hl := len_mid h
    have hi := length_ints (l := out)
    refine Ev.succ ?_
    simp only [F18.PL, lenI_ints, ints_at h]
    (simp (disch := first | omega | rfl) only [tt_lt, tt_le, tt_eq, tt_eqS, tt_nblt, tt_nble, ff_lt, ff_le, ff_eq, ff_eqS, tt_not, ff_not, tt_dec, ff_dec, tt_true, tt_false, ff_true, ff_false, tt_room, tt_roomN, isInt_i, isBool_b, isStr_s, isSl_s, isSl_n, isOwn_s, isOwn_1, slXs_n, isTup_t, isAgg_a, Bool.true_and, tt_beq, tupVs_t, aggCs_a, headD_c, tail_c, ce_0, ce_s, ↓bind_s, ite_t, ite_f, toInt_int, toBool_bool, toStr_str, slXs_sl, Nat.add_zero, Nat.zero_add, List.length_cons, List.length_nil, addW_eq, subW_eq, if_pos, if_neg])
    rw [F27.eq hs']
    (simp (disch := first | omega | rfl) only [tt_lt, tt_le, tt_eq, tt_eqS, tt_nblt, tt_nble, ff_lt, ff_le, ff_eq, ff_eqS, tt_not, ff_not, tt_dec, ff_dec, tt_true, tt_false, ff_true, ff_false, tt_room, tt_roomN, isInt_i, isBool_b, isStr_s, isSl_s, isSl_n, isOwn_s, isOwn_1, slXs_n, isTup_t, isAgg_a, Bool.true_and, tt_beq, tupVs_t, aggCs_a, headD_c, tail_c, ce_0, ce_s, ↓bind_s, ite_t, ite_f, toInt_int, toBool_bool, toStr_str, slXs_sl, Nat.add_zero, Nat.zero_add, List.length_cons, List.length_nil, addW_eq, subW_eq, if_pos, if_neg])
    cases hb : lost.any fun y => decide (z = y)
    · (simp (disch := first | omega | rfl) only [tt_lt, tt_le, tt_eq, tt_eqS, tt_nblt, tt_nble, ff_lt, ff_le, ff_eq, ff_eqS, tt_not, ff_not, tt_dec, ff_dec, tt_true, tt_false, ff_true, ff_false, tt_room, tt_roomN, isInt_i, isBool_b, isStr_s, isSl_s, isSl_n, isOwn_s, isOwn_1, slXs_n, isTup_t, isAgg_a, Bool.true_and, tt_beq, tupVs_t, aggCs_a, headD_c, tail_c, ce_0, ce_s, ↓bind_s, ite_t, ite_f, toInt_int, toBool_bool, toStr_str, slXs_sl, Nat.add_zero, Nat.zero_add, List.length_cons, List.length_nil, addW_eq, subW_eq, if_pos, if_neg])
      rw [ints_snoc]
      have := F18.loop (a := a) hs hs' post (pre ++ [z]) (out ++ [z]) (by rw [h]; simp) (by simp; omega)
      simpa [restL, hb] using this
    · (simp (disch := first | omega | rfl) only [tt_lt, tt_le, tt_eq, tt_eqS, tt_nblt, tt_nble, ff_lt, ff_le, ff_eq, ff_eqS, tt_not, ff_not, tt_dec, ff_dec, tt_true, tt_false, ff_true, ff_false, tt_room, tt_roomN, isInt_i, isBool_b, isStr_s, isSl_s, isSl_n, isOwn_s, isOwn_1, slXs_n, isTup_t, isAgg_a, Bool.true_and, tt_beq, tupVs_t, aggCs_a, headD_c, tail_c, ce_0, ce_s, ↓bind_s, ite_t, ite_f, toInt_int, toBool_bool, toStr_str, slXs_sl, Nat.add_zero, Nat.zero_add, List.length_cons, List.length_nil, addW_eq, subW_eq, if_pos, if_neg])
      have := F18.loop (a := a) hs hs' post (pre ++ [z]) out (by rw [h]; simp) (by simp; omega)
      simpa [restL, hb] using this
theorem F18.eq {l lost : List Int} (hs : l.length ≤ 100000) (hs' : lost.length ≤ 100000) : F18.P (ints l) (ints lost) = some (.sl 0 1 (ints (restL lost (comp (sorted l))))) := by
  unfold F18.P
  refine lim_eq ?_
  have h1 := comp_len (sorted l)
  have h2 := sorted_len l
  simp only [F35.eq hs]
  (simp (disch := first | omega | rfl) only [tt_lt, tt_le, tt_eq, tt_eqS, tt_nblt, tt_nble, ff_lt, ff_le, ff_eq, ff_eqS, tt_not, ff_not, tt_dec, ff_dec, tt_true, tt_false, ff_true, ff_false, tt_room, tt_roomN, isInt_i, isBool_b, isStr_s, isSl_s, isSl_n, isOwn_s, isOwn_1, slXs_n, isTup_t, isAgg_a, Bool.true_and, tt_beq, tupVs_t, aggCs_a, headD_c, tail_c, ce_0, ce_s, ↓bind_s, ite_t, ite_f, toInt_int, toBool_bool, toStr_str, slXs_sl, Nat.add_zero, Nat.zero_add, List.length_cons, List.length_nil, addW_eq, subW_eq, if_pos, if_neg])
  rw [lenI_ints]
  exact F18.loop (by omega) hs' _ [] [] rfl (Nat.le_refl _)
end Go.Proofs.Ytdiokakekedaaaa.Ab
