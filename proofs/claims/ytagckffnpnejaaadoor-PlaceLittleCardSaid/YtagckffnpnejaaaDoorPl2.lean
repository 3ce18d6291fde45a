/- Place: the examples of the chapter; scores, ranks, moves, loads. -/
import Derived.Test.YtagckffnpnejaaaDoorPl1
namespace Go.Proofs.YtagckffnpnejaaaDoor.Ab
open Go
set_option linter.unusedSimpArgs false
set_option maxRecDepth 100000

def qB : ByteArray := ⟨#[113]⟩
theorem dec3 : Lib.itoa 3 = [51] := by simp [Lib.itoa, Lib.decDigits]
theorem ex_rk : (rk qB [2, 9, 2, -1, 0] = [2, 0] ∧ scoreV qB 0 < scoreV qB 2) ∨ (rk qB [2, 9, 2, -1, 0] = [0, 2] ∧ ¬ scoreV qB 0 < scoreV qB 2) := by
  have hs : sel [2, 9, 2, -1, 0] = [0, 2] := by decide +kernel
  unfold rk
  rw [hs]
  by_cases h : scoreV qB 0 < scoreV qB 2
  · left; simp [isort, insR, h]
  · right; simp [isort, insR, h]
theorem ex_load : loads [⟨⟨#[]⟩, [0, 1]⟩, ⟨⟨#[]⟩, [1, 2]⟩] [2, 1, 7, 1] = [1, 2, 0, 2] := by decide +kernel
theorem F8.tail {a b : Int} {n : ByteArray} {l : List (List AV)} (hab : (a = 2 ∧ b = 0 ∧ scoreV qB 0 < scoreV qB 2) ∨ (a = 0 ∧ b = 2 ∧ ¬ scoreV qB 0 < scoreV qB 2)) (m : Nat) : F8.PL (m + 1) (.lR4 (ints [a, b]) false n l) = some (.bool true) := by
  have q : qB.size = 1 := rfl
  have s0 := F9.eq (name := qB) (n := 0) (by omega) ⟨by omega, by omega⟩
  have s2 := F9.eq (name := qB) (n := 2) (by omega) ⟨by omega, by omega⟩
  have s3 := F9.eq (name := qB) (n := 3) (by omega) ⟨by omega, by omega⟩
  have h29 : F29.P [[.int .u8 113], [.int .u8 47], [.int .u8 51]] = some (.int .i64 (scoreV qB 3 : Int)) := by
    have := F29.eq (l := [113, 47, 51]) (by simp)
    unfold scoreV
    rw [dec3]
    exact this
  rw [F8.PL, if_neg Bool.false_ne_true]
  refine allB_of ?_ (allB_of ?_ ?_)
  all_goals
   refine bind_of s3 ((if_pos (isInt_int _ _)).trans (bind_of h29 ((if_pos (isInt_int _ _)).trans ((if_pos (by simp [eqI, AV.toInt])).trans ((if_pos rfl).trans ((if_pos rfl).trans (bind_of s0 ((if_pos (isInt_int _ _)).trans (bind_of s2 ((if_pos (isInt_int _ _)).trans ?_))))))))))
   congr 2
   rw [show ce (ro (ints [a, b]) 0) 0 = .int .i64 a from rfl]
   simp only [toInt_int, eqI, leI]
   rcases hab with ⟨rfl, rfl, h⟩ | ⟨rfl, rfl, h⟩
   · have : ¬ (scoreV qB 2 : Int) ≤ (scoreV qB 0 : Int) := by omega
     simp [this]
   · have : (scoreV qB 2 : Int) ≤ (scoreV qB 0 : Int) := by omega
     simp [this]
theorem F8.eq : F8.P = some (.bool true) := by
  have q : qB.size = 1 := rfl
  have e1 := F19.eq (name := qB) (nodes := [2, 9, 2, -1, 0]) (by omega) (by simp)
  have e2 := F18.eq (name := qB) (nodes := [2, 9, 2, -1, 0]) (n := 5) (by omega) (by simp)
  have e3 := F12.eq (l := [⟨⟨#[]⟩, [0, 1]⟩, ⟨⟨#[]⟩, [1, 2]⟩]) (nodes := [2, 1, 7, 1]) (by simp) (by simp) (by simp)
  rw [ex_load] at e3
  have e6 := F11.eq (a := [1, 2, 0, 2]) (b := [1, 2, 0, 2]) (by simp)
  rw [decide_eq_true rfl] at e6
  have go : ∀ a b : Int, rk qB [2, 9, 2, -1, 0] = [a, b] → (a = 2 ∧ b = 0 ∧ scoreV qB 0 < scoreV qB 2) ∨ (a = 0 ∧ b = 2 ∧ ¬ scoreV qB 0 < scoreV qB 2) → F8.P = some (.bool true) := by
    intro a b hr hab
    have e5 := F18.eq (name := qB) (nodes := [a, b]) (n := -1) (by omega) (by simp)
    have e4 := F11.eq (a := [a, b]) (b := [a, b]) (by simp)
    rw [decide_eq_true rfl] at e4
    simp only [pl, hr] at e1 e2
    simp only [pl] at e5
    have hne : a + b = 2 ∧ a ≠ b ∧ (0 ≤ a ∧ a ≤ 2) ∧ 0 ≤ b ∧ b ≤ 2 := by rcases hab with ⟨rfl, rfl, _⟩ | ⟨rfl, rfl, _⟩ <;> decide
    obtain ⟨h1, h2, h3, h4⟩ := hne
    have hsum : (!(eqI (addW .i64 a b) 2)) = false := by rw [addW_eq (by omega) (by omega), h1]; rfl
    have hdif : eqI a b = false := by simp [eqI, h2]
    refine lim_eq ⟨1, fun n hn => ?_⟩
    obtain ⟨m, rfl⟩ : ∃ m, n = m + 1 := ⟨n - 1, by omega⟩
    refine bind_of e1 ((if_pos rfl).trans ?_)
    refine bind_of e2 ((if_pos rfl).trans ((if_pos rfl).trans ((if_pos rfl).trans ?_)))
    refine bind_of e3 ((if_pos rfl).trans ((if_neg Bool.false_ne_true).trans ?_))
    refine (if_pos rfl).trans ((if_pos rfl).trans ((if_pos rfl).trans ((if_pos rfl).trans ?_)))
    refine (if_neg (fun h => Bool.false_ne_true (hsum.symm.trans h))).trans ?_
    refine (if_pos rfl).trans ((if_pos rfl).trans ((if_pos rfl).trans ((if_pos rfl).trans ?_)))
    refine (if_neg (fun h => Bool.false_ne_true (hdif.symm.trans h))).trans ?_
    have hname : (!(eqS qB qB)) = false := by simp [eqS]
    refine (if_neg (fun h => Bool.false_ne_true (hname.symm.trans h))).trans ?_
    refine bind_of e4 ((if_pos rfl).trans ((if_neg Bool.false_ne_true).trans ?_))
    refine bind_of e5 ((if_pos rfl).trans ((if_pos rfl).trans ((if_pos rfl).trans ((if_neg Bool.false_ne_true).trans ?_))))
    refine bind_of e6 ((if_pos rfl).trans ?_)
    exact F8.tail hab m
  rcases ex_rk with ⟨h, h'⟩ | ⟨h, h'⟩
  · exact go 2 0 h (.inl ⟨rfl, rfl, h'⟩)
  · exact go 0 2 h (.inr ⟨rfl, rfl, h'⟩)
theorem F8.fin : (F8.P.bind fun v => if v.isBool then some (AV.bool v.toBool) else none) = some (AV.bool true) := bind_of F8.eq rfl

/-! few -/
def grps (l : List (List Int)) : List (List AV) := l.map fun z => [.sl 0 1 (ints z)]
def fewB (names : List ByteArray) (ls : List (List Int)) : Bool := (names.all fun s => decide (s.size ≤ 200)) && ((ls.all fun l => decide (l.length ≤ 60)) && decide (names.length ≤ 40))
theorem F14.l1 {names : List ByteArray} {ls : List (List Int)} (hs : ls.length ≤ 1000) : ∀ (post pre : List (List Int)), ls = pre ++ post → Ev (fun n => F14.PL (strs names) (grps ls) n (.l1 pre.length)) (.bool ((post.all fun l => decide (l.length ≤ 60)) && decide (names.length ≤ 40)))
  | [], pre, h => by
    have hl := len_end h
    have hg : lenI (grps ls) = (ls.length : Int) := lenI_map
    refine Ev.succ ?_
    simp only [F14.PL, hg, lenI_strs]
    (simp (disch := first | omega | rfl) only [tt_lt, tt_le, tt_eq, tt_eqS, tt_nblt, tt_nble, ff_lt, ff_le, ff_eq, ff_eqS, tt_not, ff_not, tt_dec, ff_dec, tt_true, tt_false, ff_true, ff_false, tt_room, tt_roomN, isInt_i, isBool_b, isStr_s, isSl_s, isSl_n, isOwn_s, isOwn_1, slXs_n, isTup_t, isAgg_a, Bool.true_and, tt_beq, tupVs_t, aggCs_a, headD_c, tail_c, ce_0, ce_s, ↓bind_s, ite_t, ite_f, toInt_int, toBool_bool, toStr_str, slXs_sl, Nat.add_zero, Nat.zero_add, List.length_cons, List.length_nil, addW_eq, subW_eq, if_pos, if_neg])
    refine Ev.of ?_
    simp [leI]
    omega
  | z :: post, pre, h => by
    have hl := len_mid h
    have hg : lenI (grps ls) = (ls.length : Int) := lenI_map
    have hr : ro (grps ls) (pre.length : Int).toNat = [.sl 0 1 (ints z)] := ro_at h
    refine Ev.succ ?_
    simp only [F14.PL, hg, hr, ce_0, slXs_sl, lenI_ints]
    (simp (disch := first | omega | rfl) only [tt_lt, tt_le, tt_eq, tt_eqS, tt_nblt, tt_nble, ff_lt, ff_le, ff_eq, ff_eqS, tt_not, ff_not, tt_dec, ff_dec, tt_true, tt_false, ff_true, ff_false, tt_room, tt_roomN, isInt_i, isBool_b, isStr_s, isSl_s, isSl_n, isOwn_s, isOwn_1, slXs_n, isTup_t, isAgg_a, Bool.true_and, tt_beq, tupVs_t, aggCs_a, headD_c, tail_c, ce_0, ce_s, ↓bind_s, ite_t, ite_f, toInt_int, toBool_bool, toStr_str, slXs_sl, Nat.add_zero, Nat.zero_add, List.length_cons, List.length_nil, addW_eq, subW_eq, if_pos, if_neg])
    by_cases e : z.length ≤ 60
    · have q : ¬ (60 : Int) < (z.length : Int) := by omega
      simp only [q, if_false]
      have := F14.l1 (names := names) hs post (pre ++ [z]) (by rw [h]; simp)
      simpa [e] using this
    · have q : (60 : Int) < (z.length : Int) := by omega
      simp only [q, if_true]
      refine Ev.of ?_
      simp [e]
theorem F14.l0 {names : List ByteArray} {ls : List (List Int)} (hn : names.length ≤ 140737488355328) (hs : ls.length ≤ 1000) : ∀ (post pre : List ByteArray), names = pre ++ post → Ev (fun n => F14.PL (strs names) (grps ls) n (.l0 pre.length)) (.bool ((post.all fun s => decide (s.size ≤ 200)) && ((ls.all fun l => decide (l.length ≤ 60)) && decide (names.length ≤ 40))))
  | [], pre, h => by
    have hl := len_end h
    refine Ev.succ ?_
    simp only [F14.PL, lenI_strs]
    (simp (disch := first | omega | rfl) only [tt_lt, tt_le, tt_eq, tt_eqS, tt_nblt, tt_nble, ff_lt, ff_le, ff_eq, ff_eqS, tt_not, ff_not, tt_dec, ff_dec, tt_true, tt_false, ff_true, ff_false, tt_room, tt_roomN, isInt_i, isBool_b, isStr_s, isSl_s, isSl_n, isOwn_s, isOwn_1, slXs_n, isTup_t, isAgg_a, Bool.true_and, tt_beq, tupVs_t, aggCs_a, headD_c, tail_c, ce_0, ce_s, ↓bind_s, ite_t, ite_f, toInt_int, toBool_bool, toStr_str, slXs_sl, Nat.add_zero, Nat.zero_add, List.length_cons, List.length_nil, addW_eq, subW_eq, if_pos, if_neg])
    simpa using F14.l1 (names := names) hs ls [] rfl
  | z :: post, pre, h => by
    have hl := len_mid h
    refine Ev.succ ?_
    simp only [F14.PL, lenI_strs, strs_at h, ce_0, toStr_str, sizeI]
    (simp (disch := first | omega | rfl) only [tt_lt, tt_le, tt_eq, tt_eqS, tt_nblt, tt_nble, ff_lt, ff_le, ff_eq, ff_eqS, tt_not, ff_not, tt_dec, ff_dec, tt_true, tt_false, ff_true, ff_false, tt_room, tt_roomN, isInt_i, isBool_b, isStr_s, isSl_s, isSl_n, isOwn_s, isOwn_1, slXs_n, isTup_t, isAgg_a, Bool.true_and, tt_beq, tupVs_t, aggCs_a, headD_c, tail_c, ce_0, ce_s, ↓bind_s, ite_t, ite_f, toInt_int, toBool_bool, toStr_str, slXs_sl, Nat.add_zero, Nat.zero_add, List.length_cons, List.length_nil, addW_eq, subW_eq, if_pos, if_neg])
    by_cases e : z.size ≤ 200
    · have q : ¬ (200 : Int) < (z.size : Int) := by omega
      simp only [q, if_false]
      have := F14.l0 hn hs post (pre ++ [z]) (by rw [h]; simp)
      simpa [e] using this
    · have q : (200 : Int) < (z.size : Int) := by omega
      simp only [q, if_true]
      refine Ev.of ?_
      simp [e]
theorem F14.eq {names : List ByteArray} {ls : List (List Int)} (hn : names.length ≤ 140737488355328) (hs : ls.length ≤ 1000) : F14.P (strs names) (grps ls) = some (.bool (fewB names ls)) := lim_eq (F14.l0 hn hs names [] rfl)

/-! P42.1 -/
theorem F3.eq {name : ByteArray} {n : Int} (hn : I64 n) : F3.P name n = some (.bool true) := by
  unfold F3.P
  by_cases e : (200 : Int) < sizeI name
  · rw [if_pos (by rw [tt_lt]; exact e)]
    exact F8.fin
  · rw [if_neg (by rw [tt_lt]; exact e)]
    unfold sizeI at e
    have e1 := F9.eq (name := name) (n := n) (by omega) hn
    have e2 := F10.eq (name := name) (n := n) (by omega) hn
    refine bind_of e1 ((if_pos (isInt_int _ _)).trans (bind_of e2 ((if_pos (isInt_int _ _)).trans ((if_pos (by simp [eqI, AV.toInt])).trans ?_))))
    exact F8.fin

/-! P42.5 -/
theorem F4.loop {l : List Pm} {nodes : List Int} (hl : l.length ≤ 40) (hn : nodes.length ≤ 60) : ∀ (post pre : List Pm), l = pre ++ post → (∀ p ∈ pre, p.nodes.length ≤ 60) → Ev (fun n => F4.PL (pms l) (ints nodes) n (.l0 pre.length)) (.bool true)
  | [], pre, h, hp => by
    have hl' := len_end h
    have hz : ∀ p ∈ l, p.nodes.length ≤ 100000 := fun p hp' => by
      have := hp p (by rw [h] at hp'; simpa using hp')
      omega
    have e1 := F12.eq (l := l) (nodes := nodes) (by omega) hz (by omega)
    have e2 := F13.eq (l := l) (nodes := nodes) (by omega) hz (by omega)
    have e3 := F11.eq (a := loads l nodes) (b := loads l nodes) (by simp [loads]; omega)
    rw [decide_eq_true rfl] at e3
    refine Ev.succ ?_
    simp only [F4.PL, lenI_pms]
    refine Ev.neg (by rw [tt_lt]; omega) (Ev.of' ?_)
    exact bind_of e1 ((if_pos rfl).trans (bind_of e2 ((if_pos rfl).trans (bind_of e3 ((if_pos rfl).trans ((if_pos rfl).trans F8.fin))))))
  | p :: post, pre, h, hp => by
    have hl' := len_mid h
    refine Ev.succ ?_
    simp only [F4.PL, lenI_pms, pms_at h, F8.fin]
    (simp (disch := first | omega | rfl) only [tt_lt, tt_le, tt_eq, tt_eqS, tt_nblt, tt_nble, ff_lt, ff_le, ff_eq, ff_eqS, tt_not, ff_not, tt_dec, ff_dec, tt_true, tt_false, ff_true, ff_false, tt_room, tt_roomN, isInt_i, isBool_b, isStr_s, isSl_s, isSl_n, isOwn_s, isOwn_1, slXs_n, isTup_t, isAgg_a, Bool.true_and, tt_beq, tupVs_t, aggCs_a, headD_c, tail_c, ce_0, ce_s, ↓bind_s, ite_t, ite_f, toInt_int, toBool_bool, toStr_str, slXs_sl, Nat.add_zero, Nat.zero_add, List.length_cons, List.length_nil, addW_eq, subW_eq, if_pos, if_neg])
    rw [lenI_ints]
    by_cases e : p.nodes.length ≤ 60
    · have q : ¬ (60 : Int) < (p.nodes.length : Int) := by omega
      simp only [q, if_false]
      have := F4.loop hl hn post (pre ++ [p]) (by rw [h]; simp) (fun z hz => by
        rcases List.mem_append.1 hz with hz | hz
        · exact hp z hz
        · rw [List.mem_singleton.1 hz]; exact e)
      simpa using this
    · have q : (60 : Int) < (p.nodes.length : Int) := by omega
      simp only [q, if_true]
      exact Ev.const
theorem F4.eq {l : List Pm} {nodes : List Int} : F4.P (pms l) (ints nodes) = some (.bool true) := by
  unfold F4.P
  refine lim_eq ?_
  rw [lenI_pms, lenI_ints]
  by_cases h1 : (40 : Int) < (l.length : Int)
  · refine Ev.pos (by rw [tt_lt]; exact h1) (Ev.of' F8.fin)
  · refine Ev.neg (by rw [tt_lt]; exact h1) ?_
    by_cases h2 : (60 : Int) < (nodes.length : Int)
    · exact Ev.pos (by rw [tt_lt]; exact h2) (Ev.of' F8.fin)
    · exact Ev.neg (by rw [tt_lt]; exact h2) (F4.loop (by omega) (by omega) l [] rfl (by simp))

/-! P42.2, P42.3 -/
theorem few_out {names : List ByteArray} {ls : List (List Int)} (h : fewB names ls = true) : (∀ s ∈ names, s.size ≤ 200) ∧ (∀ l ∈ ls, l.length ≤ 60) ∧ names.length ≤ 40 := by
  simpa [fewB] using h
theorem F6.loop {names : List ByteArray} {nodes : List Int} {m : Int} (hn : ∀ s ∈ names, s.size ≤ 200) (hs : nodes.length ≤ 60) (hl : names.length ≤ 40) : ∀ (post pre : List ByteArray), names = pre ++ post → Ev (fun n => F6.PL (strs names) (ints nodes) m n (.l0 pre.length)) (.bool true)
  | [], pre, h => by
    have hl' := len_end h
    have hn' : ∀ s ∈ names, s.size ≤ 50000 := fun s hs => by have := hn s hs; omega
    have e1 := F21.eq (names := names) (nodes := nodes) (m := m) hn' (by omega) (by omega)
    have e2 := F26.eq (names := names) (nodes := nodes) (m := m) hn' (by omega) (by omega)
    have e3 := F24.eq (l := plan names nodes m) (by simp [plan]; omega) (fun p hp => by
      simp only [plan, List.mem_map] at hp
      obtain ⟨s, _, rfl⟩ := hp
      have := pl_len s nodes m
      omega)
    refine Ev.succ ?_
    simp only [F6.PL, lenI_strs]
    refine Ev.neg (by rw [tt_lt]; omega) (Ev.of' ?_)
    exact bind_of e1 ((if_pos rfl).trans (bind_of e2 ((if_pos rfl).trans (bind_of e3 ((if_pos rfl).trans ((if_pos rfl).trans F8.fin))))))
  | s :: post, pre, h => by
    have hl' := len_mid h
    have hsz : s.size ≤ 50000 := by have := hn s (by rw [h]; simp); omega
    have e1 := F19.eq (name := s) (nodes := nodes) hsz (by omega)
    have e2 := F23.eq (name := s) (nodes := nodes) hsz (by omega)
    have hr := rk_len s nodes
    have h7 := sel_len nodes
    have e3 := F11.eq (a := rk s nodes) (b := rk s nodes) (by omega)
    rw [decide_eq_true rfl] at e3
    have e4 := F18.eq (name := s) (nodes := nodes) (n := m) hsz (by omega)
    have e5 := F25.eq (name := s) (nodes := nodes) (n := m) hsz (by omega)
    have e6 := F24.eq (l := [pl s nodes m]) (by simp) (fun p hp => by rw [List.mem_singleton.1 hp]; have := pl_len s nodes m; omega)
    have ih := F6.loop (m := m) hn hs hl post (pre ++ [s]) (by rw [h]; simp)
    refine Ev.succ ?_
    simp only [F6.PL, lenI_strs, strs_at h]
    refine Ev.pos (by rw [tt_lt]; omega) (Ev.pos (by rw [tt_le]; omega) (Ev.pos (by rw [tt_lt]; omega) (Ev.pos rfl ?_)))
    refine Ev.bind e1 (Ev.pos rfl (Ev.bind e2 (Ev.pos rfl (Ev.bind e3 (Ev.pos rfl (Ev.neg Bool.false_ne_true ?_))))))
    refine Ev.bind e4 (Ev.pos rfl (Ev.pos rfl (Ev.pos rfl (Ev.bind e5 (Ev.pos rfl (Ev.pos rfl (Ev.pos rfl (Ev.bind e6 (Ev.pos rfl (Ev.neg Bool.false_ne_true ?_))))))))))
    rw [addW_eq (by omega) (by omega)]
    simpa using ih
theorem F6.eq {names : List ByteArray} {nodes : List Int} {m : Int} (hn : names.length ≤ 140737488355328) : F6.P (strs names) (ints nodes) m = some (.bool true) := by
  unfold F6.P
  have e0 := F14.eq (names := names) (ls := [nodes]) hn (by simp)
  refine lim_eq (Ev.bind e0 (Ev.pos rfl ?_))
  cases h : fewB names [nodes]
  · exact Ev.pos rfl (Ev.of' F8.fin)
  · obtain ⟨h1, h2, h3⟩ := few_out h
    exact Ev.neg Bool.false_ne_true (F6.loop h1 (h2 nodes (by simp)) h3 names [] rfl)

/-! P42.4 -/
theorem F7.eq {names : List ByteArray} {a b : List Int} {m : Int} (hn : names.length ≤ 140737488355328) : F7.P (strs names) (ints a) (ints b) m = some (.bool true) := by
  unfold F7.P
  have e0 := F14.eq (names := names) (ls := [a, b]) hn (by simp)
  refine bind_of e0 ((if_pos rfl).trans ?_)
  cases h : fewB names [a, b]
  · exact (if_pos rfl).trans F8.fin
  · obtain ⟨h1, h2, h3⟩ := few_out h
    have ha := h2 a (by simp)
    have hb := h2 b (by simp)
    have hn' : ∀ s ∈ names, s.size ≤ 50000 := fun s hs => by have := h1 s hs; omega
    have e1 := F22.eq (names := names) (a := a) (b := b) (m := m) hn' (by omega) (by omega) (by omega)
    have e2 := F28.eq (names := names) (a := a) (b := b) (m := m) hn' (by omega) (by omega) (by omega)
    have hm : (moves names a b m).length ≤ names.length := List.length_filter_le _ _
    have e3 := F27.eq (l := moves names a b m) (by omega)
    exact (if_neg Bool.false_ne_true).trans (bind_of e1 ((if_pos rfl).trans (bind_of e2 ((if_pos rfl).trans (bind_of e3 ((if_pos rfl).trans ((if_pos rfl).trans F8.fin)))))))
end Go.Proofs.YtagckffnpnejaaaDoor.Ab
