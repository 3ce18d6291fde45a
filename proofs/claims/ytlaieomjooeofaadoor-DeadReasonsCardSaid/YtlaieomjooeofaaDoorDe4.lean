/- Dead: which messages are valid; lists compared. -/
import Derived.Test.YtlaieomjooeofaaDoorDe3
namespace Go.Proofs.YtlaieomjooeofaaDoor.Ab
open Go
set_option linter.unusedSimpArgs false

theorem eqS_self (s : ByteArray) : eqS s s = true := by simp [eqS]
theorem F38.eq (a b : Int) : F38.P a b = some (.bool (decide (0 ≤ a) && decide (a ≤ b))) := by
  unfold F38.P
  by_cases h : 0 ≤ a <;> (simp (disch := first | omega | rfl) only [PS, ite_t, ite_f, ↓bind_s, List.length_cons, List.length_nil, addW_eq, subW_eq, if_pos, if_neg]) <;> simp [h, leI]
def prevOk (prev : Option ByteArray) (k : ByteArray) : Bool := match prev with
  | none => true
  | some j => ltS j k
def chkP (prev : Option ByteArray) : List Pp → Int
  | [] => 0
  | p :: r => if keyB p.k then (if 160 < p.v.size then 5 else if prevOk prev p.k then chkP (some p.k) r else 16) else 16
def lastK (pre : List Pp) (prev : Option ByteArray) : Prop := (pre = [] ∧ prev = none) ∨ ∃ pre' x, pre = pre' ++ [x] ∧ prev = some x.k
theorem lastK_snoc (pre : List Pp) (p : Pp) : lastK (pre ++ [p]) (some p.k) := .inr ⟨pre, p, rfl, rfl⟩
theorem F49.loop {l : List Pp} (hs : l.length ≤ 8) : ∀ (post pre : List Pp) (prev : Option ByteArray), l = pre ++ post → lastK pre prev → Ev (fun n => F49.PL (props l) n (.l0 (pre.length : Int))) (.int .i64 (chkP prev post))
  | [], pre, prev, h, hp => by
    have hl := len_end h
    refine Ev.succ ?_
    simp only [F49.PL, lenI_props]
    (simp (disch := first | omega | rfl) only [PS, ite_t, ite_f, ↓bind_s, List.length_cons, List.length_nil, addW_eq, subW_eq, if_pos, if_neg])
    exact Ev.const
  | p :: post, pre, prev, h, hp => by
    have hl := len_mid h
    have ih := F49.loop hs post (pre ++ [p]) (some p.k) (by rw [h]; simp) (lastK_snoc pre p)
    have e1 : (pre.length : Int) + 1 = ((pre ++ [p]).length : Int) := by simp
    have hz : sizeI p.v = (p.v.size : Int) := rfl
    refine Ev.succ ?_
    simp only [F49.PL, lenI_props, props_at h, ce_0, ce_s, toStr_str, F65.eq, hz, chkP]
    cases hk : keyB p.k
    · (simp (disch := first | omega | rfl) only [PS, ite_t, ite_f, ↓bind_s, List.length_cons, List.length_nil, addW_eq, subW_eq, if_pos, if_neg])
      simpa using Ev.const
    · by_cases hv : 160 < p.v.size
      · (simp (disch := first | omega | rfl) only [PS, ite_t, ite_f, ↓bind_s, List.length_cons, List.length_nil, addW_eq, subW_eq, if_pos, if_neg])
        simpa using Ev.const
      · rcases hp with ⟨rfl, rfl⟩ | ⟨pre', x, hx, rfl⟩
        · have e0 : (([] : List Pp).length : Int) = 0 := rfl
          rw [e0]
          rw [List.nil_append] at ih
          have e1' : (([p] : List Pp).length : Int) = 1 := rfl
          rw [e1'] at ih
          (simp (disch := first | omega | rfl) only [PS, ite_t, ite_f, ↓bind_s, List.length_cons, List.length_nil, addW_eq, subW_eq, if_pos, if_neg])
          simp only [prevOk]
          simpa using ih
        · have hpl : pre.length = pre'.length + 1 := by rw [hx]; simp
          have hat : ro (props l) (subW .i64 (pre.length : Int) 1).toNat = [.str x.k, .str x.v] := by
            rw [subW_eq (by omega) (by omega), show ((pre.length : Int) - 1) = (pre'.length : Int) by omega]
            exact props_at (pre := pre') (post := p :: post) (by rw [h, hx]; simp)
          simp only [hat, ce_0, toStr_str, prevOk]
          rcases Bool.eq_false_or_eq_true (ltS x.k p.k) with hlt | hlt
          · simp only [hlt]
            (simp (disch := first | omega | rfl) only [PS, ite_t, ite_f, ↓bind_s, List.length_cons, List.length_nil, addW_eq, subW_eq, if_pos, if_neg])
            rw [e1]
            simpa using ih
          · simp only [hlt]
            (simp (disch := first | omega | rfl) only [PS, ite_t, ite_f, ↓bind_s, List.length_cons, List.length_nil, addW_eq, subW_eq, if_pos, if_neg])
            simpa using Ev.const
theorem F49.eq (l : List Pp) : F49.P (props l) = some (.int .i64 (if 8 < l.length then 5 else chkP none l)) := by
  refine lim_eq ?_
  rw [lenI_props]
  by_cases h : 8 < l.length
  · (simp (disch := first | omega | rfl) only [PS, ite_t, ite_f, ↓bind_s, List.length_cons, List.length_nil, addW_eq, subW_eq, if_pos, if_neg])
    exact Ev.const
  · (simp (disch := first | omega | rfl) only [PS, ite_t, ite_f, ↓bind_s, List.length_cons, List.length_nil, addW_eq, subW_eq, if_pos, if_neg])
    exact F49.loop (by omega) l [] none rfl (.inl ⟨rfl, rfl⟩)
theorem F39.loop {l : List Pp} (hs : l.length ≤ 8) : ∀ (post pre : List Pp) (prev : Option ByteArray), l = pre ++ post → lastK pre prev → Ev (fun n => F39.PL (props l) n (.l0 (pre.length : Int))) (.int .i64 (chkP prev post))
  | [], pre, prev, h, hp => by
    have hl := len_end h
    refine Ev.succ ?_
    simp only [F39.PL, lenI_props]
    (simp (disch := first | omega | rfl) only [PS, ite_t, ite_f, ↓bind_s, List.length_cons, List.length_nil, addW_eq, subW_eq, if_pos, if_neg])
    exact Ev.const
  | p :: post, pre, prev, h, hp => by
    have hl := len_mid h
    have ih := F39.loop hs post (pre ++ [p]) (some p.k) (by rw [h]; simp) (lastK_snoc pre p)
    have e1 : (pre.length : Int) + 1 = ((pre ++ [p]).length : Int) := by simp
    have hz : sizeI p.v = (p.v.size : Int) := rfl
    refine Ev.succ ?_
    simp only [F39.PL, lenI_props, props_at h, ce_0, ce_s, toStr_str, F56.eq, hz, chkP]
    cases hk : keyB p.k
    · (simp (disch := first | omega | rfl) only [PS, ite_t, ite_f, ↓bind_s, List.length_cons, List.length_nil, addW_eq, subW_eq, if_pos, if_neg])
      simpa using Ev.const
    · by_cases hv : 160 < p.v.size
      · (simp (disch := first | omega | rfl) only [PS, ite_t, ite_f, ↓bind_s, List.length_cons, List.length_nil, addW_eq, subW_eq, if_pos, if_neg])
        simpa using Ev.const
      · rcases hp with ⟨rfl, rfl⟩ | ⟨pre', x, hx, rfl⟩
        · have e0 : (([] : List Pp).length : Int) = 0 := rfl
          rw [e0]
          rw [List.nil_append] at ih
          have e1' : (([p] : List Pp).length : Int) = 1 := rfl
          rw [e1'] at ih
          (simp (disch := first | omega | rfl) only [PS, ite_t, ite_f, ↓bind_s, List.length_cons, List.length_nil, addW_eq, subW_eq, if_pos, if_neg])
          simp only [prevOk]
          simpa using ih
        · have hpl : pre.length = pre'.length + 1 := by rw [hx]; simp
          have hat : ro (props l) (subW .i64 (pre.length : Int) 1).toNat = [.str x.k, .str x.v] := by
            rw [subW_eq (by omega) (by omega), show ((pre.length : Int) - 1) = (pre'.length : Int) by omega]
            exact props_at (pre := pre') (post := p :: post) (by rw [h, hx]; simp)
          simp only [hat, ce_0, toStr_str, prevOk]
          rcases Bool.eq_false_or_eq_true (ltS x.k p.k) with hlt | hlt
          · simp only [hlt]
            (simp (disch := first | omega | rfl) only [PS, ite_t, ite_f, ↓bind_s, List.length_cons, List.length_nil, addW_eq, subW_eq, if_pos, if_neg])
            rw [e1]
            simpa using ih
          · simp only [hlt]
            (simp (disch := first | omega | rfl) only [PS, ite_t, ite_f, ↓bind_s, List.length_cons, List.length_nil, addW_eq, subW_eq, if_pos, if_neg])
            simpa using Ev.const
theorem F39.eq (l : List Pp) : F39.P (props l) = some (.int .i64 (if 8 < l.length then 5 else chkP none l)) := by
  refine lim_eq ?_
  rw [lenI_props]
  by_cases h : 8 < l.length
  · (simp (disch := first | omega | rfl) only [PS, ite_t, ite_f, ↓bind_s, List.length_cons, List.length_nil, addW_eq, subW_eq, if_pos, if_neg])
    exact Ev.const
  · (simp (disch := first | omega | rfl) only [PS, ite_t, ite_f, ↓bind_s, List.length_cons, List.length_nil, addW_eq, subW_eq, if_pos, if_neg])
    exact F39.loop (by omega) l [] none rfl (.inl ⟨rfl, rfl⟩)
theorem chkP_ok : ∀ (l : List Pp) (prev : Option ByteArray), (chkP prev l = 0) ↔ Srt l ∧ (∀ p ∈ l, keyB p.k = true ∧ p.v.size ≤ 160) ∧ (∀ k, prev = some k → ∀ p ∈ l, ltS k p.k = true)
  | [], prev => by simp [chkP, Srt]
  | p :: r, prev => by
    simp only [chkP]
    have ih := chkP_ok r (some p.k)
    constructor
    · intro h
      split at h
      · rename_i hk
        split at h
        · cases h
        · rename_i hv
          split at h
          · rename_i hp
            obtain ⟨h1, h2, h3⟩ := ih.1 h
            refine ⟨List.pairwise_cons.2 ⟨h3 _ rfl, h1⟩, fun x hx => ?_, fun k e x hx => ?_⟩
            · rcases List.mem_cons.1 hx with rfl | hx
              · exact ⟨hk, by omega⟩
              · exact h2 x hx
            · subst e
              rcases List.mem_cons.1 hx with rfl | hx
              · exact hp
              · exact lt_tr hp (h3 _ rfl x hx)
          · cases h
      · cases h
    · rintro ⟨h1, h2, h3⟩
      obtain ⟨q1, q2⟩ := List.pairwise_cons.1 h1
      obtain ⟨k1, k2⟩ := h2 p (by simp)
      have hp : prevOk prev p.k = true := by
        cases prev with
        | none => rfl
        | some k => exact h3 k rfl p (by simp)
      rw [if_pos k1, if_neg (by omega), if_pos hp]
      exact ih.2 ⟨q2, fun x hx => h2 x (by simp [hx]), fun k e x hx => by cases e; exact q1 x hx⟩
structure OkP (l : List Pp) : Prop where
  len : l.length ≤ 8
  srt : Srt l
  all : ∀ p ∈ l, keyB p.k = true ∧ p.v.size ≤ 160
theorem okP_iff {l : List Pp} : ((if 8 < l.length then (5 : Int) else chkP none l) = 0) ↔ OkP l := by
  constructor
  · intro h
    split at h
    · cases h
    · obtain ⟨h1, h2, _⟩ := (chkP_ok l none).1 h
      exact ⟨by omega, h1, h2⟩
  · intro h
    rw [if_neg (by have := h.len; omega)]
    exact (chkP_ok l none).2 ⟨h.srt, h.all, nofun⟩
structure OkM (t p : ByteArray) (lv pr ex : Int) (fr : ByteArray) (sq : Int) (l : List Pp) : Prop where
  topic : topicB t = true
  payload : p.size ≤ 256
  lv0 : 0 ≤ lv
  lv1 : lv ≤ 2
  pr0 : 0 ≤ pr
  pr1 : pr ≤ 9
  ex0 : 0 ≤ ex
  ex1 : ex ≤ 1099511627776
  sq0 : 0 ≤ sq
  sq1 : sq ≤ 1099511627776
  name : fr = ⟨#[]⟩ ∨ nameB fr = true
  props : OkP l
section
variable {a0 a1 : ByteArray} {a2 : Int} {a3 : Bool} {a4 a5 : Int} {a6 : ByteArray} {a7 : Int} {l : List Pp}
theorem F35.eq : ∃ e : Int, F35.P a0 a1 a2 a3 a4 a5 a6 a7 (props l) = some (.int .i64 e) ∧ (e = 0 → OkM a0 a1 a2 a4 a5 a6 a7 l) := by
  have hz : sizeI a1 = (a1.size : Int) := rfl
  cases ht : topicB a0
  · exact ⟨12, lim_eq (by simp only [F48.eq, ht]; (simp (disch := first | omega | rfl) only [PS, ite_t, ite_f, ↓bind_s, List.length_cons, List.length_nil, addW_eq, subW_eq, if_pos, if_neg]); exact Ev.const), nofun⟩
  by_cases h1 : a1.size ≤ 256
  case neg => exact ⟨5, lim_eq (by simp only [F48.eq, ht, hz]; (simp (disch := first | omega | rfl) only [PS, ite_t, ite_f, ↓bind_s, List.length_cons, List.length_nil, addW_eq, subW_eq, if_pos, if_neg]); exact Ev.const), nofun⟩
  by_cases h2 : 0 ≤ a2
  case neg => exact ⟨14, lim_eq (by simp only [F48.eq, ht, hz]; (simp (disch := first | omega | rfl) only [PS, ite_t, ite_f, ↓bind_s, List.length_cons, List.length_nil, addW_eq, subW_eq, if_pos, if_neg]); exact Ev.const), nofun⟩
  by_cases h3 : a2 ≤ 2
  case neg => exact ⟨14, lim_eq (by simp only [F48.eq, ht, hz]; (simp (disch := first | omega | rfl) only [PS, ite_t, ite_f, ↓bind_s, List.length_cons, List.length_nil, addW_eq, subW_eq, if_pos, if_neg]); exact Ev.const), nofun⟩
  have bad : Ev (fun n => F35.PL a0 a1 a2 a3 a4 a5 a6 a7 (Ab.props l) n (.lR7 true)) (.int .i64 1) := by
    refine Ev.succ ?_
    simp only [F35.PL]
    (simp (disch := first | omega | rfl) only [PS, ite_t, ite_f, ↓bind_s, List.length_cons, List.length_nil, addW_eq, subW_eq, if_pos, if_neg])
    exact Ev.const
  by_cases h4 : 0 ≤ a4
  case neg => exact ⟨1, lim_eq (by simp only [F48.eq, ht, hz]; (simp (disch := first | omega | rfl) only [PS, ite_t, ite_f, ↓bind_s, List.length_cons, List.length_nil, addW_eq, subW_eq, if_pos, if_neg]); exact bad), nofun⟩
  by_cases h5 : a4 ≤ 9
  case neg => exact ⟨1, lim_eq (by simp only [F48.eq, ht, hz]; (simp (disch := first | omega | rfl) only [PS, ite_t, ite_f, ↓bind_s, List.length_cons, List.length_nil, addW_eq, subW_eq, if_pos, if_neg]); exact bad), nofun⟩
  by_cases h6 : 0 ≤ a5
  case neg => exact ⟨1, lim_eq (by simp only [F48.eq, ht, hz]; (simp (disch := first | omega | rfl) only [PS, ite_t, ite_f, ↓bind_s, List.length_cons, List.length_nil, addW_eq, subW_eq, if_pos, if_neg]); exact bad), nofun⟩
  by_cases h7 : a5 ≤ 1099511627776
  case neg =>
    have e : ltI 1099511627776 a5 = true := by simp [ltI]; omega
    exact ⟨1, lim_eq (by simp only [F48.eq, ht, hz, e]; (simp (disch := first | omega | rfl) only [PS, ite_t, ite_f, ↓bind_s, List.length_cons, List.length_nil, addW_eq, subW_eq, if_pos, if_neg]); exact bad), nofun⟩
  have e : ltI 1099511627776 a5 = false := by simp [ltI]; omega
  have tail : ∃ e : Int, Ev (fun n => F35.PL a0 a1 a2 a3 a4 a5 a6 a7 (Ab.props l) n (.lR7 false)) (.int .i64 e) ∧ (e = 0 → OkM a0 a1 a2 a4 a5 a6 a7 l) := by
    rcases Bool.eq_false_or_eq_true (eqS a6 ⟨#[]⟩) with h8 | h8
    · by_cases h9 : 0 ≤ a7
      case neg => exact ⟨1, by refine Ev.succ ?_; simp only [F35.PL, h8]; (simp (disch := first | omega | rfl) only [PS, ite_t, ite_f, ↓bind_s, List.length_cons, List.length_nil, addW_eq, subW_eq, if_pos, if_neg]); exact Ev.const, nofun⟩
      by_cases h10 : a7 ≤ 1099511627776
      case neg => exact ⟨1, by refine Ev.succ ?_; simp only [F35.PL, h8]; (simp (disch := first | omega | rfl) only [PS, ite_t, ite_f, ↓bind_s, List.length_cons, List.length_nil, addW_eq, subW_eq, if_pos, if_neg]); exact Ev.const, nofun⟩
      refine ⟨_, ?_, fun h => ⟨ht, h1, h2, h3, h4, h5, h6, h7, h9, h10, .inl (by simpa [eqS] using h8), okP_iff.1 h⟩⟩
      refine Ev.succ ?_
      simp only [F35.PL, F49.eq, h8]
      (simp (disch := first | omega | rfl) only [PS, ite_t, ite_f, ↓bind_s, List.length_cons, List.length_nil, addW_eq, subW_eq, if_pos, if_neg])
      exact Ev.const
    · cases hn : nameB a6
      · exact ⟨11, by refine Ev.succ ?_; simp only [F35.PL, F25.eq, hn, h8]; (simp (disch := first | omega | rfl) only [PS, ite_t, ite_f, ↓bind_s, List.length_cons, List.length_nil, addW_eq, subW_eq, if_pos, if_neg]); exact Ev.const, nofun⟩
      by_cases h9 : 0 ≤ a7
      case neg => exact ⟨1, by refine Ev.succ ?_; simp only [F35.PL, F25.eq, hn, h8]; (simp (disch := first | omega | rfl) only [PS, ite_t, ite_f, ↓bind_s, List.length_cons, List.length_nil, addW_eq, subW_eq, if_pos, if_neg]); exact Ev.const, nofun⟩
      by_cases h10 : a7 ≤ 1099511627776
      case neg => exact ⟨1, by refine Ev.succ ?_; simp only [F35.PL, F25.eq, hn, h8]; (simp (disch := first | omega | rfl) only [PS, ite_t, ite_f, ↓bind_s, List.length_cons, List.length_nil, addW_eq, subW_eq, if_pos, if_neg]); exact Ev.const, nofun⟩
      refine ⟨_, ?_, fun h => ⟨ht, h1, h2, h3, h4, h5, h6, h7, h9, h10, .inr hn, okP_iff.1 h⟩⟩
      refine Ev.succ ?_
      simp only [F35.PL, F25.eq, hn, F49.eq, h8]
      (simp (disch := first | omega | rfl) only [PS, ite_t, ite_f, ↓bind_s, List.length_cons, List.length_nil, addW_eq, subW_eq, if_pos, if_neg])
      exact Ev.const
  obtain ⟨e', t1, t2⟩ := tail
  exact ⟨e', lim_eq (by simp only [F48.eq, ht, hz, e]; (simp (disch := first | omega | rfl) only [PS, ite_t, ite_f, ↓bind_s, List.length_cons, List.length_nil, addW_eq, subW_eq, if_pos, if_neg]); exact t1), t2⟩
theorem F20.eq (h : OkM a0 a1 a2 a4 a5 a6 a7 l) : F20.P a0 a1 a2 a3 a4 a5 a6 a7 (props l) = some (.int .i64 0) := by
  unfold F20.P
  obtain ⟨h0, h1, h2, h3, h4, h5, h6, h7, h8, h9, hn, hp⟩ := h
  have hz : sizeI a1 = (a1.size : Int) := rfl
  have e1 : F38.P a2 2 = some (.bool true) := by rw [F38.eq]; simp [h2, h3]
  have e2 : F38.P a4 9 = some (.bool true) := by rw [F38.eq]; simp [h4, h5]
  have e3 : F38.P a5 1099511627776 = some (.bool true) := by rw [F38.eq]; simp [h6, h7]
  have e4 : F38.P a7 1099511627776 = some (.bool true) := by rw [F38.eq]; simp [h8, h9]
  have e5 : F39.P (Ab.props l) = some (.int .i64 0) := by rw [F39.eq, okP_iff.2 hp]
  have e6 : ltI 256 (sizeI a1) = false := by rw [hz, ff_lt]; omega
  simp only [F37.eq, h0, e6, e1, e2, e3, ↓bind_s, isBool_b, if_true, toBool_bool, Bool.not_true, Bool.false_eq_true, if_false]
  rcases hn with rfl | hn
  · rw [eqS_self]
    simp only [e4, e5, ↓bind_s, isBool_b, if_true, toBool_bool, Bool.not_true, Bool.false_eq_true, if_false, isInt_i, toInt_int]
  · cases eqS a6 ⟨#[]⟩ <;> simp only [F32.eq, hn, e4, e5, ↓bind_s, isBool_b, if_true, toBool_bool, Bool.not_true, Bool.not_false, Bool.false_eq_true, if_false, isInt_i, toInt_int]
theorem F18.eq {q : ByteArray} {r : Int} : ∃ b : Bool, F18.P q a0 a1 a2 a3 a4 a5 a6 a7 (props l) r = some (.bool b) ∧ (b = true → nameB q = true ∧ OkM a0 a1 a2 a4 a5 a6 a7 l ∧ 1 ≤ r ∧ r ≤ 4) := by
  unfold F18.P
  rw [F25.eq]
  cases hn : nameB q
  · exact ⟨false, by (simp (disch := first | omega | rfl) only [PS, ite_t, ite_f, ↓bind_s, List.length_cons, List.length_nil, addW_eq, subW_eq, if_pos, if_neg]), nofun⟩
  obtain ⟨e, h1, h2⟩ := F35.eq (a0 := a0) (a1 := a1) (a2 := a2) (a3 := a3) (a4 := a4) (a5 := a5) (a6 := a6) (a7 := a7) (l := l)
  rw [h1]
  by_cases he : e = 0
  case neg => exact ⟨false, by (simp (disch := first | omega | rfl) only [PS, ite_t, ite_f, ↓bind_s, List.length_cons, List.length_nil, addW_eq, subW_eq, if_pos, if_neg]), nofun⟩
  by_cases hr : 1 ≤ r
  case neg => exact ⟨false, by (simp (disch := first | omega | rfl) only [PS, ite_t, ite_f, ↓bind_s, List.length_cons, List.length_nil, addW_eq, subW_eq, if_pos, if_neg]), nofun⟩
  exact ⟨leI r 4, by (simp (disch := first | omega | rfl) only [PS, ite_t, ite_f, ↓bind_s, List.length_cons, List.length_nil, addW_eq, subW_eq, if_pos, if_neg]), fun h => ⟨rfl, h2 he, hr, by simpa [leI] using h⟩⟩
end

/-! bare -/
theorem F21.loop {l : List Pp} (hs : l.length ≤ 1000) : ∀ (post pre out : List Pp), l = pre ++ post → out.length ≤ pre.length → Ev (fun n => F21.PL (props l) n (.l0 (props out) (pre.length : Int))) (.sl 0 2 (props (out ++ post.filter bareP)))
  | [], pre, out, h, ho => by
    have hl := len_end h
    refine Ev.succ ?_
    simp only [F21.PL, lenI_props]
    (simp (disch := first | omega | rfl) only [PS, ite_t, ite_f, ↓bind_s, List.length_cons, List.length_nil, addW_eq, subW_eq, if_pos, if_neg])
    simpa using Ev.const
  | p :: post, pre, out, h, ho => by
    have hl := len_mid h
    have e1 : (pre.length : Int) + 1 = ((pre ++ [p]).length : Int) := by simp
    have hr : room (props out) [[.str p.k, .str p.v]] 32 = true := room_one (by omega)
    refine Ev.succ ?_
    simp only [F21.PL, lenI_props, props_at h, ce_0, ce_s, toStr_str, hr, props_snoc]
    by_cases h1 : p.k = kDeaths
    · have h1' : eqS p.k (⟨#[100, 101, 97, 116, 104, 115]⟩ : ByteArray) = true := by rw [h1]; exact eqS_self _
      have ih := F21.loop hs post (pre ++ [p]) out (by rw [h]; simp) (by simp; omega)
      rw [← e1] at ih
      rw [h1']
      (simp (disch := first | omega | rfl) only [PS, ite_t, ite_f, ↓bind_s, List.length_cons, List.length_nil, addW_eq, subW_eq, if_pos, if_neg])
      have : bareP p = false := by simp [bareP, h1]
      simpa [this] using ih
    · have h1' : eqS p.k (⟨#[100, 101, 97, 116, 104, 115]⟩ : ByteArray) = false := by
        show eqS p.k kDeaths = false
        simpa [eqS] using h1
      rw [h1']
      by_cases h2 : p.k = kDied
      · have h2' : eqS p.k (⟨#[100, 105, 101, 100]⟩ : ByteArray) = true := by rw [h2]; exact eqS_self _
        have ih := F21.loop hs post (pre ++ [p]) out (by rw [h]; simp) (by simp; omega)
        rw [← e1] at ih
        rw [h2']
        (simp (disch := first | omega | rfl) only [PS, ite_t, ite_f, ↓bind_s, List.length_cons, List.length_nil, addW_eq, subW_eq, if_pos, if_neg])
        have : bareP p = false := by simp [bareP, h2]
        simpa [this] using ih
      · have h2' : eqS p.k (⟨#[100, 105, 101, 100]⟩ : ByteArray) = false := by
          show eqS p.k kDied = false
          simpa [eqS] using h2
        have ih := F21.loop hs post (pre ++ [p]) (out ++ [p]) (by rw [h]; simp) (by simp; omega)
        rw [← e1] at ih
        rw [h2']
        (simp (disch := first | omega | rfl) only [PS, ite_t, ite_f, ↓bind_s, List.length_cons, List.length_nil, addW_eq, subW_eq, if_pos, if_neg])
        have : bareP p = true := by simp [bareP, h1, h2]
        simpa [this] using ih
theorem F21.eq {l : List Pp} (hs : l.length ≤ 1000) : F21.P (props l) = some (.sl 0 2 (props (l.filter bareP))) := by
  have : F21.P (props l) = some (.sl 0 2 (props ([] ++ l.filter bareP))) := lim_eq (F21.loop hs l [] [] rfl (by simp))
  simpa using this
theorem F22.loop {l : List Pp} (hs : l.length ≤ 1000) : ∀ (post pre : List Pp), l = pre ++ post → Ev (fun n => F22.PL (props l) (props l) n (.l0 (pre.length : Int))) (.bool true)
  | [], pre, h => by
    have hl := len_end h
    refine Ev.succ ?_
    simp only [F22.PL, lenI_props]
    (simp (disch := first | omega | rfl) only [PS, ite_t, ite_f, ↓bind_s, List.length_cons, List.length_nil, addW_eq, subW_eq, if_pos, if_neg])
    exact Ev.const
  | p :: post, pre, h => by
    have hl := len_mid h
    have ih := F22.loop hs post (pre ++ [p]) (by rw [h]; simp)
    have e1 : (pre.length : Int) + 1 = ((pre ++ [p]).length : Int) := by simp
    refine Ev.succ ?_
    simp only [F22.PL, lenI_props, props_at h, ce_0, ce_s, toStr_str, eqS_self, Bool.true_and, Bool.not_true]
    (simp (disch := first | omega | rfl) only [PS, ite_t, ite_f, ↓bind_s, List.length_cons, List.length_nil, addW_eq, subW_eq, if_pos, if_neg])
    rw [e1]
    exact ih
theorem F22.eq {l : List Pp} (hs : l.length ≤ 1000) : F22.P (props l) (props l) = some (.bool true) := by
  refine lim_eq ?_
  have e : eqI (lenI (props l)) (lenI (props l)) = true := by simp [eqI]
  rw [e]
  (simp (disch := first | omega | rfl) only [PS, ite_t, ite_f, ↓bind_s, List.length_cons, List.length_nil, addW_eq, subW_eq, if_pos, if_neg])
  exact F22.loop hs l [] rfl
theorem F40.loop {l : List Pp} (hs : l.length ≤ 1000) : ∀ (post pre : List Pp), l = pre ++ post → Ev (fun n => F40.PL (props l) (props l) n (.l0 (pre.length : Int))) (.bool true)
  | [], pre, h => by
    have hl := len_end h
    refine Ev.succ ?_
    simp only [F40.PL, lenI_props]
    (simp (disch := first | omega | rfl) only [PS, ite_t, ite_f, ↓bind_s, List.length_cons, List.length_nil, addW_eq, subW_eq, if_pos, if_neg])
    exact Ev.const
  | p :: post, pre, h => by
    have hl := len_mid h
    have ih := F40.loop hs post (pre ++ [p]) (by rw [h]; simp)
    have e1 : (pre.length : Int) + 1 = ((pre ++ [p]).length : Int) := by simp
    refine Ev.succ ?_
    simp only [F40.PL, lenI_props, props_at h, ce_0, ce_s, toStr_str, eqS_self, Bool.true_and, Bool.not_true]
    (simp (disch := first | omega | rfl) only [PS, ite_t, ite_f, ↓bind_s, List.length_cons, List.length_nil, addW_eq, subW_eq, if_pos, if_neg])
    rw [e1]
    exact ih
theorem F40.eq {l : List Pp} (hs : l.length ≤ 1000) : F40.P (props l) (props l) = some (.bool true) := by
  refine lim_eq ?_
  have e : eqI (lenI (props l)) (lenI (props l)) = true := by simp [eqI]
  rw [e]
  (simp (disch := first | omega | rfl) only [PS, ite_t, ite_f, ↓bind_s, List.length_cons, List.length_nil, addW_eq, subW_eq, if_pos, if_neg])
  exact F40.loop hs l [] rfl
theorem eqI_self (n : Int) : eqI n n = true := by simp [eqI]
theorem F23.eq {a0 a1 : ByteArray} {a2 : Int} {a3 : Bool} {a4 a5 : Int} {a6 : ByteArray} {a7 : Int} {l : List Pp} (hs : l.length ≤ 1000) : F23.P a0 a1 a2 a3 a4 a5 a6 a7 (props l) a0 a1 a2 a3 a4 a5 a6 a7 (props l) = some (.bool true) := by
  unfold F23.P
  simp only [eqS_self, eqI_self, F40.eq hs, beq_self_eq_true, if_true, ↓bind_s, isBool_b, toBool_bool]
end Go.Proofs.YtlaieomjooeofaaDoor.Ab
