/- Dead: the chapter's examples, and the laws of reasons and of reading. -/
import Derived.Test.YtlaieomjooeofaaDoorDe5
namespace Go.Proofs.YtlaieomjooeofaaDoor.Ab
open Go
set_option linter.unusedSimpArgs false

def reasonV (ttl att arr eatt ex now : Int) : Int :=
  if att ≠ 0 ∧ att ≤ eatt then 4 else if (ttl ≠ 0 ∧ addW .i64 arr ttl ≤ now) ∨ (ex ≠ 0 ∧ ex ≤ now) then 2 else 0
section
variable {n d : ByteArray} {mx ttl att nr arr eatt now : Int} {a0 a1 : ByteArray} {a2 : Int} {a3 : Bool} {a4 a5 : Int} {a6 : ByteArray} {a7 : Int} {ps : List (List AV)}
theorem F28.eq : F28.P a0 a1 a2 a3 a4 a5 a6 a7 ps now = some (.bool (decide (a5 ≠ 0) && decide (a5 ≤ now))) := by
  unfold F28.P
  by_cases h : a5 = 0 <;> simp [h, eqI, leI]
theorem F45.eq : F45.P a0 a1 a2 a3 a4 a5 a6 a7 ps now = some (.bool (decide (a5 ≠ 0) && decide (a5 ≤ now))) := by
  unfold F45.P
  by_cases h : a5 = 0 <;> simp [h, eqI, leI]
theorem F10.eq : F10.P n mx ttl att d nr arr eatt a0 a1 a2 a3 a4 a5 a6 a7 ps now = some (.int .i64 (reasonV ttl att arr eatt a5 now)) := by
  unfold F10.P reasonV
  simp only [F28.eq]
  generalize addW .i64 arr ttl = k
  by_cases h1 : att = 0 <;> by_cases h2 : att ≤ eatt <;> by_cases h3 : ttl = 0 <;> by_cases h4 : k ≤ now <;> by_cases h5 : a5 = 0 <;> by_cases h6 : a5 ≤ now <;>
    simp [h1, h2, h3, h4, h5, h6, eqI, leI, AV.isBool, AV.toBool] <;> (subst h1; simp_all)
theorem F29.eq : F29.P n mx ttl att d nr arr eatt a0 a1 a2 a3 a4 a5 a6 a7 ps now = some (.bool ((decide (ttl ≠ 0) && decide (addW .i64 arr ttl ≤ now)) || (decide (a5 ≠ 0) && decide (a5 ≤ now)))) := by
  unfold F29.P
  simp only [F45.eq]
  generalize addW .i64 arr ttl = k
  by_cases h3 : ttl = 0 <;> by_cases h4 : k ≤ now <;> simp [h3, h4, eqI, leI, AV.isBool, AV.toBool]
theorem F11.eq : F11.P n mx ttl att d nr arr eatt a0 a1 a2 a3 a4 a5 a6 a7 ps now = some (.int .i64 (reasonV ttl att arr eatt a5 now)) := by
  unfold F11.P reasonV
  simp only [F29.eq]
  generalize addW .i64 arr ttl = k
  by_cases h1 : att = 0 <;> by_cases h2 : att ≤ eatt <;> by_cases h3 : ttl = 0 <;> by_cases h4 : k ≤ now <;> by_cases h5 : a5 = 0 <;> by_cases h6 : a5 ≤ now <;>
    simp [h1, h2, h3, h4, h5, h6, eqI, leI, AV.isBool, AV.toBool] <;> (subst h1; simp_all)
theorem F26.eq (a b c : Int) : F26.P a b c = some (.bool (decide (b ≤ a) && decide (a ≤ c))) := by
  unfold F26.P
  by_cases h : b ≤ a <;> simp [h, leI]
theorem F8.eq : ∃ e : Int, F8.P n mx ttl att d = some (.int .i64 e) := by
  have go : ∀ b : Bool, ∃ e : Int, Ev (fun k => F8.PL n mx ttl att d k (.lR3 b)) (.int .i64 e) := by
    intro b
    cases b
    · rcases Bool.eq_false_or_eq_true (eqS d ⟨#[]⟩) with h | h
      · exact ⟨0, by refine Ev.succ ?_; simp only [F8.PL, h]; (simp (disch := first | omega | rfl) only [PS, ite_t, ite_f, ↓bind_s, List.length_cons, List.length_nil, addW_eq, subW_eq, if_pos, if_neg]); exact Ev.const⟩
      · cases hn : nameB d
        · exact ⟨11, by refine Ev.succ ?_; simp only [F8.PL, h, F25.eq, hn]; (simp (disch := first | omega | rfl) only [PS, ite_t, ite_f, ↓bind_s, List.length_cons, List.length_nil, addW_eq, subW_eq, if_pos, if_neg]); exact Ev.const⟩
        · exact ⟨0, by refine Ev.succ ?_; simp only [F8.PL, h, F25.eq, hn]; (simp (disch := first | omega | rfl) only [PS, ite_t, ite_f, ↓bind_s, List.length_cons, List.length_nil, addW_eq, subW_eq, if_pos, if_neg]); exact Ev.const⟩
    · exact ⟨1, by refine Ev.succ ?_; simp only [F8.PL]; (simp (disch := first | omega | rfl) only [PS, ite_t, ite_f, ↓bind_s, List.length_cons, List.length_nil, addW_eq, subW_eq, if_pos, if_neg]); exact Ev.const⟩
  cases hn : nameB n
  · exact ⟨11, lim_eq (by simp only [F25.eq, hn]; (simp (disch := first | omega | rfl) only [PS, ite_t, ite_f, ↓bind_s, List.length_cons, List.length_nil, addW_eq, subW_eq, if_pos, if_neg]); exact Ev.const)⟩
  obtain ⟨e, he⟩ := go true
  cases h1 : (decide (1 ≤ mx) && decide (mx ≤ 256))
  · exact ⟨e, lim_eq (by simp only [F25.eq, hn, F26.eq, h1]; (simp (disch := first | omega | rfl) only [PS, ite_t, ite_f, ↓bind_s, List.length_cons, List.length_nil, addW_eq, subW_eq, if_pos, if_neg]); exact he)⟩
  cases h2 : (decide (0 ≤ ttl) && decide (ttl ≤ 1099511627776))
  · exact ⟨e, lim_eq (by simp only [F25.eq, hn, F26.eq, h1, h2]; (simp (disch := first | omega | rfl) only [PS, ite_t, ite_f, ↓bind_s, List.length_cons, List.length_nil, addW_eq, subW_eq, if_pos, if_neg]); exact he)⟩
  cases h3 : (decide (0 ≤ att) && decide (att ≤ 1099511627776))
  · exact ⟨e, lim_eq (by simp only [F25.eq, hn, F26.eq, h1, h2, h3]; (simp (disch := first | omega | rfl) only [PS, ite_t, ite_f, ↓bind_s, List.length_cons, List.length_nil, addW_eq, subW_eq, if_pos, if_neg]); exact he)⟩
  obtain ⟨e, he⟩ := go false
  exact ⟨e, lim_eq (by simp only [F25.eq, hn, F26.eq, h1, h2, h3]; (simp (disch := first | omega | rfl) only [PS, ite_t, ite_f, ↓bind_s, List.length_cons, List.length_nil, addW_eq, subW_eq, if_pos, if_neg]); exact he)⟩
end

/-! The examples -/
def ltr (c : UInt8) : Pp := ⟨⟨#[c]⟩, ⟨#[]⟩⟩
def full : List Pp := [97, 98, 99, 100, 101, 102, 103, 104].map ltr
def oddL : List Pp := [⟨kDeaths, ⟨#[48, 55]⟩⟩]
def tT : ByteArray := ⟨#[116]⟩
def nQ : ByteArray := ⟨#[113]⟩
def nP : ByteArray := ⟨#[112]⟩
def mL : List Pp := markL nQ [] 1
def nL : List Pp := markL nP mL 2
theorem nil_deaths : deathsL [] = 0 := rfl
theorem m_deaths : deathsL mL = 1 := by rw [mL, mark_deaths, nil_deaths]; rfl
theorem n_deaths : deathsL nL = 2 := by rw [nL, mark_deaths, m_deaths]; rfl
theorem nQ_name : nameB nQ = true := by decide
theorem nP_name : nameB nP = true := by decide
theorem odd_deaths : deathsL oddL = 0 := by
  show deathsS ⟨#[48, 55]⟩ = 0
  have : canon (bs ⟨#[48, 55]⟩) = false := by decide
  simp [deathsS, this]
theorem isort_len' (l D : List Pp) : (isort D l).length = D.length + l.length := isort_len l D
theorem m_len : mL.length = 2 := by rw [mL, markL, isort_len']; rfl
theorem n_len : nL.length ≤ 10 := by
  rw [nL, markL, isort_len']
  have := keepL_len (out := []) (post := mL) (by simp)
  simp
  omega
theorem full_mark : ∃ b1 b2 : ByteArray, markL nQ full 3 = [ltr 97, ltr 98, ltr 99, ltr 100, ⟨kDeaths, b1⟩, ⟨kDied, b2⟩, ltr 101, ltr 102] := by
  have s : Srt full := by
    simp only [full, List.map, Srt, List.pairwise_cons, ltr]
    simp only [ltS_eq]
    decide
  rw [mark_eq s]
  have k : keepL [] full = [ltr 97, ltr 98, ltr 99, ltr 100, ltr 101, ltr 102] := by
    have e : ∀ c : UInt8, bareP (ltr c) = true := fun c => by
      simp [bareP, ltr, kDeaths, kDied]
    simp [keepL, full, e]
  refine ⟨(noteD full).v, (noteQ nQ 3).v, ?_⟩
  unfold markR
  rw [k]
  have f1 : ∀ c : UInt8, ltS (ltr c).k (noteD full).k = decide (bs (ltr c).k < bs kDeaths) := fun c => ltS_eq _ _
  have f2 : ∀ c : UInt8, ltS (ltr c).k (noteQ nQ 3).k = decide (bs (ltr c).k < bs kDied) := fun c => ltS_eq _ _
  have f3 : ltS (noteD full).k (noteQ nQ 3).k = true := deaths_died
  have g1 : (bs (ltr 97).k < bs kDeaths) ∧ (bs (ltr 98).k < bs kDeaths) ∧ (bs (ltr 99).k < bs kDeaths) ∧ (bs (ltr 100).k < bs kDeaths) ∧ ¬ (bs (ltr 101).k < bs kDeaths) := by decide
  have g2 : (bs (ltr 97).k < bs kDied) ∧ (bs (ltr 98).k < bs kDied) ∧ (bs (ltr 99).k < bs kDied) ∧ (bs (ltr 100).k < bs kDied) ∧ ¬ (bs (ltr 101).k < bs kDied) := by decide
  simp only [putL, f1, f2, f3, g1, g2, decide_true, decide_false, if_true, Bool.false_eq_true, if_false]
  rfl
theorem F9.fin {m2_0 m2_1 : ByteArray} {m2_2 : Int} {m2_3 : Bool} {m2_4 m2_5 : Int} {m2_6 : ByteArray} {m2_7 : Int} {m2_8 : List (List AV)} {a0 a1 : ByteArray} {a2 : Int} {a3 : Bool} {a4 a5 : Int} {a6 : ByteArray} {a7 : Int} :
    ∀ (post pre : List UInt8), [97, 98, 99, 100, 101, 102, 103, 104] = pre ++ post →
    Ev (fun n => F9.PL n (.l0 (([97, 98, 99, 100, 101, 102, 103, 104] : List UInt8).map oneB) 8 (pre.length : Int) m2_0 m2_1 m2_2 m2_3 m2_4 m2_5 m2_6 m2_7 m2_8 a0 a1 a2 a3 a4 a5 a6 a7 (props nL) (props (pre.map ltr)))) (.bool true)
  | [], pre, h => by
    have hp : pre = [97, 98, 99, 100, 101, 102, 103, 104] := by rw [h]; simp
    have hpl : pre.length = 8 := by rw [hp]; rfl
    obtain ⟨b1, b2, hm⟩ := full_mark
    have h19 : F19.P (⟨#[113]⟩ : ByteArray) (⟨#[116]⟩ : ByteArray) (⟨#[]⟩ : ByteArray) 0 false 0 0 (⟨#[]⟩ : ByteArray) 0 (props (pre.map ltr)) 3 = some (.agg [.str (⟨#[116]⟩ : ByteArray), .str (⟨#[]⟩ : ByteArray), .int .i64 0, .bool false, .int .i64 0, .int .i64 0, .str (⟨#[]⟩ : ByteArray), .int .i64 0, .sl 0 2 (props [ltr 97, ltr 98, ltr 99, ltr 100, ⟨kDeaths, b1⟩, ⟨kDied, b2⟩, ltr 101, ltr 102])]) := by
      rw [← hm, hp]
      exact F19.eq (by decide) ⟨by omega, by omega⟩ (by simp)
    have h19o : F19.P (⟨#[113]⟩ : ByteArray) (⟨#[116]⟩ : ByteArray) (⟨#[]⟩ : ByteArray) 0 false 0 0 (⟨#[]⟩ : ByteArray) 0 [[.str (⟨#[100, 101, 97, 116, 104, 115]⟩ : ByteArray), .str (⟨#[48, 55]⟩ : ByteArray)]] 3 = some (.agg [.str (⟨#[116]⟩ : ByteArray), .str (⟨#[]⟩ : ByteArray), .int .i64 0, .bool false, .int .i64 0, .int .i64 0, .str (⟨#[]⟩ : ByteArray), .int .i64 0, .sl 0 2 (props (markL nQ oddL 3))]) :=
      F19.eq (l := oddL) (by decide) ⟨by omega, by omega⟩ (by simp [oddL])
    have h14 : F14.P (⟨#[116]⟩ : ByteArray) (⟨#[]⟩ : ByteArray) 0 false 0 0 (⟨#[]⟩ : ByteArray) 0 (props (markL nQ oddL 3)) = some (.int .i64 1) := by
      have hl : (markL nQ oddL 3).length ≤ 100000 := by
        rw [markL, isort_len']
        have := keepL_len (out := []) (post := oddL) (by simp)
        simp
        omega
      rw [F14.eq hl]
      have : deathsL (markL nQ oddL 3) = 1 := by rw [mark_deaths, odd_deaths]; rfl
      exact congrArg (fun d => some (AV.int .i64 d)) this
    have h16 : F16.P a0 a1 a2 a3 a4 a5 a6 a7 (props nL) = some (.bool true) := by
      rw [F16.eq (by have := n_len; omega)]
      have : againS nL = true := by
        have := n_deaths
        unfold deathsL at this
        show decide (deathsS (getL kDeaths nL) < 8) = true
        rw [this]; decide
      rw [this]
    have hlt : ltI (pre.length : Int) 8 = false := by rw [hpl]; rfl
    refine Ev.succ ?_
    simp only [F9.PL, hlt, Bool.false_eq_true, if_false, h19, h19o]
    (simp only [↓bind_s, isAgg_a, isTup_t, Bool.true_and, tt_beq, aggCs_a, tupVs_t, headD_c, tail_c, isStr_s, isInt_i, isBool_b, isSl_s, List.length_cons, List.length_nil, Nat.zero_add, Nat.reduceAdd, if_true, toStr_str, toInt_int, toBool_bool, slXs_sl])
    have r0 : lenI (props [ltr 97, ltr 98, ltr 99, ltr 100, ⟨kDeaths, b1⟩, ⟨kDied, b2⟩, ltr 101, ltr 102]) = 8 := rfl
    have r3 : ro (props [ltr 97, ltr 98, ltr 99, ltr 100, ⟨kDeaths, b1⟩, ⟨kDied, b2⟩, ltr 101, ltr 102]) 3 = [.str ⟨#[100]⟩, .str ⟨#[]⟩] := rfl
    have r4 : ro (props [ltr 97, ltr 98, ltr 99, ltr 100, ⟨kDeaths, b1⟩, ⟨kDied, b2⟩, ltr 101, ltr 102]) 4 = [.str ⟨#[100, 101, 97, 116, 104, 115]⟩, .str b1] := rfl
    have r7 : ro (props [ltr 97, ltr 98, ltr 99, ltr 100, ⟨kDeaths, b1⟩, ⟨kDied, b2⟩, ltr 101, ltr 102]) 7 = [.str ⟨#[102]⟩, .str ⟨#[]⟩] := rfl
    simp only [r0, r3, r4, r7, ce_0, eqS_self, isStr_s, toStr_str, if_true, h14, h16, show eqI (8 : Int) 8 = true from rfl, show ltI (3 : Int) 8 = true from rfl, show ltI (4 : Int) 8 = true from rfl, show ltI (7 : Int) 8 = true from rfl]
    (simp only [↓bind_s, isAgg_a, isTup_t, Bool.true_and, tt_beq, aggCs_a, tupVs_t, headD_c, tail_c, isStr_s, isInt_i, isBool_b, isSl_s, List.length_cons, List.length_nil, Nat.zero_add, Nat.reduceAdd, if_true, toStr_str, toInt_int, toBool_bool, slXs_sl])
    simp only [show eqI (1 : Int) 1 = true from rfl, if_true]
    exact Ev.const
  | c :: post, pre, h => by
    have hl : 8 = pre.length + (post.length + 1) := by have := congrArg List.length h; simpa using this
    have e1 : (pre.length : Int) + 1 = ((pre ++ [c]).length : Int) := by simp
    have ih := F9.fin (m2_0 := m2_0) (m2_1 := m2_1) (m2_2 := m2_2) (m2_3 := m2_3) (m2_4 := m2_4) (m2_5 := m2_5) (m2_6 := m2_6) (m2_7 := m2_7) (m2_8 := m2_8) (a0 := a0) (a1 := a1) (a2 := a2) (a3 := a3) (a4 := a4) (a5 := a5) (a6 := a6) (a7 := a7) post (pre ++ [c]) (by rw [h]; simp)
    have hro : ro (([97, 98, 99, 100, 101, 102, 103, 104] : List UInt8).map oneB) (pre.length : Int).toNat = [.str ⟨#[c]⟩] := ro_at (f := oneB) h
    have hlen : lenI (([97, 98, 99, 100, 101, 102, 103, 104] : List UInt8).map oneB) = 8 := rfl
    have hr : room (props (pre.map ltr)) [[.str (⟨#[c]⟩ : ByteArray), .str (⟨#[]⟩ : ByteArray)]] 32 = true := room_one (p := ltr c) (by simp; omega)
    have hs : props (pre.map ltr) ++ [[.str (⟨#[c]⟩ : ByteArray), .str (⟨#[]⟩ : ByteArray)]] = props ((pre ++ [c]).map ltr) := by simp [props, ltr, enc_eq]
    refine Ev.succ ?_
    simp only [F9.PL, hlen, hro, ce_0, toStr_str, hr, hs]
    (simp (disch := first | omega | rfl) only [PS, ite_t, ite_f, ↓bind_s, List.length_cons, List.length_nil, addW_eq, subW_eq, if_pos, if_neg])
    rw [e1]
    exact ih
theorem fromP {q : ByteArray} {l : List Pp} {r : Int} {a0 a1 : ByteArray} {a2 : Int} {a3 : Bool} {a4 a5 : Int} {a6 : ByteArray} {a7 : Int} (hl : (markL q l r).length ≤ 100000) (hq : nameB q = true) (hz : q.size ≤ 16) (h1 : 1 ≤ r) (h2 : r ≤ 4) :
    F12.P a0 a1 a2 a3 a4 a5 a6 a7 (props (markL q l r)) = some (.tup [.str q, .int .i64 r]) := by
  have hs : (getL kDied (markL q l r)).size ≤ 100000 := by
    rw [mark_died, size_app, size_app]
    have := itoaV_size (n := r) ⟨by omega, by omega⟩
    have e : (⟨#[32]⟩ : ByteArray).size = 1 := rfl
    omega
  have := F12.eq (a0 := a0) (a1 := a1) (a2 := a2) (a3 := a3) (a4 := a4) (a5 := a5) (a6 := a6) (a7 := a7) hl hs
  have e := from_mark (l := l) hq h1 h2
  change F12.P a0 a1 a2 a3 a4 a5 a6 a7 (props (markL q l r)) = some (.tup [.str (fromS (getL kDied (markL q l r))).1, .int .i64 (fromS (getL kDied (markL q l r))).2]) at this
  rw [e] at this
  exact this
theorem F9.eq : F9.P = some (.bool true) := by
  refine lim_eq ?_
  have hm := m_len
  have hn := n_len
  have h19m : F19.P (⟨#[113]⟩ : ByteArray) (⟨#[116]⟩ : ByteArray) (⟨#[]⟩ : ByteArray) 0 false 0 0 (⟨#[]⟩ : ByteArray) 0 [] 1 = some (.agg [.str (⟨#[116]⟩ : ByteArray), .str (⟨#[]⟩ : ByteArray), .int .i64 0, .bool false, .int .i64 0, .int .i64 0, .str (⟨#[]⟩ : ByteArray), .int .i64 0, .sl 0 2 (props mL)]) :=
    F19.eq (l := []) (by decide) ⟨by omega, by omega⟩ (by simp)
  have h19n : F19.P (⟨#[112]⟩ : ByteArray) (⟨#[116]⟩ : ByteArray) (⟨#[]⟩ : ByteArray) 0 false 0 0 (⟨#[]⟩ : ByteArray) 0 (props mL) 2 = some (.agg [.str (⟨#[116]⟩ : ByteArray), .str (⟨#[]⟩ : ByteArray), .int .i64 0, .bool false, .int .i64 0, .int .i64 0, .str (⟨#[]⟩ : ByteArray), .int .i64 0, .sl 0 2 (props nL)]) :=
    F19.eq (l := mL) (by decide) ⟨by omega, by omega⟩ (by omega)
  have h12m : F12.P (⟨#[116]⟩ : ByteArray) (⟨#[]⟩ : ByteArray) 0 false 0 0 (⟨#[]⟩ : ByteArray) 0 (props mL) = some (.tup [.str (⟨#[113]⟩ : ByteArray), .int .i64 1]) := fromP (by show mL.length ≤ _; omega) nQ_name (by decide) (by omega) (by omega)
  have h12n : F12.P (⟨#[116]⟩ : ByteArray) (⟨#[]⟩ : ByteArray) 0 false 0 0 (⟨#[]⟩ : ByteArray) 0 (props nL) = some (.tup [.str (⟨#[112]⟩ : ByteArray), .int .i64 2]) := fromP (by show nL.length ≤ _; omega) nP_name (by decide) (by omega) (by omega)
  have h14m : F14.P (⟨#[116]⟩ : ByteArray) (⟨#[]⟩ : ByteArray) 0 false 0 0 (⟨#[]⟩ : ByteArray) 0 (props mL) = some (.int .i64 1) := by
    rw [F14.eq (by omega)]
    exact congrArg (fun d => some (AV.int .i64 d)) m_deaths
  have h14n : F14.P (⟨#[116]⟩ : ByteArray) (⟨#[]⟩ : ByteArray) 0 false 0 0 (⟨#[]⟩ : ByteArray) 0 (props nL) = some (.int .i64 2) := by
    rw [F14.eq (by omega)]
    exact congrArg (fun d => some (AV.int .i64 d)) n_deaths
  have r1 : reasonV 10 2 5 1 0 14 = 0 := by decide
  have r2 : reasonV 10 2 5 1 0 15 = 2 := by decide
  have r3 : reasonV 10 2 5 2 0 5 = 4 := by decide
  simp only [F10.eq, r1, r2, r3, h19m]
  (simp only [↓bind_s, isAgg_a, isTup_t, Bool.true_and, tt_beq, aggCs_a, tupVs_t, headD_c, tail_c, isStr_s, isInt_i, isBool_b, isSl_s, List.length_cons, List.length_nil, Nat.zero_add, Nat.reduceAdd, if_true, toStr_str, toInt_int, toBool_bool, slXs_sl])
  simp only [h19n]
  (simp only [↓bind_s, isAgg_a, isTup_t, Bool.true_and, tt_beq, aggCs_a, tupVs_t, headD_c, tail_c, isStr_s, isInt_i, isBool_b, isSl_s, List.length_cons, List.length_nil, Nat.zero_add, Nat.reduceAdd, if_true, toStr_str, toInt_int, toBool_bool, slXs_sl])
  simp only [h12m]
  (simp only [↓bind_s, isAgg_a, isTup_t, Bool.true_and, tt_beq, aggCs_a, tupVs_t, headD_c, tail_c, isStr_s, isInt_i, isBool_b, isSl_s, List.length_cons, List.length_nil, Nat.zero_add, Nat.reduceAdd, if_true, toStr_str, toInt_int, toBool_bool, slXs_sl])
  simp only [h12n]
  (simp only [↓bind_s, isAgg_a, isTup_t, Bool.true_and, tt_beq, aggCs_a, tupVs_t, headD_c, tail_c, isStr_s, isInt_i, isBool_b, isSl_s, List.length_cons, List.length_nil, Nat.zero_add, Nat.reduceAdd, if_true, toStr_str, toInt_int, toBool_bool, slXs_sl])
  simp only [show eqI (0 : Int) 0 = true from rfl, show eqI (2 : Int) 2 = true from rfl, show eqI (4 : Int) 4 = true from rfl, show eqI (1 : Int) 1 = true from rfl, eqS_self, Bool.not_true, Bool.false_eq_true, if_false, h14m, h14n, ↓bind_s, isInt_i, toInt_int, if_true]
  refine Ev.succ ?_
  have h27 : F27.P (⟨#[97, 98, 99, 100, 101, 102, 103, 104]⟩ : ByteArray) ⟨#[]⟩ = some (.sl 0 1 (([97, 98, 99, 100, 101, 102, 103, 104] : List UInt8).map oneB)) := F27.eq (by decide) (by decide) (by decide)
  simp only [F9.PL, Bool.false_eq_true, if_false, h27, ↓bind_s, isSl_s, if_true, slXs_sl]
  exact F9.fin _ [] rfl

/-! DeadReasons -/
theorem F3.eq {n d : ByteArray} {mx ttl att nr arr eatt now : Int} {a0 a1 : ByteArray} {a2 : Int} {a3 : Bool} {a4 a5 : Int} {a6 : ByteArray} {a7 : Int} {ps : List (List AV)} :
    F3.P n mx ttl att d nr arr eatt a0 a1 a2 a3 a4 a5 a6 a7 ps now = some (.bool true) := by
  refine lim_eq ?_
  obtain ⟨e, he⟩ := F8.eq (n := n) (mx := mx) (ttl := ttl) (att := att) (d := d)
  have go : ∀ b : Bool, Ev (fun k => F3.PL n mx ttl att d nr arr eatt a0 a1 a2 a3 a4 a5 a6 a7 ps now k (.lR1 b)) (.bool true) := by
    intro b
    refine Ev.succ ?_
    simp only [F3.PL, F9.eq, F10.eq, F11.eq, ↓bind_s, isBool_b, isInt_i, toInt_int, toBool_bool, eqI_self, if_true]
    cases b <;> exact Ev.const
  rw [he]
  simp only [↓bind_s, isInt_i, if_true, toInt_int]
  rcases Bool.eq_false_or_eq_true (eqI e 0) with h1 | h1
  case inr => simp only [h1, Bool.not_false, if_true]; exact go true
  rcases Bool.eq_false_or_eq_true (ltI arr 0) with h2 | h2
  case inl => simp only [h1, h2, Bool.not_true, Bool.false_eq_true, if_true, if_false]; exact go true
  rcases Bool.eq_false_or_eq_true (ltI 1099511627776 arr) with h3 | h3
  case inl => simp only [h1, h2, h3, Bool.not_true, Bool.false_eq_true, if_true, if_false]; exact go true
  rcases Bool.eq_false_or_eq_true (ltI now 0) with h4 | h4
  case inl => simp only [h1, h2, h3, h4, Bool.not_true, Bool.false_eq_true, if_true, if_false]; exact go true
  simp only [h1, h2, h3, h4, Bool.not_true, Bool.false_eq_true, if_false]
  exact go _

/-! DeadReads -/
section
variable {a0 a1 : ByteArray} {a2 : Int} {a3 : Bool} {a4 a5 : Int} {a6 : ByteArray} {a7 : Int}
theorem getL_size {k : ByteArray} : ∀ {l : List Pp}, (∀ p ∈ l, p.v.size ≤ 300) → (getL k l).size ≤ 300
  | [], _ => by show (⟨#[]⟩ : ByteArray).size ≤ 300; decide
  | p :: r, h => by
    simp only [getL]
    split
    · exact h p (by simp)
    · exact getL_size fun q hq => h q (by simp [hq])
theorem F4.loop {l : List Pp} (hs : l.length ≤ 20) : ∀ (post pre : List Pp), l = pre ++ post → (∀ p ∈ pre, p.v.size ≤ 300) → Ev (fun n => F4.PL a0 a1 a2 a3 a4 a5 a6 a7 (props l) n (.l0 (pre.length : Int))) (.bool true)
  | [], pre, h, hp => by
    have hl := len_end h
    have hpl : pre = l := by rw [h]; simp
    rw [hpl] at hp
    have hend : ltI (pre.length : Int) (lenI (props l)) = false := by rw [lenI_props, ff_lt]; omega
    have hv := getL_size (k := (⟨#[100, 105, 101, 100]⟩ : ByteArray)) hp
    refine Ev.succ ?_
    simp only [F4.PL, hend, Bool.false_eq_true, if_false, F12.eq (l := l) (by omega) (by omega), F13.eq (l := l) (by omega) (by omega)]
    (simp only [↓bind_s, isAgg_a, isTup_t, Bool.true_and, tt_beq, aggCs_a, tupVs_t, headD_c, tail_c, isStr_s, isInt_i, isBool_b, isSl_s, List.length_cons, List.length_nil, Nat.zero_add, Nat.reduceAdd, if_true, toStr_str, toInt_int, toBool_bool, slXs_sl])
    simp only [eqS_self, eqI_self, if_true, F14.eq (l := l) (by omega), F15.eq (l := l) (by omega), F16.eq (l := l) (by omega), F17.eq (l := l) (by omega), F9.eq, ↓bind_s, isInt_i, toInt_int, isBool_b, toBool_bool, beq_self_eq_true]
    exact Ev.const
  | p :: post, pre, h, hp => by
    have hl := len_mid h
    have e1 : (pre.length : Int) + 1 = ((pre ++ [p]).length : Int) := by simp
    have z1 : sizeI p.k = (p.k.size : Int) := rfl
    have z2 : sizeI p.v = (p.v.size : Int) := rfl
    refine Ev.succ ?_
    simp only [F4.PL, lenI_props, props_at h, ce_0, ce_s, toStr_str, z1, z2, F9.eq]
    by_cases h1 : 300 < p.k.size
    · (simp (disch := first | omega | rfl) only [PS, ite_t, ite_f, ↓bind_s, List.length_cons, List.length_nil, addW_eq, subW_eq, if_pos, if_neg])
      exact Ev.const
    · by_cases h2 : 300 < p.v.size
      · (simp (disch := first | omega | rfl) only [PS, ite_t, ite_f, ↓bind_s, List.length_cons, List.length_nil, addW_eq, subW_eq, if_pos, if_neg])
        exact Ev.const
      · have ih := F4.loop hs post (pre ++ [p]) (by rw [h]; simp) (fun q hq => by
          rcases List.mem_append.1 hq with hq | hq
          · exact hp q hq
          · rw [List.mem_singleton.1 hq]; omega)
        (simp (disch := first | omega | rfl) only [PS, ite_t, ite_f, ↓bind_s, List.length_cons, List.length_nil, addW_eq, subW_eq, if_pos, if_neg])
        rw [e1]
        exact ih
theorem F4.eq {l : List Pp} : F4.P a0 a1 a2 a3 a4 a5 a6 a7 (props l) = some (.bool true) := by
  refine lim_eq ?_
  rw [lenI_props]
  by_cases h : 20 < l.length
  · rw [F9.eq]
    (simp (disch := first | omega | rfl) only [PS, ite_t, ite_f, ↓bind_s, List.length_cons, List.length_nil, addW_eq, subW_eq, if_pos, if_neg])
    exact Ev.const
  · (simp (disch := first | omega | rfl) only [PS, ite_t, ite_f, ↓bind_s, List.length_cons, List.length_nil, addW_eq, subW_eq, if_pos, if_neg])
    exact F4.loop (by omega) l [] rfl (fun _ h => by cases h)
end

theorem name_size {q : ByteArray} (h : nameB q = true) : q.size ≤ 16 := by
  simp only [nameB, Bool.and_eq_true, decide_eq_true_eq] at h
  exact h.2.1
theorem markL_len {q : ByteArray} {l : List Pp} {r : Int} : (markL q l r).length ≤ 8 := by
  rw [markL, isort_len']
  have := keepL_len (out := []) (post := l) (by simp)
  simp
  omega
section
variable {a0 a1 : ByteArray} {a2 : Int} {a3 : Bool} {a4 a5 : Int} {a6 : ByteArray} {a7 : Int}
theorem F7.eq {q : ByteArray} {l : List Pp} {r : Int} : F7.P q a0 a1 a2 a3 a4 a5 a6 a7 (props l) r = some (.bool true) := by
  unfold F7.P
  obtain ⟨b, h1, h2⟩ := F18.eq (q := q) (r := r) (a0 := a0) (a1 := a1) (a2 := a2) (a3 := a3) (a4 := a4) (a5 := a5) (a6 := a6) (a7 := a7) (l := l)
  rw [h1]
  cases b
  · simp only [↓bind_s, isBool_b, toBool_bool, if_true, Bool.not_false, F9.eq]
  · obtain ⟨hq, hm, hr1, hr2⟩ := h2 rfl
    have hz := name_size hq
    have hl := hm.props.len
    have h19 := F19.eq (q := q) (r := r) (l := l) (a0 := a0) (a1 := a1) (a2 := a2) (a3 := a3) (a4 := a4) (a5 := a5) (a6 := a6) (a7 := a7) (by omega) ⟨by omega, by omega⟩ (by omega)
    have h24 := F24.eq (q := q) (r := r) (l := l) (a0 := a0) (a1 := a1) (a2 := a2) (a3 := a3) (a4 := a4) (a5 := a5) (a6 := a6) (a7 := a7) (by omega) ⟨by omega, by omega⟩ (by omega)
    rw [← mark_eq hm.props.srt] at h24
    rw [h19]
    simp only [↓bind_s, isBool_b, toBool_bool, if_true, Bool.not_true, Bool.false_eq_true, if_false]
    (simp only [↓bind_s, isAgg_a, isTup_t, Bool.true_and, tt_beq, aggCs_a, tupVs_t, headD_c, tail_c, isStr_s, isInt_i, isBool_b, isSl_s, List.length_cons, List.length_nil, Nat.zero_add, Nat.reduceAdd, if_true, toStr_str, toInt_int, toBool_bool, slXs_sl])
    rw [h24]
    (simp only [↓bind_s, isAgg_a, isTup_t, Bool.true_and, tt_beq, aggCs_a, tupVs_t, headD_c, tail_c, isStr_s, isInt_i, isBool_b, isSl_s, List.length_cons, List.length_nil, Nat.zero_add, Nat.reduceAdd, if_true, toStr_str, toInt_int, toBool_bool, slXs_sl])
    rw [F23.eq (by have := markL_len (q := q) (l := l) (r := r); omega)]
    (simp only [↓bind_s, isAgg_a, isTup_t, Bool.true_and, tt_beq, aggCs_a, tupVs_t, headD_c, tail_c, isStr_s, isInt_i, isBool_b, isSl_s, List.length_cons, List.length_nil, Nat.zero_add, Nat.reduceAdd, if_true, toStr_str, toInt_int, toBool_bool, slXs_sl])
    rw [F9.eq]
    (simp only [↓bind_s, isAgg_a, isTup_t, Bool.true_and, tt_beq, aggCs_a, tupVs_t, headD_c, tail_c, isStr_s, isInt_i, isBool_b, isSl_s, List.length_cons, List.length_nil, Nat.zero_add, Nat.reduceAdd, if_true, toStr_str, toInt_int, toBool_bool, slXs_sl])

/-! DeadEnds -/
theorem F5.loop {r : Int} {l0 : List (List AV)} {n : Int} (hr1 : 1 ≤ r) (hr2 : r ≤ 4) (hn : n ≤ 8) : ∀ (c : Nat) (k : Int) (l : List Pp) (b0 b1 : ByteArray) (b2 : Int) (b3 : Bool) (b4 b5 : Int) (b6 : ByteArray) (b7 : Int),
    l.length ≤ 100000 → 0 ≤ k → c = (8 - deathsL l).toNat → k + (c : Int) = n →
    Ev (fun m => F5.PL a0 a1 a2 a3 a4 a5 a6 a7 l0 r m (.l0 n k b0 b1 b2 b3 b4 b5 b6 b7 (props l))) (.bool true)
  | 0, k, l, b0, b1, b2, b3, b4, b5, b6, b7, hl, hk, hc, hkn => by
    have ha : againS l = false := by
      show decide (deathsL l < 8) = false
      simp; omega
    have e1 : leI k 8 = true := by simp [leI]; omega
    have e2 : eqI k n = true := by simp [eqI]; omega
    refine Ev.succ ?_
    simp only [F5.PL, e1, e2, F16.eq hl, ha, F9.eq, ↓bind_s, isBool_b, toBool_bool, if_true, Bool.not_false]
    exact Ev.const
  | c + 1, k, l, b0, b1, b2, b3, b4, b5, b6, b7, hl, hk, hc, hkn => by
    have hd : 0 ≤ deathsL l ∧ deathsL l ≤ 1099511627776 := deathsS_bounds _
    have ha : againS l = true := by
      show decide (deathsL l < 8) = true
      simp; omega
    have e1 : leI k 8 = true := by simp [leI]; omega
    have h19 := F19.eq (q := ⟨#[113]⟩) (r := r) (l := l) (a0 := b0) (a1 := b1) (a2 := b2) (a3 := b3) (a4 := b4) (a5 := b5) (a6 := b6) (a7 := b7) (by decide) ⟨by omega, by omega⟩ hl
    have hd' : deathsL (markL ⟨#[113]⟩ l r) = deathsL l + 1 := by
      rw [mark_deaths]
      unfold incr
      rw [if_neg (by omega)]
    have ih := F5.loop (l0 := l0) hr1 hr2 hn c (k + 1) (markL ⟨#[113]⟩ l r) b0 b1 b2 b3 b4 0 b6 b7 (by have := markL_len (q := ⟨#[113]⟩) (l := l) (r := r); omega) (by omega) (by rw [hd']; omega) (by omega)
    refine Ev.succ ?_
    simp only [F5.PL, e1, F16.eq hl, ha, ↓bind_s, isBool_b, toBool_bool, if_true, Bool.not_true, Bool.false_eq_true, if_false, h19]
    (simp only [↓bind_s, isAgg_a, isTup_t, Bool.true_and, tt_beq, aggCs_a, tupVs_t, headD_c, tail_c, isStr_s, isInt_i, isBool_b, isSl_s, List.length_cons, List.length_nil, Nat.zero_add, Nat.reduceAdd, if_true, toStr_str, toInt_int, toBool_bool, slXs_sl])
    rw [addW_eq (by omega) (by omega)]
    exact ih
theorem F5.eq {l : List Pp} {r : Int} : F5.P a0 a1 a2 a3 a4 a5 a6 a7 (props l) r = some (.bool true) := by
  refine lim_eq ?_
  obtain ⟨b, h1, h2⟩ := F18.eq (q := (⟨#[113]⟩ : ByteArray)) (r := r) (a0 := a0) (a1 := a1) (a2 := a2) (a3 := a3) (a4 := a4) (a5 := a5) (a6 := a6) (a7 := a7) (l := l)
  rw [h1]
  cases b
  · simp only [↓bind_s, isBool_b, toBool_bool, if_true, Bool.not_false, F9.eq]
    exact Ev.const
  · obtain ⟨hq, hm, hr1, hr2⟩ := h2 rfl
    have hl := hm.props.len
    have hd : 0 ≤ deathsL l ∧ deathsL l ≤ 1099511627776 := deathsS_bounds _
    have h14 : F14.P a0 a1 a2 a3 a4 a5 a6 a7 (props l) = some (.int .i64 (deathsL l)) := F14.eq (by omega)
    rw [h14]
    simp only [↓bind_s, isBool_b, toBool_bool, if_true, Bool.not_true, Bool.false_eq_true, if_false, isInt_i, toInt_int]
    have e : cond (ltI (subW .i64 8 (deathsL l)) 0) 0 (subW .i64 8 (deathsL l)) = (((8 - deathsL l).toNat : Nat) : Int) := by
      rw [subW_eq (by omega) (by omega)]
      by_cases h : 8 - deathsL l < 0
      · simp [ltI, h]; omega
      · simp [ltI, h]; omega
    rw [e]
    exact F5.loop hr1 hr2 (by omega) _ 0 l a0 a1 a2 a3 a4 a5 a6 a7 (by omega) (by omega) rfl (by omega)

/-! DeadKeeps -/
theorem putL_bare {p : Pp} (h : bareP p = false) : ∀ l : List Pp, (putL p l).filter bareP = l.filter bareP
  | [] => by simp [putL, h]
  | q :: r => by
    simp only [putL]
    split
    · simp only [List.filter_cons, putL_bare h r]
    · simp [h]
theorem mark_bare {q : ByteArray} {l : List Pp} {r : Int} (h : Srt l) : (markL q l r).filter bareP = keepL [] l := by
  rw [mark_eq h, markR, putL_bare (by simp [bareP, noteQ]), putL_bare (by simp [bareP, noteD])]
  exact List.filter_eq_self.2 fun p hp => by
    have := (keepL_bare p hp).2
    simp [bareP, this.1, this.2]
theorem mark_ok {q : ByteArray} {l : List Pp} {r : Int} (hq : nameB q = true) (h : OkP l) (h1 : 1 ≤ r) (h2 : r ≤ 4) : OkP (markL q l r) := by
  refine ⟨markL_len, ?_, fun p hp => ?_⟩
  · rw [mark_eq h.srt]
    refine putL_srt (putL_srt (keepL_srt h.srt) fun p hp => (keepL_bare p hp).2.1) fun p hp => ?_
    rcases putL_mem.1 hp with rfl | hp
    · exact died_ne.symm
    · exact (keepL_bare p hp).2.2
  · rcases markL_mem.1 hp with hp | rfl | rfl
    · exact h.all p (keepL_bare p hp).1
    · refine ⟨by show keyB kDeaths = true; decide, ?_⟩
      have := itoaV_size (incr_I64 (d := deathsL l) (deathsS_bounds _))
      show (itoaV (incr (deathsL l))).size ≤ 160
      omega
    · refine ⟨by show keyB kDied = true; decide, ?_⟩
      show ((q ++ (⟨#[32]⟩ : ByteArray)) ++ itoaV r).size ≤ 160
      rw [size_app, size_app]
      have := itoaV_size (n := r) ⟨by omega, by omega⟩
      have e : (⟨#[32]⟩ : ByteArray).size = 1 := rfl
      have := name_size hq
      omega
theorem F6.eq {q : ByteArray} {l : List Pp} {r : Int} : F6.P q a0 a1 a2 a3 a4 a5 a6 a7 (props l) r = some (.bool true) := by
  refine lim_eq ?_
  obtain ⟨b, h1, h2⟩ := F18.eq (q := q) (r := r) (a0 := a0) (a1 := a1) (a2 := a2) (a3 := a3) (a4 := a4) (a5 := a5) (a6 := a6) (a7 := a7) (l := l)
  rw [h1]
  cases b
  · simp only [↓bind_s, isBool_b, toBool_bool, if_true, Bool.not_false, F9.eq]
    exact Ev.const
  · obtain ⟨hq, hm, hr1, hr2⟩ := h2 rfl
    have hz := name_size hq
    have hl := hm.props.len
    have hd : 0 ≤ deathsL l ∧ deathsL l ≤ 1099511627776 := deathsS_bounds _
    have hx := markL_len (q := q) (l := l) (r := r)
    have h19 := F19.eq (q := q) (r := r) (l := l) (a0 := a0) (a1 := a1) (a2 := a2) (a3 := a3) (a4 := a4) (a5 := a5) (a6 := a6) (a7 := a7) (by omega) ⟨by omega, by omega⟩ (by omega)
    have h19y := F19.eq (q := q) (r := r) (l := markL q l r) (a0 := a0) (a1 := a1) (a2 := a2) (a3 := a3) (a4 := a4) (a5 := 0) (a6 := a6) (a7 := a7) (by omega) ⟨by omega, by omega⟩ (by omega)
    have h12 := fromP (q := q) (l := l) (r := r) (a0 := a0) (a1 := a1) (a2 := a2) (a3 := a3) (a4 := a4) (a5 := 0) (a6 := a6) (a7 := a7) (by omega) hq hz hr1 hr2
    have hok := mark_ok hq hm.props hr1 hr2
    have h20 := F20.eq (a3 := a3) (l := markL q l r) (⟨hm.topic, hm.payload, hm.lv0, hm.lv1, hm.pr0, hm.pr1, Int.le_refl _, by omega, hm.sq0, hm.sq1, hm.name, hok⟩ : OkM a0 a1 a2 a4 0 a6 a7 (markL q l r))
    have h14x : F14.P a0 a1 a2 a3 a4 0 a6 a7 (props (markL q l r)) = some (.int .i64 (incr (deathsL l))) := by
      rw [F14.eq (by omega)]
      exact congrArg (fun d => some (AV.int .i64 d)) (mark_deaths q l r)
    have h14 : F14.P a0 a1 a2 a3 a4 a5 a6 a7 (props l) = some (.int .i64 (deathsL l)) := F14.eq (by omega)
    rw [h19]
    simp only [↓bind_s, isBool_b, toBool_bool, if_true, Bool.not_true, Bool.false_eq_true, if_false]
    (simp only [↓bind_s, isAgg_a, isTup_t, Bool.true_and, tt_beq, aggCs_a, tupVs_t, headD_c, tail_c, isStr_s, isInt_i, isBool_b, isSl_s, List.length_cons, List.length_nil, Nat.zero_add, Nat.reduceAdd, if_true, toStr_str, toInt_int, toBool_bool, slXs_sl])
    rw [h12]
    (simp only [↓bind_s, isAgg_a, isTup_t, Bool.true_and, tt_beq, aggCs_a, tupVs_t, headD_c, tail_c, isStr_s, isInt_i, isBool_b, isSl_s, List.length_cons, List.length_nil, Nat.zero_add, Nat.reduceAdd, if_true, toStr_str, toInt_int, toBool_bool, slXs_sl])
    rw [h20]
    (simp only [↓bind_s, isAgg_a, isTup_t, Bool.true_and, tt_beq, aggCs_a, tupVs_t, headD_c, tail_c, isStr_s, isInt_i, isBool_b, isSl_s, List.length_cons, List.length_nil, Nat.zero_add, Nat.reduceAdd, if_true, toStr_str, toInt_int, toBool_bool, slXs_sl])
    simp only [eqI_self, eqS_self, Bool.not_true, Bool.false_eq_true, if_false, h14x, h14, ↓bind_s, isInt_i, if_true, toInt_int, incr_eq hd]
    refine Ev.succ ?_
    have hb := F21.eq (l := l) (by omega)
    have hbx : F21.P (props (markL q l r)) = some (.sl 0 2 (props (keepL [] l))) := by rw [F21.eq (by omega), mark_bare hm.props.srt]
    have hby : F21.P (props (markL q (markL q l r) r)) = some (.sl 0 2 (props (keepL [] l))) := by
      have hy := markL_len (q := q) (l := markL q l r) (r := r)
      rw [F21.eq (by omega), mark_bare hok.srt]
      have : keepL [] (markL q l r) = keepL [] l := by
        show [] ++ ((markL q l r).filter bareP).take (6 - 0) = _
        rw [mark_bare hm.props.srt, List.nil_append]
        exact List.take_of_length_le (keepL_len (by simp))
      rw [this]
    have hk : ∀ n : Nat, n = (l.filter bareP).length → cond (ltI 6 (n : Int)) 6 (n : Int) = ((min n 6 : Nat) : Int) := fun n _ => by
      by_cases h : 6 < n
      · have : (6 : Int) < n := by omega
        simp [ltI, this]; omega
      · have : ¬ (6 : Int) < n := by omega
        simp [ltI, this]; omega
    have ht : ((props (l.filter bareP)).take (min (l.filter bareP).length 6)).drop 0 = props (keepL [] l) := by
      have : keepL [] l = (l.filter bareP).take (min (l.filter bareP).length 6) := by
        show [] ++ (l.filter bareP).take (6 - 0) = _
        rw [List.nil_append, List.take_eq_take_iff]
        omega
      rw [this]
      simp [props, List.map_take]
    have g1 : leI 0 ((min (l.filter bareP).length 6 : Nat) : Int) = true := by simp [leI]
    have g2 : leI ((min (l.filter bareP).length 6 : Nat) : Int) ((min (l.filter bareP).length 6 : Nat) : Int) = true := by simp [leI]
    have g3 : leI ((min (l.filter bareP).length 6 : Nat) : Int) ((l.filter bareP).length : Int) = true := by simp [leI]; omega
    have hkl := keepL_len (out := []) (post := l) (by simp)
    simp only [F6.PL, Bool.false_eq_true, if_false, hb, hbx, ↓bind_s, isSl_s, if_true, slXs_sl, lenI_props, hk _ rfl, g1, g2, g3, Int.toNat_natCast, ht, F22.eq (l := keepL [] l) (by omega), isBool_b, toBool_bool, Bool.not_true, h19y]
    (simp only [↓bind_s, isAgg_a, isTup_t, Bool.true_and, tt_beq, aggCs_a, tupVs_t, headD_c, tail_c, isStr_s, isInt_i, isBool_b, isSl_s, List.length_cons, List.length_nil, Nat.zero_add, Nat.reduceAdd, if_true, toStr_str, toInt_int, toBool_bool, slXs_sl])
    simp only [hby, ↓bind_s, isSl_s, if_true, slXs_sl, F22.eq (l := keepL [] l) (by omega), isBool_b, toBool_bool, Bool.not_true, Bool.false_eq_true, if_false, F23.eq (l := l) (by omega), F9.eq]
    exact Ev.const
end
end Go.Proofs.YtlaieomjooeofaaDoor.Ab
