/- Dead: marks. -/
import Derived.Test.YtlaieomjooeofaaDoorDe1
namespace Go.Proofs.YtlaieomjooeofaaDoor.Ab
open Go
set_option linter.unusedSimpArgs false

/-! Order -/
theorem cmp_lt : ∀ a b : List UInt8, (Lib.compareBytes a b < 0) = (a < b)
  | [], [] => by simp [Lib.compareBytes]
  | [], _ :: _ => by simp [Lib.compareBytes]
  | _ :: _, [] => by simp [Lib.compareBytes]
  | a :: x, b :: y => by
    simp only [Lib.compareBytes, List.cons_lt_cons_iff]
    by_cases h : a < b
    · simp [h]
    · by_cases h2 : b < a
      · have : a ≠ b := fun e => by rw [e] at h2; exact absurd h2 (by simp [UInt8.lt_iff_toNat_lt])
        simp [h, h2, this]
      · have e : a = b := by
          rw [UInt8.lt_iff_toNat_lt] at h h2
          exact UInt8.toNat_inj.1 (by omega)
        subst e
        simp [h, cmp_lt x y]
theorem lessP_eq (x y : Pp) : lessP x y = ltS x.k y.k := by
  unfold lessP cmpS
  rw [ltS_eq]
  simp only [cmp_lt]
theorem lt_irr (s : ByteArray) : ltS s s = false := by rw [ltS_eq]; simp [List.lt_irrefl]
theorem lt_tr {s t u : ByteArray} (h : ltS s t = true) (k : ltS t u = true) : ltS s u = true := by
  rw [ltS_eq, decide_eq_true_eq] at *
  exact List.lt_trans h k
theorem lt_asymm {s t : ByteArray} (h : ltS s t = true) : ltS t s = false := by
  cases k : ltS t s with
  | false => rfl
  | true => have := lt_tr h k; rw [lt_irr] at this; cases this
theorem lt_tri {s t : ByteArray} (h : ltS s t = false) (k : ltS t s = false) : s = t := by
  rw [ltS_eq, decide_eq_false_iff_not] at *
  exact bs_inj (List.le_antisymm (List.not_lt.1 k) (List.not_lt.1 h))
theorem lt_ne {s t : ByteArray} (h : ltS s t = true) : s ≠ t := fun e => by rw [e, lt_irr] at h; cases h
theorem lt_of {s t : ByteArray} (h : s ≠ t) (k : ltS t s = false) : ltS s t = true := by
  cases e : ltS s t with
  | true => rfl
  | false => exact absurd (lt_tri e k) h
def Srt (l : List Pp) : Prop := l.Pairwise fun a b => ltS a.k b.k = true
theorem putL_mem {p x : Pp} : ∀ {l : List Pp}, x ∈ putL p l ↔ x = p ∨ x ∈ l
  | [] => by simp [putL]
  | q :: r => by
    simp only [putL]
    split
    · simp only [List.mem_cons, putL_mem (l := r)]
      exact ⟨fun h => by rcases h with h | h | h <;> simp [h], fun h => by rcases h with h | h | h <;> simp [h]⟩
    · simp
theorem putL_len {p : Pp} : ∀ {l : List Pp}, (putL p l).length = l.length + 1
  | [] => rfl
  | q :: r => by
    simp only [putL]
    split
    · simp [putL_len (l := r)]
    · simp
theorem putL_srt {p : Pp} : ∀ {l : List Pp}, Srt l → (∀ q ∈ l, q.k ≠ p.k) → Srt (putL p l)
  | [], _, _ => by simp [putL, Srt]
  | q :: r, h, hn => by
    obtain ⟨h1, h2⟩ := List.pairwise_cons.1 h
    simp only [putL]
    split
    · rename_i hq
      refine List.pairwise_cons.2 ⟨fun x hx => ?_, putL_srt h2 fun x hx => hn x (by simp [hx])⟩
      rcases putL_mem.1 hx with rfl | hx
      · exact hq
      · exact h1 x hx
    · rename_i hq
      have hp : ltS p.k q.k = true := lt_of (fun e => hn q (by simp) e.symm) (by simpa using hq)
      refine List.pairwise_cons.2 ⟨fun x hx => ?_, h⟩
      rcases List.mem_cons.1 hx with rfl | hx
      · exact hp
      · exact lt_tr hp (h1 x hx)
theorem putL_snoc {p q : Pp} (hq : ltS q.k p.k = false) : ∀ l : List Pp, putL p (l ++ [q]) = putL p l ++ [q]
  | [] => by simp [putL, hq]
  | x :: r => by
    simp only [List.cons_append, putL]
    split
    · rw [putL_snoc hq r]; rfl
    · rfl
theorem putL_all {p : Pp} : ∀ {l : List Pp}, (∀ q ∈ l, ltS q.k p.k = true) → putL p l = l ++ [p]
  | [], _ => rfl
  | q :: r, h => by
    simp only [putL, h q (by simp), if_true]
    rw [putL_all fun x hx => h x (by simp [hx])]
    rfl
theorem snoc_indP {P : List Pp → Prop} (h0 : P []) (h1 : ∀ l b, P l → P (l ++ [b])) (l : List Pp) : P l := by
  rw [← List.reverse_reverse l]
  induction l.reverse with
  | nil => exact h0
  | cons b r ih => rw [List.reverse_cons]; exact h1 _ _ ih
theorem insR_put {p : Pp} : ∀ l : List Pp, Srt l → (∀ q ∈ l, q.k ≠ p.k) → (insR p l.reverse).reverse = putL p l := by
  refine snoc_indP (fun _ _ => rfl) fun l q ih hs hn => ?_
  have hs' := List.pairwise_append.1 hs
  rw [List.reverse_append, List.reverse_singleton, List.singleton_append]
  simp only [insR, lessP_eq]
  cases h : ltS p.k q.k
  · have hq : ltS q.k p.k = true := lt_of (hn q (by simp)) h
    simp only [Bool.false_eq_true, if_false]
    rw [putL_all fun x hx => ?_]
    · simp
    · rcases List.mem_append.1 hx with hx | hx
      · exact lt_tr (hs'.2.2 x hx q (by simp)) hq
      · rw [List.mem_singleton.1 hx]; exact hq
  · simp only [if_true, List.reverse_cons]
    rw [ih hs'.1 fun x hx => hn x (by simp [hx]), putL_snoc (lt_asymm h)]
theorem isort_srt {r : List Pp} : ∀ (l D : List Pp), Srt (D ++ l) → isort D (l ++ r) = isort (D ++ l) r
  | [], D, _ => by simp
  | x :: l, D, h => by
    have e : (insR x D.reverse).reverse = D ++ [x] := by
      have h' := List.pairwise_append.1 h
      rw [insR_put D h'.1 fun q hq => lt_ne (h'.2.2 q hq x (by simp)), putL_all fun q hq => h'.2.2 q hq x (by simp)]
    simp only [List.cons_append, isort]
    rw [e, isort_srt l (D ++ [x]) (by simpa using h)]
    simp
def kDeaths : ByteArray := ⟨#[100, 101, 97, 116, 104, 115]⟩
def kDied : ByteArray := ⟨#[100, 105, 101, 100]⟩
theorem deaths_died : ltS kDeaths kDied = true := by rw [ltS_eq]; decide
theorem isort_two {l : List Pp} {d1 d2 : Pp} (h : Srt l) (h1 : d1.k = kDeaths) (h2 : d2.k = kDied) (hn : ∀ q ∈ l, q.k ≠ kDeaths ∧ q.k ≠ kDied) : isort [] (l ++ [d1, d2]) = putL d2 (putL d1 l) := by
  rw [isort_srt l [] (by simpa using h)]
  simp only [List.nil_append, isort]
  rw [insR_put l h fun q hq => by rw [h1]; exact (hn q hq).1]
  exact insR_put _ (putL_srt h fun q hq => by rw [h1]; exact (hn q hq).1) fun q hq => by
    rcases putL_mem.1 hq with rfl | hq
    · rw [h1, h2]; exact lt_ne deaths_died
    · rw [h2]; exact (hn q hq).2

/-! dead.with -/
theorem F66.loop {o : List Pp} {p : Pp} (hs : o.length ≤ 100000) : ∀ (post pre : List Pp), o = pre ++ post → Ev (fun n => F66.PL (props o) [.str p.k, .str p.v] n (.l0 (pre.length : Int))) (.int .i64 (idx (fun q => decide (q.k = p.k)) post pre.length))
  | [], pre, h => by
    have hl := len_end h
    refine Ev.succ ?_
    simp only [F66.PL, lenI_props]
    (simp (disch := first | omega | rfl) only [PS, ite_t, ite_f, ↓bind_s, List.length_cons, List.length_nil, addW_eq, subW_eq, if_pos, if_neg])
    exact Ev.const
  | q :: post, pre, h => by
    have hl := len_mid h
    have ih := F66.loop (p := p) hs post (pre ++ [q]) (by rw [h]; simp)
    have e1 : (pre.length : Int) + 1 = ((pre ++ [q]).length : Int) := by simp
    refine Ev.succ ?_
    simp only [F66.PL, lenI_props, props_at h, F51.P]
    (simp (disch := first | omega | rfl) only [PS, ite_t, ite_f, ↓bind_s, List.length_cons, List.length_nil, addW_eq, subW_eq, if_pos, if_neg])
    by_cases e : q.k = p.k
    · simp only [e, idx, decide_true, if_true]
      exact Ev.const
    · simp only [e, idx, decide_false, if_false, Bool.false_eq_true]
      rw [e1]
      simpa using ih
theorem F50.eq {o : List Pp} {p : Pp} (hs : o.length ≤ 100000) : F50.P (props o) [.str p.k, .str p.v] = some (.bool (o.any fun q => decide (q.k = p.k))) := by
  unfold F50.P
  have : F66.P (props o) [.str p.k, .str p.v] = some (.int .i64 (idx (fun q => decide (q.k = p.k)) o 0)) := lim_eq (F66.loop hs o [] rfl)
  rw [this]
  (simp (disch := first | omega | rfl) only [PS, ite_t, ite_f, ↓bind_s, List.length_cons, List.length_nil, addW_eq, subW_eq, if_pos, if_neg])
  have := idx_any (fun q : Pp => decide (q.k = p.k)) o 0
  cases h : o.any fun q => decide (q.k = p.k)
  · rw [h] at this
    simp at this
    simp [leI]; omega
  · rw [h] at this
    simp at this
    simp [leI]; omega
def bareP (p : Pp) : Bool := !(decide (p.k = kDeaths) || decide (p.k = kDied))
def keepL (out post : List Pp) : List Pp := out ++ (post.filter bareP).take (6 - out.length)
theorem keepL_cons {out post : List Pp} {p : Pp} : keepL out (p :: post) = if bareP p && decide (out.length < 6) then keepL (out ++ [p]) post else keepL out post := by
  unfold keepL
  cases h : bareP p
  · simp [h]
  · by_cases hl : out.length < 6
    · obtain ⟨k, hk⟩ : ∃ k, 6 - out.length = k + 1 := ⟨5 - out.length, by omega⟩
      have e : 6 - (out ++ [p]).length = k := by simp; omega
      rw [e, hk]
      simp [h, hl]
    · have e : 6 - out.length = 0 := by omega
      simp [h, hl, e]
theorem keepL_len {out post : List Pp} (h : out.length ≤ 6) : (keepL out post).length ≤ 6 := by
  unfold keepL
  rw [List.length_append, List.length_take]
  omega
theorem props_app {l r : List Pp} : props l ++ props r = props (l ++ r) := by simp [props]
theorem props_snoc {l : List Pp} {p : Pp} : props l ++ [[.str p.k, .str p.v]] = props (l ++ [p]) := by simp [props, enc_eq]
theorem room_props {l r : List Pp} (h : l.length + r.length ≤ 100000) : room (props l) (props r) 32 = true := by
  rw [tt_room, length_props, length_props]; omega
theorem room_one {l : List Pp} {p : Pp} (h : l.length ≤ 1000) : room (props l) [[.str p.k, .str p.v]] 32 = true := by
  rw [tt_room, length_props]; simp; omega
theorem F36.loop {l : List Pp} {d1 d2 : Pp} (hs : l.length ≤ 100000) (h1 : d1.k = kDeaths) (h2 : d2.k = kDied) : ∀ (post pre out : List Pp), l = pre ++ post → out.length ≤ 6 →
    Ev (fun n => F36.PL (props l) (props [d1, d2]) n (.l0 (props out) (pre.length : Int))) (.sl 0 2 (props (isort [] (keepL out post ++ [d1, d2]))))
  | [], pre, out, h, ho => by
    have hl := len_end h
    refine Ev.succ ?_
    have hk : keepL out [] = out := by simp [keepL]
    have hr : room (props out) (props [d1, d2]) 32 = true := room_props (by simp; omega)
    simp only [F36.PL, lenI_props, hk, hr, props_app]
    rw [SoP.of (by simp; omega)]
    (simp (disch := first | omega | rfl) only [PS, ite_t, ite_f, ↓bind_s, List.length_cons, List.length_nil, addW_eq, subW_eq, if_pos, if_neg])
    exact Ev.const
  | p :: post, pre, out, h, ho => by
    have hl := len_mid h
    have e1 : (pre.length : Int) + 1 = ((pre ++ [p]).length : Int) := by simp
    refine Ev.succ ?_
    have hm : ([d1, d2].any fun q => decide (q.k = p.k)) = !(bareP p) := by
      simp only [List.any_cons, List.any_nil, Bool.or_false, bareP, Bool.not_not, h1, h2]
      congr 1 <;> rw [decide_eq_decide] <;> exact eq_comm
    have hr : room (props out) [[.str p.k, .str p.v]] 32 = true := room_one (by omega)
    simp only [F36.PL, lenI_props, props_at h, ce_0, ce_s, toStr_str, F50.eq (o := [d1, d2]) (p := p) (by simp), hm, hr]
    rw [keepL_cons, props_snoc]
    have l2 : ([d1, d2] : List Pp).length = 2 := rfl
    rw [l2]
    cases hb : bareP p
    · have ih := F36.loop hs h1 h2 post (pre ++ [p]) out (by rw [h]; simp) ho
      rw [← e1] at ih
      (simp (disch := first | omega | rfl) only [PS, ite_t, ite_f, ↓bind_s, List.length_cons, List.length_nil, addW_eq, subW_eq, if_pos, if_neg])
      simpa using ih
    · by_cases hlt : out.length < 6
      · have ih := F36.loop hs h1 h2 post (pre ++ [p]) (out ++ [p]) (by rw [h]; simp) (by simp; omega)
        rw [← e1] at ih
        (simp (disch := first | omega | rfl) only [PS, ite_t, ite_f, ↓bind_s, List.length_cons, List.length_nil, addW_eq, subW_eq, if_pos, if_neg])
        simpa [hlt] using ih
      · have ih := F36.loop hs h1 h2 post (pre ++ [p]) out (by rw [h]; simp) ho
        rw [← e1] at ih
        (simp (disch := first | omega | rfl) only [PS, ite_t, ite_f, ↓bind_s, List.length_cons, List.length_nil, addW_eq, subW_eq, if_pos, if_neg])
        simpa [hlt] using ih
theorem F36.eq {l : List Pp} {d1 d2 : Pp} (hs : l.length ≤ 100000) (h1 : d1.k = kDeaths) (h2 : d2.k = kDied) : F36.P (props l) (props [d1, d2]) = some (.sl 0 2 (props (isort [] (keepL [] l ++ [d1, d2])))) :=
  lim_eq (F36.loop hs h1 h2 l [] [] rfl (by simp))
def deathsL (l : List Pp) : Int := deathsS (getL kDeaths l)
theorem deathsS_bounds (s : ByteArray) : 0 ≤ deathsS s ∧ deathsS s ≤ 1099511627776 := by
  unfold deathsS
  split
  · rename_i h
    simp only [Bool.and_eq_true, decide_eq_true_eq] at h
    omega
  · omega
def incr (d : Int) : Int := if 1099511627776 < d + 1 then 1099511627776 else d + 1
def noteD (l : List Pp) : Pp := ⟨kDeaths, itoaV (incr (deathsL l))⟩
def noteQ (q : ByteArray) (r : Int) : Pp := ⟨kDied, (q ++ (⟨#[32]⟩ : ByteArray)) ++ itoaV r⟩
def markL (q : ByteArray) (l : List Pp) (r : Int) : List Pp := isort [] (keepL [] l ++ [noteD l, noteQ q r])
theorem incr_eq {d : Int} (h : 0 ≤ d ∧ d ≤ 1099511627776) : cond (ltI 1099511627776 (addW .i64 d 1)) 1099511627776 (addW .i64 d 1) = incr d := by
  rw [addW_eq (by omega) (by omega)]
  unfold incr
  by_cases e : 1099511627776 < d + 1 <;> simp [ltI, e]
theorem incr_I64 {d : Int} (h : 0 ≤ d ∧ d ≤ 1099511627776) : I64 (incr d) := by
  unfold incr
  split <;> exact ⟨by omega, by omega⟩
theorem itoaV_size {n : Int} (h : I64 n) : (itoaV n).size ≤ 21 := by
  have := itoa_len h
  rw [bs_size, bs_itoa]; exact this
theorem size_app (a b : ByteArray) : (a ++ b).size = a.size + b.size := by rw [bs_size, bs_app, List.length_append, ← bs_size, ← bs_size]
section
variable {a0 a1 : ByteArray} {a2 : Int} {a3 : Bool} {a4 a5 : Int} {a6 : ByteArray} {a7 : Int}
theorem sizes {q : ByteArray} {r : Int} (hq : q.size ≤ 100000) (hr : I64 r) : Nat.ble (q.size + (⟨#[32]⟩ : ByteArray).size) 9223372036854775807 = true ∧ Nat.ble ((q ++ (⟨#[32]⟩ : ByteArray)).size + (itoaV r).size) 9223372036854775807 = true := by
  have h1 : (⟨#[32]⟩ : ByteArray).size = 1 := rfl
  have h2 := itoaV_size hr
  rw [tt_nble, tt_nble, size_app, h1]
  omega
theorem F19.eq {q : ByteArray} {l : List Pp} {r : Int} (hq : q.size ≤ 100000) (hr : I64 r) (hs : l.length ≤ 100000) :
    F19.P q a0 a1 a2 a3 a4 a5 a6 a7 (props l) r = some (.agg [.str a0, .str a1, .int .i64 a2, .bool a3, .int .i64 a4, .int .i64 0, .str a6, .int .i64 a7, .sl 0 2 (props (markL q l r))]) := by
  unfold F19.P
  obtain ⟨z1, z2⟩ := sizes hq hr
  have hd : 0 ≤ deathsL l ∧ deathsL l ≤ 1099511627776 := deathsS_bounds (getL kDeaths l)
  have h14 : F14.P a0 a1 a2 a3 a4 a5 a6 a7 (props l) = some (.int .i64 (deathsL l)) := F14.eq hs
  rw [h14]
  simp only [↓bind_s, isInt_i, if_true, toInt_int, incr_eq hd, ItoaP.of (incr_I64 hd), ItoaP.of hr, isStr_s, toStr_str, z1, z2]
  have h36 := F36.eq (d1 := noteD l) (d2 := noteQ q r) hs rfl rfl
  have e : props [noteD l, noteQ q r] = [[.str (⟨#[100, 101, 97, 116, 104, 115]⟩ : ByteArray), .str (itoaV (incr (deathsL l)))], [.str (⟨#[100, 105, 101, 100]⟩ : ByteArray), .str ((q ++ (⟨#[32]⟩ : ByteArray)) ++ itoaV r)]] := rfl
  rw [e] at h36
  change ((F36.P (props l) [[.str (⟨#[100, 101, 97, 116, 104, 115]⟩ : ByteArray), .str (itoaV (incr (deathsL l)))], [.str (⟨#[100, 105, 101, 100]⟩ : ByteArray), .str ((q ++ (⟨#[32]⟩ : ByteArray)) ++ itoaV r)]]).bind _) = _
  rw [h36]
  simp only [↓bind_s, isSl_s, if_true, slXs_sl]
  rfl
/-! The document's mark -/
def markR (q : ByteArray) (l : List Pp) (r : Int) : List Pp := putL (noteQ q r) (putL (noteD l) (keepL [] l))
theorem F24.loop {q : ByteArray} {l : List Pp} {r : Int} (hq : q.size ≤ 100000) (hr : I64 r) (hs : l.length ≤ 100000) : ∀ (post pre out : List Pp), l = pre ++ post → out.length ≤ 6 →
    Ev (fun n => F24.PL q a0 a1 a2 a3 a4 a5 a6 a7 (props l) r n (.l0 (props out) (pre.length : Int))) (.agg [.str a0, .str a1, .int .i64 a2, .bool a3, .int .i64 a4, .int .i64 0, .str a6, .int .i64 a7, .sl 0 2 (props (putL (noteQ q r) (putL (noteD l) (keepL out post))))])
  | [], pre, out, h, ho => by
    have hl := len_end h
    obtain ⟨z1, z2⟩ := sizes hq hr
    have hd := deathsS_bounds (getL kDeaths l)
    have h15 : F15.P a0 a1 a2 a3 a4 a5 a6 a7 (props l) = some (.int .i64 (deathsL l)) := F15.eq hs
    refine Ev.succ ?_
    have hk : keepL out [] = out := by simp [keepL]
    have p1 : PutP.P 2 (props out) [.agg [.str (⟨#[100, 101, 97, 116, 104, 115]⟩ : ByteArray), .str (itoaV (incr (deathsL l)))]] = some (props (putL (noteD l) out)) := PutP.of (by omega)
    have p2 : PutP.P 2 (props (putL (noteD l) out)) [.agg [.str (⟨#[100, 105, 101, 100]⟩ : ByteArray), .str ((q ++ (⟨#[32]⟩ : ByteArray)) ++ itoaV r)]] = some (props (putL (noteQ q r) (putL (noteD l) out))) := PutP.of (by rw [putL_len]; omega)
    have hend : ltI (pre.length : Int) (lenI (props l)) = false := by rw [lenI_props, ff_lt]; omega
    have hdd : (deathsS (getL kDeaths l)) = deathsL l := rfl
    rw [hdd] at hd
    simp only [F24.PL, hk, h15, hend, Bool.false_eq_true, if_false, ↓bind_s, isInt_i, if_true, toInt_int, incr_eq hd, ItoaP.of (incr_I64 hd), ItoaP.of hr, isStr_s, toStr_str, z1, z2, p1, p2]
    exact Ev.const
  | p :: post, pre, out, h, ho => by
    have hl := len_mid h
    have e1 : (pre.length : Int) + 1 = ((pre ++ [p]).length : Int) := by simp
    refine Ev.succ ?_
    have go : ∀ b : Bool, b = (bareP p && decide (out.length < 6)) → Ev (fun n => F24.PL q a0 a1 a2 a3 a4 a5 a6 a7 (props l) r n (.lR5 (props out) (pre.length : Int) b p.k p.v)) (.agg [.str a0, .str a1, .int .i64 a2, .bool a3, .int .i64 a4, .int .i64 0, .str a6, .int .i64 a7, .sl 0 2 (props (putL (noteQ q r) (putL (noteD l) (keepL out (p :: post)))))]) := by
      intro b hb
      refine Ev.succ ?_
      have hr' : room (props out) [[.str p.k, .str p.v]] 32 = true := room_one (by omega)
      have ea : addW .i64 (pre.length : Int) 1 = ((pre ++ [p]).length : Int) := by rw [addW_eq (by omega) (by omega), e1]
      simp only [F24.PL, hr', props_snoc, ea]
      rw [keepL_cons, ← hb]
      cases b
      · simpa using F24.loop hq hr hs post (pre ++ [p]) out (by rw [h]; simp) ho
      · have hlt : out.length < 6 := by
          have := hb.symm
          simp only [Bool.and_eq_true, decide_eq_true_eq] at this
          exact this.2
        simpa using F24.loop hq hr hs post (pre ++ [p]) (out ++ [p]) (by rw [h]; simp) (by simp; omega)
    simp only [F24.PL, lenI_props, props_at h, ce_0, ce_s, toStr_str]
    (simp (disch := first | omega | rfl) only [PS, ite_t, ite_f, ↓bind_s, List.length_cons, List.length_nil, addW_eq, subW_eq, if_pos, if_neg])
    by_cases h1 : p.k = kDeaths
    · have h1' : p.k = (⟨#[100, 101, 97, 116, 104, 115]⟩ : ByteArray) := h1
      simp only [h1', if_false, not_true]
      rw [← h1']
      exact go false (by simp [bareP, h1])
    · have h1' : ¬ p.k = (⟨#[100, 101, 97, 116, 104, 115]⟩ : ByteArray) := h1
      simp only [h1', if_true, not_false_eq_true]
      by_cases h2 : p.k = kDied
      · have h2' : p.k = (⟨#[100, 105, 101, 100]⟩ : ByteArray) := h2
        simp only [h2', if_false, not_true]
        rw [← h2']
        exact go false (by simp [bareP, h2])
      · have h2' : ¬ p.k = (⟨#[100, 105, 101, 100]⟩ : ByteArray) := h2
        simp only [h2', if_true, not_false_eq_true]
        refine go _ ?_
        simp [bareP, h1, h2, ltI]
        omega
theorem F24.eq {q : ByteArray} {l : List Pp} {r : Int} (hq : q.size ≤ 100000) (hr : I64 r) (hs : l.length ≤ 100000) :
    F24.P q a0 a1 a2 a3 a4 a5 a6 a7 (props l) r = some (.agg [.str a0, .str a1, .int .i64 a2, .bool a3, .int .i64 a4, .int .i64 0, .str a6, .int .i64 a7, .sl 0 2 (props (markR q l r))]) :=
  lim_eq (F24.loop hq hr hs l [] [] rfl (by simp))
end
end Go.Proofs.YtlaieomjooeofaaDoor.Ab
