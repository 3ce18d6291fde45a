/- Dead: what a mark says; texts taken apart. -/
import Derived.Test.YtlaieomjooeofaaDoorDe4
namespace Go.Proofs.YtlaieomjooeofaaDoor.Ab
open Go
set_option linter.unusedSimpArgs false

theorem bs_extract (s : ByteArray) (i j : Nat) : bs (s.extract i j) = ((bs s).take j).drop i := by
  simp [bs, ByteArray.data_extract, Array.toList_extract, List.extract, List.drop_take]

/-! Decimal numbers read back -/
theorem dec_digs : ∀ (n u : Nat), u ≤ n → digs (Lib.decDigits u) = true ∧ valL (Lib.decDigits u) = u
  | 0, u, h => by
    obtain rfl : u = 0 := by omega
    rw [Lib.decDigits_one (by omega)]
    decide
  | n + 1, u, h => by
    by_cases hu : u < 10
    · rw [Lib.decDigits_one hu]
      have : (UInt8.ofNat (48 + u)).toNat = 48 + u := UInt8.toNat_ofNat_of_lt' (by simp [UInt8.size]; omega)
      constructor
      · simp only [digs, List.all_cons, List.all_nil, Bool.and_true, this]
        exact digN_iff.2 ⟨by omega, by omega⟩
      · simp only [valL, List.foldl_cons, List.foldl_nil, valD, this]
        omega
    · obtain ⟨h1, h2⟩ := dec_digs n (u / 10) (by omega)
      rw [Lib.decDigits, dif_neg hu]
      have : (UInt8.ofNat (48 + u % 10)).toNat = 48 + u % 10 := UInt8.toNat_ofNat_of_lt' (by simp [UInt8.size]; omega)
      constructor
      · simp only [digs, List.all_append, List.all_cons, List.all_nil, Bool.and_true, this, Bool.and_eq_true]
        exact ⟨h1, digN_iff.2 ⟨by omega, by omega⟩⟩
      · rw [valL_snoc, h2, this]
        omega
theorem dec_len : ∀ (k u : Nat), 1 ≤ k → u < 10 ^ k → (Lib.decDigits u).length ≤ k
  | 0, u, h, _ => by omega
  | k + 1, u, _, h => by
    by_cases hu : u < 10
    · rw [Lib.decDigits_one hu]; simp
    · rw [Lib.decDigits, dif_neg hu, List.length_append, List.length_singleton]
      have hk : 1 ≤ k := by
        rcases Nat.eq_zero_or_pos k with rfl | hk
        · simp at h; omega
        · exact hk
      have := dec_len k (u / 10) hk (by rw [Nat.pow_succ] at h; omega)
      omega
theorem dec_canon (u : Nat) : canon (Lib.decDigits u) = true ∧ Lib.decDigits u ≠ [] := by
  obtain ⟨b, r, h1, h2⟩ := dec_head u u (Nat.le_refl _)
  rw [h1]
  refine ⟨?_, by simp⟩
  simp only [canon, Bool.not_eq_true', Bool.and_eq_false_iff, decide_eq_false_iff_not]
  by_cases h : b.toNat = 48
  · right; rw [(h2 h).1]; simp
  · exact .inl h
theorem bs_itoa_nat {n : Int} (h : 0 ≤ n) : bs (itoaV n) = Lib.decDigits n.toNat := by
  rw [bs_itoa]
  unfold Lib.itoa
  rw [if_neg (by omega)]
theorem deaths_itoa {n : Int} (h : 0 ≤ n ∧ n ≤ 1099511627776) : deathsS (itoaV n) = n := by
  unfold deathsS
  rw [bs_size, bs_itoa_nat h.1]
  obtain ⟨h1, h2⟩ := dec_digs n.toNat n.toNat (Nat.le_refl _)
  obtain ⟨h3, h4⟩ := dec_canon n.toNat
  have h5 := dec_len 13 n.toNat (by omega) (by omega)
  have h6 : 1 ≤ (Lib.decDigits n.toNat).length := by
    have : (Lib.decDigits n.toNat).length ≠ 0 := fun e => h4 (List.length_eq_zero_iff.1 e)
    omega
  rw [h1, h2, h3, decide_eq_true h6, decide_eq_true h5, decide_eq_true (by omega : n.toNat ≤ 1099511627776)]
  simp
  omega

/-! A mark's properties -/
theorem insR_mem {x y : Pp} : ∀ {l : List Pp}, y ∈ insR x l ↔ y = x ∨ y ∈ l
  | [] => by simp [insR]
  | q :: r => by
    simp only [insR]
    split
    · simp only [List.mem_cons, insR_mem (l := r)]
      exact ⟨fun h => by rcases h with h | h | h <;> simp [h], fun h => by rcases h with h | h | h <;> simp [h]⟩
    · simp
theorem isort_mem {y : Pp} : ∀ {l D : List Pp}, y ∈ isort D l ↔ y ∈ D ∨ y ∈ l
  | [], D => by simp [isort]
  | x :: r, D => by
    simp only [isort, isort_mem (l := r), List.mem_reverse, insR_mem, List.mem_cons]
    exact ⟨fun h => by rcases h with (h | h) | h <;> simp [h], fun h => by rcases h with h | h | h <;> simp [h]⟩
theorem getL_one {k v : ByteArray} : ∀ {l : List Pp}, (∀ p ∈ l, p.k = k → p.v = v) → (∃ p ∈ l, p.k = k) → getL k l = v
  | [], _, h => by obtain ⟨p, hp, _⟩ := h; cases hp
  | p :: r, h, hx => by
    simp only [getL]
    by_cases e : p.k = k
    · rw [if_pos e]; exact h p (by simp) e
    · rw [if_neg e]
      refine getL_one (fun q hq => h q (by simp [hq])) ?_
      obtain ⟨q, hq, hk⟩ := hx
      rcases List.mem_cons.1 hq with rfl | hq
      · exact absurd hk e
      · exact ⟨q, hq, hk⟩
theorem keepL_bare {l : List Pp} : ∀ p ∈ keepL [] l, p ∈ l ∧ p.k ≠ kDeaths ∧ p.k ≠ kDied := by
  intro p hp
  simp only [keepL, List.nil_append] at hp
  have := List.mem_filter.1 (List.mem_of_mem_take hp)
  refine ⟨this.1, ?_⟩
  simpa [bareP] using this.2
theorem markL_mem {q : ByteArray} {l : List Pp} {r : Int} {p : Pp} : p ∈ markL q l r ↔ p ∈ keepL [] l ∨ p = noteD l ∨ p = noteQ q r := by
  unfold markL
  rw [isort_mem]
  simp
theorem died_ne : kDied ≠ kDeaths := fun e => lt_ne deaths_died e.symm
theorem mark_deaths (q : ByteArray) (l : List Pp) (r : Int) : deathsL (markL q l r) = incr (deathsL l) := by
  unfold deathsL
  rw [getL_one (v := itoaV (incr (deathsL l)))]
  · have hd : 0 ≤ deathsL l ∧ deathsL l ≤ 1099511627776 := deathsS_bounds _
    refine deaths_itoa ?_
    unfold incr
    split <;> omega
  · intro p hp hk
    rcases markL_mem.1 hp with h | rfl | rfl
    · exact absurd hk (keepL_bare p h).2.1
    · rfl
    · exact absurd hk died_ne
  · exact ⟨noteD l, markL_mem.2 (.inr (.inl rfl)), rfl⟩
theorem mark_died (q : ByteArray) (l : List Pp) (r : Int) : getL kDied (markL q l r) = (q ++ (⟨#[32]⟩ : ByteArray)) ++ itoaV r := by
  refine getL_one ?_ ⟨noteQ q r, markL_mem.2 (.inr (.inr rfl)), rfl⟩
  intro p hp hk
  rcases markL_mem.1 hp with h | rfl | rfl
  · exact absurd hk (keepL_bare p h).2.2
  · exact absurd hk died_ne.symm
  · rfl
theorem index_app {c : UInt8} {r : List UInt8} : ∀ {l : List UInt8}, (∀ b ∈ l, b ≠ c) → Lib.indexByte (l ++ c :: r) c = l.length
  | [], _ => by simp [Lib.indexByte]
  | b :: l, h => by
    have hb : (b == c) = false := by simpa using h b (by simp)
    have ih := index_app (r := r) (l := l) fun x hx => h x (by simp [hx])
    simp only [List.cons_append, Lib.indexByte, hb, ih]
    have : ((l.length : Int) == -1) = false := by simp
    rw [this]
    simp
theorem cut_mark {q v : ByteArray} (h : keyL (bs q) = true) : cutV ((q ++ (⟨#[32]⟩ : ByteArray)) ++ v) = (q, v, true) := by
  have hb : bs ((q ++ (⟨#[32]⟩ : ByteArray)) ++ v) = bs q ++ 32 :: bs v := by rw [bs_app, bs_app]; simp [bs]
  have hc : cutAt ((q ++ (⟨#[32]⟩ : ByteArray)) ++ v) = ((bs q).length : Int) := by
    unfold cutAt
    rw [hb]
    refine index_app fun b hb e => ?_
    have := List.all_eq_true.1 h b hb
    rw [e] at this
    exact absurd this (by decide)
  unfold cutV
  rw [hc, if_pos (by omega), bs_size, hb]
  have e1 : ((q ++ (⟨#[32]⟩ : ByteArray)) ++ v).extract 0 ((bs q).length : Int).toNat = q := by
    apply bs_inj
    rw [bs_extract, hb]
    simp
  have e2 : ((q ++ (⟨#[32]⟩ : ByteArray)) ++ v).extract (((bs q).length : Int) + 1).toNat (bs q ++ 32 :: bs v).length = v := by
    apply bs_inj
    have : (((bs q).length : Int) + 1).toNat = (bs q).length + 1 := by omega
    rw [bs_extract, hb, this, List.take_length]
    simp
  rw [e1, e2]
theorem itoa_small {r : Int} (h1 : 1 ≤ r) (h2 : r ≤ 4) : bs (itoaV r) = [UInt8.ofNat (48 + r.toNat)] := by rw [bs_itoa_nat (by omega), Lib.decDigits_one (by omega)]
theorem from_mark {q : ByteArray} {l : List Pp} {r : Int} (hq : nameB q = true) (h1 : 1 ≤ r) (h2 : r ≤ 4) : fromS (getL kDied (markL q l r)) = (q, r) := by
  rw [mark_died]
  have hk : keyL (bs q) = true := by
    simp only [nameB, Bool.and_eq_true] at hq
    exact hq.2.2.2
  unfold fromS
  rw [cut_mark hk]
  have hs : (itoaV r).size = 1 := by rw [bs_size, itoa_small h1 h2]; rfl
  have hb : bt (itoaV r) 0 = 48 + r := by
    have := bt_mid (s := itoaV r) (pre := []) (post := []) (x := UInt8.ofNat (48 + r.toNat)) (by rw [itoa_small h1 h2]; rfl)
    have e : (UInt8.ofNat (48 + r.toNat)).toNat = 48 + r.toNat := UInt8.toNat_ofNat_of_lt' (by simp [UInt8.size]; omega)
    rw [e] at this
    simp only [List.length_nil] at this
    rw [show bt (itoaV r) 0 = bt (itoaV r) ((0 : Nat) : Int) from rfl, this]
    omega
  have hr : reasonB (itoaV r) = true := by
    unfold reasonB
    rw [hs, hb, decide_eq_true (by omega : (49 : Int) ≤ 48 + r), decide_eq_true (by omega : (48 : Int) + r ≤ 52)]
    rfl
  simp only [hq, hr, hb, Bool.and_true, if_true]
  congr 1
  omega
theorem keepL_srt {l : List Pp} (h : Srt l) : Srt (keepL [] l) := by
  simp only [keepL, List.nil_append]
  exact ((List.Pairwise.filter _ h).sublist (List.take_sublist _ _))
theorem mark_eq {q : ByteArray} {l : List Pp} {r : Int} (h : Srt l) : markL q l r = markR q l r :=
  isort_two (keepL_srt h) rfl rfl fun p hp => (keepL_bare p hp).2

/-! strings.Split at an empty separator -/
def oneB (c : UInt8) : List AV := [.str ⟨#[c]⟩]
theorem F72.loop {s : ByteArray} (hs : s.size ≤ 1000) (ha : ∀ b ∈ bs s, b.toNat < 128) : ∀ (k i : Nat), s.size = i + k → Ev (fun n => F72.PL s n (.l0 (i : Int) i)) (.int .i64 (s.size : Int))
  | 0, i, h => by
    refine Ev.succ ?_
    simp only [F72.PL]
    have : i = s.size := by omega
    (simp (disch := first | omega | rfl) only [PS, ite_t, ite_f, ↓bind_s, List.length_cons, List.length_nil, addW_eq, subW_eq, if_pos, if_neg])
    rw [this]
    exact Ev.const
  | k + 1, i, h => by
    refine Ev.succ ?_
    have hlt : i < s.size := by omega
    have hl : i < (bs s).length := by rw [← bs_size]; exact hlt
    simp only [F72.PL]
    rw [decode_at_ascii hlt (ha _ (List.getElem_mem _))]
    have ih := F72.loop hs ha k (i + 1) (by omega)
    (simp (disch := first | omega | rfl) only [PS, ite_t, ite_f, ↓bind_s, List.length_cons, List.length_nil, addW_eq, subW_eq, if_pos, if_neg])
    simpa using ih
theorem F72.eq {s : ByteArray} (hs : s.size ≤ 1000) (ha : ∀ b ∈ bs s, b.toNat < 128) : F72.P s = some (.int .i64 (s.size : Int)) := lim_eq (by simpa using F72.loop hs ha s.size 0 (by omega))
theorem F73.eq {s : ByteArray} {b : UInt8} {r : List UInt8} (h : bs s = b :: r) (ha : b.toNat < 128) : ∃ c : Int, F73.P s = some (.tup [.int .i32 c, .int .i64 1]) := by
  have e0 : bt s 0 = (b.toNat : Int) := bt_mid (pre := []) h
  have hz : sizeI s = ((r.length + 1 : Nat) : Int) := by rw [sizeI_bs, h]; rfl
  have hne : eqS s (⟨#[]⟩ : ByteArray) = false := by
    have : s ≠ ⟨#[]⟩ := fun e => by rw [e] at h; simp [bs] at h
    simpa [eqS] using this
  refine ⟨IntKind.i32.wrap (bt s 0), ?_⟩
  unfold F73.P
  rw [hne, hz, e0]
  (simp (disch := first | omega | rfl) only [PS, ite_t, ite_f, ↓bind_s, List.length_cons, List.length_nil, addW_eq, subW_eq, if_pos, if_neg])
theorem F58.loop {a0 : ByteArray} {m : Nat} (hm : m ≤ 1000) : ∀ (post pre : List UInt8) (x : ByteArray), bs x = post → post ≠ [] → m = pre.length + post.length → (∀ b ∈ post, b.toNat < 128) →
    Ev (fun n => F58.PL a0 (-1) n (.l0 x (m : Int) (pre.map oneB ++ List.replicate post.length [.str (⟨#[]⟩ : ByteArray)]) (pre.length : Int))) (.sl 0 1 ((pre ++ post).map oneB))
  | [], _, _, _, hne, _, _ => absurd rfl hne
  | [c], pre, x, hx, _, h, ha => by
    have hl : m = pre.length + 1 := h
    have hx' : x = ⟨#[c]⟩ := bs_inj (by rw [hx]; rfl)
    refine Ev.succ ?_
    have hlen : lenI (pre.map oneB ++ List.replicate [c].length [AV.str (⟨#[]⟩ : ByteArray)]) = ((pre.length + 1 : Nat) : Int) := by simp [lenI]
    have hi : (subW .i64 (m : Int) 1) = (pre.length : Int) := by rw [subW_eq (by omega) (by omega)]; omega
    have hro : ro (pre.map oneB ++ List.replicate [c].length [AV.str (⟨#[]⟩ : ByteArray)]) (pre.length : Int).toNat = [.str ⟨#[]⟩] := by simp [ro]
    simp only [F58.PL, hlen, hi, hro]
    (simp (disch := first | omega | rfl) only [PS, ite_t, ite_f, ↓bind_s, List.length_cons, List.length_nil, addW_eq, subW_eq, if_pos, if_neg])
    have : (pre.map oneB ++ List.replicate [c].length [AV.str (⟨#[]⟩ : ByteArray)]).set (pre.length : Int).toNat ([AV.str (⟨#[]⟩ : ByteArray)].set 0 (.str x)) = (pre ++ [c]).map oneB := by
      rw [hx']
      simp [oneB]
    try simp only [List.length_cons, List.length_nil, Nat.zero_add] at this
    rw [this]
    exact Ev.const
  | c :: d :: post, pre, x, hx, _, h, ha => by
    have hl : m = pre.length + (post.length + 2) := h
    obtain ⟨v, hv⟩ := F73.eq hx (ha c (by simp))
    have hz : sizeI x = ((post.length + 2 : Nat) : Int) := by rw [sizeI_bs, hx]; rfl
    have hx1 : x.extract 0 1 = ⟨#[c]⟩ := bs_inj (by rw [bs_extract, hx]; rfl)
    have hx2 : bs (x.extract 1 (post.length + 2)) = d :: post := by rw [bs_extract, hx]; simp
    have ih := F58.loop (a0 := a0) hm (d :: post) (pre ++ [c]) (x.extract 1 (post.length + 2)) hx2 (by simp) (by simp; omega) (fun b hb => ha b (by simp at hb ⊢; exact .inr hb))
    refine Ev.succ ?_
    have hlen : lenI (pre.map oneB ++ List.replicate (c :: d :: post).length [AV.str (⟨#[]⟩ : ByteArray)]) = ((pre.length + (post.length + 2) : Nat) : Int) := by simp [lenI]; omega
    have hi : (subW .i64 (m : Int) 1) = ((pre.length + (post.length + 1) : Nat) : Int) := by rw [subW_eq (by omega) (by omega)]; omega
    have hro : ro (pre.map oneB ++ List.replicate (c :: d :: post).length [AV.str (⟨#[]⟩ : ByteArray)]) (pre.length : Int).toNat = [.str ⟨#[]⟩] := by simp [ro]
    have e1 : (pre.length : Int) + 1 = ((pre ++ [c]).length : Int) := by simp
    have hset : (pre.map oneB ++ List.replicate (c :: d :: post).length [AV.str (⟨#[]⟩ : ByteArray)]).set (pre.length : Int).toNat ([AV.str (⟨#[]⟩ : ByteArray)].set 0 (.str (x.extract 0 1))) = (pre ++ [c]).map oneB ++ List.replicate (d :: post).length [AV.str (⟨#[]⟩ : ByteArray)] := by
      rw [hx1]
      simp [oneB, List.replicate_succ]
    have t1 : (1 : Int).toNat = 1 := rfl
    have t2 : (((post.length + 2 : Nat) : Int)).toNat = post.length + 2 := rfl
    have t3 : (AV.tup [.int .i32 v, .int .i64 1]).tupVs = [.int .i32 v, .int .i64 1] := rfl
    simp only [F58.PL, hlen, hi, hro, hv, hz, ↓bind_s, t3, tail_c, headD_c, toInt_int, t1, t2, hset]
    (simp (disch := first | omega | rfl) only [PS, ite_t, ite_f, ↓bind_s, List.length_cons, List.length_nil, addW_eq, subW_eq, if_pos, if_neg])
    rw [e1]
    simpa using ih
theorem F27.eq {s : ByteArray} (h1 : 1 ≤ s.size) (hs : s.size ≤ 1000) (ha : ∀ b ∈ bs s, b.toNat < 128) : F27.P s ⟨#[]⟩ = some (.sl 0 1 ((bs s).map oneB)) := by
  have hz : s.size = (bs s).length := bs_size s
  have h58 : F58.P s (-1) = some (.sl 0 1 ((bs s).map oneB)) := by
    refine lim_eq ?_
    rw [F72.eq hs ha]
    have hne : bs s ≠ [] := fun e => by rw [hz, e] at h1; simp at h1
    have := F58.loop (a0 := s) (m := s.size) hs (bs s) [] s rfl hne (by simp [hz]) ha
    have hr : roomN (s.size : Int) 16 = true := by rw [tt_roomN]; omega
    have he : eqI (s.size : Int) (s.size : Int) = true := eqI_self _
    have t2 : ((s.size : Int)).toNat = s.size := rfl
    simp only [↓bind_s, isInt_i, toInt_int, hr, he, if_true, t2]
    (simp (disch := first | omega | rfl) only [PS, ite_t, ite_f, ↓bind_s, List.length_cons, List.length_nil, addW_eq, subW_eq, if_pos, if_neg])
    rw [hz] at this ⊢
    simpa using this
  have h44 : F44.P s ⟨#[]⟩ 0 (-1) = some (.sl 0 1 ((bs s).map oneB)) := by
    refine lim_eq ?_
    rw [h58]
    have e1 : eqI (-1) 0 = false := rfl
    have e2 : eqS (⟨#[]⟩ : ByteArray) ⟨#[]⟩ = true := eqS_self _
    simp only [e1, e2, Bool.false_eq_true, if_false, if_true, ↓bind_s, isSl_s, slXs_sl]
    exact Ev.const
  unfold F27.P
  rw [h44]
  simp only [↓bind_s, isSl_s, if_true, slXs_sl]
end Go.Proofs.YtlaieomjooeofaaDoor.Ab
