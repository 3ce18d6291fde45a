/- Heal: merging, differences and setting, in plain terms. -/
import Derived.Test.YtkjmkhgaghighaaHealSort
namespace Go.Proofs.Ytkjmkhgaghighaa.Ab
open Go

/-! The order of cells with one key -/
theorem prevB_iff (a b : Cl) : prevB a b = true ↔ (b.epoch < a.epoch ∨ (a.epoch = b.epoch ∧ (b.node < a.node ∨ (a.node = b.node ∧ ((a.gone = false ∧ b.gone = true) ∨ (a.gone = b.gone ∧ ltS b.value a.value = true)))))) := by
  unfold prevB higher
  by_cases e : a.epoch = b.epoch ∧ a.node = b.node
  · rw [if_pos e]
    have e1 := e.1
    have e2 := e.2
    cases ha : a.gone <;> cases hb : b.gone <;> simp [e1, e2]
  · rw [if_neg e]
    by_cases e1 : a.epoch = b.epoch
    · have e2 : ¬ a.node = b.node := fun h => e ⟨e1, h⟩
      simp [e1, e2]
    · simp [e1]
theorem prev_irr (a : Cl) : prevB a a = false := by
  cases h : prevB a a with
  | false => rfl
  | true =>
    rw [prevB_iff] at h
    rcases h with h | ⟨_, h | ⟨_, ⟨h1, h2⟩ | ⟨_, h⟩⟩⟩
    · omega
    · omega
    · rw [h1] at h2; cases h2
    · rw [lt_irr] at h; cases h
theorem prev_tr {a b c : Cl} (h : prevB a b = true) (k : prevB b c = true) : prevB a c = true := by
  rw [prevB_iff] at *
  rcases h with h | ⟨h0, h | ⟨h1, h⟩⟩
  · rcases k with k | ⟨k0, _⟩
    · left; omega
    · left; omega
  · rcases k with k | ⟨k0, k | ⟨k1, _⟩⟩
    · left; omega
    · right; exact ⟨by omega, .inl (by omega)⟩
    · right; exact ⟨by omega, .inl (by omega)⟩
  · rcases k with k | ⟨k0, k | ⟨k1, k⟩⟩
    · left; omega
    · right; exact ⟨by omega, .inl (by omega)⟩
    · right
      refine ⟨by omega, .inr ⟨by omega, ?_⟩⟩
      rcases h with ⟨h2, h3⟩ | ⟨h2, h3⟩
      · rcases k with ⟨k2, k3⟩ | ⟨k2, k3⟩
        · rw [h3] at k2; cases k2
        · exact .inl ⟨h2, k2 ▸ h3⟩
      · rcases k with ⟨k2, k3⟩ | ⟨k2, k3⟩
        · exact .inl ⟨h2.trans k2, k3⟩
        · exact .inr ⟨h2.trans k2, lt_tr k3 h3⟩
theorem prev_tri {a b : Cl} (hk : a.key = b.key) (h : prevB a b = false) (k : prevB b a = false) : a = b := by
  have h' : ¬ prevB a b = true := by simp [h]
  have k' : ¬ prevB b a = true := by simp [k]
  rw [prevB_iff] at h' k'
  have e0 : a.epoch = b.epoch := by
    rcases Int.lt_trichotomy a.epoch b.epoch with q | q | q
    · exact absurd (.inl q) k'
    · exact q
    · exact absurd (.inl q) h'
  have e1 : a.node = b.node := by
    rcases Int.lt_trichotomy a.node b.node with q | q | q
    · exact absurd (.inr ⟨e0.symm, .inl q⟩) k'
    · exact q
    · exact absurd (.inr ⟨e0, .inl q⟩) h'
  have h2 : ¬ ((a.gone = false ∧ b.gone = true) ∨ (a.gone = b.gone ∧ ltS b.value a.value = true)) := fun q => h' (.inr ⟨e0, .inr ⟨e1, q⟩⟩)
  have k2 : ¬ ((b.gone = false ∧ a.gone = true) ∨ (b.gone = a.gone ∧ ltS a.value b.value = true)) := fun q => k' (.inr ⟨e0.symm, .inr ⟨e1.symm, q⟩⟩)
  have e2 : a.gone = b.gone := by
    cases ha : a.gone <;> cases hb : b.gone
    · rfl
    · exact absurd (.inl ⟨ha, hb⟩) h2
    · exact absurd (.inl ⟨hb, ha⟩) k2
    · rfl
  have e3 : a.value = b.value := by
    cases p : ltS a.value b.value with
    | true => exact absurd (.inr ⟨e2.symm, p⟩) k2
    | false =>
      cases q : ltS b.value a.value with
      | true => exact absurd (.inr ⟨e2, q⟩) h2
      | false => exact lt_tri p q
  cases a; cases b
  simp only at *
  subst hk e0 e1 e2 e3
  rfl
theorem prev_asymm {a b : Cl} (h : prevB a b = true) : prevB b a = false := by
  cases k : prevB b a with
  | false => rfl
  | true => have := prev_tr h k; rw [prev_irr] at this; cases this
theorem prev_ne {a b : Cl} (h : prevB a b = true) : a ≠ b := fun e => by rw [e, prev_irr] at h; cases h

/-! Of two cells of a key the one that prevails -/
def top2 (a b : Cl) : Cl := if prevB b a then b else a
def comb : Option Cl → Option Cl → Option Cl
  | none, y => y
  | some a, none => some a
  | some a, some b => some (top2 a b)
def Of (k : ByteArray) (x : Option Cl) : Prop := ∀ c, x = some c → c.key = k
theorem look_of (xs : List Cl) (k : ByteArray) : Of k (look xs k) := fun _ h => look_key h
theorem comb_of {k : ByteArray} {x y : Option Cl} (hx : Of k x) (hy : Of k y) : Of k (comb x y) := by
  cases x with
  | none => exact hy
  | some a =>
    cases y with
    | none => exact hx
    | some b =>
      intro c h
      simp only [comb, Option.some.injEq, top2] at h
      split at h
      · exact h ▸ hy _ rfl
      · exact h ▸ hx _ rfl
theorem comb_comm {k : ByteArray} {x y : Option Cl} (hx : Of k x) (hy : Of k y) : comb x y = comb y x := by
  cases x with
  | none => cases y <;> rfl
  | some a =>
    cases y with
    | none => rfl
    | some b =>
      simp only [comb, top2, Option.some.injEq]
      cases h : prevB b a with
      | true => simp [prev_asymm h]
      | false =>
        cases h' : prevB a b with
        | true => simp
        | false => simpa using prev_tri ((hx a rfl).trans (hy b rfl).symm) h' h
theorem comb_self (x : Option Cl) : comb x x = x := by
  cases x with
  | none => rfl
  | some a => simp [comb, top2]
theorem comb_assoc {k : ByteArray} {x y z : Option Cl} (hx : Of k x) (hy : Of k y) (hz : Of k z) : comb (comb x y) z = comb x (comb y z) := by
  cases x with
  | none => rfl
  | some a =>
    cases y with
    | none => rfl
    | some b =>
      cases z with
      | none => rfl
      | some c =>
        simp only [comb, top2, Option.some.injEq]
        cases h1 : prevB b a with
        | true =>
          simp only [if_true]
          cases h2 : prevB c b with
          | true => simp [prev_tr h2 h1]
          | false => simp [h1]
        | false =>
          simp only [Bool.false_eq_true, if_false]
          cases h2 : prevB c b with
          | true => simp
          | false =>
            simp only [Bool.false_eq_true, if_false, h1]
            cases h3 : prevB c a with
            | false => simp
            | true =>
              cases h4 : prevB a b with
              | true => rw [prev_tr h3 h4] at h2; cases h2
              | false =>
                have : a = b := prev_tri ((hx a rfl).trans (hy b rfl).symm) h4 h1
                rw [this] at h3
                rw [h3] at h2; cases h2

/-! merge -/
theorem mem_mg {c : Cl} : ∀ (us ws : List Cl), c ∈ mg one1' both1 us ws → c ∈ us ∨ c ∈ ws
  | [], [], h => by simp [mg] at h
  | a :: us, [], h => by
    rw [mg, List.mem_append] at h
    rcases h with h | h
    · exact .inl (by simp [one1'] at h; simp [h])
    · exact (mem_mg us [] h).elim (fun q => .inl (by simp [q])) .inr
  | [], b :: ws, h => by
    rw [mg, List.mem_append] at h
    rcases h with h | h
    · exact .inr (by simp [one1'] at h; simp [h])
    · exact (mem_mg [] ws h).elim .inl (fun q => .inr (by simp [q]))
  | a :: us, b :: ws, h => by
    rw [mg] at h
    split at h
    · rw [List.mem_append] at h
      rcases h with h | h
      · exact .inl (by simp [one1'] at h; simp [h])
      · exact (mem_mg us (b :: ws) h).elim (fun q => .inl (by simp [q])) .inr
    · split at h
      · rw [List.mem_append] at h
        rcases h with h | h
        · exact .inr (by simp [one1'] at h; simp [h])
        · exact (mem_mg (a :: us) ws h).elim .inl (fun q => .inr (by simp [q]))
      · rw [List.mem_append] at h
        rcases h with h | h
        · unfold both1 at h
          split at h
          · exact .inr (by simp at h; simp [h])
          · exact .inl (by simp at h; simp [h])
        · exact (mem_mg us ws h).elim (fun q => .inl (by simp [q])) (fun q => .inr (by simp [q]))
  termination_by us ws => us.length + ws.length
theorem both1_eq (a b : Cl) : both1 a b = [top2 a b] := by unfold both1 top2; split <;> rfl
theorem top2_key {a b : Cl} (h : a.key = b.key) : (top2 a b).key = a.key := by unfold top2; split <;> simp [h]
theorem srt_nil : Srt [] := List.Pairwise.nil
theorem srt_cons {c : Cl} {xs : List Cl} : Srt (c :: xs) ↔ (∀ d ∈ xs, ltS c.key d.key = true) ∧ Srt xs := List.pairwise_cons
theorem mg_srt : ∀ {us ws : List Cl}, Srt us → Srt ws → Srt (mg one1' both1 us ws)
  | [], [], _, _ => by rw [mg]; exact srt_nil
  | a :: us, [], hu, hw => by
    rw [mg]
    have hu' := srt_cons.1 hu
    exact srt_cons.2 ⟨fun d hd => (mem_mg us [] hd).elim (hu'.1 d) (by simp), mg_srt hu'.2 hw⟩
  | [], b :: ws, hu, hw => by
    rw [mg]
    have hw' := srt_cons.1 hw
    exact srt_cons.2 ⟨fun d hd => (mem_mg [] ws hd).elim (by simp) (hw'.1 d), mg_srt hu hw'.2⟩
  | a :: us, b :: ws, hu, hw => by
    rw [mg]
    have hu' := srt_cons.1 hu
    have hw' := srt_cons.1 hw
    cases h1 : ltS a.key b.key with
    | true =>
      rw [if_pos rfl]
      refine srt_cons.2 ⟨fun d hd => (mem_mg us (b :: ws) hd).elim (hu'.1 d) fun q => ?_, mg_srt hu'.2 hw⟩
      rcases List.mem_cons.1 q with rfl | q
      · exact h1
      · exact lt_tr h1 (hw'.1 d q)
    | false =>
      rw [if_neg (by simp)]
      cases h2 : ltS b.key a.key with
      | true =>
        rw [if_pos rfl]
        refine srt_cons.2 ⟨fun d hd => (mem_mg (a :: us) ws hd).elim (fun q => ?_) (hw'.1 d), mg_srt hu hw'.2⟩
        rcases List.mem_cons.1 q with rfl | q
        · exact h2
        · exact lt_tr h2 (hu'.1 d q)
      | false =>
        rw [if_neg (by simp), both1_eq]
        have hk := lt_tri h1 h2
        refine srt_cons.2 ⟨fun d hd => ?_, mg_srt hu'.2 hw'.2⟩
        rw [top2_key hk]
        exact (mem_mg us ws hd).elim (hu'.1 d) fun q => hk ▸ hw'.1 d q
  termination_by us ws => us.length + ws.length
theorem look_mg : ∀ {us ws : List Cl}, Srt us → Srt ws → ∀ k, look (mg one1' both1 us ws) k = comb (look us k) (look ws k)
  | [], [], _, _, k => by rw [mg]; rfl
  | a :: us, [], hu, hw, k => by
    rw [mg, one1', List.singleton_append, look_cons, look_cons, look_mg (srt_cons.1 hu).2 hw]
    split <;> simp [comb, look_nil]
  | [], b :: ws, hu, hw, k => by
    rw [mg, one1', List.singleton_append, look_cons, look_cons, look_mg hu (srt_cons.1 hw).2]
    split <;> simp [comb, look_nil]
  | a :: us, b :: ws, hu, hw, k => by
    rw [mg]
    cases h1 : ltS a.key b.key with
    | true =>
      rw [if_pos rfl, one1', List.singleton_append, look_cons, look_mg (srt_cons.1 hu).2 hw, look_cons (c := a)]
      by_cases e : a.key = k
      · rw [if_pos e, if_pos e, look_low hw (e ▸ h1)]; rfl
      · rw [if_neg e, if_neg e]
    | false =>
      rw [if_neg (by simp)]
      cases h2 : ltS b.key a.key with
      | true =>
        rw [if_pos rfl, one1', List.singleton_append, look_cons, look_mg hu (srt_cons.1 hw).2, look_cons (c := b)]
        by_cases e : b.key = k
        · rw [if_pos e, if_pos e, look_low hu (e ▸ h2)]; rfl
        · rw [if_neg e, if_neg e]
      | false =>
        rw [if_neg (by simp), both1_eq, List.singleton_append, look_cons, look_mg (srt_cons.1 hu).2 (srt_cons.1 hw).2, look_cons, look_cons]
        have hk := lt_tri h1 h2
        rw [top2_key hk, ← hk]
        by_cases e : a.key = k
        · rw [if_pos e, if_pos e, if_pos e]; rfl
        · rw [if_neg e, if_neg e, if_neg e]
  termination_by us ws => us.length + ws.length
theorem mergeH_srt {xs ys : List Cl} (hx : Srt xs) (hy : Srt ys) : Srt (mergeH xs ys) := mg_srt hx hy
theorem look_mergeH {xs ys : List Cl} (hx : Srt xs) (hy : Srt ys) (k : ByteArray) : look (mergeH xs ys) k = comb (look xs k) (look ys k) := look_mg hx hy k
theorem mergeH_len : ∀ (us ws : List Cl), (mg one1' both1 us ws).length ≤ us.length + ws.length
  | [], [] => by rw [mg]; simp
  | a :: us, [] => by rw [mg]; have := mergeH_len us []; simp [one1'] at *; omega
  | [], b :: ws => by rw [mg]; have := mergeH_len [] ws; simp [one1'] at *; omega
  | a :: us, b :: ws => by
    rw [mg]
    split
    · have := mergeH_len us (b :: ws); simp [one1'] at *; omega
    · split
      · have := mergeH_len (a :: us) ws; simp [one1'] at *; omega
      · have := mergeH_len us ws; rw [both1_eq]; simp at *; omega
  termination_by us ws => us.length + ws.length

/-! The reference's merging -/
def addR (out : List Cl) (c : Cl) : List Cl := match look out c.key with | none => putL out c | some d => if prevB c d then putL out c else out
def mergeR (xs ys : List Cl) : List Cl := ys.foldl addR xs
theorem putL_len (xs : List Cl) (d : Cl) : (putL xs d).length ≤ xs.length + 1 := by
  unfold putL
  have : ∀ l : List Cl, (l.filter (fun x => ltS x.key d.key)).length + (l.filter (fun x => ltS d.key x.key)).length ≤ l.length := by
    intro l
    induction l with
    | nil => simp
    | cons c l ih =>
      cases h1 : ltS c.key d.key with
      | true => simp [List.filter_cons, h1, lt_asymm h1]; omega
      | false => cases h2 : ltS d.key c.key <;> simp [List.filter_cons, h1, h2] <;> omega
  have := this xs
  simp only [List.length_append, List.length_cons]
  omega
theorem addR_len (xs : List Cl) (d : Cl) : (addR xs d).length ≤ xs.length + 1 := by
  have := putL_len xs d
  unfold addR
  split
  · exact this
  · split <;> omega
theorem addR_srt {xs : List Cl} (hs : Srt xs) (d : Cl) : Srt (addR xs d) := by
  unfold addR
  split
  · exact putL_srt hs d
  · split
    · exact putL_srt hs d
    · exact hs
theorem look_addR {xs : List Cl} (hs : Srt xs) (d : Cl) (k : ByteArray) : look (addR xs d) k = comb (look xs k) (if d.key = k then some d else none) := by
  unfold addR
  by_cases e : d.key = k
  · subst e
    rw [if_pos rfl]
    cases h : look xs d.key with
    | none => simp only; rw [look_putL hs, if_pos rfl]; rfl
    | some c =>
      simp only [comb, top2]
      cases hp : prevB d c with
      | true => simp only [if_true]; rw [look_putL hs, if_pos rfl]
      | false => simpa using h
  · rw [if_neg e]
    have : look (putL xs d) k = look xs k := by rw [look_putL hs, if_neg e]
    have hc : comb (look xs k) none = look xs k := by cases look xs k <;> rfl
    rw [hc]
    split
    · exact this
    · split
      · exact this
      · rfl
theorem mergeR_len : ∀ (ys xs : List Cl), (mergeR xs ys).length ≤ xs.length + ys.length
  | [], xs => by simp [mergeR]
  | d :: ys, xs => by have := mergeR_len ys (addR xs d); have := addR_len xs d; simp only [mergeR, List.foldl_cons, List.length_cons] at *; omega
theorem mergeR_srt : ∀ {ys xs : List Cl}, Srt xs → Srt (mergeR xs ys)
  | [], _, h => h
  | d :: ys, xs, h => mergeR_srt (ys := ys) (addR_srt h d)
theorem look_mergeR : ∀ {ys xs : List Cl}, Srt xs → Srt ys → ∀ k, look (mergeR xs ys) k = comb (look xs k) (look ys k)
  | [], xs, _, _, k => by simp only [mergeR, List.foldl_nil, look_nil]; cases look xs k <;> rfl
  | d :: ys, xs, h, hy, k => by
    have := look_mergeR (ys := ys) (addR_srt h d) (srt_cons.1 hy).2 k
    simp only [mergeR, List.foldl_cons] at *
    rw [this, look_addR h, look_cons]
    by_cases e : d.key = k
    · subst e
      rw [if_pos rfl, if_pos rfl]
      have : look ys d.key = none := look_none.2 fun c hc q => by have := (srt_cons.1 hy).1 c hc; rw [q, lt_irr] at this; cases this
      rw [this]
      cases look xs d.key <;> rfl
    · rw [if_neg e, if_neg e]
      cases look xs k <;> rfl
theorem merge_eq {xs ys : List Cl} (hx : Srt xs) (hy : Srt ys) : mergeH xs ys = mergeR xs ys :=
  srt_ext (mergeH_srt hx hy) (mergeR_srt hx) fun k => by rw [look_mergeH hx hy, look_mergeR hx hy]

/-! Differences -/
def SrtS (l : List ByteArray) : Prop := l.Pairwise fun a b => ltS a b = true
theorem srtS_cons {c : ByteArray} {xs : List ByteArray} : SrtS (c :: xs) ↔ (∀ d ∈ xs, ltS c d = true) ∧ SrtS xs := List.pairwise_cons
theorem srtS_ext : ∀ {xs ys : List ByteArray}, SrtS xs → SrtS ys → (∀ k, k ∈ xs ↔ k ∈ ys) → xs = ys
  | [], [], _, _, _ => rfl
  | [], d :: ys, _, _, h => by have := (h d).2 (by simp); simp at this
  | c :: xs, [], _, _, h => by have := (h c).1 (by simp); simp at this
  | c :: xs, d :: ys, hx, hy, h => by
    have hx' := srtS_cons.1 hx
    have hy' := srtS_cons.1 hy
    have hcd : c = d := by
      rcases List.mem_cons.1 ((h c).1 (by simp)) with q | q
      · exact q
      · rcases List.mem_cons.1 ((h d).2 (by simp)) with r | r
        · exact r.symm
        · have := lt_tr (hy'.1 c q) (hx'.1 d r); rw [lt_irr] at this; cases this
    subst hcd
    congr 1
    refine srtS_ext hx'.2 hy'.2 fun k => ⟨fun q => ?_, fun q => ?_⟩
    · rcases List.mem_cons.1 ((h k).1 (by simp [q])) with r | r
      · have := hx'.1 k q; rw [r, lt_irr] at this; cases this
      · exact r
    · rcases List.mem_cons.1 ((h k).2 (by simp [q])) with r | r
      · have := hy'.1 k q; rw [r, lt_irr] at this; cases this
      · exact r
theorem srtS_len : ∀ {ys xs : List ByteArray}, SrtS xs → SrtS ys → (∀ k ∈ xs, k ∈ ys) → xs.length ≤ ys.length
  | [], xs, _, _, h => by
    cases xs with
    | nil => simp
    | cons c xs => have := h c (by simp); simp at this
  | d :: ys, [], _, _, _ => by simp
  | d :: ys, c :: xs, hx, hy, h => by
    have hx' := srtS_cons.1 hx
    have hy' := srtS_cons.1 hy
    by_cases e : c = d
    · subst e
      have := srtS_len hx'.2 hy'.2 fun k hk => by
        rcases List.mem_cons.1 (h k (by simp [hk])) with r | r
        · have := hx'.1 k hk; rw [r, lt_irr] at this; cases this
        · exact r
      simp; exact this
    · have hc : c ∈ ys := by rcases List.mem_cons.1 (h c (by simp)) with r | r; exact absurd r e; exact r
      have := srtS_len hx hy'.2 fun k hk => by
        rcases List.mem_cons.1 (h k hk) with r | r
        · rcases List.mem_cons.1 hk with q | q
          · exact absurd (q.symm.trans r) e
          · have := lt_tr (hy'.1 c hc) (hx'.1 k q); rw [r, lt_irr] at this; cases this
        · exact r
      simp only [List.length_cons] at *
      omega
theorem look_none_lt {ws : List Cl} {k : ByteArray} (h : ∀ d ∈ ws, ltS k d.key = true) : look ws k = none := look_none.2 fun c hc q => by have := h c hc; rw [q, lt_irr] at this; cases this
theorem mem_mg2 {k : ByteArray} : ∀ {us ws : List Cl}, Srt us → Srt ws → (k ∈ mg one2 both2 us ws ↔ look us k ≠ look ws k)
  | [], [], _, _ => by simp [mg, look_nil]
  | a :: us, [], hu, hw => by
    rw [mg, List.mem_append, mem_mg2 (srt_cons.1 hu).2 hw, look_cons, look_nil, one2, List.mem_singleton]
    by_cases e : a.key = k
    · simp [e]
    · simp [e, Ne.symm e]
  | [], b :: ws, hu, hw => by
    rw [mg, List.mem_append, mem_mg2 hu (srt_cons.1 hw).2, look_cons, look_nil, one2, List.mem_singleton]
    by_cases e : b.key = k
    · simp [e]
    · simp [e, Ne.symm e]
  | a :: us, b :: ws, hu, hw => by
    rw [mg]
    cases h1 : ltS a.key b.key with
    | true =>
      rw [if_pos rfl, List.mem_append, mem_mg2 (srt_cons.1 hu).2 hw, look_cons (c := a), one2, List.mem_singleton]
      by_cases e : a.key = k
      · subst e
        rw [if_pos rfl, look_low hw h1]
        simp
      · rw [if_neg e]
        simp [Ne.symm e]
    | false =>
      rw [if_neg (by simp)]
      cases h2 : ltS b.key a.key with
      | true =>
        rw [if_pos rfl, List.mem_append, mem_mg2 hu (srt_cons.1 hw).2, look_cons (c := b), one2, List.mem_singleton]
        by_cases e : b.key = k
        · subst e
          rw [if_pos rfl, look_low hu h2]
          simp
        · rw [if_neg e]
          simp [Ne.symm e]
      | false =>
        have hk := lt_tri h1 h2
        rw [if_neg (by simp), List.mem_append, mem_mg2 (srt_cons.1 hu).2 (srt_cons.1 hw).2, look_cons, look_cons, both2]
        by_cases e : a.key = k
        · subst e
          rw [if_pos rfl, if_pos hk.symm, look_none_lt (srt_cons.1 hu).1, look_none_lt (hk ▸ (srt_cons.1 hw).1)]
          by_cases q : a = b <;> simp [q]
        · rw [if_neg e, if_neg (fun q => e (hk.trans q))]
          by_cases q : a = b
          · rw [if_pos q]; simp
          · rw [if_neg q]; simp [Ne.symm e]
  termination_by us ws => us.length + ws.length
theorem mg2_srt : ∀ {us ws : List Cl}, Srt us → Srt ws → SrtS (mg one2 both2 us ws)
  | [], [], _, _ => by rw [mg]; exact List.Pairwise.nil
  | a :: us, [], hu, hw => by
    have hu' := srt_cons.1 hu
    rw [mg]
    refine srtS_cons.2 ⟨fun k hk => ?_, mg2_srt hu'.2 hw⟩
    change k ∈ mg one2 both2 us [] at hk
    rw [mem_mg2 hu'.2 hw, look_nil] at hk
    obtain ⟨c, hc⟩ := Option.ne_none_iff_exists'.1 hk
    exact look_key hc ▸ hu'.1 c (look_mem hc)
  | [], b :: ws, hu, hw => by
    have hw' := srt_cons.1 hw
    rw [mg]
    refine srtS_cons.2 ⟨fun k hk => ?_, mg2_srt hu hw'.2⟩
    change k ∈ mg one2 both2 [] ws at hk
    rw [mem_mg2 hu hw'.2, look_nil] at hk
    obtain ⟨c, hc⟩ := Option.ne_none_iff_exists'.1 hk.symm
    exact look_key hc ▸ hw'.1 c (look_mem hc)
  | a :: us, b :: ws, hu, hw => by
    have hu' := srt_cons.1 hu
    have hw' := srt_cons.1 hw
    have low : ∀ {us ws : List Cl} {q k : ByteArray}, Srt us → Srt ws → (∀ d ∈ us, ltS q d.key = true) → (∀ d ∈ ws, ltS q d.key = true) → k ∈ mg one2 both2 us ws → ltS q k = true := by
      intro us ws q k hu hw h1 h2 hk
      rw [mem_mg2 hu hw] at hk
      cases h : look us k with
      | some c => exact look_key h ▸ h1 c (look_mem h)
      | none =>
        cases h' : look ws k with
        | some c => exact look_key h' ▸ h2 c (look_mem h')
        | none => rw [h, h'] at hk; exact absurd rfl hk
    rw [mg]
    cases h1 : ltS a.key b.key with
    | true =>
      rw [if_pos rfl]
      exact srtS_cons.2 ⟨fun k hk => low hu'.2 hw hu'.1 (fun d hd => (List.mem_cons.1 hd).elim (fun e => e ▸ h1) fun e => lt_tr h1 (hw'.1 d e)) hk, mg2_srt hu'.2 hw⟩
    | false =>
      rw [if_neg (by simp)]
      cases h2 : ltS b.key a.key with
      | true =>
        rw [if_pos rfl]
        exact srtS_cons.2 ⟨fun k hk => low hu hw'.2 (fun d hd => (List.mem_cons.1 hd).elim (fun e => e ▸ h2) fun e => lt_tr h2 (hu'.1 d e)) hw'.1 hk, mg2_srt hu hw'.2⟩
      | false =>
        have hk := lt_tri h1 h2
        rw [if_neg (by simp), both2]
        by_cases q : a = b
        · rw [if_pos q]; exact mg2_srt hu'.2 hw'.2
        · rw [if_neg q]
          exact srtS_cons.2 ⟨fun k hk' => low hu'.2 hw'.2 hu'.1 (hk ▸ hw'.1) hk', mg2_srt hu'.2 hw'.2⟩
  termination_by us ws => us.length + ws.length
theorem mem_diffH {xs ys : List Cl} (hx : Srt xs) (hy : Srt ys) {k : ByteArray} : k ∈ diffH xs ys ↔ look xs k ≠ look ys k := mem_mg2 hx hy
theorem diffH_srt {xs ys : List Cl} (hx : Srt xs) (hy : Srt ys) : SrtS (diffH xs ys) := mg2_srt hx hy

def dif (xs ys : List Cl) (c : Cl) : Option ByteArray := match look xs c.key, look ys c.key with
  | some a, some b => if a = b then none else some c.key
  | _, _ => some c.key
def diffR (xs ys : List Cl) : List ByteArray := (mergeR xs ys).filterMap (dif xs ys)
theorem dif_key {xs ys : List Cl} {c : Cl} {k : ByteArray} (h : dif xs ys c = some k) : k = c.key := by
  unfold dif at h
  split at h
  · split at h
    · cases h
    · exact (Option.some.inj h).symm
  · exact (Option.some.inj h).symm
theorem diffR_srt {xs ys : List Cl} (hx : Srt xs) : SrtS (diffR xs ys) := by
  unfold diffR SrtS
  rw [List.pairwise_filterMap]
  refine (mergeR_srt (ys := ys) hx).imp ?_
  intro a b h k hk l hl
  rw [dif_key hk, dif_key hl]
  exact h
theorem mem_diffR {xs ys : List Cl} (hx : Srt xs) (hy : Srt ys) {k : ByteArray} : k ∈ diffR xs ys ↔ look xs k ≠ look ys k := by
  unfold diffR
  rw [List.mem_filterMap]
  have hm := look_mergeR hx hy k
  constructor
  · rintro ⟨c, hc, hd⟩
    have hk := dif_key hd
    subst hk
    have hl := look_of_mem (mergeR_srt (ys := ys) hx) hc
    rw [hm] at hl
    unfold dif at hd
    cases h1 : look xs c.key with
    | none =>
      rw [h1] at hl
      cases h2 : look ys c.key with
      | none => rw [h2] at hl; cases hl
      | some d => simp
    | some a =>
      cases h2 : look ys c.key with
      | none => simp
      | some b =>
        rw [h1, h2] at hd
        simp only at hd
        split at hd
        · cases hd
        · rename_i q; simpa using q
  · intro h
    have : ∃ c, look (mergeR xs ys) k = some c := by
      rw [hm]
      cases h1 : look xs k with
      | none =>
        cases h2 : look ys k with
        | none => rw [h1, h2] at h; exact absurd rfl h
        | some d => exact ⟨d, rfl⟩
      | some a => cases h2 : look ys k <;> exact ⟨_, rfl⟩
    obtain ⟨c, hc⟩ := this
    refine ⟨c, look_mem hc, ?_⟩
    have hk := look_key hc
    unfold dif
    rw [hk]
    cases h1 : look xs k with
    | none => rfl
    | some a =>
      cases h2 : look ys k with
      | none => rfl
      | some b =>
        rw [h1, h2] at h
        simp only
        rw [if_neg (fun q => h (by rw [q]))]
theorem diff_eq {xs ys : List Cl} (hx : Srt xs) (hy : Srt ys) : diffH xs ys = diffR xs ys :=
  srtS_ext (diffH_srt hx hy) (diffR_srt hx) fun k => by rw [mem_diffH hx hy, mem_diffR hx hy]

/-! Valid lists -/
def Vld (xs : List Cl) : Prop := (∀ c ∈ xs, oneE c = 0) ∧ Srt xs
theorem vld_of {xs : List Cl} (h : checkE xs = 0) : Vld xs := by
  unfold checkE at h
  split at h
  · cases h
  · exact ⟨(chk_zero xs none h).1, (chk_zero xs none h).2.1⟩
theorem check_of {xs : List Cl} (h : Vld xs) (hl : xs.length ≤ 256) : checkE xs = 0 := by
  unfold checkE
  rw [if_neg (by omega)]
  exact chk_of xs none h.1 h.2 (by simp)
theorem putL_vld {xs : List Cl} {d : Cl} (h : Vld xs) (hd : oneE d = 0) : Vld (putL xs d) :=
  ⟨fun c hc => (putL_mem.1 hc).elim (fun e => e ▸ hd) fun e => h.1 c e.1, putL_srt h.2 d⟩
theorem mergeH_vld {xs ys : List Cl} (hx : Vld xs) (hy : Vld ys) : Vld (mergeH xs ys) :=
  ⟨fun c hc => (mem_mg xs ys hc).elim (hx.1 c) (hy.1 c), mergeH_srt hx.2 hy.2⟩
theorem oneE_zero {c : Cl} (h : oneE c = 0) : 1 ≤ c.epoch ∧ c.epoch ≤ 1099511627776 ∧ 0 ≤ c.node ∧ c.node < 7 ∧ (c.gone = true → c.value = ⟨#[]⟩) ∧ topicB c.key = true ∧ ¬ (4096 : Int) < c.value.size := by
  unfold oneE at h
  split at h
  · rename_i ht
    split at h
    · cases h
    · rename_i hs
      split at h
      · cases h
      · rename_i hg
        split at h
        · cases h
        · rename_i hr
          refine ⟨by omega, by omega, by omega, by omega, fun g => ?_, ht, hs⟩
          exact Classical.byContradiction fun q => hg ⟨g, q⟩
  · cases h
theorem oneE_of {c d : Cl} (h : oneE c = 0) (hk : d.key = c.key) (hv : d.value = c.value) (hg : d.gone = c.gone) (he : 1 ≤ d.epoch) (he' : d.epoch ≤ 1099511627776) (hn : 0 ≤ d.node) (hn' : d.node < 7) : oneE d = 0 := by
  obtain ⟨_, _, _, _, h1, h2, h3⟩ := oneE_zero h
  unfold oneE
  rw [hk, if_pos h2, hv, if_neg h3, if_neg (by rw [hg]; exact fun q => q.2 (h1 q.1)), if_neg (by omega)]

/-! Setting -/
theorem filter_all {α : Type} {p : α → Bool} {l : List α} (h : ∀ x ∈ l, p x = true) : l.filter p = l := List.filter_eq_self.2 h
theorem filter_no {α : Type} {p : α → Bool} {l : List α} (h : ∀ x ∈ l, p x = false) : l.filter p = [] := List.filter_eq_nil_iff.2 fun x hx => by simp [h x hx]
theorem find_look (xs : List Cl) (k : ByteArray) : xs.find? (keyIs k) = look xs k := rfl
theorem low_srt {xs : List Cl} (hs : Srt xs) (k : ByteArray) : ∃ pre post, xs = pre ++ post ∧ (low k xs 0).1 = pre.length ∧ (∀ d ∈ pre, ltS d.key k = true) ∧
    (((low k xs 0).2 = false ∧ look xs k = none ∧ (∀ d ∈ post, ltS k d.key = true)) ∨ ∃ c r, post = c :: r ∧ c.key = k ∧ (low k xs 0).2 = true ∧ look xs k = some c ∧ (∀ d ∈ r, ltS k d.key = true)) := by
  obtain ⟨pre, post, h1, h2, h3, h4⟩ := low_cases k xs 0
  refine ⟨pre, post, h1, by omega, h3, ?_⟩
  have hn : look pre k = none := look_none.2 fun c hc e => by have := h3 c hc; rw [e, lt_irr] at this; cases this
  have hp : ∀ post, look (pre ++ post) k = look post k := fun post => by
    show (pre ++ post).find? _ = _
    rw [List.find?_append]
    show (look pre k).or _ = _
    rw [hn]; rfl
  rcases h4 with ⟨rfl, h5⟩ | ⟨c, r, rfl, h5, h6⟩
  · exact .inl ⟨h5, by rw [h1, hp]; rfl, by simp⟩
  · have hs' : Srt (c :: r) := by rw [h1] at hs; exact (List.pairwise_append.1 hs).2.1
    by_cases e : c.key = k
    · refine .inr ⟨c, r, rfl, e, by rw [h6]; simp [eqS, e], by rw [h1, hp, look_cons, if_pos e], e ▸ (srt_cons.1 hs').1⟩
    · have hk : ltS k c.key = true := by
        cases q : ltS k c.key with
        | true => rfl
        | false => exact absurd (lt_tri h5 q) e
      exact .inl ⟨by rw [h6]; simp [eqS, e], by rw [h1, hp, look_low hs' hk], fun d hd => (List.mem_cons.1 hd).elim (fun q => q ▸ hk) fun q => lt_tr hk ((srt_cons.1 hs').1 d q)⟩
theorem setH_eq {xs : List Cl} (hs : Srt xs) (d : Cl) : setH xs d = setR xs d := by
  unfold setH setR
  by_cases e : oneE d = 0
  · rw [if_pos e, if_pos e, find_look]
    obtain ⟨pre, post, h1, h2, h3, h4⟩ := low_srt hs d.key
    have f1 : pre.filter (fun x => ltS x.key d.key) = pre := filter_all h3
    have f2 : pre.filter (fun x => ltS d.key x.key) = [] := filter_no fun x hx => lt_asymm (h3 x hx)
    rcases h4 with ⟨h5, h6, h7⟩ | ⟨c, r, rfl, hk, h5, h6, h7⟩
    · rw [h5, h6, h2]
      have f3 : post.filter (fun x => ltS x.key d.key) = [] := filter_no fun x hx => lt_asymm (h7 x hx)
      have f4 : post.filter (fun x => ltS d.key x.key) = post := filter_all h7
      have : putL xs d = xs.take pre.length ++ d :: xs.drop pre.length := by
        unfold putL
        rw [h1, List.filter_append, List.filter_append, f1, f2, f3, f4]
        simp
      simp only
      rw [this]
    · rw [h5, h6, h2]
      have hc : xs[pre.length]? = some c := by rw [h1]; simp
      rw [hc]
      have f3 : (c :: r).filter (fun x => ltS x.key d.key) = [] := filter_no fun x hx => (List.mem_cons.1 hx).elim (fun q => by rw [q, hk, lt_irr]) fun q => lt_asymm (h7 x q)
      have f4 : (c :: r).filter (fun x => ltS d.key x.key) = r := by
        rw [List.filter_cons, if_neg (by rw [hk, lt_irr]; simp)]
        exact filter_all h7
      have : putL xs d = xs.set pre.length d := by
        unfold putL
        rw [h1, List.filter_append, List.filter_append, f1, f2, f3, f4]
        simp
      simp only
      rw [this]
  · rw [if_neg e, if_neg e]
theorem getH_eq {xs : List Cl} (hs : Srt xs) (k : ByteArray) : getH xs k = getL xs k := by
  unfold getH getL
  rw [find_look]
  obtain ⟨pre, post, h1, h2, h3, h4⟩ := low_srt hs k
  rcases h4 with ⟨h5, h6, h7⟩ | ⟨c, r, rfl, hk, h5, h6, h7⟩
  · rw [h5, h6]
  · rw [h5, h6, h2]
    have hc : xs[pre.length]? = some c := by rw [h1]; simp
    rw [hc]
theorem setR_vld {xs : List Cl} {d : Cl} (h : Vld xs) (e : (setR xs d).2 = 0) : Vld (setR xs d).1 ∧ (setR xs d).1.length ≤ xs.length + 1 := by
  unfold setR at *
  by_cases e1 : oneE d = 0
  · rw [if_pos e1] at *
    split at e
    · split at e
      · exact ⟨by rename_i q; simp only [q, if_true]; exact putL_vld h e1, by rename_i q; simp only [q, if_true]; exact putL_len xs d⟩
      · cases e
    · split at e
      · cases e
      · rename_i q; simp only [if_neg q]; exact ⟨putL_vld h e1, putL_len xs d⟩
  · rw [if_neg e1] at e; exact absurd e e1
end Go.Proofs.Ytkjmkhgaghighaa.Ab
