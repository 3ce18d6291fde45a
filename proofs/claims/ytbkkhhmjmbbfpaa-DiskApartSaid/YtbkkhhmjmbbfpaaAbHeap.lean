/- The blocks of the heap, turned. -/
import Derived.Test.YtbkkhhmjmbbfpaaAbOps11
namespace Go.Proofs.Ytbkkhhmjmbbfpaa.Ab
open Go

section
variable {w : World} {stb : Nat → Prop} {ob : Nat → Option Nat} {k : Nat}
theorem Rows.take {xs : List (List AV)} {us : List Value} (h : Rows w stb ob k xs us) (n : Nat) : Rows w stb ob k (xs.take n) (us.take (n * k)) := by
  refine ⟨?_, fun x hx => h.row x (List.mem_of_mem_take hx), fun u hu => h.one u (List.mem_of_mem_take hu), fun i x j c hi hj => ?_⟩
  · rw [List.length_take, List.length_take, h.len]
    rcases Nat.le_total n xs.length with hn | hn
    · rw [Nat.min_eq_left hn, Nat.min_eq_left (Nat.mul_le_mul_right _ hn)]
    · rw [Nat.min_eq_right hn, Nat.min_eq_right (Nat.mul_le_mul_right _ hn)]
  · rw [List.getElem?_take] at hi
    split at hi
    · rename_i hin
      obtain ⟨v, hv, hr⟩ := h.rep i x j c hi hj
      have hjk : j < k := by rw [← h.row x (List.mem_of_getElem? hi)]; exact (List.getElem?_eq_some_iff.1 hj).1
      have := row_le (k := k) hin
      exact ⟨v, by rw [List.getElem?_take, if_pos (by omega)]; exact hv, hr⟩
    · cases hi
theorem Rows.drop {xs : List (List AV)} {us : List Value} (h : Rows w stb ob k xs us) (n : Nat) : Rows w stb ob k (xs.drop n) (us.drop (n * k)) := by
  refine ⟨?_, fun x hx => h.row x (List.mem_of_mem_drop hx), fun u hu => h.one u (List.mem_of_mem_drop hu), fun i x j c hi hj => ?_⟩
  · rw [List.length_drop, List.length_drop, h.len, Nat.sub_mul]
  · rw [List.getElem?_drop] at hi
    obtain ⟨v, hv, hr⟩ := h.rep _ x j c hi hj
    refine ⟨v, ?_, hr⟩
    rw [List.getElem?_drop, ← hv, Nat.add_mul]
    congr 1
    omega
theorem Rows.splice {xs ys : List (List AV)} {us vs : List Value} (h : Rows w stb ob k xs us) (h' : Rows w stb ob k ys vs) (o : Nat) : Rows w stb ob k (splice xs o ys) (us.take (o * k) ++ vs ++ us.drop (o * k + vs.length)) := by
  unfold Ab.splice
  have h3 := h.drop (o + ys.length)
  rw [Nat.add_mul, ← h'.len] at h3
  exact ((h.take o).append h').append h3
theorem splice_length {xs ys : List (List AV)} {o : Nat} (h : o + ys.length ≤ xs.length) : (splice xs o ys).length = xs.length := by
  unfold splice
  simp only [List.length_append, List.length_take, List.length_drop]
  omega
theorem setRange_get {cs ds : List AV} {o : Nat} (h : o + ds.length ≤ cs.length) (q : Nat) : (setRange cs o ds)[q]? = if o ≤ q ∧ q < o + ds.length then ds[q - o]? else cs[q]? := by
  rw [setRange_eq _ _ _ h, List.append_assoc, List.getElem?_append]
  simp only [List.length_take, Nat.min_eq_left (show o ≤ cs.length by omega)]
  by_cases c1 : q < o
  · rw [if_pos c1, if_neg (by omega), List.getElem?_take, if_pos c1]
  · rw [if_neg c1, List.getElem?_append]
    by_cases c2 : q - o < ds.length
    · rw [if_pos c2, if_pos (by omega)]
    · rw [if_neg c2, if_neg (by omega), List.getElem?_drop]
      congr 1
      omega
theorem Rows.setCells {xs : List (List AV)} {us : List Value} (h : Rows w stb ob k xs us) {i o : Nat} (hi : i < xs.length) {cs : List AV} {vs : List Value} (hl : cs.length = vs.length) (ho : o + cs.length ≤ k)
    (h1 : ∀ u ∈ vs, u.oneCell' = true) (hr : ∀ (j : Nat) (c : AV) (u : Value), cs[j]? = some c → vs[j]? = some u → Rep w stb ob c u) :
    Rows w stb ob k (xs.set i (setRange (xs.getD i []) o cs)) (laid us (i * k + o) vs) := by
  have hik := row_le (k := k) hi
  have hgi : xs[i]? = some (xs.getD i []) := by rw [List.getD_eq_getElem?_getD, List.getElem?_eq_getElem hi]; rfl
  have hxi : (xs.getD i []).length = k := h.row _ (List.mem_of_getElem? hgi)
  have hll : i * k + o + vs.length ≤ us.length := by rw [h.len]; omega
  refine ⟨by rw [laid_length hll, h.len, List.length_set], fun x hx => ?_, fun u hu => (laid_mem hu).elim (h.one u) (h1 u), fun p x j c hp hj => ?_⟩
  · rcases List.mem_or_eq_of_mem_set hx with hx | rfl
    · exact h.row x hx
    · rw [setRange_length, hxi]
  · rw [laid_get hll]
    by_cases e : p = i
    · subst e
      rw [List.getElem?_set_self hi] at hp
      obtain rfl := Option.some.inj hp
      rw [setRange_get (by omega)] at hj
      by_cases c1 : o ≤ j ∧ j < o + cs.length
      · rw [if_pos c1] at hj
        obtain ⟨u, hu⟩ : ∃ u, vs[j - o]? = some u := ⟨_, List.getElem?_eq_getElem (by omega)⟩
        exact ⟨u, by rw [if_pos (by omega), show p * k + j - (p * k + o) = j - o by omega]; exact hu, hr _ _ _ hj hu⟩
      · rw [if_neg c1] at hj
        rw [if_neg (by omega)]
        exact h.rep p _ j c hgi hj
    · rw [List.getElem?_set_ne (Ne.symm e)] at hp
      have hjl := (List.getElem?_eq_some_iff.1 hj).1
      have hxk := h.row x (List.mem_of_getElem? hp)
      rw [if_neg ?_]
      · exact h.rep p x j c hp hj
      · rcases Nat.lt_or_gt_of_ne e with hlt | hgt
        · have := row_le (k := k) hlt; omega
        · have := row_le (k := k) hgt; omega
end

theorem set_get_self (H : Heap) (j : Nat) (x : HB) : (H.set j x).get j = x := by simp [Heap.set]
theorem set_get_ne (H : Heap) {i j : Nat} (x : HB) (h : i ≠ j) : (H.set j x).get i = H.get i := by
  have : Nat.beq i j = false := by
    cases hb : Nat.beq i j with
    | false => rfl
    | true => exact absurd (Nat.eq_of_beq_eq_true hb) h
  simp [Heap.set, this]
theorem push_get_self (H : Heap) (x : HB) : (H.push x).get H.next = x := by simp [Heap.push]
theorem push_get_ne (H : Heap) {i : Nat} (x : HB) (h : i ≠ H.next) : (H.push x).get i = H.get i := by
  have : Nat.beq i H.next = false := by
    cases hb : Nat.beq i H.next with
    | false => rfl
    | true => exact absurd (Nat.eq_of_beq_eq_true hb) h
  simp [Heap.push, this]

section
variable {P : Program} {T : List TI} {w0 : World} {g0 g g' : Gs} {l : Gl} {w w' : World} {st : St} {a : Act} {o : Oper} {next : Act → World → Prop} {Q : Exit → Act → World → Prop}

/-- A block of the heap is turned. -/
theorem HOK.set {H : Heap} (h : HOK g w H) {j b : Nat} (ho : g.ob j = some b) (hj : H.get j ≠ .dead) (hsize : w.heap.size ≤ w'.heap.size) (hkeep : ∀ q, q ≠ b → q < w.heap.size → w'.heap[q]? = w.heap[q]?) (hst : ∀ b, g.stb b → w'.heap[b]? = w.heap[b]?) {x : HB} (hx : x ≠ .dead) (hR : HRep g w' b x) : HOK g w' (H.set j x) where
  lt := h.lt
  top i hi := by
    have hlt := h.lt j b ho
    rw [set_get_ne _ _ (by show i ≠ j; have : H.next ≤ i := hi; omega)]
    exact h.top i hi
  live i hi := by
    by_cases e : i = j
    · subst e
      rw [set_get_self]
      obtain ⟨b', h1, h2, h3, _⟩ := h.live i hj
      rw [ho] at h1
      cases h1
      exact ⟨b, ho, h2, by omega, hR⟩
    · rw [set_get_ne _ _ e] at hi ⊢
      obtain ⟨b', h1, h2, h3, h4⟩ := h.live i hi
      have hne : b' ≠ b := fun eb => e (h.inj i j b hi hj (eb ▸ h1) ho)
      exact ⟨b', h1, h2, by omega, h4.mono (hkeep b' hne h3) hst (fun _ h => h) (fun _ _ h => h)⟩
  inj i q b' hi hq h1 h2 := by
    have hi' : H.get i ≠ .dead := by
      by_cases e : i = j
      · subst e; exact hj
      · rwa [set_get_ne _ _ e] at hi
    have hq' : H.get q ≠ .dead := by
      by_cases e : q = j
      · subst e; exact hj
      · rwa [set_get_ne _ _ e] at hq
    exact h.inj i q b' hi' hq' h1 h2
  foot b' hb := by
    obtain ⟨i, h1, h2⟩ := h.foot b' hb
    refine ⟨i, ?_, h2⟩
    by_cases e : i = j
    · subst e; rw [set_get_self]; exact hx
    · rw [set_get_ne _ _ e]; exact h1
  fx p hp := ⟨(h.fx p hp).1, (h.fx p hp).2.mono (hst _ (h.fx p hp).1)⟩
theorem Inv.setHeap (hI : Inv w0 g0 g l w st a) {j b : Nat} (ho : g.ob j = some b) (hj : st.H.get j ≠ .dead) (hos : w'.os = w.os) (htape : w'.tape = w.tape) (hout : w'.output = w.output) (hsize : w'.heap.size = w.heap.size) (hkeep : ∀ q, q ≠ b → w'.heap[q]? = w.heap[q]?)
    {x : HB} (hx : x ≠ .dead) (hR : HRep g w' b x) : Inv w0 g0 g l w' { st with H := st.H.set j x } a := by
  obtain ⟨b', h1, h2, h3, _⟩ := hI.heap.live j hj
  rw [ho] at h1
  cases h1
  refine hI.step hos htape hout (by omega) (fun q hq hl => hkeep q fun e => ?_) (fun _ h => h) (fun _ h => .inl h) (fun _ _ h => h) (fun _ h => .inl h) (fun q hq => by rw [hsize]; exact hI.stbLt q hq)
    (hI.heap.set ho hj (by omega) (fun q hq _ => hkeep q hq) (fun q hq => hkeep q fun e => (hI.stbLt q hq).2 (e ▸ h2)) hx hR)
  subst e
  rcases hl with (hl | ⟨i, mb, hi, hm, hl⟩ | ⟨t, ht, hl⟩) | hl
  · exact (hI.stbLt _ hl).2 h2
  · exact (hI.priv i mb hi hm).2.2.2 (hl ▸ h2)
  · exact (hI.ownPriv t ht _ hl).2.1 h2
  · exact hl.2 h2

/-- A new block of the heap. -/
def Gs.push (g : Gs) (n b : Nat) : Gs := { stb := g.stb, ob := fun i => if i = n then some b else g.ob i, foot := fun q => g.foot q ∨ q = b }
theorem HOK.push {H : Heap} (h : HOK g w H) {b : Nat} (hb : w.heap.size ≤ b ∨ b < w.heap.size ∧ ¬ g.foot b) (hbl : b < w'.heap.size) (hsize : w.heap.size ≤ w'.heap.size) (hkeep : ∀ q, q < w.heap.size → w'.heap[q]? = w.heap[q]?) (hst : ∀ b, g.stb b → b < w.heap.size) {x : HB} (hx : x ≠ .dead) (hR : HRep (g.push H.next b) w' b x) : HOK (g.push H.next b) w' (H.push x) where
  lt i q hi := by
    show i < H.next + 1
    simp only [Gs.push] at hi
    split at hi
    · omega
    · have := h.lt i q hi; omega
  top i hi := by
    have hi' : H.next + 1 ≤ i := hi
    rw [push_get_ne _ _ (by omega)]
    exact h.top i (by omega)
  live i hi := by
    by_cases e : i = H.next
    · subst e
      rw [push_get_self]
      exact ⟨b, by simp [Gs.push], .inr rfl, hbl, hR⟩
    · rw [push_get_ne _ _ e] at hi ⊢
      obtain ⟨b', h1, h2, h3, h4⟩ := h.live i hi
      refine ⟨b', by simp [Gs.push, e, h1], .inl h2, by omega, h4.mono (hkeep b' h3) (fun q hq => hkeep q (hst q hq)) (fun _ h => h) (fun q b hq => ?_)⟩
      have := h.lt q b hq
      simp only [Gs.push, hq]
      rw [if_neg (by omega)]
  inj i q b' hi hq h1 h2 := by
    have old : ∀ {i}, i ≠ H.next → g.ob i = some b → (H.push x).get i ≠ .dead → False := by
      intro i e ho hl
      rw [push_get_ne _ _ e] at hl
      obtain ⟨b'', k1, k2, k3, _⟩ := h.live i hl
      rw [ho] at k1
      cases k1
      rcases hb with hb | hb
      · omega
      · exact hb.2 k2
    simp only [Gs.push] at h1 h2
    by_cases e : i = H.next <;> by_cases e' : q = H.next
    · omega
    · rw [if_pos e] at h1
      rw [if_neg e'] at h2
      cases h1
      exact (old e' h2 hq).elim
    · rw [if_neg e] at h1
      rw [if_pos e'] at h2
      cases h2
      exact (old e h1 hi).elim
    · rw [if_neg e] at h1
      rw [if_neg e'] at h2
      rw [push_get_ne _ _ e] at hi
      rw [push_get_ne _ _ e'] at hq
      exact h.inj i q b' hi hq h1 h2
  foot b' hb' := by
    rcases hb' with hb' | rfl
    · obtain ⟨i, h1, h2⟩ := h.foot b' hb'
      have hlt := h.lt i b' h2
      refine ⟨i, ?_, ?_⟩
      · rw [push_get_ne _ _ (by omega)]; exact h1
      · simp only [Gs.push]; rw [if_neg (by omega)]; exact h2
    · exact ⟨H.next, by rw [push_get_self]; exact hx, by simp [Gs.push]⟩
  fx p hp := ⟨(h.fx p hp).1, (h.fx p hp).2.mono (hkeep _ (hst _ (h.fx p hp).1))⟩
theorem push_ob {H : Heap} (h : HOK g w H) {b : Nat} : ∀ j q, g.ob j = some q → (g.push H.next b).ob j = some q := by
  intro j q hj
  have := h.lt j q hj
  simp only [Gs.push]
  rw [if_neg (by omega)]
  exact hj
/-- The world has grown by a block, which becomes the heap's. -/
theorem Inv.pushHeap (hI : Inv w0 g0 g l w st a) (hos : w'.os = w.os) (htape : w'.tape = w.tape) (hout : w'.output = w.output) (hsize : w.heap.size ≤ w'.heap.size) (hkeep : ∀ q, q < w.heap.size → w'.heap[q]? = w.heap[q]?)
    {b : Nat} (hb : w.heap.size ≤ b) (hbl : b < w'.heap.size) {x : HB} (hx : x ≠ .dead) (hR : HRep (g.push st.H.next b) w' b x) : Inv w0 g0 (g.push st.H.next b) l w' { st with H := st.H.push x } a := by
  refine hI.step (g' := g.push st.H.next b) hos htape hout hsize (fun q hq _ => hkeep q hq) (fun _ h => h) (fun _ h => .inl h) (push_ob hI.heap) (fun q hq => ?_) (fun q hq => ?_)
    (hI.heap.push (.inl hb) hbl hsize hkeep (fun q hq => (hI.stbLt q hq).1) hx hR)
  · rcases hq with hq | rfl
    · exact .inl hq
    · exact .inr hb
  · have := hI.stbLt q hq
    refine ⟨by omega, fun h => ?_⟩
    rcases h with h | rfl
    · exact this.2 h
    · omega

/-! Stores into the heap's blocks. -/
theorem lent_cells (hI : Inv w0 g0 g l w st a) {y : Operand} (hb : boxable (ρ st.tm y) = true) :
    ∃ g', Inv w0 g0 g' l w (st.frzAll (tagsOf (ρ st.tm y))) a ∧ g'.ob = g.ob ∧ (frzVs (cellsOf (ρ st.tm y))).length = (a.eval y).cells.toList.length ∧ (∀ u ∈ (a.eval y).cells.toList, u.oneCell' = true) ∧
      ∀ (j : Nat) (q : AV) (u : Value), (frzVs (cellsOf (ρ st.tm y)))[j]? = some q → (a.eval y).cells.toList[j]? = some u → Rep w g'.stb g'.ob q u := by
  obtain ⟨hy, hyt⟩ := hI.operand (a := a) y
  obtain ⟨hyr, hy1, hyt'⟩ := box_rep hy hI hyt hb
  have hcl : tagsOfs (cellsOf (ρ st.tm y)) = tagsOf (ρ st.tm y) := by
    cases ρ st.tm y <;> simp [cellsOf, tagsOfs, tagsOf]
  obtain ⟨g', hI', s1, n1, o1, f1, b1, c1⟩ := hI.frzAll (tagsOf (ρ st.tm y)) (fun t ht => tags_pos hI t (hyt t ht))
  refine ⟨g', hI', o1, by unfold frzVs; rw [mapTs_length, hyr.length], hy1, fun j q u hq hu => ?_⟩
  unfold frzVs at hq
  rw [mapTs_get, Option.map_eq_some_iff] at hq
  obtain ⟨q0, hq0, rfl⟩ := hq
  rw [o1]
  refine lend_rep (base := w0.heap.size) s1 (S := tagsOf (ρ st.tm y)) (fun t ht => ⟨hI.own t (hyt t ht), b1 t ht (hyt t ht)⟩) q0 u (fun t ht => ?_) (hyr.of j q0 u hq0 hu)
  rw [← hcl]
  exact tagsOfs_get hq0 t ht
theorem hrep_rows {b k : Nat} {xs : List (List AV)} {vs : List Value} {e : TypeId} (hh : w.heap[b]? = some (.cells vs.toArray e (0, 0))) (hk : 0 < k) (hm : xs.length ≤ maxLen) (hR : Rows w g.stb g.ob k xs vs) : HRep g w b (.rows k xs) :=
  ⟨vs, e, hh, hR.len, hk, hm, hR.row, hR.one, hR.rep⟩
theorem rows_of {H : Heap} (h : HOK g w H) {j b k : Nat} (ho : g.ob j = some b) {xs : List (List AV)} (hj : H.get j = .rows k xs) :
    g.foot b ∧ 0 < k ∧ xs.length ≤ maxLen ∧ ∃ vs e, w.heap[b]? = some (.cells (List.toArray vs) e (0, 0)) ∧ Rows w g.stb g.ob k xs vs := by
  obtain ⟨h1, vs, e, h2, h3, h4, h5, h6, h7, h8⟩ := h.rows ho hj
  exact ⟨h1, h4, h5, vs, e, h2, h3, h6, h7, h8⟩

theorem store_he_sound (hT : TabOk P T) (hI : Inv w0 g0 g l w st a) {t : Nat} {x y : Operand} {j k i o' : Nat} {K : St → Prop} (ho : o.op = .store t x y) (hx : ρ st.tm x = .he j k i o')
    (h : G ((st.H.get j).isRows k) (G (Nat.blt 0 (ti T t).size) (G (boxable (ρ st.tm y)) (G (Nat.ble (o' + (cellsOf (ρ st.tm y)).length) k) (G (Nat.beq (cellsOf (ρ st.tm y)).length (ti T t).size) (G (Nat.blt i (st.H.get j).xs.length)
      (K ({ st.frzAll (tagsOf (ρ st.tm y)) with H := st.H.set j (.rows k ((st.H.get j).xs.set i (setRange ((st.H.get j).xs.getD i []) o' (frzVs (cellsOf (ρ st.tm y)))))) }.put o.dst (.tup [])))))))))
    (hn : Goes w0 g0 K next) : o.wp P a w next Q := by
  obtain ⟨h0, h⟩ := G_out h
  obtain ⟨h1, h⟩ := G_out h
  obtain ⟨hb, h⟩ := G_out h
  obtain ⟨h2, h⟩ := G_out h
  obtain ⟨h3, h⟩ := G_out h
  obtain ⟨h4, h⟩ := G_out h
  have e2 := Nat.le_of_ble_eq_true h2
  have e3 := Nat.eq_of_beq_eq_true h3
  have e4 : i < (st.H.get j).xs.length := Nat.le_of_ble_eq_true h4
  obtain ⟨xs, hxs⟩ := isRows_eq h0
  obtain ⟨hp, _⟩ := hI.operand (a := a) x
  rw [hx] at hp
  simp only [TRep] at hp
  obtain ⟨g', hI', ho', hl, hy1, hlend⟩ := lent_cells hI hb
  have hH : (st.frzAll (tagsOf (ρ st.tm y))).H = st.H := frzAll_H _ _
  generalize hv : a.eval x = v at hp
  cases hp with
  | he _ b _ _ _ hob =>
    have hob' : g'.ob j = some b := by rw [ho']; exact hob
    have hj' : (st.frzAll (tagsOf (ρ st.tm y))).H.get j = .rows k xs := by rw [hH]; exact hxs
    obtain ⟨hf, hk, hm, vs, e, hh, hR⟩ := rows_of hI'.heap hob' hj'
    rw [hxs] at h e4
    simp only [HB.xs] at h e4
    have hfl : (frzVs (cellsOf (ρ st.tm y))).length = (cellsOf (ρ st.tm y)).length := by unfold frzVs; rw [mapTs_length]
    have hik := row_le (k := k) e4
    have hll : i * k + o' + (a.eval y).cells.toList.length ≤ vs.length := by rw [hR.len, ← hl, hfl]; omega
    have hst := run_storeCells_at P b (i * k + o') e (a.eval y).cells.toList 0 vs.toArray w hh (by simp only [Nat.add_zero, List.size_toArray]; exact hll) hy1
    simp only [Nat.add_zero] at hst
    have hsz := hT.size_pos (P := P) (t := t) (Nat.le_of_ble_eq_true h1) w
    have hrun : (execOp a.eval o).run P w = .ok .skip (w.setRow b (laid vs (i * k + o') (a.eval y).cells.toList).toArray) := by
      unfold execOp
      rw [ho]
      have hc' : (a.eval y).cells.size = (ti T t).size := by rw [← e3, ← hfl, hl]; simp
      simp [Instr.storeAt, Instr.sureAddr, hv, storeVar, hsz, hc', hst, laid]
    have hR' := hR.setCells (i := i) (o := o') e4 hl (by rw [hfl]; exact e2) hy1 hlend
    have hst' : ∀ q, g'.stb q → (w.setRow b (laid vs (i * k + o') (a.eval y).cells.toList).toArray).heap[q]? = w.heap[q]? := fun q hq => setRow_other _ _ _ _ fun e => (hI'.stbLt q hq).2 (e ▸ hf)
    have hI2 := hI'.setHeap (w' := w.setRow b (laid vs (i * k + o') (a.eval y).cells.toList).toArray) hob' (by rw [hj']; simp) rfl rfl rfl (by simp) (fun q hq => setRow_other _ _ _ _ hq) (x := .rows k (xs.set i (setRange (xs.getD i []) o' (frzVs (cellsOf (ρ st.tm y)))))) (by simp)
      (hrep_rows (setRow_heap _ _ _ _ _ _ hh) hk (by simpa using hm) (hR'.mono hst' (fun _ h => h) (fun _ _ h => h)))
    rw [hH] at hI2
    exact wp_skip hrun (hn _ _ _ _ _ (hI2.put undef_rep (by simp [tagsOf, tagsOfs]) _) h)
theorem store_obj_sound (hT : TabOk P T) (hI : Inv w0 g0 g l w st a) {t : Nat} {x y : Operand} {j o' : Nat} {K : St → Prop} (ho : o.op = .store t x y) (hx : ρ st.tm x = .obj j o')
    (h : G ((st.H.get j).isCells) (G (Nat.blt 0 (ti T t).size) (G (boxable (ρ st.tm y)) (G (Nat.ble (o' + (cellsOf (ρ st.tm y)).length) (st.H.get j).cs.length) (G (Nat.beq (cellsOf (ρ st.tm y)).length (ti T t).size)
      (K ({ st.frzAll (tagsOf (ρ st.tm y)) with H := st.H.set j (.cells (setRange (st.H.get j).cs o' (frzVs (cellsOf (ρ st.tm y))))) }.put o.dst (.tup []))))))))
    (hn : Goes w0 g0 K next) : o.wp P a w next Q := by
  obtain ⟨h0, h⟩ := G_out h
  obtain ⟨h1, h⟩ := G_out h
  obtain ⟨hb, h⟩ := G_out h
  obtain ⟨h2, h⟩ := G_out h
  obtain ⟨h3, h⟩ := G_out h
  have e2 := Nat.le_of_ble_eq_true h2
  have e3 := Nat.eq_of_beq_eq_true h3
  obtain ⟨cs, hcs⟩ := isCells_eq h0
  obtain ⟨hp, _⟩ := hI.operand (a := a) x
  rw [hx] at hp
  simp only [TRep] at hp
  obtain ⟨g', hI', ho', hl, hy1, hlend⟩ := lent_cells hI hb
  have hH : (st.frzAll (tagsOf (ρ st.tm y))).H = st.H := frzAll_H _ _
  generalize hv : a.eval x = v at hp
  cases hp with
  | obj _ b _ hob =>
    have hob' : g'.ob j = some b := by rw [ho']; exact hob
    have hj' : (st.frzAll (tagsOf (ρ st.tm y))).H.get j = .cells cs := by rw [hH]; exact hcs
    obtain ⟨hf, vs, e, hh, hlv, h1v, hrep⟩ := hI'.heap.cells hob' hj'
    rw [hcs] at h e2
    simp only [HB.cs] at h e2
    have hfl : (frzVs (cellsOf (ρ st.tm y))).length = (cellsOf (ρ st.tm y)).length := by unfold frzVs; rw [mapTs_length]
    have hll : o' + (a.eval y).cells.toList.length ≤ vs.length := by rw [hlv, ← hl, hfl]; exact e2
    have hst := run_storeCells_at P b o' e (a.eval y).cells.toList 0 vs.toArray w hh (by simp only [Nat.add_zero, List.size_toArray]; exact hll) hy1
    simp only [Nat.add_zero] at hst
    have hsz := hT.size_pos (P := P) (t := t) (Nat.le_of_ble_eq_true h1) w
    have hrun : (execOp a.eval o).run P w = .ok .skip (w.setRow b (laid vs o' (a.eval y).cells.toList).toArray) := by
      unfold execOp
      rw [ho]
      have hc' : (a.eval y).cells.size = (ti T t).size := by rw [← e3, ← hfl, hl]; simp
      simp [Instr.storeAt, Instr.sureAddr, hv, storeVar, hsz, hc', hst, laid]
    have hst' : ∀ q, g'.stb q → (w.setRow b (laid vs o' (a.eval y).cells.toList).toArray).heap[q]? = w.heap[q]? := fun q hq => setRow_other _ _ _ _ fun e => (hI'.stbLt q hq).2 (e ▸ hf)
    have hI2 := hI'.setHeap (w' := w.setRow b (laid vs o' (a.eval y).cells.toList).toArray) hob' (by rw [hj']; simp) rfl rfl rfl (by simp) (fun q hq => setRow_other _ _ _ _ hq) (x := .cells (setRange cs o' (frzVs (cellsOf (ρ st.tm y))))) (by simp)
      ⟨_, e, setRow_heap _ _ _ _ _ _ hh, by rw [laid_length hll, setRange_length]; exact hlv, fun u hu => (laid_mem hu).elim (h1v u) (hy1 u), fun i c v hc hv => by
        rw [setRange_get (by rw [hfl]; exact e2)] at hc
        rw [laid_get hll] at hv
        by_cases c1 : o' ≤ i ∧ i < o' + (frzVs (cellsOf (ρ st.tm y))).length
        · rw [if_pos c1] at hc
          rw [if_pos (by rw [← hl]; exact c1)] at hv
          exact (hlend _ _ _ hc hv).mono hst' (fun _ h => h) (fun _ _ h => h)
        · rw [if_neg c1] at hc
          rw [if_neg (by rw [← hl]; exact c1)] at hv
          exact (hrep i c v hc hv).mono hst' (fun _ h => h) (fun _ _ h => h)⟩
    rw [hH] at hI2
    exact wp_skip hrun (hn _ _ _ _ _ (hI2.put undef_rep (by simp [tagsOf, tagsOfs]) _) h)

/-! append, copy, clear. -/
/-- What an append's second operand gives. -/
structure App (P : Program) (w : World) (tys : Array TypeId) (ty e size bytes : Nat) (x : Value) (m : Nat) (news : List Value) : Prop where
  room : ∀ (a : Addr) (n c : Nat) (w' : World), n + m ≤ c → (storeCells (a.add (n * size)) news).run P w = .ok () w' → (Builtin.append_ tys ty #[.slice (some a) n c, x]).run P w = .ok (.slice (some a) (n + m) c) w'
  grow : ∀ (a : Addr) (n c : Nat) (olds : List Value), n ≤ c → c < n + m → n + m ≤ maxLen → (n + m) * bytes ≤ 140737488355328 → olds.length = n * size → (∀ (j : Nat) (v : Value), olds[j]? = some v → w.cell? (a.add j) = some v) →
    ∃ rest, rest.length = (grownCap w (n + m) c e - (n + m)) * size ∧ (∀ u ∈ rest, u.oneCell' = true) ∧ (Builtin.append_ tys ty #[.slice (some a) n c, x]).run P w = .ok (.slice (some ⟨w.heap.size, 0, none⟩) (n + m) (grownCap w (n + m) c e)) (w.drew.alloc (.cells (olds ++ news ++ rest).toArray e))
theorem zero_one (hT : TabOk P T) {e : Nat} (h : madeT T e = true) (n : Nat) {z : Value} {i : TypeInfo} (hi : P.info? e = some i) (hz : i.zero = some z) (w : World) :
    (Builtin.zeroCells z.cells n).toList.length = n * (ti T e).size ∧ (∀ u ∈ (Builtin.zeroCells z.cells n).toList, u.oneCell' = true) ∧ ∀ g : Gs, Rows w g.stb g.ob (ti T e).size (List.replicate n ((ti T e).shape.map CK.zero)) (Builtin.zeroCells z.cells n).toList := by
  obtain ⟨h1, h2, h3, h4⟩ := madeT_out h
  obtain ⟨i', z', hi', hz', hsz, hby, hzl, _⟩ := zeros_rep (P := P) hT h1 h2
  rw [hi] at hi'
  cases hi'
  rw [hz] at hz'
  cases hz'
  have hzl' : z.cells.size = (ti T e).size := by simpa using hzl
  have e1 : Builtin.zeroCells z.cells n = madeCells z.cells (n * (ti T e).size) := by rw [← hzl']; rfl
  rw [e1]
  have hR := fun g => zero_rows (P := P) hT h n hi hz g w
  exact ⟨by have := (hR ⟨fun _ => False, fun _ => none, fun _ => False⟩).len; simpa using this, (hR ⟨fun _ => False, fun _ => none, fun _ => False⟩).one, hR⟩
theorem app_rows (hT : TabOk P T) {e : Nat} (h0 : madeT T e = true) {t ty : Nat} (hk : (ti T t).k = .slice e) {ys : List (List AV)} {y : Value} (hy : Src g w (ti T e).size ys y) :
    ∃ news, App P w #[t, t] ty e (ti T e).size (ti T e).bytes y ys.length news ∧ Rows w g.stb g.ob (ti T e).size ys news := by
  obtain ⟨q1, q2, q3, q4⟩ := madeT_out h0
  obtain ⟨i, z, hi, hz, hsz, hby, hzl, _⟩ := zeros_rep (P := P) hT q1 q2
  obtain ⟨A, c0, news, rfl, hA, hcells, hR⟩ := hy.out
  have ht := hT.u_slice hk
  refine ⟨news, ⟨fun a n c w' hroom hst => ?_, fun a n c olds hnc hg h63 hbytes hlo holds => ?_⟩, hR⟩
  · have hf : (Builtin.firstCells i.size ys.length (.slice A ys.length c0)).run P w = .ok news.toArray w := by
      cases A with
      | none =>
        have hy0 := hA rfl
        have : news = [] := List.eq_nil_of_length_eq_zero (by rw [hR.len, hy0]; simp)
        rw [this]
        exact run_firstCells_none (P := P) w i.size ys.length ys.length c0
      | some ad => exact run_firstCells_some (P := P) w i.size ys.length ad ys.length c0 news (by rw [hsz]; exact hR.len) (hcells ad rfl)
    rw [← hsz] at hst
    simp [Builtin.append_, run_underlying ht, sizeOf, typeInfo, hi, Builtin.lenOf, hroom, hf, hst]
  · cases A with
    | none => have := hA rfl; omega
    | some ad =>
      obtain ⟨z1, z2, _⟩ := zero_one (P := P) hT h0 (grownCap w (n + ys.length) c e - (n + ys.length)) hi hz w
      refine ⟨_, z1, z2, ?_⟩
      have hr := run_append_grow (P := P) w t ty e i z ht hi hz a n c olds (by rw [hsz]; exact hlo) holds ad ys.length c0 news (by rw [hsz]; exact hR.len) (hcells ad rfl) hg (by simp only [maxLen] at h63; omega) (growslice_fits hg (by rw [hby]; exact hbytes))
      rw [hr]
      congr 3
      apply Array.ext'
      simp
theorem app_zeros (hT : TabOk P T) {e : Nat} (h0 : madeT T e = true) {t u ty : Nat} (hk : (ti T t).k = .slice e) (hu : (ti T u).k = .int .i64) {m : Int} (hm : 0 ≤ m) (hr : roomN m (ti T e).bytes = true) :
    ∃ news, App P w #[t, u] ty e (ti T e).size (ti T e).bytes (.int .i64 m) m.toNat news ∧ Rows w g.stb g.ob (ti T e).size (List.replicate m.toNat ((ti T e).shape.map CK.zero)) news := by
  obtain ⟨q1, q2, q3, q4⟩ := madeT_out h0
  obtain ⟨i, z, hi, hz, hsz, hby, hzl, _⟩ := zeros_rep (P := P) hT q1 q2
  have ht := hT.u_slice hk
  have hui := hT.u_int hu
  obtain ⟨z1, z2, z3⟩ := zero_one (P := P) hT h0 m.toNat hi hz w
  have hroom : m * ((ti T e).bytes : Int) ≤ 140737488355328 := of_decide_eq_true hr
  have hmle : m ≤ 140737488355328 := by
    have : m * 1 ≤ m * ((ti T e).bytes : Int) := Int.mul_le_mul_of_nonneg_left (by omega) hm
    omega
  have hwrap : IntKind.i64.wrap m = m := by simp [IntKind.wrap, IntKind.signed, IntKind.bits]; omega
  have hnn : ¬ m < 0 := by omega
  have h48 : ¬ 281474976710656 < m * (i.bytes : Int) := by rw [hby]; omega
  have hzl' : z.cells.size = i.size := by rw [hsz]; simpa using hzl
  have hzz : m.toNat * i.size = 0 → Builtin.zeroCells z.cells m.toNat = #[] := fun hz0 => by
    apply Array.eq_empty_of_size_eq_zero
    rw [size_zeroCells, hzl', hz0]
  refine ⟨(Builtin.zeroCells z.cells m.toNat).toList, ⟨fun a n c w' hroom hst => ?_, fun a n c olds hnc hg h63 hbytes hlo holds => ?_⟩, z3 g⟩
  · rw [← hsz] at hst
    by_cases hz0 : m.toNat * i.size = 0
    · have := hzz hz0
      have hst0 : (storeCells (a.add (n * i.size)) []).run P w = .ok () w' := by rw [this] at hst; simpa using hst
      simp [Builtin.append_, run_underlying ht, run_underlying hui, sizeOf, typeInfo, hi, asInt, asIntOf, hwrap, hnn, h48, hroom, hz0, hst0]
    · simp [Builtin.append_, run_underlying ht, run_underlying hui, sizeOf, typeInfo, hi, hz, zeroValue, asInt, asIntOf, hwrap, hnn, h48, hroom, hz0, hst]
  · have hcap : ¬ n + m.toNat ≤ c := by omega
    have hm0 : ¬ m.toNat = 0 := by omega
    have hz2 : ¬ i.size = 0 := by omega
    obtain ⟨y1, y2, _⟩ := zero_one (P := P) hT h0 (grownCap w (n + m.toNat) c e - (n + m.toNat)) hi hz w
    have hfo := run_firstCells_some (P := P) w.drew i.size n a n c olds (by rw [hsz]; exact hlo) (by simpa using holds)
    have hfit := growslice_fits hg (show (n + m.toNat) * i.bytes ≤ 140737488355328 by rw [hby]; exact hbytes)
    have h48' : ¬ (281474976710656 < Builtin.nextslicecap (n + m.toNat) c * i.bytes) := by omega
    have h63'' : ¬ (9223372036854775807 < ((n : Int) + max m 0)) := by simp only [maxLen] at h63; omega
    refine ⟨_, y1, y2, ?_⟩
    have hmz : ¬ m.toNat * i.size = 0 := fun h => by rcases Nat.mul_eq_zero.1 h with h | h <;> contradiction
    simp [Builtin.append_, run_underlying ht, run_underlying hui, sizeOf, typeInfo, hi, hz, zeroValue, asInt, asIntOf, hwrap, hnn, h48, hcap, h48', h63'', Question.forced, hfo, newRow, grownCap]
    rw [if_neg hmz]
    congr 3
    apply Array.ext'
    simp
theorem rows_any {k r : Nat} {us : List Value} (hl : us.length = r * k) (h1 : ∀ u ∈ us, u.oneCell' = true) (w : World) (stb : Nat → Prop) (ob : Nat → Option Nat) : Rows w stb ob k (List.replicate r (List.replicate k .any)) us := by
  refine ⟨by simp [hl], fun x hx => ?_, h1, fun i x j c hi hj => ?_⟩
  · obtain ⟨_, rfl⟩ := List.mem_replicate.1 hx; simp
  · rw [List.getElem?_replicate] at hi
    split at hi
    · rename_i hlt
      cases hi
      rw [List.getElem?_replicate] at hj
      split at hj
      · cases hj
        have := row_le (k := k) hlt
        exact ⟨_, List.getElem?_eq_getElem (by omega), .any _⟩
      · cases hj
    · cases hi
theorem laid_nil (vs : List Value) (o : Nat) : laid vs o [] = vs := by simp [laid]
/-- Cells are laid into rows of a block of the heap. -/
theorem store_rows {b q o k n c e : Nat} {vs news : List Value} {ys : List (List AV)} (hh : w.heap[b]? = some (.cells vs.toArray e (0, 0))) (hq : (c = 0 ∧ o ≠ 0) ∨ q = o * k) (hl : news.length = ys.length * k) (hroom : n + ys.length ≤ c) (hfit : (o + n) * k + news.length ≤ vs.length) (h1 : ∀ u ∈ news, u.oneCell' = true) :
    (storeCells ((⟨b, q, none⟩ : Addr).add (n * k)) news).run P w = .ok () (w.setRow b (laid vs ((o + n) * k) news).toArray) := by
  by_cases hy : news = []
  · subst hy
    rw [laid_nil]
    rw [setRow_self w b vs.toArray e (0, 0) hh]
    simp [storeCells]
  · have hq : q = o * k := by
      rcases hq with hq | hq
      · have : ys.length = 0 := by omega
        rw [this, Nat.zero_mul] at hl
        exact absurd (List.eq_nil_of_length_eq_zero hl) hy
      · exact hq
    subst hq
    rw [add_plain, ← Nat.add_mul]
    have := run_storeCells_at P b ((o + n) * k) e news 0 vs.toArray w hh (by simpa using hfit) h1
    simpa [laid] using this
theorem append_hs_core (hI : Inv w0 g0 g l w st a) {e : Nat} (q3 : 0 < (ti T e).size) {j o' n m : Nat} {v : Value} (hv : Rep w g.stb g.ob (.hs j o' n m (ti T e).size) v) {xs : List (List AV)} (hxs : st.H.get j = .rows (ti T e).size xs)
    {tys : Array TypeId} {ty : Nat} {yv : Value} {ys : List (List AV)} {news : List Value} (hA : App P w tys ty e (ti T e).size (ti T e).bytes yv ys.length news) (hR : Rows w g.stb g.ob (ti T e).size ys news) {d : Option Nat} {K : St → Prop} (q4 : 0 < (ti T e).bytes)
    (h : cond (Nat.ble (n + ys.length) m)
      (G (Nat.ble (o' + n + ys.length) xs.length) (K ({ st with H := st.H.set j (.rows (ti T e).size (splice xs (o' + n) ys)) }.put d (.hs j o' (n + ys.length) m (ti T e).size))))
      (G (room ((xs.drop o').take n) ys (ti T e).bytes) (G (Nat.ble (o' + n) xs.length) (∀ m', n + ys.length ≤ m' → (n + ys.length ≤ 140737488355328 → m' ≤ 9223372036854775807) →
        K ({ st with H := st.H.push (.rows (ti T e).size (pad (ti T e).size m' ((xs.drop o').take n ++ ys))) }.put d (.hs st.H.next 0 (n + ys.length) m' (ti T e).size)))))) :
    ∃ v' w' g' st', (Builtin.append_ tys ty #[v, yv]).run P w = .ok v' w' ∧ Inv w0 g0 g' l w' st' (a.put d v') ∧ K st' := by
  cases hv with
  | hs _ b _ _ _ _ q hob hn hm hq =>
    obtain ⟨hf, _, hmx, vs, e0, hh, hRx⟩ := rows_of hI.heap hob hxs
    cases hroom : Nat.ble (n + ys.length) m <;> rw [hroom] at h <;> simp only [cond_true, cond_false] at h
    · -- a new row
      obtain ⟨hr, h⟩ := G_out h
      obtain ⟨hle, h⟩ := G_out h
      have hle := Nat.le_of_ble_eq_true hle
      have hgt : m < n + ys.length := by
        rcases Nat.lt_or_ge m (n + ys.length) with h | h
        · exact h
        · have := Nat.ble_eq_true_of_le h; rw [hroom] at this; cases this
      have hlen : ((xs.drop o').take n).length = n := by simp; omega
      have hr : (n + ys.length) * (ti T e).bytes ≤ 140737488355328 := by have := Nat.le_of_ble_eq_true hr; rwa [hlen] at this
      have hle2 : n + ys.length ≤ (n + ys.length) * (ti T e).bytes := Nat.le_mul_of_pos_right _ q4
      have h63 : n + ys.length ≤ maxLen := by simp only [maxLen]; omega
      have hmul : (o' + n) * (ti T e).size ≤ xs.length * (ti T e).size := Nat.mul_le_mul_right _ hle
      rw [Nat.add_mul] at hmul
      have hold := (hRx.drop o').take n
      obtain ⟨rest, r1, r2, hrun⟩ := hA.grow ⟨b, q, none⟩ n m ((vs.drop (o' * (ti T e).size)).take (n * (ti T e).size)) hn hgt h63 hr (by rw [hold.len, hlen]) (fun i u hu => by
        rw [List.getElem?_take] at hu
        split at hu
        · rename_i hi
          rw [List.getElem?_drop] at hu
          have hq : q = o' * (ti T e).size := by
            rcases hq with hq | hq
            · have : n = 0 := by omega
              subst this
              simp at hi
            · exact hq
          rw [add_plain, hq]
          exact cell_of_list hh hu
        · cases hu)
      have hge := grownCap_ge w (n + ys.length) m e
      have hcm := grownCap_le_maxLen w (n + ys.length) m e h63
      refine ⟨_, _, _, _, hrun, Inv.put (g := g.push st.H.next w.heap.size) (hI.pushHeap (w' := w.drew.alloc (.cells ((vs.drop (o' * (ti T e).size)).take (n * (ti T e).size) ++ news ++ rest).toArray e)) rfl rfl rfl (by simp) (fun q hq => heap_alloc_old w.drew _ q hq) (Nat.le_refl _) (by simp) (x := .rows (ti T e).size (pad (ti T e).size (grownCap w (n + ys.length) m e) ((xs.drop o').take n ++ ys))) (by simp) ?_) (TRep.of_rep (.hs st.H.next w.heap.size 0 _ _ _ 0 (by simp [Gs.push]) hge hcm (.inr (by simp)))) (by simp [tagsOf]) d, h _ hge fun _ => hcm⟩
      have hnew : (w.drew.alloc (.cells ((vs.drop (o' * (ti T e).size)).take (n * (ti T e).size) ++ news ++ rest).toArray e)).heap[w.heap.size]? = some (.cells ((vs.drop (o' * (ti T e).size)).take (n * (ti T e).size) ++ news ++ rest).toArray e (0, 0)) := heap_alloc_new w.drew _
      have hst : ∀ b, g.stb b → (w.drew.alloc (.cells ((vs.drop (o' * (ti T e).size)).take (n * (ti T e).size) ++ news ++ rest).toArray e)).heap[b]? = w.heap[b]? := fun b hb => heap_alloc_old w.drew _ b (hI.stbLt b hb).1
      refine hrep_rows hnew q3 ?_ ?_
      · simp only [pad, List.length_append, List.length_replicate, hlen]; omega
      · unfold pad
        have hany := rows_any (r := grownCap w (n + ys.length) m e - (n + ys.length)) r1 r2 (w.drew.alloc (.cells ((vs.drop (o' * (ti T e).size)).take (n * (ti T e).size) ++ news ++ rest).toArray e)) (g.push st.H.next w.heap.size).stb (g.push st.H.next w.heap.size).ob
        have hold' := (hold.append hR).mono (stb' := (g.push st.H.next w.heap.size).stb) (ob' := (g.push st.H.next w.heap.size).ob) hst (fun _ h => h) (push_ob hI.heap)
        have := hold'.append hany
        rw [List.length_append, hlen]
        exact this
    · -- in its place
      obtain ⟨hle, h⟩ := G_out h
      have hle := Nat.le_of_ble_eq_true hle
      have hroom := Nat.le_of_ble_eq_true hroom
      have hmul : (o' + n + ys.length) * (ti T e).size ≤ xs.length * (ti T e).size := Nat.mul_le_mul_right _ hle
      have hfit : (o' + n) * (ti T e).size + news.length ≤ vs.length := by rw [hR.len, hRx.len, ← Nat.add_mul]; exact hmul
      have hst := store_rows (P := P) hh hq hR.len hroom hfit hR.one
      have hrun := hA.room ⟨b, q, none⟩ n m _ hroom hst
      have hkeep : ∀ p, p ≠ b → (w.setRow b (laid vs ((o' + n) * (ti T e).size) news).toArray).heap[p]? = w.heap[p]? := fun p hp => setRow_other _ _ _ _ hp
      have hst' : ∀ p, g.stb p → (w.setRow b (laid vs ((o' + n) * (ti T e).size) news).toArray).heap[p]? = w.heap[p]? := fun p hp => hkeep p fun e => (hI.stbLt p hp).2 (e ▸ hf)
      refine ⟨_, _, _, _, hrun, Inv.put (hI.setHeap (w' := w.setRow b (laid vs ((o' + n) * (ti T e).size) news).toArray) hob (by rw [hxs]; simp) rfl rfl rfl (by simp) hkeep (x := .rows (ti T e).size (splice xs (o' + n) ys)) (by simp)
        (hrep_rows (setRow_heap _ _ _ _ _ _ hh) q3 (by rw [splice_length hle]; exact hmx) ((hRx.splice hR (o' + n)).mono hst' (fun _ h => h) (fun _ _ h => h)))) (TRep.of_rep (.hs j b o' _ _ _ q hob hroom hm hq)) (by simp [tagsOf]) d, h⟩
theorem append_hs_sound (hT : TabOk P T) (hI : Inv w0 g0 g l w st a) {c : Go.Call} {K : St → Prop} {e j o' n m k : Nat} (ho : o.op = .call c) (hc : c.callee = .builtin .append) (hk : (ti T (c.argTypes.getD 0 0)).k = .slice e) (h0 : madeT T e = true)
    (hx : ρ st.tm (c.args.getD 0 (.const (.bool false))) = .hs j o' n m k)
    (h : G (Nat.beq k (ti T e).size) (G ((st.H.get j).isRows k) ((fun (K : List (List AV) → Prop) => cond (twoSame c) (rowOf (ti T e).size st.H (ρ st.tm (c.args.getD 1 (.const (.bool false)))) K) (zerosOf T e c (ρ st.tm (c.args.getD 1 (.const (.bool false)))) K)) fun ys =>
      cond (Nat.ble (n + ys.length) m)
        (G (Nat.ble (o' + n + ys.length) (st.H.get j).xs.length) (K ({ st with H := st.H.set j (.rows k (splice (st.H.get j).xs (o' + n) ys)) }.put o.dst (.hs j o' (n + ys.length) m k))))
        (G (room (((st.H.get j).xs.drop o').take n) ys (ti T e).bytes) (G (Nat.ble (o' + n) (st.H.get j).xs.length) (∀ m', n + ys.length ≤ m' → (n + ys.length ≤ 140737488355328 → m' ≤ 9223372036854775807) →
          K ({ st with H := st.H.push (.rows k (pad k m' (((st.H.get j).xs.drop o').take n ++ ys))) }.put o.dst (.hs st.H.next 0 (n + ys.length) m' k)))))))) (hn : Goes w0 g0 K next) : o.wp P a w next Q := by
  obtain ⟨h1, h⟩ := G_out h
  obtain ⟨h2, h⟩ := G_out h
  have e1 := Nat.eq_of_beq_eq_true h1
  subst e1
  obtain ⟨xs, hxs⟩ := isRows_eq h2
  obtain ⟨q1, q2, q3, q4⟩ := madeT_out h0
  obtain ⟨hxr, _⟩ := hI.operand (a := a) (c.args.getD 0 (.const (.bool false)))
  rw [hx] at hxr
  simp only [TRep] at hxr
  rw [hxs] at h
  simp only [HB.xs] at h
  have fin : ∀ {x y : Operand} {t u : Nat} {ys : List (List AV)} {news : List Value}, c.args = #[x, y] → c.argTypes = #[t, u] → App P w #[t, u] o.type e (ti T e).size (ti T e).bytes (a.eval y) ys.length news → Rows w g.stb g.ob (ti T e).size ys news →
      (cond (Nat.ble (n + ys.length) m)
        (G (Nat.ble (o' + n + ys.length) xs.length) (K ({ st with H := st.H.set j (.rows (ti T e).size (splice xs (o' + n) ys)) }.put o.dst (.hs j o' (n + ys.length) m (ti T e).size))))
        (G (room ((xs.drop o').take n) ys (ti T e).bytes) (G (Nat.ble (o' + n) xs.length) (∀ m', n + ys.length ≤ m' → (n + ys.length ≤ 140737488355328 → m' ≤ 9223372036854775807) →
          K ({ st with H := st.H.push (.rows (ti T e).size (pad (ti T e).size m' ((xs.drop o').take n ++ ys))) }.put o.dst (.hs st.H.next 0 (n + ys.length) m' (ti T e).size)))))) → o.wp P a w next Q := by
    intro x y t u ys news hargs htys hA hR h
    rw [hargs] at hxr
    simp only [Array.getD_eq_getD_getElem?, List.getElem?_toArray, List.getElem?_cons_zero, Option.getD_some] at hxr
    obtain ⟨v', w', g', st', hrun, hI', hK⟩ := append_hs_core (d := o.dst) hI q3 hxr hxs hA hR q4 h
    refine wp_value (w' := w') (v := v') ?_ (hn _ _ _ _ _ hI' hK)
    unfold execOp
    rw [ho]
    simp only [resolve, hc, hargs, htys, Sem.run_bind, Sem.run_pure, Result.andThen_ok, invoke, builtin, List.map_toArray, List.map_cons, List.map_nil, hrun]
  cases hts : twoSame c with
  | true =>
    rw [hts, cond_true] at h
    obtain ⟨x, y, t, hargs, htys⟩ := two_same hts
    rw [hargs] at h
    rw [htys] at hk
    simp only [Array.getD_eq_getD_getElem?, List.getElem?_toArray, List.getElem?_cons_zero, List.getElem?_cons_succ, Option.getD_some] at h hk
    obtain ⟨ys, h, hsrc⟩ := row_src hI q3 h
    obtain ⟨news, hA, hR⟩ := app_rows (ty := o.type) hT h0 hk hsrc
    exact fin hargs htys hA hR h
  | false =>
    rw [hts, cond_false] at h
    unfold zerosOf at h
    split at h
    · rename_i x y t u h1 h2
      have hargs : c.args = #[x, y] := by rw [← Array.toArray_toList (xs := c.args), h1]
      have htys : c.argTypes = #[t, u] := by rw [← Array.toArray_toList (xs := c.argTypes), h2]
      rw [hargs] at h
      rw [htys] at hk
      simp only [Array.getD_eq_getD_getElem?, List.getElem?_toArray, List.getElem?_cons_zero, List.getElem?_cons_succ, Option.getD_some] at h hk
      cases hu : (ti T u).k <;> rw [hu] at h <;> try exact h.elim
      rename_i ik
      cases ik <;> try exact h.elim
      cases hy : ρ st.tm y <;> rw [hy] at h <;> try exact h.elim
      rename_i ik' mi
      cases ik' <;> try exact h.elim
      simp only at h
      obtain ⟨g1, h⟩ := G_out h
      obtain ⟨g2, h⟩ := G_out h
      have hyv := (hI.operand (a := a) y).1
      rw [hy] at hyv
      simp only [TRep] at hyv
      obtain ⟨news, hA, hR⟩ := app_zeros (w := w) (g := g) (ty := o.type) hT h0 hk hu (of_decide_eq_true g1) g2
      have hl : (List.replicate mi.toNat ((ti T e).shape.map CK.zero)).length = mi.toNat := by simp
      rw [← hl] at hA
      rw [← hyv] at hA
      exact fin hargs htys hA hR h
    · exact h.elim
theorem array_two {α : Type} {xs : Array α} (h : xs.size = 2) : ∃ x y, xs = #[x, y] := by
  obtain ⟨l⟩ := xs
  match l, h with
  | [x, y], _ => exact ⟨x, y, rfl⟩
theorem array_one {α : Type} {xs : Array α} (h : xs.size = 1) : ∃ x, xs = #[x] := by
  obtain ⟨l⟩ := xs
  match l, h with
  | [x], _ => exact ⟨x, rfl⟩
theorem copy_sound (hT : TabOk P T) (hI : Inv w0 g0 g l w st a) {c : Go.Call} {K : St → Prop} (ho : o.op = .call c) (hc : c.callee = .builtin .copy)
    (h : match (ti T (c.argTypes.getD 0 0)).k, ρ st.tm (c.args.getD 0 (.const (.bool false))) with
      | .slice e, .hs j o' n _ k => G (Nat.beq k (ti T e).size && Nat.blt 0 k && Nat.beq c.args.size 2 && Nat.beq c.argTypes.size 2) (G ((st.H.get j).isRows k) (G (Nat.ble (o' + n) (st.H.get j).xs.length)
          (rowOf k st.H (ρ st.tm (c.args.getD 1 (.const (.bool false)))) fun ys =>
            K ({ st with H := st.H.set j (.rows k (splice (st.H.get j).xs o' (ys.take n))) }.put o.dst (.int .i64 ((Nat.min ys.length n : Nat) : Int))))))
      | .slice e, .nilsl => G (Nat.blt 0 (ti T e).size && Nat.beq c.args.size 2 && Nat.beq c.argTypes.size 2) (rowOf (ti T e).size st.H (ρ st.tm (c.args.getD 1 (.const (.bool false)))) fun _ => K (st.put o.dst (.int .i64 0)))
      | _, _ => False) (hn : Goes w0 g0 K next) : o.wp P a w next Q := by
  cases hk : (ti T (c.argTypes.getD 0 0)).k <;> rw [hk] at h <;> try exact h.elim
  rename_i e
  obtain ⟨hxr, _⟩ := hI.operand (a := a) (c.args.getD 0 (.const (.bool false)))
  cases hx : ρ st.tm (c.args.getD 0 (.const (.bool false))) <;> rw [hx] at h hxr <;> try exact h.elim
  case nilsl =>
    simp only at h
    obtain ⟨hg, h⟩ := G_out h
    simp only [Bool.and_eq_true] at hg
    obtain ⟨⟨g1, g2⟩, g3⟩ := hg
    have q3 : 0 < (ti T e).size := Nat.le_of_ble_eq_true g1
    obtain ⟨x, y, hargs⟩ := array_two (Nat.eq_of_beq_eq_true g2)
    obtain ⟨t, u, htys⟩ := array_two (Nat.eq_of_beq_eq_true g3)
    rw [hargs] at h hxr
    rw [htys] at hk
    simp only [Array.getD_eq_getD_getElem?, List.getElem?_toArray, List.getElem?_cons_zero, List.getElem?_cons_succ, Option.getD_some] at h hk hxr
    obtain ⟨ys, hK, hsrc⟩ := row_src hI q3 h
    obtain ⟨A, c0, news, hyv, hA, hcells, hR⟩ := hsrc.out
    simp only [TRep] at hxr
    have hsz := hT.size_pos (P := P) (t := e) q3 w
    have hu := run_underlying (w := w) (hT.u_slice hk)
    refine wp_value (w' := w) (v := .int .i64 0) ?_ (hn _ _ _ _ _ (hI.put (by simp [TRep]) (by simp [tagsOf]) _) hK)
    unfold execOp
    rw [ho]
    have hf : (Builtin.firstCells (ti T e).size 0 (.slice A ys.length c0)).run P w = .ok #[] w := by
      cases A with
      | none => exact run_firstCells_none (P := P) w (ti T e).size 0 ys.length c0
      | some ad =>
        have := run_firstCells_some (P := P) w (ti T e).size 0 ad ys.length c0 [] (by simp) (by simp)
        simpa using this
    simp [resolve, hc, hargs, htys, invoke, builtin, Builtin.copy_, hu, hxr, hyv, Builtin.lenOf, hsz, hf, goInt]
  case hs j o' n m k =>
    simp only at h
    obtain ⟨hg, h⟩ := G_out h
    obtain ⟨g4, h⟩ := G_out h
    obtain ⟨g5, h⟩ := G_out h
    simp only [Bool.and_eq_true] at hg
    obtain ⟨⟨⟨g0', g1⟩, g2⟩, g3⟩ := hg
    have e1 := Nat.eq_of_beq_eq_true g0'
    subst e1
    have q3 : 0 < (ti T e).size := Nat.le_of_ble_eq_true g1
    obtain ⟨xs, hxs⟩ := isRows_eq g4
    rw [hxs] at h g5
    simp only [HB.xs] at h g5
    have g5 := Nat.le_of_ble_eq_true g5
    obtain ⟨x, y, hargs⟩ := array_two (Nat.eq_of_beq_eq_true g2)
    obtain ⟨t, u, htys⟩ := array_two (Nat.eq_of_beq_eq_true g3)
    rw [hargs] at h hxr
    rw [htys] at hk
    simp only [Array.getD_eq_getD_getElem?, List.getElem?_toArray, List.getElem?_cons_zero, List.getElem?_cons_succ, Option.getD_some] at h hk hxr
    obtain ⟨ys, hK, hsrc⟩ := row_src hI q3 h
    obtain ⟨A, c0, news, hyv, hA, hcells, hR⟩ := hsrc.out
    simp only [TRep] at hxr
    generalize hv : a.eval x = v at hxr
    cases hxr with
    | hs _ b _ _ _ _ q hob hnc hm hq =>
      obtain ⟨hf, _, hmx, vs, e0, hh, hRx⟩ := rows_of hI.heap hob hxs
      have hsz := hT.size_pos (P := P) (t := e) q3 w
      have hu := run_underlying (w := w) (hT.u_slice hk)
      have hRt := hR.take n
      have hlt : (ys.take n).length = Nat.min ys.length n := by rw [List.length_take, Nat.min_comm]
      have hmn : Nat.min ys.length n ≤ n := Nat.min_le_right _ _
      have hnl : (news.take (n * (ti T e).size)).length = (ys.take n).length * (ti T e).size := hRt.len
      have hfc : (Builtin.firstCells (ti T e).size (Nat.min ys.length n) (.slice A ys.length c0)).run P w = .ok (news.take (n * (ti T e).size)).toArray w := by
        cases A with
        | none =>
          have hy0 := hA rfl
          have : news = [] := List.eq_nil_of_length_eq_zero (by rw [hR.len, hy0]; simp)
          rw [this]
          have := run_firstCells_none (P := P) w (ti T e).size (Nat.min ys.length n) ys.length c0
          simpa using this
        | some ad =>
          refine run_firstCells_some (P := P) w (ti T e).size _ ad ys.length c0 _ (by rw [hnl, hlt]) (fun i u hu => ?_)
          rw [List.getElem?_take] at hu
          split at hu
          · exact hcells ad rfl i u hu
          · cases hu
      have hmul : (o' + (ys.take n).length) * (ti T e).size ≤ xs.length * (ti T e).size := Nat.mul_le_mul_right _ (by rw [hlt]; omega)
      have hfit : (o' + 0) * (ti T e).size + (news.take (n * (ti T e).size)).length ≤ vs.length := by rw [hnl, hRx.len, Nat.add_zero, ← Nat.add_mul]; exact hmul
      have hst := store_rows (P := P) (n := 0) hh hq hnl (by rw [hlt]; omega) hfit hRt.one
      simp only [Nat.zero_mul, Nat.add_zero, add_plain] at hst
      have hkeep : ∀ p, p ≠ b → (w.setRow b (laid vs (o' * (ti T e).size) (news.take (n * (ti T e).size))).toArray).heap[p]? = w.heap[p]? := fun p hp => setRow_other _ _ _ _ hp
      have hst' : ∀ p, g.stb p → (w.setRow b (laid vs (o' * (ti T e).size) (news.take (n * (ti T e).size))).toArray).heap[p]? = w.heap[p]? := fun p hp => hkeep p fun e => (hI.stbLt p hp).2 (e ▸ hf)
      refine wp_value (w' := w.setRow b (laid vs (o' * (ti T e).size) (news.take (n * (ti T e).size))).toArray) (v := .int .i64 ((Nat.min ys.length n : Nat) : Int)) ?_ (hn _ _ _ _ _ (Inv.put (hI.setHeap (w' := w.setRow b (laid vs (o' * (ti T e).size) (news.take (n * (ti T e).size))).toArray) hob (by rw [hxs]; simp) rfl rfl rfl (by simp) hkeep (x := .rows (ti T e).size (splice xs o' (ys.take n))) (by simp)
        (hrep_rows (setRow_heap _ _ _ _ _ _ hh) q3 (by rw [splice_length (by rw [hlt]; omega)]; exact hmx) ((hRx.splice hRt o').mono hst' (fun _ h => h) (fun _ _ h => h)))) (by simp [TRep]) (by simp [tagsOf]) _) hK)
      unfold execOp
      rw [ho]
      have hmin : ∀ n, Nat.min ys.length n = min ys.length n := fun _ => rfl
      simp only [hmin] at hfc
      simp [resolve, hc, hargs, htys, invoke, builtin, Builtin.copy_, hu, hv, hyv, Builtin.lenOf, hsz, hfc, hst, goInt, hmin]
theorem clear_sound (hT : TabOk P T) (hI : Inv w0 g0 g l w st a) {c : Go.Call} {K : St → Prop} (ho : o.op = .call c) (hc : c.callee = .builtin .clear)
    (h : match (ti T (c.argTypes.getD 0 0)).k, ρ st.tm (c.args.getD 0 (.const (.bool false))) with
      | .slice e, .hs j o' n _ k => G (madeT T e && Nat.beq k (ti T e).size && Nat.beq c.args.size 1 && Nat.beq c.argTypes.size 1) (G ((st.H.get j).isRows k) (G (Nat.ble (o' + n) (st.H.get j).xs.length)
          (K ({ st with H := st.H.set j (.rows k (splice (st.H.get j).xs o' (List.replicate n ((ti T e).shape.map CK.zero)))) }.put o.dst (.tup [])))))
      | .slice _, .nilsl => G (Nat.beq c.args.size 1 && Nat.beq c.argTypes.size 1) (K (st.put o.dst (.tup [])))
      | _, _ => False) (hn : Goes w0 g0 K next) : o.wp P a w next Q := by
  cases hk : (ti T (c.argTypes.getD 0 0)).k <;> rw [hk] at h <;> try exact h.elim
  rename_i e
  obtain ⟨hxr, _⟩ := hI.operand (a := a) (c.args.getD 0 (.const (.bool false)))
  cases hx : ρ st.tm (c.args.getD 0 (.const (.bool false))) <;> rw [hx] at h hxr <;> try exact h.elim
  case nilsl =>
    simp only at h
    obtain ⟨hg, h⟩ := G_out h
    simp only [Bool.and_eq_true] at hg
    obtain ⟨x, hargs⟩ := array_one (Nat.eq_of_beq_eq_true hg.1)
    obtain ⟨t, htys⟩ := array_one (Nat.eq_of_beq_eq_true hg.2)
    rw [hargs] at hxr
    rw [htys] at hk
    simp only [Array.getD_eq_getD_getElem?, List.getElem?_toArray, List.getElem?_cons_zero, Option.getD_some] at hk hxr
    simp only [TRep] at hxr
    have hu := run_underlying (w := w) (hT.u_slice hk)
    refine wp_value (w' := w) (v := undef) ?_ (hn _ _ _ _ _ (hI.put undef_rep (by simp [tagsOf, tagsOfs]) _) h)
    unfold execOp
    rw [ho]
    simp [resolve, hc, hargs, htys, invoke, builtin, Builtin.clear_, hu, hxr, undef]
  case hs j o' n m k =>
    simp only at h
    obtain ⟨hg, h⟩ := G_out h
    obtain ⟨g4, h⟩ := G_out h
    obtain ⟨g5, h⟩ := G_out h
    simp only [Bool.and_eq_true] at hg
    obtain ⟨⟨⟨h0, g1⟩, g2⟩, g3⟩ := hg
    have e1 := Nat.eq_of_beq_eq_true g1
    subst e1
    obtain ⟨q1, q2, q3, q4⟩ := madeT_out h0
    obtain ⟨i, z, hi, hz, hsz, hby, hzl, _⟩ := zeros_rep (P := P) hT q1 q2
    obtain ⟨xs, hxs⟩ := isRows_eq g4
    rw [hxs] at h g5
    simp only [HB.xs] at h g5
    have g5 := Nat.le_of_ble_eq_true g5
    obtain ⟨x, hargs⟩ := array_one (Nat.eq_of_beq_eq_true g2)
    obtain ⟨t, htys⟩ := array_one (Nat.eq_of_beq_eq_true g3)
    rw [hargs] at hxr
    rw [htys] at hk
    simp only [Array.getD_eq_getD_getElem?, List.getElem?_toArray, List.getElem?_cons_zero, Option.getD_some] at hk hxr
    simp only [TRep] at hxr
    generalize hv : a.eval x = v at hxr
    cases hxr with
    | hs _ b _ _ _ _ q hob hnc hm hq =>
      obtain ⟨hf, _, hmx, vs, e0, hh, hRx⟩ := rows_of hI.heap hob hxs
      have hu := run_underlying (w := w) (hT.u_slice hk)
      obtain ⟨z1, z2, z3⟩ := zero_one (P := P) hT h0 n hi hz w
      have hR := z3 g
      have hlen : (List.replicate n ((ti T e).shape.map CK.zero)).length = n := by simp
      have hmul : (o' + n) * (ti T e).size ≤ xs.length * (ti T e).size := Nat.mul_le_mul_right _ g5
      have hfit : (o' + 0) * (ti T e).size + (Builtin.zeroCells z.cells n).toList.length ≤ vs.length := by rw [z1, hRx.len, Nat.add_zero, ← Nat.add_mul]; exact hmul
      have hst := store_rows (P := P) (n := 0) (ys := List.replicate n ((ti T e).shape.map CK.zero)) hh hq (by rw [z1, hlen]) (by rw [hlen]; omega) hfit z2
      simp only [Nat.zero_mul, Nat.add_zero, add_plain] at hst
      have hkeep : ∀ p, p ≠ b → (w.setRow b (laid vs (o' * (ti T e).size) (Builtin.zeroCells z.cells n).toList).toArray).heap[p]? = w.heap[p]? := fun p hp => setRow_other _ _ _ _ hp
      have hst' : ∀ p, g.stb p → (w.setRow b (laid vs (o' * (ti T e).size) (Builtin.zeroCells z.cells n).toList).toArray).heap[p]? = w.heap[p]? := fun p hp => hkeep p fun e => (hI.stbLt p hp).2 (e ▸ hf)
      refine wp_value (w' := w.setRow b (laid vs (o' * (ti T e).size) (Builtin.zeroCells z.cells n).toList).toArray) (v := undef) ?_ (hn _ _ _ _ _ (Inv.put (hI.setHeap (w' := w.setRow b (laid vs (o' * (ti T e).size) (Builtin.zeroCells z.cells n).toList).toArray) hob (by rw [hxs]; simp) rfl rfl rfl (by simp) hkeep (x := .rows (ti T e).size (splice xs o' (List.replicate n ((ti T e).shape.map CK.zero)))) (by simp)
        (hrep_rows (setRow_heap _ _ _ _ _ _ hh) q3 (by rw [splice_length (by rw [hlen]; exact g5)]; exact hmx) ((hRx.splice hR o').mono hst' (fun _ h => h) (fun _ _ h => h)))) undef_rep (by simp [tagsOf, tagsOfs]) _) h)
      unfold execOp
      rw [ho]
      cases hn0 : n with
      | zero =>
        subst hn0
        have : (Builtin.zeroCells z.cells 0).toList = [] := List.eq_nil_of_length_eq_zero (by rw [z1]; simp)
        rw [this, laid_nil, setRow_self w b vs.toArray e0 (0, 0) hh]
        simp [resolve, hc, hargs, htys, invoke, builtin, Builtin.clear_, hu, hv, undef]
      | succ n' =>
        rw [← hn0]
        have hne : n ≠ 0 := by omega
        simp [resolve, hc, hargs, htys, invoke, builtin, Builtin.clear_, hu, hv, hn0, zeroValue, typeInfo, hi, hz, undef]
        rw [← hn0]
        simp [hst]
end
end Go.Proofs.Ytbkkhhmjmbbfpaa.Ab
