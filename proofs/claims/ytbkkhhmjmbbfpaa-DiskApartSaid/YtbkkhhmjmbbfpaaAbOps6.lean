/- Stores. -/
import Derived.Test.YtbkkhhmjmbbfpaaAbOps5
namespace Go.Proofs.Ytbkkhhmjmbbfpaa.Ab
open Go

theorem setRange_eq : ∀ (vs cs : List AV) (o : Nat), o + vs.length ≤ cs.length → setRange cs o vs = cs.take o ++ vs ++ cs.drop (o + vs.length)
  | [], cs, o, _ => by simp [setRange]
  | v :: vs, cs, o, h => by
    simp only [List.length_cons] at h
    have ho : o < cs.length := by omega
    rw [setRange, setRange_eq vs (cs.set o v) (o + 1) (by simp; omega), List.take_set, List.drop_set_of_lt (by omega : o < o + 1 + vs.length)]
    rw [List.take_add_one, List.set_append_right _ _ (by simp; omega)]
    simp only [List.length_take, Nat.min_eq_left (Nat.le_of_lt ho), Nat.sub_self, List.getElem?_eq_getElem ho, Option.toList_some, List.set_cons_zero, List.length_cons, List.append_assoc, List.cons_append, List.nil_append]
    rw [show o + (vs.length + 1) = o + 1 + vs.length by omega]
theorem setRange_length (vs : List AV) : ∀ (cs : List AV) (o : Nat), (setRange cs o vs).length = cs.length := by
  induction vs with
  | nil => intro cs o; rfl
  | cons v vs ih => intro cs o; rw [setRange, ih]; simp

section
variable {P : Program} {T : List TI} {w0 : World} {g0 g : Gs} {l : Gl} {w : World} {st : St} {a : Act} {o : Oper} {next : Act → World → Prop} {Q : Exit → Act → World → Prop}

theorem TReps.take {n : Nat} {cs : List AV} {vs : List Value} (h : TReps g l w n cs vs) (k : Nat) : TReps g l w n (cs.take k) (vs.take k) := by
  refine .mk (by simp [h.length]) fun i c v hc hv => ?_
  rw [List.getElem?_take] at hc hv
  split at hc
  · rw [if_pos (by assumption)] at hv; exact h.of i c v hc hv
  · cases hc
theorem TReps.drop {n : Nat} {cs : List AV} {vs : List Value} (h : TReps g l w n cs vs) (k : Nat) : TReps g l w n (cs.drop k) (vs.drop k) := by
  refine .mk (by simp [h.length]) fun i c v hc hv => ?_
  rw [List.getElem?_drop] at hc hv
  exact h.of _ c v hc hv
theorem TReps.range {n : Nat} {cs ds : List AV} {vs us : List Value} (h : TReps g l w n cs vs) (h' : TReps g l w n ds us) (o : Nat) (hl : o + ds.length ≤ cs.length) :
    TReps g l w n (setRange cs o ds) (vs.take o ++ us ++ vs.drop (o + us.length)) := by
  rw [setRange_eq _ _ _ hl, ← h'.length]
  exact ((h.take o).append h').append (h.drop _)
theorem tagsOfs_append (xs ys : List AV) : tagsOfs (xs ++ ys) = tagsOfs xs ++ tagsOfs ys := by
  induction xs with
  | nil => simp [tagsOfs]
  | cons x xs ih => simp [tagsOfs, ih]
theorem tagsOfs_range {cs ds : List AV} {o : Nat} {t : Nat} (hl : o + ds.length ≤ cs.length) (h : t ∈ tagsOfs (setRange cs o ds)) : t ∈ tagsOfs cs ∨ t ∈ tagsOfs ds := by
  rw [setRange_eq _ _ _ hl, tagsOfs_append, tagsOfs_append, List.mem_append, List.mem_append] at h
  rcases h with (h | h) | h
  · obtain ⟨i, c, hc, ht⟩ := tagsOfs_iff h
    rw [List.getElem?_take] at hc
    split at hc
    · exact .inl (tagsOfs_get hc t ht)
    · cases hc
  · exact .inr h
  · obtain ⟨i, c, hc, ht⟩ := tagsOfs_iff h
    rw [List.getElem?_drop] at hc
    exact .inl (tagsOfs_get hc t ht)

theorem undef_rep {n : Nat} : TRep g l w n (.tup []) undef := by
  simp only [TRep]
  exact ⟨[], rfl, by simp [TReps]⟩

theorem store_ptr_sound (hT : TabOk P T) (hI : Inv w0 g0 g l w st a) {t : Nat} {x y : Operand} {j o' : Nat} {cs : List AV} {K : St → Prop} (ho : o.op = .store t x y) (hx : ρ st.tm x = .ptr j o') (hm : st.mem.getD j .dead = .cells cs)
    (h : G (Nat.blt 0 (ti T t).size) (G (boxable (ρ st.tm y)) (G (Nat.ble (o' + (cellsOf (ρ st.tm y)).length) cs.length) (G (Nat.beq (cellsOf (ρ st.tm y)).length (ti T t).size) (K ({ st with mem := st.mem.set j (.cells (setRangeX cs o' (cellsOf (ρ st.tm y)))) }.put o.dst (.tup [])))))))
    (hn : Goes w0 g0 K next) : o.wp P a w next Q := by
  rw [setRangeX_eq] at h
  cases h0 : Nat.blt 0 (ti T t).size <;> rw [h0] at h <;> simp only [G, cond_false, cond_true] at h
  cases hb : boxable (ρ st.tm y) <;> rw [hb] at h <;> simp only [cond_false, cond_true] at h
  cases h2 : Nat.ble (o' + (cellsOf (ρ st.tm y)).length) cs.length <;> rw [h2] at h <;> simp only [cond_false, cond_true] at h
  cases h3 : Nat.beq (cellsOf (ρ st.tm y)).length (ti T t).size <;> rw [h3] at h <;> simp only [cond_false, cond_true] at h
  have e2 := Nat.le_of_ble_eq_true h2
  have e3 := Nat.eq_of_beq_eq_true h3
  obtain ⟨hy, hyt⟩ := hI.operand (a := a) y
  obtain ⟨hyr, hy1, hyt⟩ := box_rep hy hI hyt hb
  obtain ⟨hp, _⟩ := hI.operand (a := a) x
  rw [hx] at hp
  simp only [TRep] at hp
  obtain ⟨hj, hp⟩ := hp
  have hjm : st.mem[j]? = some (.cells cs) := by rw [← hm, List.getD_eq_getElem?_getD, List.getElem?_eq_getElem hj]; rfl
  obtain ⟨vs, e, hh, hr, h1⟩ := hI.mem j _ hjm
  have hlen := hyr.length
  have hst := run_storeCells_at P (l.loc j) o' e (a.eval y).cells.toList 0 vs.toArray w hh (by rw [← hlen]; simp only [Nat.add_zero, List.size_toArray]; rw [← hr.length]; exact e2) hy1
  simp only [Nat.add_zero] at hst
  have hsz := hT.size_pos (P := P) (t := t) (Nat.le_of_ble_eq_true h0) w
  have hrun : (execOp a.eval o).run P w = .ok .skip (w.setRow (l.loc j) (vs.take o' ++ (a.eval y).cells.toList ++ vs.drop (o' + (a.eval y).cells.toList.length)).toArray) := by
    unfold execOp
    rw [ho]
    have hc : ((a.eval y).cells.size != (ti T t).size) = false := by
      rw [← e3, hlen]; simp
    have hc' : (a.eval y).cells.size = (ti T t).size := by simpa using hc
    simp [Instr.storeAt, Instr.sureAddr, hp, storeVar, hsz, hc', hst]
  refine wp_skip hrun (hn _ l _ _ _ ((hI.setMem (w' := w.setRow (l.loc j) (vs.take o' ++ (a.eval y).cells.toList ++ vs.drop (o' + (a.eval y).cells.toList.length)).toArray) hjm rfl (mb' := .cells (setRange cs o' (cellsOf (ρ st.tm y)))) rfl (fun t ht => ?_) rfl rfl rfl (by simp) (fun b hb => setRow_other _ _ _ _ hb) ?_).put undef_rep (by simp [tagsOf, tagsOfs]) _) h)
  · rcases tagsOfs_range e2 ht with ht | ht
    · exact tags_mem hjm ht
    · exact hyt t ht
  · have hst' : ∀ b, g.stb b → (w.setRow (l.loc j) (vs.take o' ++ (a.eval y).cells.toList ++ vs.drop (o' + (a.eval y).cells.toList.length)).toArray).heap[b]? = w.heap[b]? := fun b hb => setRow_other _ _ _ _ fun e => (hI.priv j _ hjm rfl).2.2.1 (e ▸ hb)
    refine ⟨_, e, setRow_heap _ _ _ _ _ _ hh, TReps.mono hst' (fun _ h => h) (fun _ _ h => h) (fun _ _ => rfl) (Nat.le_refl _) _ _ (fun _ _ => ⟨rfl, rfl, rfl⟩) (hr.range hyr o' e2), fun u hu => ?_⟩
    simp only [List.mem_append] at hu
    rcases hu with (hu | hu) | hu
    · exact h1 u (List.mem_of_mem_take hu)
    · exact hy1 u hu
    · exact h1 u (List.mem_of_mem_drop hu)

theorem frzAll_tags_of {u : Nat} : ∀ (ts : List Nat) (s : St), u ∉ ts → u ∈ s.tags → u ∈ (s.frzAll ts).tags
  | [], _, _, h => h
  | t :: ts, s, hn, h => by
    simp only [List.mem_cons, not_or] at hn
    exact frzAll_tags_of ts _ hn.2 (tags_mapS_of (frzF_tags_of hn.1) s h)

theorem store_ep_sound (hT : TabOk P T) (hI : Inv w0 g0 g l w st a) {t : Nat} {x y : Operand} {tg k i o' : Nat} {xs : List (List AV)} {K : St → Prop} (ho : o.op = .store t x y) (hx : ρ st.tm x = .ep tg k i o' xs)
    (h : G (Nat.blt 0 (ti T t).size) (G (boxable (ρ st.tm y)) (G (Nat.ble (o' + (cellsOf (ρ st.tm y)).length) k) (G (Nat.beq (cellsOf (ρ st.tm y)).length (ti T t).size) (G (!((tagsOf (ρ st.tm y)).contains tg))
      (K (((st.frzAll (tagsOf (ρ st.tm y))).mapS (updF tg (xs.set i (setRange (xs.getD i []) o' (frzVs (cellsOf (ρ st.tm y))))))).put o.dst (.tup []))))))))
    (hn : Goes w0 g0 K next) : o.wp P a w next Q := by
  cases h0 : Nat.blt 0 (ti T t).size <;> rw [h0] at h <;> simp only [G, cond_false, cond_true] at h
  cases hb : boxable (ρ st.tm y) <;> rw [hb] at h <;> simp only [cond_false, cond_true] at h
  cases h2 : Nat.ble (o' + (cellsOf (ρ st.tm y)).length) k <;> rw [h2] at h <;> simp only [cond_false, cond_true] at h
  cases h3 : Nat.beq (cellsOf (ρ st.tm y)).length (ti T t).size <;> rw [h3] at h <;> simp only [cond_false, cond_true] at h
  cases h4 : (tagsOf (ρ st.tm y)).contains tg <;> rw [h4] at h <;> simp only [Bool.not_true, Bool.not_false, cond_false, cond_true] at h
  have e2 := Nat.le_of_ble_eq_true h2
  have e3 := Nat.eq_of_beq_eq_true h3
  have e4 : tg ∉ tagsOf (ρ st.tm y) := by intro hm; simp [hm] at h4
  obtain ⟨hy, hyt⟩ := hI.operand (a := a) y
  obtain ⟨hyr, hy1, hyt'⟩ := box_rep hy hI hyt hb
  obtain ⟨hp, hpt⟩ := hI.operand (a := a) x
  rw [hx] at hp hpt
  simp only [TRep] at hp
  obtain ⟨rfl, rfl, ht0, hi, b, m, c, hv, hp⟩ := hp
  have hin : tg ∈ st.tags := hpt tg (by simp [tagsOf])
  have hcl : tagsOfs (cellsOf (ρ st.tm y)) = tagsOf (ρ st.tm y) := by
    cases ρ st.tm y <;> simp [cellsOf, tagsOfs, tagsOf]
  obtain ⟨g', hI', s1, n1, o1, f1, b1, c1⟩ := hI.frzAll (tagsOf (ρ st.tm y)) (fun t ht => tags_pos hI t (hyt t ht))
  have hin' : tg ∈ (st.frzAll (tagsOf (ρ st.tm y))).tags := frzAll_tags_of _ _ e4 hin
  obtain ⟨e, fl, hown, hk, hxs, h1, hr⟩ := hI'.own tg hin'
  have hlen := hyr.length
  -- the cells' reps
  have hlend : ∀ (j : Nat) (q : AV) (u : Value), (frzVs (cellsOf (ρ st.tm y)))[j]? = some q → (a.eval y).cells.toList[j]? = some u → Rep w g'.stb g'.ob q u := by
    intro j q u hq hu
    unfold frzVs at hq
    rw [mapTs_get, Option.map_eq_some_iff] at hq
    obtain ⟨q0, hq0, rfl⟩ := hq
    rw [o1]
    refine lend_rep (base := w0.heap.size) s1 (S := tagsOf (ρ st.tm y)) (fun t ht => ⟨hI.own t (hyt t ht), b1 t ht (hyt t ht)⟩) q0 u (fun t ht => ?_) (hyr.of j q0 u hq0 hu)
    rw [← hcl]
    exact tagsOfs_get hq0 t ht
  rcases hown.2 with ⟨hv', hz⟩ | ⟨b', cap, cur, hv', hbb, hh, hnc, hm, hcs, htk⟩
  · rw [hz] at hi; simp at hi
  rw [hv] at hv'
  simp only [Value.slice.injEq, Option.some.injEq, Addr.mk.injEq, and_true, true_and] at hv'
  obtain ⟨rfl, rfl, hcc⟩ := hv'
  subst hcc
  have hik : i * l.xk tg + l.xk tg ≤ (l.xc tg).length * l.xk tg := by
    calc i * l.xk tg + l.xk tg = (i + 1) * l.xk tg := by rw [Nat.add_mul, Nat.one_mul]
      _ ≤ _ := Nat.mul_le_mul_right _ hi
  have hck : (l.xc tg).length * l.xk tg ≤ cur.size := by rw [hcs]; exact Nat.mul_le_mul_right _ hnc
  have hst := run_storeCells_at P b (i * l.xk tg + o') e (a.eval y).cells.toList 0 cur w hh (by rw [← hlen]; omega) hy1
  simp only [Nat.add_zero] at hst
  have hsz := hT.size_pos (P := P) (t := t) (Nat.le_of_ble_eq_true h0) w
  generalize hcur : (cur.toList.take (i * l.xk tg + o') ++ (a.eval y).cells.toList ++ cur.toList.drop (i * l.xk tg + o' + (a.eval y).cells.toList.length)).toArray = cur' at hst
  have hrun : (execOp a.eval o).run P w = .ok .skip (w.setRow b cur') := by
    unfold execOp
    rw [ho]
    have hc' : (a.eval y).cells.size = (ti T t).size := by rw [← e3, hlen]; simp
    simp [Instr.storeAt, Instr.sureAddr, hp, storeVar, hsz, hc', hst]
  have hown' : (l.xv tg).ownBlock = some b := by rw [hv]; rfl
  have hst' : ∀ q, g'.stb q → (w.setRow b cur').heap[q]? = w.heap[q]? := fun q hq => setRow_other _ _ _ _ fun e => (hI'.ownPriv tg hin' b hown').1 (e ▸ hq)
  have hsizec : cur'.size = cur.size := by
    rw [← hcur]
    simp only [List.size_toArray, List.length_append, List.length_take, List.length_drop, Array.length_toList, ← hlen]
    omega
  have hcurget : ∀ q, cur'.toList[q]? = if i * l.xk tg + o' ≤ q ∧ q < i * l.xk tg + o' + (cellsOf (ρ st.tm y)).length then (a.eval y).cells.toList[q - (i * l.xk tg + o')]? else cur.toList[q]? := by
    intro q
    rw [← hcur]
    simp only [List.append_assoc, List.getElem?_append, List.length_take, Array.length_toList, ← hlen, Nat.min_eq_left (show i * l.xk tg + o' ≤ cur.size by omega)]
    by_cases c1 : q < i * l.xk tg + o'
    · rw [if_pos c1, if_neg (by omega), List.getElem?_take, if_pos c1]
    · rw [if_neg c1]
      by_cases c2 : q - (i * l.xk tg + o') < (cellsOf (ρ st.tm y)).length
      · rw [if_pos c2, if_pos (by omega)]
      · rw [if_neg c2, if_neg (by omega), List.getElem?_drop]
        congr 1
        omega
  refine wp_skip hrun (hn g' (l.own tg (l.xv tg) (l.xk tg) ((l.xc tg).set i (setRange ((l.xc tg).getD i []) o' (frzVs (cellsOf (ρ st.tm y)))))) _ _ _ ((hI'.upd (w' := w.setRow b cur') hin' (ys := (l.xc tg).set i (setRange ((l.xc tg).getD i []) o' (frzVs (cellsOf (ρ st.tm y))))) (by simp) rfl rfl rfl (by simp)
    (fun q hq => setRow_other _ _ _ _ fun e => hq (e ▸ hown')) ?_).put undef_rep (by simp [tagsOf, tagsOfs]) _) h)
  have hgi : (l.xc tg)[i]? = some ((l.xc tg).getD i []) := by rw [List.getD_eq_getElem?_getD, List.getElem?_eq_getElem hi]; rfl
  have hxi : ((l.xc tg).getD i []).length = l.xk tg := hxs _ (List.mem_of_getElem? hgi)
  have hfl : (frzVs (cellsOf (ρ st.tm y))).length = (cellsOf (ρ st.tm y)).length := by unfold frzVs; rw [mapTs_length]
  have hle : o' + (frzVs (cellsOf (ρ st.tm y))).length ≤ ((l.xc tg).getD i []).length := by rw [hfl, hxi]; exact e2
  refine ⟨e, cur'.toList.take ((l.xc tg).length * l.xk tg), ?_, ?_, ?_, ?_, ?_⟩
  · simp only [Gl.own, if_true, List.length_set]
    refine ⟨by simp only [List.length_take, Array.length_toList]; omega, .inr ⟨b, _, cur', hv, hbb, setRow_heap _ _ _ _ _ _ hh, hnc, hm, by omega, rfl⟩⟩
  · simp only [Gl.own, if_true]
    refine ⟨hk.1, fun b1 cs1 e1 fr hb1 hh1 u hu => ?_⟩
    rw [hown'] at hb1
    cases hb1
    rw [setRow_heap _ _ _ _ _ _ hh] at hh1
    cases hh1
    obtain ⟨q, hq⟩ := List.mem_iff_getElem?.1 hu
    rw [hcurget] at hq
    split at hq
    · exact hy1 u (List.mem_of_getElem? hq)
    · exact hk.2 b cur e (0, 0) hown' hh u (List.mem_of_getElem? hq)
  · simp only [Gl.own, if_true]
    intro q hq
    rcases List.mem_or_eq_of_mem_set hq with hq | rfl
    · exact hxs q hq
    · rw [setRange_length, hxi]
  · intro u hu
    obtain ⟨q, hq⟩ := List.mem_iff_getElem?.1 hu
    rw [List.getElem?_take] at hq
    split at hq
    · rename_i hqlt
      rw [hcurget] at hq
      split at hq
      · exact hy1 u (List.mem_of_getElem? hq)
      · refine h1 u ?_
        rw [← htk]
        refine List.mem_iff_getElem?.2 ⟨q, ?_⟩
        rw [List.getElem?_take, if_pos hqlt]
        exact hq
    · cases hq
  · simp only [Gl.own, if_true]
    intro p q j d hp' hj
    have hjk : p < (l.xc tg).length ∧ q.length = l.xk tg := by
      refine ⟨by have := (List.getElem?_eq_some_iff.1 hp').1; simpa using this, ?_⟩
      rcases List.mem_or_eq_of_mem_set (List.mem_of_getElem? hp') with hq | rfl
      · exact hxs q hq
      · rw [setRange_length, hxi]
    have hjl : j < l.xk tg := by have := (List.getElem?_eq_some_iff.1 hj).1; omega
    have hpk : p * l.xk tg + l.xk tg ≤ (l.xc tg).length * l.xk tg := by
      calc p * l.xk tg + l.xk tg = (p + 1) * l.xk tg := by rw [Nat.add_mul, Nat.one_mul]
        _ ≤ _ := Nat.mul_le_mul_right _ hjk.1
    have hold : ∀ d, (∃ x, (l.xc tg)[p]? = some x ∧ x[j]? = some d) → ¬ (i * l.xk tg + o' ≤ p * l.xk tg + j ∧ p * l.xk tg + j < i * l.xk tg + o' + (cellsOf (ρ st.tm y)).length) →
        ∃ v, (cur'.toList.take ((l.xc tg).length * l.xk tg))[p * l.xk tg + j]? = some v ∧ Rep (w.setRow b cur') g'.stb g'.ob d v := by
      intro d ⟨x, hx, hd⟩ hne
      obtain ⟨v, hv, hrep⟩ := hr p x j d hx hd
      refine ⟨v, ?_, hrep.mono hst' (fun _ h => h) (fun _ _ h => h)⟩
      rw [List.getElem?_take, if_pos (by omega), hcurget, if_neg hne]
      rw [← htk, List.getElem?_take] at hv
      split at hv
      · exact hv
      · cases hv
    by_cases hpi : p = i
    · subst hpi
      rw [List.getElem?_set_self hi] at hp'
      obtain rfl := Option.some.inj hp'
      rw [setRange_eq _ _ _ hle, List.append_assoc, List.getElem?_append] at hj
      simp only [List.length_take, hxi, Nat.min_eq_left (show o' ≤ l.xk tg by omega)] at hj
      split at hj
      · rw [List.getElem?_take, if_pos (by assumption)] at hj
        exact hold d ⟨_, hgi, hj⟩ (by omega)
      · rw [List.getElem?_append, hfl] at hj
        split at hj
        · obtain ⟨u, hu⟩ : ∃ u, (a.eval y).cells.toList[j - o']? = some u := ⟨_, List.getElem?_eq_getElem (by omega)⟩
          refine ⟨u, ?_, (hlend _ _ _ hj hu).mono hst' (fun _ h => h) (fun _ _ h => h)⟩
          rw [List.getElem?_take, if_pos (by omega), hcurget, if_pos (by omega), show p * l.xk tg + j - (p * l.xk tg + o') = j - o' by omega]
          exact hu
        · rw [List.getElem?_drop] at hj
          refine hold d ⟨_, hgi, ?_⟩ (by omega)
          rwa [show o' + (cellsOf (ρ st.tm y)).length + (j - o' - (cellsOf (ρ st.tm y)).length) = j by omega] at hj
    · rw [List.getElem?_set_ne (Ne.symm hpi)] at hp'
      refine hold d ⟨_, hp', hj⟩ ?_
      rcases Nat.lt_or_gt_of_ne hpi with hlt | hgt
      · have : p * l.xk tg + l.xk tg ≤ i * l.xk tg := by
          calc p * l.xk tg + l.xk tg = (p + 1) * l.xk tg := by rw [Nat.add_mul, Nat.one_mul]
            _ ≤ _ := Nat.mul_le_mul_right _ hlt
        omega
      · have : i * l.xk tg + l.xk tg ≤ p * l.xk tg := by
          calc i * l.xk tg + l.xk tg = (i + 1) * l.xk tg := by rw [Nat.add_mul, Nat.one_mul]
            _ ≤ _ := Nat.mul_le_mul_right _ hgt
        omega
end
end Go.Proofs.Ytbkkhhmjmbbfpaa.Ab
