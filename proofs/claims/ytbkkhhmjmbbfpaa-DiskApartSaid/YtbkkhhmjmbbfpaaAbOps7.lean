/- Memory made: structs, arrays, slices. -/
import Derived.Test.YtbkkhhmjmbbfpaaAbOps6
namespace Go.Proofs.Ytbkkhhmjmbbfpaa.Ab
open Go

/-- A list with a stretch laid anew. -/
def laid (cs : List Value) (o : Nat) (us : List Value) : List Value := cs.take o ++ us ++ cs.drop (o + us.length)
theorem laid_length {cs us : List Value} {o : Nat} (h : o + us.length ≤ cs.length) : (laid cs o us).length = cs.length := by
  simp only [laid, List.length_append, List.length_take, List.length_drop]; omega
theorem laid_get {cs us : List Value} {o : Nat} (h : o + us.length ≤ cs.length) (q : Nat) : (laid cs o us)[q]? = if o ≤ q ∧ q < o + us.length then us[q - o]? else cs[q]? := by
  simp only [laid, List.append_assoc, List.getElem?_append, List.length_take, Nat.min_eq_left (show o ≤ cs.length by omega)]
  by_cases c1 : q < o
  · rw [if_pos c1, if_neg (by omega), List.getElem?_take, if_pos c1]
  · rw [if_neg c1]
    by_cases c2 : q - o < us.length
    · rw [if_pos c2, if_pos (by omega)]
    · rw [if_neg c2, if_neg (by omega), List.getElem?_drop]
      congr 1
      omega
theorem laid_mem {cs us : List Value} {o : Nat} {u : Value} (h : u ∈ laid cs o us) : u ∈ cs ∨ u ∈ us := by
  simp only [laid, List.mem_append] at h
  rcases h with (h | h) | h
  · exact .inl (List.mem_of_mem_take h)
  · exact .inr h
  · exact .inl (List.mem_of_mem_drop h)
theorem laid_cons {cs us : List Value} {o : Nat} {u : Value} (h : o + (us.length + 1) ≤ cs.length) : laid (cs.set o u) (o + 1) us = laid cs o (u :: us) := by
  apply List.ext_getElem?
  intro q
  rw [laid_get (by simp; omega), laid_get (by simpa using h), List.getElem?_set]
  simp only [List.length_cons]
  by_cases c1 : o = q
  · subst c1
    rw [if_neg (by omega), if_pos rfl, if_pos (by omega), if_pos (by omega)]
    simp
  · by_cases c2 : o + 1 ≤ q ∧ q < o + 1 + us.length
    · rw [if_pos c2, if_pos (by omega), show q - o = (q - (o + 1)) + 1 by omega]
      simp
    · rw [if_neg c2, if_neg c1, if_neg (by omega)]
theorem fill_fold (off : Nat) : ∀ (us : List Value) (k : Nat) (cells : Array Value), off + k + us.length ≤ cells.size →
    ((us.zipIdx k).foldl (fun cs (p : Value × Nat) => cs.setIfInBounds (off + p.2) p.1) cells) = (laid cells.toList (off + k) us).toArray
  | [], k, cells, _ => by simp [laid]
  | u :: us, k, cells, h => by
    simp only [List.length_cons] at h
    simp only [List.zipIdx_cons, List.foldl_cons]
    rw [fill_fold off us (k + 1) _ (by simp; omega)]
    rw [Array.toList_setIfInBounds, show off + (k + 1) = off + k + 1 by omega, laid_cons (by simp; omega)]
theorem fill_step {place : Nat → Option (Nat × Nat)} {cs : List Value} {i off size : Nat} {v : Value} {rest : List (Nat × Value)} (hp : place i = some (off, size)) (hs : v.cells.toList.length = size) (hl : off + size ≤ cs.length) :
    Instr.fill place cs.toArray ((i, v) :: rest) = Instr.fill place (laid cs off v.cells.toList).toArray rest := by
  have h1 : v.cells.size = size := by simpa using hs
  have hf := fill_fold off v.cells.toList 0 cs.toArray (by simpa [h1] using hl)
  rw [Instr.fill, hp]
  simp only [h1, ne_eq, not_true, decide_false, Bool.false_or, List.size_toArray, gt_iff_lt, decide_eq_true_eq]
  rw [if_neg (by omega)]
  congr 1
  rw [← Array.foldl_toList, Array.toList_zipIdx]
  exact hf

section
variable {P : Program} {T : List TI} {w0 : World} {g0 g : Gs} {l : Gl} {w : World} {st : St} {a : Act} {o : Oper} {next : Act → World → Prop} {Q : Exit → Act → World → Prop}

/-- Parts, as they stand for the model's. -/
def Parts (g : Gs) (l : Gl) (w : World) (st : St) (ps : List (Nat × AV)) (vs : List (Nat × Value)) : Prop :=
  ps.length = vs.length ∧ ∀ (i : Nat) (p : Nat × AV) (v : Nat × Value), ps[i]? = some p → vs[i]? = some v → p.1 = v.1 ∧ TRep g l w st.mem.length p.2 v.2 ∧ ∀ t ∈ tagsOf p.2, t ∈ st.tags
theorem Parts.tail {p : Nat × AV} {v : Nat × Value} {ps : List (Nat × AV)} {vs : List (Nat × Value)} (h : Parts g l w st (p :: ps) (v :: vs)) : Parts g l w st ps vs :=
  ⟨by simpa using h.1, fun i q u hq hu => h.2 (i + 1) q u (by simpa using hq) (by simpa using hu)⟩
theorem Parts.head {p : Nat × AV} {v : Nat × Value} {ps : List (Nat × AV)} {vs : List (Nat × Value)} (h : Parts g l w st (p :: ps) (v :: vs)) : p.1 = v.1 ∧ TRep g l w st.mem.length p.2 v.2 ∧ ∀ t ∈ tagsOf p.2, t ∈ st.tags := h.2 0 p v (by simp) (by simp)
theorem Inv.parts (hI : Inv w0 g0 g l w st a) (ps : Array (Nat × Operand)) : Parts g l w st (ps.toList.map fun p => (p.1, ρ st.tm p.2)) (ps.map fun (i, x) => (i, a.eval x)).toList := by
  refine ⟨by simp, fun i p v hp hv => ?_⟩
  simp only [List.getElem?_map, Array.toList_map] at hp hv
  cases hq : ps.toList[i]? with
  | none => rw [hq] at hp; simp at hp
  | some q =>
    rw [hq] at hp hv
    simp only [Option.map_some, Option.some.injEq] at hp hv
    subst hp hv
    obtain ⟨h1, h2⟩ := hI.operand (a := a) q.2
    exact ⟨rfl, h1, h2⟩

theorem fill_out (hI : Inv w0 g0 g l w st a) {place : Nat → Option (Nat × Nat)} : ∀ {ps : List (Nat × AV)} {vs : List (Nat × Value)} {cs : List AV} {us : List Value} {K : List AV → Prop}, Parts g l w st ps vs → TReps g l w st.mem.length cs us → (∀ t ∈ tagsOfs cs, t ∈ st.tags) →
    fillAV place cs ps K → ∃ cs' us', K cs' ∧ Instr.fill place us.toArray vs = some us'.toArray ∧ TReps g l w st.mem.length cs' us' ∧ ∀ t ∈ tagsOfs cs', t ∈ st.tags
  | [], [], cs, us, K, _, hr, ht, h => ⟨cs, us, h, rfl, hr, ht⟩
  | (i, x) :: ps, (i', v) :: vs, cs, us, K, hp, hr, ht, h => by
    obtain ⟨hi, hx, hxt⟩ := hp.head
    simp only at hi hx hxt
    subst hi
    simp only [fillAV] at h
    cases hpl : place i with
    | none => rw [hpl] at h; exact h.elim
    | some q =>
      obtain ⟨off, size⟩ := q
      rw [hpl] at h
      simp only at h
      cases hb : boxable x <;> rw [hb] at h <;> simp only [G, cond_false, cond_true] at h
      cases h2 : Nat.beq (cellsOf x).length size <;> rw [h2] at h <;> simp only [cond_false, cond_true] at h
      cases h3 : Nat.ble (off + size) cs.length <;> rw [h3] at h <;> simp only [cond_false, cond_true] at h
      have e2 := Nat.eq_of_beq_eq_true h2
      have e3 := Nat.le_of_ble_eq_true h3
      obtain ⟨hyr, hy1, hyt⟩ := box_rep hx hI hxt hb
      have hlen := hyr.length
      rw [fill_step hpl (by omega) (by rw [← hr.length]; exact e3)]
      exact fill_out hI hp.tail (hr.range hyr off (by omega)) (fun t ht' => (tagsOfs_range (by omega) ht').elim (ht t) (hyt t)) h
  | [], _ :: _, _, _, _, hp, _, _, _ => by have := hp.1; simp at this
  | _ :: _, [], _, _, _, hp, _, _, _ => by have := hp.1; simp at this

theorem places_out (hT : TabOk P T) : ∀ (fa : List Field), ((fa.map fun f => (f.offset, f.type)).all fun p => Nat.blt 0 (ti T p.2).size) = true →
    fa.mapM (fun f => (P.info? f.type).map fun i => (f.offset, i.size)) = some ((fa.map fun f => (f.offset, f.type)).map fun p => (p.1, (ti T p.2).size))
  | [], _ => rfl
  | f :: fa, h => by
    simp only [List.map_cons, List.all_cons, Bool.and_eq_true] at h
    have hs := hT.size_pos (P := P) (t := f.type) (Nat.le_of_ble_eq_true h.1) ⟨default, default, default, default, default⟩
    have ih := places_out hT fa h.2
    simp only [List.mapM_cons, ih]
    cases hi : P.info? f.type with
    | none => simp [sizeOf, typeInfo, hi] at hs
    | some i =>
      simp [sizeOf, typeInfo, hi] at hs
      simp [hs]

theorem build_sound (hT : TabOk P T) (hI : Inv w0 g0 g l w st a) {t : Nat} {ps : Array (Nat × Operand)} {K : St → Prop} (ho : o.op = .build t ps)
    (h : match (ti T t).k with
      | .struct fs => G (fs.all fun p => Nat.blt 0 (ti T p.2).size) (fillAV (fun i => (fs[i]?).map fun p => (p.1, (ti T p.2).size)) ((ti T t).shape.map CK.zero) (ps.toList.map fun p => (p.1, ρ st.tm p.2)) fun cs => K (st.put o.dst (.agg cs)))
      | .array _ e => G (Nat.blt 0 (ti T e).size) (fillAV (fun i => some (i * (ti T e).size, (ti T e).size)) ((ti T t).shape.map CK.zero) (ps.toList.map fun p => (p.1, ρ st.tm p.2)) fun cs => K (st.put o.dst (.agg cs)))
      | _ => False)
    (hn : Goes w0 g0 K next) : o.wp P a w next Q := by
  have go : ∀ (cs' : List AV) (us' : List Value), K (st.put o.dst (.agg cs')) → P.built t (ps.map fun (i, x) => (i, a.eval x)).toList = some us'.toArray → TReps g l w st.mem.length cs' us' → (∀ t ∈ tagsOfs cs', t ∈ st.tags) → o.wp P a w next Q := by
    intro cs' us' hK hb hr ht
    have hrun : (execOp a.eval o).run P w = .ok (.value (.agg us'.toArray)) w := by
      unfold execOp
      rw [ho]
      exact exec_v (run_build w t _ _ hb)
    exact wp_value hrun (hn g l w _ _ (hI.put (by simp only [TRep]; exact ⟨us', rfl, hr⟩) (by simpa [tagsOf] using ht) _) hK)
  cases hk : (ti T t).k <;> rw [hk] at h <;> simp only at h
  case struct fs =>
    obtain ⟨i, z, hi, hz, hsz, _, hzl, _, hzr, hzt, _, _⟩ := zeros_rep (P := P) hT (t := t) (by rw [hk]; simp) (by rw [hk]; simp)
    obtain ⟨fa, hu, rfl⟩ := hT.u_struct hk
    cases hf : ((fa.toList.map fun f => (f.offset, f.type)).all fun p => Nat.blt 0 (ti T p.2).size) <;> rw [hf] at h <;> simp only [G, cond_false, cond_true] at h
    obtain ⟨cs', us', hK, hfill, hr, ht⟩ := fill_out hI (hI.parts ps) (hzr g l w _) (by rw [hzt]; simp) h
    refine go cs' us' hK ?_ hr ht
    unfold Program.built
    simp only [hi, hu, hz, places_out (P := P) hT _ hf]
    rw [← hfill]
    congr 1
    · funext i
      simp
  case array n e =>
    obtain ⟨i, z, hi, hz, hsz, _, hzl, _, hzr, hzt, _, _⟩ := zeros_rep (P := P) hT (t := t) (by rw [hk]; simp) (by rw [hk]; simp)
    have hu := hT.u_array hk
    cases hf : Nat.blt 0 (ti T e).size <;> rw [hf] at h <;> simp only [G, cond_false, cond_true] at h
    obtain ⟨cs', us', hK, hfill, hr, ht⟩ := fill_out hI (hI.parts ps) (hzr g l w _) (by rw [hzt]; simp) h
    refine go cs' us' hK ?_ hr ht
    have hse := hT.size_pos (P := P) (t := e) (Nat.le_of_ble_eq_true hf) w
    unfold Program.built
    cases hie : P.info? e with
    | none => simp [sizeOf, typeInfo, hie] at hse
    | some ie =>
      simp [sizeOf, typeInfo, hie] at hse
      simp only [hi, hu, hz, hie, hse]
      rw [← hfill]
end
end Go.Proofs.Ytbkkhhmjmbbfpaa.Ab
