/- The quiet operations: loads, fields, indexes. -/
import Derived.Test.YtbkkhhmjmbbfpaaAbOps1
namespace Go.Proofs.Ytbkkhhmjmbbfpaa.Ab
open Go

section
variable {P : Program} {T : List TI}
theorem TabOk.shape_other (h : TabOk P T) {t : Nat} (ht : (ti T t).k = .other) : (ti T t).shape.headD .other = .other := by
  have hl : T.length = P.types.size := by rw [← h.tys]; simp [tysOf]
  by_cases hlt : t < T.length
  · have : T[t]? = some (tyOf P t) := by rw [← h.tys]; simp [tysOf, List.getElem?_range (by omega : t < P.types.size)]
    have e : ti T t = tyOf P t := by simp [ti, List.getD_eq_getElem?_getD, this]
    rw [e] at ht ⊢
    have h1 : tkOf P t = .other := ht
    show (shapeOf P (19 + 1) t).headD .other = .other
    unfold tkOf at h1
    unfold shapeOf
    generalize (19 : Nat) = m
    cases hu : P.underlying t with
    | none => rfl
    | some d => rw [hu] at h1; cases d <;> first | rfl | (simp at h1; done)
  · simp [ti, List.getD_eq_getElem?_getD, List.getElem?_eq_none (Nat.le_of_not_lt hlt)]
theorem zeroCell_out {x : Value} {c : CK} (h : zeroCell x c = true) : (∀ (g : Gs) (l : Gl) (w : World) (n : Nat), TRep g l w n c.zero x ∧ Rep w g.stb g.ob c.zero x) ∧ x.oneCell' = true := by
  cases c
  case int k =>
    cases x <;> simp only [zeroCell, Bool.false_eq_true, Bool.and_eq_true, decide_eq_true_eq] at h
    obtain ⟨rfl, rfl⟩ := h
    exact ⟨fun _ _ _ _ => ⟨by simp [CK.zero, TRep], .int _ _⟩, rfl⟩
  case bool =>
    cases x <;> simp only [zeroCell, Bool.false_eq_true, Bool.not_eq_true'] at h
    subst h
    exact ⟨fun _ _ _ _ => ⟨by simp [CK.zero, TRep], .bool _⟩, rfl⟩
  case str =>
    cases x <;> simp only [zeroCell, Bool.false_eq_true, decide_eq_true_eq] at h
    subst h
    exact ⟨fun _ _ _ _ => ⟨by simp [CK.zero, TRep], .str _⟩, rfl⟩
  case ptr =>
    cases x <;> try (simp [zeroCell] at h; done)
    case pointer p => cases p with
      | none => exact ⟨fun _ _ _ _ => ⟨by simp [CK.zero, TRep], .nilp⟩, rfl⟩
      | some a => simp [zeroCell] at h
  case slice k =>
    cases x <;> try (simp [zeroCell] at h; done)
    case slice p n m => cases p with
      | none => cases n with
        | zero => cases m with
          | zero => exact ⟨fun _ _ _ _ => ⟨by simp [CK.zero, TRep], .nilsl⟩, rfl⟩
          | succ m => simp [zeroCell] at h
        | succ n => simp [zeroCell] at h
      | some a => simp [zeroCell] at h
  case map =>
    cases x <;> try (simp [zeroCell] at h; done)
    case map p => cases p with
      | none => exact ⟨fun _ _ _ _ => ⟨by simp [CK.zero, TRep], .nilmap⟩, rfl⟩
      | some a => simp [zeroCell] at h
  case func =>
    cases x <;> try (simp [zeroCell] at h; done)
    exact ⟨fun _ _ _ _ => ⟨by simp [CK.zero, TRep], .nilfn⟩, rfl⟩
  case iface =>
    cases x <;> try (simp [zeroCell] at h; done)
    exact ⟨fun _ _ _ _ => ⟨by simp [CK.zero, TRep], .niliface⟩, rfl⟩
  case other =>
    refine ⟨fun _ _ _ _ => ⟨by simp [CK.zero, TRep], .any _⟩, ?_⟩
    cases x <;> first | exact h | rfl
theorem zeroCells_out : ∀ {vs : List Value} {cs : List CK}, zeroCells vs cs = true → vs.length = cs.length ∧ ∀ (j : Nat) (x : Value) (c : CK), vs[j]? = some x → cs[j]? = some c → zeroCell x c = true
  | [], [], _ => ⟨rfl, by simp⟩
  | v :: vs, c :: cs, h => by
    simp only [zeroCells, Bool.and_eq_true] at h
    obtain ⟨h1, h2⟩ := zeroCells_out h.2
    refine ⟨by simp [h1], fun j x c hx hc => ?_⟩
    cases j with
    | zero => simp at hx hc; subst hx; subst hc; exact h.1
    | succ j => exact h2 j x c (by simpa using hx) (by simpa using hc)
  | [], _ :: _, h => by simp [zeroCells] at h
  | _ :: _, [], h => by simp [zeroCells] at h
theorem TabOk.zero (h : TabOk P T) {t : Nat} (ht : (ti T t).k ≠ .other) (htup : ∀ ts, (ti T t).k ≠ .tuple ts) : ∃ i z, P.info? t = some i ∧ i.zero = some z ∧ z.cells.toList.length = (ti T t).shape.length ∧ (ti T t).shape.length = (ti T t).size ∧
    (isAggT T t = isAggV z) ∧ ∀ (j : Nat) (x : Value) (c : CK), z.cells.toList[j]? = some x → (ti T t).shape[j]? = some c → (∀ (g : Gs) (l : Gl) (w : World) (n : Nat), TRep g l w n c.zero x ∧ Rep w g.stb g.ob c.zero x) ∧ x.oneCell' = true := by
  obtain ⟨i, hi, hsz, _⟩ := h.info ht
  have hz := (List.all_eq_true.1 h.zeros) t (List.mem_range.2 (h.get ht).1)
  unfold zeroOk at hz
  have hz' : (match P.info? t with
    | some i => match i.zero with
      | some z => zeroCells z.cells.toList (ti T t).shape && (Nat.beq (ti T t).shape.length (ti T t).size && (isAggT T t == isAggV z))
      | none => false
    | none => true) = true := by
    cases hk : (ti T t).k <;> first | exact absurd hk ht | exact absurd hk (htup _) | (rw [hk] at hz; exact hz)
  rw [hi] at hz'
  cases hzz : i.zero with
  | none => simp [hzz] at hz'
  | some z =>
    simp only [hzz, Bool.and_eq_true, beq_iff_eq] at hz'
    obtain ⟨h1, h2, h3⟩ := hz'
    obtain ⟨k1, k2⟩ := zeroCells_out h1
    exact ⟨i, z, hi, hzz, k1, Nat.eq_of_beq_eq_true h2, h3, fun j x c hx hc => zeroCell_out (k2 j x c hx hc)⟩
theorem agg_kind {t : Nat} (h : isAggT T t = true) : (ti T t).k ≠ .other ∧ ∀ ts, (ti T t).k ≠ .tuple ts := by
  unfold isAggT at h
  cases hk : (ti T t).k <;> rw [hk] at h <;> simp at h ⊢

theorem run_loadVar_agg (h : TabOk P T) {t : Nat} (ht : isAggT T t = true) {w : World} {b o : Nat} {vs : Nat → Value} (hc : ∀ i, i < (ti T t).size → w.cell? ⟨b, o + i, none⟩ = some (vs i)) :
    (loadVar t ⟨b, o, none⟩).run P w = .ok (.agg ((List.range (ti T t).size).map vs).toArray) w := by
  have hk := (agg_kind ht).1
  simp only [loadVar, Sem.run_bind, h.run_isAgg hk, Result.andThen, ht, if_true, h.run_size hk]
  rw [run_loadCells w ⟨b, o, none⟩ (ti T t).size vs (fun j hj => by rw [add_plain]; exact hc j hj)]
  simp
theorem run_loadVar_one (h : TabOk P T) {t : Nat} (hk : (ti T t).k ≠ .other) (ht : isAggT T t = false) {w : World} {b o : Nat} {v : Value} (hc : w.cell? ⟨b, o, none⟩ = some v) :
    (loadVar t ⟨b, o, none⟩).run P w = .ok v w := by
  simp only [loadVar, Sem.run_bind, h.run_isAgg hk, Result.andThen, ht, Bool.false_eq_true, if_false, run_load, hc]
end

section
variable {P : Program} {T : List TI} {w0 : World} {g0 g : Gs} {l : Gl} {w : World} {st : St} {a : Act} {t : Nat} {K : AV → Prop}

theorem head_kind (hT : TabOk P T) {x : AV} (h : norm ((ti T t).shape.headD .other) x K) : (ti T t).k ≠ .other := by
  intro he
  rw [hT.shape_other he] at h
  exact h
theorem headM_kind (hT : TabOk P T) {x : AV} (h : normM ((ti T t).shape.headD .other) x K) : (ti T t).k ≠ .other := by
  intro he
  rw [hT.shape_other he] at h
  exact h

theorem headO_kind (hT : TabOk P T) {x : AV} (h : normO ((ti T t).shape.headD .other) x K) : (ti T t).k ≠ .other := by
  intro he
  rw [hT.shape_other he] at h
  exact h

/-- A load out of stable cells. -/
theorem load_stable (hT : TabOk P T) {cs : List AV} {o b o1 : Nat} {vs : Nat → Value} (hc : ∀ i, i < cs.length → w.cell? ⟨b, o1 + i, none⟩ = some (vs i)) (hr : ∀ (i : Nat) (c : AV), cs[i]? = some c → Rep w g.stb g.ob c (vs i))
    (h : cond (isAggT T t) (normL (fun i => cs.getD i .any) (ti T t).shape o fun l => K (.agg l)) (norm ((ti T t).shape.headD .other) (cs.getD o .any) K)) :
    ∃ av u, K av ∧ (loadVar t ⟨b, o1 + o, none⟩).run P w = .ok u w ∧ Rep w g.stb g.ob av u ∧
      ∀ K' : AV → Prop, K' av → cond (isAggT T t) (normL (fun i => cs.getD i .any) (ti T t).shape o fun l => K' (.agg l)) (norm ((ti T t).shape.headD .other) (cs.getD o .any) K') := by
  cases hagg : isAggT T t
  · rw [hagg] at h
    simp only [cond_false] at h ⊢
    have hk := head_kind hT h
    obtain ⟨y, hy, hrel, hd⟩ := norm_out h
    obtain ⟨c, hcs, he⟩ := getD_notAny hrel.1
    rw [he] at hrel
    have hlt := (List.getElem?_eq_some_iff.1 hcs).1
    exact ⟨y, vs o, hy, run_loadVar_one hT hk hagg (hc o hlt), hrel.2 _ _ _ _ (hr o c hcs), hd⟩
  · rw [hagg] at h
    simp only [cond_true] at h ⊢
    obtain ⟨ys, hy, hlen, hrel, hd⟩ := normL_out h
    obtain ⟨hk, htup⟩ := agg_kind hagg
    obtain ⟨_, _, _, _, _, hsz, _⟩ := hT.zero hk htup
    have hin : ∀ i, i < (ti T t).size → ∃ c, cs[o + i]? = some c ∧ ∀ y, ys[i]? = some y → Rep w g.stb g.ob y (vs (o + i)) := by
      intro i hi
      have hi' : i < ys.length := by omega
      have h1 := hrel i ys[i] (List.getElem?_eq_getElem hi')
      obtain ⟨c, hcs, he⟩ := getD_notAny h1.1
      refine ⟨c, hcs, fun y hy => ?_⟩
      have h2 := hrel i y hy
      rw [he] at h2
      exact h2.2 _ _ _ _ (hr _ c hcs)
    refine ⟨.agg ys, .agg ((List.range (ti T t).size).map fun i => vs (o + i)).toArray, hy, ?_, ?_, fun K' hK => hd _ hK⟩
    · refine run_loadVar_agg hT hagg fun i hi => ?_
      obtain ⟨c, hcs, _⟩ := hin i hi
      have := hc (o + i) (List.getElem?_eq_some_iff.1 hcs).1
      rwa [show o1 + o + i = o1 + (o + i) by omega]
    · refine .agg ys _ (by simp [hlen, hsz]) fun i y v hy hv => ?_
      have hi : i < (ti T t).size := by have := (List.getElem?_eq_some_iff.1 hy).1; omega
      obtain ⟨c, _, hrep⟩ := hin i hi
      rw [List.getElem?_map, List.getElem?_range hi] at hv
      simp only [Option.map_some, Option.some.injEq] at hv
      subst hv
      exact hrep y hy

/-- A load out of an object. -/
theorem load_stableO (hT : TabOk P T) {cs : List AV} {o b o1 : Nat} {vs : Nat → Value} (hc : ∀ i, i < cs.length → w.cell? ⟨b, o1 + i, none⟩ = some (vs i)) (hr : ∀ (i : Nat) (c : AV), cs[i]? = some c → Rep w g.stb g.ob c (vs i))
    (h : cond (isAggT T t) (normOL (fun i => cs.getD i .any) (ti T t).shape o fun l => K (.agg l)) (normO ((ti T t).shape.headD .other) (cs.getD o .any) K)) :
    ∃ av u, K av ∧ (loadVar t ⟨b, o1 + o, none⟩).run P w = .ok u w ∧ Rep w g.stb g.ob av u ∧
      ∀ K' : AV → Prop, K' av → cond (isAggT T t) (normOL (fun i => cs.getD i .any) (ti T t).shape o fun l => K' (.agg l)) (normO ((ti T t).shape.headD .other) (cs.getD o .any) K') := by
  cases hagg : isAggT T t
  · rw [hagg] at h
    simp only [cond_false] at h ⊢
    have hk := headO_kind hT h
    obtain ⟨y, hy, hrel, hd⟩ := normO_out h
    obtain ⟨c, hcs, he⟩ := getD_notAny hrel.1
    rw [he] at hrel
    have hlt := (List.getElem?_eq_some_iff.1 hcs).1
    exact ⟨y, vs o, hy, run_loadVar_one hT hk hagg (hc o hlt), hrel.2 _ _ _ _ (hr o c hcs), hd⟩
  · rw [hagg] at h
    simp only [cond_true] at h ⊢
    obtain ⟨ys, hy, hlen, hrel, hd⟩ := normOL_out h
    obtain ⟨hk, htup⟩ := agg_kind hagg
    obtain ⟨_, _, _, _, _, hsz, _⟩ := hT.zero hk htup
    have hin : ∀ i, i < (ti T t).size → ∃ c, cs[o + i]? = some c ∧ ∀ y, ys[i]? = some y → Rep w g.stb g.ob y (vs (o + i)) := by
      intro i hi
      have hi' : i < ys.length := by omega
      have h1 := hrel i ys[i] (List.getElem?_eq_getElem hi')
      obtain ⟨c, hcs, he⟩ := getD_notAny h1.1
      refine ⟨c, hcs, fun y hy => ?_⟩
      have h2 := hrel i y hy
      rw [he] at h2
      exact h2.2 _ _ _ _ (hr _ c hcs)
    refine ⟨.agg ys, .agg ((List.range (ti T t).size).map fun i => vs (o + i)).toArray, hy, ?_, ?_, fun K' hK => hd _ hK⟩
    · refine run_loadVar_agg hT hagg fun i hi => ?_
      obtain ⟨c, hcs, _⟩ := hin i hi
      have := hc (o + i) (List.getElem?_eq_some_iff.1 hcs).1
      rwa [show o1 + o + i = o1 + (o + i) by omega]
    · refine .agg ys _ (by simp [hlen, hsz]) fun i y v hy hv => ?_
      have hi : i < (ti T t).size := by have := (List.getElem?_eq_some_iff.1 hy).1; omega
      obtain ⟨c, _, hrep⟩ := hin i hi
      rw [List.getElem?_map, List.getElem?_range hi] at hv
      simp only [Option.map_some, Option.some.injEq] at hv
      subst hv
      exact hrep y hy

theorem load_mine (hT : TabOk P T) {cs : List AV} {o b n : Nat} {vs : List Value} {e : TypeId} (hh : w.heap[b]? = some (.cells vs.toArray e (0, 0))) (hr : TReps g l w n cs vs)
    (h : cond (isAggT T t) (normML (fun i => cs.getD i .any) (ti T t).shape o fun l => K (.agg l)) (normM ((ti T t).shape.headD .other) (cs.getD o .any) K)) :
    ∃ av u, K av ∧ (loadVar t ⟨b, o, none⟩).run P w = .ok u w ∧ TRep g l w n av u ∧ (∀ t ∈ tagsOf av, t ∈ tagsOfs cs) ∧
      ∀ K' : AV → Prop, K' av → cond (isAggT T t) (normML (fun i => cs.getD i .any) (ti T t).shape o fun l => K' (.agg l)) (normM ((ti T t).shape.headD .other) (cs.getD o .any) K') := by
  have hcell : ∀ (i : Nat) (v : Value), vs[i]? = some v → w.cell? ⟨b, i, none⟩ = some v := by
    intro i v hv
    simp [World.cell?, hh, hv]
  cases hagg : isAggT T t
  · rw [hagg] at h
    simp only [cond_false] at h ⊢
    have hk := headM_kind hT h
    obtain ⟨hy, hrel, hd⟩ := normM_out h
    obtain ⟨c, hcs, he⟩ := getD_notAny hrel
    obtain ⟨v, hv, hrv⟩ := hr.get hcs
    rw [he] at hy hd
    refine ⟨c, v, hy, run_loadVar_one hT hk hagg (hcell o v hv), hrv, tagsOfs_get hcs, ?_⟩
    rw [he]
    exact hd
  · rw [hagg] at h
    simp only [cond_true] at h ⊢
    obtain ⟨ys, hy, hlen, hrel, hd⟩ := normML_out h
    obtain ⟨hk, htup⟩ := agg_kind hagg
    obtain ⟨_, _, _, _, _, hsz, _⟩ := hT.zero hk htup
    have hin : ∀ (i : Nat) (y : AV), ys[i]? = some y → cs[o + i]? = some y := by
      intro i y hy
      obtain ⟨h1, h2⟩ := hrel i y hy
      rw [h1] at h2
      obtain ⟨c, hcs, he⟩ := getD_notAny h2
      rw [h1, he]
      exact hcs
    refine ⟨.agg ys, .agg ((List.range (ti T t).size).map fun i => vs.getD (o + i) undef).toArray, hy, ?_, ?_, ?_, fun K' hK => hd _ hK⟩
    · refine run_loadVar_agg hT hagg fun i hi => ?_
      have hi' : i < ys.length := by omega
      obtain ⟨v, hv, _⟩ := hr.get (hin i ys[i] (List.getElem?_eq_getElem hi'))
      rw [hcell _ v hv, List.getD_eq_getElem?_getD, hv]; rfl
    · refine ⟨_, rfl, TReps.mk (by simp [hlen, hsz]) fun i y v hy hv => ?_⟩
      have hi : i < (ti T t).size := by have := (List.getElem?_eq_some_iff.1 hy).1; omega
      rw [List.getElem?_map, List.getElem?_range hi] at hv
      simp only [Option.map_some, Option.some.injEq] at hv
      obtain ⟨v', hv', hrv⟩ := hr.get (hin i y hy)
      rw [List.getD_eq_getElem?_getD, hv'] at hv
      simp at hv
      subst hv
      exact hrv
    · intro u hu
      simp only [tagsOf] at hu
      obtain ⟨i, y, hy, hu⟩ := tagsOfs_iff hu
      exact tagsOfs_get (hin i y hy) u hu

theorem isRows_eq {x : HB} {k : Nat} (h : x.isRows k = true) : ∃ xs, x = .rows k xs := by
  cases x with
  | rows k' xs => exact ⟨xs, by rw [Nat.eq_of_beq_eq_true h]⟩
  | _ => simp [HB.isRows] at h
theorem isCells_eq {x : HB} (h : x.isCells = true) : ∃ cs, x = .cells cs := by
  cases x with
  | cells cs => exact ⟨cs, rfl⟩
  | _ => simp [HB.isCells] at h
/-- A block of rows, as it lies in memory. -/
theorem HOK.rows {H : Heap} (h : HOK g w H) {j b k : Nat} (ho : g.ob j = some b) {xs : List (List AV)} (hj : H.get j = .rows k xs) :
    g.foot b ∧ ∃ vs e, w.heap[b]? = some (.cells (List.toArray vs) e (0, 0)) ∧ vs.length = xs.length * k ∧ 0 < k ∧ xs.length ≤ maxLen ∧ (∀ x ∈ xs, x.length = k) ∧ (∀ u ∈ vs, u.oneCell' = true) ∧
      ∀ (i : Nat) (x : List AV) (j : Nat) (c : AV), xs[i]? = some x → x[j]? = some c → ∃ v, vs[i * k + j]? = some v ∧ Rep w g.stb g.ob c v := by
  obtain ⟨b', h1, h2, h3, h4⟩ := h.live j (by rw [hj]; simp)
  rw [ho] at h1
  cases h1
  rw [hj] at h4
  exact ⟨h2, h4⟩
theorem isMap_eq {x : HB} (h : x.isMap = true) : ∃ es c, x = .map es c := by
  cases x with
  | map es c => exact ⟨es, c, rfl⟩
  | _ => simp [HB.isMap] at h
/-- A map, as it lies in memory. -/
theorem HOK.map {H : Heap} (h : HOK g w H) {j b c : Nat} (ho : g.ob j = some b) {es : List (Nat × AV × AV)} (hj : H.get j = .map es c) :
    g.foot b ∧ ∃ vs : List MapEntry, w.heap[b]? = some (.map vs.toArray c) ∧ vs.length = es.length ∧ ∀ (i : Nat) (a : Nat × AV × AV) (v : MapEntry), es[i]? = some a → vs[i]? = some v → v.born = a.1 ∧ Rep w g.stb g.ob a.2.1 v.key ∧ Rep w g.stb g.ob a.2.2 v.val := by
  obtain ⟨b', h1, h2, h3, h4⟩ := h.live j (by rw [hj]; simp)
  rw [ho] at h1
  cases h1
  rw [hj] at h4
  exact ⟨h2, h4⟩
theorem HOK.cells {H : Heap} (h : HOK g w H) {j b : Nat} (ho : g.ob j = some b) {cs : List AV} (hj : H.get j = .cells cs) :
    g.foot b ∧ ∃ vs e, w.heap[b]? = some (.cells (List.toArray vs) e (0, 0)) ∧ vs.length = cs.length ∧ (∀ u ∈ vs, u.oneCell' = true) ∧
      ∀ (i : Nat) (c : AV) (v : Value), cs[i]? = some c → vs[i]? = some v → Rep w g.stb g.ob c v := by
  obtain ⟨b', h1, h2, h3, h4⟩ := h.live j (by rw [hj]; simp)
  rw [ho] at h1
  cases h1
  rw [hj] at h4
  exact ⟨h2, h4⟩
theorem cell_of_list {vs : List Value} {e : TypeId} {b i : Nat} {v : Value} (hh : w.heap[b]? = some (.cells vs.toArray e (0, 0))) (hv : vs[i]? = some v) : w.cell? ⟨b, i, none⟩ = some v := by
  simp [World.cell?, hh, hv]
/-- Loads. -/
theorem loadAt_sound (hT : TabOk P T) (hI : Inv w0 g0 g l w st a) {p : AV} {v : Value} (hp : TRep g l w st.mem.length p v) (hpt : ∀ t ∈ tagsOf p, t ∈ st.tags) (h : loadAt T st.mem st.H t p K) :
    ∃ av u, K av ∧ (Instr.loadAt t v).run P w = .ok u w ∧ TRep g l w st.mem.length av u ∧ (∀ t ∈ tagsOf av, t ∈ st.tags) ∧ ∀ K' : AV → Prop, K' av → loadAt T st.mem st.H t p K' := by
  have run : ∀ b o, (Instr.loadAt t (.pointer (some ⟨b, o, none⟩))).run P w = (loadVar t ⟨b, o, none⟩).run P w := fun b o => by simp [Instr.loadAt, Instr.sureAddr]
  cases p <;> simp only [loadAt] at h ⊢
  case ptr j o =>
    simp only [TRep] at hp
    obtain ⟨hj, rfl⟩ := hp
    have hjm : st.mem[j]? = some (st.mem.getD j .dead) := by rw [List.getD_eq_getElem?_getD, List.getElem?_eq_getElem hj]; rfl
    rw [run]
    cases hmb : st.mem.getD j .dead <;> rw [hmb] at h hjm <;> simp only at h ⊢
    case cells cs =>
      obtain ⟨vs, e, hh, hr, h1⟩ := hI.mem j _ hjm
      obtain ⟨av, u, k1, k2, k3, k4, k5⟩ := load_mine hT hh hr h
      exact ⟨av, u, k1, k2, k3, fun t ht => tags_mem hjm (k4 t ht), k5⟩
    case frz cs =>
      obtain ⟨hst, vs, hc, h1, hr⟩ := hI.mem j _ hjm
      obtain ⟨av, u, k1, k2, k3, k5⟩ := load_stable (g := g) (b := l.loc j) (o1 := 0) hT (fun i hi => by rw [Nat.zero_add]; exact hc i hi) hr h
      rw [Nat.zero_add] at k2
      exact ⟨av, u, k1, k2, TRep.of_rep k3, by rw [k3.tags]; simp, k5⟩
  case rp cs o =>
    simp only [TRep] at hp
    cases hp with
    | rp b o1 o cs vs hb hc h1 hr =>
      rw [run]
      obtain ⟨av, u, k1, k2, k3, k5⟩ := load_stable (g := g) hT hc hr h
      exact ⟨av, u, k1, k2, TRep.of_rep k3, by rw [k3.tags]; simp, k5⟩
  case ep tg k i o xs =>
    simp only [TRep] at hp
    obtain ⟨rfl, rfl, h0, hi, b, m, c, hv, rfl⟩ := hp
    have hin := hpt tg (by simp [tagsOf])
    rcases (hI.own tg hin).parts with ⟨h1, h2⟩ | ⟨b', c', vs, hv', _, hlt, hn, hm, hc, h1, hr⟩
    · rw [h2] at hi; simp at hi
    · rw [hv] at hv'
      simp only [Value.slice.injEq, Option.some.injEq, Addr.mk.injEq] at hv'
      obtain ⟨⟨rfl, _⟩, _⟩ := hv'
      have hget : (l.xc tg)[i]? = some ((l.xc tg).getD i []) := by rw [List.getD_eq_getElem?_getD, List.getElem?_eq_getElem hi]; rfl
      have hx : ((l.xc tg).getD i []).length = l.xk tg := (hI.own tg hin).size _ (List.mem_of_getElem? hget)
      rw [run]
      obtain ⟨av, u, k1, k2, k3, k5⟩ := load_stable (g := g) (b := b) (o1 := i * l.xk tg) (vs := vs i) hT (fun j hj => by
        have := hc i j hi (by omega)
        rwa [Nat.zero_add] at this) (fun j c hj => hr i _ j c hget hj) h
      exact ⟨av, u, k1, k2, TRep.of_rep k3, by rw [k3.tags]; simp, k5⟩
  case he j k i o =>
    obtain ⟨hr, h⟩ := G_out h
    obtain ⟨xs, hx⟩ := isRows_eq hr
    rw [hx] at h ⊢
    simp only [HB.xs, TRep] at h hp ⊢
    cases hp with
    | he _ b _ _ _ ho =>
      obtain ⟨_, vs, e, hh, hl, hk, hm, hxl, h1, hrep⟩ := hI.heap.rows ho hx
      rw [run]
      have hrow : ∀ (q : Nat) (c : AV), (xs.getD i [])[q]? = some c → ∃ v, vs[i * k + q]? = some v ∧ Rep w g.stb g.ob c v := by
        intro q c hc
        rw [List.getD_eq_getElem?_getD] at hc
        cases hxi : xs[i]? with
        | none => rw [hxi] at hc; simp at hc
        | some y => rw [hxi] at hc; exact hrep i y q c hxi hc
      obtain ⟨av, u, k1, k2, k3, k5⟩ := load_stable (g := g) (b := b) (o1 := i * k) (vs := fun q => (vs[i * k + q]?).getD undef) hT (fun q hq => by
        obtain ⟨v, hv, _⟩ := hrow q _ (List.getElem?_eq_getElem hq)
        rw [cell_of_list hh hv, hv]; rfl) (fun q c hq => by
        obtain ⟨v, hv, hr⟩ := hrow q c hq
        rw [hv]; exact hr) h
      exact ⟨av, u, k1, k2, TRep.of_rep k3, by rw [k3.tags]; simp, fun K' hK => G_in (by simp [HB.isRows]) (k5 K' hK)⟩
  case obj j o =>
    obtain ⟨hr, h⟩ := G_out h
    obtain ⟨cs, hx⟩ := isCells_eq hr
    rw [hx] at h ⊢
    simp only [HB.cs, TRep] at h hp ⊢
    cases hp with
    | obj _ b _ ho =>
      obtain ⟨_, vs, e, hh, hl, h1, hrep⟩ := hI.heap.cells ho hx
      rw [run]
      have hcell : ∀ (q : Nat) (c : AV), cs[q]? = some c → ∃ v, vs[q]? = some v ∧ Rep w g.stb g.ob c v := by
        intro q c hc
        have hq : q < vs.length := by rw [hl]; exact (List.getElem?_eq_some_iff.1 hc).1
        exact ⟨_, List.getElem?_eq_getElem hq, hrep q c _ hc (List.getElem?_eq_getElem hq)⟩
      obtain ⟨av, u, k1, k2, k3, k5⟩ := load_stableO (g := g) (b := b) (o1 := 0) (vs := fun q => (vs[q]?).getD undef) hT (fun q hq => by
        obtain ⟨v, hv, _⟩ := hcell q _ (List.getElem?_eq_getElem hq)
        rw [Nat.zero_add, cell_of_list hh hv, hv]; rfl) (fun q c hq => by
        obtain ⟨v, hv, hr⟩ := hcell q c hq
        rw [hv]; exact hr) h
      rw [Nat.zero_add] at k2
      exact ⟨av, u, k1, k2, TRep.of_rep k3, by rw [k3.tags]; simp, fun K' hK => G_in (by simp [HB.isCells]) (k5 K' hK)⟩
end
end Go.Proofs.Ytbkkhhmjmbbfpaa.Ab
