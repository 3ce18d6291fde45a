/- Objects and maps: what turns them. -/
import Derived.Test.YtbkkhhmjmbbfpaaAbIO
namespace Go.Proofs.Ytbkkhhmjmbbfpaa.Ab
open Go

section
variable {P : Program} {T : List TI} {w0 : World} {g0 g g' : Gs} {l : Gl} {w w' : World} {st : St} {a : Act} {o : Oper} {next : Act → World → Prop} {Q : Exit → Act → World → Prop}

theorem cells_zeroT (hT : TabOk P T) {e : Nat} (hk : (ti T e).k ≠ .other) (htup : ∀ ts, (ti T e).k ≠ .tuple ts) : cellsOf (zeroT T e) = (ti T e).shape.map CK.zero := by
  obtain ⟨i, z, hi, hz, hl1, hl2, hagg, hc⟩ := hT.zero (P := P) hk htup
  unfold zeroT
  cases h : isAggT T e
  · rw [h] at hagg
    have hz1 : z.cells = #[z] := by cases z <;> first | rfl | (simp [isAggV] at hagg; done)
    rw [hz1] at hl1
    simp only [List.length_cons, List.length_nil, Nat.zero_add] at hl1
    obtain ⟨c, hsc⟩ : ∃ c, (ti T e).shape = [c] := by
      cases hs : (ti T e).shape with
      | nil => rw [hs] at hl1; simp at hl1
      | cons c r => cases r with
        | nil => exact ⟨c, rfl⟩
        | cons d r => rw [hs] at hl1; simp at hl1
    rw [hsc]
    simp only [cond_false, List.map_cons, List.map_nil, List.headD_cons]
    cases c <;> rfl
  · rfl
theorem kind_ok {k : TK} (h : (match k with | .other => false | .tuple _ => false | _ => true) = true) : k ≠ .other ∧ ∀ ts, k ≠ .tuple ts := by
  cases k <;> first | (simp at h; done) | exact ⟨by simp, by simp⟩
/-- A variable that is an object. -/
theorem allocH_sound (hT : TabOk P T) (hI : Inv w0 g0 g l w st a) {e : Nat} {K : St → Prop} (ho : o.op = .alloc e) (hk : (ti T e).k ≠ .other) (htup : ∀ ts, (ti T e).k ≠ .tuple ts)
    (h : K ({ st with H := st.H.push (.cells (cellsOf (zeroT T e))) }.put o.dst (.obj st.H.next 0))) (hn : Goes w0 g0 K next) : o.wp P a w next Q := by
  obtain ⟨i, z, hi, hz, hsz, hby, hzl, hl2, _, _, hone, hr⟩ := zeros_rep (P := P) hT hk htup
  have hrun : (execOp a.eval o).run P w = .ok (.value (.pointer (some ⟨w.heap.size, 0, none⟩))) (w.alloc (.cells z.cells e)) := by
    unfold execOp
    rw [ho]
    refine exec_v ?_
    simp [Instr.alloc, zeroValue, typeInfo, hi, hz, newVar, newRow]
  have hcells := cells_zeroT (P := P) hT hk htup
  refine wp_value hrun (hn _ _ _ _ _ ((hI.pushHeap (w' := w.alloc (.cells z.cells e)) rfl rfl rfl (by simp) (fun q hq => heap_alloc w _ q hq) (Nat.le_refl _) (by simp) (x := .cells (cellsOf (zeroT T e))) (by simp) ?_).put (TRep.of_rep (.obj st.H.next w.heap.size 0 (by simp [Gs.push]))) (by simp [tagsOf]) _) h)
  refine ⟨z.cells.toList, e, (heap_alloc_new w _).trans (by simp), by rw [hcells]; simp [hzl, hl2], hone, fun j c v hc hv => ?_⟩
  rw [hcells] at hc
  obtain ⟨v', hv', hrv⟩ := hr (g.push st.H.next w.heap.size) (w.alloc (.cells z.cells e)) j c hc
  rw [hv] at hv'
  cases hv'
  exact hrv
theorem boxH_sound (hI : Inv w0 g0 g l w st a) {e : Nat} {x : Operand} {K : St → Prop} (ho : o.op = .box e x) (hb : boxable (ρ st.tm x) = true)
    (h : K ({ st.frzAll (tagsOf (ρ st.tm x)) with H := st.H.push (.cells (frzVs (cellsOf (ρ st.tm x)))) }.put o.dst (.obj st.H.next 0))) (hn : Goes w0 g0 K next) : o.wp P a w next Q := by
  obtain ⟨g', hI', ho', hl, hy1, hlend⟩ := lent_cells hI hb
  have hH : (st.frzAll (tagsOf (ρ st.tm x))).H = st.H := frzAll_H _ _
  have hrun : (execOp a.eval o).run P w = .ok (.value (.pointer (some ⟨w.heap.size, 0, none⟩))) (w.alloc (.cells (a.eval x).cells e)) := by
    unfold execOp
    rw [ho]
    refine exec_v ?_
    simp [Instr.box, newVar, newRow]
  have hI2 := hI'.pushHeap (w' := w.alloc (.cells (a.eval x).cells e)) rfl rfl rfl (by simp) (fun q hq => heap_alloc w _ q hq) (Nat.le_refl _) (by simp) (x := .cells (frzVs (cellsOf (ρ st.tm x)))) (by simp)
    ⟨(a.eval x).cells.toList, e, (heap_alloc_new w _).trans (by simp), hl.symm, hy1, fun j c v hc hv => (hlend j c v hc hv).mono (fun b hb => heap_alloc w _ b (hI'.stbLt b hb).1) (fun _ h => h) (push_ob hI'.heap)⟩
  rw [hH] at hI2
  exact wp_value hrun (hn _ _ _ _ _ (hI2.put (TRep.of_rep (.obj st.H.next w.heap.size 0 (by simp [Gs.push]))) (by simp [tagsOf]) _) h)
theorem makeMap_sound (hI : Inv w0 g0 g l w st a) {t : Nat} {K : St → Prop} (ho : o.op = .makeMap t none)
    (h : K ({ st with H := st.H.push (.map [] 0) }.put o.dst (.map st.H.next))) (hn : Goes w0 g0 K next) : o.wp P a w next Q := by
  have hrun : (execOp a.eval o).run P w = .ok (.value (.map (some w.heap.size))) (w.alloc (.map #[] 0)) := by
    unfold execOp
    rw [ho]
    refine exec_v ?_
    simp [Instr.makeMap]
  refine wp_value hrun (hn _ _ _ _ _ ((hI.pushHeap (w' := w.alloc (.map #[] 0)) rfl rfl rfl (by simp) (fun q hq => heap_alloc w _ q hq) (Nat.le_refl _) (by simp) (x := .map [] 0) (by simp) ?_).put (TRep.of_rep (.map st.H.next w.heap.size (by simp [Gs.push]))) (by simp [tagsOf]) _) h)
  exact ⟨[], heap_alloc_new w _, rfl, by simp⟩

/-- A map is turned. -/
theorem Inv.setMap (hI : Inv w0 g0 g l w st a) {j b c c' : Nat} (ho : g.ob j = some b) {es0 es : List (Nat × AV × AV)} {vs0 vs : List MapEntry} (hj : st.H.get j = .map es0 c) (hh : w.heap[b]? = some (.map vs0.toArray c)) (hf : g.foot b) (hl : vs.length = es.length)
    (hr : ∀ (i : Nat) (a : Nat × AV × AV) (v : MapEntry), es[i]? = some a → vs[i]? = some v → v.born = a.1 ∧ Rep w g.stb g.ob a.2.1 v.key ∧ Rep w g.stb g.ob a.2.2 v.val) :
    Inv w0 g0 g l { w with heap := w.heap.setIfInBounds b (.map vs.toArray c') } { st with H := st.H.set j (.map es c') } a := by
  have hset := MapKept.heap_set (o' := .map vs.toArray c') hh
  have hst : ∀ q, g.stb q → (w.heap.setIfInBounds b (.map vs.toArray c'))[q]? = w.heap[q]? := fun q hq => hset.2 q fun e => (hI.stbLt q hq).2 (e ▸ hf)
  refine hI.setHeap (w' := { w with heap := w.heap.setIfInBounds b (.map vs.toArray c') }) ho (by rw [hj]; simp) rfl rfl rfl (by simp) (fun q hq => hset.2 q hq) (x := .map es c') (by simp) ⟨vs, hset.1, hl, fun i a v ha hv => ?_⟩
  obtain ⟨h1, h2, h3⟩ := hr i a v ha hv
  exact ⟨h1, h2.mono hst (fun _ h => h) (fun _ _ h => h), h3.mono hst (fun _ h => h) (fun _ _ h => h)⟩
theorem mapUpdate_sound (hT : TabOk P T) (hE : EqOk P T) (hI : Inv w0 g0 g l w st a) {t : Nat} {m k v : Operand} {kt vt j : Nat} {K : St → Prop} (ho : o.op = .mapUpdate t m k v) (hk : (ti T t).k = .map kt vt) (hm : ρ st.tm m = .map j)
    (q1 : keyOkT T kt = true) (q2 : keyFits (keyT T kt) (isAggT T kt) (ρ st.tm k) = true) (q3 : (st.H.get j).isMapOf (keyT T kt) (isAggT T kt) = true)
    (h : K ({ st.frzAll (tagsOf (ρ st.tm v)) with H := st.H.set j (.map (mput (ρ st.tm k) (frzV (ρ st.tm v)) (st.H.get j).clock (st.H.get j).es) (cond (mhas (ρ st.tm k) (st.H.get j).es) (st.H.get j).clock ((st.H.get j).clock + 1))) }.put o.dst (.tup []))) (hn : Goes w0 g0 K next) : o.wp P a w next Q := by
  have hmr := (hI.operand (a := a) m).1
  rw [hm] at hmr
  simp only [TRep] at hmr
  have hkr := key_rep q2 (hI.operand (a := a) k).1
  obtain ⟨hv, hvt⟩ := hI.operand (a := a) v
  obtain ⟨g', hI', hs1, ho1, hl1, hlend⟩ := lent_rest hI (args := [ρ st.tm v]) (vals := [a.eval v]) (by simp only [TReps, and_true]; exact hv) (by simp only [tagsOfs, List.append_nil]; exact hvt)
  simp only [tagsOfs, List.append_nil] at hI'
  have hlv : Rep w g'.stb g'.ob (frzV (ρ st.tm v)) (a.eval v) := hlend 0 _ _ rfl rfl
  have hkr' : Rep w g'.stb g'.ob (ρ st.tm k) (a.eval k) := hkr.mono (fun _ _ => rfl) hs1 (fun j b h => by rw [ho1]; exact h)
  have hH : (st.frzAll (tagsOf (ρ st.tm v))).H = st.H := frzAll_H _ _
  generalize hme : a.eval m = mv at hmr
  cases hmr with
  | map _ b hob =>
    have hob' : g'.ob j = some b := by rw [ho1]; exact hob
    obtain ⟨es, c, vs, he, hf, hh, hl, hr, hks⟩ := map_out (kt := kt) (H := st.H) (by have := hI'.heap; rwa [hH] at this) hob' q3
    have hK := isK_of (T := T) q2 hkr'
    have hfind := run_find (P := P) (w := w) hT hE q1 hK hl hks
    have hchk := run_check (P := P) (w := w) hT hE q1 hK false
    have hu := run_underlying (w := w) (hT.u_map hk)
    have hget := MapKept.run_getObj_map (P := P) hh
    rw [he] at h
    simp only [HB.es, HB.clock, mput_idx] at h
    simp only [mhas, mfind_idx] at h
    have fin : ∀ {vs' : List MapEntry} {es' : List (Nat × AV × AV)} {c' : Nat}, (Instr.mapUpdate t (.map (some b)) (a.eval k) (a.eval v)).run P w = .ok () { w with heap := w.heap.setIfInBounds b (.map vs'.toArray c') } → vs'.length = es'.length →
        (∀ (i : Nat) (a : Nat × AV × AV) (v : MapEntry), es'[i]? = some a → vs'[i]? = some v → v.born = a.1 ∧ Rep w g'.stb g'.ob a.2.1 v.key ∧ Rep w g'.stb g'.ob a.2.2 v.val) →
        K ({ st.frzAll (tagsOf (ρ st.tm v)) with H := st.H.set j (.map es' c') }.put o.dst (.tup [])) → o.wp P a w next Q := fun {vs' es' c'} hrun hl' hr' hK => by
      have hI2 := hI'.setMap (c' := c') hob' (by rw [hH]; exact he) hh hf hl' hr'
      rw [hH] at hI2
      refine wp_skip ?_ (hn _ _ _ _ _ (hI2.put undef_rep (by simp [tagsOf, tagsOfs]) _) hK)
      unfold execOp
      rw [ho]
      simp only [hme, Sem.run_bind, hrun, Result.andThen_ok, Sem.run_pure]
    cases hmi : midx (ρ st.tm k) es with
    | none =>
      rw [hmi] at h hfind
      simp only [Option.bind_none, Option.isSome_none, cond_false] at h hfind
      refine fin (vs' := vs ++ [{ key := a.eval k, val := a.eval v, born := c }]) ?_ (by simp [hl]) (fun i x y hx hy => ?_) h
      · simp only [Instr.mapUpdate, Sem.run_bind, hu, Result.andThen_ok, hget, hchk, hfind, MapKept.run_setObj_map _ hh]
        congr 3
        simp
      · rw [List.getElem?_append] at hx hy
        by_cases e : i < es.length
        · rw [if_pos e] at hx; rw [if_pos (by omega)] at hy; exact hr i x y hx hy
        · rw [if_neg e] at hx; rw [if_neg (by omega)] at hy; rw [hl] at hy
          cases hi : i - es.length with
          | zero => rw [hi] at hx hy; cases hx; cases hy; exact ⟨rfl, hkr', hlv⟩
          | succ n => rw [hi] at hx; simp at hx
    | some i =>
      obtain ⟨e, hei, hke⟩ := midx_get hmi
      have hil : i < vs.length := by rw [hl]; exact (List.getElem?_eq_some_iff.1 hei).1
      obtain ⟨u, hui⟩ : ∃ u, vs[i]? = some u := ⟨_, List.getElem?_eq_getElem hil⟩
      rw [hmi] at h hfind
      simp only [Option.bind_some, hei, hui, Option.map_some, Option.isSome_some, cond_true, Option.getD_some] at h hfind
      have hsame : u.key = a.eval k := (hK.inj (hks i e u hei hui) hke).symm
      refine fin (vs' := vs.set i { key := a.eval k, val := a.eval v, born := u.born }) ?_ (by simp [hl]) (fun q x y hx hy => ?_) h
      · have hstay : (Instr.keyThatStays (((vs.toArray[i]?).map (·.key)).getD (a.eval k)) (a.eval k)).run P w = .ok (a.eval k) w := by
          have : ((vs.toArray[i]?).map (·.key)).getD (a.eval k) = a.eval k := by simp [hui, hsame]
          rw [this]
          simp [Instr.keyThatStays, hK.same]
        simp only [Instr.mapUpdate, Sem.run_bind, hu, Result.andThen_ok, hget, hchk, hfind, hstay, MapKept.run_setObj_map _ hh]
        congr 3
        apply congrArg (fun x => Obj.map x c)
        apply Array.ext'
        apply List.ext_getElem?
        intro q
        rw [Array.toList_modify, List.getElem?_modify]
        simp only [List.getElem?_set]
        by_cases e' : i = q
        · subst e'
          have h3 : vs[i] = u := by rw [List.getElem?_eq_getElem hil] at hui; exact Option.some.inj hui
          simp [hil, h3]
        · simp [e']
      · rw [List.getElem?_set] at hx hy
        by_cases e' : i = q
        · subst e'
          have hil' : i < es.length := by omega
          simp only [if_true, hil', hil] at hx hy
          cases hx; cases hy
          exact ⟨(hr i e u hei hui).1, hkr', hlv⟩
        · simp only [e', if_false] at hx hy
          exact hr q x y hx hy
theorem delete_sound (hT : TabOk P T) (hE : EqOk P T) (hI : Inv w0 g0 g l w st a) {c0 : Go.Call} {kt vt j : Nat} {K : St → Prop} (ho : o.op = .call c0) (hc : c0.callee = .builtin .delete) (g2 : Nat.beq c0.args.size 2 = true) (g3 : Nat.beq c0.argTypes.size 2 = true)
    (hk : (ti T (c0.argTypes.getD 0 0)).k = .map kt vt) (hm : ρ st.tm (c0.args.getD 0 (.const (.bool false))) = .map j) (q1 : keyOkT T kt = true) (q2 : keyFits (keyT T kt) (isAggT T kt) (ρ st.tm (c0.args.getD 1 (.const (.bool false)))) = true)
    (q3 : (st.H.get j).isMapOf (keyT T kt) (isAggT T kt) = true)
    (h : K ({ st with H := st.H.set j (.map (mdel (ρ st.tm (c0.args.getD 1 (.const (.bool false)))) (st.H.get j).es) (st.H.get j).clock) }.put o.dst (.tup []))) (hn : Goes w0 g0 K next) : o.wp P a w next Q := by
  obtain ⟨m, k, hargs⟩ := array_two (Nat.eq_of_beq_eq_true g2)
  obtain ⟨t, u, htys⟩ := array_two (Nat.eq_of_beq_eq_true g3)
  rw [hargs] at hm q2 h
  rw [htys] at hk
  simp only [Array.getD_eq_getD_getElem?, List.getElem?_toArray, List.getElem?_cons_zero, List.getElem?_cons_succ, Option.getD_some] at hm q2 h hk
  have hmr := (hI.operand (a := a) m).1
  rw [hm] at hmr
  simp only [TRep] at hmr
  have hkr := key_rep q2 (hI.operand (a := a) k).1
  generalize hme : a.eval m = mv at hmr
  cases hmr with
  | map _ b hob =>
    obtain ⟨es, c, vs, he, hf, hh, hl, hr, hks⟩ := map_out (kt := kt) hI.heap hob q3
    have hK := isK_of (T := T) q2 hkr
    have hfind := run_find (P := P) (w := w) hT hE q1 hK hl hks
    have hchk := run_check (P := P) (w := w) hT hE q1 hK vs.toArray.isEmpty
    have hu := run_underlying (w := w) (hT.u_map hk)
    have hget := MapKept.run_getObj_map (P := P) hh
    rw [he] at h
    simp only [HB.es, HB.clock, mdel_idx] at h
    have fin : ∀ {vs' : List MapEntry} {es' : List (Nat × AV × AV)}, (Builtin.delete_ #[t, u] o.type #[.map (some b), a.eval k]).run P w = .ok (.tuple #[]) { w with heap := w.heap.setIfInBounds b (.map vs'.toArray c) } → vs'.length = es'.length →
        (∀ (i : Nat) (a : Nat × AV × AV) (v : MapEntry), es'[i]? = some a → vs'[i]? = some v → v.born = a.1 ∧ Rep w g.stb g.ob a.2.1 v.key ∧ Rep w g.stb g.ob a.2.2 v.val) →
        K ({ st with H := st.H.set j (.map es' c) }.put o.dst (.tup [])) → o.wp P a w next Q := fun {vs' es'} hrun hl' hr' hK => by
      have hI2 := hI.setMap (c' := c) hob he hh hf hl' hr'
      refine wp_value (v := undef) (w' := { w with heap := w.heap.setIfInBounds b (.map vs'.toArray c) }) ?_ (hn _ _ _ _ _ (hI2.put undef_rep (by simp [tagsOf, tagsOfs]) _) hK)
      unfold execOp
      rw [ho]
      simp [resolve, hc, hargs, htys, invoke, builtin, hme, hrun, undef]
    cases hmi : midx (ρ st.tm k) es with
    | none =>
      rw [hmi] at h hfind
      simp only [Option.bind_none] at h hfind
      refine fin (vs' := vs) ?_ hl hr h
      simp only [Builtin.delete_, List.getElem?_toArray, List.getElem?_cons_zero, List.getElem?_cons_succ, Sem.run_bind, hu, hget, hchk, hfind, MapKept.run_setObj_map _ hh, Result.andThen_ok, Sem.run_pure]
    | some i =>
      obtain ⟨e, hei, hke⟩ := midx_get hmi
      have hil : i < vs.length := by rw [hl]; exact (List.getElem?_eq_some_iff.1 hei).1
      obtain ⟨u', hui⟩ : ∃ u, vs[i]? = some u := ⟨_, List.getElem?_eq_getElem hil⟩
      rw [hmi] at h hfind
      simp only [Option.bind_some, hui, Option.map_some] at h hfind
      have hil' : i < es.length := by omega
      refine fin (vs' := vs.eraseIdx i) ?_ (by rw [List.length_eraseIdx_of_lt hil, List.length_eraseIdx_of_lt hil', hl]) (fun q x y hx hy => ?_) h
      · have her : vs.toArray.eraseIdxIfInBounds i = (vs.eraseIdx i).toArray := by
          unfold Array.eraseIdxIfInBounds
          simp [hil]
        simp only [Builtin.delete_, List.getElem?_toArray, List.getElem?_cons_zero, List.getElem?_cons_succ, Sem.run_bind, hu, hget, hchk, hfind, MapKept.run_setObj_map _ hh, her, Result.andThen_ok, Sem.run_pure]
      · rw [List.getElem?_eraseIdx] at hx hy
        split at hx
        · rename_i hq; rw [if_pos hq] at hy; exact hr q x y hx hy
        · rename_i hq; rw [if_neg hq] at hy; exact hr (q + 1) x y hx hy

/-! A range over a map. -/
theorem rangeMap_sound (hT : TabOk P T) (hI : Inv w0 g0 g l w st a) {t : Nat} {x : Operand} {kt vt j : Nat} {K : St → Prop} (ho : o.op = .range t x) (ht : (ti T t).k = .map kt vt) (hx : ρ st.tm x = .map j) (hm : (st.H.get j).isMap = true)
    (h : K ({ st with mem := st.mem ++ [MB.miter j kt vt (st.H.get j).clock (st.H.get j).clock []] }.put o.dst (.ptr st.mem.length 0))) (hn : Goes w0 g0 K next) : o.wp P a w next Q := by
  have hev := (hI.operand (a := a) x).1
  rw [hx] at hev
  simp only [TRep] at hev
  obtain ⟨es, c, he⟩ := isMap_eq hm
  generalize hv : a.eval x = v at hev
  cases hev with
  | map _ b hob =>
    obtain ⟨hf, vs, hh, hl, hr⟩ := hI.heap.map hob he
    rw [he] at h
    simp only [HB.clock] at h
    refine wp_value (w' := w.alloc (.mapIter (some b) c #[] c)) (v := .pointer (some ⟨w.heap.size, 0, none⟩)) ?_ (hn _ _ _ _ _ (hI.newBlock _ (MB.miter j kt vt c c []) rfl (by simp [MB.tags]) ⟨b, heap_alloc_new w _, hob, Nat.le_refl _⟩ _) h)
    unfold execOp
    rw [ho]
    refine exec_v ?_
    rw [hv]
    simp [Instr.range, run_underlying (hT.u_map ht), MapKept.run_getObj_map hh]
/-- One step of the model's iteration. -/
theorem run_nextMap {r b since stepped c : Nat} {seen : List Nat} {vs : List MapEntry} (hi : w.heap[r]? = some (.mapIter (some b) since (List.toArray seen.reverse) stepped)) (hm : w.heap[b]? = some (.map vs.toArray c)) (hold : ∀ e ∈ vs, e.born < since) (hs : since ≤ stepped) (ty : TypeId) :
    ((vs.filter fun e => !(seen.contains e.born)) = [] ∧ (Instr.next (.pointer (some ⟨r, 0, none⟩)) false ty).run P w = .ok (.tuple #[.bool false]) w) ∨
    ∃ (e : MapEntry) (w1 : World), e ∈ (vs.filter fun e => !(seen.contains e.born)) ∧ w1.heap = w.heap ∧ w1.os = w.os ∧ w1.tape = w.tape ∧ w1.output = w.output ∧
      (Instr.next (.pointer (some ⟨r, 0, none⟩)) false ty).run P w = .ok (.tuple #[.bool true, e.key, e.val]) { w1 with heap := w1.heap.setIfInBounds r (.mapIter (some b) since (List.toArray (e.born :: seen).reverse) c) } := by
  have g1 : (getObj r).run P w = .ok (.mapIter (some b) since (List.toArray seen.reverse) stepped) w := by simp [getObj, Sem.run, hi]
  have g2 : (getObj b).run P w = .ok (.map vs.toArray c) w := MapKept.run_getObj_map hm
  have hcond : (!seen.reverse.toArray.isEmpty && !vs.toArray.isEmpty && vs.toArray.all (fun x => decide (x.born ≥ stepped))) = false := by
    cases vs with
    | nil => simp
    | cons e r =>
      have := hold e (by simp)
      have hne : ¬ (e.born ≥ stepped) := by omega
      simp [hne]
  have hcon : ∀ n : Nat, seen.reverse.toArray.contains n = seen.contains n := fun n => by rw [Bool.eq_iff_iff]; simp
  have hleft : (vs.toArray.filter fun e => !(seen.reverse.toArray.contains e.born)) = (vs.filter fun e => !(seen.contains e.born)).toArray := by simp only [hcon]; simp
  generalize hL : (vs.filter fun e => !(seen.contains e.born)) = L at hleft ⊢
  have hLold : ∀ e ∈ L, e.born < since := fun e he => by rw [← hL] at he; exact hold e (List.mem_filter.1 he).1
  have ho1 : (L.toArray.filter fun x => decide (x.born < since)) = L.toArray := by
    simp only [List.filter_toArray]
    congr 1
    exact List.filter_eq_self.2 fun e he => by simpa using hLold e he
  have ho2 : (L.toArray.filter fun x => decide (x.born ≥ since)) = #[] := by
    simp only [List.filter_toArray]
    congr 1
    exact List.filter_eq_nil_iff.2 fun e he => by have := hLold e he; simp; omega
  cases L with
  | nil =>
    refine .inl ⟨rfl, ?_⟩
    unfold Instr.next
    simp only [Sem.run_bind, g1, Result.andThen_ok, g2, hcond, Bool.false_eq_true, if_false, Sem.run_pure, hleft]
    simp [choose, Sem.run, Question.forced]
  | cons e0 r0 =>
    let q := Question.mapNext (e0 :: r0).length
    -- what the choice gives
    obtain ⟨i, w1, hi', hch, e1, e2, e3, e4⟩ : ∃ i w1, i < (e0 :: r0).length ∧ (choose q).run P w = .ok i w1 ∧ w1.heap = w.heap ∧ w1.os = w.os ∧ w1.tape = w.tape ∧ w1.output = w.output := by
      by_cases hf : q.forced = true
      · exact ⟨0, w, by simp, by simp [choose, Sem.run, hf], rfl, rfl, rfl, rfl⟩
      · refine ⟨q.cut (w.tape w.drawn q), { w with drawn := w.drawn + 1 }, ?_, by simp [choose, Sem.run, hf], rfl, rfl, rfl, rfl⟩
        exact Nat.mod_lt _ (by simp)
    obtain ⟨e, he⟩ : ∃ e, (e0 :: r0)[i]? = some e := ⟨_, List.getElem?_eq_getElem hi'⟩
    refine .inr ⟨e, w1, List.mem_of_getElem? he, e1, e2, e3, e4, ?_⟩
    have hset : (setObj r (.mapIter (some b) since (List.toArray seen.reverse |>.push e.born) c)).run P w1 = .ok () { w1 with heap := w1.heap.setIfInBounds r (.mapIter (some b) since (List.toArray (e.born :: seen).reverse) c) } := by
      have : w1.heap[r]? = some (.mapIter (some b) since (List.toArray seen.reverse) stepped) := by rw [e1]; exact hi
      simp [setObj, Sem.run, this]
    unfold Instr.next
    simp only [Sem.run_bind, g1, Result.andThen_ok, g2, hcond, Bool.false_eq_true, if_false, Sem.run_pure, hleft, ho1, ho2]
    have hcand : ((if (e0 :: r0).toArray.isEmpty then #[none] else #[] : Array (Option MapEntry)) ++ ((e0 :: r0).toArray ++ #[]).map some) = ((e0 :: r0).map some).toArray := by simp
    rw [hcand]
    have hsz : ((e0 :: r0).map some).toArray.size = (e0 :: r0).length := by simp
    rw [hsz, hch]
    have hget : ((e0 :: r0).map some).toArray[i]? = some (some e) := by rw [List.getElem?_toArray, List.getElem?_map, he]; rfl
    simp only [Result.andThen_ok, hget, Sem.run_bind, hset, Sem.run_pure]
theorem nextMap_sound (hI : Inv w0 g0 g l w st a) {x : Operand} {j m since stepped kt vt : Nat} {seen : List Nat} {K : St → Prop} (ho : o.op = .next x false) (hx : ρ st.tm x = .ptr j 0) (hm : st.mem.getD j .dead = .miter m kt vt since stepped seen)
    (q1 : (st.H.get m).isMap = true) (q2 : Nat.ble since (st.H.get m).clock = true) (q3 : ((st.H.get m).es.all fun e => Nat.blt e.1 since) = true)
    (h1 : mleft seen (st.H.get m).es = [] → K (st.put o.dst (.tup [.bool false])))
    (h2 : ∀ e, e ∈ mleft seen (st.H.get m).es → K ({ st with mem := st.mem.set j (.miter m kt vt since (st.H.get m).clock (e.1 :: seen)) }.put o.dst (.tup [.bool true, .any, .any])))
    (hn : Goes w0 g0 K next) : o.wp P a w next Q := by
  have hev := (hI.operand (a := a) x).1
  rw [hx] at hev
  simp only [TRep] at hev
  obtain ⟨hj, hev⟩ := hev
  have hjm : st.mem[j]? = some (.miter m kt vt since stepped seen) := by rw [← hm, List.getD_eq_getElem?_getD, List.getElem?_eq_getElem hj]; rfl
  obtain ⟨b, hb, hob, hs⟩ := hI.mem j _ hjm
  obtain ⟨es, c, he⟩ := isMap_eq q1
  obtain ⟨hf, vs, hh, hl, hr⟩ := hI.heap.map hob he
  rw [he] at h1 h2 q2 q3
  simp only [HB.es, HB.clock, List.all_eq_true] at h1 h2 q2 q3
  have hborn : ∀ (i : Nat) (v : MapEntry), vs[i]? = some v → ∃ p, es[i]? = some p ∧ v.born = p.1 ∧ Rep w g.stb g.ob p.2.1 v.key ∧ Rep w g.stb g.ob p.2.2 v.val := fun i v hv => by
    have hi : i < es.length := by rw [← hl]; exact (List.getElem?_eq_some_iff.1 hv).1
    exact ⟨_, List.getElem?_eq_getElem hi, hr i _ v (List.getElem?_eq_getElem hi) hv⟩
  have hold : ∀ e ∈ vs, e.born < since := fun e he' => by
    obtain ⟨i, hi⟩ := List.mem_iff_getElem?.1 he'
    obtain ⟨p, hp, hpb, _⟩ := hborn i e hi
    have := Nat.le_of_ble_eq_true (q3 p (List.mem_of_getElem? hp))
    omega
  rcases run_nextMap (P := P) hb hh hold hs o.type with ⟨hnil, hrun⟩ | ⟨e, w1, hmem, e1, e2, e3, e4, hrun⟩
  · have hml : mleft seen es = [] := by
      refine List.filter_eq_nil_iff.2 fun p hp => ?_
      obtain ⟨i, hi⟩ := List.mem_iff_getElem?.1 hp
      have hiv : i < vs.length := by rw [hl]; exact (List.getElem?_eq_some_iff.1 hi).1
      have := List.filter_eq_nil_iff.1 hnil vs[i] (List.getElem_mem hiv)
      rw [(hr i p vs[i] hi (List.getElem?_eq_getElem hiv)).1] at this
      exact this
    refine wp_value (w' := w) (v := .tuple #[.bool false]) ?_ (hn _ _ _ _ _ (hI.put ?_ (by simp [tagsOf, tagsOfs]) _) (h1 hml))
    · unfold execOp
      rw [ho]
      refine exec_v ?_
      rw [hev]
      exact hrun
    · simp only [TRep]
      exact ⟨[.bool false], rfl, by simp [TReps, TRep]⟩
  · obtain ⟨hmv, hns⟩ := List.mem_filter.1 hmem
    obtain ⟨i, hi⟩ := List.mem_iff_getElem?.1 hmv
    obtain ⟨p, hp, hpb, hrk, hrv⟩ := hborn i e hi
    have hpl : p ∈ mleft seen es := List.mem_filter.2 ⟨List.mem_of_getElem? hp, by rw [← hpb]; exact hns⟩
    have hK := h2 p hpl
    rw [← hpb] at hK
    have hne : ∀ b', b' ≠ l.loc j → (w1.heap.setIfInBounds (l.loc j) (.mapIter (some b) since (List.toArray (e.born :: seen).reverse) c))[b']? = w.heap[b']? := fun b' hb' => by rw [e1]; simp [Array.getElem?_setIfInBounds, Ne.symm hb']
    have hstb : ∀ b', g.stb b' → (w1.heap.setIfInBounds (l.loc j) (.mapIter (some b) since (List.toArray (e.born :: seen).reverse) c))[b']? = w.heap[b']? := fun b' hb' => hne b' fun e => (hI.priv j _ hjm rfl).2.2.1 (e ▸ hb')
    have hI2 := hI.setMem (w' := { w1 with heap := w1.heap.setIfInBounds (l.loc j) (.mapIter (some b) since (List.toArray (e.born :: seen).reverse) c) }) hjm rfl (mb' := .miter m kt vt since c (e.born :: seen)) rfl (by simp [MB.tags]) e2 e3 e4 (by simp [e1]) hne
      ⟨b, by have hlt := (Array.getElem?_eq_some_iff.1 hb).1; simp [e1, hlt], hob, Nat.le_of_ble_eq_true q2⟩
    refine wp_value ?_ (hn _ _ _ _ _ (hI2.put (v := .tuple #[.bool true, e.key, e.val]) ?_ (by simp [tagsOf, tagsOfs]) _) hK)
    · unfold execOp
      rw [ho]
      refine exec_v ?_
      rw [hev]
      exact hrun
    · simp only [TRep]
      refine ⟨[.bool true, e.key, e.val], rfl, ?_⟩
      simp only [TReps, TRep, and_true]
/-- The entry at which a range over a map stands. -/
theorem entry_sound (hI : Inv w0 g0 g l w st a) {x : Operand} {j m since stepped kt vt n : Nat} {seen : List Nat} {K : St → Prop} (ho : o.op = .entry x) (hx : ρ st.tm x = .ptr j 0) (hm : st.mem.getD j .dead = .miter m kt vt since stepped (n :: seen))
    (q1 : (st.H.get m).isMap = true) (q2 : Nat.beq (st.H.get m).clock stepped = true) (q3 : (mborn n (st.H.get m).es).isSome = true)
    (h : normE T kt (mkeyAt n (st.H.get m).es) fun k => normE T vt (mvalAt n (st.H.get m).es) fun v => K (st.put o.dst (.tup [k, v]))) (hn : Goes w0 g0 K next) : o.wp P a w next Q := by
  have hev := (hI.operand (a := a) x).1
  rw [hx] at hev
  simp only [TRep] at hev
  obtain ⟨hj, hev⟩ := hev
  have hjm : st.mem[j]? = some (.miter m kt vt since stepped (n :: seen)) := by rw [← hm, List.getD_eq_getElem?_getD, List.getElem?_eq_getElem hj]; rfl
  obtain ⟨b, hb, hob, hs⟩ := hI.mem j _ hjm
  obtain ⟨es, c, he⟩ := isMap_eq q1
  obtain ⟨hf, vs, hh, hl, hr⟩ := hI.heap.map hob he
  rw [he] at h q2 q3
  simp only [HB.es, HB.clock] at h q2 q3
  have hc := Nat.eq_of_beq_eq_true q2
  subst hc
  unfold mkeyAt mvalAt at h
  have key : ∀ (es : List (Nat × AV × AV)) (vs : List MapEntry), vs.length = es.length → (∀ (i : Nat) (a : Nat × AV × AV) (v : MapEntry), es[i]? = some a → vs[i]? = some v → v.born = a.1 ∧ Rep w g.stb g.ob a.2.1 v.key ∧ Rep w g.stb g.ob a.2.2 v.val) → ∀ p, mborn n es = some p →
      ∃ v, vs.find? (fun e => e.born == n) = some v ∧ Rep w g.stb g.ob p.2.1 v.key ∧ Rep w g.stb g.ob p.2.2 v.val := by
    intro es
    induction es with
    | nil => intro vs _ _ p hp; simp [mborn] at hp
    | cons a es ih =>
      intro vs hl hr p hp
      cases vs with
      | nil => simp at hl
      | cons v vs =>
        obtain ⟨h1, h2, h3⟩ := hr 0 a v rfl rfl
        simp only [mborn, List.find?_cons] at hp ⊢
        have hbb : (v.born == n) = Nat.beq a.1 n := by rw [h1, Bool.eq_iff_iff, beq_iff_eq, Nat.beq_eq]
        rw [hbb]
        cases hcb : Nat.beq a.1 n <;> rw [hcb] at hp <;> simp only at hp ⊢
        · exact ih vs (by simpa using hl) (fun i a v ha hv => hr (i + 1) a v (by simpa using ha) (by simpa using hv)) p hp
        · cases hp
          exact ⟨v, rfl, h2, h3⟩
  obtain ⟨p, hp⟩ := Option.isSome_iff_exists.1 q3
  rw [hp] at h
  simp only at h
  obtain ⟨e, hfe, hrk, hrv⟩ := key es vs hl hr p hp
  obtain ⟨k, hk, hkr, _⟩ := normE_out h
  obtain ⟨v, hK, hvr, _⟩ := normE_out hk
  have hkr := hkr.2 _ _ _ _ hrk
  have hvr := hvr.2 _ _ _ _ hrv
  have g1 : (getObj (l.loc j)).run P w = .ok (.mapIter (some b) since (List.toArray (n :: seen).reverse) c) w := by simp [getObj, Sem.run, hb]
  have g2 : (getObj b).run P w = .ok (.map vs.toArray c) w := MapKept.run_getObj_map hh
  have hback : (List.toArray (n :: seen).reverse).back? = some n := by simp [Array.back?]
  have hfind : vs.toArray.find? (fun e => e.born == n) = some e := by simpa using hfe
  refine wp_value (w' := w) (v := .tuple #[e.key, e.val]) ?_ (hn _ _ _ _ _ (hI.put ?_ (by simp [tagsOf, tagsOfs, hkr.tags, hvr.tags]) _) hK)
  · unfold execOp
    rw [ho]
    refine exec_v ?_
    rw [hev]
    simp only [Instr.entry, Sem.run_bind, g1, Result.andThen_ok, hback, g2, bne_self_eq_false, Bool.false_eq_true, if_false, Sem.run_pure, hfind]
  · simp only [TRep]
    refine ⟨[e.key, e.val], rfl, ?_⟩
    simp only [TReps, and_true]
    exact ⟨TRep.of_rep hkr, TRep.of_rep hvr⟩

/-- A slice of the frame's own is stored in an object: it is a slice of the heap from here on. -/
theorem storeOwn_sound (hT : TabOk P T) (hI : Inv w0 g0 g l w st a) {t : Nat} {x y : Operand} {j o' tg k : Nat} {xs : List (List AV)} {K : St → Prop} (ho : o.op = .store t x y) (hx : ρ st.tm x = .obj j o') (hy : ρ st.tm y = .sl (tg + 1) k xs)
    (q1 : (st.H.get j).isCells = true) (q2 : Nat.beq (ti T t).size 1 = true) (q3 : Nat.blt o' (st.H.get j).cs.length = true)
    (h1 : ∀ m, xs.length ≤ m → (xs.length ≤ 140737488355328 → m ≤ 9223372036854775807) → K ({ st.mapS (killF (tg + 1)) with H := (st.H.push (.rows k (pad k m xs))).set j (.cells ((st.H.get j).cs.set o' (.hs st.H.next 0 xs.length m k))) }.put o.dst (.tup [])))
    (h2 : xs = [] → K ({ st.mapS (killF (tg + 1)) with H := st.H.set j (.cells ((st.H.get j).cs.set o' .nilsl)) }.put o.dst (.tup []))) (hn : Goes w0 g0 K next) : o.wp P a w next Q := by
  obtain ⟨cs, hcs⟩ := isCells_eq q1
  obtain ⟨hp, _⟩ := hI.operand (a := a) x
  obtain ⟨hyr, hyt⟩ := hI.operand (a := a) y
  rw [hx] at hp
  rw [hy] at hyr hyt
  simp only [TRep] at hp hyr
  obtain ⟨hyv, hyx, hyk⟩ := hyr
  have hin : tg + 1 ∈ st.tags := hyt _ (by simp [tagsOf, Nat.beq])
  have hsz : (ti T t).size = 1 := Nat.eq_of_beq_eq_true q2
  rw [hcs] at h1 h2 q3
  simp only [HB.cs] at h1 h2 q3
  have hlt : o' < cs.length := Nat.le_of_ble_eq_true q3
  generalize hv : a.eval x = v at hp
  cases hp with
  | obj _ b _ hob =>
    have hk1 := hI.kill (tg + 1)
    have hnt : tg + 1 ∉ (st.mapS (killF (tg + 1))).tags := fun hh => (tags_mapS (killF_tags (tg + 1)) st _ hh).2 rfl
    have hone : ∀ v : Value, (∃ A n c, v = .slice A n c) → v.cells = #[v] ∧ v.oneCell' = true := fun v h => by obtain ⟨A, n, c, rfl⟩ := h; exact ⟨rfl, rfl⟩
    -- the store itself, in a frame whose heap is told
    have core : ∀ {g' : Gs} {H' : Heap} {c : AV}, Inv w0 g0 g' l w { st.mapS (killF (tg + 1)) with H := H' } a → g'.ob j = some b → H'.get j = .cells cs → Rep w g'.stb g'.ob c (a.eval y) → (∃ A n c, a.eval y = .slice A n c) →
        K ({ st.mapS (killF (tg + 1)) with H := H'.set j (.cells (cs.set o' c)) }.put o.dst (.tup [])) → o.wp P a w next Q := fun {g' H' c} hI' hob' hj' hrep hsl hK => by
      obtain ⟨hf, vs, e, hh, hlv, h1v, hrs⟩ := hI'.heap.cells hob' hj'
      obtain ⟨c1, c2⟩ := hone _ hsl
      have hst := run_storeCells_at P b o' e [a.eval y] 0 vs.toArray w hh (by simp; omega) (by simpa using c2)
      simp only [Nat.add_zero] at hst
      have hszr := hT.size_pos (P := P) (t := t) (by omega) w
      have hrun : (execOp a.eval o).run P w = .ok .skip (w.setRow b (laid vs o' [a.eval y]).toArray) := by
        unfold execOp
        rw [ho]
        simp [Instr.storeAt, Instr.sureAddr, hv, storeVar, hszr, hsz, c1, hst, laid]
      have hst' : ∀ q, g'.stb q → (w.setRow b (laid vs o' [a.eval y]).toArray).heap[q]? = w.heap[q]? := fun q hq => setRow_other _ _ _ _ fun e => (hI'.stbLt q hq).2 (e ▸ hf)
      have hll : o' + [a.eval y].length ≤ vs.length := by simp; omega
      have hI2 := hI'.setHeap (w' := w.setRow b (laid vs o' [a.eval y]).toArray) hob' (by rw [hj']; simp) rfl rfl rfl (by simp) (fun q hq => setRow_other _ _ _ _ hq) (x := .cells (cs.set o' c)) (by simp)
        ⟨_, e, setRow_heap _ _ _ _ _ _ hh, by rw [laid_length hll, List.length_set]; exact hlv, fun u hu => (laid_mem hu).elim (h1v u) (fun hu => by simp only [List.mem_singleton] at hu; subst hu; exact c2), fun i q v hq hv => by
          rw [laid_get hll] at hv
          rw [List.getElem?_set] at hq
          by_cases e' : o' = i
          · subst e'
            simp only [if_true, hlt] at hq
            rw [if_pos ⟨Nat.le_refl _, by simp⟩] at hv
            simp at hv
            cases hq
            subst hv
            exact hrep.mono hst' (fun _ h => h) (fun _ _ h => h)
          · simp only [e', if_false] at hq
            rw [if_neg (by simp; omega)] at hv
            exact (hrs i q v hq hv).mono hst' (fun _ h => h) (fun _ _ h => h)⟩
      exact wp_skip hrun (hn _ _ _ _ _ (hI2.put undef_rep (by simp [tagsOf, tagsOfs]) _) hK)
    have hlj : j < st.H.next := hI.heap.lt j b hob
    rcases own_cases hI hin with ⟨hn1, hn2⟩ | ⟨q, c, hq⟩
    · have hxs : xs = [] := by rw [hyx]; exact hn2
      refine core hk1 hob hcs (c := .nilsl) ?_ ⟨none, 0, 0, by rw [hyv]; exact hn1⟩ (h2 hxs)
      rw [hyv, hn1]
      exact .nilsl
    · rw [← hyx] at hq
      obtain ⟨p1, p2, p3, p4, p5, p6, p7, p8⟩ := promote hI hin hq hyk.symm hyx.symm
      have hI' : Inv w0 g0 (g.push st.H.next q) l w { st.mapS (killF (tg + 1)) with H := st.H.push (.rows k (pad k c xs)) } a := by
        have hpriv := hI.ownPriv _ hin q (by rw [hq]; rfl)
        have hlen : (st.mapS (killF (tg + 1))).mem.length = st.mem.length := by simp [St.mapS]
        refine ⟨hk1.defers, ?_, fun i mb hi => ?_, fun t ht => ?_, fun i mb hi hm => ?_, hk1.inj, fun t ht b' hb' => ?_, hk1.ownInj, p7, ?_, p8⟩
        · exact (TReps.mono (g := g) (g' := g.push st.H.next q) (fun _ _ => rfl) (fun _ h => h) (push_ob hI.heap) (fun _ _ => rfl) (Nat.le_refl _) _ _ (fun _ _ => ⟨rfl, rfl, rfl⟩) hk1.tm)
        · exact BRep.mono (g := g) (g' := g.push st.H.next q) (hk1.mem i mb hi) (fun _ => rfl) (fun _ _ => ⟨rfl, rfl, rfl⟩) (fun _ _ => rfl) (Nat.le_refl _) (fun _ _ => rfl) (fun _ h => h) (push_ob hI.heap)
        · exact OwnT.mono (g := g) (g' := g.push st.H.next q) (hk1.own t ht) ⟨rfl, rfl, rfl⟩ (fun _ _ => rfl) (fun _ _ => rfl) (fun _ h => h) (push_ob hI.heap)
        · obtain ⟨r1, r2, r3, r4⟩ := hk1.priv i mb hi hm
          refine ⟨r1, r2, r3, fun hh => ?_⟩
          rcases hh with hh | hh
          · exact r4 hh
          · exact hpriv.2.2 i (by have := (List.getElem?_eq_some_iff.1 hi).1; rwa [hlen] at this) hh
        · obtain ⟨r1, r2, r3⟩ := hk1.ownPriv t ht b' hb'
          refine ⟨r1, fun hh => ?_, r3⟩
          rcases hh with hh | hh
          · exact r2 hh
          · have h3 := tags_mapS (killF_tags (tg + 1)) st t ht
            exact h3.2 (hI.ownInj t h3.1 _ hin b' hb' (by rw [hq, hh]; rfl))
        · exact ⟨hI.ext.os, hI.ext.tape, hI.ext.output, hI.ext.size, hI.ext.keep, hI.ext.stb, hI.ext.stbNew, fun i b' hb' => push_ob hI.heap i b' (hI.ext.ob i b' hb'), fun b' hb' => by
            rcases hb' with hb' | rfl
            · exact hI.ext.footNew b' hb'
            · exact .inr p1⟩
      have hne : j ≠ st.H.next := by omega
      refine core hI' (push_ob hI.heap j b hob) (by rw [push_get_ne _ _ hne]; exact hcs) (c := .hs st.H.next 0 xs.length c k) ?_ ⟨some ⟨q, 0, none⟩, xs.length, c, by rw [hyv]; exact hq⟩ (h1 c p4 fun _ => p5)
      rw [hyv, hq]
      exact .hs st.H.next q 0 xs.length c k 0 (by simp [Gs.push]) p4 p5 (.inr (by simp))

/-! Calls of an interface's methods. -/
/-- What is told of the methods: each has a value as its receiver. -/
def DispOk (P : Program) (E : Env) : Prop := ∀ name, ∀ p ∈ E.disp name, ∃ (i : TypeInfo) (m : Method) (d : TypeDesc), P.info? p.1 = some i ∧ P.underlying p.1 = some d ∧ (∀ e, d ≠ .pointer e) ∧ i.methods.find? (·.name == name) = some m ∧ m.path = #[] ∧ m.func = some (p.2, false)
theorem run_method {E : Env} (hD : DispOk P E) {name : String} {p : Nat × Nat} (hp : p ∈ E.disp name) (v : Value) (n : Nat) (w : World) : (method (n + 1) p.1 v name).run P w = .ok (p.2, v) w := by
  obtain ⟨i, m, d, h1, h2, h3, h4, h5, h6⟩ := hD name p hp
  unfold method
  simp only [Sem.run_bind, typeInfo, run_program, Result.andThen_ok, h1, Sem.run_pure, h4, h5, h6, follow, receiverAt, run_underlying h2]
  cases d <;> first | exact absurd rfl (h3 _) | simp [Place.get]
theorem run_invokeMethod {t f n : Nat} {u : Value} {name : String} {ys : Array Value} {X : Next} (hn : P.types.size + Made.depth = n + 1) (h4 : (method (n + 1) t u name).run P w = .ok (f, u) w) (h3 : (callFunc f (#[u] ++ ys)).run P w = .ok X w) :
    (invoke (.fn (.method name) #[]) (#[.iface t u] ++ ys)).run P w = .ok X w := by
  have hz : (#[Value.iface t u] ++ ys)[0]? = some (Value.iface t u) := by rw [← Array.getElem?_toList]; simp
  have he : (#[Value.iface t u] ++ ys).extract 1 (#[Value.iface t u] ++ ys).size = ys := by
    apply Array.ext'
    simp
  unfold invoke
  simp only [hz, he, callMethod, Sem.run_bind, run_program, Result.andThen_ok, hn, h4, h3]
end
end Go.Proofs.Ytbkkhhmjmbbfpaa.Ab
