/- The operations that turn the frame or the world. -/
import Derived.Test.YtbkkhhmjmbbfpaaAbOps4
namespace Go.Proofs.Ytbkkhhmjmbbfpaa.Ab
open Go

section
variable {P : Program} {T : List TI} {w0 : World} {g0 g : Gs} {l : Gl} {w : World} {st : St} {a : Act} {o : Oper} {next : Act → World → Prop} {Q : Exit → Act → World → Prop}

theorem wp_value {v : Value} {w' : World} (h : (execOp a.eval o).run P w = .ok (.value v) w') (hn : next (a.put o.dst v) w') : o.wp P a w next Q := by
  unfold Oper.wp
  rw [h]
  exact hn
theorem wp_skip {w' : World} (h : (execOp a.eval o).run P w = .ok .skip w') (hn : next (a.put o.dst undef) w') : o.wp P a w next Q := by
  unfold Oper.wp
  rw [h]
  exact hn

/-- What is asked of what follows: it holds of whatever stands for a state that K lets by. -/
def Goes (w0 : World) (g0 : Gs) (K : St → Prop) (next : Act → World → Prop) : Prop := ∀ (g : Gs) (l : Gl) (w : World) (st : St) (a : Act), Inv w0 g0 g l w st a → K st → next a w

theorem scalar_one {n : Nat} {x : AV} {v : Value} (h : TRep g l w n x v) (hI : Inv w0 g0 g l w st a) (ht : ∀ t ∈ tagsOf x, t ∈ st.tags) (hs : scalarAV x = true) : v.oneCell' = true := by
  cases x <;> simp only [scalarAV] at hs <;> try (simp at hs; done)
  case sl t k xs =>
    cases t with
    | zero => simp only [TRep] at h; cases h <;> rfl
    | succ t =>
      simp only [TRep] at h
      obtain ⟨h1, _⟩ := h
      rcases (hI.own _ (ht (t + 1) (by simp [tagsOf, Nat.beq]))).parts with ⟨p1, _⟩ | ⟨b, c, vs, hv, _⟩
      · rw [h1, p1]; rfl
      · rw [h1, hv]; rfl
  case ep t k i o xs =>
    simp only [TRep] at h
    obtain ⟨_, _, _, _, b, m, c, _, rfl⟩ := h
    rfl
  case rp cs o => simp only [TRep] at h; cases h; rfl
  case fn f c => simp only [TRep] at h; cases h; rfl
  case obj j o => simp only [TRep] at h; cases h; rfl
  case map j => simp only [TRep] at h; cases h; rfl
  case hs j o n c k => simp only [TRep] at h; cases h; rfl
  case he j k i o => simp only [TRep] at h; cases h; rfl
  case iface q b => simp only [TRep] at h; obtain ⟨u, rfl, _⟩ := h; rfl
  case ptr j o => simp only [TRep] at h; obtain ⟨_, rfl⟩ := h; rfl
  all_goals (simp only [TRep] at h; subst h; rfl)
theorem box_rep {n : Nat} {x : AV} {v : Value} (h : TRep g l w n x v) (hI : Inv w0 g0 g l w st a) (ht : ∀ t ∈ tagsOf x, t ∈ st.tags) (hs : boxable x = true) :
    TReps g l w n (cellsOf x) v.cells.toList ∧ (∀ u ∈ v.cells.toList, u.oneCell' = true) ∧ (∀ t ∈ tagsOfs (cellsOf x), t ∈ st.tags) := by
  have one : scalarAV x = true → (∀ cs, x ≠ .agg cs) → TReps g l w n (cellsOf x) v.cells.toList ∧ (∀ u ∈ v.cells.toList, u.oneCell' = true) ∧ (∀ t ∈ tagsOfs (cellsOf x), t ∈ st.tags) := by
    intro hs hna
    have h1 := scalar_one h hI ht hs
    have hc : cellsOf x = [x] := by cases x <;> first | rfl | exact absurd rfl (hna _)
    have hv : v.cells = #[v] := by cases v <;> first | rfl | (simp [Value.oneCell'] at h1; done)
    rw [hc, hv]
    simp only [TReps, tagsOfs, List.append_nil, and_true]
    exact ⟨h, by simpa using h1, ht⟩
  cases x <;> try exact one hs (by simp)
  case agg cs =>
    simp only [TRep] at h
    obtain ⟨vs, rfl, hr⟩ := h
    simp only [boxable, List.all_eq_true] at hs
    refine ⟨by simpa [cellsOf, Value.cells] using hr, fun u hu => ?_, fun t h => ht t (by simpa [tagsOf, cellsOf] using h)⟩
    have hu' : u ∈ vs := by simpa [Value.cells] using hu
    obtain ⟨i, hi⟩ := List.mem_iff_getElem?.1 hu'
    have hil : i < cs.length := by rw [hr.length]; exact (List.getElem?_eq_some_iff.1 hi).1
    have hc : cs[i]? = some cs[i] := List.getElem?_eq_getElem hil
    exact scalar_one (hr.of i _ _ hc hi) hI (fun t h => ht t (by simp only [tagsOf]; exact tagsOfs_get hc t h)) (hs _ (List.mem_of_getElem? hc))

theorem alloc_sound (hT : TabOk P T) (hI : Inv w0 g0 g l w st a) {e : Nat} {K : St → Prop} (ho : o.op = .alloc e) (hk : (ti T e).k ≠ .other) (htup : ∀ ts, (ti T e).k ≠ .tuple ts)
    (h : K ({ st with mem := st.mem ++ [MB.cells (cellsOf (zeroT T e))] }.put o.dst (.ptr st.mem.length 0))) (hn : Goes w0 g0 K next) : o.wp P a w next Q := by
  obtain ⟨i, z, hi, hz, hl1, hl2, hagg, hc⟩ := hT.zero hk htup
  have hrun : (execOp a.eval o).run P w = .ok (.value (.pointer (some ⟨w.heap.size, 0, none⟩))) (w.alloc (.cells z.cells e)) := by
    unfold execOp
    rw [ho]
    refine exec_v ?_
    simp [Instr.alloc, zeroValue, typeInfo, hi, hz, newVar, newRow]
  have hcells : cellsOf (zeroT T e) = (ti T e).shape.map CK.zero := by
    unfold zeroT
    cases h : isAggT T e
    · rw [h] at hagg
      have hz1 : z.cells = #[z] := by cases z <;> first | rfl | (simp [isAggV] at hagg; done)
      rw [hz1] at hl1
      simp only [List.length_cons, List.length_nil, Nat.zero_add] at hl1
      obtain ⟨c, hsc⟩ : ∃ c, (ti T e).shape = [c] := by
        cases hs : (ti T e).shape with
        | nil => rw [hs] at hl1; simp at hl1
        | cons c r => cases r with
          | nil => exact ⟨c, rfl⟩
          | cons d r => rw [hs] at hl1; simp at hl1
      rw [hsc]
      simp only [cond_false, List.map_cons, List.map_nil, List.headD_cons]
      cases c <;> rfl
    · rfl
  refine wp_value hrun (hn _ _ _ _ _ (hI.newBlock _ (MB.cells (cellsOf (zeroT T e))) rfl ?_ ?_ _) h)
  · intro t ht
    simp only [MB.tags, hcells] at ht
    obtain ⟨j, c, hc', ht⟩ := tagsOfs_iff ht
    simp only [List.getElem?_map, Option.map_eq_some_iff] at hc'
    obtain ⟨ck, _, rfl⟩ := hc'
    cases ck <;> simp [CK.zero, tagsOf] at ht
  · refine ⟨z.cells.toList, e, (heap_alloc_new w _).trans (by simp), ?_, ?_⟩
    · rw [hcells]
      refine TReps.mk (by simp [hl1]) fun j c v hc' hv => ?_
      simp only [List.getElem?_map, Option.map_eq_some_iff] at hc'
      obtain ⟨ck, hck, rfl⟩ := hc'
      exact ((hc j v ck hv hck).1 _ _ _ _).1
    · intro u hu
      obtain ⟨j, hj⟩ := List.mem_iff_getElem?.1 hu
      have hjl : j < (ti T e).shape.length := by rw [← hl1]; exact (List.getElem?_eq_some_iff.1 hj).1
      exact (hc j u _ hj (List.getElem?_eq_getElem hjl)).2

theorem box_sound (hI : Inv w0 g0 g l w st a) {e : Nat} {x : Operand} {K : St → Prop} (ho : o.op = .box e x)
    (h : G (boxable (ρ st.tm x)) (K ({ st with mem := st.mem ++ [MB.cells (cellsOf (ρ st.tm x))] }.put o.dst (.ptr st.mem.length 0)))) (hn : Goes w0 g0 K next) : o.wp P a w next Q := by
  cases hb : boxable (ρ st.tm x) <;> rw [hb] at h <;> simp only [G, cond_false, cond_true] at h
  obtain ⟨hx, ht⟩ := hI.operand (a := a) x
  obtain ⟨h1, h2, h3⟩ := box_rep hx hI ht hb
  have hrun : (execOp a.eval o).run P w = .ok (.value (.pointer (some ⟨w.heap.size, 0, none⟩))) (w.alloc (.cells (a.eval x).cells e)) := by
    unfold execOp
    rw [ho]
    refine exec_v ?_
    simp [Instr.box, newVar, newRow]
  refine wp_value hrun (hn _ _ _ _ _ (hI.newBlock _ (MB.cells (cellsOf (ρ st.tm x))) rfl h3 ?_ _) h)
  refine ⟨(a.eval x).cells.toList, e, (heap_alloc_new w _).trans (by simp), ?_, h2⟩
  refine TReps.mono (l := l) (fun b hb' => heap_alloc w _ b (hI.stbLt b hb').1) (fun _ h => h) (fun _ _ h => h) (fun j hj => by simp [Gl.block, Nat.ne_of_lt hj]) (by omega) _ _ (fun _ _ => ⟨rfl, rfl, rfl⟩) h1
end
end Go.Proofs.Ytbkkhhmjmbbfpaa.Ab
