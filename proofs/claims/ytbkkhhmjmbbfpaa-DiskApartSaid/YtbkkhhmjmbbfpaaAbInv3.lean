/- What keeps a frame's invariant: new slices, new blocks, stores. -/
import Derived.Test.YtbkkhhmjmbbfpaaAbInv2
namespace Go.Proofs.Ytbkkhhmjmbbfpaa.Ab
open Go

section
variable {w0 : World} {g0 g g' : Gs} {l l' : Gl} {w w' : World} {st st' : St} {a a' : Act} {base : Nat}

def Gl.own (l : Gl) (t : Nat) (v : Value) (k : Nat) (xs : List (List AV)) : Gl :=
  { l with xv := fun u => if u = t then v else l.xv u, xc := fun u => if u = t then xs else l.xc u, xk := fun u => if u = t then k else l.xk u }

/-- A new slice of the frame's own. -/
theorem Inv.newTag (h : Inv w0 g0 g l w st a) {t k : Nat} {v : Value} {xs : List (List AV)} (ht0 : t ≠ 0) (ht : t ∉ st.tags)
    (hT : OwnT w0.heap.size g (l.own t v k xs) w t) (hp : ∀ b, v.ownBlock = some b → ¬ g.stb b ∧ (∀ j, j < st.mem.length → l.loc j ≠ b) ∧ (∀ u ∈ st.tags, (l.xv u).ownBlock ≠ some b) ∧ ¬ g.foot b) (d : Option Nat) :
    Inv w0 g0 g (l.own t v k xs) w (st.put d (.sl t k xs)) (a.put d v) := by
  obtain ⟨m, rfl⟩ : ∃ m, t = m + 1 := ⟨t - 1, by omega⟩
  have hne : ∀ u ∈ st.tags, u ≠ m + 1 := fun u hu e => ht (e ▸ hu)
  have hsame : ∀ u ∈ st.tags, (l.own (m + 1) v k xs).xv u = l.xv u ∧ (l.own (m + 1) v k xs).xc u = l.xc u ∧ (l.own (m + 1) v k xs).xk u = l.xk u := by
    intro u hu
    simp [Gl.own, hne u hu]
  have hloc : (l.own (m + 1) v k xs).loc = l.loc := rfl
  have htg : ∀ u ∈ (st.put d (.sl (m + 1) k xs)).tags, u ∈ st.tags ∨ u = m + 1 := by
    intro u hu
    rcases put_tags hu with hu | hu
    · exact .inl hu
    · simp [tagsOf, Nat.beq] at hu; exact .inr hu
  have hxv : (l.own (m + 1) v k xs).xv (m + 1) = v := by simp [Gl.own]
  have hdef : (a.put d v).defers = [] := by cases d <;> exact h.defers
  have htm : TReps g (l.own (m + 1) v k xs) w st.mem.length st.tm a.tmps.toList := TReps.mono (l := l) (l' := l.own (m + 1) v k xs) (fun _ _ => rfl) (fun _ h => h) (fun _ _ h => h) (fun _ _ => rfl) (Nat.le_refl _) _ _ (fun u hu => hsame u (tags_tm hu)) h.tm
  refine ⟨hdef, ?_, ?_, ?_, ?_, ?_, ?_, ?_, ?_, h.ext, h.stbLt⟩
  · rw [put_mem]
    cases d with
    | none => exact htm
    | some d =>
      simp only [St.put, Act.put, Array.toList_setIfInBounds]
      refine htm.set ?_ d
      simp only [TRep, Gl.own, if_true, and_self]
  · rw [put_mem, hloc]
    intro j mb hj
    exact (h.mem j mb hj).mono (fun _ => rfl) (fun u hu => hsame u (tags_mem hj hu)) (fun _ _ => rfl) (Nat.le_refl _) (fun _ _ => rfl) (fun _ h => h) (fun _ _ h => h)
  · intro u hu
    rcases htg u hu with hu | rfl
    · exact (h.own u hu).mono (hsame u hu) (fun _ _ => rfl) (fun _ _ => rfl) (fun _ h => h) (fun _ _ h => h)
    · exact hT
  · rw [put_mem]; exact h.priv
  · rw [put_mem]; exact h.inj
  · intro u hu b hb
    rw [put_mem]
    rcases htg u hu with hu | rfl
    · rw [(hsame u hu).1] at hb
      exact h.ownPriv u hu b hb
    · rw [hxv] at hb
      exact ⟨(hp b hb).1, (hp b hb).2.2.2, (hp b hb).2.1⟩
  · intro u hu u' hu' b hb hb'
    rcases htg u hu with hu | rfl <;> rcases htg u' hu' with hu' | rfl
    · rw [(hsame u hu).1] at hb
      rw [(hsame u' hu').1] at hb'
      exact h.ownInj u hu u' hu' b hb hb'
    · rw [(hsame u hu).1] at hb
      rw [hxv] at hb'
      exact absurd hb ((hp b hb').2.2.1 u hu)
    · rw [(hsame u' hu').1] at hb'
      rw [hxv] at hb
      exact absurd hb' ((hp b hb).2.2.1 u' hu')
    · rfl
  · rw [put_H]; exact h.heap

theorem heap_alloc (w : World) (o : Go.Obj) (b : Nat) (h : b < w.heap.size) : (w.alloc o).heap[b]? = w.heap[b]? := heap_alloc_old w o b h
theorem alloc_size (w : World) (o : Go.Obj) : (w.alloc o).heap.size = w.heap.size + 1 := by simp
/-- A block that nobody looks at. -/
theorem Inv.alloc (h : Inv w0 g0 g l w st a) (o : Go.Obj) : Inv w0 g0 g l (w.alloc o) st a :=
  h.grow rfl rfl rfl (by simp) (fun b hb => heap_alloc w o b hb)

def Gl.block (l : Gl) (n b : Nat) : Gl := { l with loc := fun j => if j = n then b else l.loc j }

/-- A new block of the frame's own. -/
theorem Inv.newBlock (h : Inv w0 g0 g l w st a) (o : Go.Obj) (mb : MB) (hm : mb.mine = true) (ht : ∀ t ∈ mb.tags, t ∈ st.tags)
    (hb : BRep g (l.block st.mem.length w.heap.size) (w.alloc o) (st.mem.length + 1) w.heap.size mb) (d : Option Nat) :
    Inv w0 g0 g (l.block st.mem.length w.heap.size) (w.alloc o) ({ st with mem := st.mem ++ [mb] }.put d (.ptr st.mem.length 0)) (a.put d (.pointer (some ⟨w.heap.size, 0, none⟩))) := by
  have h' := h.alloc o
  have hlen : (st.mem ++ [mb]).length = st.mem.length + 1 := by simp
  have hloc : ∀ j, j < st.mem.length → (l.block st.mem.length w.heap.size).loc j = l.loc j := fun j hj => by simp [Gl.block, Nat.ne_of_lt hj]
  have hnew : (l.block st.mem.length w.heap.size).loc st.mem.length = w.heap.size := by simp [Gl.block]
  have htg : ∀ t ∈ ({ st with mem := st.mem ++ [mb] } : St).tags, t ∈ st.tags := by
    intro t ht'
    simp only [St.tags, List.mem_append, List.flatMap_append, List.flatMap_cons, List.flatMap_nil, List.append_nil] at ht' ⊢
    rcases ht' with ht' | ht' | ht'
    · exact .inl ht'
    · exact .inr ht'
    · have := ht t ht'
      simpa only [St.tags, List.mem_append] using this
  have hget : ∀ (j : Nat) (x : MB), (st.mem ++ [mb])[j]? = some x → (j < st.mem.length ∧ st.mem[j]? = some x) ∨ (j = st.mem.length ∧ x = mb) := by
    intro j x hj
    rw [List.getElem?_append] at hj
    split at hj
    · exact .inl ⟨by assumption, hj⟩
    · rename_i hge
      have hj' : j - st.mem.length = 0 := by
        rcases Nat.eq_zero_or_pos (j - st.mem.length) with h | h
        · exact h
        · rw [List.getElem?_singleton, if_neg (by omega)] at hj; cases hj
      rw [hj'] at hj
      simp at hj
      exact .inr ⟨by omega, hj.symm⟩
  have hI : Inv w0 g0 g (l.block st.mem.length w.heap.size) (w.alloc o) { st with mem := st.mem ++ [mb] } a := by
    refine ⟨h.defers, ?_, ?_, ?_, ?_, ?_, ?_, ?_, h'.heap, h'.ext, h'.stbLt⟩
    · show TReps _ _ _ (st.mem ++ [mb]).length _ _
      rw [hlen]
      exact TReps.mono (fun _ _ => rfl) (fun _ h => h) (fun _ _ h => h) hloc (by omega) _ _ (fun _ _ => ⟨rfl, rfl, rfl⟩) h'.tm
    · intro j x hj
      show BRep _ _ _ (st.mem ++ [mb]).length _ _
      rw [hlen]
      rcases hget j x hj with ⟨hj1, hj2⟩ | ⟨rfl, rfl⟩
      · rw [hloc j hj1]
        exact (h'.mem j x hj2).mono (fun _ => rfl) (fun _ _ => ⟨rfl, rfl, rfl⟩) hloc (by omega) (fun _ _ => rfl) (fun _ h => h) (fun _ _ h => h)
      · rw [hnew]; exact hb
    · intro t ht'
      exact (h'.own t (htg t ht')).mono ⟨rfl, rfl, rfl⟩ (fun _ _ => rfl) (fun _ _ => rfl) (fun _ h => h) (fun _ _ h => h)
    · intro j x hj hmine
      rcases hget j x hj with ⟨hj1, hj2⟩ | ⟨rfl, rfl⟩
      · rw [hloc j hj1]; exact h'.priv j x hj2 hmine
      · rw [hnew]
        refine ⟨h.ext.size, by simp, fun hs => ?_, fun hs => by have := h.heap.foot_lt hs; omega⟩
        have := (h.stbLt _ hs).1
        omega
    · intro i j x hi hmine hj he
      have hj' : j < st.mem.length + 1 := by rw [← hlen]; exact hj
      rcases hget i x hi with ⟨hi1, hi2⟩ | ⟨rfl, rfl⟩
      · rw [hloc i hi1] at he
        by_cases hjl : j < st.mem.length
        · rw [hloc j hjl] at he
          exact h.inj i j x hi2 hmine hjl he
        · obtain rfl : j = st.mem.length := by omega
          rw [hnew] at he
          have := (h.priv i x hi2 hmine).2.1
          omega
      · rw [hnew] at he
        by_cases hjl : j < st.mem.length
        · rw [hloc j hjl] at he
          cases hx : st.mem[j]? with
          | none => rw [List.getElem?_eq_none_iff] at hx; omega
          | some y =>
            cases hy : y.mine with
            | true =>
              have := (h.priv j y hx hy).2.1
              omega
            | false =>
              exfalso
              cases y with
              | frz cs =>
                have hb := (h.mem j _ hx).1
                have := (h.stbLt _ hb).1
                omega
              | dead => exact (h.mem j _ hx).elim
              | cells cs => simp [MB.mine] at hy
              | siter s p => simp [MB.mine] at hy
              | miter _ _ _ _ _ _ => simp [MB.mine] at hy
        · omega
    · intro t ht' b hb'
      obtain ⟨h1, h2, h3⟩ := h'.ownPriv t (htg t ht') b hb'
      refine ⟨h1, h2, fun j hj => ?_⟩
      have hj' : j < st.mem.length + 1 := by rw [← hlen]; exact hj
      by_cases hjl : j < st.mem.length
      · rw [hloc j hjl]; exact h3 j hjl
      · obtain rfl : j = st.mem.length := by omega
        rw [hnew]
        intro e
        subst e
        obtain ⟨e, fl, hown, _⟩ := h.own t (htg t ht')
        have := (hown.lt _ hb').2
        omega
    · intro t ht' u hu b hb1 hb2
      exact h'.ownInj t (htg t ht') u (htg u hu) b hb1 hb2
  refine hI.put ?_ (by simp [tagsOf]) d
  show TRep _ _ _ (st.mem ++ [mb]).length _ _
  rw [hlen]
  simp only [TRep, hnew]
  exact ⟨by omega, trivial⟩

/-- A block of the frame's own is turned. -/
theorem Inv.setMem (h : Inv w0 g0 g l w st a) {j : Nat} {mb mb' : MB} (hj : st.mem[j]? = some mb) (hm : mb.mine = true) (hm' : mb'.mine = true) (ht : ∀ t ∈ mb'.tags, t ∈ st.tags)
    (hos : w'.os = w.os) (htape : w'.tape = w.tape) (hout : w'.output = w.output) (hsize : w'.heap.size = w.heap.size) (hkeep : ∀ b, b ≠ l.loc j → w'.heap[b]? = w.heap[b]?)
    (hb : BRep g l w' st.mem.length (l.loc j) mb') : Inv w0 g0 g l w' { st with mem := st.mem.set j mb' } a := by
  have hjl : j < st.mem.length := (List.getElem?_eq_some_iff.1 hj).1
  obtain ⟨p1, p2, p3, p4⟩ := h.priv j mb hj hm
  have hst : ∀ b, g.stb b → w'.heap[b]? = w.heap[b]? := fun b hb => hkeep b fun e => p3 (e ▸ hb)
  have hlen : (st.mem.set j mb').length = st.mem.length := by simp
  have htg : ∀ t ∈ ({ st with mem := st.mem.set j mb' } : St).tags, t ∈ st.tags := by
    intro t ht'
    simp only [St.tags, List.mem_append, List.mem_flatMap] at ht'
    rcases ht' with ht' | ⟨x, hx, ht'⟩
    · exact tags_tm ht'
    · rcases List.mem_or_eq_of_mem_set hx with hx | rfl
      · obtain ⟨i, hi⟩ := List.mem_iff_getElem?.1 hx
        exact tags_mem hi ht'
      · exact ht t ht'
  have hget : ∀ (i : Nat) (x : MB), (st.mem.set j mb')[i]? = some x → (i = j ∧ x = mb') ∨ (i ≠ j ∧ st.mem[i]? = some x) := by
    intro i x hi
    rw [List.getElem?_set] at hi
    by_cases e : j = i
    · subst e
      simp only [if_true] at hi
      rw [if_pos hjl] at hi
      cases hi
      exact .inl ⟨rfl, rfl⟩
    · simp only [e, if_false] at hi
      exact .inr ⟨fun e' => e e'.symm, hi⟩
  refine ⟨h.defers, ?_, ?_, ?_, ?_, ?_, ?_, fun t ht' u hu b h1 h2 => h.ownInj t (htg t ht') u (htg u hu) b h1 h2, h.heap.mono (fun b hb => hkeep b fun e => p4 (e ▸ hb)) hst (fun _ h => h) rfl rfl (by omega), ?_, fun b hb => by rw [hsize]; exact h.stbLt b hb⟩
  · show TReps _ _ _ (st.mem.set j mb').length _ _
    rw [hlen]
    exact TReps.mono hst (fun _ h => h) (fun _ _ h => h) (fun _ _ => rfl) (Nat.le_refl _) _ _ (fun _ _ => ⟨rfl, rfl, rfl⟩) h.tm
  · intro i x hi
    show BRep _ _ _ (st.mem.set j mb').length _ _
    rw [hlen]
    rcases hget i x hi with ⟨rfl, rfl⟩ | ⟨hne, hi⟩
    · exact hb
    · refine (h.mem i x hi).mono (fun hmine => hkeep _ fun e => hne (h.inj i j x hi hmine hjl e)) (fun _ _ => ⟨rfl, rfl, rfl⟩) (fun _ _ => rfl) (Nat.le_refl _) hst (fun _ h => h) (fun _ _ h => h)
  · intro t ht'
    refine (h.own t (htg t ht')).mono ⟨rfl, rfl, rfl⟩ (fun b hb' => hkeep b fun e => ?_) hst (fun _ h => h) (fun _ _ h => h)
    exact (h.ownPriv t (htg t ht') b hb').2.2 j hjl e.symm
  · intro i x hi hmine
    rw [hsize]
    rcases hget i x hi with ⟨rfl, rfl⟩ | ⟨_, hi⟩
    · exact ⟨p1, p2, p3, p4⟩
    · exact h.priv i x hi hmine
  · intro i q x hi hmine hq he
    have hq' : q < st.mem.length := by rw [← hlen]; exact hq
    rcases hget i x hi with ⟨rfl, rfl⟩ | ⟨_, hi⟩
    · exact h.inj i q mb hj hm hq' he
    · exact h.inj i q x hi hmine hq' he
  · intro t ht' b hb'
    obtain ⟨q1, q2, q3⟩ := h.ownPriv t (htg t ht') b hb'
    exact ⟨q1, q2, fun i hi => q3 i (by rw [← hlen]; exact hi)⟩
  · refine ⟨hos.trans h.ext.os, htape.trans h.ext.tape, hout.trans h.ext.output, by rw [hsize]; exact h.ext.size, fun b hb hf0 => ?_, h.ext.stb, h.ext.stbNew, h.ext.ob, h.ext.footNew⟩
    exact (hkeep b (by omega)).trans (h.ext.keep b hb hf0)

theorem updF_tags (t : Nat) (ys : List (List AV)) : ∀ c, leaf c = true → ∀ u ∈ tagsOf (updF t ys c), u ∈ tagsOf c ∧ True := by
  intro c hc u h
  refine ⟨?_, trivial⟩
  cases c <;> try exact h
  case sl t' k xs =>
    simp only [updF] at h
    cases e : Nat.beq t' t <;> rw [e] at h <;> exact h
  case ep t' k i o xs =>
    simp only [updF] at h
    cases e : Nat.beq t' t <;> rw [e] at h <;> exact h

/-- A slice of the frame's own is turned in its place. -/
theorem Inv.upd (h : Inv w0 g0 g l w st a) {t : Nat} (hin : t ∈ st.tags) {ys : List (List AV)} (hlen' : ys.length = (l.xc t).length)
    (hos : w'.os = w.os) (htape : w'.tape = w.tape) (hout : w'.output = w.output) (hsize : w'.heap.size = w.heap.size) (hkeep : ∀ b, (l.xv t).ownBlock ≠ some b → w'.heap[b]? = w.heap[b]?)
    (hT : OwnT w0.heap.size g (l.own t (l.xv t) (l.xk t) ys) w' t) : Inv w0 g0 g (l.own t (l.xv t) (l.xk t) ys) w' (st.mapS (updF t ys)) a := by
  have hne : ∀ b, g.stb b → (l.xv t).ownBlock ≠ some b := fun b hb e => (h.ownPriv t hin b e).1 hb
  have hst : ∀ b, g.stb b → w'.heap[b]? = w.heap[b]? := fun b hb => hkeep b (hne b hb)
  have hl : ∀ u, u ≠ t → (l.own t (l.xv t) (l.xk t) ys).xv u = l.xv u ∧ (l.own t (l.xv t) (l.xk t) ys).xc u = l.xc u ∧ (l.own t (l.xv t) (l.xk t) ys).xk u = l.xk u := fun u hu => by simp [Gl.own, hu]
  have hxv : ∀ u, (l.own t (l.xv t) (l.xk t) ys).xv u = l.xv u := fun u => by
    by_cases e : u = t
    · subst e; simp [Gl.own]
    · exact (hl u e).1
  have hbase : ∀ b, (l.xv t).ownBlock = some b → w0.heap.size ≤ b := fun b hb => by obtain ⟨e, fl, hown, _⟩ := h.own t hin; exact (hown.lt b hb).1
  have hmem : ∀ (j : Nat) (mb : MB), (st.mapS (updF t ys)).mem[j]? = some mb → ∃ mb0, st.mem[j]? = some mb0 ∧ mb = mb0.mapM (updF t ys) := by
    intro j mb hj
    simp only [St.mapS, List.getElem?_map, Option.map_eq_some_iff] at hj
    obtain ⟨mb0, h1, h2⟩ := hj
    exact ⟨mb0, h1, h2.symm⟩
  have hlen : (st.mapS (updF t ys)).mem.length = st.mem.length := by simp [St.mapS]
  have htg := tags_mapS (updF_tags t ys) st
  have hf : ∀ c v, leaf c = true → (∀ t ∈ tagsOf c, t ∈ st.tags) → TRep g l w st.mem.length c v → TRep g (l.own t (l.xv t) (l.xk t) ys) w' st.mem.length (updF t ys c) v := by
    intro c v hc hts hr
    have keep : (∀ u ∈ tagsOf c, u ≠ t) → TRep g (l.own t (l.xv t) (l.xk t) ys) w' st.mem.length c v := fun hu => TRep.mono (l := l) (l' := l.own t (l.xv t) (l.xk t) ys) hst (fun _ h => h) (fun _ _ h => h) (fun _ _ => rfl) (Nat.le_refl _) c v (fun u h => hl u (hu u h)) hr
    cases c
    case agg cs => simp [leaf] at hc
    case tup cs => simp [leaf] at hc
    case iface q b => simp [leaf] at hc
    case sl t' k xs =>
      simp only [updF]
      cases e : Nat.beq t' t
      · refine keep fun u hu e' => ?_
        subst e'
        simp only [tagsOf] at hu
        cases e0 : Nat.beq t' 0 <;> rw [e0] at hu <;> simp at hu
        subst hu
        simp at e
      · obtain rfl : t' = t := Nat.eq_of_beq_eq_true e
        have ht0 := tags_pos h t' hin
        obtain ⟨m, rfl⟩ : ∃ m, t' = m + 1 := ⟨t' - 1, by omega⟩
        simp only [TRep] at hr
        obtain ⟨rfl, rfl, rfl⟩ := hr
        simp [TRep, Gl.own]
    case ep t' k i o xs =>
      simp only [updF]
      cases e : Nat.beq t' t
      · refine keep fun u hu e' => ?_
        subst e'
        simp only [tagsOf, List.mem_singleton] at hu
        subst hu
        simp at e
      · obtain rfl : t' = t := Nat.eq_of_beq_eq_true e
        simp only [TRep] at hr
        obtain ⟨rfl, rfl, h0, hi, b, m, c, hv, rfl⟩ := hr
        simp only [cond_true, TRep, hxv]
        refine ⟨by simp [Gl.own], by simp [Gl.own], h0, by omega, b, m, c, hv, rfl⟩
    all_goals exact keep (by simp [tagsOf])
  refine ⟨h.defers, ?_, ?_, ?_, ?_, ?_, ?_, ?_, h.heap.mono (fun b hb => hkeep b fun e => (h.ownPriv t hin b e).2.1 hb) hst (fun _ h => h) rfl rfl (by omega), ?_, fun b hb => by rw [hsize]; exact h.stbLt b hb⟩
  · rw [hlen]; exact mapTs_rep hf _ _ (fun t h => tags_tm h) h.tm
  · intro j mb hj
    obtain ⟨mb0, h0, rfl⟩ := hmem j mb hj
    have hb := h.mem j mb0 h0
    have hjl : j < st.mem.length := (List.getElem?_eq_some_iff.1 h0).1
    have hsame : mb0.mine = true → w'.heap[l.loc j]? = w.heap[l.loc j]? := fun _ => hkeep _ fun e => (h.ownPriv t hin _ e).2.2 j hjl rfl
    rw [hlen]
    show BRep g _ w' st.mem.length (l.loc j) _
    cases mb0 with
    | cells cs =>
      obtain ⟨vs, e, hh, hr, h1⟩ := hb
      exact ⟨vs, e, (hsame rfl).trans hh, mapTs_rep hf cs vs (fun t ht => tags_mem h0 ht) hr, h1⟩
    | frz cs => exact BRep.mono (l' := l) hb (fun hm => by simp [MB.mine] at hm) (fun _ _ => ⟨rfl, rfl, rfl⟩) (fun _ _ => rfl) (Nat.le_refl _) hst (fun _ h => h) (fun _ _ h => h)
    | siter s p => exact (hsame rfl).trans hb
    | miter _ _ _ _ _ _ => obtain ⟨b', h1, h2, h3⟩ := hb; exact ⟨b', (hsame rfl).trans h1, h2, h3⟩
    | dead => exact hb
  · intro u hu
    by_cases e : u = t
    · subst e; exact hT
    · refine (h.own u (htg u hu).1).mono (hl u e) (fun b hb => hkeep b fun e' => e (h.ownInj u (htg u hu).1 t hin b hb e')) hst (fun _ h => h) (fun _ _ h => h)
  · intro j mb hj hm
    obtain ⟨mb0, h0, rfl⟩ := hmem j mb hj
    rw [MB.mine_map] at hm
    rw [hsize]
    exact h.priv j mb0 h0 hm
  · intro i j mb hi hm hj he
    obtain ⟨mb0, h0, rfl⟩ := hmem i mb hi
    rw [MB.mine_map] at hm
    exact h.inj i j mb0 h0 hm (by rwa [hlen] at hj) he
  · intro u hu b hb
    rw [hxv] at hb
    rw [hlen]
    exact h.ownPriv u (htg u hu).1 b hb
  · intro u hu v hv b hb hb'
    rw [hxv] at hb hb'
    exact h.ownInj u (htg u hu).1 v (htg v hv).1 b hb hb'
  · refine ⟨hos.trans h.ext.os, htape.trans h.ext.tape, hout.trans h.ext.output, by rw [hsize]; exact h.ext.size, fun b hb hf0 => ?_, h.ext.stb, h.ext.stbNew, h.ext.ob, h.ext.footNew⟩
    exact (hkeep b fun e => by have := hbase b e; omega).trans (h.ext.keep b hb hf0)

/-- Ahead of a slice's new place: the old one is forgotten, and its row is turned. -/
theorem Inv.killed (h : Inv w0 g0 g l w st a) {t : Nat} (hin : t ∈ st.tags) (hg : w.grownBy w' (l.xv t).ownBlock) : Inv w0 g0 g l w' (st.mapS (killF t)) a := by
  have h1 := h.kill t
  have htg := tags_mapS (killF_tags t) st
  refine h1.step0 hg.os hg.tape hg.output hg.size (fun b hb hl => hg.block b hb fun e => ?_) (fun _ h => h) (fun _ h => .inl h) rfl rfl
  have e' := e.symm
  obtain ⟨q1, q2, q3⟩ := h.ownPriv t hin b e'
  rcases hl with (hl | ⟨j, mb, hj, hm, hl⟩ | ⟨u, hu, hl⟩) | hl | hl
  · exact q1 hl
  · refine q3 j ?_ hl
    have := (List.getElem?_eq_some_iff.1 hj).1
    rwa [mapS_memlen] at this
  · exact (htg u hu).2 (h.ownInj u (htg u hu).1 t hin b hl e')
  · exact q2 hl
  · obtain ⟨e, fl, hown, _⟩ := h.own t hin
    have := (hown.lt b e').1
    omega
end

end Go.Proofs.Ytbkkhhmjmbbfpaa.Ab
