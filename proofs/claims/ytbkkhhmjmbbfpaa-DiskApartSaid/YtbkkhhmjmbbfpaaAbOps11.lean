/- Slices against nil; functions made. -/
import Derived.Test.YtbkkhhmjmbbfpaaAbOps10
namespace Go.Proofs.Ytbkkhhmjmbbfpaa.Ab
open Go

section
variable {P : Program} {T : List TI} {w0 : World} {g0 g : Gs} {l : Gl} {w : World} {st : St} {a : Act} {o : Oper} {next : Act → World → Prop} {Q : Exit → Act → World → Prop}

theorem sl_shape (hI : Inv w0 g0 g l w st a) {t k : Nat} {xs : List (List AV)} {v : Value} {n : Nat} (h : TRep g l w n (.sl t k xs) v) (ht : ∀ u ∈ tagsOf (AV.sl t k xs), u ∈ st.tags) : ∃ A m c, v = .slice A m c ∧ (A = none → xs = []) := by
  cases t with
  | zero =>
    simp only [TRep] at h
    cases h with
    | sl0 A c k => exact ⟨A, 0, c, rfl, fun _ => rfl⟩
    | sl b o c k xs vs => exact ⟨_, _, c, rfl, by simp⟩
  | succ t =>
    simp only [TRep] at h
    obtain ⟨rfl, rfl, rfl⟩ := h
    rcases (hI.own (t + 1) (ht _ (by simp [tagsOf, Nat.beq]))).parts with ⟨h1, h2⟩ | ⟨b, c, vs, hv, _⟩
    · exact ⟨none, 0, 0, h1, fun _ => h2⟩
    · exact ⟨_, _, c, hv, by simp⟩

theorem run_nil_eql {t e : Nat} (hu : P.underlying t = some (.slice e)) (A : Option Addr) (m c : Nat) : (Op.equal t (.slice A m c) (.slice none 0 0)).run P w = .ok A.isNone w := by
  refine run_equal_step fun d => ?_
  cases A <;> simp [Op.equalIn, run_underlying hu]

theorem nil_sound (hT : TabOk P T) (hI : Inv w0 g0 g l w st a) {op : BinOp} {t e : Nat} {x y : Operand} {z : Nat} {K : St → Prop} (ho : o.op = .binOp op t x y z) (ht : (ti T t).k = .slice e)
    (h : match (generalizing := false) op, ρ st.tm x, ρ st.tm y with
      | .eql, .sl _ _ xs, .nilsl => ∀ b : Bool, (b = true → xs = []) → K (st.put o.dst (.bool b))
      | .neq, .sl _ _ xs, .nilsl => ∀ b : Bool, (b = true → xs = []) → K (st.put o.dst (.bool (!b)))
      | .eql, .nilsl, .nilsl => K (st.put o.dst (.bool true))
      | .neq, .nilsl, .nilsl => K (st.put o.dst (.bool false))
      | .eql, .hs _ _ _ _ _, .nilsl => K (st.put o.dst (.bool false))
      | .neq, .hs _ _ _ _ _, .nilsl => K (st.put o.dst (.bool true))
      | _, _, _ => False) (hn : Goes w0 g0 K next) : o.wp P a w next Q := by
  obtain ⟨hx, hxt⟩ := hI.operand (a := a) x
  obtain ⟨hy, _⟩ := hI.operand (a := a) y
  have hu := hT.u_slice ht
  have key : ∀ (A : Option Addr) (m c : Nat), a.eval x = .slice A m c → a.eval y = .slice none 0 0 → (op = .eql → K (st.put o.dst (.bool A.isNone))) → (op = .neq → K (st.put o.dst (.bool (!A.isNone)))) → (op = .eql ∨ op = .neq) → o.wp P a w next Q := by
    intro A m c hxv hyv h1 h2 hop
    have heq := run_nil_eql (P := P) (w := w) hu A m c
    rcases hop with rfl | rfl
    · refine wp_value (w' := w) (v := .bool A.isNone) ?_ (hn _ _ _ _ _ (hI.put (by simp [TRep]) (by simp [tagsOf]) _) (h1 rfl))
      unfold execOp
      rw [ho]
      refine exec_v ?_
      rw [hxv, hyv]
      simp [eqGuard, binOp, heq]
    · refine wp_value (w' := w) (v := .bool (!A.isNone)) ?_ (hn _ _ _ _ _ (hI.put (by simp [TRep]) (by simp [tagsOf]) _) (h2 rfl))
      unfold execOp
      rw [ho]
      refine exec_v ?_
      rw [hxv, hyv]
      simp [eqGuard, binOp, heq]
  cases hxv : ρ st.tm x <;> rw [hxv] at h hx hxt <;> try (cases op <;> exact h.elim)
  case nilsl =>
    cases hyv : ρ st.tm y <;> rw [hyv] at h hy <;> try (cases op <;> exact h.elim)
    simp only [TRep] at hx hy
    cases op <;> try exact h.elim
    · exact key none 0 0 hx hy (fun _ => h) (by simp) (.inl rfl)
    · exact key none 0 0 hx hy (by simp) (fun _ => h) (.inr rfl)
  case sl tg k xs =>
    cases hyv : ρ st.tm y <;> rw [hyv] at h hy <;> try (cases op <;> exact h.elim)
    simp only [TRep] at hy
    obtain ⟨A, m, c, hv, hA⟩ := sl_shape hI hx hxt
    cases op <;> try exact h.elim
    · exact key A m c hv hy (fun _ => h A.isNone (fun hh => hA (by simpa using hh))) (by simp) (.inl rfl)
    · exact key A m c hv hy (by simp) (fun _ => h A.isNone (fun hh => hA (by simpa using hh))) (.inr rfl)
  case hs j o' n m k =>
    cases hyv : ρ st.tm y <;> rw [hyv] at h hy <;> try (cases op <;> exact h.elim)
    simp only [TRep] at hx hy
    generalize hv : a.eval x = v at hx
    cases hx with
    | hs _ b _ _ _ _ q ho' _ _ _ =>
      cases op <;> try exact h.elim
      · exact key (some _) _ _ hv hy (fun _ => h) (by simp) (.inl rfl)
      · exact key (some _) _ _ hv hy (by simp) (fun _ => h) (.inr rfl)

/-- A block of local memory becomes stable. -/
theorem Inv.frzBlock (h : Inv w0 g0 g l w st a) {j : Nat} {cs cs' : List AV} {vs : List Value} {e : Nat} (hj : st.mem[j]? = some (.cells cs)) (hh : w.heap[l.loc j]? = some (.cells vs.toArray e (0, 0))) (h1 : ∀ u ∈ vs, u.oneCell' = true) (hl : cs'.length = vs.length)
    (hR : ∀ (i : Nat) (c : AV) (v : Value), cs'[i]? = some c → vs[i]? = some v → Rep w g.stb g.ob c v) :
    Inv w0 g0 { g with stb := fun b => g.stb b ∨ b = l.loc j } l w { st with mem := st.mem.set j (.frz cs') } a := by
  have hjl : j < st.mem.length := (List.getElem?_eq_some_iff.1 hj).1
  obtain ⟨p1, p2, p3, p4⟩ := h.priv j _ hj rfl
  have hlen : (st.mem.set j (.frz cs')).length = st.mem.length := by simp
  have hget : ∀ (i : Nat) (x : MB), (st.mem.set j (.frz cs'))[i]? = some x → (i = j ∧ x = .frz cs') ∨ (i ≠ j ∧ st.mem[i]? = some x) := by
    intro i x hi
    by_cases e : i = j
    · subst e
      rw [List.getElem?_set_self hjl] at hi
      exact .inl ⟨rfl, (Option.some.inj hi).symm⟩
    · rw [List.getElem?_set_ne (Ne.symm e)] at hi
      exact .inr ⟨e, hi⟩
  have htg : ∀ t ∈ ({ st with mem := st.mem.set j (.frz cs') } : St).tags, t ∈ st.tags := by
    intro t ht
    simp only [St.tags, List.mem_append, List.mem_flatMap] at ht ⊢
    rcases ht with ht | ⟨mb, hm, ht⟩
    · exact .inl ht
    · rcases List.mem_or_eq_of_mem_set hm with hm | rfl
      · exact .inr ⟨mb, hm, ht⟩
      · simp [MB.tags] at ht
  refine ⟨h.defers, ?_, ?_, ?_, ?_, ?_, ?_, ?_, h.heap.mono (g' := { g with stb := fun b => g.stb b ∨ b = l.loc j }) (fun _ _ => rfl) (fun _ _ => rfl) (fun _ h => Or.inl h) rfl rfl (Nat.le_refl _), ?_, ?_⟩
  · show TReps _ _ _ (st.mem.set j (.frz cs')).length _ _
    rw [hlen]
    exact TReps.mono (g := g) (g' := { g with stb := fun b => g.stb b ∨ b = l.loc j }) (l := l) (fun _ _ => rfl) (fun _ h => Or.inl h) (fun _ _ h => h) (fun _ _ => rfl) (Nat.le_refl _) _ _ (fun _ _ => ⟨rfl, rfl, rfl⟩) h.tm
  · intro i x hi
    show BRep _ _ _ (st.mem.set j (.frz cs')).length _ _
    rw [hlen]
    rcases hget i x hi with ⟨rfl, rfl⟩ | ⟨_, hi⟩
    · refine ⟨.inr rfl, fun q => vs.getD q undef, fun q hq => ?_, fun q hq => ?_, fun q c hq => ?_⟩
      · rw [cell_of_row _ _ q vs.toArray e _ hh]
        show _ = some (vs.getD q undef)
        rw [List.getD_eq_getElem?_getD]
        simp [List.getElem?_eq_getElem (show q < vs.length by omega)]
      · show (vs.getD q undef).oneCell' = true
        rw [List.getD_eq_getElem?_getD, List.getElem?_eq_getElem (show q < vs.length by omega)]
        exact h1 _ (by simp)
      · have hql : q < vs.length := by have := (List.getElem?_eq_some_iff.1 hq).1; omega
        show Rep _ _ _ _ (vs.getD q undef)
        rw [List.getD_eq_getElem?_getD, List.getElem?_eq_getElem hql]
        exact (hR q c _ hq (List.getElem?_eq_getElem hql)).mono (fun _ _ => rfl) (fun _ h => .inl h) (fun _ _ h => h)
    · exact BRep.mono (h.mem i x hi) (fun _ => rfl) (fun _ _ => ⟨rfl, rfl, rfl⟩) (fun _ _ => rfl) (Nat.le_refl _) (fun _ _ => rfl) (fun _ h => Or.inl h) (fun _ _ h => h)
  · intro t ht
    exact OwnT.mono (h.own t (htg t ht)) ⟨rfl, rfl, rfl⟩ (fun _ _ => rfl) (fun _ _ => rfl) (fun _ h => Or.inl h) (fun _ _ h => h)
  · intro i x hi hm
    rcases hget i x hi with ⟨rfl, rfl⟩ | ⟨hne, hi⟩
    · simp [MB.mine] at hm
    · obtain ⟨q1, q2, q3, q4⟩ := h.priv i x hi hm
      refine ⟨q1, q2, fun hs => ?_, q4⟩
      rcases hs with hs | hs
      · exact q3 hs
      · exact hne (h.inj i j x hi hm hjl hs)
  · intro i q x hi hm hq he
    rcases hget i x hi with ⟨rfl, rfl⟩ | ⟨hne, hi⟩
    · simp [MB.mine] at hm
    · exact h.inj i q x hi hm (by rw [← hlen]; exact hq) he
  · intro t ht b hb
    obtain ⟨q1, q2, q3⟩ := h.ownPriv t (htg t ht) b hb
    refine ⟨fun hs => ?_, q2, fun i hi => q3 i (by rw [← hlen]; exact hi)⟩
    rcases hs with hs | hs
    · exact q1 hs
    · exact q3 j hjl hs.symm
  · intro t ht u hu b hb hb'
    exact h.ownInj t (htg t ht) u (htg u hu) b hb hb'
  · exact ⟨h.ext.os, h.ext.tape, h.ext.output, h.ext.size, h.ext.keep, fun b hb => .inl (h.ext.stb b hb), fun b hb => by
      rcases hb with hb | rfl
      · exact h.ext.stbNew b hb
      · exact .inr (.inl p1), h.ext.ob, h.ext.footNew⟩
  · intro b hb
    rcases hb with hb | rfl
    · exact h.stbLt b hb
    · exact ⟨p2, p4⟩

theorem frzAll_cells {j : Nat} : ∀ (ts : List Nat) {s : St} {cs : List AV}, s.mem[j]? = some (.cells cs) → ∃ cs1, (s.frzAll ts).mem[j]? = some (.cells cs1)
  | [], _, cs, h => ⟨cs, h⟩
  | t :: ts, s, cs, h => frzAll_cells ts (s := s.mapS (frzF t)) (cs := mapTs (frzF t) cs) (by simp [St.mapS, h, MB.mapM])
theorem frzAll_cells_tags {j : Nat} : ∀ (ts : List Nat) {s : St} {cs cs1 : List AV}, (∀ t ∈ ts, t ≠ 0) → s.mem[j]? = some (.cells cs) → (s.frzAll ts).mem[j]? = some (.cells cs1) → ∀ t ∈ tagsOfs cs1, t ∈ tagsOfs cs
  | [], _, cs, cs1, _, h, h1, t, ht => by
    simp only [St.frzAll] at h1
    rw [h] at h1
    cases h1
    exact ht
  | u :: ts, s, cs, cs1, h0, h, h1, t, ht => (mapTs_tags (frzF_tags u (h0 u (by simp))) cs t (frzAll_cells_tags ts (s := s.mapS (frzF u)) (cs := mapTs (frzF u) cs) (fun t h => h0 t (by simp [h])) (by simp [St.mapS, h, MB.mapM]) h1 t ht)).1
theorem tags_set_frz {s : St} {j t : Nat} {cs cs' : List AV} (hj : s.mem[j]? = some (.cells cs)) (ht : t ∈ s.tags) (hn : t ∉ tagsOfs cs) : t ∈ ({ s with mem := s.mem.set j (.frz cs') } : St).tags := by
  simp only [St.tags, List.mem_append, List.mem_flatMap] at ht ⊢
  rcases ht with ht | ⟨mb, hm, ht⟩
  · exact .inl ht
  · refine .inr ⟨mb, ?_, ht⟩
    obtain ⟨i, hi⟩ := List.mem_iff_getElem?.1 hm
    have hne : j ≠ i := fun e => by
      subst e
      rw [hj] at hi
      cases hi
      exact hn ht
    exact List.mem_iff_getElem?.2 ⟨i, by rw [List.getElem?_set_ne hne]; exact hi⟩

/-- What is captured, is stable. -/
theorem cap_out {base : Nat} (hbase : w0.heap.size = base) : ∀ {xs : List AV} {vals : List Value} {g : Gs} {st : St} {K : List AV → St → Prop}, Inv w0 g0 g l w st a → TReps g l w st.mem.length xs vals →
    (∀ t ∈ tagsOfs xs, t ≠ 0 ∧ OwnT base g l w t ∧ (t ∈ st.tags ∨ ∀ b, (l.xv t).ownBlock = some b → g.stb b)) → capAll st xs K →
    ∃ ys st' g', K ys st' ∧ Inv w0 g0 g' l w st' a ∧ ys.length = vals.length ∧ (∀ (i : Nat) (c : AV) (v : Value), ys[i]? = some c → vals[i]? = some v → Rep w g'.stb g'.ob c v) ∧ (∀ b, g.stb b → g'.stb b) ∧ g'.ob = g.ob
  | [], [], g, st, K, hI, _, _, h => ⟨[], st, g, h, hI, rfl, by simp, fun _ h => h, rfl⟩
  | x :: xs, v :: vals, g, st, K, hI, hr, ht, h => by
    simp only [TReps] at hr
    obtain ⟨hx, hr⟩ := hr
    -- the rest, in a state that has gone on
    have rest : ∀ {g1 : Gs} {st1 : St} {y : AV} {K' : List AV → St → Prop}, Inv w0 g0 g1 l w st1 a → st1.mem.length = st.mem.length → (∀ b, g.stb b → g1.stb b) → g1.ob = g.ob →
        (∀ t ∈ tagsOfs xs, t ∈ st1.tags ∨ ∀ b, (l.xv t).ownBlock = some b → g1.stb b) → Rep w g1.stb g1.ob y v → (∀ ys s, K' ys s → K (y :: ys) s) → capAll st1 xs K' →
        ∃ ys st' g', K ys st' ∧ Inv w0 g0 g' l w st' a ∧ ys.length = (v :: vals).length ∧ (∀ (i : Nat) (c : AV) (u : Value), ys[i]? = some c → (v :: vals)[i]? = some u → Rep w g'.stb g'.ob c u) ∧ (∀ b, g.stb b → g'.stb b) ∧ g'.ob = g.ob := by
      intro g1 st1 y K' hI1 hm1 hs1 ho1 ht1 hy hK hc
      obtain ⟨ys, st', g', k1, k2, k3, k4, k5, k6⟩ := cap_out hbase (g := g1) (st := st1) hI1 (by
          rw [hm1]
          exact TReps.mono (fun _ _ => rfl) hs1 (fun j b h => by rw [ho1]; exact h) (fun _ _ => rfl) (Nat.le_refl _) _ _ (fun _ _ => ⟨rfl, rfl, rfl⟩) hr)
        (fun t h => ⟨(ht t (by simp [tagsOfs, h])).1, OwnT.mono (g' := g1) (ht t (by simp [tagsOfs, h])).2.1 ⟨rfl, rfl, rfl⟩ (fun _ _ => rfl) (fun _ _ => rfl) hs1 (fun j b h => by rw [ho1]; exact h), ht1 t h⟩) hc
      refine ⟨y :: ys, st', g', hK _ _ k1, k2, by simp [k3], fun i c u hc hu => ?_, fun b hb => k5 b (hs1 b hb), k6.trans ho1⟩
      cases i with
      | zero => simp at hc hu; subst hc hu; exact hy.mono (fun _ _ => rfl) k5 (fun j b h => by rw [k6]; exact h)
      | succ i => exact k4 i c u (by simpa using hc) (by simpa using hu)
    have other : (∀ j o, x ≠ .ptr j o) → (let s' := st.frzAll (tagsOf x); capAll s' xs fun vs s => K (frzV x :: vs) s) →
        ∃ ys st' g', K ys st' ∧ Inv w0 g0 g' l w st' a ∧ ys.length = (v :: vals).length ∧ (∀ (i : Nat) (c : AV) (u : Value), ys[i]? = some c → (v :: vals)[i]? = some u → Rep w g'.stb g'.ob c u) ∧ (∀ b, g.stb b → g'.stb b) ∧ g'.ob = g.ob := by
      intro hne h
      simp only at h
      obtain ⟨g1, hI1, s1, n1, o1, f1, b1, c1⟩ := hI.frzAll (tagsOf x) (fun t h => (ht t (by simp [tagsOfs, h])).1)
      have hstb : ∀ t ∈ tagsOf x, ∀ b, (l.xv t).ownBlock = some b → g1.stb b := by
        intro t h b hb
        rcases (ht t (by simp [tagsOfs, h])).2.2 with hin | hs
        · exact b1 t h hin b hb
        · exact s1 b (hs b hb)
      refine rest hI1 (frzAll_memlen _ _) s1 o1 (fun t h => ?_) ?_ (fun _ _ h => h) h
      · rcases (ht t (by simp [tagsOfs, h])).2.2 with hin | hs
        · by_cases hx : t ∈ tagsOf x
          · exact .inr (hstb t hx)
          · exact .inl (frzAll_tags_of _ _ hx hin)
        · exact .inr fun b hb => s1 b (hs b hb)
      · rw [o1]
        exact lend_rep (base := base) s1 (S := tagsOf x) (fun t h => ⟨(ht t (by simp [tagsOfs, h])).2.1, hstb t h⟩) _ _ (fun t h => h) hx
    cases x
    case ptr j o =>
      simp only [capAll] at h
      simp only [TRep] at hx
      obtain ⟨hj, rfl⟩ := hx
      have hjm : st.mem[j]? = some (st.mem.getD j .dead) := by rw [List.getD_eq_getElem?_getD, List.getElem?_eq_getElem hj]; rfl
      cases hmb : st.mem.getD j .dead <;> rw [hmb] at h hjm <;> try exact h.elim
      case frz cs =>
        simp only at h
        obtain ⟨hst, vs, hc, h1, hR⟩ := hI.mem j _ hjm
        refine rest hI rfl (fun _ h => h) rfl (fun t h => (ht t (by simp [tagsOfs, h])).2.2) ?_ (fun _ _ h => h) h
        have := Rep.rp (w := w) (stb := g.stb) (ob := g.ob) (l.loc j) 0 o cs vs hst (fun i hi => by rw [Nat.zero_add]; exact hc i hi) h1 hR
        rwa [Nat.zero_add] at this
      case cells cs =>
        simp only at h
        obtain ⟨vs, e, hh, hR, h1⟩ := hI.mem j _ hjm
        have htc : ∀ t ∈ tagsOfs cs, t ∈ st.tags := fun t h => tags_mem hjm h
        obtain ⟨g1, hI1, s1, n1, o1, f1, b1, c1⟩ := hI.frzAll (tagsOfs cs) (fun t h => tags_pos hI t (htc t h))
        have hrep : ∀ (i : Nat) (c : AV) (u : Value), (frzVs cs)[i]? = some c → vs[i]? = some u → Rep w g1.stb g1.ob c u := by
          intro i c u hc hu
          unfold frzVs at hc
          rw [mapTs_get, Option.map_eq_some_iff] at hc
          obtain ⟨c0, hc0, rfl⟩ := hc
          rw [o1]
          exact lend_rep (base := w0.heap.size) s1 (S := tagsOfs cs) (fun t h => ⟨hI.own t (htc t h), b1 t h (htc t h)⟩) c0 u (fun t h => tagsOfs_get hc0 t h) (hR.of i c0 u hc0 hu)
        have hl : (frzVs cs).length = vs.length := by unfold frzVs; rw [mapTs_length, hR.length]
        have hj1 : j < (st.frzAll (tagsOfs cs)).mem.length := by rw [frzAll_memlen]; exact hj
        obtain ⟨cs1, hcs1⟩ : ∃ cs1, (st.frzAll (tagsOfs cs)).mem[j]? = some (.cells cs1) := frzAll_cells _ hjm
        have hI2 := hI1.frzBlock (cs' := frzVs cs) hcs1 hh h1 hl hrep
        refine rest hI2 (by simp [frzAll_memlen]) (fun b hb => .inl (s1 b hb)) o1 (fun t h => ?_) ?_ (fun _ _ h => h) h
        · rcases (ht t (by simp [tagsOfs, h])).2.2 with hin | hs
          · by_cases hx : t ∈ tagsOfs cs
            · exact .inr fun b hb => .inl (b1 t hx hin b hb)
            · refine (Classical.em (t ∈ ({ (st.frzAll (tagsOfs cs)) with mem := (st.frzAll (tagsOfs cs)).mem.set j (.frz (frzVs cs)) } : St).tags)).imp id fun hn => ?_
              exact absurd (tags_set_frz hcs1 (frzAll_tags_of _ _ hx hin) (fun h' => hx (frzAll_cells_tags _ (fun t h => tags_pos hI t (htc t h)) hjm hcs1 t h'))) hn
          · exact .inr fun b hb => .inl (s1 b (hs b hb))
        · have := Rep.rp (w := w) (stb := fun b => g1.stb b ∨ b = l.loc j) (ob := g1.ob) (l.loc j) 0 o (frzVs cs) (fun i => vs.getD i undef) (.inr rfl) (fun i hi => ?_) (fun i hi => ?_) (fun i c hc => ?_)
          · rwa [Nat.zero_add] at this
          · rw [Nat.zero_add, cell_of_row _ _ i vs.toArray e _ hh]
            show _ = some (vs.getD i undef)
            rw [List.getD_eq_getElem?_getD]
            simp [List.getElem?_eq_getElem (show i < vs.length by omega)]
          · show (vs.getD i undef).oneCell' = true
            rw [List.getD_eq_getElem?_getD, List.getElem?_eq_getElem (show i < vs.length by omega)]
            exact h1 _ (by simp)
          · have hql : i < vs.length := by have := (List.getElem?_eq_some_iff.1 hc).1; omega
            show Rep _ _ _ _ (vs.getD i undef)
            rw [List.getD_eq_getElem?_getD, List.getElem?_eq_getElem hql]
            exact (hrep i c _ hc (List.getElem?_eq_getElem hql)).mono (fun _ _ => rfl) (fun _ h => .inl h) (fun _ _ h => h)
    all_goals exact other (by simp) h
  | [], _ :: _, _, _, _, _, hr, _, _ => by simp [TReps] at hr
  | _ :: _, [], _, _, _, _, hr, _, _ => by simp [TReps] at hr

theorem makeFunc_sound (hI : Inv w0 g0 g l w st a) {f : Nat} {first cap : Array Operand} {K : St → Prop} (ho : o.op = .makeFunc (.func f) first cap) (hf : first.toList = [])
    (h : capAll st (cap.toList.map (ρ st.tm)) fun vs s' => K (s'.put o.dst (.fn f vs))) (hn : Goes w0 g0 K next) : o.wp P a w next Q := by
  have hr : TReps g l w st.mem.length (cap.toList.map (ρ st.tm)) (cap.map a.eval).toList := by
    refine .mk (by simp) fun i c v hc hv => ?_
    simp only [List.getElem?_map, Array.toList_map, Option.map_eq_some_iff] at hc hv
    obtain ⟨x, hx, rfl⟩ := hc
    obtain ⟨y, hy, rfl⟩ := hv
    rw [hx] at hy
    cases hy
    exact (hI.operand x).1
  obtain ⟨ys, st', g', k1, k2, k3, k4, _, _⟩ := cap_out rfl hI hr (fun t ht => by
    obtain ⟨i, c, hc, ht⟩ := tagsOfs_iff ht
    simp only [List.getElem?_map, Option.map_eq_some_iff] at hc
    obtain ⟨x, _, rfl⟩ := hc
    have hin := (hI.operand (a := a) x).2 t ht
    exact ⟨tags_pos hI t hin, hI.own t hin, .inl hin⟩) h
  have hrep : Rep w g'.stb g'.ob (.fn f ys) (.func (.func f) #[] (cap.map a.eval)) := by
    have := Rep.fn (w := w) (stb := g'.stb) (ob := g'.ob) f ys (cap.map a.eval).toList k3 k4
    rwa [Array.toArray_toList] at this
  refine wp_value (w' := w) (v := .func (.func f) #[] (cap.map a.eval)) ?_ (hn _ _ _ _ _ (k2.put (TRep.of_rep hrep) (by rw [hrep.tags]; simp) _) k1)
  unfold execOp
  rw [ho]
  refine exec_v ?_
  have : first = #[] := by rw [← Array.toArray_toList (xs := first), hf]
  rw [this]
  simp [Instr.makeFunc]
end
end Go.Proofs.Ytbkkhhmjmbbfpaa.Ab
