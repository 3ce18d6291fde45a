/- Calls that are handed the heap, and slices to turn. -/
import Derived.Test.YtbkkhhmjmbbfpaaAbCall
namespace Go.Proofs.Ytbkkhhmjmbbfpaa.Ab
open Go

mutual
theorem mapT_upd (t : Nat) (ys zs : List (List AV)) : ∀ a : AV, mapT (updF t zs) (mapT (updF t ys) a) = mapT (updF t zs) a
  | .agg cs => by simp only [mapT]; rw [mapTs_upd t ys zs cs]
  | .tup cs => by simp only [mapT]; rw [mapTs_upd t ys zs cs]
  | .iface _ v => by simp only [mapT]; rw [mapT_upd t ys zs v]
  | .sl t' k xs => by simp only [mapT, updF]; cases h : Nat.beq t' t <;> simp only [cond_true, cond_false, mapT, updF, h]
  | .ep t' k i o xs => by simp only [mapT, updF]; cases h : Nat.beq t' t <;> simp only [cond_true, cond_false, mapT, updF, h]
  | .any => rfl
  | .int _ _ => rfl
  | .bool _ => rfl
  | .str _ => rfl
  | .nilp => rfl
  | .ptr _ _ => rfl
  | .rp _ _ => rfl
  | .nilsl => rfl
  | .fn _ _ => rfl
  | .nilfn => rfl
  | .niliface => rfl
  | .obj _ _ => rfl
  | .map _ => rfl
  | .nilmap => rfl
  | .hs _ _ _ _ _ => rfl
  | .he _ _ _ _ => rfl
theorem mapTs_upd (t : Nat) (ys zs : List (List AV)) : ∀ cs : List AV, mapTs (updF t zs) (mapTs (updF t ys) cs) = mapTs (updF t zs) cs
  | [] => rfl
  | c :: cs => by simp only [mapTs]; rw [mapT_upd t ys zs c, mapTs_upd t ys zs cs]
end
theorem mapS_upd (t : Nat) (ys zs : List (List AV)) (s : St) : (s.mapS (updF t ys)).mapS (updF t zs) = s.mapS (updF t zs) := by
  simp only [St.mapS, List.map_map, mapTs_upd]
  congr 1
  apply List.map_congr_left
  intro mb _
  cases mb <;> simp [MB.mapM, mapTs_upd]
theorem updF_tags_of {t u : Nat} {ys : List (List AV)} : ∀ c, leaf c = true → u ∈ tagsOf c → u ∈ tagsOf (updF t ys c) := by
  intro c hc h
  cases c <;> try exact h
  case sl t' k xs =>
    simp only [updF]
    cases Nat.beq t' t <;> exact h
  case ep t' k i o xs =>
    simp only [updF]
    cases Nat.beq t' t <;> exact h

section
variable {P : Program} {T : List TI} {w0 : World} {g0 g : Gs} {l : Gl} {w w' : World} {st : St} {a : Act}

/-- A block of the heap is given up. -/
def Gs.drop (g : Gs) (H : Heap) (j : Nat) : Gs := { g with foot := fun q => g.foot q ∧ ¬ (H.get j ≠ .dead ∧ g.ob j = some q) }
theorem HOK.drop {H : Heap} (h : HOK g w H) (j : Nat) : HOK (g.drop H j) w (H.set j .dead) where
  lt := h.lt
  top i hi := by
    by_cases e : i = j
    · subst e; rw [set_get_self]
    · rw [set_get_ne _ _ e]; exact h.top i hi
  live i hi := by
    have e : i ≠ j := by rintro rfl; rw [set_get_self] at hi; exact hi rfl
    rw [set_get_ne _ _ e] at hi ⊢
    obtain ⟨b, h1, h2, h3, h4⟩ := h.live i hi
    exact ⟨b, h1, ⟨h2, fun hd => e (h.inj i j b hi hd.1 h1 hd.2)⟩, h3, h4.mono rfl (fun _ _ => rfl) (fun _ h => h) (fun _ _ h => h)⟩
  inj i q b hi hq h1 h2 := by
    have e : i ≠ j := by rintro rfl; rw [set_get_self] at hi; exact hi rfl
    have e' : q ≠ j := by rintro rfl; rw [set_get_self] at hq; exact hq rfl
    rw [set_get_ne _ _ e] at hi
    rw [set_get_ne _ _ e'] at hq
    exact h.inj i q b hi hq h1 h2
  foot b hb := by
    obtain ⟨i, h1, h2⟩ := h.foot b hb.1
    have e : i ≠ j := by rintro rfl; exact hb.2 ⟨h1, h2⟩
    exact ⟨i, by rw [set_get_ne _ _ e]; exact h1, h2⟩
  fx := h.fx

/-- What is handed to a call, behind the freezing. -/
theorem lent_rest (hI : Inv w0 g0 g l w st a) {args : List AV} {vals : List Value} (hr : TReps g l w st.mem.length args vals) (ht : ∀ t ∈ tagsOfs args, t ∈ st.tags) :
    ∃ g1, Inv w0 g0 g1 l w (st.frzAll (tagsOfs args)) a ∧ (∀ b, g.stb b → g1.stb b) ∧ g1.ob = g.ob ∧ (frzVs args).length = vals.length ∧ ∀ (i : Nat) (c : AV) (v : Value), (frzVs args)[i]? = some c → vals[i]? = some v → Rep w g1.stb g1.ob c v := by
  obtain ⟨g1, hI1, s1, n1, o1, f1, b1, c1⟩ := hI.frzAll (tagsOfs args) (fun t h => tags_pos hI t (ht t h))
  refine ⟨g1, hI1, s1, o1, by unfold frzVs; rw [mapTs_length, hr.length], fun i c v hc hv => ?_⟩
  unfold frzVs at hc
  rw [mapTs_get, Option.map_eq_some_iff] at hc
  obtain ⟨c0, hc0, rfl⟩ := hc
  rw [o1]
  exact lend_rep (base := w0.heap.size) s1 (S := tagsOfs args) (fun t h => ⟨hI.own t (ht t h), b1 t h (ht t h)⟩) c0 v (fun t h => tagsOfs_get hc0 t h) (hr.of i c0 v hc0 hv)

/-- A call that is handed the heap. -/
theorem callImp_sound {E : Env} {R : Oracle} (hR : OSound P E R) (hI : Inv w0 g0 g l w st a) {f type s0 : Nat} {args : List AV} {vals : List Value} {K : AV → St → Prop}
    (hr : TReps g l w st.mem.length args vals) (ht : ∀ t ∈ tagsOfs args, t ∈ st.tags) (h0 : s0 = (st.frzAll (tagsOfs args)).fresh ∨ E.own f = false)
    (h : R f (frzVs args) st.H fun v H => normRes E.T (E.own f) s0 type v fun v => K v { st.frzAll (tagsOfs args) with H := H }) : CallOk P w0 g0 a w f vals K := by
  obtain ⟨g1, hI1, s1, o1, hlen, hlend⟩ := lent_rest hI hr ht
  have hH : (st.frzAll (tagsOfs args)).H = st.H := frzAll_H _ _
  obtain ⟨hen, hcall⟩ := hR f _ _ _ h
  have hst : Start g1 w st.H (frzVs args) vals := ⟨by have := hI1.heap; rwa [hH] at this, hI1.stbLt, hlen, hlend⟩
  refine ⟨hen, (hcall w _ vals hst).mono fun e w' ⟨r, v, H', g', l', he, hF⟩ => ?_⟩
  have hI2 := hI1.afterCall hF.ext hF.heap hF.stbLt
  have hres := hF.res
  unfold ResOk at hres
  have hpost := hF.post
  cases hown : E.own f <;> rw [hown] at hres hpost h0 <;> simp only [cond_false, cond_true] at hres
  · obtain ⟨y, hK, hy⟩ := normRes_rep hpost hres
    exact ⟨r, y, _, _, l, he, hK, fun d => hI2.put (TRep.of_rep hy) (by rw [hy.tags]; simp) d⟩
  · obtain rfl : s0 = (st.frzAll (tagsOfs args)).fresh := by simpa using h0
    obtain ⟨h1, h2, h3, h4⟩ := hres
    obtain ⟨s', y, l2, hK, hN, hy, hyt⟩ := normRes_own (g := g') (n := (st.frzAll (tagsOfs args)).mem.length) (base := w.heap.size) (l := l) (All := tagsOf v) h3 (fresh_pos _) hpost h1 h4 (fun t ht => ⟨(h2 t ht).2.1, ht⟩)
    exact own_result hI.ext.size hI1 hI2 rfl rfl hN hy hyt (fun t ht => (h2 t ht).2) he hK

/-- A call that hands back a slice of the heap. -/
theorem callHs_sound {E : Env} {R : Oracle} (hR : OSound P E R) (hI : Inv w0 g0 g l w st a) {f : Nat} {args : List AV} {vals : List Value} {K : AV → St → Prop}
    (hr : TReps g l w st.mem.length args vals) (ht : ∀ t ∈ tagsOfs args, t ∈ st.tags) (hown : E.own f = true) {q : Option (Option Nat)}
    (h : R f (frzVs args) st.H fun v H => hsK q v fun v => K v { st.frzAll (tagsOfs args) with H := H }) : CallOk P w0 g0 a w f vals K := by
  obtain ⟨g1, hI1, s1, o1, hlen, hlend⟩ := lent_rest hI hr ht
  have hH : (st.frzAll (tagsOfs args)).H = st.H := frzAll_H _ _
  obtain ⟨hen, hcall⟩ := hR f _ _ _ h
  have hst : Start g1 w st.H (frzVs args) vals := ⟨by have := hI1.heap; rwa [hH] at this, hI1.stbLt, hlen, hlend⟩
  refine ⟨hen, (hcall w _ vals hst).mono fun e w' ⟨r, v, H', g', l', he, hF⟩ => ?_⟩
  have hI2 := hI1.afterCall hF.ext hF.heap hF.stbLt
  have hres := hF.res
  unfold ResOk at hres
  have hpost := hF.post
  rw [hown] at hres
  simp only [cond_true] at hres
  have h1 := hres.1
  unfold hsK at hpost
  split at hpost
  · obtain ⟨hv, hK⟩ := G_out hpost
    cases v <;> simp only [AV.isHs, Bool.false_eq_true] at hv
    have := Nat.eq_of_beq_eq_true hv
    subst this
    simp only [AV.hsJ, AV.hsO, AV.hsN, AV.hsC] at hK
    exact ⟨r, _, _, _, l, he, hK, fun d => hI2.put (by simpa only [TRep] using h1) (by simp [tagsOf]) d⟩
  · obtain ⟨hv, hK⟩ := G_out hpost
    cases v <;> simp only [AV.isNilsl, Bool.false_eq_true] at hv
    exact ⟨r, _, _, _, l, he, hK, fun d => hI2.put (by simpa only [TRep] using h1) (by simp [tagsOf]) d⟩
  · exact hpost.elim

/-- A block of rows, told as a slice of a frame's own. -/
theorem ownT_of_rows {base b k n c : Nat} {ys : List (List AV)} (hR : HRep g w b (.rows k ys)) (hb : base ≤ b) (hn : n ≤ c) (hc : ys.length = c) (l : Gl) (t : Nat) : OwnT base g (l.own t (.slice (some ⟨b, 0, none⟩) n c) k (ys.take n)) w t := by
  obtain ⟨vs, e, h1, h2, hk, hm, h5, h6, h7⟩ := hR
  have hR : Rows w g.stb g.ob k ys vs := ⟨h2, h5, h6, h7⟩
  have hT := hR.take n
  have hv : (l.own t (.slice (some ⟨b, 0, none⟩) n c) k (ys.take n)).xv t = .slice (some ⟨b, 0, none⟩) n c := by simp [Gl.own]
  have hk' : (l.own t (.slice (some ⟨b, 0, none⟩) n c) k (ys.take n)).xk t = k := by simp [Gl.own]
  have hx : (l.own t (.slice (some ⟨b, 0, none⟩) n c) k (ys.take n)).xc t = ys.take n := by simp [Gl.own]
  have hl : (ys.take n).length = n := by simp; omega
  unfold OwnT
  rw [hv, hk', hx]
  refine ⟨e, vs.take (n * k), ⟨by rw [hT.len], .inr ⟨b, c, vs.toArray, by rw [hl], hb, h1, by omega, by omega, by simp [h2, hc], by rw [hl]⟩⟩, ⟨hk, fun b' cs e' fr hb' hh u hu => ?_⟩, hT.row, hT.one, hT.rep⟩
  simp only [Value.ownBlock, Option.some.injEq] at hb'
  subst hb'
  rw [h1] at hh
  cases hh
  exact h6 u hu

/-- One of the frame's own slices is told as a block of the heap. -/
theorem promote (hI : Inv w0 g0 g l w st a) {t k b n c : Nat} {xs : List (List AV)} (hin : t ∈ st.tags) (hv : l.xv t = .slice (some ⟨b, 0, none⟩) n c) (hk : l.xk t = k) (hx : l.xc t = xs) :
    w0.heap.size ≤ b ∧ b < w.heap.size ∧ n = xs.length ∧ n ≤ c ∧ c ≤ maxLen ∧ 0 < k ∧ HOK (g.push st.H.next b) w (st.H.push (.rows k (pad k c xs))) ∧ (∀ q, (g.push st.H.next b).stb q → q < w.heap.size ∧ ¬ (g.push st.H.next b).foot q) := by
  obtain ⟨e, fl, hown, hone, hrow, h1, hrep⟩ := hI.own t hin
  rw [hk, hx] at hown hrep
  rw [hx] at hrow
  rw [hk] at hrow hone
  rw [hv] at hown hone
  obtain ⟨hfl, hown⟩ := hown
  rcases hown with ⟨hn, _⟩ | ⟨q, cap, cur, hvq, hbb, hh, hnc, hcm, hcs, htk⟩
  · cases hn
  · simp only [Value.slice.injEq, Option.some.injEq, Addr.mk.injEq, and_true] at hvq
    obtain ⟨rfl, rfl, rfl⟩ := hvq
    have hlt : b < w.heap.size := by
      rcases Nat.lt_or_ge b w.heap.size with h | h
      · exact h
      · rw [Array.getElem?_eq_none h] at hh; cases hh
    have hpriv := hI.ownPriv t hin b (by rw [hv]; rfl)
    have hall : ∀ u ∈ cur.toList, u.oneCell' = true := hone.2 b cur e _ rfl hh
    have hmul : xs.length * k ≤ c * k := Nat.mul_le_mul_right _ hnc
    have hR : Rows w g.stb g.ob k (pad k c xs) cur.toList := by
      have h2 : Rows w g.stb g.ob k xs fl := ⟨hfl, hrow, h1, hrep⟩
      have h3 := rows_any (k := k) (r := c - xs.length) (us := cur.toList.drop (xs.length * k)) (by simp [hcs, Nat.sub_mul]) (fun u hu => hall u (List.mem_of_mem_drop hu)) w g.stb g.ob
      have h4 := h2.append h3
      rw [← htk, List.take_append_drop] at h4
      exact h4
    refine ⟨hbb, hlt, rfl, hnc, hcm, hone.1, ?_, fun q hq => ⟨(hI.stbLt q hq).1, fun hf => ?_⟩⟩
    · refine hI.heap.push (.inr ⟨hlt, hpriv.2.1⟩) hlt (Nat.le_refl _) (fun _ _ => rfl) (fun q hq => (hI.stbLt q hq).1) (by simp) ?_
      exact hrep_rows (e := e) (vs := cur.toList) hh hone.1 (by simp [pad]; omega) (hR.mono (fun _ _ => rfl) (fun _ h => h) (push_ob hI.heap))
    · rcases hf with hf | rfl
      · exact (hI.stbLt q hq).2 hf
      · exact hpriv.1 hq
theorem own_cases (hI : Inv w0 g0 g l w st a) {t : Nat} (hin : t ∈ st.tags) : (l.xv t = .slice none 0 0 ∧ l.xc t = []) ∨ ∃ b c, l.xv t = .slice (some ⟨b, 0, none⟩) (l.xc t).length c := by
  obtain ⟨e, fl, hown, _⟩ := hI.own t hin
  rcases hown.2 with ⟨h1, h2⟩ | ⟨q, cap, cur, hv, _⟩
  · exact .inl ⟨h1, List.eq_nil_of_length_eq_zero h2⟩
  · exact .inr ⟨q, cap, hv⟩
theorem start_promote (hI : Inv w0 g0 g l w st a) {t k b n c : Nat} {xs : List (List AV)} (hin : t ∈ st.tags) (hv : l.xv t = .slice (some ⟨b, 0, none⟩) n c) (hk : l.xk t = k) (hx : l.xc t = xs) {rest : List AV} {vals : List Value} (hlen : rest.length = vals.length)
    (hr : ∀ (i : Nat) (q : AV) (v : Value), rest[i]? = some q → vals[i]? = some v → Rep w g.stb g.ob q v) : Start (g.push st.H.next b) w (st.H.push (.rows k (pad k c xs))) (.hs st.H.next 0 xs.length c k :: rest) (l.xv t :: vals) := by
  obtain ⟨p1, p2, p3, p4, p5, p6, p7, p8⟩ := promote hI hin hv hk hx
  refine ⟨p7, p8, by simp [hlen], fun i q v hq hv' => ?_⟩
  cases i with
  | zero =>
    simp only [List.getElem?_cons_zero, Option.some.injEq] at hq hv'
    subst hq hv'
    rw [hv, p3]
    exact .hs _ b 0 _ c k 0 (by simp [Gs.push]) (by omega) p5 (.inr (by omega))
  | succ i => exact (hr i q v (by simpa using hq) (by simpa using hv')).mono (fun _ _ => rfl) (fun _ h => h) (push_ob hI.heap)

theorem heap_lt {b : Nat} {o : Go.Obj} (h : w.heap[b]? = some o) : b < w.heap.size := by
  rcases Nat.lt_or_ge b w.heap.size with h' | h'
  · exact h'
  · rw [Array.getElem?_eq_none h'] at h; cases h

/-- A call that turns the slice that it is handed. -/
theorem turn_sound {E : Env} {R : Oracle} (hR : OSound P E R) (hI : Inv w0 g0 g l w st a) {f t k : Nat} {xs : List (List AV)} (hin : t ∈ st.tags) (hk : l.xk t = k) (hx : l.xc t = xs) {rest : List AV} {vals : List Value} (hlen : rest.length = vals.length)
    (hr : ∀ (i : Nat) (q : AV) (v : Value), rest[i]? = some q → vals[i]? = some v → Rep w g.stb g.ob q v) (hown : E.own f = false) {K : List (List AV) → Heap → Prop} (h : ioTurn R f k xs rest st.H K) :
    Enters P f ∧ Calls P f (l.xv t :: vals).toArray w fun e w' => ∃ ys H' g' l', e = .returned (.tuple #[]) ∧ K ys H' ∧ Inv w0 g0 g' l' w' { st.mapS (updF t ys) with H := H' } a := by
  have tup0 : ∀ {w : World} {stb : Nat → Prop} {ob : Nat → Option Nat} {r : Value}, Rep w stb ob (.tup []) r → r = .tuple #[] := by
    intro w stb ob r hr
    cases hr with
    | tup _ vs hl _ =>
      have : vs = [] := List.eq_nil_of_length_eq_zero (by simpa using hl.symm)
      subst this
      rfl
  rcases own_cases hI hin with ⟨hv, hnil⟩ | ⟨b, c, hv⟩
  · -- the nil slice
    obtain rfl : xs = [] := hx.symm.trans hnil
    obtain ⟨hen, hcall⟩ := hR f _ _ _ (h.2 rfl)
    have hst : Start g w st.H (.nilsl :: rest) (l.xv t :: vals) := by
      refine ⟨hI.heap, hI.stbLt, by simp [hlen], fun i q v hq hv' => ?_⟩
      cases i with
      | zero =>
        simp only [List.getElem?_cons_zero, Option.some.injEq] at hq hv'
        subst hq hv'
        rw [hv]
        exact .nilsl
      | succ i => exact hr i q v (by simpa using hq) (by simpa using hv')
    refine ⟨hen, (hcall w _ _ hst).mono fun e w' ⟨r, v, H', g', l', he, hF⟩ => ?_⟩
    have hI2 := hI.afterCall hF.ext hF.heap hF.stbLt
    obtain ⟨rfl, hK⟩ := hF.post
    have hres := hF.res
    unfold ResOk at hres
    rw [hown] at hres
    simp only [cond_false] at hres
    obtain rfl := tup0 hres
    exact ⟨[], H', g', _, he, hK, hI2.upd (t := t) hin (ys := []) (by rw [hx]) rfl rfl rfl rfl (fun _ _ => rfl) ((hI2.own t hin).at (by simp [Gl.own, hx]))⟩
  · rw [hx] at hv
    obtain ⟨p1, p2, p3, p4, p5, p6, p7, p8⟩ := promote hI hin hv hk hx
    obtain ⟨hen, hcall⟩ := hR f _ _ _ (h.1 c p4 fun _ => p5)
    refine ⟨hen, (hcall w _ _ (start_promote hI hin hv hk hx hlen hr)).mono fun e w' ⟨r, v, H', g', l', he, hF⟩ => ?_⟩
    obtain ⟨rfl, hsame, ys, hys, hyl, hK⟩ := hF.post
    have hres := hF.res
    unfold ResOk at hres
    rw [hown] at hres
    simp only [cond_false] at hres
    obtain rfl := tup0 hres
    rw [hI.heap.top st.H.next (Nat.le_refl _)] at hK
    have hob : g'.ob st.H.next = some b := hF.ext.ob _ _ (by simp [Gs.push])
    have hlive : H'.get st.H.next ≠ .dead := by rw [hys]; simp
    obtain ⟨b', q1, q2, q3, q4⟩ := hF.heap.live _ hlive
    rw [hob] at q1
    cases q1
    rw [hys] at q4
    have hpriv := hI.ownPriv t hin b (by rw [hv]; rfl)
    have hbl : (l.xv t).ownBlock = some b := by rw [hv]; rfl
    -- the block is turned, to what nobody knows
    obtain ⟨vs, e', hb', hlv, _, hm', hrow', hone', hrep'⟩ := id q4
    let w1 : World := { w with heap := w.heap.setIfInBounds b (.cells vs.toArray e' (0, 0)) }
    have hw1b : w1.heap[b]? = w'.heap[b]? := by rw [hb']; simp [w1, p2]
    have hw1o : ∀ q, q ≠ b → w1.heap[q]? = w.heap[q]? := fun q hq => by simp [w1, Ne.symm hq]
    have hany : HRep g w1 b (.rows k (List.replicate c (List.replicate k .any))) := by
      refine hrep_rows (e := e') (vs := vs) (hw1b.trans hb') p6 (by simpa using p5) (rows_any (by rw [hlv, hyl]) hone' _ _ _)
    have hI1 := hI.upd (w' := w1) hin (ys := (List.replicate c (List.replicate k .any)).take xs.length) (by rw [hx]; simp; omega) rfl rfl rfl (by simp [w1]) (fun q hq => hw1o q fun e => hq (e ▸ hbl))
      (by rw [hv, hk]; exact ownT_of_rows hany p1 (by omega) (by simp) l t)
    -- the world goes on
    have hbase : ∀ q, q < w0.heap.size → q ≠ b := fun q hq => by omega
    have hI2 := hI1.step (w' := w') (g' := g'.drop H' st.H.next) (H' := H'.set st.H.next .dead) hF.ext.os hF.ext.tape hF.ext.output (by have := hF.ext.size; simpa [w1] using this) (fun q hq hl => by
        have hq' : q < w.heap.size := by simpa [w1] using hq
        by_cases e : q = b
        · subst e; exact hw1b.symm
        · rw [hw1o q e]
          refine hF.ext.keep q hq' fun hf => ?_
          rcases hf with hf | hf
          · exact (hl.elim (leans_foot hI1) fun h => h.2) hf
          · exact e hf) (fun q hq => hF.ext.stb q hq) (fun q hq => by
        rcases hF.ext.stbNew q hq with h1 | h1 | h1 | h1
        · exact .inl h1
        · exact .inr (.inl (by simpa [w1] using h1))
        · exact .inr (.inr h1)
        · exact absurd q2 (h1 ▸ (hF.stbLt q hq).2)) (fun j q hq => hF.ext.ob j q (push_ob hI.heap j q hq)) (fun q hq => by
        rcases hF.ext.footNew q hq.1 with (h1 | h1) | h1
        · exact .inl h1
        · exact absurd ⟨hlive, h1 ▸ hob⟩ hq.2
        · exact .inr (by simpa [w1] using h1)) (fun q hq => ⟨(hF.stbLt q hq).1, fun hf => (hF.stbLt q hq).2 hf.1⟩) (hF.heap.drop _)
    -- what it holds now
    have hin2 : t ∈ ({ st.mapS (updF t ((List.replicate c (List.replicate k .any)).take xs.length)) with H := H'.set st.H.next .dead } : St).tags := tags_mapS_of updF_tags_of st hin
    have hI3 := hI2.upd (w' := w') hin2 (ys := ys.take xs.length) (by simp [Gl.own]; omega) rfl rfl rfl rfl (fun _ _ => rfl) (by
      have hxv : (l.own t (l.xv t) (l.xk t) ((List.replicate c (List.replicate k .any)).take xs.length)).xv t = .slice (some ⟨b, 0, none⟩) xs.length c := by simp [Gl.own, hv]
      have hxk : (l.own t (l.xv t) (l.xk t) ((List.replicate c (List.replicate k .any)).take xs.length)).xk t = k := by simp [Gl.own, hk]
      rw [hxv, hxk]
      exact ownT_of_rows (g := g'.drop H' st.H.next) q4 p1 (by omega) hyl _ t)
    have hst : ({ st.mapS (updF t ((List.replicate c (List.replicate k .any)).take xs.length)) with H := H'.set st.H.next .dead } : St).mapS (updF t (ys.take xs.length)) = { st.mapS (updF t (ys.take xs.length)) with H := H'.set st.H.next .dead } := by
      have := mapS_upd t ((List.replicate c (List.replicate k .any)).take xs.length) (ys.take xs.length) st
      simp only [St.mapS, St.mk.injEq] at this ⊢
      exact ⟨this.1, this.2.1, trivial⟩
    rw [hst] at hI3
    exact ⟨ys.take xs.length, H'.set st.H.next .dead, _, _, he, hK, hI3⟩

theorem Inv.loc_lt (hI : Inv w0 g0 g l w st a) {j : Nat} (hj : j < st.mem.length) : l.loc j < w.heap.size := by
  obtain ⟨mb, hmb⟩ : ∃ mb, st.mem[j]? = some mb := ⟨_, List.getElem?_eq_getElem hj⟩
  cases hmine : mb.mine with
  | true => exact (hI.priv j mb hmb hmine).2.1
  | false =>
    cases mb with
    | frz cs => exact (hI.stbLt _ (hI.mem j _ hmb).1).1
    | dead => exact (hI.mem j _ hmb).elim
    | cells cs => simp [MB.mine] at hmine
    | siter s p => simp [MB.mine] at hmine
    | miter _ _ _ _ _ _ => simp [MB.mine] at hmine

/-- What is handed back by a call becomes the frame's own. -/
theorem ret_sound (hI : Inv w0 g0 g l w st a) {gp g' : Gs} {B : Nat → Prop} {l' : Gl} {H' : Heap} {k : Nat} {v : AV} {r : Value} {K : List (List AV) → Heap → Prop}
    (hgs : ∀ q, gp.stb q ↔ g.stb q) (hob : ∀ j b, g.ob j = some b → gp.ob j = some b) (hfp : ∀ q, gp.foot q → g.foot q ∨ B q)
    (hB : ∀ q, B q → w0.heap.size ≤ q ∧ q < w.heap.size ∧ ¬ Leans g l st q ∧ (∀ j, j < st.mem.length → l.loc j ≠ q) ∧ gp.ob st.H.next = some q ∧ H'.get st.H.next ≠ .dead)
    (hext : Ext w gp w' g') (hheap : HOK g' w' H') (hlt : ∀ q, g'.stb q → q < w'.heap.size ∧ ¬ g'.foot q) (hsame : st.H.Same H') (hres : ResOk true w.heap.size g' l' w' v r) (h : ioRet k st.H H' v K) :
    ∃ ys H'' g'' l2, K ys H'' ∧ ∀ d, Inv w0 g0 g'' l2 w' ({ st with H := H'' }.put d (.sl st.fresh k ys)) (a.put d r) := by
  have hBf : ∀ q, B q → g'.foot q ∧ g'.ob st.H.next = some q := fun q hq => by
    obtain ⟨p1, p2, p3, p4, p5, p6⟩ := hB q hq
    obtain ⟨b', q1, q2, _⟩ := hheap.live _ p6
    have := hext.ob _ _ p5
    rw [this] at q1
    cases q1
    exact ⟨q2, this⟩
  have goOn : ∀ {gf : Gs} {H'' : Heap}, gf.stb = g'.stb → gf.ob = g'.ob → (∀ q, gf.foot q → g'.foot q) → (∀ q, B q → ¬ gf.foot q) → HOK gf w' H'' → Inv w0 g0 gf l w' { st with H := H'' } a := by
    intro gf H'' e1 e2 e3 e4 hH
    refine hI.step (g' := gf) hext.os hext.tape hext.output hext.size (fun q hq hl => hext.keep q hq fun hf => ?_) (fun q hq => by rw [e1]; exact hext.stb q ((hgs q).2 hq)) (fun q hq => ?_) (fun j q hq => by rw [e2]; exact hext.ob j q (hob j q hq)) (fun q hq => ?_) (fun q hq => ?_) hH
    · rcases hfp q hf with hf | hf
      · exact (hl.elim (leans_foot hI) fun h => h.2) hf
      · obtain ⟨p1, _, p3, _⟩ := hB q hf
        rcases hl with hl | hl
        · exact p3 hl
        · omega
    · rw [e1] at hq
      rcases hext.stbNew q hq with h1 | h1 | h1
      · exact .inl ((hgs q).1 h1)
      · exact .inr (.inl h1)
      · rcases hfp q h1 with h1 | h1
        · exact .inr (.inr h1)
        · exact absurd (hBf q h1).1 (hlt q hq).2
    · rcases hext.footNew q (e3 q hq) with h1 | h1
      · rcases hfp q h1 with h1 | h1
        · exact .inl h1
        · exact absurd hq (e4 q h1)
      · exact .inr h1
    · rw [e1] at hq
      exact ⟨(hlt q hq).1, fun hf => (hlt q hq).2 (e3 q hf)⟩
  have htop : st.H.get st.H.next = .dead := hI.heap.top _ (Nat.le_refl _)
  have hfr : ∀ H'' : Heap, st.fresh ∉ ({ st with H := H'' } : St).tags := fun H'' => by
    have := fresh_not st 0
    rwa [Nat.add_zero] at this
  have hnew : ∀ q, B q ∨ w.heap.size ≤ q → w0.heap.size ≤ q ∧ (∀ j, j < st.mem.length → l.loc j ≠ q) ∧ ∀ u ∈ st.tags, (l.xv u).ownBlock ≠ some q := fun q hq => by
    rcases hq with hq | hq
    · obtain ⟨p1, p2, p3, p4, _⟩ := hB q hq
      exact ⟨p1, p4, fun u hu he => p3 (.inr (.inr ⟨u, hu, he⟩))⟩
    · refine ⟨Nat.le_trans hI.ext.size hq, fun j hj he => ?_, fun u hu he => ?_⟩
      · have := hI.loc_lt hj; omega
      · obtain ⟨e, fl, hown, _⟩ := hI.own u hu
        have := (hown.lt _ he).2
        omega
  obtain ⟨h1, h2, h3, h4⟩ := hres
  rcases h with ⟨j, n, c, ys, rfl, hj, hget, hyl, hn, hK⟩ | ⟨t, ys, rfl, hK⟩
  · rw [hI.heap.top j hj, htop] at hK
    simp only [TRep] at h1
    cases h1 with
    | hs _ b2 _ _ _ _ q ho _ hm hq =>
      obtain rfl : q = 0 := by rcases hq with hq | hq <;> omega
      have hlive : H'.get j ≠ .dead := by rw [hget]; simp
      obtain ⟨b', q1, q2, q3, q4⟩ := hheap.live j hlive
      rw [ho] at q1
      cases q1
      rw [hget] at q4
      have hbn : B b2 ∨ w.heap.size ≤ b2 := by
        rcases hext.footNew b2 q2 with h1 | h1
        · rcases hfp b2 h1 with h1 | h1
          · exfalso
            obtain ⟨i, k1, k2⟩ := hI.heap.foot b2 h1
            have hi := hI.heap.lt i b2 k2
            have := hsame i hi
            have := hheap.inj i j b2 (by rw [this]; exact k1) hlive (hext.ob i b2 (hob i b2 k2)) ho
            omega
          · exact .inl h1
        · exact .inr h1
      obtain ⟨n1, n2, n3⟩ := hnew b2 hbn
      have hI2 := goOn (gf := (g'.drop H' j).drop (H'.set j .dead) st.H.next) rfl rfl (fun q hq => hq.1.1) (fun q hq hf => by
        by_cases e : st.H.next = j
        · exact hf.1.2 ⟨hlive, by rw [← e]; exact (hBf q hq).2⟩
        · exact hf.2 ⟨by rw [set_get_ne _ _ e]; exact (hB q hq).2.2.2.2.2, (hBf q hq).2⟩) ((hheap.drop j).drop st.H.next)
      refine ⟨ys.take n, _, _, _, hK, fun d => hI2.newTag (by have := fresh_pos st; omega) (hfr _) (ownT_of_rows (g := (g'.drop H' j).drop (H'.set j .dead) st.H.next) q4 n1 hn hyl l st.fresh) (fun b hb => ?_) d⟩
      simp only [Value.ownBlock, Option.some.injEq] at hb
      subst hb
      exact ⟨fun hs => (hlt _ hs).2 q2, n2, n3, fun hf => hf.1.2 ⟨hlive, ho⟩⟩
  · rw [htop] at hK
    simp only [TRep] at h1
    obtain ⟨rfl, rfl, rfl⟩ := h1
    obtain ⟨k1, k2, k3⟩ := h2 (t + 1) (by simp [tagsOf, Nat.beq])
    have hI2 := goOn (gf := g'.drop H' st.H.next) rfl rfl (fun q hq => hq.1) (fun q hq hf => hf.2 ⟨(hB q hq).2.2.2.2.2, (hBf q hq).2⟩) (hheap.drop st.H.next)
    refine ⟨l'.xc (t + 1), _, _, _, hK, fun d => hI2.newTag (by have := fresh_pos st; omega) (hfr _) ?_ (fun b hb => ?_) d⟩
    · have : OwnT w0.heap.size (g'.drop H' st.H.next) l' w' (t + 1) := k2.base_le hI.ext.size
      exact this.at (by simp [Gl.own])
    · have hge : w.heap.size ≤ b := by obtain ⟨e, fl, hown, _⟩ := k2; exact (hown.lt b hb).1
      obtain ⟨n1, n2, n3⟩ := hnew b (.inr hge)
      exact ⟨(k3 b hb).1, n2, n3, fun hf => (k3 b hb).2 hf.1⟩

/-- A call that hands back what became of the slice that it was handed. -/
theorem back_sound {E : Env} {R : Oracle} (hR : OSound P E R) (hI : Inv w0 g0 g l w st a) {f t k : Nat} {xs : List (List AV)} (hin : t ∈ st.tags) (hk : l.xk t = k) (hx : l.xc t = xs) {rest : List AV} {vals : List Value} (hlen : rest.length = vals.length)
    (hr : ∀ (i : Nat) (q : AV) (v : Value), rest[i]? = some q → vals[i]? = some v → Rep w g.stb g.ob q v) (hown : E.own f = true) {K : List (List AV) → Heap → Prop} (h : ioBack R f k xs rest st.H K) :
    Enters P f ∧ Calls P f (l.xv t :: vals).toArray w fun e w' => ∃ r ys H' g' l', e = .returned r ∧ K ys H' ∧ ∀ d, Inv w0 g0 g' l' w' ({ st.mapS (killF t) with H := H' }.put d (.sl (st.mapS (killF t)).fresh k ys)) (a.put d r) := by
  have hIk := hI.kill t
  have htg := tags_mapS (killF_tags t) st
  rcases own_cases hI hin with ⟨hv, hnil⟩ | ⟨b, c, hv⟩
  · obtain rfl : xs = [] := hx.symm.trans hnil
    obtain ⟨hen, hcall⟩ := hR f _ _ _ (h.2 rfl)
    have hst : Start g w st.H (.nilsl :: rest) (l.xv t :: vals) := by
      refine ⟨hI.heap, hI.stbLt, by simp [hlen], fun i q v hq hv' => ?_⟩
      cases i with
      | zero =>
        simp only [List.getElem?_cons_zero, Option.some.injEq] at hq hv'
        subst hq hv'
        rw [hv]
        exact .nilsl
      | succ i => exact hr i q v (by simpa using hq) (by simpa using hv')
    refine ⟨hen, (hcall w _ _ hst).mono fun e w' ⟨r, v, H', g', l', he, hF⟩ => ?_⟩
    obtain ⟨hsame, hpost⟩ := hF.post
    have hres := hF.res
    rw [hown] at hres
    rcases hpost with hpost | ⟨rfl, hK⟩
    · obtain ⟨ys, H'', g'', l2, hK, hI2⟩ := ret_sound (st := st.mapS (killF t)) (B := fun _ => False) hIk (gp := g) (fun _ => Iff.rfl) (fun _ _ h => h) (fun q h => .inl h) (fun q h => h.elim) hF.ext hF.heap hF.stbLt hsame hres hpost
      exact ⟨r, ys, H'', g'', l2, he, hK, hI2⟩
    · have hI2 := hIk.afterCall hF.ext hF.heap hF.stbLt
      obtain ⟨h1, _⟩ := hres
      simp only [TRep] at h1
      subst h1
      have hk0 : 0 < k := by obtain ⟨e, fl, _, hk0, _⟩ := hI.own t hin; rw [hk] at hk0; exact hk0.1
      have hfr := fresh_not (st.mapS (killF t)) 0
      rw [Nat.add_zero] at hfr
      refine ⟨_, [], H', g', _, he, hK, fun d => hI2.newTag (by have := fresh_pos (st.mapS (killF t)); omega) hfr ⟨0, [], ?_, ?_, by simp [Gl.own], by simp, by simp [Gl.own]⟩ (fun b hb => by cases hb) d⟩
      · simp only [Gl.own, if_true]
        exact World.ownsRow_nil _ _ _ _
      · simp only [Gl.own, if_true]
        exact ⟨hk0, fun b _ _ _ hb => by cases hb⟩
  · rw [hx] at hv
    obtain ⟨p1, p2, p3, p4, p5, p6, p7, p8⟩ := promote hI hin hv hk hx
    obtain ⟨hen, hcall⟩ := hR f _ _ _ (h.1 c p4 fun _ => p5)
    refine ⟨hen, (hcall w _ _ (start_promote hI hin hv hk hx hlen hr)).mono fun e w' ⟨r, v, H', g', l', he, hF⟩ => ?_⟩
    obtain ⟨hsame, hnd, hpost⟩ := hF.post
    have hres := hF.res
    rw [hown] at hres
    have hpriv := hI.ownPriv t hin b (by rw [hv]; rfl)
    obtain ⟨ys, H'', g'', l2, hK, hI2⟩ := ret_sound (st := st.mapS (killF t)) (B := fun q => q = b) hIk (gp := g.push st.H.next b) (fun _ => Iff.rfl) (push_ob hI.heap) (fun q h => h) (fun q hq => by
      subst hq
      refine ⟨p1, p2, fun hl => ?_, fun j hj => hpriv.2.2 j (by rwa [mapS_memlen] at hj), by show (g.push st.H.next _).ob st.H.next = _; simp [Gs.push], hnd⟩
      rcases hl with hl | ⟨j, mb, hj, hm, hl⟩ | ⟨u, hu, hl⟩
      · exact hpriv.1 hl
      · refine hpriv.2.2 j ?_ hl
        have := (List.getElem?_eq_some_iff.1 hj).1
        rwa [mapS_memlen] at this
      · exact (htg u hu).2 (hI.ownInj u (htg u hu).1 t hin _ hl (by rw [hv]; rfl))) hF.ext hF.heap hF.stbLt hsame hres hpost
    exact ⟨r, ys, H'', g'', l2, he, hK, hI2⟩

theorem callIO_sound {E : Env} {R : Oracle} (hR : OSound P E R) (hI : Inv w0 g0 g l w st a) {f type : Nat} {args : List AV} {vals : List Value} {K : AV → St → Prop}
    (hr : TReps g l w st.mem.length args vals) (ht : ∀ t ∈ tagsOfs args, t ∈ st.tags) (h : callIO E R st f args type K) : CallOk P w0 g0 a w f vals K := by
  unfold callIO at h
  split at h
  · rename_i t k xs rest
    obtain ⟨hg, h⟩ := G_out h
    simp only [Bool.and_eq_true, Bool.not_eq_true', List.contains_eq_mem, decide_eq_false_iff_not] at hg
    obtain ⟨hnin, hk0⟩ := hg
    cases vals with
    | nil => simp [TReps] at hr
    | cons v0 vals =>
      simp only [TReps, TRep] at hr
      obtain ⟨⟨rfl, hx, hk⟩, hr⟩ := hr
      obtain ⟨g1, hI1, s1, o1, hlen, hlend⟩ := lent_rest hI hr (fun u hu => ht u (by simp [tagsOfs, hu]))
      have hin1 : t + 1 ∈ (st.frzAll (tagsOfs rest)).tags := frzAll_tags_of _ _ hnin (ht _ (by simp [tagsOfs, tagsOf, Nat.beq]))
      have hH : (st.frzAll (tagsOfs rest)).H = st.H := frzAll_H _ _
      cases hu : isUnitT E.T type <;> rw [hu] at h <;> simp only [cond_true, cond_false] at h
      · obtain ⟨hg, h⟩ := G_out h
        simp only [Bool.and_eq_true] at hg
        rw [← hH] at h
        obtain ⟨hen, hcall⟩ := back_sound hR hI1 hin1 hk.symm hx.symm hlen hlend hg.1 h
        exact ⟨hen, hcall.mono fun e w' ⟨r, ys, H', g', l', he, hK, hI2⟩ => ⟨r, _, _, g', l', he, hK, hI2⟩⟩
      · obtain ⟨hg, h⟩ := G_out h
        rw [← hH] at h
        obtain ⟨hen, hcall⟩ := turn_sound hR hI1 hin1 hk.symm hx.symm hlen hlend (by simpa using hg) h
        exact ⟨hen, hcall.mono fun e w' ⟨ys, H', g', l', he, hK, hI2⟩ => ⟨_, _, _, g', l', he, hK, fun d => hI2.put undef_rep (by simp [tagsOf, tagsOfs]) d⟩⟩
  · cases hs : scalarT E.T type <;> rw [hs] at h <;> simp only [cond_false, cond_true] at h
    · obtain ⟨hg, h⟩ := G_out h
      simp only [Bool.and_eq_true] at hg
      cases hn : isNilHd args <;> rw [hn] at h <;> simp only [cond_false, cond_true] at h
      · exact callHs_sound hR hI hr ht hg.1 h
      · exact callImp_sound hR hI hr ht (.inl rfl) h
    · obtain ⟨hg, h⟩ := G_out h
      have hown : E.own f = false := by simpa using hg
      exact callImp_sound (s0 := 0) hR hI hr ht (.inr hown) (by rw [hown]; exact h)

theorem callAV_sound {E : Env} {R : Oracle} (hT : TabOk P E.T) (hR : OSound P E R) (hI : Inv w0 g0 g l w st a) {f type : Nat} {args : List AV} {vals : List Value} {strict : Bool} {K : AV → St → Prop}
    (hr : TReps g l w st.mem.length args vals) (ht : ∀ t ∈ tagsOfs args, t ∈ st.tags) (h : callAV E R strict st f args type K) : CallOk P w0 g0 a w f vals K := by
  unfold callAV at h
  cases hio : E.io f <;> rw [hio] at h <;> simp only [cond_true, cond_false] at h
  · cases hp : E.pur f <;> rw [hp] at h <;> simp only [cond_true, cond_false] at h
    · exact callImp_sound hR hI hr ht (.inl rfl) (G_out h).2
    · exact callPure_sound hT hR hI hr ht h
  · exact callIO_sound hR hI hr ht (G_out h).2
end
end Go.Proofs.Ytbkkhhmjmbbfpaa.Ab
