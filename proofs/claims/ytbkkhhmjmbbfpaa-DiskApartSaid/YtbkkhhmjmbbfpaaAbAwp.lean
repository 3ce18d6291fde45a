/- The walk's rule is sound: what 'awp' tells of a body holds of its runs; what 'Call' tells of a function holds of its calls. -/
import Derived.Test.YtbkkhhmjmbbfpaaAbStep
import Derived.Test.YtbkkhhmjmbbfpaaAbClean
namespace Go.Proofs.Ytbkkhhmjmbbfpaa.Ab
open Go

section
variable {P : Program} {w0 : World} {g0 g : Gs} {l : Gl} {w : World} {st : St} {a : Act}

def exOf : Exit → Option Ex
  | .normal => some .normal
  | .exit id => some (.exit id)
  | .ret => some .ret
  | _ => none
def Post (w0 : World) (g0 : Gs) (K : Ex → St → Prop) (e : Exit) (a : Act) (w : World) : Prop := ∃ x g l st, exOf e = some x ∧ Inv w0 g0 g l w st a ∧ K x st

theorem Post.mk {K : Ex → St → Prop} {e : Exit} {x : Ex} (he : exOf e = some x) (hI : Inv w0 g0 g l w st a) (h : K x st) : Post w0 g0 K e a w := ⟨x, g, l, st, he, hI, h⟩

structure Ok (P : Program) (E : Env) (R : Oracle) : Prop where
  tab : TabOk P E.T
  eq : EqOk P E.T
  apart : LibOk P E
  sound : OSound P E R
  mono : OLe R R
  feas : Feas R
  mix : P.follows .mixedOrders = true

theorem Inv.joinAt {g : Gs} {l : Gl} {w : World} {st : St} {a : Act} (h : Inv w0 g0 g l w st a) {L : Live} {key m : Nat} : ∃ g' l', Inv w0 g0 g' l' w (Ab.joinAt L key m st) a := by
  unfold Ab.joinAt
  split
  · exact h.clean
  · exact ⟨g, l, h⟩
theorem awp_sound {E : Env} {R : Oracle} (hO : Ok P E R) {L : Live} : ∀ (c : Code) (i : Nat) {g : Gs} {l : Gl} {w : World} {st : St} {a : Act} {K : Ex → St → Prop}, Inv w0 g0 g l w st a → awp E R L c i st K → c.wp P (Post w0 g0 K) a w
  | .skip, _, _, _, _, _, _, _, hI, h => by
    simp only [awp] at h
    exact Go.wp_skip (.mk rfl hI h)
  | .region id ops draw, _, _, _, _, _, _, K, hI, h => by
    simp only [awp, joinK_eq] at h
    exact region_sound (K := fun s => K .normal (joinAt L (2 * id + 1) s.mem.length s)) hO.tab hO.eq hO.apart hO.sound hO.mono hO.feas hO.mix (fun g l w st a hI h => let ⟨_, _, hI'⟩ := hI.joinAt; .mk rfl hI' h) hI h
  | .seq x y, i, _, _, _, _, _, K, hI, h => by
    simp only [awp] at h
    refine wp_seq (wp_mono (awp_sound hO x i hI h) fun e a w hp => ?_)
    obtain ⟨ex, g, l, st, he, hI, hK⟩ := hp
    cases e <;> simp only [exOf, Option.some.injEq, reduceCtorEq] at he <;> subst he
    · exact awp_sound hO y _ hI hK
    · exact .mk rfl hI hK
    · exact .mk rfl hI hK
  | .cond c x y, i, _, _, _, _, _, K, hI, h => by
    simp only [awp] at h
    split at h
    · rename_i t ht
      obtain ⟨hr, _⟩ := hI.operand (a := _) c
      rw [ht] at hr
      simp only [TRep] at hr
      refine wp_cond hr ?_
      cases t
      · exact awp_sound hO y _ hI h
      · exact awp_sound hO x _ hI h
    · exact h.elim
  | .block id c, i, _, _, _, _, _, K, hI, h => by
    simp only [awp, joinK_eq] at h
    refine wp_block (wp_mono (awp_sound hO c i hI h) fun e a w hp => ?_)
    obtain ⟨ex, g, l, st, he, hI, hK⟩ := hp
    cases e <;> simp only [exOf, Option.some.injEq, reduceCtorEq] at he <;> subst he
    · obtain ⟨_, _, hI'⟩ := hI.joinAt (L := L)
      exact .mk rfl hI' hK
    · rename_i id'
      simp only [Exit.inBlock] at hK ⊢
      by_cases hid : id' = id
      · rw [if_pos hid]
        subst hid
        simp only [Nat.beq_refl, cond_true] at hK
        obtain ⟨_, _, hI'⟩ := hI.joinAt (L := L)
        exact .mk rfl hI' hK
      · rw [if_neg hid]
        have : Nat.beq id' id = false := by
          cases hb : Nat.beq id' id with
          | false => rfl
          | true => exact absurd (Nat.eq_of_beq_eq_true hb) hid
        rw [this] at hK
        exact .mk rfl hI hK
    · exact .mk rfl hI hK
  | .loop c, i, _, _, _, st0, a0, K, hI, h => by
    simp only [awp] at h
    let m := st0.mem.length
    have key := h (fun s => ∀ (g : Gs) (l : Gl) (w : World) (a : Act), Inv w0 g0 g l w s a → ∀ (b : Frame) (k : List Item) (cs : List Frame),
        ∃ e a' w', Post w0 g0 K e a' w' ∧ Arrives P (lone (b.at a (.code c :: .inLoop c :: k)) cs w) b k cs e a' w') (by
      intro s hs g l w a hI b k cs
      obtain ⟨e, a1, w1, hp, harr⟩ := awp_sound hO c (i + 1) hI hs b (.inLoop c :: k) cs
      obtain ⟨ex, g1, l1, s1, he, hI1, hK⟩ := hp
      cases e <;> simp only [exOf, Option.some.injEq, reduceCtorEq] at he <;> subst he
      · simp only at hK
        obtain ⟨g2, l2, hI2⟩ := hI1.clean (live := L.1.getD i []) (m := st0.mem.length)
        obtain ⟨e2, a2, w2, hq2, harr2⟩ := hK _ _ _ _ hI2 b k cs
        exact ⟨e2, a2, w2, hq2, .of_steps (Steps.trans harr (.one step_inLoop)) harr2⟩
      · exact ⟨_, a1, w1, .mk rfl hI1 hK, .pass (x := .inLoop c) rfl (fun _ _ => .inl (by simp)) harr⟩
      · exact ⟨_, a1, w1, .mk rfl hI1 hK, .pass (x := .inLoop c) rfl (fun _ _ => .inl (by simp)) harr⟩)
    intro b k cs
    obtain ⟨g2, l2, hI2⟩ := hI.clean (live := L.1.getD i []) (m := st0.mem.length)
    obtain ⟨e, a', w', hq, harr⟩ := key _ _ _ _ hI2 b k cs
    exact ⟨e, a', w', hq, .of_steps (.one step_loop) harr⟩
  | .exit id, _, _, _, _, _, _, _, hI, h => by
    simp only [awp] at h
    exact wp_exit (.mk rfl hI h)
  | .ret, _, _, _, _, _, _, _, hI, h => by
    simp only [awp] at h
    exact wp_ret (.mk rfl hI h)
  | .label _, _, _, _, _, _, _, _, _, h => by simp [awp] at h
  | .goto _, _, _, _, _, _, _, _, _, h => by simp [awp] at h
  | .scope _, _, _, _, _, _, _, _, _, h => by simp [awp] at h
  | .rangeFunc _ _ _ _, _, _, _, _, _, _, _, _, h => by simp [awp] at h
  | .refuse _, _, _, _, _, _, _, _, _, h => by simp [awp] at h

theorem loadAt_as {t : Nat} {v u : Value} (h : (Instr.loadAt t v).run P w = .ok u w) : (do loadVar t (← asAddr v) : Sem Value).run P w = .ok u w := by
  cases v <;> first
    | (simp [Instr.loadAt, Instr.sureAddr] at h; done)
    | skip
  case pointer p =>
    cases p with
    | none => simp [Instr.loadAt, Instr.sureAddr] at h
    | some p => simpa [Instr.loadAt, Instr.sureAddr, asAddr] using h
def resOne (tmps : Array Value) : ResultVar → Sem Value
  | .tmp t => pure (tmps.getD t undef)
  | .cell a t => do loadVar t (← asAddr (tmps.getD a undef))
theorem res_out {T : List TI} (hT : TabOk P T) (hI : Inv w0 g0 g l w st a) : ∀ (rs : List ResultVar) {K : List AV → Prop}, resAV T st rs K →
    ∃ xs vs, K xs ∧ (rs.mapM (resOne a.tmps)).run P w = .ok vs w ∧ TReps g l w st.mem.length xs vs ∧ (∀ t ∈ tagsOfs xs, t ∈ st.tags) ∧ vs.length = rs.length
  | [], K, h => ⟨[], [], h, by simp, by simp [TReps], by simp [tagsOfs], rfl⟩
  | r :: rs, K, h => by
    have hget : ∀ d, TRep g l w st.mem.length (st.tm.getD d .any) (a.tmps.getD d undef) ∧ ∀ t ∈ tagsOf (st.tm.getD d .any), t ∈ st.tags := by
      intro d
      rw [List.getD_eq_getElem?_getD]
      cases hd : st.tm[d]? with
      | none => simp [TRep, tagsOf]
      | some y =>
        obtain ⟨v, hv, hr⟩ := hI.tm.get hd
        have hv' : a.tmps[d]? = some v := by simpa using hv
        rw [Array.getD_eq_getD_getElem?, hv']
        exact ⟨hr, fun t ht => tags_tm (tagsOfs_get hd t ht)⟩
    cases r with
    | tmp t =>
      simp only [resAV] at h
      obtain ⟨xs, vs, hK, hrun, hr, ht, hl⟩ := res_out hT hI rs h
      refine ⟨_, a.tmps.getD t undef :: vs, hK, ?_, ?_, ?_, by simp [hl]⟩
      · rw [List.mapM_cons]
        simp only [resOne, Sem.run_bind, Sem.run_pure, Result.andThen_ok, hrun]
      · simp only [TReps]
        exact ⟨(hget t).1, hr⟩
      · intro u hu
        simp only [tagsOfs, List.mem_append] at hu
        exact hu.elim ((hget t).2 u) (ht u)
    | cell c t =>
      simp only [resAV] at h
      obtain ⟨av, u, h, hrun1, hr1, ht1, _⟩ := loadAt_sound hT hI (hget c).1 (hget c).2 h
      obtain ⟨xs, vs, hK, hrun, hr, ht, hl⟩ := res_out hT hI rs h
      refine ⟨_, u :: vs, hK, ?_, ?_, ?_, by simp [hl]⟩
      · rw [List.mapM_cons, Sem.run_bind]
        simp only [resOne]
        rw [loadAt_as hrun1]
        simp only [Result.andThen_ok, Sem.run_bind, Sem.run_pure, hrun]
      · simp only [TReps]
        exact ⟨hr1, hr⟩
      · intro u hu
        simp only [tagsOfs, List.mem_append] at hu
        exact hu.elim (ht1 u) (ht u)
def unlist : List Value → Value
  | [v] => v
  | vs => .tuple vs.toArray
theorem run_results {fn : Func} {vs : List Value} (h : (fn.results.toList.mapM (resOne a.tmps)).run P w = .ok vs w) : (results fn a.tmps).run P w = .ok (unlist vs) w := by
  have e : results fn a.tmps = (fn.results.mapM (resOne a.tmps) >>= fun vs => pure (if h : vs.size = 1 then vs[0] else .tuple vs)) := rfl
  rw [e, Array.mapM_eq_mapM_toList, Sem.run_bind]
  have h2 : (List.toArray <$> fn.results.toList.mapM (resOne a.tmps)).run P w = .ok vs.toArray w := by
    rw [map_eq_pure_bind, Sem.run_bind, h]
    rfl
  rw [h2]
  simp only [Result.andThen_ok, Sem.run_pure]
  match vs with
  | [] => rfl
  | [v] => rfl
  | _ :: _ :: _ => rfl

theorem renum_tags (ts : List Nat) : ∀ c, leaf c = true → ∀ t ∈ tagsOf (renum ts c), ∃ u ∈ tagsOf c, t = ts.idxOf u + 1 := by
  intro c hl t ht
  cases c <;> simp only [renum] at ht <;> try (simp [tagsOf] at ht; done)
  case sl u k xs =>
    cases hb : Nat.beq u 0 with
    | true => rw [hb] at ht; simp [tagsOf, Nat.beq] at ht
    | false =>
      rw [hb] at ht
      simp only [cond_false, tagsOf] at ht
      simp only [tagsOf, hb, cond_false, List.mem_singleton, exists_eq_left]
      simpa [Nat.beq] using ht
  all_goals simp [leaf] at hl
section
variable {f : AV → AV} {φ : Nat → Nat}
mutual
theorem mapT_tags_sub (hf : ∀ c, leaf c = true → (tagsOf (f c)).Sublist ((tagsOf c).map φ)) : ∀ a : AV, (tagsOf (mapT f a)).Sublist ((tagsOf a).map φ)
  | .agg cs => by simp only [mapT, tagsOf]; exact mapTs_tags_sub hf cs
  | .tup cs => by simp only [mapT, tagsOf]; exact mapTs_tags_sub hf cs
  | .iface _ b => by simp only [mapT, tagsOf]; exact mapT_tags_sub hf b
  | .sl _ _ _ => hf _ rfl
  | .ep _ _ _ _ _ => hf _ rfl
  | .any => hf _ rfl
  | .int _ _ => hf _ rfl
  | .bool _ => hf _ rfl
  | .str _ => hf _ rfl
  | .nilp => hf _ rfl
  | .ptr _ _ => hf _ rfl
  | .rp _ _ => hf _ rfl
  | .nilsl => hf _ rfl
  | .fn _ _ => hf _ rfl
  | .nilfn => hf _ rfl
  | .niliface => hf _ rfl
  | .obj _ _ => hf _ rfl
  | .map _ => hf _ rfl
  | .nilmap => hf _ rfl
  | .hs _ _ _ _ _ => hf _ rfl
  | .he _ _ _ _ => hf _ rfl
theorem mapTs_tags_sub (hf : ∀ c, leaf c = true → (tagsOf (f c)).Sublist ((tagsOf c).map φ)) : ∀ cs : List AV, (tagsOfs (mapTs f cs)).Sublist ((tagsOfs cs).map φ)
  | [] => by simp [mapTs, tagsOfs]
  | c :: cs => by
    simp only [mapTs, tagsOfs, List.map_append]
    exact (mapT_tags_sub hf c).append (mapTs_tags_sub hf cs)
end
end
theorem nodupB_iff : ∀ ts : List Nat, nodupB ts = true ↔ ts.Nodup
  | [] => by simp [nodupB]
  | t :: ts => by simp [nodupB, nodupB_iff ts]

/-- What is handed back: stable. -/
theorem stable_end (hI : Inv w0 g0 g l w st a) {x : AV} {v : Value} {n : Nat} (hr : TRep g l w n x v) (ht : ∀ t ∈ tagsOf x, t ∈ st.tags) {own : Bool} (ho : own = false) {Q : AV → Heap → Prop} (hQ : Q (frzV x) st.H) : After own w0 g0 Q (.returned v) w := by
  subst ho
  have hown : ∀ t ∈ st.tags, ∀ b, (l.xv t).ownBlock = some b → w0.heap.size ≤ b ∧ b < w.heap.size := fun t ht b hb => by
    obtain ⟨e, fl, h, _⟩ := hI.own t ht
    exact h.lt b hb
  refine ⟨v, frzV x, st.H, { g with stb := fun b => g.stb b ∨ ∃ t ∈ st.tags, (l.xv t).ownBlock = some b }, l, rfl, hQ, ?_, HOK.mono (g := g) (g' := ⟨fun b => g.stb b ∨ ∃ t ∈ st.tags, (l.xv t).ownBlock = some b, g.ob, g.foot⟩) hI.heap (fun _ _ => rfl) (fun _ _ => rfl) (fun _ h => Or.inl h) rfl rfl (Nat.le_refl _), ?_, ?_⟩
  · refine ⟨hI.ext.os, hI.ext.tape, hI.ext.output, hI.ext.size, hI.ext.keep, fun b hb => .inl (hI.ext.stb b hb), fun b hb => ?_, hI.ext.ob, hI.ext.footNew⟩
    rcases hb with hb | ⟨t, ht, hb⟩
    · exact hI.ext.stbNew b hb
    · exact .inr (.inl (hown t ht b hb).1)
  · intro b hb
    rcases hb with hb | ⟨t, ht, hb⟩
    · exact hI.stbLt b hb
    · exact ⟨(hown t ht b hb).2, (hI.ownPriv t ht b hb).2.1⟩
  · unfold ResOk
    rw [cond_false]
    exact lend_rep (base := w0.heap.size) (fun b hb => .inl hb) (S := tagsOf x) (fun t h => ⟨hI.own t (ht t h), fun b hb => .inr ⟨t, ht t h, hb⟩⟩) x v (fun t h => h) hr
/-- What is handed back: the caller's own from here on. -/
theorem own_end (hI : Inv w0 g0 g l w st a) {x : AV} {v : Value} {n : Nat} (hr : TRep g l w n x v) (ht : ∀ t ∈ tagsOf x, t ∈ st.tags) {own : Bool} (ho : own = true) (hn : nodupB (tagsOf x) = true) {Q : AV → Heap → Prop} (hQ : Q (mapT (renum (tagsOf x)) x) st.H) : After own w0 g0 Q (.returned v) w := by
  subst ho
  let ts := tagsOf x
  have hidx : ∀ u ∈ ts, ts.getD (ts.idxOf u) 0 = u := by
    intro u hu
    have hlt : ts.idxOf u < ts.length := List.idxOf_lt_length_iff.2 hu
    rw [List.getD_eq_getElem?_getD, List.getElem?_eq_getElem hlt, Option.getD_some]
    exact List.getElem_idxOf hlt
  let l2 : Gl := { loc := l.loc, xv := fun t => l.xv (ts.getD (t - 1) 0), xc := fun t => l.xc (ts.getD (t - 1) 0), xk := fun t => l.xk (ts.getD (t - 1) 0) }
  have hl2 : ∀ u ∈ ts, l2.xv (ts.idxOf u + 1) = l.xv u ∧ l2.xc (ts.idxOf u + 1) = l.xc u ∧ l2.xk (ts.idxOf u + 1) = l.xk u := by
    intro u hu
    have := hidx u hu
    simp only [l2, Nat.add_sub_cancel, this, and_self]
  have hre : ∀ c v, leaf c = true → (∀ t ∈ tagsOf c, t ∈ ts) → TRep g l w n c v → TRep g l2 w 0 (renum ts c) v := by
    intro c v hl ht hr
    cases c <;> simp only [renum]
    case sl u k xs =>
      cases u with
      | zero => simpa only [Nat.beq, cond_true, TRep] using hr
      | succ u =>
        simp only [Nat.beq, cond_false, TRep] at hr ⊢
        obtain ⟨q1, q2, q3⟩ := hl2 (u + 1) (ht _ (by simp [tagsOf, Nat.beq]))
        rw [q1, q2, q3]
        exact hr
    all_goals first | (simp [leaf] at hl; done) | (simp only [TRep] at hr ⊢; done) | (simp only [TRep] at hr ⊢; exact hr)
  have htg : ∀ t ∈ tagsOf (mapT (renum ts) x), ∃ u ∈ ts, t = ts.idxOf u + 1 := mapT_tags_to (renum_tags ts) x
  have hnd : nodupB (tagsOf (mapT (renum ts) x)) = true := by
    rw [nodupB_iff] at hn ⊢
    -- the tags of the new value are among those of the old one, told by an injection
    have key : ∀ a : AV, (tagsOf (mapT (renum ts) a)).Sublist ((tagsOf a).map fun u => ts.idxOf u + 1) := by
      have hf : ∀ c, leaf c = true → (tagsOf (renum ts c)).Sublist ((tagsOf c).map fun u => ts.idxOf u + 1) := by
        intro c hl
        cases c <;> simp only [renum] <;> try (simp [tagsOf]; done)
        case sl u k xs =>
          cases hb : Nat.beq u 0 with
          | true => simp [tagsOf, Nat.beq]
          | false => simp [tagsOf, hb, Nat.beq]
        all_goals simp [leaf] at hl
      exact mapT_tags_sub hf
    refine (key x).nodup ?_
    refine List.nodup_iff_pairwise_ne.2 ?_
    rw [List.pairwise_map]
    refine List.Pairwise.imp_of_mem (fun {u v} hu hv hne => ?_) hn
    intro he
    have : ts.idxOf u = ts.idxOf v := by omega
    exact hne (by rw [← hidx u hu, ← hidx v hv, this])
  refine ⟨v, mapT (renum ts) x, st.H, g, l2, rfl, hQ, hI.ext, hI.heap, hI.stbLt, ?_⟩
  unfold ResOk
  rw [cond_true]
  refine ⟨mapT_rep (S := ts) hre x v (fun t h => h) hr, fun t h => ?_, fun t h u h' b hb hb' => ?_, hnd⟩
  · obtain ⟨u, hu, rfl⟩ := htg t h
    obtain ⟨q1, q2, q3⟩ := hl2 u hu
    refine ⟨by omega, (hI.own u (ht u hu)).at ⟨q1, q2, q3⟩, fun b hb => ?_⟩
    rw [q1] at hb
    obtain ⟨k1, k2, _⟩ := hI.ownPriv u (ht u hu) b hb
    exact ⟨k1, k2⟩
  · obtain ⟨t', ht', rfl⟩ := htg t h
    obtain ⟨u', hu', rfl⟩ := htg u h'
    rw [(hl2 t' ht').1] at hb
    rw [(hl2 u' hu').1] at hb'
    rw [hI.ownInj t' (ht t' ht') u' (ht u' hu') b hb hb']

theorem tuple_rep {xs : List AV} {vs : List Value} {n : Nat} (h : TReps g l w n xs vs) : ∃ x, TRep g l w n x (unlist vs) ∧ tagsOf x = tagsOfs xs ∧ retStb xs = frzV x ∧ retOwn xs = mapT (renum (tagsOf x)) x := by
  match xs, vs with
  | [], [] => exact ⟨.tup [], by simp [TRep, TReps, unlist], by simp [tagsOf], rfl, rfl⟩
  | [x], [v] =>
    simp only [TReps, and_true] at h
    exact ⟨x, h, by simp [tagsOfs], rfl, rfl⟩
  | x :: y :: r, [v] => simp [TReps] at h
  | [x], [] => simp [TReps] at h
  | [x], v :: u :: r => simp [TReps] at h
  | x :: y :: r, v :: u :: r' => exact ⟨.tup (x :: y :: r), by simp only [TRep]; exact ⟨_, rfl, h⟩, by simp [tagsOf], rfl, rfl⟩
  | [], v :: r => simp [TReps] at h
  | x :: y :: r, [] => simp [TReps] at h
theorem fin_sound {E : Env} (hT : TabOk P E.T) {f : Nat} {fn : Func} (hf : E.fs f = some fn) (hI : Inv w0 g0 g l w st a) {x : Ex} (hx : ∀ id, x ≠ .exit id) {Q : AV → Heap → Prop} (h : finK E f Q x st) :
    ∃ r, (results fn a.tmps).run P w = .ok r w ∧ After (E.own f) w0 g0 Q (.returned r) w := by
  have h' : resAV E.T st fn.results.toList fun l =>
      cond (E.own f) (G (nodupB (tagsOfs l)) (Q (retOwn l) st.H)) (Q (retStb l) st.H) := by
    cases x with
    | exit id => exact absurd rfl (hx id)
    | normal => simpa only [finK, hf] using h
    | ret => simpa only [finK, hf] using h
  obtain ⟨xs, vs, hK, hrun, hr, ht, _⟩ := res_out hT hI _ h'
  obtain ⟨y, hy, e1, e2, e3⟩ := tuple_rep hr
  refine ⟨unlist vs, run_results hrun, ?_⟩
  cases ho : E.own f with
  | false =>
    rw [ho, cond_false, e2] at hK
    exact stable_end hI hy (by rw [e1]; exact ht) rfl hK
  | true =>
    rw [ho, cond_true, e3] at hK
    obtain ⟨hn, hK⟩ := G_out hK
    exact own_end hI hy (by rw [e1]; exact ht) rfl (by rw [e1]; exact hn) hK

theorem After.mono {own : Bool} {w : World} {g : Gs} {Q Q' : AV → Heap → Prop} (hQ : ∀ v H, Q v H → Q' v H) {e : Ending} {w' : World} (h : After own w g Q e w') : After own w g Q' e w' := by
  obtain ⟨r, v, H', g', l', he, hF⟩ := h
  exact ⟨r, v, H', g', l', he, hQ _ _ hF.post, hF.ext, hF.heap, hF.stbLt, hF.res⟩
theorem start_inv {g : Gs} {w : World} {H : Heap} {args : List AV} {vs : List Value} (h : Start g w H args vs) (n : Nat) :
    Inv w g g { loc := fun _ => 0, xv := fun _ => undef, xc := fun _ => [], xk := fun _ => 0 } w ⟨args ++ List.replicate (n - args.length) .any, [], H⟩ { tmps := vs.toArray ++ Array.replicate (n - vs.toArray.size) undef, defers := [] } := by
  have hno : ∀ t ∈ tagsOfs (args ++ List.replicate (n - args.length) .any), False := by
    intro t ht
    rw [tagsOfs_append] at ht
    rcases List.mem_append.1 ht with ht | ht
    · obtain ⟨i, c, hc, ht⟩ := tagsOfs_iff ht
      have hi : i < vs.length := by rw [← h.len]; exact (List.getElem?_eq_some_iff.1 hc).1
      rw [(h.rep i c _ hc (List.getElem?_eq_getElem hi)).tags] at ht
      cases ht
    · obtain ⟨i, c, hc, ht⟩ := tagsOfs_iff ht
      rw [List.getElem?_replicate] at hc
      split at hc
      · cases hc; simp [tagsOf] at ht
      · cases hc
  have hno' : ∀ t ∈ (⟨args ++ List.replicate (n - args.length) .any, [], H⟩ : St).tags, False := by
    intro t ht
    simp only [St.tags, List.flatMap_nil, List.append_nil] at ht
    exact hno t ht
  refine ⟨rfl, ?_, by simp, fun t ht => (hno' t ht).elim, by simp, by simp, fun t ht => (hno' t ht).elim, fun t ht => (hno' t ht).elim, h.heap, Ext.refl _ _, h.stbLt⟩
  simp only [Array.toList_append, List.toList_toArray, Array.toList_replicate, List.length_nil, List.size_toArray]
  rw [← h.len]
  refine TReps.append (.mk h.len fun i c v hc hv => TRep.of_rep (h.rep i c v hc hv)) (.mk (by simp) fun i c v hc hv => ?_)
  rw [List.getElem?_replicate] at hc
  split at hc
  · cases hc; simp [TRep]
  · cases hc

/-- What is asked of a program and its tables. -/
structure ProgOk (P : Program) (E : Env) : Prop where
  tab : TabOk P E.T
  eq : EqOk P E.T
  apart : LibOk P E
  mix : P.follows .mixedOrders = true
  fs : ∀ f fn, E.fs f = some fn → P.funcs[f]? = some fn ∧ (fn.name == "runtime.NumGoroutine") = false
  leaf : OSound P E E.leaf
  leafFeas : Feas E.leaf

def R1 (P : Program) (E : Env) : Oracle := fun f args H Q =>
  (Enters P f ∧ ∀ (w : World) (g : Gs) (vs : List Value), Start g w H args vs → Calls P f vs.toArray w (After (E.own f) w g Q)) ∧ ∃ v H', Q v H'
theorem R1_ok {E : Env} (hP : ProgOk P E) : Ok P E (R1 P E) where
  tab := hP.tab
  eq := hP.eq
  apart := hP.apart
  sound := fun f args H Q h => h.1
  mono := fun f args H Q Q' hQ h => ⟨⟨h.1.1, fun w g vs hs => (h.1.2 w g vs hs).mono fun _ _ ha => ha.mono hQ⟩, let ⟨v, H', hv⟩ := h.2; ⟨v, H', hQ _ _ hv⟩⟩
  feas := fun f args H Q h => h.2
  mix := hP.mix
theorem R1_closed {E : Env} (hP : ProgOk P E) (f : Nat) (args : List AV) (H : Heap) (Q : AV → Heap → Prop) (h : aBody E (R1 P E) f args H Q) : R1 P E f args H Q := by
  refine ⟨?_, aBody_feas (R1_ok hP).feas hP.leafFeas h⟩
  unfold aBody at h
  cases hf : E.fs f with
  | none =>
    rw [hf] at h
    obtain ⟨Q', hQ, h⟩ := h
    obtain ⟨h1, h2⟩ := hP.leaf f args H Q' h
    exact ⟨h1, fun w g vs hs => (h2 w g vs hs).mono fun _ _ ha => ha.mono hQ⟩
  | some fn =>
    rw [hf] at h
    simp only at h
    obtain ⟨hfn, hname⟩ := hP.fs f fn hf
    cases hb : fn.body with
    | none => rw [hb] at h; exact h.elim
    | some c =>
      rw [hb] at h
      simp only at h
      refine ⟨⟨fn, hfn, by rw [hb]; rfl, hname⟩, fun w g vs hs => ?_⟩
      have hI := start_inv hs fn.ntmps
      refine calls_of_wp hfn hb (wp_mono (awp_sound (R1_ok hP) c 0 hI h) fun e a w' hp => ?_)
      obtain ⟨x, g1, l1, st, he, hI1, hK⟩ := hp
      cases e <;> simp only [exOf, Option.some.injEq, reduceCtorEq] at he <;> subst he
      · obtain ⟨r, hr, ha⟩ := fin_sound hP.tab hf hI1 (by simp) hK
        exact ⟨hI1.defers, r, hr, ha⟩
      · exact hK.elim
      · obtain ⟨r, hr, ha⟩ := fin_sound hP.tab hf hI1 (by simp) hK
        exact ⟨hI1.defers, r, hr, ha⟩
/-- What is told of a function holds of its calls. -/
theorem Call_sound {E : Env} (hP : ProgOk P E) : OSound P E (Call E) := fun f args H Q h => (h (R1 P E) (R1_closed hP)).1
end
end Go.Proofs.Ytbkkhhmjmbbfpaa.Ab
