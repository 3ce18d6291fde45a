/- What keeps a frame's invariant, more. -/
import Derived.Test.YtbkkhhmjmbbfpaaAbInv
namespace Go.Proofs.Ytbkkhhmjmbbfpaa.Ab
open Go

section
variable {f : AV → AV} {u : Nat}
mutual
theorem mapT_tags_of (hf : ∀ c, leaf c = true → u ∈ tagsOf c → u ∈ tagsOf (f c)) : ∀ a : AV, u ∈ tagsOf a → u ∈ tagsOf (mapT f a)
  | .agg cs, h => by simp only [mapT, tagsOf] at h ⊢; exact mapTs_tags_of hf cs h
  | .tup cs, h => by simp only [mapT, tagsOf] at h ⊢; exact mapTs_tags_of hf cs h
  | .iface _ v, h => by simp only [mapT, tagsOf] at h ⊢; exact mapT_tags_of hf v h
  | .sl t k xs, h => hf _ rfl h
  | .ep t k i o xs, h => hf _ rfl h
  | .any, h => hf _ rfl h
  | .int k m, h => hf _ rfl h
  | .bool b, h => hf _ rfl h
  | .str s, h => hf _ rfl h
  | .nilp, h => hf _ rfl h
  | .ptr j o, h => hf _ rfl h
  | .rp cs o, h => hf _ rfl h
  | .nilsl, h => hf _ rfl h
  | .fn f c, h => hf _ rfl h
  | .nilfn, h => hf _ rfl h
  | .niliface, h => hf _ rfl h
  | .obj j o, h => hf _ rfl h
  | .map j, h => hf _ rfl h
  | .nilmap, h => hf _ rfl h
  | .hs _ _ _ _ _, h => hf _ rfl h
  | .he _ _ _ _, h => hf _ rfl h
theorem mapTs_tags_of (hf : ∀ c, leaf c = true → u ∈ tagsOf c → u ∈ tagsOf (f c)) : ∀ cs : List AV, u ∈ tagsOfs cs → u ∈ tagsOfs (mapTs f cs)
  | [], h => by simp [tagsOfs] at h
  | c :: cs, h => by
    simp only [mapTs, tagsOfs, List.mem_append] at h ⊢
    rcases h with h | h
    · exact .inl (mapT_tags_of hf c h)
    · exact .inr (mapTs_tags_of hf cs h)
end
theorem tags_mapS_of (hf : ∀ c, leaf c = true → u ∈ tagsOf c → u ∈ tagsOf (f c)) (s : St) (h : u ∈ s.tags) : u ∈ (s.mapS f).tags := by
  simp only [St.tags, St.mapS, List.mem_append, List.mem_flatMap, List.mem_map] at h ⊢
  rcases h with h | ⟨mb, hm, h⟩
  · exact .inl (mapTs_tags_of hf _ h)
  · refine .inr ⟨_, ⟨mb, hm, rfl⟩, ?_⟩
    cases mb with
    | cells cs => exact mapTs_tags_of hf cs h
    | _ => exact h
end
theorem frzF_tags_of {t u : Nat} (hne : u ≠ t) : ∀ c, leaf c = true → u ∈ tagsOf c → u ∈ tagsOf (frzF t c) := by
  intro c hc h
  cases c <;> try exact h
  case sl t' k xs =>
    simp only [frzF]
    cases e : Nat.beq t' t
    · exact h
    · obtain rfl : t' = t := Nat.eq_of_beq_eq_true e
      simp only [tagsOf] at h
      cases e0 : Nat.beq t' 0 <;> rw [e0] at h <;> simp at h
      exact absurd h hne
  case ep t' k i o xs =>
    simp only [frzF]
    cases e : Nat.beq t' t
    · exact h
    · obtain rfl : t' = t := Nat.eq_of_beq_eq_true e
      simp only [tagsOf, List.mem_singleton] at h
      exact absurd h hne
theorem mapS_H (f : AV → AV) (s : St) : (s.mapS f).H = s.H := rfl
theorem mapS_memlen (f : AV → AV) (s : St) : (s.mapS f).mem.length = s.mem.length := by simp [St.mapS]

section
variable {w0 : World} {g0 g g' : Gs} {l l' : Gl} {w w' : World} {st st' : St} {a a' : Act} {base : Nat}

theorem tags_pos (h : Inv w0 g0 g l w st a) : ∀ t ∈ st.tags, t ≠ 0 := by
  have leafs : ∀ (c : AV) (v : Value), TRep g l w st.mem.length c v → ∀ t ∈ tagsOf c, t ≠ 0 := by
    have key : ∀ (n : Nat) (c : AV) (v : Value), SizeOf.sizeOf c ≤ n → TRep g l w st.mem.length c v → ∀ t ∈ tagsOf c, t ≠ 0 := by
      intro n
      induction n with
      | zero => intro c v hs; cases c <;> simp at hs
      | succ n ih =>
        intro c v hs hr t ht
        have many : ∀ (cs : List AV) (vs : List Value), SizeOf.sizeOf cs ≤ n → TReps g l w st.mem.length cs vs → ∀ t ∈ tagsOfs cs, t ≠ 0 := by
          intro cs vs hs hr t ht
          obtain ⟨i, c, hc, ht⟩ := tagsOfs_iff ht
          obtain ⟨v, _, hv⟩ := hr.get hc
          have := List.sizeOf_lt_of_mem (List.mem_of_getElem? hc)
          exact ih c v (by omega) hv t ht
        cases c <;> try (simp [tagsOf] at ht; done)
        case sl t' k xs =>
          simp only [tagsOf] at ht
          cases e0 : Nat.beq t' 0 <;> rw [e0] at ht <;> simp at ht
          subst ht
          intro h0
          subst h0
          simp at e0
        case ep t' k i o xs =>
          simp only [TRep] at hr
          simp only [tagsOf, List.mem_singleton] at ht
          subst ht
          exact hr.2.2.1
        case agg cs =>
          simp only [TRep] at hr
          obtain ⟨vs, _, hr⟩ := hr
          simp only [tagsOf] at ht
          simp only [AV.agg.sizeOf_spec] at hs
          exact many cs vs (by omega) hr t ht
        case tup cs =>
          simp only [TRep] at hr
          obtain ⟨vs, _, hr⟩ := hr
          simp only [tagsOf] at ht
          simp only [AV.tup.sizeOf_spec] at hs
          exact many cs vs (by omega) hr t ht
        case iface q b =>
          simp only [TRep] at hr
          obtain ⟨u, _, hr⟩ := hr
          simp only [tagsOf] at ht
          simp only [AV.iface.sizeOf_spec] at hs
          exact ih b u (by omega) hr t ht
    exact fun c v => key (SizeOf.sizeOf c) c v (Nat.le_refl _)
  intro t ht
  simp only [St.tags, List.mem_append, List.mem_flatMap] at ht
  rcases ht with ht | ⟨mb, hm, ht⟩
  · obtain ⟨i, c, hc, ht⟩ := tagsOfs_iff ht
    obtain ⟨v, _, hv⟩ := h.tm.get hc
    exact leafs c v hv t ht
  · obtain ⟨j, hj⟩ := List.mem_iff_getElem?.1 hm
    cases mb with
    | cells cs =>
      obtain ⟨vs, e, _, hr, _⟩ := h.mem j _ hj
      obtain ⟨i, c, hc, ht⟩ := tagsOfs_iff ht
      obtain ⟨v, _, hv⟩ := hr.get hc
      exact leafs c v hv t ht
    | _ => simp [MB.tags] at ht

theorem Inv.frzAll : ∀ (ts : List Nat) {g : Gs} {st : St}, Inv w0 g0 g l w st a → (∀ t ∈ ts, t ≠ 0) →
    ∃ g', Inv w0 g0 g' l w (st.frzAll ts) a ∧ (∀ b, g.stb b → g'.stb b) ∧ (∀ b, g'.stb b → g.stb b ∨ ∃ t ∈ st.tags, (l.xv t).ownBlock = some b) ∧ g'.ob = g.ob ∧ g'.foot = g.foot ∧
      (∀ t ∈ ts, t ∈ st.tags → ∀ b, (l.xv t).ownBlock = some b → g'.stb b) ∧ (∀ t ∈ (st.frzAll ts).tags, t ∈ st.tags)
  | [], g, st, h, _ => ⟨g, h, fun _ h => h, fun _ h => .inl h, rfl, rfl, by simp, fun _ h => h⟩
  | t :: ts, g, st, h, h0 => by
    obtain ⟨g1, h1, s1, n1, o1, f1, b1⟩ := h.frz t (h0 t (by simp))
    obtain ⟨g2, h2, s2, n2, o2, f2, b2, c2⟩ := h1.frzAll ts (fun u hu => h0 u (by simp [hu]))
    have hsub := tags_mapS (frzF_tags t (h0 t (by simp))) st
    refine ⟨g2, h2, fun b hb => s2 b (s1 b hb), fun b hb => ?_, o2.trans o1, f2.trans f1, fun u hu hin b hb => ?_, fun u hu => (hsub u (c2 u hu)).1⟩
    · rcases n2 b hb with hb | ⟨u, hu, hb⟩
      · rcases n1 b hb with hb | ⟨hin, hb⟩
        · exact .inl hb
        · exact .inr ⟨t, hin, hb⟩
      · exact .inr ⟨u, (hsub u hu).1, hb⟩
    · by_cases e : u = t
      · subst e; exact s2 b (b1 hin b hb)
      · rcases List.mem_cons.1 hu with hu | hu
        · exact absurd hu e
        · exact b2 u hu (tags_mapS_of (frzF_tags_of e) st hin) b hb
theorem frzAll_H : ∀ (ts : List Nat) (s : St), (s.frzAll ts).H = s.H
  | [], _ => rfl
  | t :: ts, s => by simp only [St.frzAll]; rw [frzAll_H ts]; rfl
theorem frzAll_memlen : ∀ (ts : List Nat) (s : St), (s.frzAll ts).mem.length = s.mem.length
  | [], _ => rfl
  | t :: ts, s => by simp only [St.frzAll]; rw [frzAll_memlen ts, mapS_memlen]

/-- What is handed out, its tags struck: stable. -/
theorem lend_rep {stb : Nat → Prop} {n : Nat} (hs : ∀ b, g.stb b → stb b) {S : List Nat} (hS : ∀ t ∈ S, OwnT base g l w t ∧ ∀ b, (l.xv t).ownBlock = some b → stb b) :
    ∀ (a : AV) (v : Value), (∀ t ∈ tagsOf a, t ∈ S) → TRep g l w n a v → Rep w stb g.ob (frzV a) v := by
  have key : ∀ (m : Nat) (a : AV) (v : Value), SizeOf.sizeOf a ≤ m → (∀ t ∈ tagsOf a, t ∈ S) → TRep g l w n a v → Rep w stb g.ob (frzV a) v := by
    intro m
    induction m with
    | zero => intro a v h; cases a <;> simp at h
    | succ m ih =>
      intro a v hm ht h
      have many : ∀ (cs : List AV) (vs : List Value), SizeOf.sizeOf cs ≤ m → (∀ t ∈ tagsOfs cs, t ∈ S) → TReps g l w n cs vs → (mapTs lendF cs).length = vs.length ∧
          ∀ (i : Nat) (c : AV) (v : Value), (mapTs lendF cs)[i]? = some c → vs[i]? = some v → Rep w stb g.ob c v := by
        intro cs vs hs ht hr
        refine ⟨by rw [mapTs_length, hr.length], fun i c v hc hv => ?_⟩
        rw [mapTs_get, Option.map_eq_some_iff] at hc
        obtain ⟨c0, hc0, rfl⟩ := hc
        have := List.sizeOf_lt_of_mem (List.mem_of_getElem? hc0)
        exact ih c0 v (by omega) (fun t h => ht t (tagsOfs_get hc0 t h)) (hr.of i c0 v hc0 hv)
      cases a
      case sl t k xs =>
        cases t with
        | zero => simp only [TRep] at h; exact h.mono (fun _ _ => rfl) hs (fun _ _ h => h)
        | succ t =>
          simp only [TRep] at h
          obtain ⟨rfl, rfl, rfl⟩ := h
          obtain ⟨h1, h2⟩ := hS (t + 1) (ht _ (by simp [tagsOf, Nat.beq]))
          exact h1.rep hs h2
      case ep t k i o xs =>
        simp only [TRep] at h
        obtain ⟨rfl, rfl, _, hi, b, m', c, hv, rfl⟩ := h
        obtain ⟨h1, h2⟩ := hS t (ht _ (by simp [tagsOf]))
        exact h1.rep_ep hs h2 hi hv
      case agg cs =>
        simp only [TRep] at h
        obtain ⟨vs, rfl, h⟩ := h
        simp only [AV.agg.sizeOf_spec] at hm
        obtain ⟨h1, h2⟩ := many cs vs (by omega) (fun t h => ht t (by simpa [tagsOf] using h)) h
        exact .agg _ vs h1 h2
      case tup cs =>
        simp only [TRep] at h
        obtain ⟨vs, rfl, h⟩ := h
        simp only [AV.tup.sizeOf_spec] at hm
        obtain ⟨h1, h2⟩ := many cs vs (by omega) (fun t h => ht t (by simpa [tagsOf] using h)) h
        exact .tup _ vs h1 h2
      case iface q b =>
        simp only [TRep] at h
        obtain ⟨u, rfl, h⟩ := h
        simp only [AV.iface.sizeOf_spec] at hm
        exact .iface q _ u (ih b u (by omega) (fun t h => ht t (by simpa [tagsOf] using h)) h)
      case ptr j o => exact .any v
      case any => exact .any v
      case int k q => simp only [TRep] at h; subst h; exact .int k q
      case bool b => simp only [TRep] at h; subst h; exact .bool b
      case str s => simp only [TRep] at h; subst h; exact .str s
      case nilp => simp only [TRep] at h; subst h; exact .nilp
      case nilsl => simp only [TRep] at h; subst h; exact .nilsl
      case nilfn => simp only [TRep] at h; subst h; exact .nilfn
      case niliface => simp only [TRep] at h; subst h; exact .niliface
      case nilmap => simp only [TRep] at h; subst h; exact .nilmap
      case hs j o n c k => simp only [TRep] at h; exact h.mono (fun _ _ => rfl) hs (fun _ _ h => h)
      case he j k i o => simp only [TRep] at h; exact h.mono (fun _ _ => rfl) hs (fun _ _ h => h)
      case rp cs o => simp only [TRep] at h; exact h.mono (fun _ _ => rfl) hs (fun _ _ h => h)
      case fn f c => simp only [TRep] at h; exact h.mono (fun _ _ => rfl) hs (fun _ _ h => h)
      case obj j o => simp only [TRep] at h; exact h.mono (fun _ _ => rfl) hs (fun _ _ h => h)
      case map j => simp only [TRep] at h; exact h.mono (fun _ _ => rfl) hs (fun _ _ h => h)
  exact fun a v => key (SizeOf.sizeOf a) a v (Nat.le_refl _)
end

end Go.Proofs.Ytbkkhhmjmbbfpaa.Ab
