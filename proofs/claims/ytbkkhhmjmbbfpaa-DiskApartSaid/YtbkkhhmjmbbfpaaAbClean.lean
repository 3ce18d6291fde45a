/- The head of a loop: what is not live is forgotten, the tags are told anew. -/
import Derived.Test.YtbkkhhmjmbbfpaaAbCall
namespace Go.Proofs.Ytbkkhhmjmbbfpaa.Ab
open Go

section
variable {w0 : World} {g0 g : Gs} {l l' : Gl} {w : World} {st st' : St} {a : Act}

/-- The same frame, told otherwise. -/
theorem Inv.reshape (h : Inv w0 g0 g l w st a) (hH : st'.H = st.H) (hlen : st'.mem.length ≤ st.mem.length) (hloc : l'.loc = l.loc) (htm : TReps g l' w st'.mem.length st'.tm a.tmps.toList)
    (hmem : ∀ (j : Nat) (mb' : MB), st'.mem[j]? = some mb' → ∃ mb, st.mem[j]? = some mb ∧ mb'.mine = mb.mine ∧ BRep g l' w st'.mem.length (l.loc j) mb')
    (φ : Nat → Nat) (hown : ∀ t ∈ st'.tags, OwnT w0.heap.size g l' w t ∧ ((φ t ∈ st.tags ∧ l'.xv t = l.xv (φ t)) ∨ (l'.xv t).ownBlock = none))
    (hinj : ∀ t ∈ st'.tags, ∀ u ∈ st'.tags, φ t = φ u → t = u) : Inv w0 g0 g l' w st' a := by
  refine ⟨h.defers, htm, ?_, fun t ht => (hown t ht).1, ?_, ?_, ?_, ?_, by rw [hH]; exact h.heap, h.ext, h.stbLt⟩
  · intro j mb' hj
    obtain ⟨mb, _, _, hb⟩ := hmem j mb' hj
    rw [hloc]
    exact hb
  · intro j mb' hj hm
    obtain ⟨mb, h1, h2, _⟩ := hmem j mb' hj
    rw [hloc]
    exact h.priv j mb h1 (h2 ▸ hm)
  · intro i j mb' hi hm hj he
    obtain ⟨mb, h1, h2, _⟩ := hmem i mb' hi
    rw [hloc] at he
    exact h.inj i j mb h1 (h2 ▸ hm) (by omega) he
  · intro t ht b hb
    rcases (hown t ht).2 with ⟨h1, h2⟩ | h1
    · rw [h2] at hb
      obtain ⟨k1, k2, k3⟩ := h.ownPriv _ h1 b hb
      exact ⟨k1, k2, fun j hj => by rw [hloc]; exact k3 j (by omega)⟩
    · rw [h1] at hb; cases hb
  · intro t ht u hu b hb hb'
    rcases (hown t ht).2 with ⟨h1, h2⟩ | h1
    · rcases (hown u hu).2 with ⟨k1, k2⟩ | k1
      · rw [h2] at hb
        rw [k2] at hb'
        exact hinj t ht u hu (h.ownInj _ h1 _ k1 b hb hb')
      · rw [k1] at hb'; cases hb'
    · rw [h1] at hb; cases hb

theorem keep_rep {live : List (Nat × Nat)} {n : Nat} : ∀ (tm : List AV) (vs : List Value) (fresh i : Nat) (l : Gl), TReps g l w n tm vs → (∀ t ∈ tagsOfs tm, t < fresh) →
    ∃ l1 : Gl, l1.loc = l.loc ∧ (∀ u, u < fresh → l1.xv u = l.xv u ∧ l1.xc u = l.xc u ∧ l1.xk u = l.xk u) ∧ TReps g l1 w n (keep live fresh i tm) vs ∧
      ∀ t ∈ tagsOfs (keep live fresh i tm), t ∈ tagsOfs tm ∨ (fresh ≤ t ∧ l1.xv t = .slice none 0 0 ∧ l1.xc t = [] ∧ 0 < l1.xk t)
  | [], [], fresh, i, l, _, _ => ⟨l, rfl, fun _ _ => ⟨rfl, rfl, rfl⟩, by simp [keep, TReps], by simp [keep, tagsOfs]⟩
  | [], _ :: _, _, _, _, h, _ => by simp [TReps] at h
  | _ :: _, [], _, _, _, h, _ => by simp [TReps] at h
  | x :: r, v :: vs, fresh, i, l, h, ht => by
    simp only [TReps] at h
    have htr : ∀ t ∈ tagsOfs r, t < fresh := fun t h => ht t (by simp [tagsOfs, h])
    have htx : ∀ t ∈ tagsOf x, t < fresh := fun t h => ht t (by simp [tagsOfs, h])
    -- the slot's value stays, or is one of no memory
    have plain : ∀ (fr : Nat) (y : AV), fresh ≤ fr → (∀ l1 : Gl, l1.loc = l.loc → (∀ u, u < fresh → l1.xv u = l.xv u ∧ l1.xc u = l.xc u ∧ l1.xk u = l.xk u) → TRep g l1 w n y v) → (∀ t ∈ tagsOf y, t ∈ tagsOf x) →
        ∃ l1 : Gl, l1.loc = l.loc ∧ (∀ u, u < fresh → l1.xv u = l.xv u ∧ l1.xc u = l.xc u ∧ l1.xk u = l.xk u) ∧ TReps g l1 w n (y :: keep live fr (i + 1) r) (v :: vs) ∧
          ∀ t ∈ tagsOfs (y :: keep live fr (i + 1) r), t ∈ tagsOfs (x :: r) ∨ (fresh ≤ t ∧ l1.xv t = .slice none 0 0 ∧ l1.xc t = [] ∧ 0 < l1.xk t) := by
      intro fr y hfr hy hty
      obtain ⟨l1, h1, h2, h3, h4⟩ := keep_rep r vs fr (i + 1) l h.2 (fun t h => by have := htr t h; omega)
      refine ⟨l1, h1, fun u hu => h2 u (by omega), ?_, ?_⟩
      · simp only [TReps]
        exact ⟨hy l1 h1 (fun u hu => h2 u (by omega)), h3⟩
      · intro t ht
        simp only [tagsOfs, List.mem_append] at ht ⊢
        rcases ht with ht | ht
        · exact .inl (.inl (hty t ht))
        · rcases h4 t ht with h | ⟨k1, k2⟩
          · exact .inl (.inr h)
          · exact .inr ⟨by omega, k2⟩
    have same : ∀ l1 : Gl, l1.loc = l.loc → (∀ u, u < fresh → l1.xv u = l.xv u ∧ l1.xc u = l.xc u ∧ l1.xk u = l.xk u) → TRep g l1 w n x v := fun l1 hl hs =>
      TRep.mono (fun _ _ => rfl) (fun _ h => h) (fun _ _ h => h) (fun j _ => by rw [hl]) (Nat.le_refl _) _ _ (fun t h => hs t (htx t h)) h.1
    simp only [keep]
    cases hlv : live.lookup i with
    | none => exact plain fresh .any (Nat.le_refl _) (fun _ _ _ => by simp [TRep]) (by simp [tagsOf])
    | some how =>
      simp only
      by_cases hx : x = .nilsl
      · subst hx
        have hv : v = .slice none 0 0 := by simpa [TRep] using h.1
        match how with
        | 0 => exact plain _ _ (by omega) same (fun _ h => h)
        | 1 => exact plain _ (.sl 0 0 []) (by omega) (fun _ _ _ => by simp only [TRep]; rw [hv]; exact .sl0 _ _ _) (by simp [tagsOf])
        | k + 2 =>
          simp only [nilF]
          cases hk : Nat.blt 0 k with
          | false => exact plain _ .any (by omega) (fun _ _ _ => by simp [TRep]) (by simp [tagsOf])
          | true =>
            simp only [cond_true]
            have hk : 0 < k := by rwa [Nat.blt_eq] at hk
            let l0 := l.own fresh (.slice none 0 0) k []
            have hl0 : ∀ u, u < fresh → l0.xv u = l.xv u ∧ l0.xc u = l.xc u ∧ l0.xk u = l.xk u := fun u hu => Gl.own_ne (by omega)
            have hr0 : TReps g l0 w n r vs := TReps.mono (l := l) (l' := l0) (fun _ _ => rfl) (fun _ h => h) (fun _ _ h => h) (fun _ _ => rfl) (Nat.le_refl _) _ _ (fun t h => hl0 t (htr t h)) h.2
            obtain ⟨l1, h1, h2, h3, h4⟩ := keep_rep r vs (fresh + 1) (i + 1) l0 hr0 (fun t h => by have := htr t h; omega)
            obtain ⟨e1, e2, e3⟩ := h2 fresh (by omega)
            have q1 : l0.xv fresh = .slice none 0 0 := by simp [l0, Gl.own]
            have q2 : l0.xc fresh = [] := by simp [l0, Gl.own]
            have q3 : l0.xk fresh = k := by simp [l0, Gl.own]
            refine ⟨l1, h1, fun u hu => ?_, ?_, ?_⟩
            · obtain ⟨a1, a2, a3⟩ := h2 u (by omega)
              obtain ⟨b1, b2, b3⟩ := hl0 u hu
              exact ⟨a1.trans b1, a2.trans b2, a3.trans b3⟩
            · simp only [TReps]
              refine ⟨?_, h3⟩
              cases hf : fresh with
              | zero => simp only [TRep]; rw [hv]; exact .sl0 _ _ _
              | succ m =>
                simp only [TRep]
                rw [← hf, e1, e2, e3, q1, q2, q3]
                exact ⟨hv, rfl, rfl⟩
            · intro t ht
              simp only [tagsOfs, List.mem_append] at ht ⊢
              rcases ht with ht | ht
              · have : t = fresh := by
                  simp only [tagsOf] at ht
                  cases hb : Nat.beq fresh 0 <;> rw [hb] at ht <;> simp at ht
                  exact ht
                subst this
                refine .inr ⟨Nat.le_refl _, e1.trans q1, e2.trans q2, ?_⟩
                rw [e3, q3]
                exact hk
              · rcases h4 t ht with h | ⟨k1, k2⟩
                · exact .inl (.inr h)
                · exact .inr ⟨by omega, k2⟩
      · have hn : nilF how fresh x = x := by cases x <;> first | rfl | exact absurd rfl hx
        rw [hn]
        exact plain _ x (by omega) same (fun _ h => h)

theorem uniq_mem : ∀ (ts acc : List Nat) (t : Nat), t ∈ uniq acc ts ↔ t ∈ acc ∨ t ∈ ts
  | [], acc, t => by simp [uniq]
  | u :: r, acc, t => by
    simp only [uniq]
    cases he : acc.elem u with
    | true =>
      rw [cond_true, uniq_mem r acc t]
      have hu : u ∈ acc := by simpa using he
      simp only [List.mem_cons]
      constructor
      · rintro (h | h)
        · exact .inl h
        · exact .inr (.inr h)
      · rintro (h | h | h)
        · exact .inl h
        · subst h; exact .inl hu
        · exact .inr h
    | false =>
      rw [cond_false, uniq_mem r (acc ++ [u]) t]
      simp only [List.mem_append, List.mem_cons, List.not_mem_nil, or_false, or_assoc]

section
variable {f : AV → AV} {φ : Nat → Nat}
mutual
theorem mapT_tags_to (hf : ∀ c, leaf c = true → ∀ t ∈ tagsOf (f c), ∃ u ∈ tagsOf c, t = φ u) : ∀ a : AV, ∀ t ∈ tagsOf (mapT f a), ∃ u ∈ tagsOf a, t = φ u
  | .agg cs, t, h => by simp only [mapT, tagsOf] at h ⊢; exact mapTs_tags_to hf cs t h
  | .tup cs, t, h => by simp only [mapT, tagsOf] at h ⊢; exact mapTs_tags_to hf cs t h
  | .iface _ b, t, h => by simp only [mapT, tagsOf] at h ⊢; exact mapT_tags_to hf b t h
  | .sl _ _ _, t, h => hf _ rfl t h
  | .ep _ _ _ _ _, t, h => hf _ rfl t h
  | .any, t, h => hf _ rfl t h
  | .int _ _, t, h => hf _ rfl t h
  | .bool _, t, h => hf _ rfl t h
  | .str _, t, h => hf _ rfl t h
  | .nilp, t, h => hf _ rfl t h
  | .ptr _ _, t, h => hf _ rfl t h
  | .rp _ _, t, h => hf _ rfl t h
  | .nilsl, t, h => hf _ rfl t h
  | .fn _ _, t, h => hf _ rfl t h
  | .nilfn, t, h => hf _ rfl t h
  | .niliface, t, h => hf _ rfl t h
  | .obj _ _, t, h => hf _ rfl t h
  | .map _, t, h => hf _ rfl t h
  | .nilmap, t, h => hf _ rfl t h
  | .hs _ _ _ _ _, t, h => hf _ rfl t h
  | .he _ _ _ _, t, h => hf _ rfl t h
theorem mapTs_tags_to (hf : ∀ c, leaf c = true → ∀ t ∈ tagsOf (f c), ∃ u ∈ tagsOf c, t = φ u) : ∀ cs : List AV, ∀ t ∈ tagsOfs (mapTs f cs), ∃ u ∈ tagsOfs cs, t = φ u
  | [], t, h => by simp [mapTs, tagsOfs] at h
  | c :: cs, t, h => by
    simp only [mapTs, tagsOfs, List.mem_append] at h ⊢
    rcases h with h | h
    · obtain ⟨u, hu, e⟩ := mapT_tags_to hf c t h; exact ⟨u, .inl hu, e⟩
    · obtain ⟨u, hu, e⟩ := mapTs_tags_to hf cs t h; exact ⟨u, .inr hu, e⟩
end
theorem mapS_tags_to (hf : ∀ c, leaf c = true → ∀ t ∈ tagsOf (f c), ∃ u ∈ tagsOf c, t = φ u) (s : St) : ∀ t ∈ (s.mapS f).tags, ∃ u ∈ s.tags, t = φ u := by
  intro t ht
  simp only [St.tags, St.mapS, List.mem_append, List.mem_flatMap, List.mem_map] at ht
  rcases ht with ht | ⟨mb', ⟨mb, hm, rfl⟩, ht⟩
  · obtain ⟨u, hu, e⟩ := mapTs_tags_to hf s.tm t ht
    exact ⟨u, tags_tm hu, e⟩
  · cases mb with
    | cells cs =>
      obtain ⟨u, hu, e⟩ := mapTs_tags_to hf cs t ht
      exact ⟨u, by simp only [St.tags, List.mem_append, List.mem_flatMap]; exact .inr ⟨_, hm, hu⟩, e⟩
    | _ => simp [MB.mapM, MB.tags] at ht
end

theorem reF_tags (m : Nat) (ts : List Nat) : ∀ c, leaf c = true → ∀ t ∈ tagsOf (reF m ts c), ∃ u ∈ tagsOf c, t = ts.idxOf u + 1 := by
  intro c hl t ht
  cases c <;> simp only [reF] at ht <;> try (simp [tagsOf] at ht; done)
  case sl u k xs =>
    cases hb : Nat.beq u 0 with
    | true => rw [hb] at ht; simp [tagsOf, Nat.beq] at ht
    | false =>
      rw [hb] at ht
      simp only [cond_false, tagsOf] at ht
      simp only [tagsOf, hb, cond_false, List.mem_singleton, exists_eq_left]
      simpa [Nat.beq] using ht
  case ep u k i o xs => simpa [tagsOf] using ht
  case ptr j o => cases hb : Nat.blt j m <;> rw [hb] at ht <;> simp [tagsOf] at ht
  all_goals simp [leaf] at hl

theorem Inv.memNil1 (h : Inv w0 g0 g l w st a) (j i k : Nat) : ∃ l', Inv w0 g0 g l' w (Ab.memNil1 j i k st) a := by
  unfold Ab.memNil1
  split
  · rename_i cs hm
    split
    · rename_i hc
      cases hk : Nat.blt 0 k with
      | false => exact ⟨l, h⟩
      | true =>
        simp only [cond_true]
        have hk : 0 < k := by rwa [Nat.blt_eq] at hk
        have hj : st.mem[j]? = some (.cells cs) := by
          rw [List.getD_eq_getElem?_getD] at hm
          cases hq : st.mem[j]? with
          | none => rw [hq] at hm; simp at hm
          | some mb => rw [hq] at hm; simp at hm; rw [hm]
        have hi : cs[i]? = some .nilsl := by
          rw [List.getD_eq_getElem?_getD] at hc
          cases hq : cs[i]? with
          | none => rw [hq] at hc; simp at hc
          | some c => rw [hq] at hc; simp at hc; rw [hc]
        obtain ⟨f, hf⟩ : ∃ f, st.fresh = f + 1 := ⟨st.fresh - 1, by have := fresh_pos st; omega⟩
        have hnf : st.fresh ∉ st.tags := by have := fresh_not st 0; simpa using this
        let l' := l.own st.fresh (.slice none 0 0) k []
        have hne : ∀ t ∈ st.tags, l'.xv t = l.xv t ∧ l'.xc t = l.xc t ∧ l'.xk t = l.xk t := fun t ht => Gl.own_ne fun e => hnf (e ▸ ht)
        have q1 : l'.xv st.fresh = .slice none 0 0 := by simp [l', Gl.own]
        have q2 : l'.xc st.fresh = [] := by simp [l', Gl.own]
        have q3 : l'.xk st.fresh = k := by simp [l', Gl.own]
        have htg : ∀ t ∈ ({ st with mem := st.mem.set j (.cells (cs.set i (.sl st.fresh k []))) } : St).tags, t ∈ st.tags ∨ t = st.fresh := by
          intro t ht
          simp only [St.tags, List.mem_append, List.mem_flatMap] at ht
          rcases ht with ht | ⟨mb, hmb, ht⟩
          · exact .inl (tags_tm ht)
          · rcases List.mem_or_eq_of_mem_set hmb with hmb | rfl
            · obtain ⟨q, hq⟩ := List.mem_iff_getElem?.1 hmb
              exact .inl (tags_mem hq ht)
            · rcases tagsOfs_set (show t ∈ tagsOfs (cs.set i (.sl st.fresh k [])) from ht) with ht | ht
              · exact .inl (tags_mem hj ht)
              · rw [hf] at ht
                simp [tagsOf, Nat.beq] at ht
                exact .inr (by rw [ht, hf])
        refine ⟨l', h.reshape (l' := l') (st' := { st with mem := st.mem.set j (.cells (cs.set i (.sl st.fresh k []))) }) rfl (by simp) rfl ?_ ?_ id ?_ ?_⟩
        · simp only [List.length_set]
          exact TReps.mono (l := l) (l' := l') (fun _ _ => rfl) (fun _ h => h) (fun _ _ h => h) (fun _ _ => rfl) (Nat.le_refl _) _ _ (fun t ht => hne t (tags_tm ht)) h.tm
        · intro j' mb' hj'
          simp only [List.getElem?_set, List.length_set] at hj' ⊢
          by_cases e : j = j'
          · subst e
            rw [if_pos rfl] at hj'
            split at hj'
            · simp only [Option.some.injEq] at hj'
              subst hj'
              refine ⟨_, hj, rfl, ?_⟩
              obtain ⟨vs, ee, hh, hr, h1⟩ := h.mem j _ hj
              refine ⟨vs, ee, hh, ?_, h1⟩
              have hr' : TReps g l' w st.mem.length cs vs := TReps.mono (l := l) (l' := l') (fun _ _ => rfl) (fun _ h => h) (fun _ _ h => h) (fun _ _ => rfl) (Nat.le_refl _) _ _ (fun t ht => hne t (tags_mem hj ht)) hr
              obtain ⟨v, hv, hvr⟩ := hr.get hi
              simp only [TRep] at hvr
              have hs := hr'.set (c := .sl st.fresh k []) (v := v) (by rw [hf]; simp only [TRep]; rw [← hf, q1, q2, q3]; exact ⟨hvr, rfl, rfl⟩) i
              have hvs : vs.set i v = vs := by
                apply List.ext_getElem?
                intro q
                rw [List.getElem?_set]
                by_cases e : i = q
                · subst e
                  rw [if_pos rfl, hv]
                  split
                  · rfl
                  · rename_i hlt
                    rw [List.getElem?_eq_none (by omega)] at hv
                    cases hv
                · rw [if_neg e]
              rw [hvs] at hs
              exact hs
            · cases hj'
          · rw [if_neg e] at hj'
            refine ⟨mb', hj', rfl, ?_⟩
            exact (h.mem j' mb' hj').mono (fun _ => rfl) (fun t ht => hne t (tags_mem hj' ht)) (fun _ _ => rfl) (Nat.le_refl _) (fun _ _ => rfl) (fun _ h => h) (fun _ _ h => h)
        · intro t ht
          rcases htg t ht with ht | rfl
          · obtain ⟨a1, a2, a3⟩ := hne t ht
            exact ⟨(h.own t ht).at ⟨a1, a2, a3⟩, .inl ⟨ht, a1⟩⟩
          · refine ⟨?_, .inr (by rw [q1]; rfl)⟩
            unfold OwnT
            rw [q1, q2, q3]
            exact ⟨0, [], ⟨by simp, .inl ⟨rfl, rfl⟩⟩, ⟨hk, fun b _ _ _ hb => by cases hb⟩, by simp, by simp, by simp⟩
        · intro t _ u _ e
          exact e
    · exact ⟨l, h⟩
  · exact ⟨l, h⟩
theorem Inv.memNil : ∀ (live : List (Nat × Nat)) {l : Gl} {st : St}, Inv w0 g0 g l w st a → ∃ l', Inv w0 g0 g l' w (Ab.memNil live st) a
  | [], l, _, h => ⟨l, h⟩
  | (key, how) :: r, l, st, h => by
    simp only [Ab.memNil]
    cases Nat.ble 1000000 key with
    | false => exact Inv.memNil r h
    | true => obtain ⟨l', h'⟩ := h.memNil1 ((key - 1000000) / 1000) ((key - 1000000) % 1000) (how - 2); exact Inv.memNil r h'
/-- The head of a loop. -/
theorem Inv.clean (h' : Inv w0 g0 g l w st a) {live : List (Nat × Nat)} {m : Nat} : ∃ g' l', Inv w0 g0 g' l' w (Ab.clean live m st) a := by
  unfold Ab.clean
  obtain ⟨l, h⟩ := Inv.memNil live h'
  simp only
  generalize Ab.memNil live st = st at h ⊢
  obtain ⟨g1, h1, _⟩ := h.frzAll (stableTags live 0 st.tm) (by
    have hp := tags_pos h
    have : ∀ (tm : List AV) (i : Nat), ∀ t ∈ stableTags live i tm, t ∈ tagsOfs tm := by
      intro tm
      induction tm with
      | nil => intro i t ht; simp [stableTags] at ht
      | cons x r ih =>
        intro i t ht
        simp only [stableTags] at ht
        simp only [tagsOfs, List.mem_append]
        split at ht
        · rcases List.mem_append.1 ht with ht | ht
          · exact .inl ht
          · exact .inr (ih _ t ht)
        · exact .inr (ih _ t ht)
    exact fun t ht => hp t (tags_tm (this _ _ t ht)))
  generalize hs0 : st.frzAll (stableTags live 0 st.tm) = s0 at h1
  generalize hs1 : ({ s0 with tm := keep live s0.fresh 0 s0.tm, mem := s0.mem.take m } : St) = s1
  have hfr : ∀ t ∈ s0.tags, t < s0.fresh := fun t ht => by
    rcases Nat.lt_or_ge t s0.fresh with h | h
    · exact h
    · have := fresh_not s0 (t - s0.fresh)
      rw [show s0.fresh + (t - s0.fresh) = t by omega] at this
      exact absurd ht this
  obtain ⟨l1, e1, e2, e3, e4⟩ := keep_rep (g := g1) (live := live) s0.tm a.tmps.toList s0.fresh 0 l h1.tm (fun t ht => hfr t (tags_tm ht))
  have ets : tagsOfs (keep live s0.fresh 0 s0.tm) ++ (List.take m s0.mem).flatMap MB.tags = s1.tags := by rw [← hs1]; rfl
  rw [ets]
  have hmemlen : s1.mem.length = min m s0.mem.length := by rw [← hs1]; simp
  have hmemget : ∀ (j : Nat) (mb : MB), s1.mem[j]? = some mb → j < m ∧ s0.mem[j]? = some mb := by
    intro j mb hj
    rw [← hs1] at hj
    simp only [List.getElem?_take] at hj
    split at hj
    · exact ⟨by assumption, hj⟩
    · cases hj
  -- a tag of the new state is an old one, or a nil slice's
  have htg : ∀ u ∈ s1.tags, u ∈ s0.tags ∨ (s0.fresh ≤ u ∧ l1.xv u = .slice none 0 0 ∧ l1.xc u = [] ∧ 0 < l1.xk u) := by
    intro u hu
    simp only [St.tags, List.mem_append, List.mem_flatMap] at hu
    rcases hu with hu | ⟨mb, hmb, hu⟩
    · rw [← hs1] at hu
      rcases e4 u hu with h | h
      · exact .inl (tags_tm h)
      · exact .inr h
    · obtain ⟨j, hj⟩ := List.mem_iff_getElem?.1 hmb
      exact .inl (tags_mem (hmemget j mb hj).2 hu)
  let ts := uniq [] s1.tags
  have hts : ∀ u, u ∈ ts ↔ u ∈ s1.tags := fun u => by simp [ts, uniq_mem]
  have hidx : ∀ u ∈ s1.tags, ts.getD (ts.idxOf u) 0 = u := by
    intro u hu
    have hlt : ts.idxOf u < ts.length := List.idxOf_lt_length_iff.2 ((hts u).2 hu)
    rw [List.getD_eq_getElem?_getD, List.getElem?_eq_getElem hlt, Option.getD_some]
    exact List.getElem_idxOf hlt
  let l2 : Gl := { loc := l1.loc, xv := fun t => l1.xv (ts.getD (t - 1) 0), xc := fun t => l1.xc (ts.getD (t - 1) 0), xk := fun t => l1.xk (ts.getD (t - 1) 0) }
  have hl2 : ∀ u ∈ s1.tags, l2.xv (ts.idxOf u + 1) = l1.xv u ∧ l2.xc (ts.idxOf u + 1) = l1.xc u ∧ l2.xk (ts.idxOf u + 1) = l1.xk u := by
    intro u hu
    have := hidx u hu
    simp only [l2, Nat.add_sub_cancel, this, and_self]
  have hre : ∀ c v, leaf c = true → (∀ t ∈ tagsOf c, t ∈ s1.tags) → TRep g1 l1 w s0.mem.length c v → TRep g1 l2 w (min m s0.mem.length) (reF m ts c) v := by
    intro c v hl ht hr
    cases c <;> simp only [reF]
    case sl u k xs =>
      cases u with
      | zero => simpa only [Nat.beq, cond_true, TRep] using hr
      | succ u =>
        simp only [Nat.beq, cond_false, TRep] at hr ⊢
        obtain ⟨q1, q2, q3⟩ := hl2 (u + 1) (ht _ (by simp [tagsOf, Nat.beq]))
        rw [q1, q2, q3]
        exact hr
    case ep u k i o xs =>
      simp only [TRep] at hr ⊢
      obtain ⟨q1, q2, q3⟩ := hl2 u (ht _ (by simp [tagsOf]))
      rw [q1, q2, q3]
      exact ⟨hr.1, hr.2.1, by omega, hr.2.2.2⟩
    case ptr j o =>
      cases hb : Nat.blt j m with
      | false => simp [TRep]
      | true =>
        simp only [cond_true, TRep] at hr ⊢
        rw [Nat.blt_eq] at hb
        exact ⟨by omega, hr.2⟩
    all_goals first | (simp [leaf] at hl; done) | (simp only [TRep] at hr ⊢; done) | (simp only [TRep] at hr ⊢; exact hr)
  refine ⟨g1, l2, h1.reshape (st' := s1.mapS (reF m ts)) ?_ ?_ e1 ?_ ?_ (fun t => ts.getD (t - 1) 0) ?_ ?_⟩
  · rw [mapS_H, ← hs1]
  · rw [mapS_memlen, hmemlen]; omega
  · rw [mapS_memlen, hmemlen]
    refine mapTs_rep (S := s1.tags) hre _ _ (fun t ht => tags_tm ht) ?_
    rw [← hs1]
    exact e3
  · intro j mb' hj
    simp only [St.mapS, List.getElem?_map, Option.map_eq_some_iff] at hj
    obtain ⟨mb, hj, rfl⟩ := hj
    obtain ⟨hjm, hj0⟩ := hmemget j mb hj
    refine ⟨mb, hj0, MB.mine_map _ _, ?_⟩
    rw [mapS_memlen, hmemlen]
    have hb : BRep g1 l1 w s0.mem.length (l.loc j) mb := (h1.mem j mb hj0).mono (fun _ => rfl) (fun t ht => e2 t (hfr t (tags_mem hj0 ht))) (fun _ _ => by rw [e1]) (Nat.le_refl _) (fun _ _ => rfl) (fun _ h => h) (fun _ _ h => h)
    cases mb with
    | cells cs =>
      obtain ⟨vs, e, hh, hr, q⟩ := hb
      exact ⟨vs, e, hh, mapTs_rep (S := s1.tags) hre cs vs (fun t ht => tags_mem hj ht) hr, q⟩
    | frz cs => exact hb
    | siter s p => exact hb
    | miter _ _ _ _ _ _ => exact hb
    | dead => exact hb
  · intro t ht
    obtain ⟨u, hu, rfl⟩ := mapS_tags_to (reF_tags m ts) s1 t ht
    obtain ⟨q1, q2, q3⟩ := hl2 u hu
    simp only [Nat.add_sub_cancel, hidx u hu]
    rcases htg u hu with hold | ⟨_, k1, k2, k3⟩
    · obtain ⟨a1, a2, a3⟩ := e2 u (hfr u hold)
      exact ⟨(h1.own u hold).at ⟨q1.trans a1, q2.trans a2, q3.trans a3⟩, .inl ⟨hold, q1.trans a1⟩⟩
    · refine ⟨?_, .inr (by rw [q1, k1]; rfl)⟩
      unfold OwnT
      rw [q1, q2, q3, k1, k2]
      exact ⟨0, [], ⟨by simp, .inl ⟨rfl, rfl⟩⟩, ⟨k3, fun b _ _ _ hb => by cases hb⟩, by simp, by simp, by simp⟩
  · intro t ht u hu he
    obtain ⟨t', ht', rfl⟩ := mapS_tags_to (reF_tags m ts) s1 t ht
    obtain ⟨u', hu', rfl⟩ := mapS_tags_to (reF_tags m ts) s1 u hu
    simp only [Nat.add_sub_cancel, hidx t' ht', hidx u' hu'] at he
    rw [he]
end
end Go.Proofs.Ytbkkhhmjmbbfpaa.Ab
