/- What holds of a frame while it runs, and what keeps it. -/
import Derived.Test.YtbkkhhmjmbbfpaaAbRep
namespace Go.Proofs.Ytbkkhhmjmbbfpaa.Ab
open Go

/-- The world goes on: what lay there lies there, but for the objects' blocks. -/
structure Ext (w0 : World) (g0 : Gs) (w : World) (g : Gs) : Prop where
  os : w.os = w0.os
  tape : w.tape = w0.tape
  output : w.output = w0.output
  size : w0.heap.size ≤ w.heap.size
  keep : ∀ b, b < w0.heap.size → ¬ g0.foot b → w.heap[b]? = w0.heap[b]?
  stb : ∀ b, g0.stb b → g.stb b
  stbNew : ∀ b, g.stb b → g0.stb b ∨ w0.heap.size ≤ b ∨ g0.foot b
  ob : ∀ j b, g0.ob j = some b → g.ob j = some b
  footNew : ∀ b, g.foot b → g0.foot b ∨ w0.heap.size ≤ b

theorem Ext.refl (w : World) (g : Gs) : Ext w g w g := ⟨rfl, rfl, rfl, Nat.le_refl _, fun _ _ _ => rfl, fun _ h => h, fun _ h => .inl h, fun _ _ h => h, fun _ h => .inl h⟩
theorem Ext.trans {w0 w1 w2 : World} {g0 g1 g2 : Gs} (h : Ext w0 g0 w1 g1) (k : Ext w1 g1 w2 g2) : Ext w0 g0 w2 g2 where
  os := k.os.trans h.os
  tape := k.tape.trans h.tape
  output := k.output.trans h.output
  size := Nat.le_trans h.size k.size
  keep b hb hf := by
    have h1 : ¬ g1.foot b := fun h1 => by rcases h.footNew b h1 with h2 | h2; · exact hf h2
                                          · omega
    exact (k.keep b (Nat.lt_of_lt_of_le hb h.size) h1).trans (h.keep b hb hf)
  stb b hb := k.stb b (h.stb b hb)
  stbNew b hb := by
    rcases k.stbNew b hb with h1 | h1 | h1
    · exact h.stbNew b h1
    · exact .inr (.inl (Nat.le_trans h.size h1))
    · rcases h.footNew b h1 with h2 | h2
      · exact .inr (.inr h2)
      · exact .inr (.inl h2)
  ob j b hb := k.ob j b (h.ob j b hb)
  footNew b hb := by
    rcases k.footNew b hb with h1 | h1
    · exact h.footNew b h1
    · exact .inr (Nat.le_trans h.size h1)

/-- What lies in a block of the heap. -/
def HRep (g : Gs) (w : World) (b : Nat) : HB → Prop
  | .dead => True
  | .cells cs => ∃ vs e, w.heap[b]? = some (.cells (List.toArray vs) e (0, 0)) ∧ vs.length = cs.length ∧ (∀ u ∈ vs, u.oneCell' = true) ∧
      ∀ (i : Nat) (c : AV) (v : Value), cs[i]? = some c → vs[i]? = some v → Rep w g.stb g.ob c v
  | .map es c => ∃ vs : List MapEntry, w.heap[b]? = some (.map vs.toArray c) ∧ vs.length = es.length ∧ ∀ (i : Nat) (a : Nat × AV × AV) (v : MapEntry), es[i]? = some a → vs[i]? = some v → v.born = a.1 ∧ Rep w g.stb g.ob a.2.1 v.key ∧ Rep w g.stb g.ob a.2.2 v.val
  | .rows k xs => ∃ vs e, w.heap[b]? = some (.cells (List.toArray vs) e (0, 0)) ∧ vs.length = xs.length * k ∧ 0 < k ∧ xs.length ≤ maxLen ∧ (∀ x ∈ xs, x.length = k) ∧ (∀ u ∈ vs, u.oneCell' = true) ∧
      ∀ (i : Nat) (x : List AV) (j : Nat) (c : AV), xs[i]? = some x → x[j]? = some c → ∃ v, vs[i * k + j]? = some v ∧ Rep w g.stb g.ob c v
/-- A package's table lies where it lay. -/
def FixAt (w : World) (p : Nat × IntKind × List Int) : Prop := ∃ e fr, w.heap[p.1]? = some (.cells (p.2.2.map fun n => Value.int p.2.1 n).toArray e fr)
theorem FixAt.mono {w w' : World} {p : Nat × IntKind × List Int} (h : FixAt w p) (hw : w'.heap[p.1]? = w.heap[p.1]?) : FixAt w' p := let ⟨e, fr, q⟩ := h; ⟨e, fr, hw.trans q⟩
theorem FixAt.cell {w : World} {p : Nat × IntKind × List Int} (h : FixAt w p) {i : Nat} {n : Int} (hi : p.2.2[i]? = some n) : w.cell? ⟨p.1, i, none⟩ = some (.int p.2.1 n) := by
  obtain ⟨e, fr, q⟩ := h
  simp [World.cell?, q, hi]
/-- The objects: each that lives lies in a block of its own. -/
structure HOK (g : Gs) (w : World) (H : Heap) : Prop where
  lt : ∀ j b, g.ob j = some b → j < H.next
  top : ∀ j, H.next ≤ j → H.get j = .dead
  live : ∀ j, H.get j ≠ .dead → ∃ b, g.ob j = some b ∧ g.foot b ∧ b < w.heap.size ∧ HRep g w b (H.get j)
  inj : ∀ i j b, H.get i ≠ .dead → H.get j ≠ .dead → g.ob i = some b → g.ob j = some b → i = j
  foot : ∀ b, g.foot b → ∃ j, H.get j ≠ .dead ∧ g.ob j = some b
  fx : ∀ p ∈ fxT, g.stb p.1 ∧ FixAt w p
theorem HRep.mono {g g' : Gs} {w w' : World} {b : Nat} {x : HB} (h : HRep g w b x) (hb : w'.heap[b]? = w.heap[b]?) (hw : ∀ b, g.stb b → w'.heap[b]? = w.heap[b]?) (hs : ∀ b, g.stb b → g'.stb b) (ho : ∀ j b, g.ob j = some b → g'.ob j = some b) : HRep g' w' b x := by
  cases x with
  | dead => trivial
  | cells cs =>
    obtain ⟨vs, e, h1, h2, h3, h4⟩ := h
    exact ⟨vs, e, hb.trans h1, h2, h3, fun i c v hc hv => (h4 i c v hc hv).mono hw hs ho⟩
  | map es c =>
    obtain ⟨vs, h1, h2, h3⟩ := h
    exact ⟨vs, hb.trans h1, h2, fun i a v ha hv => ⟨(h3 i a v ha hv).1, (h3 i a v ha hv).2.1.mono hw hs ho, (h3 i a v ha hv).2.2.mono hw hs ho⟩⟩
  | rows k xs =>
    obtain ⟨vs, e, h1, h2, h3, h4, h5, h6, h7⟩ := h
    exact ⟨vs, e, hb.trans h1, h2, h3, h4, h5, h6, fun i x j c hx hc => let ⟨v, hv, hr⟩ := h7 i x j c hx hc; ⟨v, hv, hr.mono hw hs ho⟩⟩
theorem HOK.foot_lt {g : Gs} {w : World} {H : Heap} (h : HOK g w H) {b : Nat} (hb : g.foot b) : b < w.heap.size := by
  obtain ⟨j, hj, ho⟩ := h.foot b hb
  obtain ⟨b', ho', _, hlt, _⟩ := h.live j hj
  rw [ho] at ho'
  cases ho'
  exact hlt
theorem HOK.mono {g g' : Gs} {w w' : World} {H : Heap} (h : HOK g w H) (hk : ∀ b, g.foot b → w'.heap[b]? = w.heap[b]?) (hw : ∀ b, g.stb b → w'.heap[b]? = w.heap[b]?) (hs : ∀ b, g.stb b → g'.stb b)
    (ho : g'.ob = g.ob) (hf : g'.foot = g.foot) (hsize : w.heap.size ≤ w'.heap.size) : HOK g' w' H where
  lt j b hj := h.lt j b (by rw [← ho]; exact hj)
  top := h.top
  live j hj := by
    obtain ⟨b, h1, h2, h3, h4⟩ := h.live j hj
    exact ⟨b, by rw [ho]; exact h1, by rw [hf]; exact h2, by omega, h4.mono (hk b h2) hw hs (fun j b h => by rw [ho]; exact h)⟩
  inj i j b hi hj h1 h2 := h.inj i j b hi hj (by rw [← ho]; exact h1) (by rw [← ho]; exact h2)
  foot b hb := by
    obtain ⟨j, h1, h2⟩ := h.foot b (by rw [← hf]; exact hb)
    exact ⟨j, h1, by rw [ho]; exact h2⟩
  fx p hp := ⟨hs _ (h.fx p hp).1, (h.fx p hp).2.mono (hw _ (h.fx p hp).1)⟩

/-- Each cell of a slice's block holds one cell. -/
def AllOne (w : World) (v : Value) : Prop := ∀ b cs e fr, v.ownBlock = some b → w.heap[b]? = some (.cells cs e fr) → ∀ u ∈ cs.toList, u.oneCell' = true
/-- A frame's own slice. -/
def OwnT (base : Nat) (g : Gs) (l : Gl) (w : World) (t : Nat) : Prop :=
  ∃ e fl, w.ownsRow base e (l.xk t) (l.xv t) (l.xc t).length fl ∧ (0 < l.xk t ∧ AllOne w (l.xv t)) ∧ (∀ x ∈ l.xc t, x.length = l.xk t) ∧ (∀ u ∈ fl, u.oneCell' = true) ∧
    ∀ (i : Nat) (x : List AV) (j : Nat) (c : AV), (l.xc t)[i]? = some x → x[j]? = some c → ∃ v, fl[i * l.xk t + j]? = some v ∧ Rep w g.stb g.ob c v

def BRep (g : Gs) (l : Gl) (w : World) (n b : Nat) : MB → Prop
  | .cells cs => ∃ vs e, w.heap[b]? = some (.cells (List.toArray vs) e (0, 0)) ∧ TReps g l w n cs vs ∧ ∀ u ∈ vs, u.oneCell' = true
  | .frz cs => g.stb b ∧ ∃ vs : Nat → Value, (∀ i, i < cs.length → w.cell? ⟨b, i, none⟩ = some (vs i)) ∧ (∀ i, i < cs.length → (vs i).oneCell' = true) ∧ ∀ (i : Nat) (c : AV), cs[i]? = some c → Rep w g.stb g.ob c (vs i)
  | .siter s pos => w.heap[b]? = some (.stringIter s pos)
  | .miter j _ _ since stepped seen => ∃ b', w.heap[b]? = some (.mapIter (some b') since (List.toArray seen.reverse) stepped) ∧ g.ob j = some b' ∧ since ≤ stepped
  | .dead => False
def MB.mine : MB → Bool | .frz _ => false | .dead => false | _ => true

structure Inv (w0 : World) (g0 : Gs) (g : Gs) (l : Gl) (w : World) (st : St) (a : Act) : Prop where
  defers : a.defers = []
  tm : TReps g l w st.mem.length st.tm a.tmps.toList
  mem : ∀ (j : Nat) (mb : MB), st.mem[j]? = some mb → BRep g l w st.mem.length (l.loc j) mb
  own : ∀ t ∈ st.tags, OwnT w0.heap.size g l w t
  priv : ∀ (j : Nat) (mb : MB), st.mem[j]? = some mb → mb.mine = true → w0.heap.size ≤ l.loc j ∧ l.loc j < w.heap.size ∧ ¬ g.stb (l.loc j) ∧ ¬ g.foot (l.loc j)
  inj : ∀ (i j : Nat) (mb : MB), st.mem[i]? = some mb → mb.mine = true → j < st.mem.length → l.loc i = l.loc j → i = j
  ownPriv : ∀ t ∈ st.tags, ∀ b, (l.xv t).ownBlock = some b → ¬ g.stb b ∧ ¬ g.foot b ∧ ∀ j, j < st.mem.length → l.loc j ≠ b
  ownInj : ∀ t ∈ st.tags, ∀ u ∈ st.tags, ∀ b, (l.xv t).ownBlock = some b → (l.xv u).ownBlock = some b → t = u
  heap : HOK g w st.H
  ext : Ext w0 g0 w g
  stbLt : ∀ b, g.stb b → b < w.heap.size ∧ ¬ g.foot b

/-! Values under maps. -/
def leaf : AV → Bool
  | .agg _ => false
  | .tup _ => false
  | .iface _ _ => false
  | _ => true
section
variable {f : AV → AV} {p : Nat → Prop}
mutual
theorem mapT_tags (hf : ∀ c, leaf c = true → ∀ u ∈ tagsOf (f c), u ∈ tagsOf c ∧ p u) : ∀ a : AV, ∀ u ∈ tagsOf (mapT f a), u ∈ tagsOf a ∧ p u
  | .agg cs, u, h => by simp only [mapT, tagsOf] at h ⊢; exact mapTs_tags hf cs u h
  | .tup cs, u, h => by simp only [mapT, tagsOf] at h ⊢; exact mapTs_tags hf cs u h
  | .iface _ v, u, h => by simp only [mapT, tagsOf] at h ⊢; exact mapT_tags hf v u h
  | .sl t k xs, u, h => hf _ rfl u h
  | .ep t k i o xs, u, h => hf _ rfl u h
  | .any, u, h => hf _ rfl u h
  | .int k m, u, h => hf _ rfl u h
  | .bool b, u, h => hf _ rfl u h
  | .str s, u, h => hf _ rfl u h
  | .nilp, u, h => hf _ rfl u h
  | .ptr j o, u, h => hf _ rfl u h
  | .rp cs o, u, h => hf _ rfl u h
  | .nilsl, u, h => hf _ rfl u h
  | .fn f c, u, h => hf _ rfl u h
  | .nilfn, u, h => hf _ rfl u h
  | .niliface, u, h => hf _ rfl u h
  | .obj j o, u, h => hf _ rfl u h
  | .map j, u, h => hf _ rfl u h
  | .nilmap, u, h => hf _ rfl u h
  | .hs _ _ _ _ _, u, h => hf _ rfl u h
  | .he _ _ _ _, u, h => hf _ rfl u h
theorem mapTs_tags (hf : ∀ c, leaf c = true → ∀ u ∈ tagsOf (f c), u ∈ tagsOf c ∧ p u) : ∀ cs : List AV, ∀ u ∈ tagsOfs (mapTs f cs), u ∈ tagsOfs cs ∧ p u
  | [], u, h => by simp [mapTs, tagsOfs] at h
  | c :: cs, u, h => by
    simp only [mapTs, tagsOfs, List.mem_append] at h ⊢
    rcases h with h | h
    · exact ⟨.inl (mapT_tags hf c u h).1, (mapT_tags hf c u h).2⟩
    · exact ⟨.inr (mapTs_tags hf cs u h).1, (mapTs_tags hf cs u h).2⟩
end
variable {g g' : Gs} {l l' : Gl} {w w' : World} {n n' : Nat} {S : List Nat}
mutual
theorem mapT_rep (hf : ∀ c v, leaf c = true → (∀ t ∈ tagsOf c, t ∈ S) → TRep g l w n c v → TRep g' l' w' n' (f c) v) : ∀ (a : AV) (v : Value), (∀ t ∈ tagsOf a, t ∈ S) → TRep g l w n a v → TRep g' l' w' n' (mapT f a) v
  | .agg cs, v, ht, h => by
    simp only [mapT, TRep] at h ⊢
    obtain ⟨vs, rfl, h⟩ := h
    exact ⟨vs, rfl, mapTs_rep hf cs vs (fun t h => ht t (by simpa [tagsOf] using h)) h⟩
  | .tup cs, v, ht, h => by
    simp only [mapT, TRep] at h ⊢
    obtain ⟨vs, rfl, h⟩ := h
    exact ⟨vs, rfl, mapTs_rep hf cs vs (fun t h => ht t (by simpa [tagsOf] using h)) h⟩
  | .iface _ b, v, ht, h => by
    simp only [mapT, TRep] at h ⊢
    obtain ⟨u, rfl, h⟩ := h
    exact ⟨u, rfl, mapT_rep hf b u (fun t h => ht t (by simpa [tagsOf] using h)) h⟩
  | .sl t k xs, v, ht, h => hf _ v rfl ht h
  | .ep t k i o xs, v, ht, h => hf _ v rfl ht h
  | .any, v, ht, h => hf _ v rfl ht h
  | .int k m, v, ht, h => hf _ v rfl ht h
  | .bool b, v, ht, h => hf _ v rfl ht h
  | .str s, v, ht, h => hf _ v rfl ht h
  | .nilp, v, ht, h => hf _ v rfl ht h
  | .ptr j o, v, ht, h => hf _ v rfl ht h
  | .rp cs o, v, ht, h => hf _ v rfl ht h
  | .nilsl, v, ht, h => hf _ v rfl ht h
  | .fn f c, v, ht, h => hf _ v rfl ht h
  | .nilfn, v, ht, h => hf _ v rfl ht h
  | .niliface, v, ht, h => hf _ v rfl ht h
  | .obj j o, v, ht, h => hf _ v rfl ht h
  | .map j, v, ht, h => hf _ v rfl ht h
  | .nilmap, v, ht, h => hf _ v rfl ht h
  | .hs _ _ _ _ _, v, ht, h => hf _ v rfl ht h
  | .he _ _ _ _, v, ht, h => hf _ v rfl ht h
theorem mapTs_rep (hf : ∀ c v, leaf c = true → (∀ t ∈ tagsOf c, t ∈ S) → TRep g l w n c v → TRep g' l' w' n' (f c) v) : ∀ (cs : List AV) (vs : List Value), (∀ t ∈ tagsOfs cs, t ∈ S) → TReps g l w n cs vs → TReps g' l' w' n' (mapTs f cs) vs
  | [], [], _, _ => by simp [mapTs, TReps]
  | c :: cs, v :: vs, ht, h => by
    simp only [mapTs, TReps] at h ⊢
    exact ⟨mapT_rep hf c v (fun t h => ht t (by simp [tagsOfs, h])) h.1, mapTs_rep hf cs vs (fun t h => ht t (by simp [tagsOfs, h])) h.2⟩
  | [], _ :: _, _, h => by simp [TReps] at h
  | _ :: _, [], _, h => by simp [TReps] at h
end
end
theorem mapTs_length (f : AV → AV) : ∀ cs : List AV, (mapTs f cs).length = cs.length
  | [] => rfl
  | _ :: cs => by simp [mapTs, mapTs_length f cs]
theorem mapTs_get (f : AV → AV) : ∀ (cs : List AV) (i : Nat), (mapTs f cs)[i]? = (cs[i]?).map (mapT f)
  | [], i => by simp [mapTs]
  | c :: cs, 0 => by simp [mapTs]
  | c :: cs, i + 1 => by simp [mapTs, mapTs_get f cs i]

theorem killF_tags (t : Nat) : ∀ c, leaf c = true → ∀ u ∈ tagsOf (killF t c), u ∈ tagsOf c ∧ u ≠ t := by
  intro c hc u h
  cases c <;> try (simp only [killF] at h; simp [tagsOf] at h; done)
  case sl t' k xs =>
    simp only [killF] at h
    cases e : Nat.beq t' t <;> rw [e] at h
    · refine ⟨h, fun hh => ?_⟩
      subst hh
      simp only [cond_false, tagsOf] at h
      cases e0 : Nat.beq t' 0 <;> rw [e0] at h <;> simp at h
      subst h
      simp at e
    · simp [tagsOf] at h
  case ep t' k i o xs =>
    simp only [killF] at h
    cases e : Nat.beq t' t <;> rw [e] at h
    · refine ⟨h, fun hh => ?_⟩
      subst hh
      simp only [cond_false, tagsOf, List.mem_singleton] at h
      subst h
      simp at e
    · simp [tagsOf] at h
  all_goals simp_all [leaf]


theorem mem_foldl_max : ∀ (ts : List Nat) (m : Nat), m ≤ ts.foldl Nat.max m ∧ ∀ t ∈ ts, t ≤ ts.foldl Nat.max m
  | [], m => by simp
  | t :: ts, m => by
    have h := mem_foldl_max ts (Nat.max m t)
    simp only [List.foldl_cons, List.mem_cons, forall_eq_or_imp]
    have h1 : m ≤ Nat.max m t := Nat.le_max_left m t
    have h2 : t ≤ Nat.max m t := Nat.le_max_right m t
    exact ⟨Nat.le_trans h1 h.1, Nat.le_trans h2 h.1, h.2⟩
theorem fresh_not (s : St) (k : Nat) : s.fresh + k ∉ s.tags := by
  intro h
  have := (mem_foldl_max s.tags 0).2 _ h
  unfold St.fresh at this
  omega
theorem fresh_pos (s : St) : 0 < s.fresh := by unfold St.fresh; omega

theorem tags_tm {s : St} {t : Nat} (h : t ∈ tagsOfs s.tm) : t ∈ s.tags := by simp [St.tags, h]
theorem tags_mem {s : St} {t j : Nat} {mb : MB} (h : s.mem[j]? = some mb) (ht : t ∈ mb.tags) : t ∈ s.tags := by
  simp only [St.tags, List.mem_append, List.mem_flatMap]
  exact .inr ⟨mb, List.mem_of_getElem? h, ht⟩
theorem tagsOfs_get : ∀ {cs : List AV} {i : Nat} {c : AV}, cs[i]? = some c → ∀ t ∈ tagsOf c, t ∈ tagsOfs cs
  | [], i, c, h => by simp at h
  | c0 :: cs, 0, c, h => by simp at h; subst h; intro t ht; simp [tagsOfs, ht]
  | c0 :: cs, i + 1, c, h => by
    intro t ht
    simp only [tagsOfs, List.mem_append]
    exact .inr (tagsOfs_get (by simpa using h) t ht)
theorem tagsOfs_iff : ∀ {cs : List AV} {t : Nat}, t ∈ tagsOfs cs → ∃ (i : Nat) (c : AV), cs[i]? = some c ∧ t ∈ tagsOf c
  | [], t, h => by simp [tagsOfs] at h
  | c :: cs, t, h => by
    simp only [tagsOfs, List.mem_append] at h
    rcases h with h | h
    · exact ⟨0, c, by simp, h⟩
    · obtain ⟨i, c', hc, ht⟩ := tagsOfs_iff h
      exact ⟨i + 1, c', by simpa using hc, ht⟩
theorem tagsOfs_set {cs : List AV} {d : Nat} {c : AV} {t : Nat} (h : t ∈ tagsOfs (cs.set d c)) : t ∈ tagsOfs cs ∨ t ∈ tagsOf c := by
  obtain ⟨i, c', hc, ht⟩ := tagsOfs_iff h
  rw [List.getElem?_set] at hc
  split at hc
  · split at hc
    · cases hc; exact .inr ht
    · cases hc
  · exact .inl (tagsOfs_get hc t ht)

/-- The blocks that a frame leans on. -/
def Leans (g : Gs) (l : Gl) (st : St) (b : Nat) : Prop :=
  g.stb b ∨ (∃ (j : Nat) (mb : MB), st.mem[j]? = some mb ∧ mb.mine = true ∧ l.loc j = b) ∨ ∃ t ∈ st.tags, (l.xv t).ownBlock = some b

section
variable {w0 : World} {g0 g g' : Gs} {l l' : Gl} {w w' : World} {st st' : St} {a a' : Act} {base : Nat}

theorem OwnT.mono {t : Nat} (h : OwnT base g l w t) (ht : l'.xv t = l.xv t ∧ l'.xc t = l.xc t ∧ l'.xk t = l.xk t) (hb : ∀ b, (l.xv t).ownBlock = some b → w'.heap[b]? = w.heap[b]?)
    (hw : ∀ b, g.stb b → w'.heap[b]? = w.heap[b]?) (hs : ∀ b, g.stb b → g'.stb b) (ho : ∀ j b, g.ob j = some b → g'.ob j = some b) : OwnT base g' l' w' t := by
  obtain ⟨e, fl, hown, hk, hx, h1, hr⟩ := h
  obtain ⟨e1, e2, e3⟩ := ht
  refine ⟨e, fl, ?_, ?_, ?_, h1, ?_⟩
  · rw [e1, e2, e3]
    refine ⟨hown.1, ?_⟩
    rcases hown.2 with h | ⟨b, cap, cur, hv, hbb, hh, rest⟩
    · exact .inl h
    · refine .inr ⟨b, cap, cur, hv, hbb, ?_, rest⟩
      rw [hb b (by rw [hv]; rfl)]
      exact hh
  · rw [e3, e1]; exact ⟨hk.1, fun b cs e fr h1 h2 => hk.2 b cs e fr h1 (by rw [← hb b h1]; exact h2)⟩
  · rw [e2, e3]; exact hx
  · rw [e2, e3]
    intro i x j c hi hj
    obtain ⟨v, hv, hrep⟩ := hr i x j c hi hj
    exact ⟨v, hv, hrep.mono hw hs ho⟩

theorem BRep.mono {n n' b : Nat} {mb : MB} (h : BRep g l w n b mb) (hb : mb.mine = true → w'.heap[b]? = w.heap[b]?)
    (ht : ∀ t ∈ mb.tags, l'.xv t = l.xv t ∧ l'.xc t = l.xc t ∧ l'.xk t = l.xk t) (hloc : ∀ j, j < n → l'.loc j = l.loc j) (hn : n ≤ n')
    (hw : ∀ b, g.stb b → w'.heap[b]? = w.heap[b]?) (hs : ∀ b, g.stb b → g'.stb b) (ho : ∀ j b, g.ob j = some b → g'.ob j = some b) : BRep g' l' w' n' b mb := by
  cases mb with
  | cells cs =>
    obtain ⟨vs, e, hh, hr, h1⟩ := h
    exact ⟨vs, e, (hb rfl).trans hh, TReps.mono hw hs ho hloc hn cs vs ht hr, h1⟩
  | frz cs =>
    obtain ⟨hst, vs, hc, h1, hr⟩ := h
    exact ⟨hs b hst, vs, fun i hi => (cell_same (hw b hst)).trans (hc i hi), h1, fun i c hi => (hr i c hi).mono hw hs ho⟩
  | siter s pos => exact (hb rfl).trans h
  | miter j kt vt since stepped seen => obtain ⟨b', h1, h2, h3⟩ := h; exact ⟨b', (hb rfl).trans h1, ho _ _ h2, h3⟩
  | dead => exact h.elim

/-- The world goes on, and turns nothing that the frame leans on; the objects may be turned. -/
theorem Inv.step (h : Inv w0 g0 g l w st a) (hos : w'.os = w.os) (htape : w'.tape = w.tape) (hout : w'.output = w.output) (hsize : w.heap.size ≤ w'.heap.size)
    (hkeep : ∀ b, b < w.heap.size → (Leans g l st b ∨ (b < w0.heap.size ∧ ¬ g.foot b)) → w'.heap[b]? = w.heap[b]?)
    (hs : ∀ b, g.stb b → g'.stb b) (hsn : ∀ b, g'.stb b → g.stb b ∨ w.heap.size ≤ b ∨ g.foot b) (ho : ∀ j b, g.ob j = some b → g'.ob j = some b) (hf : ∀ b, g'.foot b → g.foot b ∨ w.heap.size ≤ b)
    (hlt : ∀ b, g'.stb b → b < w'.heap.size ∧ ¬ g'.foot b) {H' : Heap} (hH : HOK g' w' H') :
    Inv w0 g0 g' l w' { st with H := H' } a := by
  have hst : ∀ b, g.stb b → w'.heap[b]? = w.heap[b]? := fun b hb => hkeep b (h.stbLt b hb).1 (.inl (.inl hb))
  refine ⟨h.defers, TReps.mono hst hs ho (fun _ _ => rfl) (Nat.le_refl _) _ _ (fun _ _ => ⟨rfl, rfl, rfl⟩) h.tm, ?_, ?_, ?_, h.inj, ?_, h.ownInj, hH, ?_, hlt⟩
  · intro j mb hj
    refine (h.mem j mb hj).mono (fun hm => ?_) (fun _ _ => ⟨rfl, rfl, rfl⟩) (fun _ _ => rfl) (Nat.le_refl _) hst hs ho
    exact hkeep _ (h.priv j mb hj hm).2.1 (.inl (.inr (.inl ⟨j, mb, hj, hm, rfl⟩)))
  · intro t ht
    refine (h.own t ht).mono ⟨rfl, rfl, rfl⟩ (fun b hb => ?_) hst hs ho
    obtain ⟨e, fl, hown, _⟩ := h.own t ht
    exact hkeep b (hown.lt b hb).2 (.inl (.inr (.inr ⟨t, ht, hb⟩)))
  · intro j mb hj hm
    obtain ⟨h1, h2, h3, h4⟩ := h.priv j mb hj hm
    refine ⟨h1, by omega, fun h' => ?_, fun h' => ?_⟩
    · rcases hsn _ h' with h' | h' | h'
      · exact h3 h'
      · omega
      · exact h4 h'
    · rcases hf _ h' with h' | h'
      · exact h4 h'
      · omega
  · intro t ht b hb
    obtain ⟨h1, h2, h3⟩ := h.ownPriv t ht b hb
    obtain ⟨e, fl, hown, _⟩ := h.own t ht
    have := (hown.lt b hb).2
    refine ⟨fun h' => ?_, fun h' => ?_, h3⟩
    · rcases hsn _ h' with h' | h' | h'
      · exact h1 h'
      · omega
      · exact h2 h'
    · rcases hf _ h' with h' | h'
      · exact h2 h'
      · omega
  · refine ⟨hos.trans h.ext.os, htape.trans h.ext.tape, hout.trans h.ext.output, Nat.le_trans h.ext.size hsize, fun b hb hf0 => ?_, fun b hb => hs b (h.ext.stb b hb), fun b hb => ?_, fun j b hb => ho j b (h.ext.ob j b hb), fun b hb => ?_⟩
    · have hf1 : ¬ g.foot b := fun h1 => by
        rcases h.ext.footNew b h1 with h2 | h2
        · exact hf0 h2
        · omega
      exact (hkeep b (Nat.lt_of_lt_of_le hb h.ext.size) (.inr ⟨hb, hf1⟩)).trans (h.ext.keep b hb hf0)
    · rcases hsn b hb with h1 | h1 | h1
      · exact h.ext.stbNew b h1
      · exact .inr (.inl (Nat.le_trans h.ext.size h1))
      · rcases h.ext.footNew b h1 with h2 | h2
        · exact .inr (.inr h2)
        · exact .inr (.inl h2)
    · rcases hf b hb with h1 | h1
      · exact h.ext.footNew b h1
      · exact .inr (Nat.le_trans h.ext.size h1)

/-- The world goes on, and turns nothing that the frame leans on, nor an object. -/
theorem Inv.step0 (h : Inv w0 g0 g l w st a) (hos : w'.os = w.os) (htape : w'.tape = w.tape) (hout : w'.output = w.output) (hsize : w.heap.size ≤ w'.heap.size)
    (hkeep : ∀ b, b < w.heap.size → (Leans g l st b ∨ g.foot b ∨ b < w0.heap.size) → w'.heap[b]? = w.heap[b]?)
    (hs : ∀ b, g.stb b → g'.stb b) (hsn : ∀ b, g'.stb b → g.stb b ∨ w.heap.size ≤ b ∧ b < w'.heap.size) (ho : g'.ob = g.ob) (hf : g'.foot = g.foot) :
    Inv w0 g0 g' l w' st a := by
  have hH : HOK g' w' st.H := h.heap.mono (fun b hb => hkeep b (h.heap.foot_lt hb) (.inr (.inl hb))) (fun b hb => hkeep b (h.stbLt b hb).1 (.inl (.inl hb))) hs ho hf hsize
  refine h.step hos htape hout hsize (fun b hb hl => hkeep b hb ?_) hs (fun b hb => ?_) (fun j b hb => by rw [ho]; exact hb) (fun b hb => .inl (by rw [← hf]; exact hb)) (fun b hb => ?_) hH
  · rcases hl with hl | hl
    · exact .inl hl
    · exact .inr (.inr hl.1)
  · rcases hsn b hb with h1 | h1
    · exact .inl h1
    · exact .inr (.inl h1.1)
  · rw [hf]
    rcases hsn b hb with h1 | h1
    · have := h.stbLt b h1
      exact ⟨by omega, this.2⟩
    · exact ⟨h1.2, fun h2 => by have := h.heap.foot_lt h2; omega⟩

/-- Nothing that lay there has been turned. -/
theorem Inv.grow (h : Inv w0 g0 g l w st a) (hos : w'.os = w.os) (htape : w'.tape = w.tape) (hout : w'.output = w.output) (hsize : w.heap.size ≤ w'.heap.size)
    (hkeep : ∀ b, b < w.heap.size → w'.heap[b]? = w.heap[b]?) : Inv w0 g0 g l w' st a :=
  h.step0 hos htape hout hsize (fun b hb _ => hkeep b hb) (fun _ h => h) (fun _ h => .inl h) rfl rfl

theorem MB.mem_tags_map {f : AV → AV} {p : Nat → Prop} (ht : ∀ c, leaf c = true → ∀ u ∈ tagsOf (f c), u ∈ tagsOf c ∧ p u) (mb : MB) : ∀ u ∈ (mb.mapM f).tags, u ∈ mb.tags ∧ p u := by
  intro u hu
  cases mb with
  | cells cs => exact mapTs_tags ht cs u hu
  | frz cs => simp [MB.mapM, MB.tags] at hu
  | siter s p => simp [MB.mapM, MB.tags] at hu
  | miter _ _ _ _ _ _ => simp [MB.mapM, MB.tags] at hu
  | dead => simp [MB.mapM, MB.tags] at hu
theorem tags_mapS {f : AV → AV} {p : Nat → Prop} (ht : ∀ c, leaf c = true → ∀ u ∈ tagsOf (f c), u ∈ tagsOf c ∧ p u) (s : St) : ∀ u ∈ (s.mapS f).tags, u ∈ s.tags ∧ p u := by
  intro u hu
  simp only [St.tags, St.mapS, List.mem_append, List.mem_flatMap, List.mem_map] at hu
  rcases hu with hu | ⟨mb', ⟨mb, hm, rfl⟩, hu⟩
  · obtain ⟨h1, h2⟩ := mapTs_tags ht s.tm u hu
    exact ⟨tags_tm h1, h2⟩
  · obtain ⟨h1, h2⟩ := mb.mem_tags_map ht u hu
    obtain ⟨j, hj⟩ := List.mem_iff_getElem?.1 hm
    exact ⟨tags_mem hj h1, h2⟩
theorem MB.mine_map (f : AV → AV) (mb : MB) : (mb.mapM f).mine = mb.mine := by cases mb <;> rfl

/-- The frame's values, told otherwise. -/
theorem Inv.map {f : AV → AV} {p : Nat → Prop} (h : Inv w0 g0 g l w st a)
    (hf : ∀ c v, leaf c = true → (∀ t ∈ tagsOf c, t ∈ st.tags) → TRep g l w st.mem.length c v → TRep g l' w st.mem.length (f c) v)
    (ht : ∀ c, leaf c = true → ∀ u ∈ tagsOf (f c), u ∈ tagsOf c ∧ p u) (hl : ∀ u ∈ st.tags, p u → l'.xv u = l.xv u ∧ l'.xc u = l.xc u ∧ l'.xk u = l.xk u) (hloc : l'.loc = l.loc) :
    Inv w0 g0 g l' w (st.mapS f) a := by
  have hmem : ∀ (j : Nat) (mb : MB), (st.mapS f).mem[j]? = some mb → ∃ mb0, st.mem[j]? = some mb0 ∧ mb = mb0.mapM f := by
    intro j mb hj
    simp only [St.mapS, List.getElem?_map, Option.map_eq_some_iff] at hj
    obtain ⟨mb0, h1, h2⟩ := hj
    exact ⟨mb0, h1, h2.symm⟩
  have hlen : (st.mapS f).mem.length = st.mem.length := by simp [St.mapS]
  have htg := tags_mapS ht st
  refine ⟨h.defers, ?_, ?_, ?_, ?_, ?_, ?_, ?_, h.heap, h.ext, h.stbLt⟩
  · rw [hlen]
    exact mapTs_rep hf _ _ (fun t h => tags_tm h) h.tm
  · intro j mb hj
    obtain ⟨mb0, h0, rfl⟩ := hmem j mb hj
    have hb := h.mem j mb0 h0
    rw [hlen, hloc]
    cases mb0 with
    | cells cs =>
      obtain ⟨vs, e, hh, hr, h1⟩ := hb
      exact ⟨vs, e, hh, mapTs_rep hf cs vs (fun t ht => tags_mem h0 ht) hr, h1⟩
    | frz cs => exact hb
    | siter s p => exact hb
    | miter _ _ _ _ _ _ => exact hb
    | dead => exact hb
  · intro t ht'
    obtain ⟨h1, h2⟩ := htg t ht'
    exact (h.own t h1).mono (hl t h1 h2) (fun _ _ => rfl) (fun _ _ => rfl) (fun _ h => h) (fun _ _ h => h)
  · intro j mb hj hm
    obtain ⟨mb0, h0, rfl⟩ := hmem j mb hj
    rw [hloc]
    rw [MB.mine_map] at hm
    exact h.priv j mb0 h0 hm
  · intro i j mb hi hm hj he
    obtain ⟨mb0, h0, rfl⟩ := hmem i mb hi
    rw [hloc] at he
    rw [hlen] at hj
    rw [MB.mine_map] at hm
    exact h.inj i j mb0 h0 hm hj he
  · intro t ht' b hb
    obtain ⟨h1, h2⟩ := htg t ht'
    rw [(hl t h1 h2).1] at hb
    rw [hlen, hloc]
    exact h.ownPriv t h1 b hb
  · intro t ht' u hu b hb hb'
    obtain ⟨h1, h2⟩ := htg t ht'
    obtain ⟨k1, k2⟩ := htg u hu
    rw [(hl t h1 h2).1] at hb
    rw [(hl u k1 k2).1] at hb'
    exact h.ownInj t h1 u k1 b hb hb'

theorem Inv.kill (h : Inv w0 g0 g l w st a) (t : Nat) : Inv w0 g0 g l w (st.mapS (killF t)) a := by
  refine h.map (p := fun u => u ≠ t) (fun c v hc ht hr => ?_) (killF_tags t) (fun _ _ _ => ⟨rfl, rfl, rfl⟩) rfl
  cases c <;> try exact hr
  case sl t' k xs =>
    simp only [killF]
    cases Nat.beq t' t
    · exact hr
    · simp [TRep]
  case ep t' k i o xs =>
    simp only [killF]
    cases Nat.beq t' t
    · exact hr
    · simp [TRep]

theorem put_tags {s : St} {d : Option Nat} {v : AV} {t : Nat} (h : t ∈ (s.put d v).tags) : t ∈ s.tags ∨ t ∈ tagsOf v := by
  cases d with
  | none => exact .inl h
  | some d =>
    simp only [St.put, St.tags, List.mem_append] at h ⊢
    rcases h with h | h
    · rcases tagsOfs_set h with h | h
      · exact .inl (.inl h)
      · exact .inr h
    · exact .inl (.inr h)
theorem put_mem (s : St) (d : Option Nat) (v : AV) : (s.put d v).mem = s.mem := by cases d <;> rfl
theorem put_H (s : St) (d : Option Nat) (v : AV) : (s.put d v).H = s.H := by cases d <;> rfl

/-- A result is put into its slot. -/
theorem Inv.put (h : Inv w0 g0 g l w st a) {av : AV} {v : Value} (hr : TRep g l w st.mem.length av v) (ht : ∀ t ∈ tagsOf av, t ∈ st.tags) (d : Option Nat) :
    Inv w0 g0 g l w (st.put d av) (a.put d v) := by
  have htg : ∀ t ∈ (st.put d av).tags, t ∈ st.tags := fun t h' => (put_tags h').elim id (ht t)
  have hdef : (a.put d v).defers = [] := by cases d <;> exact h.defers
  refine ⟨hdef, ?_, ?_, fun t h' => h.own t (htg t h'), ?_, ?_, fun t h' => ?_, fun t h' u hu => h.ownInj t (htg t h') u (htg u hu), ?_, h.ext, h.stbLt⟩
  · rw [put_mem]
    cases d with
    | none => exact h.tm
    | some d =>
      simp only [St.put, Act.put, Array.toList_setIfInBounds]
      exact h.tm.set hr d
  · rw [put_mem]; exact h.mem
  · rw [put_mem]; exact h.priv
  · rw [put_mem]; exact h.inj
  · rw [put_mem]; exact h.ownPriv t (htg t h')
  · rw [put_H]; exact h.heap

theorem add_plain (b o j : Nat) : (⟨b, o, none⟩ : Addr).add j = ⟨b, o + j, none⟩ := by unfold Addr.add; split <;> simp_all

/-- The cells of a frame's own slice. -/
theorem OwnT.parts {t : Nat} (h : OwnT base g l w t) :
    (l.xv t = .slice none 0 0 ∧ l.xc t = []) ∨ ∃ b c, ∃ vs : Nat → Nat → Value, l.xv t = .slice (some ⟨b, 0, none⟩) (l.xc t).length c ∧ base ≤ b ∧ b < w.heap.size ∧ (l.xc t).length ≤ c ∧ c ≤ maxLen ∧
      (∀ i j, i < (l.xc t).length → j < l.xk t → w.cell? ⟨b, 0 + (i * l.xk t + j), none⟩ = some (vs i j)) ∧ (∀ i j, i < (l.xc t).length → j < l.xk t → (vs i j).oneCell' = true) ∧
      ∀ (i : Nat) (x : List AV) (j : Nat) (c : AV), (l.xc t)[i]? = some x → x[j]? = some c → Rep w g.stb g.ob c (vs i j) := by
  obtain ⟨e, fl, hown, hk, hx, h1, hr⟩ := h
  rcases hown.2 with ⟨h2, h3⟩ | ⟨b, cap, cur, hv, hbb, hh, hn, hm, hcs, htk⟩
  · exact .inl ⟨h2, List.eq_nil_of_length_eq_zero h3⟩
  · refine .inr ⟨b, cap, fun i j => fl.getD (i * l.xk t + j) undef, hv, hbb, (hown.lt b (by rw [hv]; rfl)).2, hn, hm, ?_, ?_, ?_⟩
    · intro i j hi hj
      have hlt : i * l.xk t + j < fl.length := by
        rw [hown.1]
        calc i * l.xk t + j < i * l.xk t + l.xk t := by omega
          _ = (i + 1) * l.xk t := by rw [Nat.add_mul, Nat.one_mul]
          _ ≤ _ := Nat.mul_le_mul_right _ hi
      have hc := hown.cells (g := b) (by rw [hv]; rfl) (i * l.xk t + j) (fl.getD (i * l.xk t + j) undef) (by simp [List.getD_eq_getElem?_getD, List.getElem?_eq_getElem hlt])
      rw [add_plain] at hc
      exact hc
    · intro i j hi hj
      have hlt : i * l.xk t + j < fl.length := by
        rw [hown.1]
        calc i * l.xk t + j < i * l.xk t + l.xk t := by omega
          _ = (i + 1) * l.xk t := by rw [Nat.add_mul, Nat.one_mul]
          _ ≤ _ := Nat.mul_le_mul_right _ hi
      refine h1 _ ?_
      simp [List.getD_eq_getElem?_getD, List.getElem?_eq_getElem hlt]
    · intro i x j c hi hj
      obtain ⟨v, hv', hrep⟩ := hr i x j c hi hj
      simpa [List.getD_eq_getElem?_getD, hv'] using hrep
theorem OwnT.size {t : Nat} (h : OwnT base g l w t) : ∀ x ∈ l.xc t, x.length = l.xk t := by obtain ⟨e, fl, hown, hk, hx, h1, hr⟩ := h; exact hx
theorem OwnT.rep {t : Nat} (h : OwnT base g l w t) {stb : Nat → Prop} (hs : ∀ b, g.stb b → stb b) (hb : ∀ b, (l.xv t).ownBlock = some b → stb b) : Rep w stb g.ob (.sl 0 (l.xk t) (l.xc t)) (l.xv t) := by
  rcases h.parts with ⟨h1, h2⟩ | ⟨b, c, vs, hv, _, hlt, hn, hm, hc, h1, hr⟩
  · rw [h1, h2]; exact .sl0 _ _ _
  · rw [hv]
    exact .sl b 0 c _ _ vs (hb b (by rw [hv]; rfl)) hn (Nat.le_trans hn hm) h.size hc h1 fun i x j c hi hj => (hr i x j c hi hj).mono (fun _ _ => rfl) hs (fun _ _ h => h)
theorem OwnT.rep_ep {t i o : Nat} (h : OwnT base g l w t) {stb : Nat → Prop} (hs : ∀ b, g.stb b → stb b) (hb : ∀ b, (l.xv t).ownBlock = some b → stb b) (hi : i < (l.xc t).length) {b m c : Nat} (hv : l.xv t = .slice (some ⟨b, 0, none⟩) m c) :
    Rep w stb g.ob (.rp ((l.xc t).getD i []) o) (.pointer (some ⟨b, i * l.xk t + o, none⟩)) := by
  rcases h.parts with ⟨h1, h2⟩ | ⟨b', c', vs, hv', _, hlt, hn, hm, hc, h1, hr⟩
  · rw [h2] at hi; simp at hi
  · rw [hv] at hv'
    simp only [Value.slice.injEq, Option.some.injEq, Addr.mk.injEq] at hv'
    obtain ⟨⟨rfl, _⟩, _⟩ := hv'
    have hx : ((l.xc t).getD i []).length = l.xk t := h.size _ (by rw [List.getD_eq_getElem?_getD, List.getElem?_eq_getElem hi]; exact List.getElem_mem hi)
    refine .rp b (i * l.xk t) o _ (vs i) (hb b (by rw [hv]; rfl)) (fun j hj => ?_) (fun j hj => h1 i j hi (by omega)) fun j c hj => ?_
    · have := hc i j hi (by omega)
      rwa [Nat.zero_add] at this
    · refine (hr i ((l.xc t).getD i []) j c ?_ hj).mono (fun _ _ => rfl) hs (fun _ _ h => h)
      rw [List.getD_eq_getElem?_getD, List.getElem?_eq_getElem hi]; rfl

theorem frzF_tags (t : Nat) (ht0 : t ≠ 0) : ∀ c, leaf c = true → ∀ u ∈ tagsOf (frzF t c), u ∈ tagsOf c ∧ u ≠ t := by
  intro c hc u h
  cases c <;> try (simp only [frzF] at h; simp [tagsOf] at h; done)
  case sl t' k xs =>
    simp only [frzF] at h
    cases e : Nat.beq t' t <;> rw [e] at h
    · refine ⟨h, fun hh => ?_⟩
      subst hh
      simp only [cond_false, tagsOf] at h
      cases e0 : Nat.beq t' 0 <;> rw [e0] at h <;> simp at h
      subst h
      simp at e
    · simp [tagsOf] at h
  case ep t' k i o xs =>
    simp only [frzF] at h
    cases e : Nat.beq t' t <;> rw [e] at h
    · refine ⟨h, fun hh => ?_⟩
      subst hh
      simp only [cond_false, tagsOf, List.mem_singleton] at h
      subst h
      simp at e
    · simp [tagsOf] at h
  all_goals simp_all [leaf]

/-- A frame's own slice becomes stable. -/
theorem Inv.frz (h : Inv w0 g0 g l w st a) (t : Nat) (ht0 : t ≠ 0) :
    ∃ g', Inv w0 g0 g' l w (st.mapS (frzF t)) a ∧ (∀ b, g.stb b → g'.stb b) ∧ (∀ b, g'.stb b → g.stb b ∨ t ∈ st.tags ∧ (l.xv t).ownBlock = some b) ∧ g'.ob = g.ob ∧ g'.foot = g.foot ∧ (t ∈ st.tags → ∀ b, (l.xv t).ownBlock = some b → g'.stb b) := by
  by_cases hin : t ∈ st.tags
  · let g' : Gs := { g with stb := fun b => g.stb b ∨ (l.xv t).ownBlock = some b }
    have hT := h.own t hin
    have h1 : Inv w0 g0 g l w (st.mapS (killF t)) a := h.kill t
    refine ⟨g', ?_, fun b hb => .inl hb, fun b hb => hb.imp id fun h => ⟨hin, h⟩, rfl, rfl, fun _ b hb => .inr hb⟩
    have hlt : ∀ b, (l.xv t).ownBlock = some b → w0.heap.size ≤ b ∧ b < w.heap.size := by obtain ⟨e, fl, hown, _⟩ := hT; exact hown.lt
    -- told by its parts
    have hmem : ∀ (j : Nat) (mb : MB), (st.mapS (frzF t)).mem[j]? = some mb → ∃ mb0, st.mem[j]? = some mb0 ∧ mb = mb0.mapM (frzF t) := by
      intro j mb hj
      simp only [St.mapS, List.getElem?_map, Option.map_eq_some_iff] at hj
      obtain ⟨mb0, h1, h2⟩ := hj
      exact ⟨mb0, h1, h2.symm⟩
    have hlen : (st.mapS (frzF t)).mem.length = st.mem.length := by simp [St.mapS]
    have htg := tags_mapS (frzF_tags t ht0) st
    have hf : ∀ c v, leaf c = true → (∀ t ∈ tagsOf c, t ∈ st.tags) → TRep g l w st.mem.length c v → TRep g' l w st.mem.length (frzF t c) v := by
      intro c v hc hts hr
      have keep : TRep g' l w st.mem.length c v := TRep.mono (g' := g') (fun _ _ => rfl) (fun b hb => Or.inl hb) (fun _ _ h => h) (fun _ _ => rfl) (Nat.le_refl _) c v (fun _ _ => ⟨rfl, rfl, rfl⟩) hr
      cases c <;> try exact keep
      case sl t' k xs =>
        simp only [frzF]
        cases e : Nat.beq t' t
        · exact keep
        · obtain rfl : t' = t := Nat.eq_of_beq_eq_true e
          obtain ⟨m, rfl⟩ : ∃ m, t' = m + 1 := ⟨t' - 1, by omega⟩
          simp only [TRep] at hr
          obtain ⟨rfl, rfl, rfl⟩ := hr
          simp only [cond_true, TRep]
          exact hT.rep (fun b hb => .inl hb) (fun b hb => .inr hb)
      case ep t' k i o xs =>
        simp only [frzF]
        cases e : Nat.beq t' t
        · exact keep
        · obtain rfl : t' = t := Nat.eq_of_beq_eq_true e
          simp only [TRep] at hr
          obtain ⟨rfl, rfl, _, hi, b, m, c, hv, rfl⟩ := hr
          simp only [cond_true, TRep]
          exact hT.rep_ep (fun b hb => .inl hb) (fun b hb => .inr hb) hi hv
    refine ⟨h.defers, ?_, ?_, ?_, ?_, ?_, ?_, ?_, HOK.mono (g' := g') h.heap (fun _ _ => rfl) (fun _ _ => rfl) (fun b hb => Or.inl hb) rfl rfl (Nat.le_refl _), ?_, ?_⟩
    · rw [hlen]; exact mapTs_rep hf _ _ (fun t h => tags_tm h) h.tm
    · intro j mb hj
      obtain ⟨mb0, h0, rfl⟩ := hmem j mb hj
      have hb := h.mem j mb0 h0
      rw [hlen]
      cases mb0 with
      | cells cs =>
        obtain ⟨vs, e, hh, hr, h1⟩ := hb
        exact ⟨vs, e, hh, mapTs_rep hf cs vs (fun t ht => tags_mem h0 ht) hr, h1⟩
      | frz cs => exact BRep.mono (g' := g') hb (fun hm => rfl) (fun _ _ => ⟨rfl, rfl, rfl⟩) (fun _ _ => rfl) (Nat.le_refl _) (fun _ _ => rfl) (fun b hb => Or.inl hb) (fun _ _ h => h)
      | siter s p => exact hb
      | miter _ _ _ _ _ _ => exact hb
      | dead => exact hb
    · intro u hu
      obtain ⟨k1, k2⟩ := htg u hu
      exact OwnT.mono (g' := g') (h.own u k1) ⟨rfl, rfl, rfl⟩ (fun _ _ => rfl) (fun _ _ => rfl) (fun b hb => Or.inl hb) (fun _ _ h => h)
    · intro j mb hj hm
      obtain ⟨mb0, h0, rfl⟩ := hmem j mb hj
      rw [MB.mine_map] at hm
      obtain ⟨p1, p2, p3, p4⟩ := h.priv j mb0 h0 hm
      refine ⟨p1, p2, fun hb => ?_, p4⟩
      rcases hb with hb | hb
      · exact p3 hb
      · exact (h.ownPriv t hin _ hb).2.2 j (List.getElem?_eq_some_iff.1 h0).1 rfl
    · intro i j mb hi hm hj he
      obtain ⟨mb0, h0, rfl⟩ := hmem i mb hi
      rw [MB.mine_map] at hm
      exact h.inj i j mb0 h0 hm (by rwa [hlen] at hj) he
    · intro u hu b hb
      obtain ⟨k1, k2⟩ := htg u hu
      obtain ⟨q1, q2, q3⟩ := h.ownPriv u k1 b hb
      rw [hlen]
      refine ⟨fun hb' => ?_, q2, q3⟩
      rcases hb' with hb' | hb'
      · exact q1 hb'
      · exact k2 (h.ownInj u k1 t hin b hb hb')
    · intro u hu v hv b hb hb'
      exact h.ownInj u (htg u hu).1 v (htg v hv).1 b hb hb'
    · exact ⟨h.ext.os, h.ext.tape, h.ext.output, h.ext.size, h.ext.keep, fun b hb => .inl (h.ext.stb b hb), fun b hb => by
        rcases hb with hb | hb
        · exact h.ext.stbNew b hb
        · exact .inr (.inl (hlt b hb).1), h.ext.ob, h.ext.footNew⟩
    · intro b hb
      rcases hb with hb | hb
      · exact h.stbLt b hb
      · exact ⟨(hlt b hb).2, (h.ownPriv t hin b hb).2.1⟩
  · refine ⟨g, ?_, fun _ h => h, fun _ h => .inl h, rfl, rfl, fun h => absurd h hin⟩
    refine h.map (p := fun u => u ≠ t) (fun c v hc hts hr => ?_) (frzF_tags t ht0) (fun _ _ _ => ⟨rfl, rfl, rfl⟩) rfl
    cases c <;> try exact hr
    case sl t' k xs =>
      simp only [frzF]
      cases e : Nat.beq t' t
      · exact hr
      · obtain rfl : t' = t := Nat.eq_of_beq_eq_true e
        obtain ⟨m, rfl⟩ : ∃ m, t' = m + 1 := ⟨t' - 1, by omega⟩
        exact absurd (hts _ (by simp [tagsOf, Nat.beq])) hin
    case ep t' k i o xs =>
      simp only [frzF]
      cases e : Nat.beq t' t
      · exact hr
      · obtain rfl : t' = t := Nat.eq_of_beq_eq_true e
        exact absurd (hts t' (by simp [tagsOf])) hin
end

end Go.Proofs.Ytbkkhhmjmbbfpaa.Ab
