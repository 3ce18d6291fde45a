/- Calls. -/
import Derived.Test.YtbkkhhmjmbbfpaaAbHeap
namespace Go.Proofs.Ytbkkhhmjmbbfpaa.Ab
open Go

/-- A result: stable, or the caller's own from here on. -/
def ResOk (own : Bool) (base : Nat) (g : Gs) (l : Gl) (w : World) (v : AV) (r : Value) : Prop :=
  cond own
    (TRep g l w 0 v r ∧ (∀ t ∈ tagsOf v, t ≠ 0 ∧ OwnT base g l w t ∧ ∀ b, (l.xv t).ownBlock = some b → ¬ g.stb b ∧ ¬ g.foot b) ∧
      (∀ t ∈ tagsOf v, ∀ u ∈ tagsOf v, ∀ b, (l.xv t).ownBlock = some b → (l.xv u).ownBlock = some b → t = u) ∧ nodupB (tagsOf v) = true)
    (Rep w g.stb g.ob v r)
structure Start (g : Gs) (w : World) (H : Heap) (args : List AV) (vs : List Value) : Prop where
  heap : HOK g w H
  stbLt : ∀ b, g.stb b → b < w.heap.size ∧ ¬ g.foot b
  len : args.length = vs.length
  rep : ∀ (i : Nat) (c : AV) (v : Value), args[i]? = some c → vs[i]? = some v → Rep w g.stb g.ob c v
structure Fin (own : Bool) (w : World) (g : Gs) (Q : AV → Heap → Prop) (v : AV) (r : Value) (w' : World) (g' : Gs) (l' : Gl) (H' : Heap) : Prop where
  post : Q v H'
  ext : Ext w g w' g'
  heap : HOK g' w' H'
  stbLt : ∀ b, g'.stb b → b < w'.heap.size ∧ ¬ g'.foot b
  res : ResOk own w.heap.size g' l' w' v r
def After (own : Bool) (w : World) (g : Gs) (Q : AV → Heap → Prop) (e : Ending) (w' : World) : Prop := ∃ r v H' g' l', e = .returned r ∧ Fin own w g Q v r w' g' l' H'
/-- Can a function be entered by a call? -/
def Enters (P : Program) (f : Nat) : Prop := ∃ fn, P.funcs[f]? = some fn ∧ fn.body.isSome = true ∧ (fn.name == "runtime.NumGoroutine") = false
/-- What an oracle tells of a function's calls is so. -/
def OSound (P : Program) (E : Env) (R : Oracle) : Prop :=
  ∀ f args H Q, R f args H Q → Enters P f ∧ ∀ (w : World) (g : Gs) (vs : List Value), Start g w H args vs → Calls P f vs.toArray w (After (E.own f) w g Q)

theorem run_callFunc {P : Program} {f : Nat} (h : Enters P f) (args : Array Value) (w : World) : (callFunc f args).run P w = .ok (.enter f args) w := by
  obtain ⟨fn, hf, hb, hn⟩ := h
  have hb' : fn.body ≠ none := by cases hfb : fn.body <;> simp_all
  have hn' : fn.name ≠ "runtime.NumGoroutine" := by simpa using hn
  simp [callFunc, hf, hb', hn']

/-! Results, normed: stable ones. -/
section
variable {w : World} {stb : Nat → Prop} {ob : Nat → Option Nat}
theorem ptr_out {K : AV → Prop} {x : AV} (h : cond x.isObj (K (.obj x.objJ 0)) (G x.isNilp (K .nilp))) : K x ∧ tagsOf x = [] := by
  cases x <;> simp only [AV.isObj, AV.objJ, AV.isNilp, G, cond_false, cond_true] at h <;> try exact ⟨h, rfl⟩
  rename_i j o
  cases o with
  | zero => exact ⟨h, rfl⟩
  | succ o => exact h.elim
theorem mapv_out {K : AV → Prop} {x : AV} (h : cond x.isMap (K (.map x.mapJ)) (G x.isNilmap (K .nilmap))) : K x ∧ tagsOf x = [] := by
  cases x <;> simp only [AV.isMap, AV.mapJ, AV.isNilmap, G, cond_false, cond_true] at h <;> exact ⟨h, rfl⟩
theorem if_out {K : AV → Prop} {x : AV} (h : cond x.isIf (G x.noTag (K (.iface x.ifT x.ifV))) (G x.isNilif (K .niliface))) : K x ∧ tagsOf x = [] := by
  cases x <;> simp only [AV.isIf, AV.ifT, AV.ifV, AV.isNilif, cond_false, cond_true] at h <;> try exact h.elim
  case iface t v =>
    obtain ⟨h1, h⟩ := G_out h
    exact ⟨h, by simpa [AV.noTag] using h1⟩
  case niliface => exact ⟨h, rfl⟩
theorem normC_rep {s : Nat} {c : CK} {x : AV} {v : Value} {K : Nat → AV → Prop} (h : normC false s c x K) (hr : Rep w stb ob x v) : ∃ y, K s y ∧ Rep w stb ob y v := by
  cases c <;> simp only [normC] at h <;> try exact ⟨x, h, hr⟩
  case ptr => exact ⟨x, (ptr_out (K := K s) h).1, hr⟩
  case map => exact ⟨x, (mapv_out (K := K s) h).1, hr⟩
  case iface => exact ⟨x, (if_out (K := K s) h).1, hr⟩
  case int k =>
    obtain ⟨h1, h⟩ := G_out h
    cases x <;> simp [AV.isInt] at h1
    subst h1
    exact ⟨_, h, hr⟩
  case bool =>
    obtain ⟨h1, h⟩ := G_out h
    cases x <;> simp [AV.isBool] at h1
    exact ⟨_, h, hr⟩
  case str =>
    obtain ⟨h1, h⟩ := G_out h
    cases x <;> simp [AV.isStr] at h1
    exact ⟨_, h, hr⟩
  case slice k =>
    simp only [cond_false] at h
    have h2 := G_out h
    clear h
    obtain ⟨h1, h⟩ := h2
    cases x <;> try (simp [AV.isSl] at h1; done)
    case nilsl =>
      refine ⟨_, h, ?_⟩
      cases hr
      exact .sl0 _ _ _
    case sl t k' xs =>
      cases t with
      | succ t => simp [AV.isSl] at h1
      | zero =>
        simp only [AV.isSl] at h1
        have := Nat.eq_of_beq_eq_true h1
        subst this
        exact ⟨_, h, hr⟩
theorem normCs_rep : ∀ {cks : List CK} {s : Nat} {xs : List AV} {vs : List Value} {K : Nat → List AV → Prop}, normCs false cks s xs K → xs.length = cks.length → xs.length = vs.length →
    (∀ (i : Nat) (c : AV) (v : Value), xs[i]? = some c → vs[i]? = some v → Rep w stb ob c v) → ∃ ys, K s ys ∧ ys.length = vs.length ∧ ∀ (i : Nat) (c : AV) (v : Value), ys[i]? = some c → vs[i]? = some v → Rep w stb ob c v
  | [], s, xs, vs, K, h, h1, h2, _ => by
    simp only [normCs] at h
    exact ⟨[], h, by simp at h1; simp [h1] at h2; simp [h2], by simp⟩
  | c :: cks, s, x :: xs, v :: vs, K, h, h1, h2, hr => by
    simp only [normCs, List.headD_cons, List.tail_cons] at h
    obtain ⟨y, h, hy⟩ := normC_rep h (hr 0 x v rfl rfl)
    obtain ⟨ys, h, hl, hys⟩ := normCs_rep h (by simpa using h1) (by simpa using h2) (fun i c u hc hu => hr (i + 1) c u (by simpa using hc) (by simpa using hu))
    refine ⟨y :: ys, h, by simp [hl], fun i c u hc hu => ?_⟩
    cases i with
    | zero => simp at hc hu; subst hc hu; exact hy
    | succ i => exact hys i c u (by simpa using hc) (by simpa using hu)
  | _ :: _, _, [], _, _, _, h1, _, _ => by simp at h1
  | _ :: _, _, _ :: _, [], _, _, _, h2, _ => by simp at h2
theorem normT_rep {T : List TI} {s t : Nat} {x : AV} {v : Value} {K : Nat → AV → Prop} (h : normT T false s t x K) (hr : Rep w stb ob x v) : ∃ y, K s y ∧ Rep w stb ob y v := by
  unfold normT at h
  cases ha : isAggT T t <;> rw [ha] at h <;> simp only [cond_false, cond_true] at h
  · exact normC_rep h hr
  · obtain ⟨h1, h⟩ := G_out h
    simp only [Bool.and_eq_true] at h1
    cases x <;> simp [AV.isAgg] at h1
    cases hr with
    | agg cs vs hl hr =>
      obtain ⟨ys, h, hl', hys⟩ := normCs_rep h h1 hl hr
      exact ⟨_, h, .agg ys vs hl' hys⟩
theorem normTs_rep {T : List TI} : ∀ {ts : List Nat} {s : Nat} {xs : List AV} {vs : List Value} {K : Nat → List AV → Prop}, normTs T false ts s xs K → xs.length = ts.length → xs.length = vs.length →
    (∀ (i : Nat) (c : AV) (v : Value), xs[i]? = some c → vs[i]? = some v → Rep w stb ob c v) → ∃ ys, K s ys ∧ ys.length = vs.length ∧ ∀ (i : Nat) (c : AV) (v : Value), ys[i]? = some c → vs[i]? = some v → Rep w stb ob c v
  | [], s, xs, vs, K, h, h1, h2, _ => by
    simp only [normTs] at h
    exact ⟨[], h, by simp at h1; simp [h1] at h2; simp [h2], by simp⟩
  | c :: cks, s, x :: xs, v :: vs, K, h, h1, h2, hr => by
    simp only [normTs, List.headD_cons, List.tail_cons] at h
    obtain ⟨y, h, hy⟩ := normT_rep h (hr 0 x v rfl rfl)
    obtain ⟨ys, h, hl, hys⟩ := normTs_rep h (by simpa using h1) (by simpa using h2) (fun i c u hc hu => hr (i + 1) c u (by simpa using hc) (by simpa using hu))
    refine ⟨y :: ys, h, by simp [hl], fun i c u hc hu => ?_⟩
    cases i with
    | zero => simp at hc hu; subst hc hu; exact hy
    | succ i => exact hys i c u (by simpa using hc) (by simpa using hu)
  | _ :: _, _, [], _, _, _, h1, _, _ => by simp at h1
  | _ :: _, _, _ :: _, [], _, _, _, h2, _ => by simp at h2
theorem normRes_rep {T : List TI} {s t : Nat} {x : AV} {v : Value} {K : AV → Prop} (h : normRes T false s t x K) (hr : Rep w stb ob x v) : ∃ y, K y ∧ Rep w stb ob y v := by
  unfold normRes at h
  split at h
  · obtain ⟨h1, h⟩ := G_out h
    simp only [Bool.and_eq_true] at h1
    cases x <;> simp [AV.isTup] at h1
    cases hr with
    | tup cs vs hl hr =>
      obtain ⟨ys, h, hl', hys⟩ := normTs_rep h h1 hl hr
      exact ⟨_, h, .tup ys vs hl' hys⟩
  · exact normT_rep h hr
end

/-! Results, normed: the caller's own. -/
section
theorem OwnT.base_le {b b' : Nat} {g : Gs} {l : Gl} {w : World} {t : Nat} (h : OwnT b g l w t) (hb : b' ≤ b) : OwnT b' g l w t := by
  obtain ⟨e, fl, hown, rest⟩ := h
  refine ⟨e, fl, ⟨hown.1, ?_⟩, rest⟩
  rcases hown.2 with h | ⟨q, cap, cur, h1, h2, h3⟩
  · exact .inl h
  · exact .inr ⟨q, cap, cur, h1, by omega, h3⟩

/-- What is known of the tags that have been given so far. -/
structure NewOk (base s0 : Nat) (g : Gs) (gl l : Gl) (w : World) (l1 : Gl) (s : Nat) (S : List Nat) : Prop where
  loc : l1.loc = l.loc
  old : ∀ t, t < s0 → l1.xv t = l.xv t ∧ l1.xc t = l.xc t ∧ l1.xk t = l.xk t
  own : ∀ t, s0 ≤ t → t < s → OwnT base g l1 w t ∧ ∀ b, (l1.xv t).ownBlock = some b → ∃ u ∈ S, (gl.xv u).ownBlock = some b
  inj : ∀ t, s0 ≤ t → t < s → ∀ u, s0 ≤ u → u < s → ∀ b, (l1.xv t).ownBlock = some b → (l1.xv u).ownBlock = some b → t = u

theorem Gl.own_ne {l : Gl} {t u k : Nat} {v : Value} {xs : List (List AV)} (h : u ≠ t) : (l.own t v k xs).xv u = l.xv u ∧ (l.own t v k xs).xc u = l.xc u ∧ (l.own t v k xs).xk u = l.xk u := by simp [Gl.own, h]
theorem OwnT.at {base : Nat} {g : Gs} {l l' : Gl} {w : World} {t t' : Nat} (h : OwnT base g l w t) (hl : l'.xv t' = l.xv t ∧ l'.xc t' = l.xc t ∧ l'.xk t' = l.xk t) : OwnT base g l' w t' := by
  obtain ⟨h1, h2, h3⟩ := hl
  unfold OwnT
  rw [h1, h2, h3]
  exact h

variable {base s0 : Nat} {g : Gs} {gl l : Gl} {w : World} {n : Nat}

theorem NewOk.add {l1 : Gl} {s : Nat} {S : List Nat} (h : NewOk base s0 g gl l w l1 s S) (hs : s0 ≤ s) {v : Value} {k : Nat} {xs : List (List AV)} {S' : List Nat} (hS : ∀ u ∈ S, u ∈ S') (hO : OwnT base g (l1.own s v k xs) w s)
    (hb : ∀ b, v.ownBlock = some b → (∃ u ∈ S', (gl.xv u).ownBlock = some b) ∧ ∀ u ∈ S, (gl.xv u).ownBlock ≠ some b) : NewOk base s0 g gl l w (l1.own s v k xs) (s + 1) S' := by
  have hne : ∀ t, t < s → t ≠ s := fun t h => by omega
  have hv : (l1.own s v k xs).xv s = v := by simp [Gl.own]
  refine ⟨h.loc, fun t ht => ?_, fun t h1 h2 => ?_, fun t h1 h2 u h3 h4 b hb1 hb2 => ?_⟩
  · obtain ⟨e1, e2, e3⟩ := Gl.own_ne (l := l1) (k := k) (v := v) (xs := xs) (show t ≠ s by omega)
    rw [e1, e2, e3]
    exact h.old t ht
  · by_cases e : t = s
    · subst e
      exact ⟨hO, fun b hb' => (hb b (by rwa [hv] at hb')).1⟩
    · have he := Gl.own_ne (l := l1) (k := k) (v := v) (xs := xs) e
      obtain ⟨k1, k2⟩ := h.own t h1 (by omega)
      refine ⟨k1.at he, fun b hb' => ?_⟩
      rw [he.1] at hb'
      obtain ⟨u, hu, hub⟩ := k2 b hb'
      exact ⟨u, hS u hu, hub⟩
  · by_cases e : t = s
    · by_cases e' : u = s
      · omega
      · exfalso
        subst e
        rw [hv] at hb1
        rw [(Gl.own_ne (l := l1) (k := k) (v := v) (xs := xs) e').1] at hb2
        obtain ⟨q, hq, hqb⟩ := (h.own u h3 (by omega)).2 b hb2
        exact (hb b hb1).2 q hq hqb
    · by_cases e' : u = s
      · exfalso
        subst e'
        rw [hv] at hb2
        rw [(Gl.own_ne (l := l1) (k := k) (v := v) (xs := xs) e).1] at hb1
        obtain ⟨q, hq, hqb⟩ := (h.own t h1 (by omega)).2 b hb1
        exact (hb b hb2).2 q hq hqb
      · rw [(Gl.own_ne (l := l1) (k := k) (v := v) (xs := xs) e).1] at hb1
        rw [(Gl.own_ne (l := l1) (k := k) (v := v) (xs := xs) e').1] at hb2
        exact h.inj t h1 (by omega) u h3 (by omega) b hb1 hb2

/-- What one step of the norming gives. -/
structure Step (base s0 : Nat) (g : Gs) (gl l : Gl) (w : World) (l1 l2 : Gl) (s s' : Nat) (S' : List Nat) : Prop where
  ok : NewOk base s0 g gl l w l2 s' S'
  le : s ≤ s'
  keep : ∀ t, t < s → l2.xv t = l1.xv t ∧ l2.xc t = l1.xc t ∧ l2.xk t = l1.xk t

theorem normC_own {All : List Nat} (hInj : ∀ t ∈ All, ∀ u ∈ All, ∀ b, (gl.xv t).ownBlock = some b → (gl.xv u).ownBlock = some b → t = u) {s : Nat} {c : CK} {x : AV} {v : Value} {K : Nat → AV → Prop} {l1 : Gl} {S : List Nat}
    (h : normC true s c x K) (hr : TRep g gl w 0 x v) (hO : ∀ t ∈ tagsOf x, OwnT base g gl w t ∧ t ∈ All ∧ t ∉ S) (hSA : ∀ t ∈ S, t ∈ All) (hN : NewOk base s0 g gl l w l1 s S) (hs : s0 ≤ s) (hs0 : 0 < s0) :
    ∃ s' y l2, K s' y ∧ Step base s0 g gl l w l1 l2 s s' (tagsOf x ++ S) ∧ TRep g l2 w n y v ∧ (∀ t ∈ tagsOf y, s ≤ t ∧ t < s') := by
  have plain : ∀ y, tagsOf y = [] → TRep g gl w 0 y v → K s y → tagsOf x = [] → ∃ s' y l2, K s' y ∧ Step base s0 g gl l w l1 l2 s s' (tagsOf x ++ S) ∧ TRep g l2 w n y v ∧ (∀ t ∈ tagsOf y, s ≤ t ∧ t < s') := by
    intro y hy hr hK hx
    refine ⟨s, y, l1, hK, ⟨by rw [hx]; exact hN, Nat.le_refl _, fun _ _ => ⟨rfl, rfl, rfl⟩⟩, ?_, by rw [hy]; simp⟩
    exact TRep.mono (fun _ _ => rfl) (fun _ h => h) (fun _ _ h => h) (fun j hj => absurd hj (Nat.not_lt_zero j)) (Nat.zero_le _) y v (by rw [hy]; simp) hr
  have other : G x.noTag (K s x) → ∃ s' y l2, K s' y ∧ Step base s0 g gl l w l1 l2 s s' (tagsOf x ++ S) ∧ TRep g l2 w n y v ∧ (∀ t ∈ tagsOf y, s ≤ t ∧ t < s') := by
    intro h
    obtain ⟨h1, h⟩ := G_out h
    have h1 : tagsOf x = [] := by simpa [AV.noTag] using h1
    exact plain x h1 hr h h1
  cases c <;> simp only [normC, cond_true] at h <;> try exact other h
  case ptr => exact plain x (ptr_out (K := K s) h).2 hr (ptr_out (K := K s) h).1 (ptr_out (K := K s) h).2
  case map => exact plain x (mapv_out (K := K s) h).2 hr (mapv_out (K := K s) h).1 (mapv_out (K := K s) h).2
  case iface => exact plain x (if_out (K := K s) h).2 hr (if_out (K := K s) h).1 (if_out (K := K s) h).2
  case int k =>
    obtain ⟨h1, h⟩ := G_out h
    cases x <;> simp [AV.isInt] at h1
    subst h1
    exact plain _ rfl hr h rfl
  case bool =>
    obtain ⟨h1, h⟩ := G_out h
    cases x <;> simp [AV.isBool] at h1
    exact plain _ rfl hr h rfl
  case str =>
    obtain ⟨h1, h⟩ := G_out h
    cases x <;> simp [AV.isStr] at h1
    exact plain _ rfl hr h rfl
  case slice k =>
    have h2 := G_out h
    clear h
    obtain ⟨h1, h⟩ := h2
    obtain ⟨m, rfl⟩ : ∃ m, s = m + 1 := ⟨s - 1, by omega⟩
    cases x <;> try (simp [AV.isOwn] at h1; done)
    case nilsl =>
      have hk : 0 < k := Nat.le_of_ble_eq_true h1
      simp only [TRep] at hr
      refine ⟨m + 1 + 1, _, l1.own (m + 1) (.slice none 0 0) k [], h, ⟨hN.add hs (fun u hu => by simpa [tagsOf] using hu) ⟨0, [], ?_, ?_, ?_, by simp, ?_⟩ (fun b hb => by cases hb), by omega, fun t ht => Gl.own_ne (by omega)⟩, ?_, ?_⟩
      · simp only [Gl.own, if_true]
        exact World.ownsRow_nil _ _ _ _
      · simp only [Gl.own, if_true]
        exact ⟨hk, fun b _ _ _ hb => by cases hb⟩
      · simp [Gl.own]
      · simp [Gl.own]
      · simp [TRep, Gl.own, AV.slXs, hr]
      · intro t ht
        simp [tagsOf, Nat.beq] at ht
        omega
    case sl t k' xs =>
      cases t with
      | zero => simp [AV.isOwn] at h1
      | succ t =>
        simp only [AV.isOwn] at h1
        have hk := Nat.eq_of_beq_eq_true h1
        subst hk
        simp only [TRep] at hr
        obtain ⟨rfl, rfl, rfl⟩ := hr
        obtain ⟨hO1, hO2, hO3⟩ := hO (t + 1) (by simp [tagsOf, Nat.beq])
        refine ⟨m + 1 + 1, _, l1.own (m + 1) (gl.xv (t + 1)) (gl.xk (t + 1)) (gl.xc (t + 1)), h, ⟨hN.add hs (fun u hu => by simp [hu]) (hO1.at (by simp [Gl.own])) (fun b hb => ⟨⟨t + 1, by simp [tagsOf, Nat.beq], hb⟩, fun u hu he => ?_⟩), by omega, fun t ht => Gl.own_ne (by omega)⟩, ?_, ?_⟩
        · have := hInj _ hO2 u (hSA u hu) b hb he
          subst this
          exact hO3 hu
        · simp only [TRep, Gl.own, if_true, AV.slXs, and_self]
        · intro t ht
          simp [tagsOf, Nat.beq] at ht
          omega

theorem nodupB_append {xs ys : List Nat} (h : nodupB (xs ++ ys) = true) : nodupB xs = true ∧ nodupB ys = true ∧ ∀ t ∈ xs, t ∉ ys := by
  induction xs with
  | nil => exact ⟨rfl, h, by simp⟩
  | cons x xs ih =>
    simp only [List.cons_append, nodupB, Bool.and_eq_true, Bool.not_eq_true'] at h
    obtain ⟨h1, h2⟩ := h
    obtain ⟨i1, i2, i3⟩ := ih h2
    have hx : x ∉ xs ++ ys := by intro hm; simp [hm] at h1
    simp only [List.mem_append, not_or] at hx
    refine ⟨by simp [nodupB, i1, hx.1], i2, fun t ht => ?_⟩
    rcases List.mem_cons.1 ht with rfl | ht
    · exact hx.2
    · exact i3 t ht
end

section
variable {base s0 : Nat} {g : Gs} {gl l : Gl} {w : World} {n : Nat}
theorem Step.refl {l1 : Gl} {s : Nat} {S : List Nat} (h : NewOk base s0 g gl l w l1 s S) : Step base s0 g gl l w l1 l1 s s S := ⟨h, Nat.le_refl _, fun _ _ => ⟨rfl, rfl, rfl⟩⟩
theorem TRep.later {l1 l2 : Gl} {s : Nat} {y : AV} {v : Value} (h : TRep g l1 w n y v) (hloc : l2.loc = l1.loc) (hk : ∀ t, t < s → l2.xv t = l1.xv t ∧ l2.xc t = l1.xc t ∧ l2.xk t = l1.xk t) (ht : ∀ t ∈ tagsOf y, t < s) : TRep g l2 w n y v :=
  TRep.mono (fun _ _ => rfl) (fun _ h => h) (fun _ _ h => h) (fun j _ => by rw [hloc]) (Nat.le_refl _) y v (fun t h => hk t (ht t h)) h

/-- A list is normed, one after the other. -/
theorem norm_list {α : Type} {f : Nat → α → AV → (Nat → AV → Prop) → Prop} {fs : List α → Nat → List AV → (Nat → List AV → Prop) → Prop} (f0 : ∀ s xs K, fs [] s xs K = K s []) (f1 : ∀ c cs s xs K, fs (c :: cs) s xs K = f s c (xs.headD .any) fun s x => fs cs s xs.tail fun s r => K s (x :: r))
    {All : List Nat} (hs0 : 0 < s0) (hone : ∀ {s : Nat} {c : α} {x : AV} {v : Value} {K : Nat → AV → Prop} {l1 : Gl} {S : List Nat}, f s c x K → TRep g gl w 0 x v → nodupB (tagsOf x) = true → (∀ t ∈ tagsOf x, OwnT base g gl w t ∧ t ∈ All ∧ t ∉ S) → (∀ t ∈ S, t ∈ All) → NewOk base s0 g gl l w l1 s S → s0 ≤ s →
      ∃ s' y l2, K s' y ∧ Step base s0 g gl l w l1 l2 s s' (tagsOf x ++ S) ∧ TRep g l2 w n y v ∧ (∀ t ∈ tagsOf y, s ≤ t ∧ t < s')) :
    ∀ {cks : List α} {s : Nat} {xs : List AV} {vs : List Value} {K : Nat → List AV → Prop} {l1 : Gl} {S : List Nat}, fs cks s xs K → xs.length = cks.length → TReps g gl w 0 xs vs → nodupB (tagsOfs xs) = true → (∀ t ∈ tagsOfs xs, OwnT base g gl w t ∧ t ∈ All ∧ t ∉ S) → (∀ t ∈ S, t ∈ All) → NewOk base s0 g gl l w l1 s S → s0 ≤ s →
      ∃ s' ys l2, K s' ys ∧ Step base s0 g gl l w l1 l2 s s' (tagsOfs xs ++ S) ∧ TReps g l2 w n ys vs ∧ (∀ t ∈ tagsOfs ys, s ≤ t ∧ t < s')
  | [], s, xs, vs, K, l1, S, h, h1, hr, _, _, _, hN, hs => by
    rw [f0] at h
    have hx : xs = [] := List.eq_nil_of_length_eq_zero (by simpa using h1)
    subst hx
    cases vs with
    | cons v vs => simp [TReps] at hr
    | nil => exact ⟨s, [], l1, h, by simpa [tagsOfs] using Step.refl hN, by simp [TReps], by simp [tagsOfs]⟩
  | c :: cks, s, x :: xs, v :: vs, K, l1, S, h, h1, hr, hnd, hO, hSA, hN, hs => by
    rw [f1] at h
    simp only [List.headD_cons, List.tail_cons] at h
    simp only [TReps] at hr
    simp only [tagsOfs] at hnd hO ⊢
    obtain ⟨d1, d2, d3⟩ := nodupB_append hnd
    obtain ⟨s1, y, l2, h, hst, hy, hyt⟩ := hone h hr.1 d1 (fun t ht => hO t (by simp [ht])) hSA hN hs
    obtain ⟨s2, ys, l3, h, hst2, hys, hyst⟩ := norm_list f0 f1 hs0 hone (S := tagsOf x ++ S) h (by simpa using h1) hr.2 d2 (fun t ht => ⟨(hO t (by simp [ht])).1, (hO t (by simp [ht])).2.1, fun hm => by
        rcases List.mem_append.1 hm with hm | hm
        · exact d3 t hm ht
        · exact (hO t (by simp [ht])).2.2 hm⟩) (fun t ht => by
        rcases List.mem_append.1 ht with hm | hm
        · exact (hO t (by simp [hm])).2.1
        · exact hSA t hm) hst.ok (Nat.le_trans hs hst.le)
    have hloc : l3.loc = l2.loc := hst2.ok.loc.trans hst.ok.loc.symm
    refine ⟨s2, y :: ys, l3, h, ⟨?_, Nat.le_trans hst.le hst2.le, fun t ht => ?_⟩, ?_, fun t ht => ?_⟩
    · have := hst2.ok
      refine ⟨this.loc, this.old, fun t a b => ?_, this.inj⟩
      obtain ⟨q1, q2⟩ := this.own t a b
      refine ⟨q1, fun b hb => ?_⟩
      obtain ⟨u, hu, hub⟩ := q2 b hb
      refine ⟨u, ?_, hub⟩
      simp only [List.mem_append] at hu ⊢
      rcases hu with hu | hu | hu
      · exact .inl (.inr hu)
      · exact .inl (.inl hu)
      · exact .inr hu
    · obtain ⟨a1, a2, a3⟩ := hst2.keep t (Nat.lt_of_lt_of_le ht hst.le)
      obtain ⟨b1, b2, b3⟩ := hst.keep t ht
      exact ⟨a1.trans b1, a2.trans b2, a3.trans b3⟩
    · simp only [TReps]
      exact ⟨hy.later hloc hst2.keep (fun t ht => (hyt t ht).2), hys⟩
    · simp only [tagsOfs, List.mem_append] at ht
      rcases ht with ht | ht
      · have := hyt t ht; have := hst2.le; omega
      · have := hyst t ht; have := hst.le; omega
  | _ :: _, _, [], _, _, _, _, _, h1, _, _, _, _, _, _ => by simp at h1
  | _ :: _, _, _ :: _, [], _, _, _, _, _, hr, _, _, _, _, _ => by simp [TReps] at hr

theorem normT_own {T : List TI} {All : List Nat} (hInj : ∀ t ∈ All, ∀ u ∈ All, ∀ b, (gl.xv t).ownBlock = some b → (gl.xv u).ownBlock = some b → t = u) (hs0 : 0 < s0) {s t : Nat} {x : AV} {v : Value} {K : Nat → AV → Prop} {l1 : Gl} {S : List Nat}
    (h : normT T true s t x K) (hr : TRep g gl w 0 x v) (hnd : nodupB (tagsOf x) = true) (hO : ∀ t ∈ tagsOf x, OwnT base g gl w t ∧ t ∈ All ∧ t ∉ S) (hSA : ∀ t ∈ S, t ∈ All) (hN : NewOk base s0 g gl l w l1 s S) (hs : s0 ≤ s) :
    ∃ s' y l2, K s' y ∧ Step base s0 g gl l w l1 l2 s s' (tagsOf x ++ S) ∧ TRep g l2 w n y v ∧ (∀ t ∈ tagsOf y, s ≤ t ∧ t < s') := by
  unfold normT at h
  cases ha : isAggT T t <;> rw [ha] at h <;> simp only [cond_false, cond_true] at h
  · exact normC_own hInj h hr hO hSA hN hs hs0
  · obtain ⟨h1, h⟩ := G_out h
    simp only [Bool.and_eq_true] at h1
    cases x <;> simp [AV.isAgg] at h1
    simp only [TRep] at hr
    obtain ⟨vs, rfl, hr⟩ := hr
    simp only [tagsOf] at hnd hO ⊢
    obtain ⟨s', ys, l2, k1, k2, k3, k4⟩ := norm_list (base := base) (l := l) (n := n) (f := fun s c x K => normC true s c x K) (fs := normCs true) (fun _ _ _ => rfl) (fun _ _ _ _ _ => rfl) (All := All) hs0
      (fun h hr _ hO hSA hN hs => normC_own hInj h hr hO hSA hN hs hs0) h h1 hr hnd hO hSA hN hs
    exact ⟨s', .agg ys, l2, k1, k2, by simp only [TRep]; exact ⟨vs, rfl, k3⟩, by simpa [tagsOf] using k4⟩
theorem normRes_own {T : List TI} {All : List Nat} (hInj : ∀ t ∈ All, ∀ u ∈ All, ∀ b, (gl.xv t).ownBlock = some b → (gl.xv u).ownBlock = some b → t = u) (hs0 : 0 < s0) {t : Nat} {x : AV} {v : Value} {K : AV → Prop}
    (h : normRes T true s0 t x K) (hr : TRep g gl w 0 x v) (hnd : nodupB (tagsOf x) = true) (hO : ∀ t ∈ tagsOf x, OwnT base g gl w t ∧ t ∈ All) :
    ∃ s' y l2, K y ∧ NewOk base s0 g gl l w l2 s' (tagsOf x) ∧ TRep g l2 w n y v ∧ (∀ t ∈ tagsOf y, s0 ≤ t ∧ t < s') := by
  have hN : NewOk base s0 g gl l w l s0 [] := ⟨rfl, fun _ _ => ⟨rfl, rfl, rfl⟩, fun t h1 h2 => absurd h1 (by omega), fun t h1 h2 => absurd h1 (by omega)⟩
  unfold normRes at h
  split at h
  · obtain ⟨h1, h⟩ := G_out h
    simp only [Bool.and_eq_true] at h1
    cases x <;> simp [AV.isTup] at h1
    simp only [TRep] at hr
    obtain ⟨vs, rfl, hr⟩ := hr
    simp only [tagsOf] at hnd hO ⊢
    obtain ⟨s', ys, l2, k1, k2, k3, k4⟩ := norm_list (base := base) (l := l) (n := n) (f := fun s c x K => normT T true s c x K) (fs := normTs T true) (fun _ _ _ => rfl) (fun _ _ _ _ _ => rfl) (All := All) hs0
      (fun h hr hnd hO hSA hN hs => normT_own hInj hs0 h hr hnd hO hSA hN hs) h h1 hr hnd (fun t ht => ⟨(hO t ht).1, (hO t ht).2, by simp⟩) (by simp) hN (Nat.le_refl _)
    exact ⟨s', .tup ys, l2, k1, by have := k2.ok; rwa [List.append_nil] at this, by simp only [TRep]; exact ⟨vs, rfl, k3⟩, by simpa [tagsOf] using k4⟩
  · obtain ⟨s', y, l2, k1, k2, k3, k4⟩ := normT_own (base := base) (l := l) (n := n) (S := []) hInj hs0 h hr hnd (fun t ht => ⟨(hO t ht).1, (hO t ht).2, by simp⟩) (by simp) hN (Nat.le_refl _)
    exact ⟨s', y, l2, k1, by simpa using k2.ok, k3, k4⟩
end

section
variable {P : Program} {T : List TI} {w0 : World} {g0 g : Gs} {l : Gl} {w : World} {st : St} {a : Act} {o : Oper} {next : Act → World → Prop} {Q : Exit → Act → World → Prop}

theorem Inv.setH (h : Inv w0 g0 g l w st a) (H : Heap) (hH : HOK g w H) : Inv w0 g0 g l w { st with H := H } a :=
  ⟨h.defers, h.tm, h.mem, h.own, h.priv, h.inj, h.ownPriv, h.ownInj, hH, h.ext, h.stbLt⟩

/-- A value with new tags is put into its slot. -/
theorem Inv.putNew (h : Inv w0 g0 g l w st a) {l2 : Gl} {av : AV} {v : Value} (hloc : l2.loc = l.loc) (hold : ∀ t ∈ st.tags, l2.xv t = l.xv t ∧ l2.xc t = l.xc t ∧ l2.xk t = l.xk t) (hr : TRep g l2 w st.mem.length av v)
    (hT : ∀ t ∈ tagsOf av, OwnT w0.heap.size g l2 w t ∧ ∀ b, (l2.xv t).ownBlock = some b → ¬ g.stb b ∧ ¬ g.foot b ∧ (∀ j, j < st.mem.length → l.loc j ≠ b) ∧ ∀ u ∈ st.tags, (l.xv u).ownBlock ≠ some b)
    (hinj : ∀ t ∈ tagsOf av, ∀ u ∈ tagsOf av, ∀ b, (l2.xv t).ownBlock = some b → (l2.xv u).ownBlock = some b → t = u) (d : Option Nat) : Inv w0 g0 g l2 w (st.put d av) (a.put d v) := by
  have hdef : (a.put d v).defers = [] := by cases d <;> exact h.defers
  have htm : TReps g l2 w st.mem.length st.tm a.tmps.toList := TReps.mono (l := l) (fun _ _ => rfl) (fun _ h => h) (fun _ _ h => h) (fun j _ => by rw [hloc]) (Nat.le_refl _) _ _ (fun u hu => hold u (tags_tm hu)) h.tm
  refine ⟨hdef, ?_, ?_, ?_, ?_, ?_, ?_, ?_, ?_, h.ext, h.stbLt⟩
  · rw [put_mem]
    cases d with
    | none => exact htm
    | some d =>
      simp only [St.put, Act.put, Array.toList_setIfInBounds]
      exact htm.set hr d
  · rw [put_mem, hloc]
    intro j mb hj
    exact (h.mem j mb hj).mono (fun _ => rfl) (fun u hu => hold u (tags_mem hj hu)) (fun j _ => by rw [hloc]) (Nat.le_refl _) (fun _ _ => rfl) (fun _ h => h) (fun _ _ h => h)
  · intro u hu
    rcases put_tags hu with hu | hu
    · exact (h.own u hu).at (hold u hu)
    · exact (hT u hu).1
  · rw [put_mem, hloc]; exact h.priv
  · rw [put_mem, hloc]; exact h.inj
  · intro u hu b hb
    rw [put_mem, hloc]
    rcases put_tags hu with hu | hu
    · rw [(hold u hu).1] at hb
      exact h.ownPriv u hu b hb
    · obtain ⟨k1, k2, k3, _⟩ := (hT u hu).2 b hb
      exact ⟨k1, k2, k3⟩
  · intro u hu u' hu' b hb hb'
    rcases put_tags hu with hu | hu <;> rcases put_tags hu' with hu' | hu'
    · rw [(hold u hu).1] at hb
      rw [(hold u' hu').1] at hb'
      exact h.ownInj u hu u' hu' b hb hb'
    · rw [(hold u hu).1] at hb
      exact absurd hb (((hT u' hu').2 b hb').2.2.2 u hu)
    · rw [(hold u' hu').1] at hb'
      exact absurd hb' (((hT u hu).2 b hb).2.2.2 u' hu')
    · exact hinj u hu u' hu' b hb hb'
  · rw [put_H]; exact h.heap

theorem leans_foot (h : Inv w0 g0 g l w st a) {b : Nat} (hl : Leans g l st b) : ¬ g.foot b := by
  rcases hl with hl | ⟨j, mb, hj, hm, hl⟩ | ⟨t, ht, hl⟩
  · exact (h.stbLt b hl).2
  · rw [← hl]; exact (h.priv j mb hj hm).2.2.2
  · exact (h.ownPriv t ht b hl).2.1
/-- The frame goes on behind a call. -/
theorem Inv.afterCall (h : Inv w0 g0 g l w st a) {w' : World} {g' : Gs} {H' : Heap} (he : Ext w g w' g') (hH : HOK g' w' H') (hs : ∀ b, g'.stb b → b < w'.heap.size ∧ ¬ g'.foot b) : Inv w0 g0 g' l w' { st with H := H' } a :=
  h.step he.os he.tape he.output he.size (fun b hb hl => he.keep b hb (hl.elim (leans_foot h) fun h => h.2)) he.stb he.stbNew he.ob he.footNew hs hH
theorem HOK.none {H : Heap} (h : HOK g w H) (L : Nat → Prop) : HOK ⟨fun b => g.stb b ∨ L b, g.ob, fun _ => False⟩ w H.none :=
  ⟨h.lt, fun _ _ => rfl, fun _ hj => absurd rfl hj, fun _ _ _ hi => absurd rfl hi, fun _ hb => hb.elim, fun p hp => ⟨.inl (h.fx p hp).1, (h.fx p hp).2⟩⟩
/-- The frame goes on behind a call that had no object; L: what was lent. -/
theorem Inv.afterPure (h : Inv w0 g0 g l w st a) {L : Nat → Prop} (hL : ∀ b, L b → ¬ g.stb b) {w' : World} {g' : Gs} {H' : Heap} (he : Ext w ⟨fun b => g.stb b ∨ L b, g.ob, fun _ => False⟩ w' g') (hH : HOK g' w' H') (hs : ∀ b, g'.stb b → b < w'.heap.size ∧ ¬ g'.foot b) :
    Inv w0 g0 ⟨fun b => g'.stb b ∧ ¬ L b, g'.ob, g.foot⟩ l w' { st with H := st.H.past H' } a := by
  have hold : ∀ b, b < w.heap.size → w'.heap[b]? = w.heap[b]? := fun b hb => he.keep b hb (fun h => h)
  have hnew : ∀ b, g'.stb b → ¬ L b → g.stb b ∨ w.heap.size ≤ b := fun b hb hn => by
    rcases he.stbNew b hb with (h1 | h1) | h1 | h1
    · exact .inl h1
    · exact absurd h1 hn
    · exact .inr h1
    · exact h1.elim
  refine h.step (g' := ⟨fun b => g'.stb b ∧ ¬ L b, g'.ob, g.foot⟩) he.os he.tape he.output he.size (fun b hb _ => hold b hb) (fun b hb => ⟨he.stb b (.inl hb), fun hl => hL b hl hb⟩) (fun b hb => (hnew b hb.1 hb.2).imp id .inl) he.ob (fun b hb => .inl hb) (fun b hb => ⟨(hs b hb.1).1, fun hf => ?_⟩) ?_
  · have := h.heap.foot_lt hf
    rcases hnew b hb.1 hb.2 with h1 | h1
    · exact (h.stbLt b h1).2 hf
    · omega
  · refine ⟨fun j b hj => Nat.lt_of_lt_of_le (hH.lt j b hj) (Nat.le_max_right _ _), fun j hj => ?_, fun j hj => ?_, fun i j b hi hj h1 h2 => ?_, fun b hb => ?_, ?_⟩
    · show st.H.get j = .dead
      cases hd : st.H.get j with
      | dead => rfl
      | _ =>
        obtain ⟨b, h1, _⟩ := h.heap.live j (by rw [hd]; simp)
        have h2 := hH.lt j b (he.ob j b h1)
        have hj : H'.next ≤ j := Nat.le_trans (Nat.le_max_right _ _) hj
        omega
    · obtain ⟨b, h1, h2, h3, h4⟩ := h.heap.live j hj
      exact ⟨b, he.ob j b h1, h2, by have := he.size; omega, h4.mono (hold b h3) (fun q hq => hold q (h.stbLt q hq).1) (fun q hq => ⟨he.stb q (.inl hq), fun hl => hL q hl hq⟩) he.ob⟩
    · obtain ⟨b1, k1, _⟩ := h.heap.live i hi
      obtain ⟨b2, k2, _⟩ := h.heap.live j hj
      have e1 := he.ob i b1 k1
      have e2 := he.ob j b2 k2
      simp only at h1 h2
      rw [h1] at e1
      rw [h2] at e2
      cases e1
      cases e2
      exact h.heap.inj i j _ hi hj k1 k2
    · obtain ⟨j, h1, h2⟩ := h.heap.foot b hb
      exact ⟨j, h1, he.ob j b h2⟩
    · intro p hp
      have hb := (h.heap.fx p hp).1
      exact ⟨⟨he.stb _ (.inl hb), fun hl => hL _ hl hb⟩, (h.heap.fx p hp).2.mono (hold _ (h.stbLt _ hb).1)⟩

/-- What a call does to the frame. -/
def CallOk (P : Program) (w0 : World) (g0 : Gs) (a : Act) (w : World) (f : Nat) (vals : List Value) (K : AV → St → Prop) : Prop :=
  Enters P f ∧ Calls P f vals.toArray w fun e w' => ∃ r av st' g' l', e = .returned r ∧ K av st' ∧ ∀ d, Inv w0 g0 g' l' w' (st'.put d av) (a.put d r)

/-- A number, a bool, a string, or a tuple of such. -/
def flat : AV → Bool
  | .int _ _ => true
  | .bool _ => true
  | .str _ => true
  | .tup vs => vs.all fun | .int _ _ => true | .bool _ => true | .str _ => true | _ => false
  | _ => false
theorem flat_rep {x : AV} {v : Value} {w : World} {stb stb' : Nat → Prop} {ob ob' : Nat → Option Nat} (hf : flat x = true) (h : Rep w stb ob x v) : Rep w stb' ob' x v := by
  cases h with
  | int k n => exact .int k n
  | bool b => exact .bool b
  | str s => exact .str s
  | tup cs vs hl hr =>
    refine .tup cs vs hl fun i c v hc hv => ?_
    have hr := hr i c v hc hv
    simp only [flat, List.all_eq_true] at hf
    have hf := hf c (List.mem_of_getElem? hc)
    cases hr with
    | int k n => exact .int k n
    | bool b => exact .bool b
    | str s => exact .str s
    | _ => simp at hf
  | _ => simp [flat] at hf
end

section
variable {P : Program} {T : List TI} {w0 : World} {g0 g : Gs} {l : Gl} {w : World} {st : St} {a : Act} {o : Oper} {next : Act → World → Prop} {Q : Exit → Act → World → Prop}

def one1 : AV → Bool | .int _ _ => true | .bool _ => true | .str _ => true | _ => false
def scalarK : TK → Bool | .int _ => true | .bool => true | .str => true | _ => false
theorem scalar_shape (hT : TabOk P T) {t : Nat} (h : scalarK (ti T t).k = true) : isAggT T t = false ∧ ((ti T t).shape.headD .other = .bool ∨ (ti T t).shape.headD .other = .str ∨ ∃ k, (ti T t).shape.headD .other = .int k) := by
  have hne : (ti T t).k ≠ .other := by intro e; rw [e] at h; simp [scalarK] at h
  have hsh := hT.shape hne
  have hs : ∀ d, P.underlying t = some d → shapeOf P (19 + 1) t = (match d with
    | .int k => [.int k] | .bool => [.bool] | .string => [.str] | _ => shapeOf P (19 + 1) t) := by
    intro d hd
    cases d <;> first | rfl | (unfold shapeOf; rw [hd])
  cases hk : (ti T t).k <;> rw [hk] at h <;> try (simp [scalarK] at h; done)
  case int k =>
    have := hs _ (hT.u_int hk)
    refine ⟨by simp [isAggT, hk], .inr (.inr ⟨k, ?_⟩)⟩
    rw [hsh]
    show (shapeOf P (19 + 1) t).headD .other = _
    rw [this]
    rfl
  case bool =>
    have := hs _ (hT.u_bool hk)
    refine ⟨by simp [isAggT, hk], .inl ?_⟩
    rw [hsh]
    show (shapeOf P (19 + 1) t).headD .other = _
    rw [this]
    rfl
  case str =>
    have := hs _ (hT.u_str hk)
    refine ⟨by simp [isAggT, hk], .inr (.inl ?_)⟩
    rw [hsh]
    show (shapeOf P (19 + 1) t).headD .other = _
    rw [this]
    rfl
theorem normT_flat (hT : TabOk P T) {s t : Nat} {x : AV} {v : Value} {stb : Nat → Prop} {ob : Nat → Option Nat} {K : Nat → AV → Prop} (hk : scalarK (ti T t).k = true) (h : normT T false s t x K) (hr : Rep w stb ob x v) : ∃ y, K s y ∧ Rep w stb ob y v ∧ one1 y = true := by
  obtain ⟨h1, h2⟩ := scalar_shape hT hk
  unfold normT at h
  rw [h1] at h
  simp only [cond_false] at h
  rcases h2 with h2 | h2 | ⟨k, h2⟩ <;> rw [h2] at h <;> simp only [normC] at h <;> obtain ⟨q, h⟩ := G_out h
  · cases x <;> simp [AV.isBool] at q
    exact ⟨_, h, hr, rfl⟩
  · cases x <;> simp [AV.isStr] at q
    exact ⟨_, h, hr, rfl⟩
  · cases x <;> simp [AV.isInt] at q
    subst q
    exact ⟨_, h, hr, rfl⟩
theorem normTs_flat (hT : TabOk P T) {stb : Nat → Prop} {ob : Nat → Option Nat} : ∀ {ts : List Nat} {s : Nat} {xs : List AV} {vs : List Value} {K : Nat → List AV → Prop}, (∀ t ∈ ts, scalarK (ti T t).k = true) → normTs T false ts s xs K → xs.length = ts.length → xs.length = vs.length →
    (∀ (i : Nat) (c : AV) (v : Value), xs[i]? = some c → vs[i]? = some v → Rep w stb ob c v) → ∃ ys, K s ys ∧ ys.length = vs.length ∧ (∀ (i : Nat) (c : AV) (v : Value), ys[i]? = some c → vs[i]? = some v → Rep w stb ob c v) ∧ ∀ y ∈ ys, one1 y = true
  | [], s, xs, vs, K, _, h, h1, h2, _ => by
    simp only [normTs] at h
    exact ⟨[], h, by simp at h1; simp [h1] at h2; simp [h2], by simp, by simp⟩
  | c :: cks, s, x :: xs, v :: vs, K, hk, h, h1, h2, hr => by
    simp only [normTs, List.headD_cons, List.tail_cons] at h
    obtain ⟨y, h, hy, hf⟩ := normT_flat hT (hk c (by simp)) h (hr 0 x v rfl rfl)
    obtain ⟨ys, h, hl, hys, hfs⟩ := normTs_flat hT (fun t ht => hk t (by simp [ht])) h (by simpa using h1) (by simpa using h2) (fun i c u hc hu => hr (i + 1) c u (by simpa using hc) (by simpa using hu))
    refine ⟨y :: ys, h, by simp [hl], fun i c u hc hu => ?_, fun z hz => ?_⟩
    · cases i with
      | zero => simp at hc hu; subst hc hu; exact hy
      | succ i => exact hys i c u (by simpa using hc) (by simpa using hu)
    · rcases List.mem_cons.1 hz with rfl | hz
      · exact hf
      · exact hfs z hz
  | _ :: _, _, [], _, _, _, _, h1, _, _ => by simp at h1
  | _ :: _, _, _ :: _, [], _, _, _, _, h2, _ => by simp at h2
theorem normRes_flat (hT : TabOk P T) {s t : Nat} {x : AV} {v : Value} {stb : Nat → Prop} {ob : Nat → Option Nat} {K : AV → Prop} (hk : scalarT T t = true) (h : normRes T false s t x K) (hr : Rep w stb ob x v) : ∃ y, K y ∧ Rep w stb ob y v ∧ flat y = true := by
  unfold normRes at h
  split at h
  · rename_i ts hts
    obtain ⟨h1, h⟩ := G_out h
    simp only [Bool.and_eq_true] at h1
    cases x <;> simp [AV.isTup] at h1
    cases hr with
    | tup cs vs hl hr =>
      obtain ⟨ys, h, hl', hys, hf⟩ := normTs_flat hT (fun u hu => by
        simp only [scalarT, hts, List.all_eq_true] at hk
        have := hk u hu
        cases hku : (ti T u).k <;> simp_all [scalarK]) h h1 hl hr
      refine ⟨_, h, .tup ys vs hl' hys, ?_⟩
      simp only [flat, List.all_eq_true]
      intro y hy
      have := hf y hy
      cases y <;> simp_all [one1]
  · rename_i hnt
    obtain ⟨y, h, hy, hf⟩ := normT_flat hT (by
      unfold scalarT at hk
      cases hku : (ti T t).k <;> rw [hku] at hk <;> simp_all [scalarK]) h hr
    refine ⟨y, h, hy, ?_⟩
    cases y <;> simp_all [one1, flat]
theorem flat_tags {x : AV} (h : flat x = true) : tagsOf x = [] := by
  cases x <;> try (simp [flat] at h; done)
  case tup vs =>
    simp only [flat, List.all_eq_true] at h
    refine List.eq_nil_iff_forall_not_mem.2 fun t ht => ?_
    simp only [tagsOf] at ht
    obtain ⟨i, c, hc, ht⟩ := tagsOfs_iff ht
    have := h c (List.mem_of_getElem? hc)
    cases c <;> simp_all [tagsOf]
  all_goals rfl

/-- A slice of a block of the heap, lent as a stable one. -/
theorem hs_lend (hI : Inv w0 g0 g l w st a) {j o n c k : Nat} {v : Value} {stb : Nat → Prop} (h : Rep w g.stb g.ob (.hs j o n c k) v) {xs : List (List AV)} (hj : st.H.get j = .rows k xs) (hle : o + n ≤ xs.length) (hs : ∀ b, g.stb b → stb b) (hf : ∀ b, g.foot b → stb b) :
    Rep w stb g.ob (.sl 0 k ((xs.drop o).take n)) v := by
  cases h with
  | hs _ b _ _ _ _ q ho hn hm hq =>
    obtain ⟨hfb, hk, hmx, vs, e, hh, hR⟩ := rows_of hI.heap ho hj
    have hlen : ((xs.drop o).take n).length = n := by simp; omega
    by_cases h0 : n = 0
    · subst h0
      rw [List.take_zero]
      exact .sl0 _ _ _
    · have hq : q = o * k := by rcases hq with hq | hq <;> omega
      subst hq
      have hmul : (o + n) * k ≤ xs.length * k := Nat.mul_le_mul_right k hle
      have hcell : ∀ i p, i < n → p < k → ∃ v, vs[(o + i) * k + p]? = some v := by
        intro i p hi hp
        have := row_le (k := k) (show o + i < o + n by omega)
        exact ⟨_, List.getElem?_eq_getElem (by rw [hR.len]; omega)⟩
      have := Rep.sl (w := w) (stb := stb) (ob := g.ob) b (o * k) c k ((xs.drop o).take n) (fun i p => (vs[(o + i) * k + p]?).getD undef) (hf b hfb) (by rw [hlen]; exact hn) (by rw [hlen]; omega) (fun x hx => hR.row x (List.mem_of_mem_drop (List.mem_of_mem_take hx)))
        (fun i p hi hp => by
          rw [hlen] at hi
          obtain ⟨v, hv⟩ := hcell i p hi hp
          rw [hv, show o * k + (i * k + p) = (o + i) * k + p by rw [Nat.add_mul]; omega]
          exact cell_of_list hh hv)
        (fun i p hi hp => by
          rw [hlen] at hi
          obtain ⟨v, hv⟩ := hcell i p hi hp
          rw [hv]
          exact hR.one v (List.mem_of_getElem? hv))
        (fun i x p d hi hp => by
          have hin : i < n := by have := (List.getElem?_eq_some_iff.1 hi).1; omega
          rw [List.getElem?_take, if_pos hin, List.getElem?_drop] at hi
          obtain ⟨v, hv, hr⟩ := hR.rep (o + i) x p d hi hp
          rw [hv]
          exact hr.mono (fun _ _ => rfl) hs (fun _ _ h => h))
      rwa [hlen] at this
theorem lendH_eq {H : Heap} {x : AV} (h : hsOk H x = true) (hn : ∀ j o n c k, x ≠ .hs j o n c k) : mapT (lendH H) x = frzV x := by
  have leafs : ∀ c : AV, (∀ j o n c' k, c ≠ .hs j o n c' k) → lendH H c = lendF c := by
    intro c hc
    cases c <;> first | rfl | exact absurd rfl (hc _ _ _ _ _)
  cases x <;> try (first | (simp [hsOk] at h; done) | exact absurd rfl (hn _ _ _ _ _) | rfl)
  case agg cs =>
    simp only [hsOk, List.all_eq_true] at h
    unfold frzV
    simp only [mapT, AV.agg.injEq]
    have : ∀ cs : List AV, (∀ c ∈ cs, (match c with | .hs _ _ _ _ _ => false | .agg _ => false | .tup _ => false | .iface _ _ => false | _ => true) = true) → mapTs (lendH H) cs = mapTs lendF cs := by
      intro cs
      induction cs with
      | nil => intro _; rfl
      | cons c cs ih =>
        intro h
        simp only [mapTs]
        rw [ih (fun c hc => h c (by simp [hc]))]
        have hc := h c (by simp)
        congr 1
        cases c <;> first | (simp at hc; done) | rfl
    exact this cs h

theorem TRep.foot {g : Gs} {l : Gl} {w : World} {n : Nat} {x : AV} {v : Value} {F : Nat → Prop} (h : TRep g l w n x v) : TRep ⟨g.stb, g.ob, F⟩ l w n x v :=
  TRep.mono (g := g) (g' := ⟨g.stb, g.ob, F⟩) (fun _ _ => rfl) (fun _ h => h) (fun _ _ h => h) (fun _ _ => rfl) (Nat.le_refl _) _ _ (fun _ _ => ⟨rfl, rfl, rfl⟩) h
/-- A result that is the frame's own from here on is put into its place. -/
theorem own_result {s1 s2 : St} {g1 g2 : Gs} {w' : World} {l' l2 : Gl} {v y : AV} {r : Value} {s' : Nat} {K : AV → St → Prop} {e : Ending} (hsz : w0.heap.size ≤ w.heap.size) (hI1 : Inv w0 g0 g1 l w s1 a) (hI2 : Inv w0 g0 g2 l w' s2 a) (hm : s2.mem = s1.mem) (ht2 : s2.tags = s1.tags)
    (hN : NewOk w.heap.size s1.fresh g2 l' l w' l2 s' (tagsOf v)) (hy : TRep g2 l2 w' s1.mem.length y r) (hyt : ∀ t ∈ tagsOf y, s1.fresh ≤ t ∧ t < s')
    (h2 : ∀ t ∈ tagsOf v, OwnT w.heap.size g2 l' w' t ∧ ∀ b, (l'.xv t).ownBlock = some b → ¬ g2.stb b ∧ ¬ g2.foot b) (he : e = .returned r) (hK : K y s2) :
    ∃ r av st' g' l', e = .returned r ∧ K av st' ∧ ∀ d, Inv w0 g0 g' l' w' (st'.put d av) (a.put d r) := by
  have hfr : ∀ t ∈ s1.tags, t < s1.fresh := fun t ht => by
    rcases Nat.lt_or_ge t s1.fresh with h | h
    · exact h
    · have := fresh_not s1 (t - s1.fresh)
      rw [show s1.fresh + (t - s1.fresh) = t by omega] at this
      exact absurd ht this
  refine ⟨r, y, s2, g2, l2, he, hK, fun d => hI2.putNew hN.loc (fun t ht => hN.old t (hfr t (by rw [← ht2]; exact ht))) (by rw [hm]; exact hy) (fun t ht => ?_) (fun t ht u hu => hN.inj t (hyt t ht).1 (hyt t ht).2 u (hyt u hu).1 (hyt u hu).2) d⟩
  obtain ⟨q1, q2⟩ := hN.own t (hyt t ht).1 (hyt t ht).2
  refine ⟨q1.base_le hsz, fun b hb => ?_⟩
  obtain ⟨u, hu, hub⟩ := q2 b hb
  obtain ⟨p2, p3⟩ := h2 u hu
  obtain ⟨p4, p5⟩ := p3 b hub
  have hge : w.heap.size ≤ b := by obtain ⟨e, fl, hown, _⟩ := p2; exact (hown.lt b hub).1
  refine ⟨p4, p5, fun j hj he => ?_, fun u hu he => ?_⟩
  · rw [hm] at hj
    obtain ⟨mb, hmb⟩ : ∃ mb, s1.mem[j]? = some mb := ⟨_, List.getElem?_eq_getElem hj⟩
    cases hmine : mb.mine with
    | true => have := (hI1.priv j mb hmb hmine).2.1; omega
    | false =>
      cases mb with
      | frz cs =>
        have hb := (hI1.mem j _ hmb).1
        have := (hI1.stbLt _ hb).1
        omega
      | dead => exact (hI1.mem j _ hmb).elim
      | cells cs => simp [MB.mine] at hmine
      | siter s p => simp [MB.mine] at hmine
      | miter _ _ _ _ _ _ => simp [MB.mine] at hmine
  · obtain ⟨e, fl, hown, _⟩ := hI1.own u (by rw [← ht2]; exact hu)
    have := (hown.lt _ he).2
    omega
theorem callPure_sound {E : Env} {R : Oracle} (hT : TabOk P E.T) (hR : OSound P E R) (hI : Inv w0 g0 g l w st a) {f type : Nat} {args : List AV} {vals : List Value} {strict : Bool} {K : AV → St → Prop}
    (hr : TReps g l w st.mem.length args vals) (ht : ∀ t ∈ tagsOfs args, t ∈ st.tags) (h : cond (scalarT E.T type)
      (G (!(E.own f)) (G (args.all (hsOk st.H)) (R f (mapTs (lendH st.H) args) st.H.none fun v H => normRes E.T false 0 type v fun v => K v { st with H := st.H.past H })))
      (cond strict
        (G (tagsOfs args).isEmpty (G (!(E.own f)) (R f (frzVs args) st.H.none fun v H => normRes E.T false 0 type v fun v => K v { st with H := st.H.past H })))
        (let s' := st.frzAll (tagsOfs args); R f (frzVs args) st.H.none fun v H => normRes E.T (E.own f) s'.fresh type v fun v => K v { s' with H := st.H.past H }))) : CallOk P w0 g0 a w f vals K := by
  have hlend : ∀ (stb : Nat → Prop), (∀ b, g.stb b → stb b) → (∀ t ∈ tagsOfs args, ∀ b, (l.xv t).ownBlock = some b → stb b) → ∀ (i : Nat) (c : AV) (v : Value), (mapTs lendF args)[i]? = some c → vals[i]? = some v → Rep w stb g.ob c v := by
    intro stb hs hb i c v hc hv
    rw [mapTs_get, Option.map_eq_some_iff] at hc
    obtain ⟨c0, hc0, rfl⟩ := hc
    exact lend_rep (base := w0.heap.size) hs (S := tagsOfs args) (fun t h => ⟨hI.own t (ht t h), hb t h⟩) c0 v (fun t h => tagsOfs_get hc0 t h) (hr.of i c0 v hc0 hv)
  have hlen : (mapTs lendF args).length = vals.length := by rw [mapTs_length, hr.length]
  cases hsc : scalarT E.T type <;> rw [hsc] at h <;> simp only [cond_false, cond_true] at h
  · cases strict <;> simp only [cond_false, cond_true] at h
    · -- the arguments are frozen
      obtain ⟨g1, hI1, s1, n1, o1, f1, b1, c1⟩ := hI.frzAll (tagsOfs args) (fun t h => tags_pos hI t (ht t h))
      have hH : (st.frzAll (tagsOfs args)).H = st.H := frzAll_H _ _
      obtain ⟨hen, hcall⟩ := hR f _ _ _ h
      have hst : Start ⟨fun b => g1.stb b ∨ False, g1.ob, fun _ => False⟩ w st.H.none (frzVs args) vals :=
        ⟨by have := hI1.heap.none (fun _ => False); rwa [hH] at this, fun b hb => ⟨(hI1.stbLt b (hb.resolve_right id)).1, id⟩, hlen, by rw [o1]; exact hlend _ (fun b hb => .inl (s1 b hb)) (fun t h b hb => .inl (b1 t h (ht t h) b hb))⟩
      refine ⟨hen, (hcall w _ vals hst).mono fun e w' ⟨r, v, H', g', l', he, hF⟩ => ?_⟩
      have hI2 := hI1.afterPure (L := fun _ => False) (fun _ h => h.elim) hF.ext hF.heap hF.stbLt
      rw [hH] at hI2
      have hg' : (⟨fun b => g'.stb b ∧ ¬ False, g'.ob, g1.foot⟩ : Gs) = ⟨g'.stb, g'.ob, g1.foot⟩ := by simp
      rw [hg'] at hI2
      have hres := hF.res
      unfold ResOk at hres
      have hpost := hF.post
      cases hown : E.own f <;> rw [hown] at hres hpost <;> simp only [cond_false, cond_true] at hres
      · obtain ⟨y, hK, hy⟩ := normRes_rep hpost hres
        exact ⟨r, y, _, _, l, he, hK, fun d => hI2.put (TRep.of_rep hy) (by rw [hy.tags]; simp) d⟩
      · obtain ⟨h1, h2, h3, h4⟩ := hres
        have h2' : ∀ t ∈ tagsOf v, t ≠ 0 ∧ OwnT w.heap.size ⟨g'.stb, g'.ob, g1.foot⟩ l' w' t ∧ ∀ b, (l'.xv t).ownBlock = some b → ¬ g'.stb b ∧ ¬ g1.foot b := fun t ht => by
          obtain ⟨p1, p2, p3⟩ := h2 t ht
          refine ⟨p1, p2, fun b hb => ⟨(p3 b hb).1, fun hf => ?_⟩⟩
          have := hI1.heap.foot_lt hf
          obtain ⟨e, fl, hown, _⟩ := p2
          have := (hown.lt b hb).1
          omega
        obtain ⟨s', y, l2, hK, hN, hy, hyt⟩ := normRes_own (g := ⟨g'.stb, g'.ob, g1.foot⟩) (n := (st.frzAll (tagsOfs args)).mem.length) (base := w.heap.size) (l := l) (All := tagsOf v) h3 (fresh_pos _) hpost (TRep.foot h1) h4 (fun t ht => ⟨(h2' t ht).2.1, ht⟩)
        exact own_result hI.ext.size hI1 hI2 rfl rfl hN hy hyt (fun t ht => (h2' t ht).2) he hK
    · -- nothing of the frame's own is handed over
      obtain ⟨hg1, h⟩ := G_out h
      obtain ⟨hg2, h⟩ := G_out h
      have hg1 : tagsOfs args = [] := by simpa using hg1
      have hg2 : E.own f = false := by simpa using hg2
      obtain ⟨hen, hcall⟩ := hR f _ _ _ h
      have hst : Start ⟨fun b => g.stb b ∨ False, g.ob, fun _ => False⟩ w st.H.none (frzVs args) vals :=
        ⟨hI.heap.none _, fun b hb => ⟨(hI.stbLt b (hb.resolve_right id)).1, id⟩, hlen, hlend _ (fun b hb => .inl hb) (by rw [hg1]; simp)⟩
      refine ⟨hen, (hcall w _ vals hst).mono fun e w' ⟨r, v, H', g', l', he, hF⟩ => ?_⟩
      have hI2 := hI.afterPure (L := fun _ => False) (fun _ h => h.elim) hF.ext hF.heap hF.stbLt
      have hg' : (⟨fun b => g'.stb b ∧ ¬ False, g'.ob, g.foot⟩ : Gs) = ⟨g'.stb, g'.ob, g.foot⟩ := by simp
      rw [hg'] at hI2
      have hres := hF.res
      unfold ResOk at hres
      rw [hg2] at hres
      simp only [cond_false] at hres
      obtain ⟨y, hK, hy⟩ := normRes_rep hF.post hres
      exact ⟨r, y, _, _, l, he, hK, fun d => hI2.put (TRep.of_rep hy) (by rw [hy.tags]; simp) d⟩
  · -- what comes back holds no memory
    obtain ⟨hg2, h⟩ := G_out h
    obtain ⟨hg3, h⟩ := G_out h
    have hg2 : E.own f = false := by simpa using hg2
    obtain ⟨hen, hcall⟩ := hR f _ _ _ h
    let L : Nat → Prop := fun b => (∃ t ∈ st.tags, (l.xv t).ownBlock = some b) ∨ g.foot b
    have hLs : ∀ b, L b → ¬ g.stb b := fun b hb hs => by
      rcases hb with ⟨t, ht, hb⟩ | hb
      · exact (hI.ownPriv t ht b hb).1 hs
      · exact (hI.stbLt b hs).2 hb
    have hst : Start ⟨fun b => g.stb b ∨ L b, g.ob, fun _ => False⟩ w st.H.none (mapTs (lendH st.H) args) vals := by
      refine ⟨hI.heap.none _, fun b hb => ⟨?_, id⟩, by rw [mapTs_length, hr.length], fun i c v hc hv => ?_⟩
      · rcases hb with hb | ⟨t, ht, hb⟩ | hb
        · exact (hI.stbLt b hb).1
        · obtain ⟨e, fl, hown, _⟩ := hI.own t ht
          exact (hown.lt b hb).2
        · exact hI.heap.foot_lt hb
      · rw [mapTs_get, Option.map_eq_some_iff] at hc
        obtain ⟨c0, hc0, rfl⟩ := hc
        have hok := List.all_eq_true.1 hg3 c0 (List.mem_of_getElem? hc0)
        by_cases hhs : ∃ j o n c k, c0 = .hs j o n c k
        · obtain ⟨j, o, n, c, k, rfl⟩ := hhs
          have hrep := hr.of i _ v hc0 hv
          simp only [TRep] at hrep
          simp only [hsOk, Bool.and_eq_true] at hok
          obtain ⟨xs, hxs⟩ := isRows_eq hok.1
          have hle := hok.2
          rw [hxs] at hle
          simp only [mapT, lendH, hxs, HB.xs]
          exact hs_lend hI hrep hxs (Nat.le_of_ble_eq_true hle) (fun b hb => .inl hb) (fun b hb => .inr (.inr hb))
        · rw [lendH_eq hok fun j o n c k e => hhs ⟨j, o, n, c, k, e⟩]
          exact hlend (fun b => g.stb b ∨ L b) (fun b hb => .inl hb) (fun t h b hb => .inr (.inl ⟨t, ht t h, hb⟩)) i _ v (by rw [mapTs_get, hc0]; rfl) hv
    refine ⟨hen, (hcall w _ vals hst).mono fun e w' ⟨r, v, H', g', l', he, hF⟩ => ?_⟩
    have hI2 := hI.afterPure hLs hF.ext hF.heap hF.stbLt
    have hres := hF.res
    unfold ResOk at hres
    have hrv : ∃ y, K y { st with H := st.H.past H' } ∧ flat y = true ∧ Rep w' g'.stb g'.ob y r := by
      rw [hg2] at hres
      simp only [cond_false] at hres
      obtain ⟨y, hK, hy, hf⟩ := normRes_flat hT hsc hF.post hres
      exact ⟨y, hK, hf, hy⟩
    obtain ⟨y, hK, hf, hy⟩ := hrv
    exact ⟨r, y, _, _, l, he, hK, fun d => hI2.put (TRep.of_rep (flat_rep hf hy)) (by rw [flat_tags hf]; simp) d⟩
end
end Go.Proofs.Ytbkkhhmjmbbfpaa.Ab
