/- Texts of the proof, joined: AbCall, AbIO, AbObj, AbApart, AbMono, AbDet, AbFeas. -/
import Derived.Test.YtgmkkjmdflhbnaaDoorM2
import Derived.Lib.Overlaps
import Derived.Test.YtgmkkjmdflhbnaaDoorM1
set_option linter.unusedVariables false
set_option linter.unusedSimpArgs false
set_option linter.unnecessarySimpa false
section
namespace Go.Proofs.YtgmkkjmdflhbnaaDoor.Ab
open Go
def ResOk (own : Bool) (base : Nat) (g : Gs) (l : Gl) (w : World) (v : AV) (r : Value) : Prop :=
  cond own
    (TRep g l w 0 v r ∧ (∀ t ∈ tagsOf v, t ≠ 0 ∧ OwnT base g l w t ∧ ∀ b, (l.xv t).ownBlock = some b → ¬ g.stb b ∧ ¬ g.foot b) ∧
      (∀ t ∈ tagsOf v, ∀ u ∈ tagsOf v, ∀ b, (l.xv t).ownBlock = some b → (l.xv u).ownBlock = some b → t = u) ∧ nodupB (tagsOf v) = true)
    (Rep w g.stb g.ob v r)
structure Start (g : Gs) (w : World) (H : Heap) (args : List AV) (vs : List Value) : Prop where
  heap : HOK g w H
  stbLt : ∀ b, g.stb b → b < w.heap.size ∧ ¬ g.foot b
  len : args.length = vs.length
  rep : ∀ (i : Nat) (c : AV) (v : Value), args[i]? = some c → vs[i]? = some v → Rep w g.stb g.ob c v
structure Fin (own : Bool) (w : World) (g : Gs) (Q : AV → Heap → Prop) (v : AV) (r : Value) (w' : World) (g' : Gs) (l' : Gl) (H' : Heap) : Prop where
  post : Q v H'
  ext : Ext w g w' g'
  heap : HOK g' w' H'
  stbLt : ∀ b, g'.stb b → b < w'.heap.size ∧ ¬ g'.foot b
  res : ResOk own w.heap.size g' l' w' v r
def After (own : Bool) (w : World) (g : Gs) (Q : AV → Heap → Prop) (e : Ending) (w' : World) : Prop := ∃ r v H' g' l', e = .returned r ∧ Fin own w g Q v r w' g' l' H'
def Enters (P : Program) (f : Nat) : Prop := ∃ fn, P.funcs[f]? = some fn ∧ fn.body.isSome = true ∧ (fn.name == "runtime.NumGoroutine") = false
def OSound (P : Program) (E : Env) (R : Oracle) : Prop :=
  ∀ f args H Q, R f args H Q → Enters P f ∧ ∀ (w : World) (g : Gs) (vs : List Value), Start g w H args vs → Calls P f vs.toArray w (After (E.own f) w g Q)
theorem run_callFunc {P : Program} {f : Nat} (h : Enters P f) (args : Array Value) (w : World) : (callFunc f args).run P w = .ok (.enter f args) w := by
  obtain ⟨fn, hf, hb, hn⟩ := h
  have hb' : fn.body ≠ none := by cases hfb : fn.body <;> simp_all
  have hn' : fn.name ≠ "runtime.NumGoroutine" := by simpa using hn
  simp [callFunc, hf, hb', hn']
section
variable {w : World} {stb : Nat → Prop} {ob : Nat → Option Nat}
theorem ptr_out {K : AV → Prop} {x : AV} (h : cond x.isObj (K (.obj x.objJ 0)) (G x.isNilp (K .nilp))) : K x ∧ tagsOf x = [] := by
  cases x <;> simp only [AV.isObj, AV.objJ, AV.isNilp, G, cond_false, cond_true] at h <;> try exact ⟨h, rfl⟩
  rename_i j o
  cases o with
  | zero => exact ⟨h, rfl⟩
  | succ o => exact h.elim
theorem mapv_out {K : AV → Prop} {x : AV} (h : cond x.isMap (K (.map x.mapJ)) (G x.isNilmap (K .nilmap))) : K x ∧ tagsOf x = [] := by
  cases x <;> simp only [AV.isMap, AV.mapJ, AV.isNilmap, G, cond_false, cond_true] at h <;> exact ⟨h, rfl⟩
theorem if_out {K : AV → Prop} {x : AV} (h : cond x.isIf (G x.noTag (K (.iface x.ifT x.ifV))) (G x.isNilif (K .niliface))) : K x ∧ tagsOf x = [] := by
  cases x <;> simp only [AV.isIf, AV.ifT, AV.ifV, AV.isNilif, cond_false, cond_true] at h <;> try exact h.elim
  case iface t v =>
    obtain ⟨h1, h⟩ := G_out h
    exact ⟨h, by simpa [AV.noTag] using h1⟩
  case niliface => exact ⟨h, rfl⟩
theorem normC_rep {s : Nat} {c : CK} {x : AV} {v : Value} {K : Nat → AV → Prop} (h : normC false s c x K) (hr : Rep w stb ob x v) : ∃ y, K s y ∧ Rep w stb ob y v := by
  cases c <;> simp only [normC] at h <;> try exact ⟨x, h, hr⟩
  case ptr => exact ⟨x, (ptr_out (K := K s) h).1, hr⟩
  case map => exact ⟨x, (mapv_out (K := K s) h).1, hr⟩
  case iface => exact ⟨x, (if_out (K := K s) h).1, hr⟩
  case int k =>
    obtain ⟨h1, h⟩ := G_out h
    cases x <;> simp [AV.isInt] at h1
    subst h1
    exact ⟨_, h, hr⟩
  case bool =>
    obtain ⟨h1, h⟩ := G_out h
    cases x <;> simp [AV.isBool] at h1
    exact ⟨_, h, hr⟩
  case str =>
    obtain ⟨h1, h⟩ := G_out h
    cases x <;> simp [AV.isStr] at h1
    exact ⟨_, h, hr⟩
  case slice k =>
    simp only [cond_false] at h
    have h2 := G_out h
    clear h
    obtain ⟨h1, h⟩ := h2
    cases x <;> try (simp [AV.isSl] at h1; done)
    case nilsl =>
      refine ⟨_, h, ?_⟩
      cases hr
      exact .sl0 _ _ _
    case sl t k' xs =>
      cases t with
      | succ t => simp [AV.isSl] at h1
      | zero =>
        simp only [AV.isSl] at h1
        have := Nat.eq_of_beq_eq_true h1
        subst this
        exact ⟨_, h, hr⟩
theorem normCs_rep : ∀ {cks : List CK} {s : Nat} {xs : List AV} {vs : List Value} {K : Nat → List AV → Prop}, normCs false cks s xs K → xs.length = cks.length → xs.length = vs.length →
    (∀ (i : Nat) (c : AV) (v : Value), xs[i]? = some c → vs[i]? = some v → Rep w stb ob c v) → ∃ ys, K s ys ∧ ys.length = vs.length ∧ ∀ (i : Nat) (c : AV) (v : Value), ys[i]? = some c → vs[i]? = some v → Rep w stb ob c v
  | [], s, xs, vs, K, h, h1, h2, _ => by
    simp only [normCs] at h
    exact ⟨[], h, by simp at h1; simp [h1] at h2; simp [h2], by simp⟩
  | c :: cks, s, x :: xs, v :: vs, K, h, h1, h2, hr => by
    simp only [normCs, List.headD_cons, List.tail_cons] at h
    obtain ⟨y, h, hy⟩ := normC_rep h (hr 0 x v rfl rfl)
    obtain ⟨ys, h, hl, hys⟩ := normCs_rep h (by simpa using h1) (by simpa using h2) (fun i c u hc hu => hr (i + 1) c u (by simpa using hc) (by simpa using hu))
    refine ⟨y :: ys, h, by simp [hl], fun i c u hc hu => ?_⟩
    cases i with
    | zero => simp at hc hu; subst hc hu; exact hy
    | succ i => exact hys i c u (by simpa using hc) (by simpa using hu)
  | _ :: _, _, [], _, _, _, h1, _, _ => by simp at h1
  | _ :: _, _, _ :: _, [], _, _, _, h2, _ => by simp at h2
theorem normT_rep {T : List TI} {s t : Nat} {x : AV} {v : Value} {K : Nat → AV → Prop} (h : normT T false s t x K) (hr : Rep w stb ob x v) : ∃ y, K s y ∧ Rep w stb ob y v := by
  unfold normT at h
  cases ha : isAggT T t <;> rw [ha] at h <;> simp only [cond_false, cond_true] at h
  · exact normC_rep h hr
  · obtain ⟨h1, h⟩ := G_out h
    simp only [Bool.and_eq_true] at h1
    cases x <;> simp [AV.isAgg] at h1
    cases hr with
    | agg cs vs hl hr =>
      obtain ⟨ys, h, hl', hys⟩ := normCs_rep h h1 hl hr
      exact ⟨_, h, .agg ys vs hl' hys⟩
theorem normTs_rep {T : List TI} : ∀ {ts : List Nat} {s : Nat} {xs : List AV} {vs : List Value} {K : Nat → List AV → Prop}, normTs T false ts s xs K → xs.length = ts.length → xs.length = vs.length →
    (∀ (i : Nat) (c : AV) (v : Value), xs[i]? = some c → vs[i]? = some v → Rep w stb ob c v) → ∃ ys, K s ys ∧ ys.length = vs.length ∧ ∀ (i : Nat) (c : AV) (v : Value), ys[i]? = some c → vs[i]? = some v → Rep w stb ob c v
  | [], s, xs, vs, K, h, h1, h2, _ => by
    simp only [normTs] at h
    exact ⟨[], h, by simp at h1; simp [h1] at h2; simp [h2], by simp⟩
  | c :: cks, s, x :: xs, v :: vs, K, h, h1, h2, hr => by
    simp only [normTs, List.headD_cons, List.tail_cons] at h
    obtain ⟨y, h, hy⟩ := normT_rep h (hr 0 x v rfl rfl)
    obtain ⟨ys, h, hl, hys⟩ := normTs_rep h (by simpa using h1) (by simpa using h2) (fun i c u hc hu => hr (i + 1) c u (by simpa using hc) (by simpa using hu))
    refine ⟨y :: ys, h, by simp [hl], fun i c u hc hu => ?_⟩
    cases i with
    | zero => simp at hc hu; subst hc hu; exact hy
    | succ i => exact hys i c u (by simpa using hc) (by simpa using hu)
  | _ :: _, _, [], _, _, _, h1, _, _ => by simp at h1
  | _ :: _, _, _ :: _, [], _, _, _, h2, _ => by simp at h2
theorem normRes_rep {T : List TI} {s t : Nat} {x : AV} {v : Value} {K : AV → Prop} (h : normRes T false s t x K) (hr : Rep w stb ob x v) : ∃ y, K y ∧ Rep w stb ob y v := by
  unfold normRes at h
  split at h
  · obtain ⟨h1, h⟩ := G_out h
    simp only [Bool.and_eq_true] at h1
    cases x <;> simp [AV.isTup] at h1
    cases hr with
    | tup cs vs hl hr =>
      obtain ⟨ys, h, hl', hys⟩ := normTs_rep h h1 hl hr
      exact ⟨_, h, .tup ys vs hl' hys⟩
  · exact normT_rep h hr
end
section
theorem OwnT.base_le {b b' : Nat} {g : Gs} {l : Gl} {w : World} {t : Nat} (h : OwnT b g l w t) (hb : b' ≤ b) : OwnT b' g l w t := by
  obtain ⟨e, fl, hown, rest⟩ := h
  refine ⟨e, fl, ⟨hown.1, ?_⟩, rest⟩
  rcases hown.2 with h | ⟨q, cap, cur, h1, h2, h3⟩
  · exact .inl h
  · exact .inr ⟨q, cap, cur, h1, by omega, h3⟩
structure NewOk (base s0 : Nat) (g : Gs) (gl l : Gl) (w : World) (l1 : Gl) (s : Nat) (S : List Nat) : Prop where
  loc : l1.loc = l.loc
  old : ∀ t, t < s0 → l1.xv t = l.xv t ∧ l1.xc t = l.xc t ∧ l1.xk t = l.xk t
  own : ∀ t, s0 ≤ t → t < s → OwnT base g l1 w t ∧ ∀ b, (l1.xv t).ownBlock = some b → ∃ u ∈ S, (gl.xv u).ownBlock = some b
  inj : ∀ t, s0 ≤ t → t < s → ∀ u, s0 ≤ u → u < s → ∀ b, (l1.xv t).ownBlock = some b → (l1.xv u).ownBlock = some b → t = u
theorem Gl.own_ne {l : Gl} {t u k : Nat} {v : Value} {xs : List (List AV)} (h : u ≠ t) : (l.own t v k xs).xv u = l.xv u ∧ (l.own t v k xs).xc u = l.xc u ∧ (l.own t v k xs).xk u = l.xk u := by simp [Gl.own, h]
theorem OwnT.at {base : Nat} {g : Gs} {l l' : Gl} {w : World} {t t' : Nat} (h : OwnT base g l w t) (hl : l'.xv t' = l.xv t ∧ l'.xc t' = l.xc t ∧ l'.xk t' = l.xk t) : OwnT base g l' w t' := by
  obtain ⟨h1, h2, h3⟩ := hl
  unfold OwnT
  rw [h1, h2, h3]
  exact h
variable {base s0 : Nat} {g : Gs} {gl l : Gl} {w : World} {n : Nat}
theorem NewOk.add {l1 : Gl} {s : Nat} {S : List Nat} (h : NewOk base s0 g gl l w l1 s S) (hs : s0 ≤ s) {v : Value} {k : Nat} {xs : List (List AV)} {S' : List Nat} (hS : ∀ u ∈ S, u ∈ S') (hO : OwnT base g (l1.own s v k xs) w s)
    (hb : ∀ b, v.ownBlock = some b → (∃ u ∈ S', (gl.xv u).ownBlock = some b) ∧ ∀ u ∈ S, (gl.xv u).ownBlock ≠ some b) : NewOk base s0 g gl l w (l1.own s v k xs) (s + 1) S' := by
  have hne : ∀ t, t < s → t ≠ s := fun t h => by omega
  have hv : (l1.own s v k xs).xv s = v := by simp [Gl.own]
  refine ⟨h.loc, fun t ht => ?_, fun t h1 h2 => ?_, fun t h1 h2 u h3 h4 b hb1 hb2 => ?_⟩
  · obtain ⟨e1, e2, e3⟩ := Gl.own_ne (l := l1) (k := k) (v := v) (xs := xs) (show t ≠ s by omega)
    rw [e1, e2, e3]
    exact h.old t ht
  · by_cases e : t = s
    · subst e
      exact ⟨hO, fun b hb' => (hb b (by rwa [hv] at hb')).1⟩
    · have he := Gl.own_ne (l := l1) (k := k) (v := v) (xs := xs) e
      obtain ⟨k1, k2⟩ := h.own t h1 (by omega)
      refine ⟨k1.at he, fun b hb' => ?_⟩
      rw [he.1] at hb'
      obtain ⟨u, hu, hub⟩ := k2 b hb'
      exact ⟨u, hS u hu, hub⟩
  · by_cases e : t = s
    · by_cases e' : u = s
      · omega
      · exfalso
        subst e
        rw [hv] at hb1
        rw [(Gl.own_ne (l := l1) (k := k) (v := v) (xs := xs) e').1] at hb2
        obtain ⟨q, hq, hqb⟩ := (h.own u h3 (by omega)).2 b hb2
        exact (hb b hb1).2 q hq hqb
    · by_cases e' : u = s
      · exfalso
        subst e'
        rw [hv] at hb2
        rw [(Gl.own_ne (l := l1) (k := k) (v := v) (xs := xs) e).1] at hb1
        obtain ⟨q, hq, hqb⟩ := (h.own t h1 (by omega)).2 b hb1
        exact (hb b hb2).2 q hq hqb
      · rw [(Gl.own_ne (l := l1) (k := k) (v := v) (xs := xs) e).1] at hb1
        rw [(Gl.own_ne (l := l1) (k := k) (v := v) (xs := xs) e').1] at hb2
        exact h.inj t h1 (by omega) u h3 (by omega) b hb1 hb2
structure Step (base s0 : Nat) (g : Gs) (gl l : Gl) (w : World) (l1 l2 : Gl) (s s' : Nat) (S' : List Nat) : Prop where
  ok : NewOk base s0 g gl l w l2 s' S'
  le : s ≤ s'
  keep : ∀ t, t < s → l2.xv t = l1.xv t ∧ l2.xc t = l1.xc t ∧ l2.xk t = l1.xk t
theorem normC_own {All : List Nat} (hInj : ∀ t ∈ All, ∀ u ∈ All, ∀ b, (gl.xv t).ownBlock = some b → (gl.xv u).ownBlock = some b → t = u) {s : Nat} {c : CK} {x : AV} {v : Value} {K : Nat → AV → Prop} {l1 : Gl} {S : List Nat}
    (h : normC true s c x K) (hr : TRep g gl w 0 x v) (hO : ∀ t ∈ tagsOf x, OwnT base g gl w t ∧ t ∈ All ∧ t ∉ S) (hSA : ∀ t ∈ S, t ∈ All) (hN : NewOk base s0 g gl l w l1 s S) (hs : s0 ≤ s) (hs0 : 0 < s0) :
    ∃ s' y l2, K s' y ∧ Step base s0 g gl l w l1 l2 s s' (tagsOf x ++ S) ∧ TRep g l2 w n y v ∧ (∀ t ∈ tagsOf y, s ≤ t ∧ t < s') := by
  have plain : ∀ y, tagsOf y = [] → TRep g gl w 0 y v → K s y → tagsOf x = [] → ∃ s' y l2, K s' y ∧ Step base s0 g gl l w l1 l2 s s' (tagsOf x ++ S) ∧ TRep g l2 w n y v ∧ (∀ t ∈ tagsOf y, s ≤ t ∧ t < s') := by
    intro y hy hr hK hx
    refine ⟨s, y, l1, hK, ⟨by rw [hx]; exact hN, Nat.le_refl _, fun _ _ => ⟨rfl, rfl, rfl⟩⟩, ?_, by rw [hy]; simp⟩
    exact TRep.mono (fun _ _ => rfl) (fun _ h => h) (fun _ _ h => h) (fun j hj => absurd hj (Nat.not_lt_zero j)) (Nat.zero_le _) y v (by rw [hy]; simp) hr
  have other : G x.noTag (K s x) → ∃ s' y l2, K s' y ∧ Step base s0 g gl l w l1 l2 s s' (tagsOf x ++ S) ∧ TRep g l2 w n y v ∧ (∀ t ∈ tagsOf y, s ≤ t ∧ t < s') := by
    intro h
    obtain ⟨h1, h⟩ := G_out h
    have h1 : tagsOf x = [] := by simpa [AV.noTag] using h1
    exact plain x h1 hr h h1
  cases c <;> simp only [normC, cond_true] at h <;> try exact other h
  case ptr => exact plain x (ptr_out (K := K s) h).2 hr (ptr_out (K := K s) h).1 (ptr_out (K := K s) h).2
  case map => exact plain x (mapv_out (K := K s) h).2 hr (mapv_out (K := K s) h).1 (mapv_out (K := K s) h).2
  case iface => exact plain x (if_out (K := K s) h).2 hr (if_out (K := K s) h).1 (if_out (K := K s) h).2
  case int k =>
    obtain ⟨h1, h⟩ := G_out h
    cases x <;> simp [AV.isInt] at h1
    subst h1
    exact plain _ rfl hr h rfl
  case bool =>
    obtain ⟨h1, h⟩ := G_out h
    cases x <;> simp [AV.isBool] at h1
    exact plain _ rfl hr h rfl
  case str =>
    obtain ⟨h1, h⟩ := G_out h
    cases x <;> simp [AV.isStr] at h1
    exact plain _ rfl hr h rfl
  case slice k =>
    have h2 := G_out h
    clear h
    obtain ⟨h1, h⟩ := h2
    obtain ⟨m, rfl⟩ : ∃ m, s = m + 1 := ⟨s - 1, by omega⟩
    cases x <;> try (simp [AV.isOwn] at h1; done)
    case nilsl =>
      have hk : 0 < k := Nat.le_of_ble_eq_true h1
      simp only [TRep] at hr
      refine ⟨m + 1 + 1, _, l1.own (m + 1) (.slice none 0 0) k [], h, ⟨hN.add hs (fun u hu => by simpa [tagsOf] using hu) ⟨0, [], ?_, ?_, ?_, by simp, ?_⟩ (fun b hb => by cases hb), by omega, fun t ht => Gl.own_ne (by omega)⟩, ?_, ?_⟩
      · simp only [Gl.own, if_true]
        exact World.ownsRow_nil _ _ _ _
      · simp only [Gl.own, if_true]
        exact ⟨hk, fun b _ _ _ hb => by cases hb⟩
      · simp [Gl.own]
      · simp [Gl.own]
      · simp [TRep, Gl.own, AV.slXs, hr]
      · intro t ht
        simp [tagsOf, Nat.beq] at ht
        omega
    case sl t k' xs =>
      cases t with
      | zero => simp [AV.isOwn] at h1
      | succ t =>
        simp only [AV.isOwn] at h1
        have hk := Nat.eq_of_beq_eq_true h1
        subst hk
        simp only [TRep] at hr
        obtain ⟨rfl, rfl, rfl⟩ := hr
        obtain ⟨hO1, hO2, hO3⟩ := hO (t + 1) (by simp [tagsOf, Nat.beq])
        refine ⟨m + 1 + 1, _, l1.own (m + 1) (gl.xv (t + 1)) (gl.xk (t + 1)) (gl.xc (t + 1)), h, ⟨hN.add hs (fun u hu => by simp [hu]) (hO1.at (by simp [Gl.own])) (fun b hb => ⟨⟨t + 1, by simp [tagsOf, Nat.beq], hb⟩, fun u hu he => ?_⟩), by omega, fun t ht => Gl.own_ne (by omega)⟩, ?_, ?_⟩
        · have := hInj _ hO2 u (hSA u hu) b hb he
          subst this
          exact hO3 hu
        · simp only [TRep, Gl.own, if_true, AV.slXs, and_self]
        · intro t ht
          simp [tagsOf, Nat.beq] at ht
          omega
theorem nodupB_append {xs ys : List Nat} (h : nodupB (xs ++ ys) = true) : nodupB xs = true ∧ nodupB ys = true ∧ ∀ t ∈ xs, t ∉ ys := by
  induction xs with
  | nil => exact ⟨rfl, h, by simp⟩
  | cons x xs ih =>
    simp only [List.cons_append, nodupB, Bool.and_eq_true, Bool.not_eq_true'] at h
    obtain ⟨h1, h2⟩ := h
    obtain ⟨i1, i2, i3⟩ := ih h2
    have hx : x ∉ xs ++ ys := by intro hm; simp [hm] at h1
    simp only [List.mem_append, not_or] at hx
    refine ⟨by simp [nodupB, i1, hx.1], i2, fun t ht => ?_⟩
    rcases List.mem_cons.1 ht with rfl | ht
    · exact hx.2
    · exact i3 t ht
end
section
variable {base s0 : Nat} {g : Gs} {gl l : Gl} {w : World} {n : Nat}
theorem Step.refl {l1 : Gl} {s : Nat} {S : List Nat} (h : NewOk base s0 g gl l w l1 s S) : Step base s0 g gl l w l1 l1 s s S := ⟨h, Nat.le_refl _, fun _ _ => ⟨rfl, rfl, rfl⟩⟩
theorem TRep.later {l1 l2 : Gl} {s : Nat} {y : AV} {v : Value} (h : TRep g l1 w n y v) (hloc : l2.loc = l1.loc) (hk : ∀ t, t < s → l2.xv t = l1.xv t ∧ l2.xc t = l1.xc t ∧ l2.xk t = l1.xk t) (ht : ∀ t ∈ tagsOf y, t < s) : TRep g l2 w n y v :=
  TRep.mono (fun _ _ => rfl) (fun _ h => h) (fun _ _ h => h) (fun j _ => by rw [hloc]) (Nat.le_refl _) y v (fun t h => hk t (ht t h)) h
theorem norm_list {α : Type} {f : Nat → α → AV → (Nat → AV → Prop) → Prop} {fs : List α → Nat → List AV → (Nat → List AV → Prop) → Prop} (f0 : ∀ s xs K, fs [] s xs K = K s []) (f1 : ∀ c cs s xs K, fs (c :: cs) s xs K = f s c (xs.headD .any) fun s x => fs cs s xs.tail fun s r => K s (x :: r))
    {All : List Nat} (hs0 : 0 < s0) (hone : ∀ {s : Nat} {c : α} {x : AV} {v : Value} {K : Nat → AV → Prop} {l1 : Gl} {S : List Nat}, f s c x K → TRep g gl w 0 x v → nodupB (tagsOf x) = true → (∀ t ∈ tagsOf x, OwnT base g gl w t ∧ t ∈ All ∧ t ∉ S) → (∀ t ∈ S, t ∈ All) → NewOk base s0 g gl l w l1 s S → s0 ≤ s →
      ∃ s' y l2, K s' y ∧ Step base s0 g gl l w l1 l2 s s' (tagsOf x ++ S) ∧ TRep g l2 w n y v ∧ (∀ t ∈ tagsOf y, s ≤ t ∧ t < s')) :
    ∀ {cks : List α} {s : Nat} {xs : List AV} {vs : List Value} {K : Nat → List AV → Prop} {l1 : Gl} {S : List Nat}, fs cks s xs K → xs.length = cks.length → TReps g gl w 0 xs vs → nodupB (tagsOfs xs) = true → (∀ t ∈ tagsOfs xs, OwnT base g gl w t ∧ t ∈ All ∧ t ∉ S) → (∀ t ∈ S, t ∈ All) → NewOk base s0 g gl l w l1 s S → s0 ≤ s →
      ∃ s' ys l2, K s' ys ∧ Step base s0 g gl l w l1 l2 s s' (tagsOfs xs ++ S) ∧ TReps g l2 w n ys vs ∧ (∀ t ∈ tagsOfs ys, s ≤ t ∧ t < s')
  | [], s, xs, vs, K, l1, S, h, h1, hr, _, _, _, hN, hs => by
    rw [f0] at h
    have hx : xs = [] := List.eq_nil_of_length_eq_zero (by simpa using h1)
    subst hx
    cases vs with
    | cons v vs => simp [TReps] at hr
    | nil => exact ⟨s, [], l1, h, by simpa [tagsOfs] using Step.refl hN, by simp [TReps], by simp [tagsOfs]⟩
  | c :: cks, s, x :: xs, v :: vs, K, l1, S, h, h1, hr, hnd, hO, hSA, hN, hs => by
    rw [f1] at h
    simp only [List.headD_cons, List.tail_cons] at h
    simp only [TReps] at hr
    simp only [tagsOfs] at hnd hO ⊢
    obtain ⟨d1, d2, d3⟩ := nodupB_append hnd
    obtain ⟨s1, y, l2, h, hst, hy, hyt⟩ := hone h hr.1 d1 (fun t ht => hO t (by simp [ht])) hSA hN hs
    obtain ⟨s2, ys, l3, h, hst2, hys, hyst⟩ := norm_list f0 f1 hs0 hone (S := tagsOf x ++ S) h (by simpa using h1) hr.2 d2 (fun t ht => ⟨(hO t (by simp [ht])).1, (hO t (by simp [ht])).2.1, fun hm => by
        rcases List.mem_append.1 hm with hm | hm
        · exact d3 t hm ht
        · exact (hO t (by simp [ht])).2.2 hm⟩) (fun t ht => by
        rcases List.mem_append.1 ht with hm | hm
        · exact (hO t (by simp [hm])).2.1
        · exact hSA t hm) hst.ok (Nat.le_trans hs hst.le)
    have hloc : l3.loc = l2.loc := hst2.ok.loc.trans hst.ok.loc.symm
    refine ⟨s2, y :: ys, l3, h, ⟨?_, Nat.le_trans hst.le hst2.le, fun t ht => ?_⟩, ?_, fun t ht => ?_⟩
    · have := hst2.ok
      refine ⟨this.loc, this.old, fun t a b => ?_, this.inj⟩
      obtain ⟨q1, q2⟩ := this.own t a b
      refine ⟨q1, fun b hb => ?_⟩
      obtain ⟨u, hu, hub⟩ := q2 b hb
      refine ⟨u, ?_, hub⟩
      simp only [List.mem_append] at hu ⊢
      rcases hu with hu | hu | hu
      · exact .inl (.inr hu)
      · exact .inl (.inl hu)
      · exact .inr hu
    · obtain ⟨a1, a2, a3⟩ := hst2.keep t (Nat.lt_of_lt_of_le ht hst.le)
      obtain ⟨b1, b2, b3⟩ := hst.keep t ht
      exact ⟨a1.trans b1, a2.trans b2, a3.trans b3⟩
    · simp only [TReps]
      exact ⟨hy.later hloc hst2.keep (fun t ht => (hyt t ht).2), hys⟩
    · simp only [tagsOfs, List.mem_append] at ht
      rcases ht with ht | ht
      · have := hyt t ht; have := hst2.le; omega
      · have := hyst t ht; have := hst.le; omega
  | _ :: _, _, [], _, _, _, _, _, h1, _, _, _, _, _, _ => by simp at h1
  | _ :: _, _, _ :: _, [], _, _, _, _, _, hr, _, _, _, _, _ => by simp [TReps] at hr
theorem normT_own {T : List TI} {All : List Nat} (hInj : ∀ t ∈ All, ∀ u ∈ All, ∀ b, (gl.xv t).ownBlock = some b → (gl.xv u).ownBlock = some b → t = u) (hs0 : 0 < s0) {s t : Nat} {x : AV} {v : Value} {K : Nat → AV → Prop} {l1 : Gl} {S : List Nat}
    (h : normT T true s t x K) (hr : TRep g gl w 0 x v) (hnd : nodupB (tagsOf x) = true) (hO : ∀ t ∈ tagsOf x, OwnT base g gl w t ∧ t ∈ All ∧ t ∉ S) (hSA : ∀ t ∈ S, t ∈ All) (hN : NewOk base s0 g gl l w l1 s S) (hs : s0 ≤ s) :
    ∃ s' y l2, K s' y ∧ Step base s0 g gl l w l1 l2 s s' (tagsOf x ++ S) ∧ TRep g l2 w n y v ∧ (∀ t ∈ tagsOf y, s ≤ t ∧ t < s') := by
  unfold normT at h
  cases ha : isAggT T t <;> rw [ha] at h <;> simp only [cond_false, cond_true] at h
  · exact normC_own hInj h hr hO hSA hN hs hs0
  · obtain ⟨h1, h⟩ := G_out h
    simp only [Bool.and_eq_true] at h1
    cases x <;> simp [AV.isAgg] at h1
    simp only [TRep] at hr
    obtain ⟨vs, rfl, hr⟩ := hr
    simp only [tagsOf] at hnd hO ⊢
    obtain ⟨s', ys, l2, k1, k2, k3, k4⟩ := norm_list (base := base) (l := l) (n := n) (f := fun s c x K => normC true s c x K) (fs := normCs true) (fun _ _ _ => rfl) (fun _ _ _ _ _ => rfl) (All := All) hs0
      (fun h hr _ hO hSA hN hs => normC_own hInj h hr hO hSA hN hs hs0) h h1 hr hnd hO hSA hN hs
    exact ⟨s', .agg ys, l2, k1, k2, by simp only [TRep]; exact ⟨vs, rfl, k3⟩, by simpa [tagsOf] using k4⟩
theorem normRes_own {T : List TI} {All : List Nat} (hInj : ∀ t ∈ All, ∀ u ∈ All, ∀ b, (gl.xv t).ownBlock = some b → (gl.xv u).ownBlock = some b → t = u) (hs0 : 0 < s0) {t : Nat} {x : AV} {v : Value} {K : AV → Prop}
    (h : normRes T true s0 t x K) (hr : TRep g gl w 0 x v) (hnd : nodupB (tagsOf x) = true) (hO : ∀ t ∈ tagsOf x, OwnT base g gl w t ∧ t ∈ All) :
    ∃ s' y l2, K y ∧ NewOk base s0 g gl l w l2 s' (tagsOf x) ∧ TRep g l2 w n y v ∧ (∀ t ∈ tagsOf y, s0 ≤ t ∧ t < s') := by
  have hN : NewOk base s0 g gl l w l s0 [] := ⟨rfl, fun _ _ => ⟨rfl, rfl, rfl⟩, fun t h1 h2 => absurd h1 (by omega), fun t h1 h2 => absurd h1 (by omega)⟩
  unfold normRes at h
  split at h
  · obtain ⟨h1, h⟩ := G_out h
    simp only [Bool.and_eq_true] at h1
    cases x <;> simp [AV.isTup] at h1
    simp only [TRep] at hr
    obtain ⟨vs, rfl, hr⟩ := hr
    simp only [tagsOf] at hnd hO ⊢
    obtain ⟨s', ys, l2, k1, k2, k3, k4⟩ := norm_list (base := base) (l := l) (n := n) (f := fun s c x K => normT T true s c x K) (fs := normTs T true) (fun _ _ _ => rfl) (fun _ _ _ _ _ => rfl) (All := All) hs0
      (fun h hr hnd hO hSA hN hs => normT_own hInj hs0 h hr hnd hO hSA hN hs) h h1 hr hnd (fun t ht => ⟨(hO t ht).1, (hO t ht).2, by simp⟩) (by simp) hN (Nat.le_refl _)
    exact ⟨s', .tup ys, l2, k1, by have := k2.ok; rwa [List.append_nil] at this, by simp only [TRep]; exact ⟨vs, rfl, k3⟩, by simpa [tagsOf] using k4⟩
  · obtain ⟨s', y, l2, k1, k2, k3, k4⟩ := normT_own (base := base) (l := l) (n := n) (S := []) hInj hs0 h hr hnd (fun t ht => ⟨(hO t ht).1, (hO t ht).2, by simp⟩) (by simp) hN (Nat.le_refl _)
    exact ⟨s', y, l2, k1, by simpa using k2.ok, k3, k4⟩
end
section
variable {P : Program} {T : List TI} {w0 : World} {g0 g : Gs} {l : Gl} {w : World} {st : St} {a : Act} {o : Oper} {next : Act → World → Prop} {Q : Exit → Act → World → Prop}
theorem Inv.putNew (h : Inv w0 g0 g l w st a) {l2 : Gl} {av : AV} {v : Value} (hloc : l2.loc = l.loc) (hold : ∀ t ∈ st.tags, l2.xv t = l.xv t ∧ l2.xc t = l.xc t ∧ l2.xk t = l.xk t) (hr : TRep g l2 w st.mem.length av v)
    (hT : ∀ t ∈ tagsOf av, OwnT w0.heap.size g l2 w t ∧ ∀ b, (l2.xv t).ownBlock = some b → ¬ g.stb b ∧ ¬ g.foot b ∧ (∀ j, j < st.mem.length → l.loc j ≠ b) ∧ ∀ u ∈ st.tags, (l.xv u).ownBlock ≠ some b)
    (hinj : ∀ t ∈ tagsOf av, ∀ u ∈ tagsOf av, ∀ b, (l2.xv t).ownBlock = some b → (l2.xv u).ownBlock = some b → t = u) (d : Option Nat) : Inv w0 g0 g l2 w (st.put d av) (a.put d v) := by
  have hdef : (a.put d v).defers = [] := by cases d <;> exact h.defers
  have htm : TReps g l2 w st.mem.length st.tm a.tmps.toList := TReps.mono (l := l) (fun _ _ => rfl) (fun _ h => h) (fun _ _ h => h) (fun j _ => by rw [hloc]) (Nat.le_refl _) _ _ (fun u hu => hold u (tags_tm hu)) h.tm
  refine ⟨hdef, ?_, ?_, ?_, ?_, ?_, ?_, ?_, ?_, h.ext, h.stbLt⟩
  · rw [put_mem]
    cases d with
    | none => exact htm
    | some d =>
      simp only [St.put, Act.put, Array.toList_setIfInBounds]
      exact htm.set hr d
  · rw [put_mem, hloc]
    intro j mb hj
    exact (h.mem j mb hj).mono (fun _ => rfl) (fun u hu => hold u (tags_mem hj hu)) (fun j _ => by rw [hloc]) (Nat.le_refl _) (fun _ _ => rfl) (fun _ h => h) (fun _ _ h => h)
  · intro u hu
    rcases put_tags hu with hu | hu
    · exact (h.own u hu).at (hold u hu)
    · exact (hT u hu).1
  · rw [put_mem, hloc]; exact h.priv
  · rw [put_mem, hloc]; exact h.inj
  · intro u hu b hb
    rw [put_mem, hloc]
    rcases put_tags hu with hu | hu
    · rw [(hold u hu).1] at hb
      exact h.ownPriv u hu b hb
    · obtain ⟨k1, k2, k3, _⟩ := (hT u hu).2 b hb
      exact ⟨k1, k2, k3⟩
  · intro u hu u' hu' b hb hb'
    rcases put_tags hu with hu | hu <;> rcases put_tags hu' with hu' | hu'
    · rw [(hold u hu).1] at hb
      rw [(hold u' hu').1] at hb'
      exact h.ownInj u hu u' hu' b hb hb'
    · rw [(hold u hu).1] at hb
      exact absurd hb (((hT u' hu').2 b hb').2.2.2 u hu)
    · rw [(hold u' hu').1] at hb'
      exact absurd hb' (((hT u hu).2 b hb).2.2.2 u' hu')
    · exact hinj u hu u' hu' b hb hb'
  · rw [put_H]; exact h.heap
theorem leans_foot (h : Inv w0 g0 g l w st a) {b : Nat} (hl : Leans g l st b) : ¬ g.foot b := by
  rcases hl with hl | ⟨j, mb, hj, hm, hl⟩ | ⟨t, ht, hl⟩
  · exact (h.stbLt b hl).2
  · rw [← hl]; exact (h.priv j mb hj hm).2.2.2
  · exact (h.ownPriv t ht b hl).2.1
theorem Inv.afterCall (h : Inv w0 g0 g l w st a) {w' : World} {g' : Gs} {H' : Heap} (he : Ext w g w' g') (hH : HOK g' w' H') (hs : ∀ b, g'.stb b → b < w'.heap.size ∧ ¬ g'.foot b) : Inv w0 g0 g' l w' { st with H := H' } a :=
  h.step he.os he.tape he.output he.size (fun b hb hl => he.keep b hb (hl.elim (leans_foot h) fun h => h.2)) he.stb he.stbNew he.ob he.footNew hs hH
theorem HOK.none {H : Heap} (h : HOK g w H) (L : Nat → Prop) : HOK ⟨fun b => g.stb b ∨ L b, g.ob, fun _ => False⟩ w H.none :=
  ⟨h.lt, fun _ _ => rfl, fun _ hj => absurd rfl hj, fun _ _ _ hi => absurd rfl hi, fun _ hb => hb.elim, fun p hp => ⟨.inl (h.fx p hp).1, (h.fx p hp).2⟩⟩
theorem Inv.afterPure (h : Inv w0 g0 g l w st a) {L : Nat → Prop} (hL : ∀ b, L b → ¬ g.stb b) {w' : World} {g' : Gs} {H' : Heap} (he : Ext w ⟨fun b => g.stb b ∨ L b, g.ob, fun _ => False⟩ w' g') (hH : HOK g' w' H') (hs : ∀ b, g'.stb b → b < w'.heap.size ∧ ¬ g'.foot b) :
    Inv w0 g0 ⟨fun b => g'.stb b ∧ ¬ L b, g'.ob, g.foot⟩ l w' { st with H := st.H.past H' } a := by
  have hold : ∀ b, b < w.heap.size → w'.heap[b]? = w.heap[b]? := fun b hb => he.keep b hb (fun h => h)
  have hnew : ∀ b, g'.stb b → ¬ L b → g.stb b ∨ w.heap.size ≤ b := fun b hb hn => by
    rcases he.stbNew b hb with (h1 | h1) | h1 | h1
    · exact .inl h1
    · exact absurd h1 hn
    · exact .inr h1
    · exact h1.elim
  refine h.step (g' := ⟨fun b => g'.stb b ∧ ¬ L b, g'.ob, g.foot⟩) he.os he.tape he.output he.size (fun b hb _ => hold b hb) (fun b hb => ⟨he.stb b (.inl hb), fun hl => hL b hl hb⟩) (fun b hb => (hnew b hb.1 hb.2).imp id .inl) he.ob (fun b hb => .inl hb) (fun b hb => ⟨(hs b hb.1).1, fun hf => ?_⟩) ?_
  · have := h.heap.foot_lt hf
    rcases hnew b hb.1 hb.2 with h1 | h1
    · exact (h.stbLt b h1).2 hf
    · omega
  · refine ⟨fun j b hj => Nat.lt_of_lt_of_le (hH.lt j b hj) (Nat.le_max_right _ _), fun j hj => ?_, fun j hj => ?_, fun i j b hi hj h1 h2 => ?_, fun b hb => ?_, ?_⟩
    · show st.H.get j = .dead
      cases hd : st.H.get j with
      | dead => rfl
      | _ =>
        obtain ⟨b, h1, _⟩ := h.heap.live j (by rw [hd]; simp)
        have h2 := hH.lt j b (he.ob j b h1)
        have hj : H'.next ≤ j := Nat.le_trans (Nat.le_max_right _ _) hj
        omega
    · obtain ⟨b, h1, h2, h3, h4⟩ := h.heap.live j hj
      exact ⟨b, he.ob j b h1, h2, by have := he.size; omega, h4.mono (hold b h3) (fun q hq => hold q (h.stbLt q hq).1) (fun q hq => ⟨he.stb q (.inl hq), fun hl => hL q hl hq⟩) he.ob⟩
    · obtain ⟨b1, k1, _⟩ := h.heap.live i hi
      obtain ⟨b2, k2, _⟩ := h.heap.live j hj
      have e1 := he.ob i b1 k1
      have e2 := he.ob j b2 k2
      simp only at h1 h2
      rw [h1] at e1
      rw [h2] at e2
      cases e1
      cases e2
      exact h.heap.inj i j _ hi hj k1 k2
    · obtain ⟨j, h1, h2⟩ := h.heap.foot b hb
      exact ⟨j, h1, he.ob j b h2⟩
    · intro p hp
      have hb := (h.heap.fx p hp).1
      exact ⟨⟨he.stb _ (.inl hb), fun hl => hL _ hl hb⟩, (h.heap.fx p hp).2.mono (hold _ (h.stbLt _ hb).1)⟩
def CallOk (P : Program) (w0 : World) (g0 : Gs) (a : Act) (w : World) (f : Nat) (vals : List Value) (K : AV → St → Prop) : Prop :=
  Enters P f ∧ Calls P f vals.toArray w fun e w' => ∃ r av st' g' l', e = .returned r ∧ K av st' ∧ ∀ d, Inv w0 g0 g' l' w' (st'.put d av) (a.put d r)
def flat : AV → Bool
  | .int _ _ => true
  | .bool _ => true
  | .str _ => true
  | .tup vs => vs.all fun | .int _ _ => true | .bool _ => true | .str _ => true | _ => false
  | _ => false
theorem flat_rep {x : AV} {v : Value} {w : World} {stb stb' : Nat → Prop} {ob ob' : Nat → Option Nat} (hf : flat x = true) (h : Rep w stb ob x v) : Rep w stb' ob' x v := by
  cases h with
  | int k n => exact .int k n
  | bool b => exact .bool b
  | str s => exact .str s
  | tup cs vs hl hr =>
    refine .tup cs vs hl fun i c v hc hv => ?_
    have hr := hr i c v hc hv
    simp only [flat, List.all_eq_true] at hf
    have hf := hf c (List.mem_of_getElem? hc)
    cases hr with
    | int k n => exact .int k n
    | bool b => exact .bool b
    | str s => exact .str s
    | _ => simp at hf
  | _ => simp [flat] at hf
end
section
variable {P : Program} {T : List TI} {w0 : World} {g0 g : Gs} {l : Gl} {w : World} {st : St} {a : Act} {o : Oper} {next : Act → World → Prop} {Q : Exit → Act → World → Prop}
def one1 : AV → Bool | .int _ _ => true | .bool _ => true | .str _ => true | _ => false
def scalarK : TK → Bool | .int _ => true | .bool => true | .str => true | _ => false
theorem scalar_shape (hT : TabOk P T) {t : Nat} (h : scalarK (ti T t).k = true) : isAggT T t = false ∧ ((ti T t).shape.headD .other = .bool ∨ (ti T t).shape.headD .other = .str ∨ ∃ k, (ti T t).shape.headD .other = .int k) := by
  have hne : (ti T t).k ≠ .other := by intro e; rw [e] at h; simp [scalarK] at h
  have hsh := hT.shape hne
  have hs : ∀ d, P.underlying t = some d → shapeOf P (19 + 1) t = (match d with
    | .int k => [.int k] | .bool => [.bool] | .string => [.str] | _ => shapeOf P (19 + 1) t) := by
    intro d hd
    cases d <;> first | rfl | (unfold shapeOf; rw [hd])
  cases hk : (ti T t).k <;> rw [hk] at h <;> try (simp [scalarK] at h; done)
  case int k =>
    have := hs _ (hT.u_int hk)
    refine ⟨by simp [isAggT, hk], .inr (.inr ⟨k, ?_⟩)⟩
    rw [hsh]
    show (shapeOf P (19 + 1) t).headD .other = _
    rw [this]
    rfl
  case bool =>
    have := hs _ (hT.u_bool hk)
    refine ⟨by simp [isAggT, hk], .inl ?_⟩
    rw [hsh]
    show (shapeOf P (19 + 1) t).headD .other = _
    rw [this]
    rfl
  case str =>
    have := hs _ (hT.u_str hk)
    refine ⟨by simp [isAggT, hk], .inr (.inl ?_)⟩
    rw [hsh]
    show (shapeOf P (19 + 1) t).headD .other = _
    rw [this]
    rfl
theorem normT_flat (hT : TabOk P T) {s t : Nat} {x : AV} {v : Value} {stb : Nat → Prop} {ob : Nat → Option Nat} {K : Nat → AV → Prop} (hk : scalarK (ti T t).k = true) (h : normT T false s t x K) (hr : Rep w stb ob x v) : ∃ y, K s y ∧ Rep w stb ob y v ∧ one1 y = true := by
  obtain ⟨h1, h2⟩ := scalar_shape hT hk
  unfold normT at h
  rw [h1] at h
  simp only [cond_false] at h
  rcases h2 with h2 | h2 | ⟨k, h2⟩ <;> rw [h2] at h <;> simp only [normC] at h <;> obtain ⟨q, h⟩ := G_out h
  · cases x <;> simp [AV.isBool] at q
    exact ⟨_, h, hr, rfl⟩
  · cases x <;> simp [AV.isStr] at q
    exact ⟨_, h, hr, rfl⟩
  · cases x <;> simp [AV.isInt] at q
    subst q
    exact ⟨_, h, hr, rfl⟩
theorem normTs_flat (hT : TabOk P T) {stb : Nat → Prop} {ob : Nat → Option Nat} : ∀ {ts : List Nat} {s : Nat} {xs : List AV} {vs : List Value} {K : Nat → List AV → Prop}, (∀ t ∈ ts, scalarK (ti T t).k = true) → normTs T false ts s xs K → xs.length = ts.length → xs.length = vs.length →
    (∀ (i : Nat) (c : AV) (v : Value), xs[i]? = some c → vs[i]? = some v → Rep w stb ob c v) → ∃ ys, K s ys ∧ ys.length = vs.length ∧ (∀ (i : Nat) (c : AV) (v : Value), ys[i]? = some c → vs[i]? = some v → Rep w stb ob c v) ∧ ∀ y ∈ ys, one1 y = true
  | [], s, xs, vs, K, _, h, h1, h2, _ => by
    simp only [normTs] at h
    exact ⟨[], h, by simp at h1; simp [h1] at h2; simp [h2], by simp, by simp⟩
  | c :: cks, s, x :: xs, v :: vs, K, hk, h, h1, h2, hr => by
    simp only [normTs, List.headD_cons, List.tail_cons] at h
    obtain ⟨y, h, hy, hf⟩ := normT_flat hT (hk c (by simp)) h (hr 0 x v rfl rfl)
    obtain ⟨ys, h, hl, hys, hfs⟩ := normTs_flat hT (fun t ht => hk t (by simp [ht])) h (by simpa using h1) (by simpa using h2) (fun i c u hc hu => hr (i + 1) c u (by simpa using hc) (by simpa using hu))
    refine ⟨y :: ys, h, by simp [hl], fun i c u hc hu => ?_, fun z hz => ?_⟩
    · cases i with
      | zero => simp at hc hu; subst hc hu; exact hy
      | succ i => exact hys i c u (by simpa using hc) (by simpa using hu)
    · rcases List.mem_cons.1 hz with rfl | hz
      · exact hf
      · exact hfs z hz
  | _ :: _, _, [], _, _, _, _, h1, _, _ => by simp at h1
  | _ :: _, _, _ :: _, [], _, _, _, _, h2, _ => by simp at h2
theorem normRes_flat (hT : TabOk P T) {s t : Nat} {x : AV} {v : Value} {stb : Nat → Prop} {ob : Nat → Option Nat} {K : AV → Prop} (hk : scalarT T t = true) (h : normRes T false s t x K) (hr : Rep w stb ob x v) : ∃ y, K y ∧ Rep w stb ob y v ∧ flat y = true := by
  unfold normRes at h
  split at h
  · rename_i ts hts
    obtain ⟨h1, h⟩ := G_out h
    simp only [Bool.and_eq_true] at h1
    cases x <;> simp [AV.isTup] at h1
    cases hr with
    | tup cs vs hl hr =>
      obtain ⟨ys, h, hl', hys, hf⟩ := normTs_flat hT (fun u hu => by
        simp only [scalarT, hts, List.all_eq_true] at hk
        have := hk u hu
        cases hku : (ti T u).k <;> simp_all [scalarK]) h h1 hl hr
      refine ⟨_, h, .tup ys vs hl' hys, ?_⟩
      simp only [flat, List.all_eq_true]
      intro y hy
      have := hf y hy
      cases y <;> simp_all [one1]
  · rename_i hnt
    obtain ⟨y, h, hy, hf⟩ := normT_flat hT (by
      unfold scalarT at hk
      cases hku : (ti T t).k <;> rw [hku] at hk <;> simp_all [scalarK]) h hr
    refine ⟨y, h, hy, ?_⟩
    cases y <;> simp_all [one1, flat]
theorem flat_tags {x : AV} (h : flat x = true) : tagsOf x = [] := by
  cases x <;> try (simp [flat] at h; done)
  case tup vs =>
    simp only [flat, List.all_eq_true] at h
    refine List.eq_nil_iff_forall_not_mem.2 fun t ht => ?_
    simp only [tagsOf] at ht
    obtain ⟨i, c, hc, ht⟩ := tagsOfs_iff ht
    have := h c (List.mem_of_getElem? hc)
    cases c <;> simp_all [tagsOf]
  all_goals rfl
theorem hs_lend (hI : Inv w0 g0 g l w st a) {j o n c k : Nat} {v : Value} {stb : Nat → Prop} (h : Rep w g.stb g.ob (.hs j o n c k) v) {xs : List (List AV)} (hj : st.H.get j = .rows k xs) (hle : o + n ≤ xs.length) (hs : ∀ b, g.stb b → stb b) (hf : ∀ b, g.foot b → stb b) :
    Rep w stb g.ob (.sl 0 k ((xs.drop o).take n)) v := by
  cases h with
  | hs _ b _ _ _ _ q ho hn hm hq =>
    obtain ⟨hfb, hk, hmx, vs, e, hh, hR⟩ := rows_of hI.heap ho hj
    have hlen : ((xs.drop o).take n).length = n := by simp; omega
    by_cases h0 : n = 0
    · subst h0
      rw [List.take_zero]
      exact .sl0 _ _ _
    · have hq : q = o * k := by rcases hq with hq | hq <;> omega
      subst hq
      have hmul : (o + n) * k ≤ xs.length * k := Nat.mul_le_mul_right k hle
      have hcell : ∀ i p, i < n → p < k → ∃ v, vs[(o + i) * k + p]? = some v := by
        intro i p hi hp
        have := row_le (k := k) (show o + i < o + n by omega)
        exact ⟨_, List.getElem?_eq_getElem (by rw [hR.len]; omega)⟩
      have := Rep.sl (w := w) (stb := stb) (ob := g.ob) b (o * k) c k ((xs.drop o).take n) (fun i p => (vs[(o + i) * k + p]?).getD undef) (hf b hfb) (by rw [hlen]; exact hn) (by rw [hlen]; omega) (fun x hx => hR.row x (List.mem_of_mem_drop (List.mem_of_mem_take hx)))
        (fun i p hi hp => by
          rw [hlen] at hi
          obtain ⟨v, hv⟩ := hcell i p hi hp
          rw [hv, show o * k + (i * k + p) = (o + i) * k + p by rw [Nat.add_mul]; omega]
          exact cell_of_list hh hv)
        (fun i p hi hp => by
          rw [hlen] at hi
          obtain ⟨v, hv⟩ := hcell i p hi hp
          rw [hv]
          exact hR.one v (List.mem_of_getElem? hv))
        (fun i x p d hi hp => by
          have hin : i < n := by have := (List.getElem?_eq_some_iff.1 hi).1; omega
          rw [List.getElem?_take, if_pos hin, List.getElem?_drop] at hi
          obtain ⟨v, hv, hr⟩ := hR.rep (o + i) x p d hi hp
          rw [hv]
          exact hr.mono (fun _ _ => rfl) hs (fun _ _ h => h))
      rwa [hlen] at this
theorem lendH_eq {H : Heap} {x : AV} (h : hsOk H x = true) (hn : ∀ j o n c k, x ≠ .hs j o n c k) : mapT (lendH H) x = frzV x := by
  have leafs : ∀ c : AV, (∀ j o n c' k, c ≠ .hs j o n c' k) → lendH H c = lendF c := by
    intro c hc
    cases c <;> first | rfl | exact absurd rfl (hc _ _ _ _ _)
  cases x <;> try (first | (simp [hsOk] at h; done) | exact absurd rfl (hn _ _ _ _ _) | rfl)
  case agg cs =>
    simp only [hsOk, List.all_eq_true] at h
    unfold frzV
    simp only [mapT, AV.agg.injEq]
    have : ∀ cs : List AV, (∀ c ∈ cs, (match c with | .hs _ _ _ _ _ => false | .agg _ => false | .tup _ => false | .iface _ _ => false | _ => true) = true) → mapTs (lendH H) cs = mapTs lendF cs := by
      intro cs
      induction cs with
      | nil => intro _; rfl
      | cons c cs ih =>
        intro h
        simp only [mapTs]
        rw [ih (fun c hc => h c (by simp [hc]))]
        have hc := h c (by simp)
        congr 1
        cases c <;> first | (simp at hc; done) | rfl
    exact this cs h
theorem TRep.foot {g : Gs} {l : Gl} {w : World} {n : Nat} {x : AV} {v : Value} {F : Nat → Prop} (h : TRep g l w n x v) : TRep ⟨g.stb, g.ob, F⟩ l w n x v :=
  TRep.mono (g := g) (g' := ⟨g.stb, g.ob, F⟩) (fun _ _ => rfl) (fun _ h => h) (fun _ _ h => h) (fun _ _ => rfl) (Nat.le_refl _) _ _ (fun _ _ => ⟨rfl, rfl, rfl⟩) h
theorem own_result {s1 s2 : St} {g1 g2 : Gs} {w' : World} {l' l2 : Gl} {v y : AV} {r : Value} {s' : Nat} {K : AV → St → Prop} {e : Ending} (hsz : w0.heap.size ≤ w.heap.size) (hI1 : Inv w0 g0 g1 l w s1 a) (hI2 : Inv w0 g0 g2 l w' s2 a) (hm : s2.mem = s1.mem) (ht2 : s2.tags = s1.tags)
    (hN : NewOk w.heap.size s1.fresh g2 l' l w' l2 s' (tagsOf v)) (hy : TRep g2 l2 w' s1.mem.length y r) (hyt : ∀ t ∈ tagsOf y, s1.fresh ≤ t ∧ t < s')
    (h2 : ∀ t ∈ tagsOf v, OwnT w.heap.size g2 l' w' t ∧ ∀ b, (l'.xv t).ownBlock = some b → ¬ g2.stb b ∧ ¬ g2.foot b) (he : e = .returned r) (hK : K y s2) :
    ∃ r av st' g' l', e = .returned r ∧ K av st' ∧ ∀ d, Inv w0 g0 g' l' w' (st'.put d av) (a.put d r) := by
  have hfr : ∀ t ∈ s1.tags, t < s1.fresh := fun t ht => by
    rcases Nat.lt_or_ge t s1.fresh with h | h
    · exact h
    · have := fresh_not s1 (t - s1.fresh)
      rw [show s1.fresh + (t - s1.fresh) = t by omega] at this
      exact absurd ht this
  refine ⟨r, y, s2, g2, l2, he, hK, fun d => hI2.putNew hN.loc (fun t ht => hN.old t (hfr t (by rw [← ht2]; exact ht))) (by rw [hm]; exact hy) (fun t ht => ?_) (fun t ht u hu => hN.inj t (hyt t ht).1 (hyt t ht).2 u (hyt u hu).1 (hyt u hu).2) d⟩
  obtain ⟨q1, q2⟩ := hN.own t (hyt t ht).1 (hyt t ht).2
  refine ⟨q1.base_le hsz, fun b hb => ?_⟩
  obtain ⟨u, hu, hub⟩ := q2 b hb
  obtain ⟨p2, p3⟩ := h2 u hu
  obtain ⟨p4, p5⟩ := p3 b hub
  have hge : w.heap.size ≤ b := by obtain ⟨e, fl, hown, _⟩ := p2; exact (hown.lt b hub).1
  refine ⟨p4, p5, fun j hj he => ?_, fun u hu he => ?_⟩
  · rw [hm] at hj
    obtain ⟨mb, hmb⟩ : ∃ mb, s1.mem[j]? = some mb := ⟨_, List.getElem?_eq_getElem hj⟩
    cases hmine : mb.mine with
    | true => have := (hI1.priv j mb hmb hmine).2.1; omega
    | false =>
      cases mb with
      | frz cs =>
        have hb := (hI1.mem j _ hmb).1
        have := (hI1.stbLt _ hb).1
        omega
      | dead => exact (hI1.mem j _ hmb).elim
      | cells cs => simp [MB.mine] at hmine
      | siter s p => simp [MB.mine] at hmine
      | miter _ _ _ _ _ _ => simp [MB.mine] at hmine
  · obtain ⟨e, fl, hown, _⟩ := hI1.own u (by rw [← ht2]; exact hu)
    have := (hown.lt _ he).2
    omega
theorem callPure_sound {E : Env} {R : Oracle} (hT : TabOk P E.T) (hR : OSound P E R) (hI : Inv w0 g0 g l w st a) {f type : Nat} {args : List AV} {vals : List Value} {strict : Bool} {K : AV → St → Prop}
    (hr : TReps g l w st.mem.length args vals) (ht : ∀ t ∈ tagsOfs args, t ∈ st.tags) (h : cond (scalarT E.T type)
      (G (!(E.own f)) (G (args.all (hsOk st.H)) (R f (mapTs (lendH st.H) args) st.H.none fun v H => normRes E.T false 0 type v fun v => K v { st with H := st.H.past H })))
      (cond strict
        (G (tagsOfs args).isEmpty (G (!(E.own f)) (R f (frzVs args) st.H.none fun v H => normRes E.T false 0 type v fun v => K v { st with H := st.H.past H })))
        (let s' := st.frzAll (tagsOfs args); R f (frzVs args) st.H.none fun v H => normRes E.T (E.own f) s'.fresh type v fun v => K v { s' with H := st.H.past H }))) : CallOk P w0 g0 a w f vals K := by
  have hlend : ∀ (stb : Nat → Prop), (∀ b, g.stb b → stb b) → (∀ t ∈ tagsOfs args, ∀ b, (l.xv t).ownBlock = some b → stb b) → ∀ (i : Nat) (c : AV) (v : Value), (mapTs lendF args)[i]? = some c → vals[i]? = some v → Rep w stb g.ob c v := by
    intro stb hs hb i c v hc hv
    rw [mapTs_get, Option.map_eq_some_iff] at hc
    obtain ⟨c0, hc0, rfl⟩ := hc
    exact lend_rep (base := w0.heap.size) hs (S := tagsOfs args) (fun t h => ⟨hI.own t (ht t h), hb t h⟩) c0 v (fun t h => tagsOfs_get hc0 t h) (hr.of i c0 v hc0 hv)
  have hlen : (mapTs lendF args).length = vals.length := by rw [mapTs_length, hr.length]
  cases hsc : scalarT E.T type <;> rw [hsc] at h <;> simp only [cond_false, cond_true] at h
  · cases strict <;> simp only [cond_false, cond_true] at h
    ·
      obtain ⟨g1, hI1, s1, n1, o1, f1, b1, c1⟩ := hI.frzAll (tagsOfs args) (fun t h => tags_pos hI t (ht t h))
      have hH : (st.frzAll (tagsOfs args)).H = st.H := frzAll_H _ _
      obtain ⟨hen, hcall⟩ := hR f _ _ _ h
      have hst : Start ⟨fun b => g1.stb b ∨ False, g1.ob, fun _ => False⟩ w st.H.none (frzVs args) vals :=
        ⟨by have := hI1.heap.none (fun _ => False); rwa [hH] at this, fun b hb => ⟨(hI1.stbLt b (hb.resolve_right id)).1, id⟩, hlen, by rw [o1]; exact hlend _ (fun b hb => .inl (s1 b hb)) (fun t h b hb => .inl (b1 t h (ht t h) b hb))⟩
      refine ⟨hen, (hcall w _ vals hst).mono fun e w' ⟨r, v, H', g', l', he, hF⟩ => ?_⟩
      have hI2 := hI1.afterPure (L := fun _ => False) (fun _ h => h.elim) hF.ext hF.heap hF.stbLt
      rw [hH] at hI2
      have hg' : (⟨fun b => g'.stb b ∧ ¬ False, g'.ob, g1.foot⟩ : Gs) = ⟨g'.stb, g'.ob, g1.foot⟩ := by simp
      rw [hg'] at hI2
      have hres := hF.res
      unfold ResOk at hres
      have hpost := hF.post
      cases hown : E.own f <;> rw [hown] at hres hpost <;> simp only [cond_false, cond_true] at hres
      · obtain ⟨y, hK, hy⟩ := normRes_rep hpost hres
        exact ⟨r, y, _, _, l, he, hK, fun d => hI2.put (TRep.of_rep hy) (by rw [hy.tags]; simp) d⟩
      · obtain ⟨h1, h2, h3, h4⟩ := hres
        have h2' : ∀ t ∈ tagsOf v, t ≠ 0 ∧ OwnT w.heap.size ⟨g'.stb, g'.ob, g1.foot⟩ l' w' t ∧ ∀ b, (l'.xv t).ownBlock = some b → ¬ g'.stb b ∧ ¬ g1.foot b := fun t ht => by
          obtain ⟨p1, p2, p3⟩ := h2 t ht
          refine ⟨p1, p2, fun b hb => ⟨(p3 b hb).1, fun hf => ?_⟩⟩
          have := hI1.heap.foot_lt hf
          obtain ⟨e, fl, hown, _⟩ := p2
          have := (hown.lt b hb).1
          omega
        obtain ⟨s', y, l2, hK, hN, hy, hyt⟩ := normRes_own (g := ⟨g'.stb, g'.ob, g1.foot⟩) (n := (st.frzAll (tagsOfs args)).mem.length) (base := w.heap.size) (l := l) (All := tagsOf v) h3 (fresh_pos _) hpost (TRep.foot h1) h4 (fun t ht => ⟨(h2' t ht).2.1, ht⟩)
        exact own_result hI.ext.size hI1 hI2 rfl rfl hN hy hyt (fun t ht => (h2' t ht).2) he hK
    ·
      obtain ⟨hg1, h⟩ := G_out h
      obtain ⟨hg2, h⟩ := G_out h
      have hg1 : tagsOfs args = [] := by simpa using hg1
      have hg2 : E.own f = false := by simpa using hg2
      obtain ⟨hen, hcall⟩ := hR f _ _ _ h
      have hst : Start ⟨fun b => g.stb b ∨ False, g.ob, fun _ => False⟩ w st.H.none (frzVs args) vals :=
        ⟨hI.heap.none _, fun b hb => ⟨(hI.stbLt b (hb.resolve_right id)).1, id⟩, hlen, hlend _ (fun b hb => .inl hb) (by rw [hg1]; simp)⟩
      refine ⟨hen, (hcall w _ vals hst).mono fun e w' ⟨r, v, H', g', l', he, hF⟩ => ?_⟩
      have hI2 := hI.afterPure (L := fun _ => False) (fun _ h => h.elim) hF.ext hF.heap hF.stbLt
      have hg' : (⟨fun b => g'.stb b ∧ ¬ False, g'.ob, g.foot⟩ : Gs) = ⟨g'.stb, g'.ob, g.foot⟩ := by simp
      rw [hg'] at hI2
      have hres := hF.res
      unfold ResOk at hres
      rw [hg2] at hres
      simp only [cond_false] at hres
      obtain ⟨y, hK, hy⟩ := normRes_rep hF.post hres
      exact ⟨r, y, _, _, l, he, hK, fun d => hI2.put (TRep.of_rep hy) (by rw [hy.tags]; simp) d⟩
  ·
    obtain ⟨hg2, h⟩ := G_out h
    obtain ⟨hg3, h⟩ := G_out h
    have hg2 : E.own f = false := by simpa using hg2
    obtain ⟨hen, hcall⟩ := hR f _ _ _ h
    let L : Nat → Prop := fun b => (∃ t ∈ st.tags, (l.xv t).ownBlock = some b) ∨ g.foot b
    have hLs : ∀ b, L b → ¬ g.stb b := fun b hb hs => by
      rcases hb with ⟨t, ht, hb⟩ | hb
      · exact (hI.ownPriv t ht b hb).1 hs
      · exact (hI.stbLt b hs).2 hb
    have hst : Start ⟨fun b => g.stb b ∨ L b, g.ob, fun _ => False⟩ w st.H.none (mapTs (lendH st.H) args) vals := by
      refine ⟨hI.heap.none _, fun b hb => ⟨?_, id⟩, by rw [mapTs_length, hr.length], fun i c v hc hv => ?_⟩
      · rcases hb with hb | ⟨t, ht, hb⟩ | hb
        · exact (hI.stbLt b hb).1
        · obtain ⟨e, fl, hown, _⟩ := hI.own t ht
          exact (hown.lt b hb).2
        · exact hI.heap.foot_lt hb
      · rw [mapTs_get, Option.map_eq_some_iff] at hc
        obtain ⟨c0, hc0, rfl⟩ := hc
        have hok := List.all_eq_true.1 hg3 c0 (List.mem_of_getElem? hc0)
        by_cases hhs : ∃ j o n c k, c0 = .hs j o n c k
        · obtain ⟨j, o, n, c, k, rfl⟩ := hhs
          have hrep := hr.of i _ v hc0 hv
          simp only [TRep] at hrep
          simp only [hsOk, Bool.and_eq_true] at hok
          obtain ⟨xs, hxs⟩ := isRows_eq hok.1
          have hle := hok.2
          rw [hxs] at hle
          simp only [mapT, lendH, hxs, HB.xs]
          exact hs_lend hI hrep hxs (Nat.le_of_ble_eq_true hle) (fun b hb => .inl hb) (fun b hb => .inr (.inr hb))
        · rw [lendH_eq hok fun j o n c k e => hhs ⟨j, o, n, c, k, e⟩]
          exact hlend (fun b => g.stb b ∨ L b) (fun b hb => .inl hb) (fun t h b hb => .inr (.inl ⟨t, ht t h, hb⟩)) i _ v (by rw [mapTs_get, hc0]; rfl) hv
    refine ⟨hen, (hcall w _ vals hst).mono fun e w' ⟨r, v, H', g', l', he, hF⟩ => ?_⟩
    have hI2 := hI.afterPure hLs hF.ext hF.heap hF.stbLt
    have hres := hF.res
    unfold ResOk at hres
    have hrv : ∃ y, K y { st with H := st.H.past H' } ∧ flat y = true ∧ Rep w' g'.stb g'.ob y r := by
      rw [hg2] at hres
      simp only [cond_false] at hres
      obtain ⟨y, hK, hy, hf⟩ := normRes_flat hT hsc hF.post hres
      exact ⟨y, hK, hf, hy⟩
    obtain ⟨y, hK, hf, hy⟩ := hrv
    exact ⟨r, y, _, _, l, he, hK, fun d => hI2.put (TRep.of_rep (flat_rep hf hy)) (by rw [flat_tags hf]; simp) d⟩
end
end Go.Proofs.YtgmkkjmdflhbnaaDoor.Ab
end
section
namespace Go.Proofs.YtgmkkjmdflhbnaaDoor.Ab
open Go
mutual
theorem mapT_upd (t : Nat) (ys zs : List (List AV)) : ∀ a : AV, mapT (updF t zs) (mapT (updF t ys) a) = mapT (updF t zs) a
  | .agg cs => by simp only [mapT]; rw [mapTs_upd t ys zs cs]
  | .tup cs => by simp only [mapT]; rw [mapTs_upd t ys zs cs]
  | .iface _ v => by simp only [mapT]; rw [mapT_upd t ys zs v]
  | .sl t' k xs => by simp only [mapT, updF]; cases h : Nat.beq t' t <;> simp only [cond_true, cond_false, mapT, updF, h]
  | .ep t' k i o xs => by simp only [mapT, updF]; cases h : Nat.beq t' t <;> simp only [cond_true, cond_false, mapT, updF, h]
  | .any => rfl
  | .int _ _ => rfl
  | .bool _ => rfl
  | .str _ => rfl
  | .nilp => rfl
  | .ptr _ _ => rfl
  | .rp _ _ => rfl
  | .nilsl => rfl
  | .fn _ _ => rfl
  | .nilfn => rfl
  | .niliface => rfl
  | .obj _ _ => rfl
  | .map _ => rfl
  | .nilmap => rfl
  | .hs _ _ _ _ _ => rfl
  | .he _ _ _ _ => rfl
theorem mapTs_upd (t : Nat) (ys zs : List (List AV)) : ∀ cs : List AV, mapTs (updF t zs) (mapTs (updF t ys) cs) = mapTs (updF t zs) cs
  | [] => rfl
  | c :: cs => by simp only [mapTs]; rw [mapT_upd t ys zs c, mapTs_upd t ys zs cs]
end
theorem mapS_upd (t : Nat) (ys zs : List (List AV)) (s : St) : (s.mapS (updF t ys)).mapS (updF t zs) = s.mapS (updF t zs) := by
  simp only [St.mapS, List.map_map, mapTs_upd]
  congr 1
  apply List.map_congr_left
  intro mb _
  cases mb <;> simp [MB.mapM, mapTs_upd]
theorem updF_tags_of {t u : Nat} {ys : List (List AV)} : ∀ c, leaf c = true → u ∈ tagsOf c → u ∈ tagsOf (updF t ys c) := by
  intro c hc h
  cases c <;> try exact h
  case sl t' k xs =>
    simp only [updF]
    cases Nat.beq t' t <;> exact h
  case ep t' k i o xs =>
    simp only [updF]
    cases Nat.beq t' t <;> exact h
section
variable {P : Program} {T : List TI} {w0 : World} {g0 g : Gs} {l : Gl} {w w' : World} {st : St} {a : Act}
def Gs.drop (g : Gs) (H : Heap) (j : Nat) : Gs := { g with foot := fun q => g.foot q ∧ ¬ (H.get j ≠ .dead ∧ g.ob j = some q) }
theorem HOK.drop {H : Heap} (h : HOK g w H) (j : Nat) : HOK (g.drop H j) w (H.set j .dead) where
  lt := h.lt
  top i hi := by
    by_cases e : i = j
    · subst e; rw [set_get_self]
    · rw [set_get_ne _ _ e]; exact h.top i hi
  live i hi := by
    have e : i ≠ j := by rintro rfl; rw [set_get_self] at hi; exact hi rfl
    rw [set_get_ne _ _ e] at hi ⊢
    obtain ⟨b, h1, h2, h3, h4⟩ := h.live i hi
    exact ⟨b, h1, ⟨h2, fun hd => e (h.inj i j b hi hd.1 h1 hd.2)⟩, h3, h4.mono rfl (fun _ _ => rfl) (fun _ h => h) (fun _ _ h => h)⟩
  inj i q b hi hq h1 h2 := by
    have e : i ≠ j := by rintro rfl; rw [set_get_self] at hi; exact hi rfl
    have e' : q ≠ j := by rintro rfl; rw [set_get_self] at hq; exact hq rfl
    rw [set_get_ne _ _ e] at hi
    rw [set_get_ne _ _ e'] at hq
    exact h.inj i q b hi hq h1 h2
  foot b hb := by
    obtain ⟨i, h1, h2⟩ := h.foot b hb.1
    have e : i ≠ j := by rintro rfl; exact hb.2 ⟨h1, h2⟩
    exact ⟨i, by rw [set_get_ne _ _ e]; exact h1, h2⟩
  fx := h.fx
theorem lent_rest (hI : Inv w0 g0 g l w st a) {args : List AV} {vals : List Value} (hr : TReps g l w st.mem.length args vals) (ht : ∀ t ∈ tagsOfs args, t ∈ st.tags) :
    ∃ g1, Inv w0 g0 g1 l w (st.frzAll (tagsOfs args)) a ∧ (∀ b, g.stb b → g1.stb b) ∧ g1.ob = g.ob ∧ (frzVs args).length = vals.length ∧ ∀ (i : Nat) (c : AV) (v : Value), (frzVs args)[i]? = some c → vals[i]? = some v → Rep w g1.stb g1.ob c v := by
  obtain ⟨g1, hI1, s1, n1, o1, f1, b1, c1⟩ := hI.frzAll (tagsOfs args) (fun t h => tags_pos hI t (ht t h))
  refine ⟨g1, hI1, s1, o1, by unfold frzVs; rw [mapTs_length, hr.length], fun i c v hc hv => ?_⟩
  unfold frzVs at hc
  rw [mapTs_get, Option.map_eq_some_iff] at hc
  obtain ⟨c0, hc0, rfl⟩ := hc
  rw [o1]
  exact lend_rep (base := w0.heap.size) s1 (S := tagsOfs args) (fun t h => ⟨hI.own t (ht t h), b1 t h (ht t h)⟩) c0 v (fun t h => tagsOfs_get hc0 t h) (hr.of i c0 v hc0 hv)
theorem callImp_sound {E : Env} {R : Oracle} (hR : OSound P E R) (hI : Inv w0 g0 g l w st a) {f type s0 : Nat} {args : List AV} {vals : List Value} {K : AV → St → Prop}
    (hr : TReps g l w st.mem.length args vals) (ht : ∀ t ∈ tagsOfs args, t ∈ st.tags) (h0 : s0 = (st.frzAll (tagsOfs args)).fresh ∨ E.own f = false)
    (h : R f (frzVs args) st.H fun v H => normRes E.T (E.own f) s0 type v fun v => K v { st.frzAll (tagsOfs args) with H := H }) : CallOk P w0 g0 a w f vals K := by
  obtain ⟨g1, hI1, s1, o1, hlen, hlend⟩ := lent_rest hI hr ht
  have hH : (st.frzAll (tagsOfs args)).H = st.H := frzAll_H _ _
  obtain ⟨hen, hcall⟩ := hR f _ _ _ h
  have hst : Start g1 w st.H (frzVs args) vals := ⟨by have := hI1.heap; rwa [hH] at this, hI1.stbLt, hlen, hlend⟩
  refine ⟨hen, (hcall w _ vals hst).mono fun e w' ⟨r, v, H', g', l', he, hF⟩ => ?_⟩
  have hI2 := hI1.afterCall hF.ext hF.heap hF.stbLt
  have hres := hF.res
  unfold ResOk at hres
  have hpost := hF.post
  cases hown : E.own f <;> rw [hown] at hres hpost h0 <;> simp only [cond_false, cond_true] at hres
  · obtain ⟨y, hK, hy⟩ := normRes_rep hpost hres
    exact ⟨r, y, _, _, l, he, hK, fun d => hI2.put (TRep.of_rep hy) (by rw [hy.tags]; simp) d⟩
  · obtain rfl : s0 = (st.frzAll (tagsOfs args)).fresh := by simpa using h0
    obtain ⟨h1, h2, h3, h4⟩ := hres
    obtain ⟨s', y, l2, hK, hN, hy, hyt⟩ := normRes_own (g := g') (n := (st.frzAll (tagsOfs args)).mem.length) (base := w.heap.size) (l := l) (All := tagsOf v) h3 (fresh_pos _) hpost h1 h4 (fun t ht => ⟨(h2 t ht).2.1, ht⟩)
    exact own_result hI.ext.size hI1 hI2 rfl rfl hN hy hyt (fun t ht => (h2 t ht).2) he hK
theorem callHs_sound {E : Env} {R : Oracle} (hR : OSound P E R) (hI : Inv w0 g0 g l w st a) {f : Nat} {args : List AV} {vals : List Value} {K : AV → St → Prop}
    (hr : TReps g l w st.mem.length args vals) (ht : ∀ t ∈ tagsOfs args, t ∈ st.tags) (hown : E.own f = true) {q : Option (Option Nat)}
    (h : R f (frzVs args) st.H fun v H => hsK q v fun v => K v { st.frzAll (tagsOfs args) with H := H }) : CallOk P w0 g0 a w f vals K := by
  obtain ⟨g1, hI1, s1, o1, hlen, hlend⟩ := lent_rest hI hr ht
  have hH : (st.frzAll (tagsOfs args)).H = st.H := frzAll_H _ _
  obtain ⟨hen, hcall⟩ := hR f _ _ _ h
  have hst : Start g1 w st.H (frzVs args) vals := ⟨by have := hI1.heap; rwa [hH] at this, hI1.stbLt, hlen, hlend⟩
  refine ⟨hen, (hcall w _ vals hst).mono fun e w' ⟨r, v, H', g', l', he, hF⟩ => ?_⟩
  have hI2 := hI1.afterCall hF.ext hF.heap hF.stbLt
  have hres := hF.res
  unfold ResOk at hres
  have hpost := hF.post
  rw [hown] at hres
  simp only [cond_true] at hres
  have h1 := hres.1
  unfold hsK at hpost
  split at hpost
  · obtain ⟨hv, hK⟩ := G_out hpost
    cases v <;> simp only [AV.isHs, Bool.false_eq_true] at hv
    have := Nat.eq_of_beq_eq_true hv
    subst this
    simp only [AV.hsJ, AV.hsO, AV.hsN, AV.hsC] at hK
    exact ⟨r, _, _, _, l, he, hK, fun d => hI2.put (by simpa only [TRep] using h1) (by simp [tagsOf]) d⟩
  · obtain ⟨hv, hK⟩ := G_out hpost
    cases v <;> simp only [AV.isNilsl, Bool.false_eq_true] at hv
    exact ⟨r, _, _, _, l, he, hK, fun d => hI2.put (by simpa only [TRep] using h1) (by simp [tagsOf]) d⟩
  · exact hpost.elim
theorem ownT_of_rows {base b k n c : Nat} {ys : List (List AV)} (hR : HRep g w b (.rows k ys)) (hb : base ≤ b) (hn : n ≤ c) (hc : ys.length = c) (l : Gl) (t : Nat) : OwnT base g (l.own t (.slice (some ⟨b, 0, none⟩) n c) k (ys.take n)) w t := by
  obtain ⟨vs, e, h1, h2, hk, hm, h5, h6, h7⟩ := hR
  have hR : Rows w g.stb g.ob k ys vs := ⟨h2, h5, h6, h7⟩
  have hT := hR.take n
  have hv : (l.own t (.slice (some ⟨b, 0, none⟩) n c) k (ys.take n)).xv t = .slice (some ⟨b, 0, none⟩) n c := by simp [Gl.own]
  have hk' : (l.own t (.slice (some ⟨b, 0, none⟩) n c) k (ys.take n)).xk t = k := by simp [Gl.own]
  have hx : (l.own t (.slice (some ⟨b, 0, none⟩) n c) k (ys.take n)).xc t = ys.take n := by simp [Gl.own]
  have hl : (ys.take n).length = n := by simp; omega
  unfold OwnT
  rw [hv, hk', hx]
  refine ⟨e, vs.take (n * k), ⟨by rw [hT.len], .inr ⟨b, c, vs.toArray, by rw [hl], hb, h1, by omega, by omega, by simp [h2, hc], by rw [hl]⟩⟩, ⟨hk, fun b' cs e' fr hb' hh u hu => ?_⟩, hT.row, hT.one, hT.rep⟩
  simp only [Value.ownBlock, Option.some.injEq] at hb'
  subst hb'
  rw [h1] at hh
  cases hh
  exact h6 u hu
theorem promote (hI : Inv w0 g0 g l w st a) {t k b n c : Nat} {xs : List (List AV)} (hin : t ∈ st.tags) (hv : l.xv t = .slice (some ⟨b, 0, none⟩) n c) (hk : l.xk t = k) (hx : l.xc t = xs) :
    w0.heap.size ≤ b ∧ b < w.heap.size ∧ n = xs.length ∧ n ≤ c ∧ c ≤ maxLen ∧ 0 < k ∧ HOK (g.push st.H.next b) w (st.H.push (.rows k (pad k c xs))) ∧ (∀ q, (g.push st.H.next b).stb q → q < w.heap.size ∧ ¬ (g.push st.H.next b).foot q) := by
  obtain ⟨e, fl, hown, hone, hrow, h1, hrep⟩ := hI.own t hin
  rw [hk, hx] at hown hrep
  rw [hx] at hrow
  rw [hk] at hrow hone
  rw [hv] at hown hone
  obtain ⟨hfl, hown⟩ := hown
  rcases hown with ⟨hn, _⟩ | ⟨q, cap, cur, hvq, hbb, hh, hnc, hcm, hcs, htk⟩
  · cases hn
  · simp only [Value.slice.injEq, Option.some.injEq, Addr.mk.injEq, and_true] at hvq
    obtain ⟨rfl, rfl, rfl⟩ := hvq
    have hlt : b < w.heap.size := by
      rcases Nat.lt_or_ge b w.heap.size with h | h
      · exact h
      · rw [Array.getElem?_eq_none h] at hh; cases hh
    have hpriv := hI.ownPriv t hin b (by rw [hv]; rfl)
    have hall : ∀ u ∈ cur.toList, u.oneCell' = true := hone.2 b cur e _ rfl hh
    have hmul : xs.length * k ≤ c * k := Nat.mul_le_mul_right _ hnc
    have hR : Rows w g.stb g.ob k (pad k c xs) cur.toList := by
      have h2 : Rows w g.stb g.ob k xs fl := ⟨hfl, hrow, h1, hrep⟩
      have h3 := rows_any (k := k) (r := c - xs.length) (us := cur.toList.drop (xs.length * k)) (by simp [hcs, Nat.sub_mul]) (fun u hu => hall u (List.mem_of_mem_drop hu)) w g.stb g.ob
      have h4 := h2.append h3
      rw [← htk, List.take_append_drop] at h4
      exact h4
    refine ⟨hbb, hlt, rfl, hnc, hcm, hone.1, ?_, fun q hq => ⟨(hI.stbLt q hq).1, fun hf => ?_⟩⟩
    · refine hI.heap.push (.inr ⟨hlt, hpriv.2.1⟩) hlt (Nat.le_refl _) (fun _ _ => rfl) (fun q hq => (hI.stbLt q hq).1) (by simp) ?_
      exact hrep_rows (e := e) (vs := cur.toList) hh hone.1 (by simp [pad]; omega) (hR.mono (fun _ _ => rfl) (fun _ h => h) (push_ob hI.heap))
    · rcases hf with hf | rfl
      · exact (hI.stbLt q hq).2 hf
      · exact hpriv.1 hq
theorem own_cases (hI : Inv w0 g0 g l w st a) {t : Nat} (hin : t ∈ st.tags) : (l.xv t = .slice none 0 0 ∧ l.xc t = []) ∨ ∃ b c, l.xv t = .slice (some ⟨b, 0, none⟩) (l.xc t).length c := by
  obtain ⟨e, fl, hown, _⟩ := hI.own t hin
  rcases hown.2 with ⟨h1, h2⟩ | ⟨q, cap, cur, hv, _⟩
  · exact .inl ⟨h1, List.eq_nil_of_length_eq_zero h2⟩
  · exact .inr ⟨q, cap, hv⟩
theorem start_promote (hI : Inv w0 g0 g l w st a) {t k b n c : Nat} {xs : List (List AV)} (hin : t ∈ st.tags) (hv : l.xv t = .slice (some ⟨b, 0, none⟩) n c) (hk : l.xk t = k) (hx : l.xc t = xs) {rest : List AV} {vals : List Value} (hlen : rest.length = vals.length)
    (hr : ∀ (i : Nat) (q : AV) (v : Value), rest[i]? = some q → vals[i]? = some v → Rep w g.stb g.ob q v) : Start (g.push st.H.next b) w (st.H.push (.rows k (pad k c xs))) (.hs st.H.next 0 xs.length c k :: rest) (l.xv t :: vals) := by
  obtain ⟨p1, p2, p3, p4, p5, p6, p7, p8⟩ := promote hI hin hv hk hx
  refine ⟨p7, p8, by simp [hlen], fun i q v hq hv' => ?_⟩
  cases i with
  | zero =>
    simp only [List.getElem?_cons_zero, Option.some.injEq] at hq hv'
    subst hq hv'
    rw [hv, p3]
    exact .hs _ b 0 _ c k 0 (by simp [Gs.push]) (by omega) p5 (.inr (by omega))
  | succ i => exact (hr i q v (by simpa using hq) (by simpa using hv')).mono (fun _ _ => rfl) (fun _ h => h) (push_ob hI.heap)
theorem turn_sound {E : Env} {R : Oracle} (hR : OSound P E R) (hI : Inv w0 g0 g l w st a) {f t k : Nat} {xs : List (List AV)} (hin : t ∈ st.tags) (hk : l.xk t = k) (hx : l.xc t = xs) {rest : List AV} {vals : List Value} (hlen : rest.length = vals.length)
    (hr : ∀ (i : Nat) (q : AV) (v : Value), rest[i]? = some q → vals[i]? = some v → Rep w g.stb g.ob q v) (hown : E.own f = false) {K : List (List AV) → Heap → Prop} (h : ioTurn R f k xs rest st.H K) :
    Enters P f ∧ Calls P f (l.xv t :: vals).toArray w fun e w' => ∃ ys H' g' l', e = .returned (.tuple #[]) ∧ K ys H' ∧ Inv w0 g0 g' l' w' { st.mapS (updF t ys) with H := H' } a := by
  have tup0 : ∀ {w : World} {stb : Nat → Prop} {ob : Nat → Option Nat} {r : Value}, Rep w stb ob (.tup []) r → r = .tuple #[] := by
    intro w stb ob r hr
    cases hr with
    | tup _ vs hl _ =>
      have : vs = [] := List.eq_nil_of_length_eq_zero (by simpa using hl.symm)
      subst this
      rfl
  rcases own_cases hI hin with ⟨hv, hnil⟩ | ⟨b, c, hv⟩
  ·
    obtain rfl : xs = [] := hx.symm.trans hnil
    obtain ⟨hen, hcall⟩ := hR f _ _ _ (h.2 rfl)
    have hst : Start g w st.H (.nilsl :: rest) (l.xv t :: vals) := by
      refine ⟨hI.heap, hI.stbLt, by simp [hlen], fun i q v hq hv' => ?_⟩
      cases i with
      | zero =>
        simp only [List.getElem?_cons_zero, Option.some.injEq] at hq hv'
        subst hq hv'
        rw [hv]
        exact .nilsl
      | succ i => exact hr i q v (by simpa using hq) (by simpa using hv')
    refine ⟨hen, (hcall w _ _ hst).mono fun e w' ⟨r, v, H', g', l', he, hF⟩ => ?_⟩
    have hI2 := hI.afterCall hF.ext hF.heap hF.stbLt
    obtain ⟨rfl, hK⟩ := hF.post
    have hres := hF.res
    unfold ResOk at hres
    rw [hown] at hres
    simp only [cond_false] at hres
    obtain rfl := tup0 hres
    exact ⟨[], H', g', _, he, hK, hI2.upd (t := t) hin (ys := []) (by rw [hx]) rfl rfl rfl rfl (fun _ _ => rfl) ((hI2.own t hin).at (by simp [Gl.own, hx]))⟩
  · rw [hx] at hv
    obtain ⟨p1, p2, p3, p4, p5, p6, p7, p8⟩ := promote hI hin hv hk hx
    obtain ⟨hen, hcall⟩ := hR f _ _ _ (h.1 c p4 fun _ => p5)
    refine ⟨hen, (hcall w _ _ (start_promote hI hin hv hk hx hlen hr)).mono fun e w' ⟨r, v, H', g', l', he, hF⟩ => ?_⟩
    obtain ⟨rfl, hsame, ys, hys, hyl, hK⟩ := hF.post
    have hres := hF.res
    unfold ResOk at hres
    rw [hown] at hres
    simp only [cond_false] at hres
    obtain rfl := tup0 hres
    rw [hI.heap.top st.H.next (Nat.le_refl _)] at hK
    have hob : g'.ob st.H.next = some b := hF.ext.ob _ _ (by simp [Gs.push])
    have hlive : H'.get st.H.next ≠ .dead := by rw [hys]; simp
    obtain ⟨b', q1, q2, q3, q4⟩ := hF.heap.live _ hlive
    rw [hob] at q1
    cases q1
    rw [hys] at q4
    have hpriv := hI.ownPriv t hin b (by rw [hv]; rfl)
    have hbl : (l.xv t).ownBlock = some b := by rw [hv]; rfl
    obtain ⟨vs, e', hb', hlv, _, hm', hrow', hone', hrep'⟩ := id q4
    let w1 : World := { w with heap := w.heap.setIfInBounds b (.cells vs.toArray e' (0, 0)) }
    have hw1b : w1.heap[b]? = w'.heap[b]? := by rw [hb']; simp [w1, p2]
    have hw1o : ∀ q, q ≠ b → w1.heap[q]? = w.heap[q]? := fun q hq => by simp [w1, Ne.symm hq]
    have hany : HRep g w1 b (.rows k (List.replicate c (List.replicate k .any))) := by
      refine hrep_rows (e := e') (vs := vs) (hw1b.trans hb') p6 (by simpa using p5) (rows_any (by rw [hlv, hyl]) hone' _ _ _)
    have hI1 := hI.upd (w' := w1) hin (ys := (List.replicate c (List.replicate k .any)).take xs.length) (by rw [hx]; simp; omega) rfl rfl rfl (by simp [w1]) (fun q hq => hw1o q fun e => hq (e ▸ hbl))
      (by rw [hv, hk]; exact ownT_of_rows hany p1 (by omega) (by simp) l t)
    have hbase : ∀ q, q < w0.heap.size → q ≠ b := fun q hq => by omega
    have hI2 := hI1.step (w' := w') (g' := g'.drop H' st.H.next) (H' := H'.set st.H.next .dead) hF.ext.os hF.ext.tape hF.ext.output (by have := hF.ext.size; simpa [w1] using this) (fun q hq hl => by
        have hq' : q < w.heap.size := by simpa [w1] using hq
        by_cases e : q = b
        · subst e; exact hw1b.symm
        · rw [hw1o q e]
          refine hF.ext.keep q hq' fun hf => ?_
          rcases hf with hf | hf
          · exact (hl.elim (leans_foot hI1) fun h => h.2) hf
          · exact e hf) (fun q hq => hF.ext.stb q hq) (fun q hq => by
        rcases hF.ext.stbNew q hq with h1 | h1 | h1 | h1
        · exact .inl h1
        · exact .inr (.inl (by simpa [w1] using h1))
        · exact .inr (.inr h1)
        · exact absurd q2 (h1 ▸ (hF.stbLt q hq).2)) (fun j q hq => hF.ext.ob j q (push_ob hI.heap j q hq)) (fun q hq => by
        rcases hF.ext.footNew q hq.1 with (h1 | h1) | h1
        · exact .inl h1
        · exact absurd ⟨hlive, h1 ▸ hob⟩ hq.2
        · exact .inr (by simpa [w1] using h1)) (fun q hq => ⟨(hF.stbLt q hq).1, fun hf => (hF.stbLt q hq).2 hf.1⟩) (hF.heap.drop _)
    have hin2 : t ∈ ({ st.mapS (updF t ((List.replicate c (List.replicate k .any)).take xs.length)) with H := H'.set st.H.next .dead } : St).tags := tags_mapS_of updF_tags_of st hin
    have hI3 := hI2.upd (w' := w') hin2 (ys := ys.take xs.length) (by simp [Gl.own]; omega) rfl rfl rfl rfl (fun _ _ => rfl) (by
      have hxv : (l.own t (l.xv t) (l.xk t) ((List.replicate c (List.replicate k .any)).take xs.length)).xv t = .slice (some ⟨b, 0, none⟩) xs.length c := by simp [Gl.own, hv]
      have hxk : (l.own t (l.xv t) (l.xk t) ((List.replicate c (List.replicate k .any)).take xs.length)).xk t = k := by simp [Gl.own, hk]
      rw [hxv, hxk]
      exact ownT_of_rows (g := g'.drop H' st.H.next) q4 p1 (by omega) hyl _ t)
    have hst : ({ st.mapS (updF t ((List.replicate c (List.replicate k .any)).take xs.length)) with H := H'.set st.H.next .dead } : St).mapS (updF t (ys.take xs.length)) = { st.mapS (updF t (ys.take xs.length)) with H := H'.set st.H.next .dead } := by
      have := mapS_upd t ((List.replicate c (List.replicate k .any)).take xs.length) (ys.take xs.length) st
      simp only [St.mapS, St.mk.injEq] at this ⊢
      exact ⟨this.1, this.2.1, trivial⟩
    rw [hst] at hI3
    exact ⟨ys.take xs.length, H'.set st.H.next .dead, _, _, he, hK, hI3⟩
theorem Inv.loc_lt (hI : Inv w0 g0 g l w st a) {j : Nat} (hj : j < st.mem.length) : l.loc j < w.heap.size := by
  obtain ⟨mb, hmb⟩ : ∃ mb, st.mem[j]? = some mb := ⟨_, List.getElem?_eq_getElem hj⟩
  cases hmine : mb.mine with
  | true => exact (hI.priv j mb hmb hmine).2.1
  | false =>
    cases mb with
    | frz cs => exact (hI.stbLt _ (hI.mem j _ hmb).1).1
    | dead => exact (hI.mem j _ hmb).elim
    | cells cs => simp [MB.mine] at hmine
    | siter s p => simp [MB.mine] at hmine
    | miter _ _ _ _ _ _ => simp [MB.mine] at hmine
theorem ret_sound (hI : Inv w0 g0 g l w st a) {gp g' : Gs} {B : Nat → Prop} {l' : Gl} {H' : Heap} {k : Nat} {v : AV} {r : Value} {K : List (List AV) → Heap → Prop}
    (hgs : ∀ q, gp.stb q ↔ g.stb q) (hob : ∀ j b, g.ob j = some b → gp.ob j = some b) (hfp : ∀ q, gp.foot q → g.foot q ∨ B q)
    (hB : ∀ q, B q → w0.heap.size ≤ q ∧ q < w.heap.size ∧ ¬ Leans g l st q ∧ (∀ j, j < st.mem.length → l.loc j ≠ q) ∧ gp.ob st.H.next = some q ∧ H'.get st.H.next ≠ .dead)
    (hext : Ext w gp w' g') (hheap : HOK g' w' H') (hlt : ∀ q, g'.stb q → q < w'.heap.size ∧ ¬ g'.foot q) (hsame : st.H.Same H') (hres : ResOk true w.heap.size g' l' w' v r) (h : ioRet k st.H H' v K) :
    ∃ ys H'' g'' l2, K ys H'' ∧ ∀ d, Inv w0 g0 g'' l2 w' ({ st with H := H'' }.put d (.sl st.fresh k ys)) (a.put d r) := by
  have hBf : ∀ q, B q → g'.foot q ∧ g'.ob st.H.next = some q := fun q hq => by
    obtain ⟨p1, p2, p3, p4, p5, p6⟩ := hB q hq
    obtain ⟨b', q1, q2, _⟩ := hheap.live _ p6
    have := hext.ob _ _ p5
    rw [this] at q1
    cases q1
    exact ⟨q2, this⟩
  have goOn : ∀ {gf : Gs} {H'' : Heap}, gf.stb = g'.stb → gf.ob = g'.ob → (∀ q, gf.foot q → g'.foot q) → (∀ q, B q → ¬ gf.foot q) → HOK gf w' H'' → Inv w0 g0 gf l w' { st with H := H'' } a := by
    intro gf H'' e1 e2 e3 e4 hH
    refine hI.step (g' := gf) hext.os hext.tape hext.output hext.size (fun q hq hl => hext.keep q hq fun hf => ?_) (fun q hq => by rw [e1]; exact hext.stb q ((hgs q).2 hq)) (fun q hq => ?_) (fun j q hq => by rw [e2]; exact hext.ob j q (hob j q hq)) (fun q hq => ?_) (fun q hq => ?_) hH
    · rcases hfp q hf with hf | hf
      · exact (hl.elim (leans_foot hI) fun h => h.2) hf
      · obtain ⟨p1, _, p3, _⟩ := hB q hf
        rcases hl with hl | hl
        · exact p3 hl
        · omega
    · rw [e1] at hq
      rcases hext.stbNew q hq with h1 | h1 | h1
      · exact .inl ((hgs q).1 h1)
      · exact .inr (.inl h1)
      · rcases hfp q h1 with h1 | h1
        · exact .inr (.inr h1)
        · exact absurd (hBf q h1).1 (hlt q hq).2
    · rcases hext.footNew q (e3 q hq) with h1 | h1
      · rcases hfp q h1 with h1 | h1
        · exact .inl h1
        · exact absurd hq (e4 q h1)
      · exact .inr h1
    · rw [e1] at hq
      exact ⟨(hlt q hq).1, fun hf => (hlt q hq).2 (e3 q hf)⟩
  have htop : st.H.get st.H.next = .dead := hI.heap.top _ (Nat.le_refl _)
  have hfr : ∀ H'' : Heap, st.fresh ∉ ({ st with H := H'' } : St).tags := fun H'' => by
    have := fresh_not st 0
    rwa [Nat.add_zero] at this
  have hnew : ∀ q, B q ∨ w.heap.size ≤ q → w0.heap.size ≤ q ∧ (∀ j, j < st.mem.length → l.loc j ≠ q) ∧ ∀ u ∈ st.tags, (l.xv u).ownBlock ≠ some q := fun q hq => by
    rcases hq with hq | hq
    · obtain ⟨p1, p2, p3, p4, _⟩ := hB q hq
      exact ⟨p1, p4, fun u hu he => p3 (.inr (.inr ⟨u, hu, he⟩))⟩
    · refine ⟨Nat.le_trans hI.ext.size hq, fun j hj he => ?_, fun u hu he => ?_⟩
      · have := hI.loc_lt hj; omega
      · obtain ⟨e, fl, hown, _⟩ := hI.own u hu
        have := (hown.lt _ he).2
        omega
  obtain ⟨h1, h2, h3, h4⟩ := hres
  rcases h with ⟨j, n, c, ys, rfl, hj, hget, hyl, hn, hK⟩ | ⟨t, ys, rfl, hK⟩
  · rw [hI.heap.top j hj, htop] at hK
    simp only [TRep] at h1
    cases h1 with
    | hs _ b2 _ _ _ _ q ho _ hm hq =>
      obtain rfl : q = 0 := by rcases hq with hq | hq <;> omega
      have hlive : H'.get j ≠ .dead := by rw [hget]; simp
      obtain ⟨b', q1, q2, q3, q4⟩ := hheap.live j hlive
      rw [ho] at q1
      cases q1
      rw [hget] at q4
      have hbn : B b2 ∨ w.heap.size ≤ b2 := by
        rcases hext.footNew b2 q2 with h1 | h1
        · rcases hfp b2 h1 with h1 | h1
          · exfalso
            obtain ⟨i, k1, k2⟩ := hI.heap.foot b2 h1
            have hi := hI.heap.lt i b2 k2
            have := hsame i hi
            have := hheap.inj i j b2 (by rw [this]; exact k1) hlive (hext.ob i b2 (hob i b2 k2)) ho
            omega
          · exact .inl h1
        · exact .inr h1
      obtain ⟨n1, n2, n3⟩ := hnew b2 hbn
      have hI2 := goOn (gf := (g'.drop H' j).drop (H'.set j .dead) st.H.next) rfl rfl (fun q hq => hq.1.1) (fun q hq hf => by
        by_cases e : st.H.next = j
        · exact hf.1.2 ⟨hlive, by rw [← e]; exact (hBf q hq).2⟩
        · exact hf.2 ⟨by rw [set_get_ne _ _ e]; exact (hB q hq).2.2.2.2.2, (hBf q hq).2⟩) ((hheap.drop j).drop st.H.next)
      refine ⟨ys.take n, _, _, _, hK, fun d => hI2.newTag (by have := fresh_pos st; omega) (hfr _) (ownT_of_rows (g := (g'.drop H' j).drop (H'.set j .dead) st.H.next) q4 n1 hn hyl l st.fresh) (fun b hb => ?_) d⟩
      simp only [Value.ownBlock, Option.some.injEq] at hb
      subst hb
      exact ⟨fun hs => (hlt _ hs).2 q2, n2, n3, fun hf => hf.1.2 ⟨hlive, ho⟩⟩
  · rw [htop] at hK
    simp only [TRep] at h1
    obtain ⟨rfl, rfl, rfl⟩ := h1
    obtain ⟨k1, k2, k3⟩ := h2 (t + 1) (by simp [tagsOf, Nat.beq])
    have hI2 := goOn (gf := g'.drop H' st.H.next) rfl rfl (fun q hq => hq.1) (fun q hq hf => hf.2 ⟨(hB q hq).2.2.2.2.2, (hBf q hq).2⟩) (hheap.drop st.H.next)
    refine ⟨l'.xc (t + 1), _, _, _, hK, fun d => hI2.newTag (by have := fresh_pos st; omega) (hfr _) ?_ (fun b hb => ?_) d⟩
    · have : OwnT w0.heap.size (g'.drop H' st.H.next) l' w' (t + 1) := k2.base_le hI.ext.size
      exact this.at (by simp [Gl.own])
    · have hge : w.heap.size ≤ b := by obtain ⟨e, fl, hown, _⟩ := k2; exact (hown.lt b hb).1
      obtain ⟨n1, n2, n3⟩ := hnew b (.inr hge)
      exact ⟨(k3 b hb).1, n2, n3, fun hf => (k3 b hb).2 hf.1⟩
theorem back_sound {E : Env} {R : Oracle} (hR : OSound P E R) (hI : Inv w0 g0 g l w st a) {f t k : Nat} {xs : List (List AV)} (hin : t ∈ st.tags) (hk : l.xk t = k) (hx : l.xc t = xs) {rest : List AV} {vals : List Value} (hlen : rest.length = vals.length)
    (hr : ∀ (i : Nat) (q : AV) (v : Value), rest[i]? = some q → vals[i]? = some v → Rep w g.stb g.ob q v) (hown : E.own f = true) {K : List (List AV) → Heap → Prop} (h : ioBack R f k xs rest st.H K) :
    Enters P f ∧ Calls P f (l.xv t :: vals).toArray w fun e w' => ∃ r ys H' g' l', e = .returned r ∧ K ys H' ∧ ∀ d, Inv w0 g0 g' l' w' ({ st.mapS (killF t) with H := H' }.put d (.sl (st.mapS (killF t)).fresh k ys)) (a.put d r) := by
  have hIk := hI.kill t
  have htg := tags_mapS (killF_tags t) st
  rcases own_cases hI hin with ⟨hv, hnil⟩ | ⟨b, c, hv⟩
  · obtain rfl : xs = [] := hx.symm.trans hnil
    obtain ⟨hen, hcall⟩ := hR f _ _ _ (h.2 rfl)
    have hst : Start g w st.H (.nilsl :: rest) (l.xv t :: vals) := by
      refine ⟨hI.heap, hI.stbLt, by simp [hlen], fun i q v hq hv' => ?_⟩
      cases i with
      | zero =>
        simp only [List.getElem?_cons_zero, Option.some.injEq] at hq hv'
        subst hq hv'
        rw [hv]
        exact .nilsl
      | succ i => exact hr i q v (by simpa using hq) (by simpa using hv')
    refine ⟨hen, (hcall w _ _ hst).mono fun e w' ⟨r, v, H', g', l', he, hF⟩ => ?_⟩
    obtain ⟨hsame, hpost⟩ := hF.post
    have hres := hF.res
    rw [hown] at hres
    rcases hpost with hpost | ⟨rfl, hK⟩
    · obtain ⟨ys, H'', g'', l2, hK, hI2⟩ := ret_sound (st := st.mapS (killF t)) (B := fun _ => False) hIk (gp := g) (fun _ => Iff.rfl) (fun _ _ h => h) (fun q h => .inl h) (fun q h => h.elim) hF.ext hF.heap hF.stbLt hsame hres hpost
      exact ⟨r, ys, H'', g'', l2, he, hK, hI2⟩
    · have hI2 := hIk.afterCall hF.ext hF.heap hF.stbLt
      obtain ⟨h1, _⟩ := hres
      simp only [TRep] at h1
      subst h1
      have hk0 : 0 < k := by obtain ⟨e, fl, _, hk0, _⟩ := hI.own t hin; rw [hk] at hk0; exact hk0.1
      have hfr := fresh_not (st.mapS (killF t)) 0
      rw [Nat.add_zero] at hfr
      refine ⟨_, [], H', g', _, he, hK, fun d => hI2.newTag (by have := fresh_pos (st.mapS (killF t)); omega) hfr ⟨0, [], ?_, ?_, by simp [Gl.own], by simp, by simp [Gl.own]⟩ (fun b hb => by cases hb) d⟩
      · simp only [Gl.own, if_true]
        exact World.ownsRow_nil _ _ _ _
      · simp only [Gl.own, if_true]
        exact ⟨hk0, fun b _ _ _ hb => by cases hb⟩
  · rw [hx] at hv
    obtain ⟨p1, p2, p3, p4, p5, p6, p7, p8⟩ := promote hI hin hv hk hx
    obtain ⟨hen, hcall⟩ := hR f _ _ _ (h.1 c p4 fun _ => p5)
    refine ⟨hen, (hcall w _ _ (start_promote hI hin hv hk hx hlen hr)).mono fun e w' ⟨r, v, H', g', l', he, hF⟩ => ?_⟩
    obtain ⟨hsame, hnd, hpost⟩ := hF.post
    have hres := hF.res
    rw [hown] at hres
    have hpriv := hI.ownPriv t hin b (by rw [hv]; rfl)
    obtain ⟨ys, H'', g'', l2, hK, hI2⟩ := ret_sound (st := st.mapS (killF t)) (B := fun q => q = b) hIk (gp := g.push st.H.next b) (fun _ => Iff.rfl) (push_ob hI.heap) (fun q h => h) (fun q hq => by
      subst hq
      refine ⟨p1, p2, fun hl => ?_, fun j hj => hpriv.2.2 j (by rwa [mapS_memlen] at hj), by show (g.push st.H.next _).ob st.H.next = _; simp [Gs.push], hnd⟩
      rcases hl with hl | ⟨j, mb, hj, hm, hl⟩ | ⟨u, hu, hl⟩
      · exact hpriv.1 hl
      · refine hpriv.2.2 j ?_ hl
        have := (List.getElem?_eq_some_iff.1 hj).1
        rwa [mapS_memlen] at this
      · exact (htg u hu).2 (hI.ownInj u (htg u hu).1 t hin _ hl (by rw [hv]; rfl))) hF.ext hF.heap hF.stbLt hsame hres hpost
    exact ⟨r, ys, H'', g'', l2, he, hK, hI2⟩
theorem callIO_sound {E : Env} {R : Oracle} (hR : OSound P E R) (hI : Inv w0 g0 g l w st a) {f type : Nat} {args : List AV} {vals : List Value} {K : AV → St → Prop}
    (hr : TReps g l w st.mem.length args vals) (ht : ∀ t ∈ tagsOfs args, t ∈ st.tags) (h : callIO E R st f args type K) : CallOk P w0 g0 a w f vals K := by
  unfold callIO at h
  split at h
  · rename_i t k xs rest
    obtain ⟨hg, h⟩ := G_out h
    simp only [Bool.and_eq_true, Bool.not_eq_true', List.contains_eq_mem, decide_eq_false_iff_not] at hg
    obtain ⟨hnin, hk0⟩ := hg
    cases vals with
    | nil => simp [TReps] at hr
    | cons v0 vals =>
      simp only [TReps, TRep] at hr
      obtain ⟨⟨rfl, hx, hk⟩, hr⟩ := hr
      obtain ⟨g1, hI1, s1, o1, hlen, hlend⟩ := lent_rest hI hr (fun u hu => ht u (by simp [tagsOfs, hu]))
      have hin1 : t + 1 ∈ (st.frzAll (tagsOfs rest)).tags := frzAll_tags_of _ _ hnin (ht _ (by simp [tagsOfs, tagsOf, Nat.beq]))
      have hH : (st.frzAll (tagsOfs rest)).H = st.H := frzAll_H _ _
      cases hu : isUnitT E.T type <;> rw [hu] at h <;> simp only [cond_true, cond_false] at h
      · obtain ⟨hg, h⟩ := G_out h
        simp only [Bool.and_eq_true] at hg
        rw [← hH] at h
        obtain ⟨hen, hcall⟩ := back_sound hR hI1 hin1 hk.symm hx.symm hlen hlend hg.1 h
        exact ⟨hen, hcall.mono fun e w' ⟨r, ys, H', g', l', he, hK, hI2⟩ => ⟨r, _, _, g', l', he, hK, hI2⟩⟩
      · obtain ⟨hg, h⟩ := G_out h
        rw [← hH] at h
        obtain ⟨hen, hcall⟩ := turn_sound hR hI1 hin1 hk.symm hx.symm hlen hlend (by simpa using hg) h
        exact ⟨hen, hcall.mono fun e w' ⟨ys, H', g', l', he, hK, hI2⟩ => ⟨_, _, _, g', l', he, hK, fun d => hI2.put undef_rep (by simp [tagsOf, tagsOfs]) d⟩⟩
  · cases hs : scalarT E.T type <;> rw [hs] at h <;> simp only [cond_false, cond_true] at h
    · obtain ⟨hg, h⟩ := G_out h
      simp only [Bool.and_eq_true] at hg
      cases hn : isNilHd args <;> rw [hn] at h <;> simp only [cond_false, cond_true] at h
      · exact callHs_sound hR hI hr ht hg.1 h
      · exact callImp_sound hR hI hr ht (.inl rfl) h
    · obtain ⟨hg, h⟩ := G_out h
      have hown : E.own f = false := by simpa using hg
      exact callImp_sound (s0 := 0) hR hI hr ht (.inr hown) (by rw [hown]; exact h)
theorem callAV_sound {E : Env} {R : Oracle} (hT : TabOk P E.T) (hR : OSound P E R) (hI : Inv w0 g0 g l w st a) {f type : Nat} {args : List AV} {vals : List Value} {strict : Bool} {K : AV → St → Prop}
    (hr : TReps g l w st.mem.length args vals) (ht : ∀ t ∈ tagsOfs args, t ∈ st.tags) (h : callAV E R strict st f args type K) : CallOk P w0 g0 a w f vals K := by
  unfold callAV at h
  cases hio : E.io f <;> rw [hio] at h <;> simp only [cond_true, cond_false] at h
  · cases hp : E.pur f <;> rw [hp] at h <;> simp only [cond_true, cond_false] at h
    · cases strict <;> simp only [cond_true, cond_false] at h
      · exact callImp_sound hR hI hr ht (.inl rfl) h
      · obtain ⟨hg, h⟩ := G_out h
        obtain ⟨ho, h⟩ := G_out h
        have hown : E.own f = false := by simpa using ho
        have he : tagsOfs args = [] := by simpa using hg
        refine callImp_sound (type := type) (s0 := 0) hR hI hr ht (.inr hown) ?_
        rw [hown, he]
        exact h
    · exact callPure_sound hT hR hI hr ht h
  · exact callIO_sound hR hI hr ht (G_out h).2
end
end Go.Proofs.YtgmkkjmdflhbnaaDoor.Ab
end
section
namespace Go.Proofs.YtgmkkjmdflhbnaaDoor.Ab
open Go
section
variable {P : Program} {T : List TI} {w0 : World} {g0 g g' : Gs} {l : Gl} {w w' : World} {st : St} {a : Act} {o : Oper} {next : Act → World → Prop} {Q : Exit → Act → World → Prop}
theorem cells_zeroT (hT : TabOk P T) {e : Nat} (hk : (ti T e).k ≠ .other) (htup : ∀ ts, (ti T e).k ≠ .tuple ts) : cellsOf (zeroT T e) = (ti T e).shape.map CK.zero := by
  obtain ⟨i, z, hi, hz, hl1, hl2, hagg, hc⟩ := hT.zero (P := P) hk htup
  unfold zeroT
  cases h : isAggT T e
  · rw [h] at hagg
    have hz1 : z.cells = #[z] := by cases z <;> first | rfl | (simp [isAggV] at hagg; done)
    rw [hz1] at hl1
    simp only [List.length_cons, List.length_nil, Nat.zero_add] at hl1
    obtain ⟨c, hsc⟩ : ∃ c, (ti T e).shape = [c] := by
      cases hs : (ti T e).shape with
      | nil => rw [hs] at hl1; simp at hl1
      | cons c r => cases r with
        | nil => exact ⟨c, rfl⟩
        | cons d r => rw [hs] at hl1; simp at hl1
    rw [hsc]
    simp only [cond_false, List.map_cons, List.map_nil, List.headD_cons]
    cases c <;> rfl
  · rfl
theorem allocH_sound (hT : TabOk P T) (hI : Inv w0 g0 g l w st a) {e : Nat} {K : St → Prop} (ho : o.op = .alloc e) (hk : (ti T e).k ≠ .other) (htup : ∀ ts, (ti T e).k ≠ .tuple ts)
    (h : K ({ st with H := st.H.push (.cells (cellsOf (zeroT T e))) }.put o.dst (.obj st.H.next 0))) (hn : Goes w0 g0 K next) : o.wp P a w next Q := by
  obtain ⟨i, z, hi, hz, hsz, hby, hzl, hl2, _, _, hone, hr⟩ := zeros_rep (P := P) hT hk htup
  have hrun : (execOp a.eval o).run P w = .ok (.value (.pointer (some ⟨w.heap.size, 0, none⟩))) (w.alloc (.cells z.cells e)) := by
    unfold execOp
    rw [ho]
    refine exec_v ?_
    simp [Instr.alloc, zeroValue, typeInfo, hi, hz, newVar, newRow]
  have hcells := cells_zeroT (P := P) hT hk htup
  refine wp_value hrun (hn _ _ _ _ _ ((hI.pushHeap (w' := w.alloc (.cells z.cells e)) rfl rfl rfl (by simp) (fun q hq => heap_alloc w _ q hq) (Nat.le_refl _) (by simp) (x := .cells (cellsOf (zeroT T e))) (by simp) ?_).put (TRep.of_rep (.obj st.H.next w.heap.size 0 (by simp [Gs.push]))) (by simp [tagsOf]) _) h)
  refine ⟨z.cells.toList, e, (heap_alloc_new w _).trans (by simp), by rw [hcells]; simp [hzl, hl2], hone, fun j c v hc hv => ?_⟩
  rw [hcells] at hc
  obtain ⟨v', hv', hrv⟩ := hr (g.push st.H.next w.heap.size) (w.alloc (.cells z.cells e)) j c hc
  rw [hv] at hv'
  cases hv'
  exact hrv
theorem boxH_sound (hI : Inv w0 g0 g l w st a) {e : Nat} {x : Operand} {K : St → Prop} (ho : o.op = .box e x) (hb : boxable (ρ st.tm x) = true)
    (h : K ({ st.frzAll (tagsOf (ρ st.tm x)) with H := st.H.push (.cells (frzVs (cellsOf (ρ st.tm x)))) }.put o.dst (.obj st.H.next 0))) (hn : Goes w0 g0 K next) : o.wp P a w next Q := by
  obtain ⟨g', hI', ho', hl, hy1, hlend⟩ := lent_cells hI hb
  have hH : (st.frzAll (tagsOf (ρ st.tm x))).H = st.H := frzAll_H _ _
  have hrun : (execOp a.eval o).run P w = .ok (.value (.pointer (some ⟨w.heap.size, 0, none⟩))) (w.alloc (.cells (a.eval x).cells e)) := by
    unfold execOp
    rw [ho]
    refine exec_v ?_
    simp [Instr.box, newVar, newRow]
  have hI2 := hI'.pushHeap (w' := w.alloc (.cells (a.eval x).cells e)) rfl rfl rfl (by simp) (fun q hq => heap_alloc w _ q hq) (Nat.le_refl _) (by simp) (x := .cells (frzVs (cellsOf (ρ st.tm x)))) (by simp)
    ⟨(a.eval x).cells.toList, e, (heap_alloc_new w _).trans (by simp), hl.symm, hy1, fun j c v hc hv => (hlend j c v hc hv).mono (fun b hb => heap_alloc w _ b (hI'.stbLt b hb).1) (fun _ h => h) (push_ob hI'.heap)⟩
  rw [hH] at hI2
  exact wp_value hrun (hn _ _ _ _ _ (hI2.put (TRep.of_rep (.obj st.H.next w.heap.size 0 (by simp [Gs.push]))) (by simp [tagsOf]) _) h)
theorem makeMap_sound (hI : Inv w0 g0 g l w st a) {t : Nat} {K : St → Prop} (ho : o.op = .makeMap t none)
    (h : K ({ st with H := st.H.push (.map [] 0) }.put o.dst (.map st.H.next))) (hn : Goes w0 g0 K next) : o.wp P a w next Q := by
  have hrun : (execOp a.eval o).run P w = .ok (.value (.map (some w.heap.size))) (w.alloc (.map #[] 0)) := by
    unfold execOp
    rw [ho]
    refine exec_v ?_
    simp [Instr.makeMap]
  refine wp_value hrun (hn _ _ _ _ _ ((hI.pushHeap (w' := w.alloc (.map #[] 0)) rfl rfl rfl (by simp) (fun q hq => heap_alloc w _ q hq) (Nat.le_refl _) (by simp) (x := .map [] 0) (by simp) ?_).put (TRep.of_rep (.map st.H.next w.heap.size (by simp [Gs.push]))) (by simp [tagsOf]) _) h)
  exact ⟨[], heap_alloc_new w _, rfl, by simp⟩
theorem Inv.setMap (hI : Inv w0 g0 g l w st a) {j b c c' : Nat} (ho : g.ob j = some b) {es0 es : List (Nat × AV × AV)} {vs0 vs : List MapEntry} (hj : st.H.get j = .map es0 c) (hh : w.heap[b]? = some (.map vs0.toArray c)) (hf : g.foot b) (hl : vs.length = es.length)
    (hr : ∀ (i : Nat) (a : Nat × AV × AV) (v : MapEntry), es[i]? = some a → vs[i]? = some v → v.born = a.1 ∧ Rep w g.stb g.ob a.2.1 v.key ∧ Rep w g.stb g.ob a.2.2 v.val) :
    Inv w0 g0 g l { w with heap := w.heap.setIfInBounds b (.map vs.toArray c') } { st with H := st.H.set j (.map es c') } a := by
  have hset := MapKept.heap_set (o' := .map vs.toArray c') hh
  have hst : ∀ q, g.stb q → (w.heap.setIfInBounds b (.map vs.toArray c'))[q]? = w.heap[q]? := fun q hq => hset.2 q fun e => (hI.stbLt q hq).2 (e ▸ hf)
  refine hI.setHeap (w' := { w with heap := w.heap.setIfInBounds b (.map vs.toArray c') }) ho (by rw [hj]; simp) rfl rfl rfl (by simp) (fun q hq => hset.2 q hq) (x := .map es c') (by simp) ⟨vs, hset.1, hl, fun i a v ha hv => ?_⟩
  obtain ⟨h1, h2, h3⟩ := hr i a v ha hv
  exact ⟨h1, h2.mono hst (fun _ h => h) (fun _ _ h => h), h3.mono hst (fun _ h => h) (fun _ _ h => h)⟩
theorem mapUpdate_sound (hT : TabOk P T) (hE : EqOk P T) (hI : Inv w0 g0 g l w st a) {t : Nat} {m k v : Operand} {kt vt j : Nat} {K : St → Prop} (ho : o.op = .mapUpdate t m k v) (hk : (ti T t).k = .map kt vt) (hm : ρ st.tm m = .map j)
    (q1 : keyOkT T kt = true) (q2 : keyFits (keyT T kt) (isAggT T kt) (ρ st.tm k) = true) (q3 : (st.H.get j).isMapOf (keyT T kt) (isAggT T kt) = true)
    (h : K ({ st.frzAll (tagsOf (ρ st.tm v)) with H := st.H.set j (.map (mput (ρ st.tm k) (frzV (ρ st.tm v)) (st.H.get j).clock (st.H.get j).es) (cond (mhas (ρ st.tm k) (st.H.get j).es) (st.H.get j).clock ((st.H.get j).clock + 1))) }.put o.dst (.tup []))) (hn : Goes w0 g0 K next) : o.wp P a w next Q := by
  have hmr := (hI.operand (a := a) m).1
  rw [hm] at hmr
  simp only [TRep] at hmr
  have hkr := key_rep q2 (hI.operand (a := a) k).1
  obtain ⟨hv, hvt⟩ := hI.operand (a := a) v
  obtain ⟨g', hI', hs1, ho1, hl1, hlend⟩ := lent_rest hI (args := [ρ st.tm v]) (vals := [a.eval v]) (by simp only [TReps, and_true]; exact hv) (by simp only [tagsOfs, List.append_nil]; exact hvt)
  simp only [tagsOfs, List.append_nil] at hI'
  have hlv : Rep w g'.stb g'.ob (frzV (ρ st.tm v)) (a.eval v) := hlend 0 _ _ rfl rfl
  have hkr' : Rep w g'.stb g'.ob (ρ st.tm k) (a.eval k) := hkr.mono (fun _ _ => rfl) hs1 (fun j b h => by rw [ho1]; exact h)
  have hH : (st.frzAll (tagsOf (ρ st.tm v))).H = st.H := frzAll_H _ _
  generalize hme : a.eval m = mv at hmr
  cases hmr with
  | map _ b hob =>
    have hob' : g'.ob j = some b := by rw [ho1]; exact hob
    obtain ⟨es, c, vs, he, hf, hh, hl, hr, hks⟩ := map_out (kt := kt) (H := st.H) (by have := hI'.heap; rwa [hH] at this) hob' q3
    have hK := isK_of (T := T) q2 hkr'
    have hfind := run_find (P := P) (w := w) hT hE q1 hK hl hks
    have hchk := run_check (P := P) (w := w) hT hE q1 hK false
    have hu := run_underlying (w := w) (hT.u_map hk)
    have hget := MapKept.run_getObj_map (P := P) hh
    rw [he] at h
    simp only [HB.es, HB.clock, mput_idx] at h
    simp only [mhas, mfind_idx] at h
    have fin : ∀ {vs' : List MapEntry} {es' : List (Nat × AV × AV)} {c' : Nat}, (Instr.mapUpdate t (.map (some b)) (a.eval k) (a.eval v)).run P w = .ok () { w with heap := w.heap.setIfInBounds b (.map vs'.toArray c') } → vs'.length = es'.length →
        (∀ (i : Nat) (a : Nat × AV × AV) (v : MapEntry), es'[i]? = some a → vs'[i]? = some v → v.born = a.1 ∧ Rep w g'.stb g'.ob a.2.1 v.key ∧ Rep w g'.stb g'.ob a.2.2 v.val) →
        K ({ st.frzAll (tagsOf (ρ st.tm v)) with H := st.H.set j (.map es' c') }.put o.dst (.tup [])) → o.wp P a w next Q := fun {vs' es' c'} hrun hl' hr' hK => by
      have hI2 := hI'.setMap (c' := c') hob' (by rw [hH]; exact he) hh hf hl' hr'
      rw [hH] at hI2
      refine wp_skip ?_ (hn _ _ _ _ _ (hI2.put undef_rep (by simp [tagsOf, tagsOfs]) _) hK)
      unfold execOp
      rw [ho]
      simp only [hme, Sem.run_bind, hrun, Result.andThen_ok, Sem.run_pure]
    cases hmi : midx (ρ st.tm k) es with
    | none =>
      rw [hmi] at h hfind
      simp only [Option.bind_none, Option.isSome_none, cond_false] at h hfind
      refine fin (vs' := vs ++ [{ key := a.eval k, val := a.eval v, born := c }]) ?_ (by simp [hl]) (fun i x y hx hy => ?_) h
      · simp only [Instr.mapUpdate, Sem.run_bind, hu, Result.andThen_ok, hget, hchk, hfind, MapKept.run_setObj_map _ hh]
        congr 3
        simp
      · rw [List.getElem?_append] at hx hy
        by_cases e : i < es.length
        · rw [if_pos e] at hx; rw [if_pos (by omega)] at hy; exact hr i x y hx hy
        · rw [if_neg e] at hx; rw [if_neg (by omega)] at hy; rw [hl] at hy
          cases hi : i - es.length with
          | zero => rw [hi] at hx hy; cases hx; cases hy; exact ⟨rfl, hkr', hlv⟩
          | succ n => rw [hi] at hx; simp at hx
    | some i =>
      obtain ⟨e, hei, hke⟩ := midx_get hmi
      have hil : i < vs.length := by rw [hl]; exact (List.getElem?_eq_some_iff.1 hei).1
      obtain ⟨u, hui⟩ : ∃ u, vs[i]? = some u := ⟨_, List.getElem?_eq_getElem hil⟩
      rw [hmi] at h hfind
      simp only [Option.bind_some, hei, hui, Option.map_some, Option.isSome_some, cond_true, Option.getD_some] at h hfind
      have hsame : u.key = a.eval k := (hK.inj (hks i e u hei hui) hke).symm
      refine fin (vs' := vs.set i { key := a.eval k, val := a.eval v, born := u.born }) ?_ (by simp [hl]) (fun q x y hx hy => ?_) h
      · have hstay : (Instr.keyThatStays (((vs.toArray[i]?).map (·.key)).getD (a.eval k)) (a.eval k)).run P w = .ok (a.eval k) w := by
          have : ((vs.toArray[i]?).map (·.key)).getD (a.eval k) = a.eval k := by simp [hui, hsame]
          rw [this]
          simp [Instr.keyThatStays, hK.same]
        simp only [Instr.mapUpdate, Sem.run_bind, hu, Result.andThen_ok, hget, hchk, hfind, hstay, MapKept.run_setObj_map _ hh]
        congr 3
        apply congrArg (fun x => Obj.map x c)
        apply Array.ext'
        apply List.ext_getElem?
        intro q
        rw [Array.toList_modify, List.getElem?_modify]
        simp only [List.getElem?_set]
        by_cases e' : i = q
        · subst e'
          have h3 : vs[i] = u := by rw [List.getElem?_eq_getElem hil] at hui; exact Option.some.inj hui
          simp [hil, h3]
        · simp [e']
      · rw [List.getElem?_set] at hx hy
        by_cases e' : i = q
        · subst e'
          have hil' : i < es.length := by omega
          simp only [if_true, hil', hil] at hx hy
          cases hx; cases hy
          exact ⟨(hr i e u hei hui).1, hkr', hlv⟩
        · simp only [e', if_false] at hx hy
          exact hr q x y hx hy
theorem delete_sound (hT : TabOk P T) (hE : EqOk P T) (hI : Inv w0 g0 g l w st a) {c0 : Go.Call} {kt vt j : Nat} {K : St → Prop} (ho : o.op = .call c0) (hc : c0.callee = .builtin .delete) (g2 : Nat.beq c0.args.size 2 = true) (g3 : Nat.beq c0.argTypes.size 2 = true)
    (hk : (ti T (c0.argTypes.getD 0 0)).k = .map kt vt) (hm : ρ st.tm (c0.args.getD 0 (.const (.bool false))) = .map j) (q1 : keyOkT T kt = true) (q2 : keyFits (keyT T kt) (isAggT T kt) (ρ st.tm (c0.args.getD 1 (.const (.bool false)))) = true)
    (q3 : (st.H.get j).isMapOf (keyT T kt) (isAggT T kt) = true)
    (h : K ({ st with H := st.H.set j (.map (mdel (ρ st.tm (c0.args.getD 1 (.const (.bool false)))) (st.H.get j).es) (st.H.get j).clock) }.put o.dst (.tup []))) (hn : Goes w0 g0 K next) : o.wp P a w next Q := by
  obtain ⟨m, k, hargs⟩ := array_two (Nat.eq_of_beq_eq_true g2)
  obtain ⟨t, u, htys⟩ := array_two (Nat.eq_of_beq_eq_true g3)
  rw [hargs] at hm q2 h
  rw [htys] at hk
  simp only [Array.getD_eq_getD_getElem?, List.getElem?_toArray, List.getElem?_cons_zero, List.getElem?_cons_succ, Option.getD_some] at hm q2 h hk
  have hmr := (hI.operand (a := a) m).1
  rw [hm] at hmr
  simp only [TRep] at hmr
  have hkr := key_rep q2 (hI.operand (a := a) k).1
  generalize hme : a.eval m = mv at hmr
  cases hmr with
  | map _ b hob =>
    obtain ⟨es, c, vs, he, hf, hh, hl, hr, hks⟩ := map_out (kt := kt) hI.heap hob q3
    have hK := isK_of (T := T) q2 hkr
    have hfind := run_find (P := P) (w := w) hT hE q1 hK hl hks
    have hchk := run_check (P := P) (w := w) hT hE q1 hK vs.toArray.isEmpty
    have hu := run_underlying (w := w) (hT.u_map hk)
    have hget := MapKept.run_getObj_map (P := P) hh
    rw [he] at h
    simp only [HB.es, HB.clock, mdel_idx] at h
    have fin : ∀ {vs' : List MapEntry} {es' : List (Nat × AV × AV)}, (Builtin.delete_ #[t, u] o.type #[.map (some b), a.eval k]).run P w = .ok (.tuple #[]) { w with heap := w.heap.setIfInBounds b (.map vs'.toArray c) } → vs'.length = es'.length →
        (∀ (i : Nat) (a : Nat × AV × AV) (v : MapEntry), es'[i]? = some a → vs'[i]? = some v → v.born = a.1 ∧ Rep w g.stb g.ob a.2.1 v.key ∧ Rep w g.stb g.ob a.2.2 v.val) →
        K ({ st with H := st.H.set j (.map es' c) }.put o.dst (.tup [])) → o.wp P a w next Q := fun {vs' es'} hrun hl' hr' hK => by
      have hI2 := hI.setMap (c' := c) hob he hh hf hl' hr'
      refine wp_value (v := undef) (w' := { w with heap := w.heap.setIfInBounds b (.map vs'.toArray c) }) ?_ (hn _ _ _ _ _ (hI2.put undef_rep (by simp [tagsOf, tagsOfs]) _) hK)
      unfold execOp
      rw [ho]
      simp [resolve, hc, hargs, htys, invoke, builtin, hme, hrun, undef]
    cases hmi : midx (ρ st.tm k) es with
    | none =>
      rw [hmi] at h hfind
      simp only [Option.bind_none] at h hfind
      refine fin (vs' := vs) ?_ hl hr h
      simp only [Builtin.delete_, List.getElem?_toArray, List.getElem?_cons_zero, List.getElem?_cons_succ, Sem.run_bind, hu, hget, hchk, hfind, MapKept.run_setObj_map _ hh, Result.andThen_ok, Sem.run_pure]
    | some i =>
      obtain ⟨e, hei, hke⟩ := midx_get hmi
      have hil : i < vs.length := by rw [hl]; exact (List.getElem?_eq_some_iff.1 hei).1
      obtain ⟨u', hui⟩ : ∃ u, vs[i]? = some u := ⟨_, List.getElem?_eq_getElem hil⟩
      rw [hmi] at h hfind
      simp only [Option.bind_some, hui, Option.map_some] at h hfind
      have hil' : i < es.length := by omega
      refine fin (vs' := vs.eraseIdx i) ?_ (by rw [List.length_eraseIdx_of_lt hil, List.length_eraseIdx_of_lt hil', hl]) (fun q x y hx hy => ?_) h
      · have her : vs.toArray.eraseIdxIfInBounds i = (vs.eraseIdx i).toArray := by
          unfold Array.eraseIdxIfInBounds
          simp [hil]
        simp only [Builtin.delete_, List.getElem?_toArray, List.getElem?_cons_zero, List.getElem?_cons_succ, Sem.run_bind, hu, hget, hchk, hfind, MapKept.run_setObj_map _ hh, her, Result.andThen_ok, Sem.run_pure]
      · rw [List.getElem?_eraseIdx] at hx hy
        split at hx
        · rename_i hq; rw [if_pos hq] at hy; exact hr q x y hx hy
        · rename_i hq; rw [if_neg hq] at hy; exact hr (q + 1) x y hx hy
theorem rangeMap_sound (hT : TabOk P T) (hI : Inv w0 g0 g l w st a) {t : Nat} {x : Operand} {kt vt j : Nat} {K : St → Prop} (ho : o.op = .range t x) (ht : (ti T t).k = .map kt vt) (hx : ρ st.tm x = .map j) (hm : (st.H.get j).isMap = true)
    (h : K ({ st with mem := st.mem ++ [MB.miter j kt vt (st.H.get j).clock (st.H.get j).clock []] }.put o.dst (.ptr st.mem.length 0))) (hn : Goes w0 g0 K next) : o.wp P a w next Q := by
  have hev := (hI.operand (a := a) x).1
  rw [hx] at hev
  simp only [TRep] at hev
  obtain ⟨es, c, he⟩ := isMap_eq hm
  generalize hv : a.eval x = v at hev
  cases hev with
  | map _ b hob =>
    obtain ⟨hf, vs, hh, hl, hr⟩ := hI.heap.map hob he
    rw [he] at h
    simp only [HB.clock] at h
    refine wp_value (w' := w.alloc (.mapIter (some b) c #[] c)) (v := .pointer (some ⟨w.heap.size, 0, none⟩)) ?_ (hn _ _ _ _ _ (hI.newBlock _ (MB.miter j kt vt c c []) rfl (by simp [MB.tags]) ⟨b, heap_alloc_new w _, hob, Nat.le_refl _⟩ _) h)
    unfold execOp
    rw [ho]
    refine exec_v ?_
    rw [hv]
    simp [Instr.range, run_underlying (hT.u_map ht), MapKept.run_getObj_map hh]
theorem run_nextMap {r b since stepped c : Nat} {seen : List Nat} {vs : List MapEntry} (hi : w.heap[r]? = some (.mapIter (some b) since (List.toArray seen.reverse) stepped)) (hm : w.heap[b]? = some (.map vs.toArray c)) (hold : ∀ e ∈ vs, e.born < since) (hs : since ≤ stepped) (ty : TypeId) :
    ((vs.filter fun e => !(seen.contains e.born)) = [] ∧ (Instr.next (.pointer (some ⟨r, 0, none⟩)) false ty).run P w = .ok (.tuple #[.bool false]) w) ∨
    ∃ (e : MapEntry) (w1 : World), e ∈ (vs.filter fun e => !(seen.contains e.born)) ∧ w1.heap = w.heap ∧ w1.os = w.os ∧ w1.tape = w.tape ∧ w1.output = w.output ∧
      (Instr.next (.pointer (some ⟨r, 0, none⟩)) false ty).run P w = .ok (.tuple #[.bool true, e.key, e.val]) { w1 with heap := w1.heap.setIfInBounds r (.mapIter (some b) since (List.toArray (e.born :: seen).reverse) c) } := by
  have g1 : (getObj r).run P w = .ok (.mapIter (some b) since (List.toArray seen.reverse) stepped) w := by simp [getObj, Sem.run, hi]
  have g2 : (getObj b).run P w = .ok (.map vs.toArray c) w := MapKept.run_getObj_map hm
  have hcond : (!seen.reverse.toArray.isEmpty && !vs.toArray.isEmpty && vs.toArray.all (fun x => decide (x.born ≥ stepped))) = false := by
    cases vs with
    | nil => simp
    | cons e r =>
      have := hold e (by simp)
      have hne : ¬ (e.born ≥ stepped) := by omega
      simp [hne]
  have hcon : ∀ n : Nat, seen.reverse.toArray.contains n = seen.contains n := fun n => by rw [Bool.eq_iff_iff]; simp
  have hleft : (vs.toArray.filter fun e => !(seen.reverse.toArray.contains e.born)) = (vs.filter fun e => !(seen.contains e.born)).toArray := by simp only [hcon]; simp
  generalize hL : (vs.filter fun e => !(seen.contains e.born)) = L at hleft ⊢
  have hLold : ∀ e ∈ L, e.born < since := fun e he => by rw [← hL] at he; exact hold e (List.mem_filter.1 he).1
  have ho1 : (L.toArray.filter fun x => decide (x.born < since)) = L.toArray := by
    simp only [List.filter_toArray]
    congr 1
    exact List.filter_eq_self.2 fun e he => by simpa using hLold e he
  have ho2 : (L.toArray.filter fun x => decide (x.born ≥ since)) = #[] := by
    simp only [List.filter_toArray]
    congr 1
    exact List.filter_eq_nil_iff.2 fun e he => by have := hLold e he; simp; omega
  cases L with
  | nil =>
    refine .inl ⟨rfl, ?_⟩
    unfold Instr.next
    simp only [Sem.run_bind, g1, Result.andThen_ok, g2, hcond, Bool.false_eq_true, if_false, Sem.run_pure, hleft]
    simp [choose, Sem.run, Question.forced]
  | cons e0 r0 =>
    let q := Question.mapNext (e0 :: r0).length
    obtain ⟨i, w1, hi', hch, e1, e2, e3, e4⟩ : ∃ i w1, i < (e0 :: r0).length ∧ (choose q).run P w = .ok i w1 ∧ w1.heap = w.heap ∧ w1.os = w.os ∧ w1.tape = w.tape ∧ w1.output = w.output := by
      by_cases hf : q.forced = true
      · exact ⟨0, w, by simp, by simp [choose, Sem.run, hf], rfl, rfl, rfl, rfl⟩
      · refine ⟨q.cut (w.tape w.drawn q), { w with drawn := w.drawn + 1 }, ?_, by simp [choose, Sem.run, hf], rfl, rfl, rfl, rfl⟩
        exact Nat.mod_lt _ (by simp)
    obtain ⟨e, he⟩ : ∃ e, (e0 :: r0)[i]? = some e := ⟨_, List.getElem?_eq_getElem hi'⟩
    refine .inr ⟨e, w1, List.mem_of_getElem? he, e1, e2, e3, e4, ?_⟩
    have hset : (setObj r (.mapIter (some b) since (List.toArray seen.reverse |>.push e.born) c)).run P w1 = .ok () { w1 with heap := w1.heap.setIfInBounds r (.mapIter (some b) since (List.toArray (e.born :: seen).reverse) c) } := by
      have : w1.heap[r]? = some (.mapIter (some b) since (List.toArray seen.reverse) stepped) := by rw [e1]; exact hi
      simp [setObj, Sem.run, this]
    unfold Instr.next
    simp only [Sem.run_bind, g1, Result.andThen_ok, g2, hcond, Bool.false_eq_true, if_false, Sem.run_pure, hleft, ho1, ho2]
    have hcand : ((if (e0 :: r0).toArray.isEmpty then #[none] else #[] : Array (Option MapEntry)) ++ ((e0 :: r0).toArray ++ #[]).map some) = ((e0 :: r0).map some).toArray := by simp
    rw [hcand]
    have hsz : ((e0 :: r0).map some).toArray.size = (e0 :: r0).length := by simp
    rw [hsz, hch]
    have hget : ((e0 :: r0).map some).toArray[i]? = some (some e) := by rw [List.getElem?_toArray, List.getElem?_map, he]; rfl
    simp only [Result.andThen_ok, hget, Sem.run_bind, hset, Sem.run_pure]
theorem nextMap_sound (hI : Inv w0 g0 g l w st a) {x : Operand} {j m since stepped kt vt : Nat} {seen : List Nat} {K : St → Prop} (ho : o.op = .next x false) (hx : ρ st.tm x = .ptr j 0) (hm : st.mem.getD j .dead = .miter m kt vt since stepped seen)
    (q1 : (st.H.get m).isMap = true) (q2 : Nat.ble since (st.H.get m).clock = true) (q3 : ((st.H.get m).es.all fun e => Nat.blt e.1 since) = true)
    (h1 : mleft seen (st.H.get m).es = [] → K (st.put o.dst (.tup [.bool false])))
    (h2 : ∀ e, e ∈ mleft seen (st.H.get m).es → K ({ st with mem := st.mem.set j (.miter m kt vt since (st.H.get m).clock (e.1 :: seen)) }.put o.dst (.tup [.bool true, .any, .any])))
    (hn : Goes w0 g0 K next) : o.wp P a w next Q := by
  have hev := (hI.operand (a := a) x).1
  rw [hx] at hev
  simp only [TRep] at hev
  obtain ⟨hj, hev⟩ := hev
  have hjm : st.mem[j]? = some (.miter m kt vt since stepped seen) := by rw [← hm, List.getD_eq_getElem?_getD, List.getElem?_eq_getElem hj]; rfl
  obtain ⟨b, hb, hob, hs⟩ := hI.mem j _ hjm
  obtain ⟨es, c, he⟩ := isMap_eq q1
  obtain ⟨hf, vs, hh, hl, hr⟩ := hI.heap.map hob he
  rw [he] at h1 h2 q2 q3
  simp only [HB.es, HB.clock, List.all_eq_true] at h1 h2 q2 q3
  have hborn : ∀ (i : Nat) (v : MapEntry), vs[i]? = some v → ∃ p, es[i]? = some p ∧ v.born = p.1 ∧ Rep w g.stb g.ob p.2.1 v.key ∧ Rep w g.stb g.ob p.2.2 v.val := fun i v hv => by
    have hi : i < es.length := by rw [← hl]; exact (List.getElem?_eq_some_iff.1 hv).1
    exact ⟨_, List.getElem?_eq_getElem hi, hr i _ v (List.getElem?_eq_getElem hi) hv⟩
  have hold : ∀ e ∈ vs, e.born < since := fun e he' => by
    obtain ⟨i, hi⟩ := List.mem_iff_getElem?.1 he'
    obtain ⟨p, hp, hpb, _⟩ := hborn i e hi
    have := Nat.le_of_ble_eq_true (q3 p (List.mem_of_getElem? hp))
    omega
  rcases run_nextMap (P := P) hb hh hold hs o.type with ⟨hnil, hrun⟩ | ⟨e, w1, hmem, e1, e2, e3, e4, hrun⟩
  · have hml : mleft seen es = [] := by
      refine List.filter_eq_nil_iff.2 fun p hp => ?_
      obtain ⟨i, hi⟩ := List.mem_iff_getElem?.1 hp
      have hiv : i < vs.length := by rw [hl]; exact (List.getElem?_eq_some_iff.1 hi).1
      have := List.filter_eq_nil_iff.1 hnil vs[i] (List.getElem_mem hiv)
      rw [(hr i p vs[i] hi (List.getElem?_eq_getElem hiv)).1] at this
      exact this
    refine wp_value (w' := w) (v := .tuple #[.bool false]) ?_ (hn _ _ _ _ _ (hI.put ?_ (by simp [tagsOf, tagsOfs]) _) (h1 hml))
    · unfold execOp
      rw [ho]
      refine exec_v ?_
      rw [hev]
      exact hrun
    · simp only [TRep]
      exact ⟨[.bool false], rfl, by simp [TReps, TRep]⟩
  · obtain ⟨hmv, hns⟩ := List.mem_filter.1 hmem
    obtain ⟨i, hi⟩ := List.mem_iff_getElem?.1 hmv
    obtain ⟨p, hp, hpb, hrk, hrv⟩ := hborn i e hi
    have hpl : p ∈ mleft seen es := List.mem_filter.2 ⟨List.mem_of_getElem? hp, by rw [← hpb]; exact hns⟩
    have hK := h2 p hpl
    rw [← hpb] at hK
    have hne : ∀ b', b' ≠ l.loc j → (w1.heap.setIfInBounds (l.loc j) (.mapIter (some b) since (List.toArray (e.born :: seen).reverse) c))[b']? = w.heap[b']? := fun b' hb' => by rw [e1]; simp [Array.getElem?_setIfInBounds, Ne.symm hb']
    have hstb : ∀ b', g.stb b' → (w1.heap.setIfInBounds (l.loc j) (.mapIter (some b) since (List.toArray (e.born :: seen).reverse) c))[b']? = w.heap[b']? := fun b' hb' => hne b' fun e => (hI.priv j _ hjm rfl).2.2.1 (e ▸ hb')
    have hI2 := hI.setMem (w' := { w1 with heap := w1.heap.setIfInBounds (l.loc j) (.mapIter (some b) since (List.toArray (e.born :: seen).reverse) c) }) hjm rfl (mb' := .miter m kt vt since c (e.born :: seen)) rfl (by simp [MB.tags]) e2 e3 e4 (by simp [e1]) hne
      ⟨b, by have hlt := (Array.getElem?_eq_some_iff.1 hb).1; simp [e1, hlt], hob, Nat.le_of_ble_eq_true q2⟩
    refine wp_value ?_ (hn _ _ _ _ _ (hI2.put (v := .tuple #[.bool true, e.key, e.val]) ?_ (by simp [tagsOf, tagsOfs]) _) hK)
    · unfold execOp
      rw [ho]
      refine exec_v ?_
      rw [hev]
      exact hrun
    · simp only [TRep]
      refine ⟨[.bool true, e.key, e.val], rfl, ?_⟩
      simp only [TReps, TRep, and_true]
theorem entry_sound (hI : Inv w0 g0 g l w st a) {x : Operand} {j m since stepped kt vt n : Nat} {seen : List Nat} {K : St → Prop} (ho : o.op = .entry x) (hx : ρ st.tm x = .ptr j 0) (hm : st.mem.getD j .dead = .miter m kt vt since stepped (n :: seen))
    (q1 : (st.H.get m).isMap = true) (q2 : Nat.beq (st.H.get m).clock stepped = true) (q3 : (mborn n (st.H.get m).es).isSome = true)
    (h : normE T kt (mkeyAt n (st.H.get m).es) fun k => normE T vt (mvalAt n (st.H.get m).es) fun v => K (st.put o.dst (.tup [k, v]))) (hn : Goes w0 g0 K next) : o.wp P a w next Q := by
  have hev := (hI.operand (a := a) x).1
  rw [hx] at hev
  simp only [TRep] at hev
  obtain ⟨hj, hev⟩ := hev
  have hjm : st.mem[j]? = some (.miter m kt vt since stepped (n :: seen)) := by rw [← hm, List.getD_eq_getElem?_getD, List.getElem?_eq_getElem hj]; rfl
  obtain ⟨b, hb, hob, hs⟩ := hI.mem j _ hjm
  obtain ⟨es, c, he⟩ := isMap_eq q1
  obtain ⟨hf, vs, hh, hl, hr⟩ := hI.heap.map hob he
  rw [he] at h q2 q3
  simp only [HB.es, HB.clock] at h q2 q3
  have hc := Nat.eq_of_beq_eq_true q2
  subst hc
  unfold mkeyAt mvalAt at h
  have key : ∀ (es : List (Nat × AV × AV)) (vs : List MapEntry), vs.length = es.length → (∀ (i : Nat) (a : Nat × AV × AV) (v : MapEntry), es[i]? = some a → vs[i]? = some v → v.born = a.1 ∧ Rep w g.stb g.ob a.2.1 v.key ∧ Rep w g.stb g.ob a.2.2 v.val) → ∀ p, mborn n es = some p →
      ∃ v, vs.find? (fun e => e.born == n) = some v ∧ Rep w g.stb g.ob p.2.1 v.key ∧ Rep w g.stb g.ob p.2.2 v.val := by
    intro es
    induction es with
    | nil => intro vs _ _ p hp; simp [mborn] at hp
    | cons a es ih =>
      intro vs hl hr p hp
      cases vs with
      | nil => simp at hl
      | cons v vs =>
        obtain ⟨h1, h2, h3⟩ := hr 0 a v rfl rfl
        simp only [mborn, List.find?_cons] at hp ⊢
        have hbb : (v.born == n) = Nat.beq a.1 n := by rw [h1, Bool.eq_iff_iff, beq_iff_eq, Nat.beq_eq]
        rw [hbb]
        cases hcb : Nat.beq a.1 n <;> rw [hcb] at hp <;> simp only at hp ⊢
        · exact ih vs (by simpa using hl) (fun i a v ha hv => hr (i + 1) a v (by simpa using ha) (by simpa using hv)) p hp
        · cases hp
          exact ⟨v, rfl, h2, h3⟩
  obtain ⟨p, hp⟩ := Option.isSome_iff_exists.1 q3
  rw [hp] at h
  simp only at h
  obtain ⟨e, hfe, hrk, hrv⟩ := key es vs hl hr p hp
  obtain ⟨k, hk, hkr, _⟩ := normE_out h
  obtain ⟨v, hK, hvr, _⟩ := normE_out hk
  have hkr := hkr.2 _ _ _ _ hrk
  have hvr := hvr.2 _ _ _ _ hrv
  have g1 : (getObj (l.loc j)).run P w = .ok (.mapIter (some b) since (List.toArray (n :: seen).reverse) c) w := by simp [getObj, Sem.run, hb]
  have g2 : (getObj b).run P w = .ok (.map vs.toArray c) w := MapKept.run_getObj_map hh
  have hback : (List.toArray (n :: seen).reverse).back? = some n := by simp [Array.back?]
  have hfind : vs.toArray.find? (fun e => e.born == n) = some e := by simpa using hfe
  refine wp_value (w' := w) (v := .tuple #[e.key, e.val]) ?_ (hn _ _ _ _ _ (hI.put ?_ (by simp [tagsOf, tagsOfs, hkr.tags, hvr.tags]) _) hK)
  · unfold execOp
    rw [ho]
    refine exec_v ?_
    rw [hev]
    simp only [Instr.entry, Sem.run_bind, g1, Result.andThen_ok, hback, g2, bne_self_eq_false, Bool.false_eq_true, if_false, Sem.run_pure, hfind]
  · simp only [TRep]
    refine ⟨[e.key, e.val], rfl, ?_⟩
    simp only [TReps, and_true]
    exact ⟨TRep.of_rep hkr, TRep.of_rep hvr⟩
theorem storeOwn_sound (hT : TabOk P T) (hI : Inv w0 g0 g l w st a) {t : Nat} {x y : Operand} {j o' tg k : Nat} {xs : List (List AV)} {K : St → Prop} (ho : o.op = .store t x y) (hx : ρ st.tm x = .obj j o') (hy : ρ st.tm y = .sl (tg + 1) k xs)
    (q1 : (st.H.get j).isCells = true) (q2 : Nat.beq (ti T t).size 1 = true) (q3 : Nat.blt o' (st.H.get j).cs.length = true)
    (h1 : ∀ m, xs.length ≤ m → (xs.length ≤ 140737488355328 → m ≤ 9223372036854775807) → K ({ st.mapS (killF (tg + 1)) with H := (st.H.push (.rows k (pad k m xs))).set j (.cells ((st.H.get j).cs.set o' (.hs st.H.next 0 xs.length m k))) }.put o.dst (.tup [])))
    (h2 : xs = [] → K ({ st.mapS (killF (tg + 1)) with H := st.H.set j (.cells ((st.H.get j).cs.set o' .nilsl)) }.put o.dst (.tup []))) (hn : Goes w0 g0 K next) : o.wp P a w next Q := by
  obtain ⟨cs, hcs⟩ := isCells_eq q1
  obtain ⟨hp, _⟩ := hI.operand (a := a) x
  obtain ⟨hyr, hyt⟩ := hI.operand (a := a) y
  rw [hx] at hp
  rw [hy] at hyr hyt
  simp only [TRep] at hp hyr
  obtain ⟨hyv, hyx, hyk⟩ := hyr
  have hin : tg + 1 ∈ st.tags := hyt _ (by simp [tagsOf, Nat.beq])
  have hsz : (ti T t).size = 1 := Nat.eq_of_beq_eq_true q2
  rw [hcs] at h1 h2 q3
  simp only [HB.cs] at h1 h2 q3
  have hlt : o' < cs.length := Nat.le_of_ble_eq_true q3
  generalize hv : a.eval x = v at hp
  cases hp with
  | obj _ b _ hob =>
    have hk1 := hI.kill (tg + 1)
    have hnt : tg + 1 ∉ (st.mapS (killF (tg + 1))).tags := fun hh => (tags_mapS (killF_tags (tg + 1)) st _ hh).2 rfl
    have hone : ∀ v : Value, (∃ A n c, v = .slice A n c) → v.cells = #[v] ∧ v.oneCell' = true := fun v h => by obtain ⟨A, n, c, rfl⟩ := h; exact ⟨rfl, rfl⟩
    have core : ∀ {g' : Gs} {H' : Heap} {c : AV}, Inv w0 g0 g' l w { st.mapS (killF (tg + 1)) with H := H' } a → g'.ob j = some b → H'.get j = .cells cs → Rep w g'.stb g'.ob c (a.eval y) → (∃ A n c, a.eval y = .slice A n c) →
        K ({ st.mapS (killF (tg + 1)) with H := H'.set j (.cells (cs.set o' c)) }.put o.dst (.tup [])) → o.wp P a w next Q := fun {g' H' c} hI' hob' hj' hrep hsl hK => by
      obtain ⟨hf, vs, e, hh, hlv, h1v, hrs⟩ := hI'.heap.cells hob' hj'
      obtain ⟨c1, c2⟩ := hone _ hsl
      have hst := run_storeCells_at P b o' e [a.eval y] 0 vs.toArray w hh (by simp; omega) (by simpa using c2)
      simp only [Nat.add_zero] at hst
      have hszr := hT.size_pos (P := P) (t := t) (by omega) w
      have hrun : (execOp a.eval o).run P w = .ok .skip (w.setRow b (laid vs o' [a.eval y]).toArray) := by
        unfold execOp
        rw [ho]
        simp [Instr.storeAt, Instr.sureAddr, hv, storeVar, hszr, hsz, c1, hst, laid]
      have hst' : ∀ q, g'.stb q → (w.setRow b (laid vs o' [a.eval y]).toArray).heap[q]? = w.heap[q]? := fun q hq => setRow_other _ _ _ _ fun e => (hI'.stbLt q hq).2 (e ▸ hf)
      have hll : o' + [a.eval y].length ≤ vs.length := by simp; omega
      have hI2 := hI'.setHeap (w' := w.setRow b (laid vs o' [a.eval y]).toArray) hob' (by rw [hj']; simp) rfl rfl rfl (by simp) (fun q hq => setRow_other _ _ _ _ hq) (x := .cells (cs.set o' c)) (by simp)
        ⟨_, e, setRow_heap _ _ _ _ _ _ hh, by rw [laid_length hll, List.length_set]; exact hlv, fun u hu => (laid_mem hu).elim (h1v u) (fun hu => by simp only [List.mem_singleton] at hu; subst hu; exact c2), fun i q v hq hv => by
          rw [laid_get hll] at hv
          rw [List.getElem?_set] at hq
          by_cases e' : o' = i
          · subst e'
            simp only [if_true, hlt] at hq
            rw [if_pos ⟨Nat.le_refl _, by simp⟩] at hv
            simp at hv
            cases hq
            subst hv
            exact hrep.mono hst' (fun _ h => h) (fun _ _ h => h)
          · simp only [e', if_false] at hq
            rw [if_neg (by simp; omega)] at hv
            exact (hrs i q v hq hv).mono hst' (fun _ h => h) (fun _ _ h => h)⟩
      exact wp_skip hrun (hn _ _ _ _ _ (hI2.put undef_rep (by simp [tagsOf, tagsOfs]) _) hK)
    have hlj : j < st.H.next := hI.heap.lt j b hob
    rcases own_cases hI hin with ⟨hn1, hn2⟩ | ⟨q, c, hq⟩
    · have hxs : xs = [] := by rw [hyx]; exact hn2
      refine core hk1 hob hcs (c := .nilsl) ?_ ⟨none, 0, 0, by rw [hyv]; exact hn1⟩ (h2 hxs)
      rw [hyv, hn1]
      exact .nilsl
    · rw [← hyx] at hq
      obtain ⟨p1, p2, p3, p4, p5, p6, p7, p8⟩ := promote hI hin hq hyk.symm hyx.symm
      have hI' : Inv w0 g0 (g.push st.H.next q) l w { st.mapS (killF (tg + 1)) with H := st.H.push (.rows k (pad k c xs)) } a := by
        have hpriv := hI.ownPriv _ hin q (by rw [hq]; rfl)
        have hlen : (st.mapS (killF (tg + 1))).mem.length = st.mem.length := by simp [St.mapS]
        refine ⟨hk1.defers, ?_, fun i mb hi => ?_, fun t ht => ?_, fun i mb hi hm => ?_, hk1.inj, fun t ht b' hb' => ?_, hk1.ownInj, p7, ?_, p8⟩
        · exact (TReps.mono (g := g) (g' := g.push st.H.next q) (fun _ _ => rfl) (fun _ h => h) (push_ob hI.heap) (fun _ _ => rfl) (Nat.le_refl _) _ _ (fun _ _ => ⟨rfl, rfl, rfl⟩) hk1.tm)
        · exact BRep.mono (g := g) (g' := g.push st.H.next q) (hk1.mem i mb hi) (fun _ => rfl) (fun _ _ => ⟨rfl, rfl, rfl⟩) (fun _ _ => rfl) (Nat.le_refl _) (fun _ _ => rfl) (fun _ h => h) (push_ob hI.heap)
        · exact OwnT.mono (g := g) (g' := g.push st.H.next q) (hk1.own t ht) ⟨rfl, rfl, rfl⟩ (fun _ _ => rfl) (fun _ _ => rfl) (fun _ h => h) (push_ob hI.heap)
        · obtain ⟨r1, r2, r3, r4⟩ := hk1.priv i mb hi hm
          refine ⟨r1, r2, r3, fun hh => ?_⟩
          rcases hh with hh | hh
          · exact r4 hh
          · exact hpriv.2.2 i (by have := (List.getElem?_eq_some_iff.1 hi).1; rwa [hlen] at this) hh
        · obtain ⟨r1, r2, r3⟩ := hk1.ownPriv t ht b' hb'
          refine ⟨r1, fun hh => ?_, r3⟩
          rcases hh with hh | hh
          · exact r2 hh
          · have h3 := tags_mapS (killF_tags (tg + 1)) st t ht
            exact h3.2 (hI.ownInj t h3.1 _ hin b' hb' (by rw [hq, hh]; rfl))
        · exact ⟨hI.ext.os, hI.ext.tape, hI.ext.output, hI.ext.size, hI.ext.keep, hI.ext.stb, hI.ext.stbNew, fun i b' hb' => push_ob hI.heap i b' (hI.ext.ob i b' hb'), fun b' hb' => by
            rcases hb' with hb' | rfl
            · exact hI.ext.footNew b' hb'
            · exact .inr p1⟩
      have hne : j ≠ st.H.next := by omega
      refine core hI' (push_ob hI.heap j b hob) (by rw [push_get_ne _ _ hne]; exact hcs) (c := .hs st.H.next 0 xs.length c k) ?_ ⟨some ⟨q, 0, none⟩, xs.length, c, by rw [hyv]; exact hq⟩ (h1 c p4 fun _ => p5)
      rw [hyv, hq]
      exact .hs st.H.next q 0 xs.length c k 0 (by simp [Gs.push]) p4 p5 (.inr (by simp))
def DispOk (P : Program) (E : Env) : Prop := ∀ name, ∀ p ∈ E.disp name, ∃ (i : TypeInfo) (m : Method) (d : TypeDesc), P.info? p.1 = some i ∧ P.underlying p.1 = some d ∧ (∀ e, d ≠ .pointer e) ∧ i.methods.find? (·.name == name) = some m ∧ m.path = #[] ∧ m.func = some (p.2, false)
theorem run_method {E : Env} (hD : DispOk P E) {name : String} {p : Nat × Nat} (hp : p ∈ E.disp name) (v : Value) (n : Nat) (w : World) : (method (n + 1) p.1 v name).run P w = .ok (p.2, v) w := by
  obtain ⟨i, m, d, h1, h2, h3, h4, h5, h6⟩ := hD name p hp
  unfold method
  simp only [Sem.run_bind, typeInfo, run_program, Result.andThen_ok, h1, Sem.run_pure, h4, h5, h6, follow, receiverAt, run_underlying h2]
  cases d <;> first | exact absurd rfl (h3 _) | simp [Place.get]
theorem run_invokeMethod {t f n : Nat} {u : Value} {name : String} {ys : Array Value} {X : Next} (hn : P.types.size + Made.depth = n + 1) (h4 : (method (n + 1) t u name).run P w = .ok (f, u) w) (h3 : (callFunc f (#[u] ++ ys)).run P w = .ok X w) :
    (invoke (.fn (.method name) #[]) (#[.iface t u] ++ ys)).run P w = .ok X w := by
  have hz : (#[Value.iface t u] ++ ys)[0]? = some (Value.iface t u) := by rw [← Array.getElem?_toList]; simp
  have he : (#[Value.iface t u] ++ ys).extract 1 (#[Value.iface t u] ++ ys).size = ys := by
    apply Array.ext'
    simp
  unfold invoke
  simp only [hz, he, callMethod, Sem.run_bind, run_program, Result.andThen_ok, hn, h4, h3]
end
end Go.Proofs.YtgmkkjmdflhbnaaDoor.Ab
end
section
namespace Go.Proofs.YtgmkkjmdflhbnaaDoor.Ab
open Go
def ApartOk (P : Program) (E : Env) : Prop :=
  ∀ g, E.apart g = true → ∃ fn tS tR e size, P.funcs[g]? = some fn ∧ (fn.name == "runtime.NumGoroutine") = false ∧ fn.body.isNone = true ∧ Extern.findNext fn = none ∧ Extern.find fn = some (Extern.SlicesOverlaps.overlaps #[tS, tS] #[tR]) ∧
    P.underlying tS = some (.slice e) ∧ ∀ w, (Go.sizeOf e).run P w = .ok size w
theorem run_overlaps_apart' {P : Program} (w : World) (tS tR e : TypeId) (ht : P.underlying tS = some (.slice e)) (size : Nat) (hz : ∀ w, (Go.sizeOf e).run P w = .ok size w)
    (a b : Addr) (la ca lb cb : Nat) (hne : a.block ≠ b.block) (tA tB : TypeId) (kA kB : Nat)
    (hsa : w.shape? a.block = some (tA, kA)) (hsb : w.shape? b.block = some (tB, kB)) (hkA : kA ≠ 0)
    (hfb : w.frozen? b = false) (hfe : w.frozen? { block := b.block, off := kB } = false) :
    (Extern.SlicesOverlaps.overlaps #[tS, tS] #[tR] #[.slice (some a) la ca, .slice (some b) lb cb]).run P w = .ok (.bool false) w := by
  have hnb : (a.block != b.block) = true := by simpa using hne
  have hnb' : (a.block == b.block) = false := by simpa using hne
  change Sem.run P (α := Value) (do
    let some t := (#[tS, tS] : Array TypeId)[0]? | stuck "slices.overlaps: no parameter types"
    let .slice elem ← underlying t | stuck "slices.overlaps: slice type expected"
    let size ← sizeOf elem
    match (some a : Option Addr), (some b : Option Addr) with
    | some a, some b =>
      if la = 0 ∨ lb = 0 ∨ size = 0 then pure (Value.bool false)
      else if a.block != b.block && (← frozen a) && (← frozen b) then unsupported .addressObserved
      else do
        if a.block != b.block then do
          noView a; noView b
          if ← mayBeOne a b then return Value.bool ((← choose (.extern "sameAddr.stringBytes" 2)) == 1)
        pure (Value.bool (a.block == b.block && a.off < b.off + lb * size && b.off < a.off + la * size))
    | _, _ => pure (Value.bool false)) w = _
  by_cases h0 : la = 0 ∨ lb = 0 ∨ size = 0
  · simp [run_underlying ht, hz, h0]
  · cases kA with
    | zero => exact absurd rfl hkA
    | succ kA =>
      cases h1 : w.frozen? a <;> cases h2 : w.frozen? { block := a.block, off := kA + 1 } <;>
        simp [run_underlying ht, hz, h0, hnb, hnb', frozen, noView, viewAt, mayBeOne, stringish, shape, Sem.run, hsa, hsb, hfb, hfe, h1, h2]
theorem run_overlaps_none {P : Program} (w : World) (tS tR e : TypeId) (ht : P.underlying tS = some (.slice e)) (size : Nat) (hz : ∀ w, (Go.sizeOf e).run P w = .ok size w) (A B : Option Addr) (la ca lb cb : Nat) (h : A = none ∨ B = none ∨ la = 0 ∨ lb = 0) :
    (Extern.SlicesOverlaps.overlaps #[tS, tS] #[tR] #[.slice A la ca, .slice B lb cb]).run P w = .ok (.bool false) w := by
  change Sem.run P (α := Value) (do
    let some t := (#[tS, tS] : Array TypeId)[0]? | stuck "slices.overlaps: no parameter types"
    let .slice elem ← underlying t | stuck "slices.overlaps: slice type expected"
    let size ← sizeOf elem
    match (A : Option Addr), (B : Option Addr) with
    | some a, some b =>
      if la = 0 ∨ lb = 0 ∨ size = 0 then pure (Value.bool false)
      else if a.block != b.block && (← frozen a) && (← frozen b) then unsupported .addressObserved
      else do
        if a.block != b.block then do
          noView a; noView b
          if ← mayBeOne a b then return Value.bool ((← choose (.extern "sameAddr.stringBytes" 2)) == 1)
        pure (Value.bool (a.block == b.block && a.off < b.off + lb * size && b.off < a.off + la * size))
    | _, _ => pure (Value.bool false)) w = _
  cases A with
  | none => simp [run_underlying ht, hz]
  | some a =>
    cases B with
    | none => simp [run_underlying ht, hz]
    | some b =>
      have h0 : la = 0 ∨ lb = 0 ∨ size = 0 := by rcases h with h | h | h | h <;> simp_all
      simp [run_underlying ht, hz, h0]
section
variable {P : Program} {T : List TI} {w0 : World} {g0 g : Gs} {l : Gl} {w w' : World} {st : St} {a : Act}
theorem sl_block (hI : Inv w0 g0 g l w st a) {t k : Nat} {xs : List (List AV)} {v : Value} (hr : TRep g l w st.mem.length (.sl t (k + 1) xs) v) (ht : ∀ u ∈ tagsOf (.sl t (k + 1) xs), u ∈ st.tags) :
    ∃ A n c, v = .slice A n c ∧ (A = none ∨ n = 0 ∨ ∃ b o u, A = some ⟨b, o, none⟩ ∧ ¬ g.foot b ∧ w.cell? ⟨b, o, none⟩ = some u) := by
  cases t with
  | zero =>
    simp only [TRep] at hr
    cases hr with
    | sl0 A c k => exact ⟨A, 0, c, rfl, .inr (.inl rfl)⟩
    | sl b o c k xs vs hb hn hm hk hc h1 hr =>
      refine ⟨_, _, _, rfl, ?_⟩
      rcases Nat.eq_zero_or_pos xs.length with h0 | h0
      · exact .inr (.inl h0)
      · exact .inr (.inr ⟨b, o, vs 0 0, rfl, (hI.stbLt b hb).2, by have := hc 0 0 h0 (by omega); simpa using this⟩)
  | succ t =>
    simp only [TRep] at hr
    obtain ⟨rfl, hx, hk⟩ := hr
    have hin : t + 1 ∈ st.tags := ht _ (by simp [tagsOf, Nat.beq])
    rcases (hI.own _ hin).parts with ⟨h1, h2⟩ | ⟨b, c, vs, hv, hb, hlt, hn, hm, hc, h1, hr⟩
    · exact ⟨none, 0, 0, h1, .inl rfl⟩
    · refine ⟨_, _, _, hv, ?_⟩
      rcases Nat.eq_zero_or_pos (l.xc (t + 1)).length with h0 | h0
      · exact .inr (.inl h0)
      · exact .inr (.inr ⟨b, 0, vs 0 0, rfl, (hI.ownPriv _ hin b (by rw [hv]; rfl)).2.1, by have := hc 0 0 h0 (by omega); simpa using this⟩)
theorem hs_block (_ : Inv w0 g0 g l w st a) {j o n c k : Nat} {v : Value} (hr : TRep g l w st.mem.length (.hs j o n c k) v) : ∃ b q, v = .slice (some ⟨b, q, none⟩) n c ∧ g.ob j = some b := by
  simp only [TRep] at hr
  cases hr with
  | hs _ b _ _ _ _ q ho _ _ _ => exact ⟨b, q, rfl, ho⟩
theorem cell_shape {b o : Nat} {u : Value} (h : w.cell? ⟨b, o, none⟩ = some u) : ∃ t k, w.shape? b = some (t, k) ∧ k ≠ 0 := by
  unfold World.cell? at h
  unfold World.shape?
  simp only at h
  split at h
  · rename_i c e fr hb
    refine ⟨e, c.size, by simp [hb], fun h0 => ?_⟩
    simp only [Option.isSome_none, Bool.false_eq_true, if_false] at h
    rw [Array.getElem?_eq_none (by omega)] at h
    cases h
  · cases h
theorem apart_run {E : Env} (hA : ApartOk P E) (hI : Inv w0 g0 g l w st a) {f : Nat} (hf : E.apart f = true) {x y : AV} {vx vy : Value} (hx : TRep g l w st.mem.length x vx) (hxt : ∀ u ∈ tagsOf x, u ∈ st.tags) (hy : TRep g l w st.mem.length y vy) (hyt : ∀ u ∈ tagsOf y, u ∈ st.tags)
    {K : Bool → Prop} (h : apartK st.H x y K) : K false ∧ (callFunc f #[vx, vy]).run P w = .ok (Next.value (.bool false)) w := by
  obtain ⟨fn, tS, tR, e, size, h1, h2, h3, h4, h5, h6, h7⟩ := hA f hf
  rw [run_callFunc_extern h1 h2 h3 h4 h5]
  have key : K false → (Extern.SlicesOverlaps.overlaps #[tS, tS] #[tR] #[vx, vy]).run P w = .ok (.bool false) w → K false ∧ ((Extern.SlicesOverlaps.overlaps #[tS, tS] #[tR] #[vx, vy]).run P w).andThen (fun v w' => .ok (Next.value v) w') = .ok (Next.value (.bool false)) w := by
    intro hb hr
    rw [hr]
    exact ⟨hb, rfl⟩
  have far : ∀ {b1 o1 n1 c1 b2 o2 n2 c2 j1 : Nat} {u : Value}, g.ob j1 = some b1 → (∃ k xs, st.H.get j1 = .rows k xs) → ¬ g.foot b2 → w.cell? ⟨b2, o2, none⟩ = some u →
      (Extern.SlicesOverlaps.overlaps #[tS, tS] #[tR] #[.slice (some ⟨b1, o1, none⟩) n1 c1, .slice (some ⟨b2, o2, none⟩) n2 c2]).run P w = .ok (.bool false) w ∧ (Extern.SlicesOverlaps.overlaps #[tS, tS] #[tR] #[.slice (some ⟨b2, o2, none⟩) n2 c2, .slice (some ⟨b1, o1, none⟩) n1 c1]).run P w = .ok (.bool false) w := by
    intro b1 o1 n1 c1 b2 o2 n2 c2 j1 u ho hd hnf hc
    obtain ⟨k0, xs0, hh⟩ := hd
    obtain ⟨b', q1, q2, q3, q4⟩ := hI.heap.live j1 (by rw [hh]; simp)
    rw [ho] at q1
    cases q1
    have hne : b1 ≠ b2 := fun e => hnf (e ▸ q2)
    obtain ⟨vs, e1, hb1⟩ : ∃ vs e1, w.heap[b1]? = some (.cells vs e1 (0, 0)) := by
      rw [hh] at q4; obtain ⟨vs, e, h, _⟩ := q4; exact ⟨_, e, h⟩
    have hs1 : w.shape? b1 = some (e1, vs.size) := by simp [World.shape?, hb1]
    have hf1 : ∀ o, w.frozen? ⟨b1, o, none⟩ = false := fun o => by simp [World.frozen?, hb1]
    obtain ⟨t2, k2, hs2, hk2⟩ := cell_shape hc
    exact ⟨Lib.run_overlaps_apart w tS tR e h6 size h7 ⟨b1, o1, none⟩ ⟨b2, o2, none⟩ n1 c1 n2 c2 hne e1 t2 vs.size k2 hs1 hs2 hk2 (hf1 _) (hf1 _),
      run_overlaps_apart' w tS tR e h6 size h7 ⟨b2, o2, none⟩ ⟨b1, o1, none⟩ n2 c2 n1 c1 (Ne.symm hne) t2 e1 k2 vs.size hs2 hs1 hk2 (hf1 _) (hf1 _)⟩
  have live : ∀ {j k : Nat}, G ((st.H.get j).isRows k) (K false) → K false ∧ (∃ k xs, st.H.get j = .rows k xs) := fun {j k} h => by
    obtain ⟨hh, h⟩ := G_out h
    obtain ⟨xs, hxs⟩ := isRows_eq hh
    exact ⟨h, _, xs, hxs⟩
  unfold apartK at h
  split at h <;> (try (exact h.elim))
  · refine key h ?_
    simp only [TRep] at hx hy
    subst hx hy
    exact run_overlaps_none w tS tR e h6 size h7 _ _ _ _ _ _ (.inl rfl)
  · refine key h ?_
    obtain ⟨_, _, rfl, _⟩ := hs_block hI hy
    simp only [TRep] at hx
    subst hx
    exact run_overlaps_none w tS tR e h6 size h7 _ _ _ _ _ _ (.inl rfl)
  · refine key h ?_
    obtain ⟨_, _, _, rfl, _⟩ := sl_block hI hy hyt
    simp only [TRep] at hx
    subst hx
    exact run_overlaps_none w tS tR e h6 size h7 _ _ _ _ _ _ (.inl rfl)
  · refine key h ?_
    obtain ⟨_, _, rfl, _⟩ := hs_block hI hx
    simp only [TRep] at hy
    subst hy
    exact run_overlaps_none w tS tR e h6 size h7 _ _ _ _ _ _ (.inr (.inl rfl))
  · refine key h ?_
    obtain ⟨_, _, _, rfl, _⟩ := sl_block hI hx hxt
    simp only [TRep] at hy
    subst hy
    exact run_overlaps_none w tS tR e h6 size h7 _ _ _ _ _ _ (.inr (.inl rfl))
  · obtain ⟨h, hd⟩ := live h
    refine key h ?_
    obtain ⟨b1, o1, rfl, ho⟩ := hs_block hI hx
    obtain ⟨A, n, c, rfl, hA⟩ := sl_block hI hy hyt
    rcases hA with rfl | rfl | ⟨b2, o2, u, rfl, hnf, hc⟩
    · exact run_overlaps_none w tS tR e h6 size h7 _ _ _ _ _ _ (.inr (.inl rfl))
    · exact run_overlaps_none w tS tR e h6 size h7 _ _ _ _ _ _ (.inr (.inr (.inr rfl)))
    · exact (far ho hd hnf hc).1
  · obtain ⟨h, hd⟩ := live h
    refine key h ?_
    obtain ⟨b1, o1, rfl, ho⟩ := hs_block hI hy
    obtain ⟨A, n, c, rfl, hA⟩ := sl_block hI hx hxt
    rcases hA with rfl | rfl | ⟨b2, o2, u, rfl, hnf, hc⟩
    · exact run_overlaps_none w tS tR e h6 size h7 _ _ _ _ _ _ (.inl rfl)
    · exact run_overlaps_none w tS tR e h6 size h7 _ _ _ _ _ _ (.inr (.inr (.inl rfl)))
    · exact (far ho hd hnf hc).2
end
structure LibOk (P : Program) (E : Env) : Prop where
  apart : ApartOk P E
  disp : DispOk P E
theorem dispOk_none {P : Program} {E : Env} (h : ∀ name, E.disp name = []) : DispOk P E := fun name p hp => by rw [h name] at hp; cases hp
end Go.Proofs.YtgmkkjmdflhbnaaDoor.Ab
end
section
namespace Go.Proofs.YtgmkkjmdflhbnaaDoor.Ab
open Go
abbrev Qt : Type := AV → Heap → Prop
theorem G_mono {b : Bool} {p q : Prop} (h : p → q) : G b p → G b q := by cases b <;> exact fun x => by first | exact x | exact h x
theorem cond_mono {b : Bool} {p q p' q' : Prop} (h : p → p') (h' : q → q') : cond b p q → cond b p' q' := by cases b <;> first | exact h | exact h'
def OLe (R R' : Oracle) : Prop := ∀ f args H (Q Q' : AV → Heap → Prop), (∀ v H, Q v H → Q' v H) → R f args H Q → R' f args H Q'
section
variable {α : Type}
theorem norm_mono {c : CK} {x : AV} {K K' : AV → Prop} (hK : ∀ y, K y → K' y) : norm c x K → norm c x K' := by
  cases c <;> simp only [norm] <;> first | exact G_mono (hK _) | exact cond_mono (hK _) (G_mono (hK _)) | exact id
theorem norm1_mono {c : CK} {x : AV} {K K' : AV → Prop} (hK : ∀ y, K y → K' y) : norm1 c x K → norm1 c x K' := by
  cases c <;> simp only [norm1] <;> first | exact G_mono (hK _) | exact norm_mono hK
theorem normO_mono {c : CK} {x : AV} {K K' : AV → Prop} (hK : ∀ y, K y → K' y) : normO c x K → normO c x K' := by
  cases c <;> simp only [normO] <;> first | exact cond_mono (hK _) (G_mono (hK _)) | exact norm_mono hK
theorem normM_mono {c : CK} {x : AV} {K K' : AV → Prop} (hK : ∀ y, K y → K' y) : normM c x K → normM c x K' := by
  cases c <;> simp only [normM] <;> first | exact G_mono (hK _) | exact id
theorem normL_mono {get : Nat → AV} : ∀ {cs : List CK} {o : Nat} {K K' : List AV → Prop}, (∀ y, K y → K' y) → normL get cs o K → normL get cs o K'
  | [], _, _, _, hK, h => hK _ h
  | _ :: _, _, _, _, hK, h => norm_mono (fun _ h => normL_mono (fun _ h => hK _ h) h) h
theorem normOL_mono {get : Nat → AV} : ∀ {cs : List CK} {o : Nat} {K K' : List AV → Prop}, (∀ y, K y → K' y) → normOL get cs o K → normOL get cs o K'
  | [], _, _, _, hK, h => hK _ h
  | _ :: _, _, _, _, hK, h => normO_mono (fun _ h => normOL_mono (fun _ h => hK _ h) h) h
theorem normML_mono {get : Nat → AV} : ∀ {cs : List CK} {o : Nat} {K K' : List AV → Prop}, (∀ y, K y → K' y) → normML get cs o K → normML get cs o K'
  | [], _, _, _, hK, h => hK _ h
  | _ :: _, _, _, _, hK, h => normM_mono (fun _ h => normML_mono (fun _ h => hK _ h) h) h
theorem loadAt_mono {T : List TI} {mem : List MB} {H : Heap} {t : Nat} {p : AV} {K K' : AV → Prop} (hK : ∀ y, K y → K' y) : loadAt T mem H t p K → loadAt T mem H t p K' := by
  unfold loadAt
  split
  · split
    · exact cond_mono (normML_mono fun _ => hK _) (normM_mono hK)
    · exact cond_mono (normL_mono fun _ => hK _) (norm_mono hK)
    · exact id
  · exact cond_mono (normL_mono fun _ => hK _) (norm_mono hK)
  · exact cond_mono (normL_mono fun _ => hK _) (norm_mono hK)
  · exact G_mono (cond_mono (normL_mono fun _ => hK _) (norm_mono hK))
  · exact G_mono (cond_mono (normOL_mono fun _ => hK _) (normO_mono hK))
  · exact id
theorem normE_mono {T : List TI} {t : Nat} {x : AV} {K K' : AV → Prop} (hK : ∀ y, K y → K' y) : normE T t x K → normE T t x K' := by
  unfold normE
  exact cond_mono (G_mono (normL_mono fun _ => hK _)) (norm1_mono hK)
theorem lookAV_mono {T : List TI} {t : Nat} {ok : Bool} {H : Heap} {x k : AV} {K K' : AV → Prop} (hK : ∀ y, K y → K' y) : lookAV T t ok H x k K → lookAV T t ok H x k K' := by
  unfold lookAV
  split
  · exact G_mono (G_mono (G_mono (cond_mono (normE_mono fun _ => hK _) (G_mono (hK _)))))
  · exact id
theorem partAV_mono {T : List TI} {t : Nat} {cs : List AV} {o : Nat} {K K' : AV → Prop} (hK : ∀ y, K y → K' y) : partAV T t cs o K → partAV T t cs o K' := by
  unfold partAV
  exact cond_mono (normML_mono fun _ => hK _) (normM_mono hK)
theorem eqlAV_mono {p : Bool} {z : List CK} {k : TK} {c : Bool} {x y : AV} {K K' : Bool → Prop} (hK : ∀ y, K y → K' y) : eqlAV p z k c x y K → eqlAV p z k c x y K' := by
  unfold eqlAV
  split <;> (try split) <;> first | exact hK _ | exact id | exact G_mono (hK _) | exact G_mono (G_mono (hK _))
theorem binAV_mono {p : Bool} {z : List CK} {k : TK} {c : Bool} {op : BinOp} {x y : AV} {K K' : AV → Prop} (hK : ∀ y, K y → K' y) : binAV p z k c op x y K → binAV p z k c op x y K' := by
  unfold binAV
  split <;> (try split) <;> first | exact hK _ | exact id | exact eqlAV_mono fun _ => hK _ | exact G_mono (hK _) | exact G_mono (G_mono (hK _))
theorem boundI_mono {o : Option Operand} {r : Operand → AV} {d : Int} {K K' : Int → Prop} (hK : ∀ y, K y → K' y) : boundI o r d K → boundI o r d K' := by
  unfold boundI
  split
  · exact hK _
  · split <;> first | exact hK _ | exact id
theorem light_mono {T : List TI} {op : Op} {r : Operand → AV} {mem : List MB} {H : Heap} {K K' : AV → Prop} (hK : ∀ y, K y → K' y) : light T op r mem H K → light T op r mem H K' := by
  unfold light
  split
  all_goals (repeat' split)
  all_goals first
    | exact hK _
    | exact id
    | exact loadAt_mono hK
    | exact lookAV_mono hK
    | exact binAV_mono hK
    | exact cond_mono (hK _) (hK _)
    | exact G_mono (hK _)
    | exact partAV_mono hK
    | exact G_mono (G_mono (hK _))
    | exact G_mono (G_mono (G_mono (hK _)))
    | exact G_mono (G_mono (G_mono (partAV_mono hK)))
    | exact G_mono (G_mono (G_mono (G_mono (hK _))))
    | exact boundI_mono fun _ => boundI_mono fun _ => G_mono (G_mono (G_mono (G_mono (hK _))))
    | exact boundI_mono fun _ => boundI_mono fun _ => boundI_mono fun _ => G_mono (G_mono (G_mono (G_mono (G_mono (G_mono (G_mono (hK _)))))))
    | exact boundI_mono fun _ => boundI_mono fun _ => G_mono (G_mono (G_mono (G_mono (hK _))))
    | exact boundI_mono fun _ => boundI_mono fun _ => boundI_mono fun _ => G_mono (G_mono (G_mono (G_mono (G_mono (hK _)))))
    | skip
end
section
theorem fillAV_mono {place : Nat → Option (Nat × Nat)} : ∀ {ps : List (Nat × AV)} {cs : List AV} {K K' : List AV → Prop}, (∀ y, K y → K' y) → fillAV place cs ps K → fillAV place cs ps K'
  | [], _, _, _, hK => hK _
  | (i, v) :: r, cs, K, K', hK => by
    simp only [fillAV]
    split
    · exact id
    · exact G_mono (G_mono (G_mono (fillAV_mono hK)))
theorem fillRows_mono {k : Nat} : ∀ {ps : List (Nat × AV)} {xs : List (List AV)} {K K' : List (List AV) → Prop}, (∀ y, K y → K' y) → fillRows k xs ps K → fillRows k xs ps K'
  | [], _, _, _, hK => hK _
  | (i, v) :: r, xs, K, K', hK => by
    simp only [fillRows]
    exact G_mono (G_mono (G_mono (fillRows_mono hK)))
theorem normC_mono {own : Bool} {s : Nat} {c : CK} {x : AV} {K K' : Nat → AV → Prop} (hK : ∀ s y, K s y → K' s y) : normC own s c x K → normC own s c x K' := by
  cases c <;> simp only [normC] <;> first | exact G_mono (hK _ _) | exact cond_mono (G_mono (hK _ _)) (G_mono (hK _ _)) | exact cond_mono (G_mono (hK _ _)) (hK _ _) | exact cond_mono (hK _ _) (G_mono (hK _ _))
theorem normCs_mono {own : Bool} : ∀ {cs : List CK} {s : Nat} {xs : List AV} {K K' : Nat → List AV → Prop}, (∀ s y, K s y → K' s y) → normCs own cs s xs K → normCs own cs s xs K'
  | [], _, _, _, _, hK, h => hK _ _ h
  | _ :: _, _, _, _, _, hK, h => normC_mono (fun _ _ h => normCs_mono (fun _ _ h => hK _ _ h) h) h
theorem normT_mono {T : List TI} {own : Bool} {s t : Nat} {v : AV} {K K' : Nat → AV → Prop} (hK : ∀ s y, K s y → K' s y) : normT T own s t v K → normT T own s t v K' := by
  unfold normT
  exact cond_mono (G_mono (normCs_mono fun _ _ => hK _ _)) (normC_mono hK)
theorem normTs_mono {T : List TI} {own : Bool} : ∀ {ts : List Nat} {s : Nat} {xs : List AV} {K K' : Nat → List AV → Prop}, (∀ s y, K s y → K' s y) → normTs T own ts s xs K → normTs T own ts s xs K'
  | [], _, _, _, _, hK, h => hK _ _ h
  | _ :: _, _, _, _, _, hK, h => normT_mono (fun _ _ h => normTs_mono (fun _ _ h => hK _ _ h) h) h
theorem normRes_mono {T : List TI} {own : Bool} {s t : Nat} {v : AV} {K K' : AV → Prop} (hK : ∀ y, K y → K' y) : normRes T own s t v K → normRes T own s t v K' := by
  unfold normRes
  split
  · exact G_mono (normTs_mono fun _ _ => hK _)
  · exact normT_mono fun _ => hK
theorem ioTurn_mono {R R' : Oracle} (hR : OLe R R') {f k : Nat} {xs : List (List AV)} {rest : List AV} {H : Heap} {K K' : List (List AV) → Heap → Prop} (hK : ∀ ys H, K ys H → K' ys H) (h : ioTurn R f k xs rest H K) : ioTurn R' f k xs rest H K' :=
  ⟨fun m h1 h2 => hR _ _ _ _ _ (fun _ _ ⟨e, s, ys, q1, q2, q3⟩ => ⟨e, s, ys, q1, q2, hK _ _ q3⟩) (h.1 m h1 h2), fun e => hR _ _ _ _ _ (fun _ _ ⟨e, q⟩ => ⟨e, hK _ _ q⟩) (h.2 e)⟩
theorem ioRet_mono {k : Nat} {H H' : Heap} {v : AV} {K K' : List (List AV) → Heap → Prop} (hK : ∀ ys H, K ys H → K' ys H) : ioRet k H H' v K → ioRet k H H' v K' := by
  rintro (⟨j, n, c, ys, h1, h2, h3, h4, h5, h6⟩ | ⟨t, ys, h1, h2⟩)
  · exact .inl ⟨j, n, c, ys, h1, h2, h3, h4, h5, hK _ _ h6⟩
  · exact .inr ⟨t, ys, h1, hK _ _ h2⟩
theorem ioBack_mono {R R' : Oracle} (hR : OLe R R') {f k : Nat} {xs : List (List AV)} {rest : List AV} {H : Heap} {K K' : List (List AV) → Heap → Prop} (hK : ∀ ys H, K ys H → K' ys H) (h : ioBack R f k xs rest H K) : ioBack R' f k xs rest H K' :=
  ⟨fun m h1 h2 => hR _ _ _ _ _ (fun _ _ ⟨s, q, r⟩ => ⟨s, q, ioRet_mono hK r⟩) (h.1 m h1 h2), fun e => hR _ _ _ _ _ (fun _ _ ⟨s, q⟩ => ⟨s, q.imp (ioRet_mono hK) fun ⟨e, q⟩ => ⟨e, hK _ _ q⟩⟩) (h.2 e)⟩
theorem hsK_mono {h : Option (Option Nat)} {v : AV} {K K' : AV → Prop} (hK : ∀ v, K v → K' v) : hsK h v K → hsK h v K' := by
  unfold hsK
  split <;> first | exact G_mono (hK _) | exact id
theorem callIO_mono {E : Env} {R R' : Oracle} (hR : OLe R R') {s : St} {f : Nat} {args : List AV} {type : Nat} {K K' : AV → St → Prop} (hK : ∀ v s, K v s → K' v s) : callIO E R s f args type K → callIO E R' s f args type K' := by
  unfold callIO
  split
  · exact G_mono (cond_mono (G_mono (ioTurn_mono hR fun _ _ => hK _ _)) (G_mono (ioBack_mono hR fun _ _ => hK _ _)))
  · exact cond_mono (G_mono (hR _ _ _ _ _ fun _ _ => normRes_mono fun _ => hK _ _)) (G_mono (cond_mono (hR _ _ _ _ _ fun _ _ => normRes_mono fun _ => hK _ _) (hR _ _ _ _ _ fun _ _ => hsK_mono fun _ => hK _ _)))
theorem pastR_mono {R R' : Oracle} (hR : OLe R R') : OLe (pastR R) (pastR R') := fun _ _ _ _ _ hQ h => hR _ _ _ _ _ (fun _ _ h => hQ _ _ h) h
theorem callAV_mono {E : Env} {R R' : Oracle} (hR : OLe R R') {strict : Bool} {s : St} {f : Nat} {args : List AV} {type : Nat} {K K' : AV → St → Prop} (hK : ∀ v s, K v s → K' v s) : callAV E R strict s f args type K → callAV E R' strict s f args type K' := by
  unfold callAV
  have one : ∀ {own : Bool} {n : Nat} {args : List AV} {H : Heap} {g : Heap → St}, R f args H (fun v H => normRes E.T own n type v fun v => K v (g H)) → R' f args H (fun v H => normRes E.T own n type v fun v => K' v (g H)) := hR _ _ _ _ _ fun _ _ => normRes_mono fun _ => hK _ _
  have onep : ∀ {own : Bool} {n : Nat} {args : List AV} {H : Heap} {g : Heap → St}, pastR R f args H (fun v H => normRes E.T own n type v fun v => K v (g H)) → pastR R' f args H (fun v H => normRes E.T own n type v fun v => K' v (g H)) := pastR_mono hR _ _ _ _ _ fun _ _ => normRes_mono fun _ => hK _ _
  exact cond_mono (G_mono (callIO_mono hR hK)) (cond_mono (cond_mono (G_mono (G_mono onep)) (cond_mono (G_mono (G_mono onep)) onep)) (cond_mono (G_mono (G_mono one)) one))
theorem capAll_mono : ∀ {xs : List AV} {s : St} {K K' : List AV → St → Prop}, (∀ v s, K v s → K' v s) → capAll s xs K → capAll s xs K'
  | [], _, _, _, hK => hK _ _
  | x :: r, s, K, K', hK => by
    cases x <;> simp only [capAll] <;> try exact capAll_mono fun _ _ => hK _ _
    split
    · exact capAll_mono fun _ _ => hK _ _
    · exact capAll_mono fun _ _ => hK _ _
    · exact id
theorem rowOf_mono {k : Nat} {H : Heap} {v : AV} {K K' : List (List AV) → Prop} (hK : ∀ y, K y → K' y) : rowOf k H v K → rowOf k H v K' := by
  unfold rowOf
  split <;> first | exact G_mono (hK _) | exact hK _ | exact id | exact G_mono (G_mono (G_mono (hK _)))
theorem apartK_mono {H : Heap} {x y : AV} {K K' : Bool → Prop} (hK : ∀ b, K b → K' b) : apartK H x y K → apartK H x y K' := by
  unfold apartK
  split <;> first | exact hK _ | exact G_mono (hK _) | exact id
theorem zerosOf_mono {T : List TI} {e : Nat} {c : Go.Call} {v : AV} {K K' : List (List AV) → Prop} (hK : ∀ y, K y → K' y) : zerosOf T e c v K → zerosOf T e c v K' := by
  unfold zerosOf
  split
  · split <;> first | exact G_mono (G_mono (hK _)) | exact id
  · exact id
theorem buildL_mono {T : List TI} {t n : Nat} {ps : Array (Nat × Operand)} {r : Operand → AV} {K K' : AV → Prop} (hK : ∀ v, K v → K' v) : buildL T t n ps r K → buildL T t n ps r K' := by
  unfold buildL
  split
  · exact G_mono (G_mono (fillRows_mono fun _ => hK _))
  · exact id
theorem buildO_mono {T : List TI} {t n : Nat} {ps : Array (Nat × Operand)} {r : Operand → AV} {s : St} {K K' : St → AV → Prop} (hK : ∀ s v, K s v → K' s v) : buildO T t n ps r s K → buildO T t n ps r s K' := by
  unfold buildO
  split
  · exact G_mono (G_mono (fillRows_mono fun _ => hK _ _))
  · exact id
theorem invAV_mono {E : Env} {R R' : Oracle} (hR : OLe R R') {strict : Bool} {s : St} {args : List AV} {type t : Nat} {v : AV} {K K' : AV → St → Prop} (hK : ∀ v s, K v s → K' v s) : ∀ {l : List (Nat × Nat)}, invAV E R strict s args type t v K l → invAV E R' strict s args type t v K' l
  | [] => id
  | _ :: _ => cond_mono (G_mono (normE_mono fun _ => callAV_mono hR hK)) (invAV_mono hR hK)
theorem aop_mono {E : Env} {R R' : Oracle} (hR : OLe R R') {strict : Bool} {o : Oper} {s : St} {K K' : St → Prop} (hK : ∀ s, K s → K' s) : aop E R strict o s K → aop E R' strict o s K' := by
  simp only [aop]
  split
  all_goals (repeat' split)
  all_goals first
    | exact light_mono fun _ => hK _
    | exact hK _
    | exact id
    | exact fun ⟨b, h1, h2⟩ => ⟨b, h1, hK _ h2⟩
    | exact fun h b hb => hK _ (h b hb)
    | exact capAll_mono fun _ _ => hK _
    | exact cond_mono (G_mono (apartK_mono fun _ => hK _)) (G_mono (callAV_mono hR fun _ _ => hK _))
    | exact cond_mono (hK _) (hK _)
    | exact G_mono (cond_mono (hK _) (hK _))
    | exact G_mono (G_mono (G_mono (G_mono fun h => ⟨fun m h1 h2 => hK _ (h.1 m h1 h2), fun e => hK _ (h.2 e)⟩)))
    | exact G_mono fun h => ⟨fun e => hK _ (h.1 e), fun e he => hK _ (h.2 e he)⟩
    | exact G_mono (G_mono (normE_mono fun _ => normE_mono fun _ => hK _))
    | exact G_mono (invAV_mono hR fun _ _ => hK _)
    | exact G_mono (G_mono (G_mono (cond_mono (rowOf_mono fun _ => cond_mono (G_mono (hK _)) (G_mono (G_mono fun h m h1 h2 => hK _ (h m h1 h2)))) (zerosOf_mono fun _ => cond_mono (G_mono (hK _)) (G_mono (G_mono fun h m h1 h2 => hK _ (h m h1 h2)))))))
    | (repeat' (first | refine G_mono ?_ | refine fillAV_mono fun _ => ?_ | refine fillRows_mono fun _ => ?_ | refine rowOf_mono fun _ => ?_ | refine light_mono fun _ => ?_)
       all_goals first | exact hK _ | exact id)
    | (refine cond_mono (G_mono ?_) ?_ ; (exact buildL_mono fun v => hK (s.put o.dst v)) ; (exact buildO_mono fun s v => hK (s.put o.dst v)))
    | skip
end
section
theorem astep_mono {E : Env} {R R' : Oracle} (hR : OLe R R') {strict : Bool} {ops : List Oper} {o : Oper} {s : St} {K K' : St → Prop} (hK : ∀ s, K s → K' s) : astep E R strict ops o s K → astep E R' strict ops o s K' := by
  unfold astep
  split
  · exact aop_mono hR hK
  · split
    · exact id
    · split
      · exact cond_mono (cond_mono (aop_mono hR hK) (hK _)) (cond_mono (hK _) (aop_mono hR hK))
      · exact hK _
      · exact id
theorem aops_mono {E : Env} {R R' : Oracle} (hR : OLe R R') {ops : List Oper} {strict : Nat → Bool} : ∀ {l : List Oper} {i : Nat} {s : St} {K K' : St → Prop}, (∀ s, K s → K' s) → aops E R ops strict l i s K → aops E R' ops strict l i s K'
  | [], _, _, _, _, hK, h => hK _ h
  | _ :: _, _, _, _, _, hK, h => astep_mono hR (fun _ h => aops_mono hR hK h) h
theorem conjL_mono {f g : Nat → Prop} (h : ∀ i, f i → g i) : ∀ {l : List Nat}, conjL l f → conjL l g
  | [], h' => h'
  | [i], h' => h i h'
  | i :: _ :: _, h' => ⟨h i h'.1, conjL_mono h h'.2⟩
theorem stepD_mono {E : Env} {R R' : Oracle} (hR : OLe R R') {ops : List Oper} {i : Nat} {s : St} {K K' : St → Prop} (hK : ∀ s, K s → K' s) : stepD E R ops i s K → stepD E R' ops i s K' := by
  unfold stepD
  split
  · exact astep_mono hR hK
  · exact id
theorem aopsD_mono {E : Env} {R R' : Oracle} (hR : OLe R R') {ops : List Oper} : ∀ {n : Nat} {l : List Nat} {s : St} {K K' : St → Prop}, (∀ s, K s → K' s) → aopsD E R ops n l s K → aopsD E R' ops n l s K'
  | 0, _, _, _, _, _, h => h
  | _ + 1, [], _, _, _, hK, h => hK _ h
  | n + 1, r :: rs, s, K, K', hK, h => by
    simp only [aopsD] at h ⊢
    split at h
    · exact stepD_mono hR (fun _ h => aopsD_mono hR hK h) h
    · exact conjL_mono (fun i h => stepD_mono hR (fun _ h => aopsD_mono hR hK h) h) h
theorem ALoop_mono {body body' : (Ex → St → Prop) → St → Prop} {cl : St → St} (hb : ∀ (K K' : Ex → St → Prop) s, (∀ e s, K e s → K' e s) → body K s → body' K' s) {K K' : Ex → St → Prop} (hK : ∀ e s, K e s → K' e s) {s : St} (h : ALoop body cl K s) : ALoop body' cl K' s := by
  intro I hI
  refine h I fun s hs => hI s (hb _ _ s (fun e s h => ?_) hs)
  cases e <;> first | exact h | exact hK _ _ h
theorem awp_mono {E : Env} {R R' : Oracle} (hR : OLe R R') {L : Live} : ∀ (c : Code) (i : Nat) (s : St) {K K' : Ex → St → Prop}, (∀ e s, K e s → K' e s) → awp E R L c i s K → awp E R' L c i s K'
  | .skip, _, _, _, _, hK => by simp only [awp]; exact hK _ _
  | .region _ ops draw, _, _, _, _, hK => by
    simp only [awp, joinK_eq]
    exact cond_mono (cond_mono (aops_mono hR fun _ => hK _ _) (G_mono (aopsD_mono hR fun _ => hK _ _))) (aops_mono hR fun _ => hK _ _)
  | .seq a b, i, s, K, K', hK => by
    simp only [awp]
    refine awp_mono hR a i s fun e s => ?_
    cases e <;> first | exact awp_mono hR b _ _ hK | exact hK _ _
  | .cond c a b, i, s, K, K', hK => by
    simp only [awp]
    split
    · exact cond_mono (awp_mono hR a _ _ hK) (awp_mono hR b _ _ hK)
    · exact id
  | .block id c, i, s, K, K', hK => by
    simp only [awp, joinK_eq]
    refine awp_mono hR c i s fun e s => ?_
    cases e <;> first | exact cond_mono (hK _ _) (hK _ _) | exact hK _ _
  | .loop c, i, s, K, K', hK => by
    simp only [awp]
    exact ALoop_mono (fun K K' s hK => awp_mono hR c _ s hK) hK
  | .exit id, _, _, _, _, hK => by simp only [awp]; exact hK _ _
  | .ret, _, _, _, _, hK => by simp only [awp]; exact hK _ _
  | .label _, _, _, _, _, hK => by simp only [awp]; exact hK _ _
  | .goto _, _, _, _, _, _ => by simp [awp]
  | .scope c, i, s, K, K', hK => by
    simp only [awp]
    exact awp_mono hR c i s hK
  | .rangeFunc _ _ _ _, _, _, _, _, _ => by simp [awp]
  | .refuse _, _, _, _, _, _ => by simp [awp]
theorem resAV_mono {T : List TI} {s : St} : ∀ (rs : List ResultVar) {K K' : List AV → Prop}, (∀ l, K l → K' l) → resAV T s rs K → resAV T s rs K'
  | [], _, _, hK => hK _
  | .tmp t :: r, K, K', hK => by
    simp only [resAV]
    exact resAV_mono r fun _ => hK _
  | .cell a t :: r, K, K', hK => by
    simp only [resAV]
    exact loadAt_mono fun _ => resAV_mono r fun _ => hK _
theorem finK_mono {E : Env} {f : Nat} {Q Q' : AV → Heap → Prop} (hQ : ∀ v H, Q v H → Q' v H) {e : Ex} {s : St} : finK E f Q e s → finK E f Q' e s := by
  cases e <;> simp only [finK] <;> first | exact id | exact resAV_mono _ fun _ => cond_mono (G_mono (hQ _ _)) (hQ _ _)
theorem aBody_mono {E : Env} {R R' : Oracle} (hR : OLe R R') {f : Nat} {args : List AV} {H : Heap} {Q Q' : AV → Heap → Prop} (hQ : ∀ v H, Q v H → Q' v H) : aBody E R f args H Q → aBody E R' f args H Q' := by
  unfold aBody
  split
  · exact fun ⟨Q0, h1, h2⟩ => ⟨Q0, fun v H h => hQ v H (h1 v H h), h2⟩
  · split
    · exact id
    · exact awp_mono hR _ _ _ fun _ _ => finK_mono hQ
theorem Call_mono {E : Env} : OLe (Call E) (Call E) := by
  intro f args H Q Q' hQ h R hR
  have := h (fun f args H Q => ∀ Q', (∀ v H, Q v H → Q' v H) → R f args H Q') fun f args H Q hb Q' hQ => hR f args H Q' (aBody_mono (fun f args H Q Q' hQ h => h Q' hQ) hQ hb)
  exact this Q' hQ
theorem Call_intro {E : Env} {f : Nat} {args : List AV} {H : Heap} {Q : AV → Heap → Prop} (h : aBody E (Call E) f args H Q) : Call E f args H Q := by
  intro R hR
  let R1 : Oracle := fun f args H Q => ∀ Q', (∀ v H, Q v H → Q' v H) → R f args H Q'
  have h1 : ∀ f args H Q, aBody E R1 f args H Q → R1 f args H Q := fun f args H Q hb Q' hQ => hR f args H Q' (aBody_mono (fun f args H Q Q' hQ h => h Q' hQ) hQ hb)
  refine hR f args H Q (aBody_mono (R := Call E) (fun f args H Q Q' hQ hc => ?_) (fun _ _ h => h) h)
  exact hc R1 h1 Q' hQ
def ALoopK (body : (Ex → St → Prop) → St → Prop) (cl : St → St) (K : Ex → St → Prop) : Ex → St → Prop := fun e s' => match e with | .normal => ALoop body cl K (cl s') | e => K e s'
theorem Call_told {E : Env} {f : Nat} {args : List AV} {H : Heap} {Q : AV → Heap → Prop} {R : Prop} (e : aBody E (Call E) f args H Q = R) (h : R) : Call E f args H Q := Call_intro (Eq.mpr e h)
theorem AJoin_told {K : Ex → St → Prop} {s : St} {R : Prop} (e : K .normal s = R) (h : R) : AJoin K s := ⟨Eq.mpr e h⟩
theorem ALoop_unfold' {body : (Ex → St → Prop) → St → Prop} {cl : St → St} (hb : ∀ (K K' : Ex → St → Prop) s, (∀ e s, K e s → K' e s) → body K s → body K' s) {K : Ex → St → Prop} {s : St}
    (h : body (ALoopK body cl K) s) : ALoop body cl K s := by
  intro I hI
  refine hI s (hb _ _ s (fun e s' h => ?_) h)
  cases e <;> first | exact h I hI | exact h
theorem ALoop_unfold {E : Env} {L : Live} {c : Code} {i : Nat} {cl : St → St} {K : Ex → St → Prop} {s : St}
    (h : awp E (Call E) L c i s (ALoopK (fun K s => awp E (Call E) L c i s K) cl K)) : ALoop (fun K s => awp E (Call E) L c i s K) cl K s :=
  ALoop_unfold' (fun _ _ s hK => awp_mono Call_mono c i s hK) h
theorem ALoop_told {E : Env} {L : Live} {c : Code} {i : Nat} {cl : St → St} {K : Ex → St → Prop} {s : St} {R : Prop}
    (e : (fun K s => awp E (Call E) L c i s K) (ALoopK (fun K s => awp E (Call E) L c i s K) cl K) s = R) (h : R) : ALoop (fun K s => awp E (Call E) L c i s K) cl K s :=
  ALoop_unfold (Eq.mpr e h)
end
end Go.Proofs.YtgmkkjmdflhbnaaDoor.Ab
end
section
namespace Go.Proofs.YtgmkkjmdflhbnaaDoor.Ab
open Go
def Det {α : Type} (F : (α → Prop) → Prop) : Prop := ∃ o : Option α, ∀ K, F K ↔ ∃ x, o = some x ∧ K x
section
variable {α β : Type}
theorem det_at (x : α) : Det fun K : α → Prop => K x := ⟨some x, fun K => ⟨fun h => ⟨x, rfl, h⟩, fun ⟨y, e, h⟩ => by cases e; exact h⟩⟩
theorem det_no : Det fun _ : α → Prop => False := ⟨none, fun K => ⟨False.elim, fun ⟨y, e, _⟩ => by cases e⟩⟩
theorem det_G {b : Bool} {F : (α → Prop) → Prop} (h : Det F) : Det fun K => G b (F K) := by
  cases b
  · exact det_no
  · exact h
theorem det_cond {b : Bool} {F F' : (α → Prop) → Prop} (h : Det F) (h' : Det F') : Det fun K => cond b (F K) (F' K) := by
  cases b
  · exact h'
  · exact h
theorem det_bind {F : (α → Prop) → Prop} {f : α → (β → Prop) → Prop} (h : Det F) (hf : ∀ x, Det (f x)) : Det fun K => F fun x => f x K := by
  obtain ⟨o, ho⟩ := h
  cases o with
  | none => exact ⟨none, fun K => by simp [ho]⟩
  | some x =>
    obtain ⟨o', ho'⟩ := hf x
    exact ⟨o', fun K => by simp [ho, ho']⟩
theorem det_map {F : (α → Prop) → Prop} {f : α → β} (h : Det F) : Det fun K : β → Prop => F fun x => K (f x) := det_bind (f := fun x K => K (f x)) h fun x => det_at (f x)
end
theorem norm_det {c : CK} {x : AV} : Det (norm c x) := by
  unfold norm
  split <;> first | exact det_G (det_at _) | exact det_cond (det_at _) (det_G (det_at _)) | exact det_no
theorem norm1_det {c : CK} {x : AV} : Det (norm1 c x) := by
  unfold norm1
  split <;> first | exact det_G (det_at _) | exact norm_det
theorem normO_det {c : CK} {x : AV} : Det (normO c x) := by
  unfold normO
  split <;> first | exact det_cond (det_at _) (det_G (det_at _)) | exact norm_det
theorem normM_det {c : CK} {x : AV} : Det (normM c x) := by
  unfold normM
  split <;> first | exact det_G (det_at _) | exact det_no
theorem normL_det {get : Nat → AV} : ∀ {cs : List CK} {o : Nat}, Det (normL get cs o)
  | [], _ => det_at _
  | c :: cs, o => by
    show Det fun K => norm c (get o) fun x => normL get cs (o + 1) fun r => K (x :: r)
    exact det_bind (f := fun x K => normL get cs (o + 1) fun r => K (x :: r)) norm_det fun x => det_map (f := fun r => x :: r) normL_det
theorem normOL_det {get : Nat → AV} : ∀ {cs : List CK} {o : Nat}, Det (normOL get cs o)
  | [], _ => det_at _
  | c :: cs, o => by
    show Det fun K => normO c (get o) fun x => normOL get cs (o + 1) fun r => K (x :: r)
    exact det_bind (f := fun x K => normOL get cs (o + 1) fun r => K (x :: r)) normO_det fun x => det_map (f := fun r => x :: r) normOL_det
theorem normML_det {get : Nat → AV} : ∀ {cs : List CK} {o : Nat}, Det (normML get cs o)
  | [], _ => det_at _
  | c :: cs, o => by
    show Det fun K => normM c (get o) fun x => normML get cs (o + 1) fun r => K (x :: r)
    exact det_bind (f := fun x K => normML get cs (o + 1) fun r => K (x :: r)) normM_det fun x => det_map (f := fun r => x :: r) normML_det
theorem loadAt_det {T : List TI} {mem : List MB} {H : Heap} {t : Nat} {p : AV} : Det (loadAt T mem H t p) := by
  unfold loadAt
  split
  · split
    · exact det_cond (det_map normML_det) normM_det
    · exact det_cond (det_map normL_det) norm_det
    · exact det_no
  · exact det_cond (det_map normL_det) norm_det
  · exact det_cond (det_map normL_det) norm_det
  · exact det_G (det_cond (det_map normL_det) norm_det)
  · exact det_G (det_cond (det_map normOL_det) normO_det)
  · exact det_no
theorem normE_det {T : List TI} {t : Nat} {x : AV} : Det (normE T t x) := det_cond (det_G (det_map normL_det)) norm1_det
theorem lookAV_det {T : List TI} {t : Nat} {ok : Bool} {H : Heap} {x k : AV} : Det (lookAV T t ok H x k) := by
  unfold lookAV
  split
  · exact det_G (det_G (det_G (det_cond (det_map normE_det) (det_G (det_at _)))))
  · exact det_no
theorem partAV_det {T : List TI} {t : Nat} {cs : List AV} {o : Nat} : Det (partAV T t cs o) := det_cond (det_map normML_det) normM_det
theorem eqlAV_det {p : Bool} {z : List CK} {k : TK} {c : Bool} {x y : AV} : Det (eqlAV p z k c x y) := by
  unfold eqlAV
  split <;> (try split) <;> first | exact det_at _ | exact det_no | exact det_G (det_at _) | exact det_G (det_G (det_at _)) | exact det_G (det_G det_no)
theorem binAV_det {p : Bool} {z : List CK} {k : TK} {c : Bool} {op : BinOp} {x y : AV} : Det (binAV p z k c op x y) := by
  unfold binAV
  split <;> (try split) <;> first | exact det_no | exact det_map eqlAV_det | exact det_at _ | exact det_G (det_at _) | exact det_G (det_G (det_at _))
theorem boundI_det {o : Option Operand} {r : Operand → AV} {d : Int} : Det (boundI o r d) := by
  unfold boundI
  split
  · exact det_at _
  · split <;> first | exact det_at _ | exact det_no
theorem bytesAV_one {s t : ByteArray} (h : bytesAV s = bytesAV t) : s = t := by
  have h1 : s.data.toList = t.data.toList := by
    unfold bytesAV at h
    refine (List.map_inj_right (f := fun b : UInt8 => [AV.int .u8 (b.toNat : Int)]) fun a b e => ?_).1 h
    simp only [List.cons.injEq, AV.int.injEq, and_true, true_and] at e
    exact UInt8.toNat_inj.1 (by omega)
  cases s; cases t
  congr 1
  exact Array.toList_inj.1 h1
theorem convK_det {T : List TI} {src dst : Nat} {v : AV} : Det (convK T src dst v) := by
  unfold convK
  split <;> try exact det_no
  all_goals
    split <;> first
      | exact det_no
      | exact det_at _
      | exact det_G (det_at _)
      | skip
  rename_i xs _ _ _ _
  by_cases hx : ∃ b, xs = bytesAV b
  · obtain ⟨b, rfl⟩ := hx
    exact ⟨some b |>.map AV.str, fun K => ⟨fun ⟨c, hc, h⟩ => ⟨_, rfl, by rw [bytesAV_one hc]; exact h⟩, fun ⟨y, e, h⟩ => by cases e; exact ⟨b, rfl, h⟩⟩⟩
  · exact ⟨none, fun K => ⟨fun ⟨c, hc, h⟩ => (hx ⟨c, hc⟩).elim, fun ⟨y, e, _⟩ => by cases e⟩⟩
theorem light_det {T : List TI} {op : Op} {r : Operand → AV} {mem : List MB} {H : Heap} : Det (light T op r mem H) := by
  unfold light
  split
  all_goals (repeat' split)
  all_goals first
    | exact det_no
    | exact det_at _
    | exact loadAt_det
    | exact lookAV_det
    | exact binAV_det
    | exact partAV_det
    | exact det_cond (det_at _) (det_at _)
    | exact det_G det_no
    | exact det_G (det_at _)
    | exact det_G (det_G (det_at _))
    | exact det_G (det_G (det_G (det_at _)))
    | exact det_G (det_G (det_G (det_G (det_at _))))
    | exact det_G (det_G (det_G partAV_det))
    | exact det_bind boundI_det fun _ => det_bind boundI_det fun _ => det_G (det_G (det_G (det_G (det_at _))))
    | exact det_bind boundI_det fun _ => det_bind boundI_det fun _ => det_bind boundI_det fun _ => det_G (det_G (det_G (det_G (det_G (det_at _)))))
    | exact det_bind boundI_det fun _ => det_bind boundI_det fun _ => det_bind boundI_det fun _ => det_G (det_G (det_G (det_G (det_G (det_G (det_G (det_at _)))))))
    | skip
end Go.Proofs.YtgmkkjmdflhbnaaDoor.Ab
end
section
namespace Go.Proofs.YtgmkkjmdflhbnaaDoor.Ab
open Go
def Feas (R : Oracle) : Prop := ∀ f args H Q, R f args H Q → ∃ v H', Q v H'
theorem G_feas {b : Bool} {p q : Prop} (h : p → q) : G b p → q := by cases b <;> exact fun x => by first | exact x.elim | exact h x
theorem cond_feas {b : Bool} {p q r : Prop} (h : p → r) (h' : q → r) : cond b p q → r := by cases b <;> first | exact h | exact h'
section
theorem norm_feas {c : CK} {x : AV} {K : AV → Prop} : norm c x K → ∃ y, K y := by
  cases c <;> simp only [norm] <;> first | exact G_feas fun h => ⟨_, h⟩ | exact cond_feas (fun h => ⟨_, h⟩) (G_feas fun h => ⟨_, h⟩) | exact False.elim
theorem norm1_feas {c : CK} {x : AV} {K : AV → Prop} : norm1 c x K → ∃ y, K y := by
  cases c <;> simp only [norm1] <;> first | exact G_feas (fun h => ⟨_, h⟩) | exact norm_feas
theorem normO_feas {c : CK} {x : AV} {K : AV → Prop} : normO c x K → ∃ y, K y := by
  cases c <;> simp only [normO] <;> first | exact cond_feas (fun h => ⟨_, h⟩) (G_feas fun h => ⟨_, h⟩) | exact norm_feas
theorem normM_feas {c : CK} {x : AV} {K : AV → Prop} : normM c x K → ∃ y, K y := by
  cases c <;> simp only [normM] <;> first | exact G_feas fun h => ⟨_, h⟩ | exact False.elim
theorem normL_feas {get : Nat → AV} : ∀ {cs : List CK} {o : Nat} {K : List AV → Prop}, normL get cs o K → ∃ y, K y
  | [], _, _, h => ⟨_, h⟩
  | _ :: _, _, _, h => by obtain ⟨_, h⟩ := norm_feas h; obtain ⟨_, h⟩ := normL_feas h; exact ⟨_, h⟩
theorem normOL_feas {get : Nat → AV} : ∀ {cs : List CK} {o : Nat} {K : List AV → Prop}, normOL get cs o K → ∃ y, K y
  | [], _, _, h => ⟨_, h⟩
  | _ :: _, _, _, h => by obtain ⟨_, h⟩ := normO_feas h; obtain ⟨_, h⟩ := normOL_feas h; exact ⟨_, h⟩
theorem normML_feas {get : Nat → AV} : ∀ {cs : List CK} {o : Nat} {K : List AV → Prop}, normML get cs o K → ∃ y, K y
  | [], _, _, h => ⟨_, h⟩
  | _ :: _, _, _, h => by obtain ⟨_, h⟩ := normM_feas h; obtain ⟨_, h⟩ := normML_feas h; exact ⟨_, h⟩
theorem ex_of {α β : Type} {K : β → Prop} {f : α → β} : (∃ x, K (f x)) → ∃ y, K y := fun ⟨x, h⟩ => ⟨f x, h⟩
theorem loadAt_feas {T : List TI} {mem : List MB} {H : Heap} {t : Nat} {p : AV} {K : AV → Prop} : loadAt T mem H t p K → ∃ y, K y := by
  unfold loadAt
  split
  · split
    · exact cond_feas (fun h => ex_of (normML_feas h)) normM_feas
    · exact cond_feas (fun h => ex_of (normL_feas h)) norm_feas
    · exact False.elim
  · exact cond_feas (fun h => ex_of (normL_feas h)) norm_feas
  · exact cond_feas (fun h => ex_of (normL_feas h)) norm_feas
  · exact G_feas (cond_feas (fun h => ex_of (normL_feas h)) norm_feas)
  · exact G_feas (cond_feas (fun h => ex_of (normOL_feas h)) normO_feas)
  · exact False.elim
theorem normE_feas {T : List TI} {t : Nat} {x : AV} {K : AV → Prop} : normE T t x K → ∃ y, K y := by
  unfold normE
  exact cond_feas (G_feas fun h => ex_of (normL_feas h)) norm1_feas
theorem lookAV_feas {T : List TI} {t : Nat} {ok : Bool} {H : Heap} {x k : AV} {K : AV → Prop} : lookAV T t ok H x k K → ∃ y, K y := by
  unfold lookAV
  split
  · exact G_feas (G_feas (G_feas (cond_feas (fun h => ex_of (normE_feas h)) (G_feas fun h => ⟨_, h⟩))))
  · exact False.elim
theorem partAV_feas {T : List TI} {t : Nat} {cs : List AV} {o : Nat} {K : AV → Prop} : partAV T t cs o K → ∃ y, K y := by
  unfold partAV
  exact cond_feas (fun h => ex_of (normML_feas h)) normM_feas
theorem eqlAV_feas {p : Bool} {z : List CK} {k : TK} {c : Bool} {x y : AV} {K : Bool → Prop} : eqlAV p z k c x y K → ∃ y, K y := by
  unfold eqlAV
  split <;> (try split) <;> first | exact fun h => ⟨_, h⟩ | exact False.elim | exact G_feas fun h => ⟨_, h⟩ | exact G_feas (G_feas fun h => ⟨_, h⟩) | exact G_feas (G_feas False.elim)
theorem binAV_feas {p : Bool} {z : List CK} {k : TK} {c : Bool} {op : BinOp} {x y : AV} {K : AV → Prop} : binAV p z k c op x y K → ∃ y, K y := by
  unfold binAV
  split <;> (try split) <;> first | exact False.elim | exact fun h => ex_of (eqlAV_feas h) | exact G_feas (G_feas fun h => ⟨_, h⟩) | exact G_feas fun h => ⟨_, h⟩ | exact fun h => ⟨_, h⟩
theorem boundI_feas {o : Option Operand} {r : Operand → AV} {d : Int} {K : Int → Prop} : boundI o r d K → ∃ y, K y := by
  unfold boundI
  split
  · exact fun h => ⟨_, h⟩
  · split <;> first | exact fun h => ⟨_, h⟩ | exact False.elim
theorem light_feas {T : List TI} {op : Op} {r : Operand → AV} {mem : List MB} {H : Heap} {K : AV → Prop} : light T op r mem H K → ∃ y, K y := by
  unfold light
  split
  all_goals (repeat' split)
  all_goals first
    | exact False.elim
    | exact G_feas False.elim
    | exact loadAt_feas
    | exact lookAV_feas
    | exact binAV_feas
    | exact partAV_feas
    | exact G_feas (G_feas (G_feas partAV_feas))
    | exact cond_feas (fun h => ⟨_, h⟩) (fun h => ⟨_, h⟩)
    | exact G_feas (G_feas (G_feas (G_feas fun h => ⟨_, h⟩)))
    | exact G_feas (G_feas (G_feas fun h => ⟨_, h⟩))
    | exact G_feas (G_feas fun h => ⟨_, h⟩)
    | exact G_feas fun h => ⟨_, h⟩
    | exact fun h => ⟨_, h⟩
    | exact fun h => by
        obtain ⟨_, h⟩ := boundI_feas h
        obtain ⟨_, h⟩ := boundI_feas h
        exact G_feas (G_feas (G_feas (G_feas fun h => ⟨_, h⟩))) h
    | exact fun h => by
        obtain ⟨_, h⟩ := boundI_feas h
        obtain ⟨_, h⟩ := boundI_feas h
        obtain ⟨_, h⟩ := boundI_feas h
        exact G_feas (G_feas (G_feas (G_feas (G_feas (G_feas (G_feas fun h => ⟨_, h⟩)))))) h
    | exact fun h => by
        obtain ⟨_, h⟩ := boundI_feas h
        obtain ⟨_, h⟩ := boundI_feas h
        obtain ⟨_, h⟩ := boundI_feas h
        exact G_feas (G_feas (G_feas (G_feas (G_feas fun h => ⟨_, h⟩)))) h
    | exact fun h => by
        obtain ⟨_, h⟩ := boundI_feas h
        obtain ⟨_, h⟩ := boundI_feas h
        exact G_feas (G_feas (G_feas (G_feas fun h => ⟨_, h⟩))) h
    | skip
theorem fillAV_feas {place : Nat → Option (Nat × Nat)} : ∀ {ps : List (Nat × AV)} {cs : List AV} {K : List AV → Prop}, fillAV place cs ps K → ∃ y, K y
  | [], _, _, h => ⟨_, h⟩
  | (i, v) :: r, cs, K, h => by
    revert h
    simp only [fillAV]
    split
    · exact False.elim
    · exact G_feas (G_feas (G_feas fillAV_feas))
theorem fillRows_feas {k : Nat} : ∀ {ps : List (Nat × AV)} {xs : List (List AV)} {K : List (List AV) → Prop}, fillRows k xs ps K → ∃ y, K y
  | [], _, _, h => ⟨_, h⟩
  | (i, v) :: r, xs, K, h => by
    revert h
    simp only [fillRows]
    exact G_feas (G_feas (G_feas fillRows_feas))
theorem normC_feas {own : Bool} {s : Nat} {c : CK} {x : AV} {K : Nat → AV → Prop} : normC own s c x K → ∃ s y, K s y := by
  cases c <;> simp only [normC] <;> first | exact G_feas fun h => ⟨_, _, h⟩ | exact cond_feas (G_feas fun h => ⟨_, _, h⟩) (G_feas fun h => ⟨_, _, h⟩) | exact cond_feas (G_feas fun h => ⟨_, _, h⟩) (fun h => ⟨_, _, h⟩) | exact cond_feas (fun h => ⟨_, _, h⟩) (G_feas fun h => ⟨_, _, h⟩)
theorem normCs_feas {own : Bool} : ∀ {cs : List CK} {s : Nat} {xs : List AV} {K : Nat → List AV → Prop}, normCs own cs s xs K → ∃ s y, K s y
  | [], _, _, _, h => ⟨_, _, h⟩
  | _ :: _, _, _, _, h => by obtain ⟨_, _, h⟩ := normC_feas h; obtain ⟨_, _, h⟩ := normCs_feas h; exact ⟨_, _, h⟩
theorem normT_feas {T : List TI} {own : Bool} {s t : Nat} {v : AV} {K : Nat → AV → Prop} : normT T own s t v K → ∃ s y, K s y := by
  unfold normT
  exact cond_feas (G_feas fun h => by obtain ⟨_, _, h⟩ := normCs_feas h; exact ⟨_, _, h⟩) normC_feas
theorem normTs_feas {T : List TI} {own : Bool} : ∀ {ts : List Nat} {s : Nat} {xs : List AV} {K : Nat → List AV → Prop}, normTs T own ts s xs K → ∃ s y, K s y
  | [], _, _, _, h => ⟨_, _, h⟩
  | _ :: _, _, _, _, h => by obtain ⟨_, _, h⟩ := normT_feas h; obtain ⟨_, _, h⟩ := normTs_feas h; exact ⟨_, _, h⟩
theorem normRes_feas {T : List TI} {own : Bool} {s t : Nat} {v : AV} {K : AV → Prop} : normRes T own s t v K → ∃ y, K y := by
  unfold normRes
  split
  · exact G_feas fun h => by obtain ⟨_, _, h⟩ := normTs_feas h; exact ⟨_, h⟩
  · exact fun h => by obtain ⟨_, _, h⟩ := normT_feas h; exact ⟨_, h⟩
theorem ioTurn_feas {R : Oracle} (hR : Feas R) {f k : Nat} {xs : List (List AV)} {rest : List AV} {H : Heap} {K : List (List AV) → Heap → Prop} (h : ioTurn R f k xs rest H K) : ∃ ys H, K ys H := by
  obtain ⟨v, H', _, _, ys, _, _, h⟩ := hR _ _ _ _ (h.1 xs.length (Nat.le_refl _) fun h => by omega)
  exact ⟨_, _, h⟩
theorem ioRet_feas {k : Nat} {H H' : Heap} {v : AV} {K : List (List AV) → Heap → Prop} : ioRet k H H' v K → ∃ ys H, K ys H := by
  rintro (⟨j, n, c, ys, h1, h2, h3, h4, h5, h6⟩ | ⟨t, ys, h1, h2⟩)
  · exact ⟨_, _, h6⟩
  · exact ⟨_, _, h2⟩
theorem ioBack_feas {R : Oracle} (hR : Feas R) {f k : Nat} {xs : List (List AV)} {rest : List AV} {H : Heap} {K : List (List AV) → Heap → Prop} (h : ioBack R f k xs rest H K) : ∃ ys H, K ys H := by
  obtain ⟨v, H', _, _, h⟩ := hR _ _ _ _ (h.1 xs.length (Nat.le_refl _) fun h => by omega)
  exact ioRet_feas h
theorem callAV_feas {E : Env} {R : Oracle} (hR : Feas R) {strict : Bool} {s : St} {f : Nat} {args : List AV} {type : Nat} {K : AV → St → Prop} : callAV E R strict s f args type K → ∃ v s, K v s := by
  have one : ∀ {own : Bool} {n : Nat} {args : List AV} {H : Heap} {g : Heap → St}, R f args H (fun v H => normRes E.T own n type v fun v => K v (g H)) → ∃ v s, K v s := fun h => by
    obtain ⟨v, H, h⟩ := hR _ _ _ _ h
    obtain ⟨v, h⟩ := normRes_feas h
    exact ⟨_, _, h⟩
  have onep : ∀ {own : Bool} {n : Nat} {args : List AV} {H : Heap} {g : Heap → St}, pastR R f args H (fun v H => normRes E.T own n type v fun v => K v (g H)) → ∃ v s, K v s := fun h => by
    obtain ⟨v, H, h⟩ := hR _ _ _ _ h
    obtain ⟨v, h⟩ := normRes_feas h
    exact ⟨_, _, h⟩
  have io : callIO E R s f args type K → ∃ v s, K v s := by
    unfold callIO
    split
    · exact G_feas (cond_feas (G_feas fun h => by obtain ⟨_, _, h⟩ := ioTurn_feas hR h; exact ⟨_, _, h⟩) (G_feas fun h => by obtain ⟨_, _, h⟩ := ioBack_feas hR h; exact ⟨_, _, h⟩))
    · exact cond_feas (G_feas one) (G_feas (cond_feas one fun h => by
        obtain ⟨v, H, h⟩ := hR _ _ _ _ h
        unfold hsK at h
        split at h
        · exact G_feas (fun h => ⟨_, _, h⟩) h
        · exact G_feas (fun h => ⟨_, _, h⟩) h
        · exact h.elim))
  unfold callAV
  exact cond_feas (G_feas io) (cond_feas (cond_feas (G_feas (G_feas onep)) (cond_feas (G_feas (G_feas onep)) onep)) (cond_feas (G_feas (G_feas one)) one))
theorem capAll_feas : ∀ {xs : List AV} {s : St} {K : List AV → St → Prop}, capAll s xs K → ∃ v s, K v s
  | [], _, _, h => ⟨_, _, h⟩
  | x :: r, s, K, h => by
    have go : ∀ {s : St} {y : AV}, capAll s r (fun vs s => K (y :: vs) s) → ∃ v s, K v s := fun h => by obtain ⟨_, _, h⟩ := capAll_feas h; exact ⟨_, _, h⟩
    revert h
    cases x <;> simp only [capAll] <;> try exact go
    split
    · exact go
    · exact go
    · exact False.elim
theorem rowOf_feas {k : Nat} {H : Heap} {v : AV} {K : List (List AV) → Prop} : rowOf k H v K → ∃ y, K y := by
  unfold rowOf
  split <;> first | exact G_feas fun h => ⟨_, h⟩ | exact fun h => ⟨_, h⟩ | exact False.elim | exact G_feas (G_feas (G_feas fun h => ⟨_, h⟩))
theorem apartK_feas {H : Heap} {x y : AV} {K : Bool → Prop} : apartK H x y K → ∃ b, K b := by
  unfold apartK
  split <;> first | exact fun h => ⟨_, h⟩ | exact G_feas fun h => ⟨_, h⟩ | exact False.elim
theorem zerosOf_feas {T : List TI} {e : Nat} {c : Go.Call} {v : AV} {K : List (List AV) → Prop} : zerosOf T e c v K → ∃ y, K y := by
  unfold zerosOf
  split
  · split <;> first | exact G_feas (G_feas fun h => ⟨_, h⟩) | exact False.elim
  · exact False.elim
theorem buildL_feas {T : List TI} {t n : Nat} {ps : Array (Nat × Operand)} {r : Operand → AV} {K : AV → Prop} : buildL T t n ps r K → ∃ v, K v := by
  unfold buildL
  split
  · exact G_feas (G_feas fun h => by obtain ⟨_, h⟩ := fillRows_feas h; exact ⟨_, h⟩)
  · exact False.elim
theorem buildO_feas {T : List TI} {t n : Nat} {ps : Array (Nat × Operand)} {r : Operand → AV} {s : St} {K : St → AV → Prop} : buildO T t n ps r s K → ∃ s v, K s v := by
  unfold buildO
  split
  · exact G_feas (G_feas fun h => by obtain ⟨_, h⟩ := fillRows_feas h; exact ⟨_, _, h⟩)
  · exact False.elim
theorem invAV_feas {E : Env} {R : Oracle} (hR : Feas R) {strict : Bool} {s : St} {args : List AV} {type t : Nat} {v : AV} {K : AV → St → Prop} : ∀ {l : List (Nat × Nat)}, invAV E R strict s args type t v K l → ∃ v s, K v s
  | [] => False.elim
  | _ :: _ => cond_feas (G_feas fun h => by obtain ⟨_, h⟩ := normE_feas h; exact callAV_feas hR h) (invAV_feas hR)
theorem all_feas {α : Type} {b : Bool} {l : List α} {p q : Prop} {F : α → Prop} (hp : p → q) (hF : ∀ e, F e → q) (h : G b ((l = [] → p) ∧ ∀ e, e ∈ l → F e)) : q := by
  obtain ⟨_, h1, h2⟩ := G_out h
  cases l with
  | nil => exact hp (h1 rfl)
  | cons e r => exact hF e (h2 e (by simp))
theorem aop_feas {E : Env} {R : Oracle} (hR : Feas R) {strict : Bool} {o : Oper} {s : St} {K : St → Prop} : aop E R strict o s K → ∃ s, K s := by
  have grow : ∀ {b c : Bool} {n : Nat} {f : Nat → St}, G b (G c (∀ m', n ≤ m' → (n ≤ 140737488355328 → m' ≤ 9223372036854775807) → K (f m'))) → ∃ s, K s := fun h => by
    obtain ⟨_, h⟩ := G_out h
    obtain ⟨_, h⟩ := G_out h
    exact ⟨_, h _ (Nat.le_refl _) fun h => by omega⟩
  simp only [aop]
  split
  all_goals (repeat' split)
  all_goals first
    | exact fun h => ex_of (light_feas h)
    | exact False.elim
    | exact fun h => ⟨_, h⟩
    | exact fun ⟨b, h1, h2⟩ => ⟨_, h2⟩
    | exact fun h => ⟨_, h false (by simp)⟩
    | exact cond_feas (fun h => ⟨_, h⟩) (fun h => ⟨_, h⟩)
    | exact G_feas (cond_feas (fun h => ⟨_, h⟩) (fun h => ⟨_, h⟩))
    | exact G_feas (G_feas (G_feas (G_feas fun h => ⟨_, h.1 _ (Nat.le_refl _) fun h => by omega⟩)))
    | exact all_feas (fun h => ⟨_, h⟩) fun e h => ⟨_, h⟩
    | exact G_feas (G_feas fun h => by
        obtain ⟨_, h⟩ := normE_feas h
        obtain ⟨_, h⟩ := normE_feas h
        exact ⟨_, h⟩)
    | exact G_feas fun h => by obtain ⟨_, _, h⟩ := invAV_feas hR h; exact ⟨_, h⟩
    | exact cond_feas (G_feas fun h => ex_of (buildL_feas h)) fun h => by obtain ⟨_, _, h⟩ := buildO_feas h; exact ⟨_, h⟩
    | exact fun h => by obtain ⟨_, _, h⟩ := capAll_feas h; exact ⟨_, h⟩
    | exact cond_feas (G_feas fun h => ex_of (apartK_feas h)) (G_feas fun h => by obtain ⟨_, _, h⟩ := callAV_feas hR h; exact ⟨_, h⟩)
    | exact G_feas (G_feas (G_feas (cond_feas (fun h => by obtain ⟨_, h⟩ := rowOf_feas h; exact cond_feas (G_feas fun h => ⟨_, h⟩) grow h) (fun h => by obtain ⟨_, h⟩ := zerosOf_feas h; exact cond_feas (G_feas fun h => ⟨_, h⟩) grow h))))
    | (repeat' (first | refine G_feas ?_ | refine fun h => Exists.elim (fillAV_feas h) fun _ => ?_ | refine fun h => Exists.elim (fillRows_feas h) fun _ => ?_ | refine fun h => Exists.elim (rowOf_feas h) fun _ => ?_ | refine fun h => Exists.elim (light_feas h) fun _ => ?_)
       all_goals first | exact False.elim | exact fun h => ⟨_, h⟩)
    | skip
theorem astep_feas {E : Env} {R : Oracle} (hR : Feas R) {strict : Bool} {ops : List Oper} {o : Oper} {s : St} {K : St → Prop} : astep E R strict ops o s K → ∃ s, K s := by
  unfold astep
  split
  · exact aop_feas hR
  · split
    · exact False.elim
    · split
      · exact cond_feas (cond_feas (aop_feas hR) fun h => ⟨_, h⟩) (cond_feas (fun h => ⟨_, h⟩) (aop_feas hR))
      · exact fun h => ⟨_, h⟩
      · exact False.elim
theorem aops_feas {E : Env} {R : Oracle} (hR : Feas R) {ops : List Oper} {strict : Nat → Bool} : ∀ {l : List Oper} {i : Nat} {s : St} {K : St → Prop}, aops E R ops strict l i s K → ∃ s, K s
  | [], _, _, _, h => ⟨_, h⟩
  | _ :: _, _, _, _, h => by obtain ⟨_, h⟩ := astep_feas hR h; exact aops_feas hR h
theorem stepD_feas {E : Env} {R : Oracle} (hR : Feas R) {ops : List Oper} {i : Nat} {s : St} {K : St → Prop} : stepD E R ops i s K → ∃ s, K s := by
  unfold stepD
  split
  · exact astep_feas hR
  · exact False.elim
theorem conjL_one {f : Nat → Prop} : ∀ {l : List Nat}, conjL l f → ∃ i, f i
  | [], h => h.elim
  | [i], h => ⟨i, h⟩
  | i :: _ :: _, h => ⟨i, h.1⟩
theorem aopsD_feas {E : Env} {R : Oracle} (hR : Feas R) {ops : List Oper} : ∀ {n : Nat} {l : List Nat} {s : St} {K : St → Prop}, aopsD E R ops n l s K → ∃ s, K s
  | 0, _, _, _, h => h.elim
  | _ + 1, [], _, _, h => ⟨_, h⟩
  | n + 1, r :: rs, s, K, h => by
    simp only [aopsD] at h
    split at h
    · obtain ⟨_, h⟩ := stepD_feas hR h; exact aopsD_feas hR h
    · obtain ⟨_, h⟩ := conjL_one h
      obtain ⟨_, h⟩ := stepD_feas hR h; exact aopsD_feas hR h
theorem awp_feas {E : Env} {R : Oracle} (hR : Feas R) {L : Live} : ∀ (c : Code) (i : Nat) (s : St) {K : Ex → St → Prop}, awp E R L c i s K → ∃ e s, K e s
  | .skip, _, _, _ => by simp only [awp]; exact fun h => ⟨_, _, h⟩
  | .region _ ops draw, _, _, _ => by
    simp only [awp, joinK_eq]
    exact cond_feas (cond_feas (fun h => by obtain ⟨_, h⟩ := aops_feas hR h; exact ⟨_, _, h⟩) (G_feas fun h => by obtain ⟨_, h⟩ := aopsD_feas hR h; exact ⟨_, _, h⟩)) fun h => by obtain ⟨_, h⟩ := aops_feas hR h; exact ⟨_, _, h⟩
  | .seq a b, i, s, K => by
    simp only [awp]
    intro h
    obtain ⟨e, s', h⟩ := awp_feas hR a i s h
    cases e with
    | normal => exact awp_feas hR b _ _ h
    | exit id => exact ⟨_, _, h⟩
    | ret => exact ⟨_, _, h⟩
  | .cond c a b, i, s, K => by
    simp only [awp]
    split
    · exact cond_feas (awp_feas hR a _ _) (awp_feas hR b _ _)
    · exact False.elim
  | .block id c, i, s, K => by
    simp only [awp, joinK_eq]
    intro h
    obtain ⟨e, s', h⟩ := awp_feas hR c i s h
    cases e with
    | normal => exact ⟨_, _, h⟩
    | exit id => exact cond_feas (fun h => ⟨_, _, h⟩) (fun h => ⟨_, _, h⟩) h
    | ret => exact ⟨_, _, h⟩
  | .loop c, i, s, K => by
    simp only [awp]
    intro h
    refine h (fun _ => ∃ e s, K e s) fun s hs => ?_
    obtain ⟨e, s', h⟩ := awp_feas hR c _ _ hs
    cases e with
    | normal => exact h
    | exit id => exact ⟨_, _, h⟩
    | ret => exact ⟨_, _, h⟩
  | .exit id, _, _, _ => by simp only [awp]; exact fun h => ⟨_, _, h⟩
  | .ret, _, _, _ => by simp only [awp]; exact fun h => ⟨_, _, h⟩
  | .label _, _, _, _ => by simp only [awp]; exact fun h => ⟨_, _, h⟩
  | .goto _, _, _, _ => by simp [awp]
  | .scope c, i, s, K => by
    simp only [awp]
    exact awp_feas hR c i s
  | .rangeFunc _ _ _ _, _, _, _ => by simp [awp]
  | .refuse _, _, _, _ => by simp [awp]
theorem resAV_feas {T : List TI} {s : St} : ∀ (rs : List ResultVar) {K : List AV → Prop}, resAV T s rs K → ∃ l, K l
  | [], _, h => ⟨_, h⟩
  | .tmp t :: r, K, h => by
    simp only [resAV] at h
    obtain ⟨_, h⟩ := resAV_feas r h
    exact ⟨_, h⟩
  | .cell a t :: r, K, h => by
    simp only [resAV] at h
    obtain ⟨_, h⟩ := loadAt_feas h
    obtain ⟨_, h⟩ := resAV_feas r h
    exact ⟨_, h⟩
theorem aBody_feas {E : Env} {R : Oracle} (hR : Feas R) (hL : Feas E.leaf) {f : Nat} {args : List AV} {H : Heap} {Q : AV → Heap → Prop} : aBody E R f args H Q → ∃ v H', Q v H' := by
  unfold aBody
  split
  · exact fun ⟨Q0, h1, h2⟩ => let ⟨v, H', h⟩ := hL _ _ _ _ h2; ⟨v, H', h1 _ _ h⟩
  · split
    · exact False.elim
    · intro h
      obtain ⟨e, s, h⟩ := awp_feas hR _ _ _ h
      have fin : ∀ {rs : List ResultVar}, resAV E.T s rs (fun l =>
          cond (E.own f) (G (nodupB (tagsOfs l)) (Q (retOwn l) s.H)) (Q (retStb l) s.H)) → ∃ v H', Q v H' := fun h => by
        obtain ⟨_, h⟩ := resAV_feas _ h
        exact cond_feas (G_feas fun h => ⟨_, _, h⟩) (fun h => ⟨_, _, h⟩) h
      cases e with
      | exit id => exact h.elim
      | normal => exact fin h
      | ret => exact fin h
end
end Go.Proofs.YtgmkkjmdflhbnaaDoor.Ab
end
