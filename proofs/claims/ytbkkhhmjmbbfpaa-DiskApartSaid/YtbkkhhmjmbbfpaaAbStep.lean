/- One operation, and the operations of a region in whatever order. -/
import Derived.Test.YtbkkhhmjmbbfpaaAbApart
import Derived.Test.YtbkkhhmjmbbfpaaAbSwap
import Derived.Test.YtbkkhhmjmbbfpaaAbConv
import Derived.Orders
namespace Go.Proofs.Ytbkkhhmjmbbfpaa.Ab
open Go

section
variable {P : Program} {w0 : World} {g0 g : Gs} {l : Gl} {w : World} {st : St} {a : Act} {o : Oper} {next : Act → World → Prop} {Q : Exit → Act → World → Prop}

theorem light_goes {T : List TI} (hT : TabOk P T) (hE : EqOk P T) (hI : Inv w0 g0 g l w st a) (hl : ∀ t x lo hi mx, o.op ≠ .slice t x lo hi mx) {K : St → Prop}
    (h : light T o.op (ρ st.tm) st.mem st.H fun v => K (st.put o.dst v)) (hn : Goes w0 g0 K next) : o.wp P a w next Q := by
  obtain ⟨av, v, hK, hrun, hr, ht, _⟩ := light_sound hT hE hI o hl h
  exact wp_value hrun (hn _ _ _ _ _ (hI.put hr ht _) hK)

theorem operands_rep (hI : Inv w0 g0 g l w st a) (xs : List Operand) : TReps g l w st.mem.length (xs.map (ρ st.tm)) (xs.map a.eval) ∧ ∀ t ∈ tagsOfs (xs.map (ρ st.tm)), t ∈ st.tags := by
  refine ⟨.mk (by simp) fun i c v hc hv => ?_, fun t ht => ?_⟩
  · simp only [List.getElem?_map, Option.map_eq_some_iff] at hc hv
    obtain ⟨x, hx, rfl⟩ := hc
    obtain ⟨y, hy, rfl⟩ := hv
    rw [hx] at hy
    cases hy
    exact (hI.operand x).1
  · obtain ⟨i, c, hc, ht⟩ := tagsOfs_iff ht
    simp only [List.getElem?_map, Option.map_eq_some_iff] at hc
    obtain ⟨x, _, rfl⟩ := hc
    exact (hI.operand (a := a) x).2 t ht

theorem nilA_rep {n : Nat} (k : CK) (x : AV) (v : Value) (h : TRep g l w n x v) : TRep g l w n (nilA k x) v := by
  unfold nilA
  split
  · simp only [TRep] at h ⊢
    rw [h]
    exact .sl0 _ _ _
  · exact h
theorem nilA_tags (k : CK) (x : AV) : ∀ t ∈ tagsOf (nilA k x), t ∈ tagsOf x := by
  unfold nilA
  split
  · simp [tagsOf, Nat.beq]
  · exact fun _ h => h
theorem nilAs_reps {n : Nat} : ∀ (ks : List CK) (xs : List AV) (vs : List Value), TReps g l w n xs vs → TReps g l w n (nilAs ks xs) vs
  | [], xs, vs, h => by cases xs <;> exact h
  | k :: ks, [], vs, h => h
  | k :: ks, x :: xs, [], h => h
  | k :: ks, x :: xs, v :: vs, h => by
    simp only [TReps, nilAs] at h ⊢
    exact ⟨nilA_rep k x v h.1, nilAs_reps ks xs vs h.2⟩
theorem nilAs_tags : ∀ (ks : List CK) (xs : List AV), ∀ t ∈ tagsOfs (nilAs ks xs), t ∈ tagsOfs xs
  | [], xs, t, h => by cases xs <;> exact h
  | k :: ks, [], t, h => h
  | k :: ks, x :: xs, t, h => by
    simp only [nilAs, tagsOfs, List.mem_append] at h ⊢
    exact h.imp (nilA_tags k x t) (nilAs_tags ks xs t)
theorem argN_rep {n : Nat} (T : List TI) (t : Nat) (x : AV) (v : Value) (h : TRep g l w n x v) : TRep g l w n (argN T t x) v := by
  unfold argN
  split
  · simp only [TRep] at h ⊢
    obtain ⟨vs, h1, h2⟩ := h
    exact ⟨vs, h1, nilAs_reps _ _ _ h2⟩
  · exact nilA_rep _ _ _ h
theorem argN_tags (T : List TI) (t : Nat) (x : AV) : ∀ u ∈ tagsOf (argN T t x), u ∈ tagsOf x := by
  unfold argN
  split
  · simp only [tagsOf]; exact nilAs_tags _ _
  · exact nilA_tags _ _
theorem argNs_reps {n : Nat} {T : List TI} : ∀ (ts : List Nat) (xs : List AV) (vs : List Value), TReps g l w n xs vs → TReps g l w n (argNs T ts xs) vs
  | [], xs, vs, h => by cases xs <;> exact h
  | k :: ks, [], vs, h => h
  | k :: ks, x :: xs, [], h => h
  | k :: ks, x :: xs, v :: vs, h => by
    simp only [TReps, argNs] at h ⊢
    exact ⟨argN_rep T k x v h.1, argNs_reps ks xs vs h.2⟩
theorem argNs_tags {T : List TI} : ∀ (ts : List Nat) (xs : List AV), ∀ t ∈ tagsOfs (argNs T ts xs), t ∈ tagsOfs xs
  | [], xs, t, h => by cases xs <;> exact h
  | k :: ks, [], t, h => h
  | k :: ks, x :: xs, t, h => by
    simp only [argNs, tagsOfs, List.mem_append] at h ⊢
    exact h.imp (argN_tags T k x t) (argNs_tags ks xs t)
set_option maxHeartbeats 4000000 in
theorem aop_sound {E : Env} {R : Oracle} (hT : TabOk P E.T) (hE : EqOk P E.T) (hA : LibOk P E) (hR : OSound P E R) (hI : Inv w0 g0 g l w st a) {strict : Bool} {K : St → Prop}
    (h : aop E R strict o st K) (hn : Goes w0 g0 K next) : o.wp P a w next Q := by
  have hlight : (∀ t x lo hi mx, o.op ≠ .slice t x lo hi mx) → (light E.T o.op (ρ st.tm) st.mem st.H fun v => K (st.put o.dst v)) → o.wp P a w next Q := fun hl h => light_goes hT hE hI hl h hn
  cases ho : o.op
  case call c =>
    cases hc : c.callee with
    | value f =>
      simp only [aop, ho, hc] at h
      cases hf : ρ st.tm f <;> rw [hf] at h <;> try exact h.elim
      case fn gf cap =>
      simp only at h
      obtain ⟨h1, h2⟩ := operands_rep hI c.args.toList
      obtain ⟨hfr, _⟩ := hI.operand (a := a) f
      rw [hf] at hfr
      simp only [TRep] at hfr
      generalize hfv : a.eval f = fv at hfr
      cases hfr with
      | fn _ _ vs hl hr =>
        have hcap : tagsOfs cap = [] := by
          refine List.eq_nil_iff_forall_not_mem.2 fun t ht => ?_
          obtain ⟨i, x, hx, ht⟩ := tagsOfs_iff ht
          have hil : i < vs.length := by rw [← hl]; exact (List.getElem?_eq_some_iff.1 hx).1
          rw [(hr i x _ hx (List.getElem?_eq_getElem hil)).tags] at ht
          cases ht
        have h1 : TReps g l w st.mem.length (cond (E.io gf) (c.args.toList.map (ρ st.tm)) (argNs E.T c.argTypes.toList (c.args.toList.map (ρ st.tm)))) (c.args.toList.map a.eval) := by
          cases E.io gf
          · exact argNs_reps _ _ _ h1
          · exact h1
        have h2 : ∀ t ∈ tagsOfs (cond (E.io gf) (c.args.toList.map (ρ st.tm)) (argNs E.T c.argTypes.toList (c.args.toList.map (ρ st.tm)))), t ∈ st.tags := by
          cases E.io gf
          · exact fun t ht => h2 t (argNs_tags _ _ t ht)
          · exact h2
        have h3 : TReps g l w st.mem.length (cond (E.io gf) (c.args.toList.map (ρ st.tm)) (argNs E.T c.argTypes.toList (c.args.toList.map (ρ st.tm))) ++ cap) (c.args.toList.map a.eval ++ vs) :=
          h1.append (.mk hl fun i x v hx hv => TRep.of_rep (hr i x v hx hv))
        cases hap : E.apart gf with
        | true =>
          rw [hap] at h
          simp only [cond_true] at h
          obtain ⟨hg, hK⟩ := G_out h
          clear h
          simp only [Bool.and_eq_true, List.isEmpty_iff] at hg
          obtain ⟨hsz, hcap0⟩ := hg
          subst hcap0
          have hvs : vs = [] := List.eq_nil_of_length_eq_zero (by simpa using hl.symm)
          subst hvs
          obtain ⟨x, y, hargs⟩ := array_two (Nat.eq_of_beq_eq_true hsz)
          rw [hargs] at hK
          simp only [Array.getD_eq_getD_getElem?, List.getElem?_toArray, List.getElem?_cons_zero, List.getElem?_cons_succ, Option.getD_some] at hK
          obtain ⟨hx, hxt⟩ := hI.operand (a := a) x
          obtain ⟨hy, hyt⟩ := hI.operand (a := a) y
          obtain ⟨hK, hrun0⟩ := apart_run hA.apart hI hap hx hxt hy hyt hK
          refine wp_value (w' := w) (v := .bool false) ?_ (hn _ _ _ _ _ (hI.put (by simp [TRep]) (by simp [tagsOf]) _) hK)
          unfold execOp
          rw [ho]
          simp [resolve, hc, hargs, hfv, Deferred.ofValue, invoke, hrun0]
        | false =>
        rw [hap] at h
        simp only [cond_false] at h
        obtain ⟨hen, hcall⟩ := callAV_sound hT hR hI h3 (fun t ht => by
          rw [tagsOfs_append] at ht
          rcases List.mem_append.1 ht with ht | ht
          · exact h2 t ht
          · rw [hcap] at ht; cases ht) h
        have hrun : (execOp a.eval o).run P w = .ok (.enter gf (c.args.toList.map a.eval ++ vs).toArray) w := by
          have := run_callFunc hen (c.args.map a.eval ++ vs.toArray) w
          unfold execOp
          rw [ho]
          simp [resolve, hc, hfv, Deferred.ofValue, invoke, this]
        unfold Oper.wp
        rw [hrun, Oper.upon_enter]
        refine hcall.mono fun e w' ⟨r, av, st', g', l', he, hK, hI'⟩ => ?_
        subst he
        exact hn _ _ _ _ _ (hI' o.dst) hK
    | invoke rv name =>
      simp only [aop, ho, hc] at h
      cases hf : ρ st.tm rv <;> rw [hf] at h <;> try exact h.elim
      case iface t v =>
      simp only at h
      obtain ⟨hnt, h⟩ := G_out h
      obtain ⟨h1, h2⟩ := operands_rep hI c.args.toList
      obtain ⟨hfr, _⟩ := hI.operand (a := a) rv
      rw [hf] at hfr
      simp only [TRep] at hfr
      obtain ⟨u, hu, hvr⟩ := hfr
      have hnt : tagsOf v = [] := by simpa [AV.noTag] using hnt
      have hrep : Rep w g.stb g.ob (frzV v) u := lend_rep (base := w0.heap.size) (fun _ h => h) (S := []) (fun t ht => by cases ht) v u (by rw [hnt]; simp) hvr
      have h1 := argNs_reps (T := E.T) c.argTypes.toList _ _ h1
      have h2 : ∀ t ∈ tagsOfs (argNs E.T c.argTypes.toList (c.args.toList.map (ρ st.tm))), t ∈ st.tags := fun t ht => h2 t (argNs_tags _ _ t ht)
      have key : ∀ (l : List (Nat × Nat)), (∀ p ∈ l, p ∈ E.disp name) → invAV E R strict st (argNs E.T c.argTypes.toList (c.args.toList.map (ρ st.tm))) o.type t (frzV v) (fun v s' => K (s'.put o.dst v)) l →
          ∃ p x, p ∈ E.disp name ∧ t = p.1 ∧ Rep w g.stb g.ob x u ∧ callAV E R strict st p.2 (x :: argNs E.T c.argTypes.toList (c.args.toList.map (ρ st.tm))) o.type fun v s' => K (s'.put o.dst v) := by
        intro l
        induction l with
        | nil => intro _ h; exact h.elim
        | cons p l ih =>
          intro hl h
          simp only [invAV] at h
          cases hb : Nat.beq t p.1 <;> rw [hb] at h <;> simp only [cond_true, cond_false] at h
          · exact ih (fun q hq => hl q (List.mem_cons_of_mem _ hq)) h
          · obtain ⟨_, h⟩ := G_out h
            obtain ⟨x, hx, hrel, _⟩ := normE_out h
            exact ⟨p, x, hl p List.mem_cons_self, Nat.eq_of_beq_eq_true hb, hrel.2 _ _ _ _ hrep, hx⟩
      obtain ⟨p, x, hp, rfl, hxr, hcallav⟩ := key _ (fun _ h => h) h
      have htx : tagsOf x = [] := hxr.tags
      obtain ⟨hen, hcall⟩ := callAV_sound hT hR hI (vals := u :: c.args.toList.map a.eval) (by simp only [TReps]; exact ⟨TRep.of_rep hxr, h1⟩) (fun t ht => by
        simp only [tagsOfs, htx, List.nil_append] at ht
        exact h2 t ht) hcallav
      have hrun : (execOp a.eval o).run P w = .ok (.enter p.2 (u :: c.args.toList.map a.eval).toArray) w := by
        have h3 := run_callFunc hen (u :: c.args.toList.map a.eval).toArray w
        obtain ⟨n, hn⟩ : ∃ n, P.types.size + Made.depth = n + 1 := ⟨P.types.size + Made.depth - 1, by unfold Made.depth; omega⟩
        have h4 := run_method hA.disp hp u n w
        have hargs : (#[u] ++ c.args.map a.eval : Array Value) = (u :: c.args.toList.map a.eval).toArray := by apply Array.ext'; simp
        have h5 := run_invokeMethod (P := P) (ys := c.args.map a.eval) hn h4 (hargs ▸ h3)
        unfold execOp
        rw [ho]
        simp only [resolve, hc, Sem.run_bind, Sem.run_pure, Result.andThen_ok, hu, h5, hargs]
      unfold Oper.wp
      rw [hrun, Oper.upon_enter]
      refine hcall.mono fun e w' ⟨r, av, st', g', l', he, hK, hI'⟩ => ?_
      subst he
      exact hn _ _ _ _ _ (hI' o.dst) hK
    | builtin b =>
      cases b
      case append =>
        simp only [aop, ho, hc] at h
        cases hk : (ti E.T (c.argTypes.getD 0 0)).k <;> rw [hk] at h <;> try exact h.elim
        rename_i e
        simp only at h
        obtain ⟨h0, h⟩ := G_out h
        obtain ⟨hx, hxt⟩ := hI.operand (a := a) (c.args.getD 0 (.const (.bool false)))
        cases hx0 : ρ st.tm (c.args.getD 0 (.const (.bool false))) <;> rw [hx0] at h hx hxt <;> try exact h.elim
        case nilsl =>
          simp only [TRep] at hx
          obtain ⟨hg, h⟩ := G_out h
          exact append_sound hT hI ho hc hk h0 hg hx (.inl ⟨rfl, rfl, rfl⟩) h hn
        case sl t k xs =>
          cases t with
          | zero => exact h.elim
          | succ t =>
            simp only [TRep] at hx
            obtain ⟨hx1, hx2, hx3⟩ := hx
            obtain ⟨hg, h⟩ := G_out h
            obtain ⟨hk', h⟩ := G_out h
            exact append_sound hT hI ho hc hk h0 hg rfl (.inr ⟨t + 1, hxt _ (by simp [tagsOf, Nat.beq]), hx1, hx2, by rw [← hx3]; exact (Nat.eq_of_beq_eq_true hk').symm, rfl⟩) h hn
        case hs j o' n m k => exact append_hs_sound hT hI ho hc hk h0 hx0 h hn
      case copy =>
        simp only [aop, ho, hc] at h
        exact copy_sound hT hI ho hc h hn
      case clear =>
        simp only [aop, ho, hc] at h
        exact clear_sound hT hI ho hc h hn
      case delete =>
        simp only [aop, ho, hc] at h
        cases hk : (ti E.T (c.argTypes.getD 0 0)).k <;> rw [hk] at h <;> try exact h.elim
        cases hm : ρ st.tm (c.args.getD 0 (.const (.bool false))) <;> rw [hm] at h <;> try exact h.elim
        simp only at h
        obtain ⟨q0, h⟩ := G_out h
        simp only [Bool.and_eq_true] at q0
        obtain ⟨⟨_, g2⟩, g3⟩ := q0
        obtain ⟨q1, h⟩ := G_out h
        obtain ⟨q2, h⟩ := G_out h
        obtain ⟨q3, h⟩ := G_out h
        exact delete_sound hT hE hI ho hc g2 g3 hk hm q1 q2 q3 h hn
      all_goals exact hlight (by simp [ho]) (by simpa only [aop, ho, hc] using h)
  case alloc e =>
    simp only [aop, ho] at h
    obtain ⟨h1, h2⟩ := G_out h
    have hk : (ti E.T e).k ≠ .other := fun e => by rw [e] at h1; simp at h1
    have ht : ∀ ts, (ti E.T e).k ≠ .tuple ts := fun ts e => by rw [e] at h1; simp at h1
    cases hhp : E.hp e with
    | false => rw [hhp] at h2; exact alloc_sound hT hI ho hk ht h2 hn
    | true => rw [hhp] at h2; exact allocH_sound hT hI ho hk ht h2 hn
  case box t x =>
    simp only [aop, ho] at h
    cases hhp : E.hp t with
    | false => rw [hhp] at h; exact box_sound hI ho h hn
    | true =>
      rw [hhp] at h
      obtain ⟨h1, h2⟩ := G_out h
      exact boxH_sound hI ho h1 h2 hn
  case makeMap t r =>
    cases r with
    | none =>
      simp only [aop, ho] at h
      exact makeMap_sound hI ho (G_out h).2 hn
    | some r => exact hlight (by simp [ho]) (by simpa only [aop, ho] using h)
  case mapUpdate t m k v =>
    simp only [aop, ho] at h
    cases hk : (ti E.T t).k <;> rw [hk] at h <;> try exact h.elim
    cases hm : ρ st.tm m <;> rw [hm] at h <;> try exact h.elim
    simp only at h
    obtain ⟨_, h⟩ := G_out h
    obtain ⟨q1, h⟩ := G_out h
    obtain ⟨q2, h⟩ := G_out h
    obtain ⟨q3, h⟩ := G_out h
    exact mapUpdate_sound hT hE hI ho hk hm q1 q2 q3 h hn
  case build t ps =>
    simp only [aop, ho] at h
    exact build_sound hT hI ho h hn
  case buildSlice t n ps =>
    simp only [aop, ho] at h
    cases strict with
    | false => exact buildSlice_sound hT hI ho h hn
    | true => exact buildStable_sound hT hI ho (G_out h).1 (G_out h).2 hn
  case store t x y =>
    simp only [aop, ho] at h
    cases hx : ρ st.tm x <;> rw [hx] at h <;> try exact h.elim
    case ptr j o' =>
      simp only at h
      cases hm : st.mem.getD j .dead <;> rw [hm] at h <;> try exact h.elim
      exact store_ptr_sound hT hI ho hx hm h hn
    case ep tg k i o' xs => exact store_ep_sound hT hI ho hx (G_out h).2 hn
    case he j k i o' => exact store_he_sound hT hI ho hx (G_out h).2 hn
    case obj j o' =>
      simp only at h
      split at h
      · rename_i tg k xs hy
        obtain ⟨_, h⟩ := G_out h
        obtain ⟨q1, h⟩ := G_out h
        obtain ⟨q2, h⟩ := G_out h
        obtain ⟨q3, h⟩ := G_out h
        exact storeOwn_sound hT hI ho hx hy q1 q2 q3 h.1 h.2 hn
      · exact store_obj_sound hT hI ho hx (G_out h).2 hn
  case makeSlice t x y =>
    simp only [aop, ho] at h
    exact makeSlice_sound hT hI ho h hn
  case slice t x lo hi mx =>
    simp only [aop, ho] at h
    cases hx : ρ st.tm x with
    | sl tg k xs =>
      cases tg with
      | zero => rw [hx] at h; exact slice_stable_sound hT hI ho (by simpa only [ho] using h) hn
      | succ tg => rw [hx] at h; exact slice_own_sound hT hI ho (by simpa only [ho, hx] using (G_out h).2) hn
    | _ => rw [hx] at h; exact slice_stable_sound hT hI ho (by simpa only [ho] using h) hn
  case convert src dst x =>
    have hl : (light E.T o.op (ρ st.tm) st.mem st.H fun v => K (st.put o.dst v)) → o.wp P a w next Q := hlight (by simp [ho])
    rw [ho] at hl
    simp only [aop, ho] at h
    cases h1 : (ti E.T src).k <;> cases h2 : (ti E.T dst).k <;> cases h3 : ρ st.tm x <;> rw [h1, h2, h3] at h <;> try exact hl h
    case str.slice.str e s =>
      simp only at h
      cases h4 : (ti E.T e).k <;> rw [h4] at h <;> try exact h.elim
      rename_i ik
      cases ik <;> try exact h.elim
      exact toBytes_sound hT hI ho h1 h2 h4 h3 h hn
    case slice.slice.sl e' e tg k xs =>
      cases tg with
      | zero => exact hl h
      | succ tg =>
        simp only at h
        cases h4 : (ti E.T e).k <;> rw [h4] at h <;> try exact h.elim
        rename_i ik
        cases ik <;> try exact h.elim
        exact bytesConst_sound hT hI ho h1 h2 h4 h3 (G_out h).2 hn
    case slice.str.sl e tg k xs =>
      simp only at h
      cases h4 : (ti E.T e).k <;> rw [h4] at h <;> try exact h.elim
      rename_i ik
      cases ik <;> try exact h.elim
      exact fromBytes_sound hT hI ho h1 h2 h4 h3 h hn
    case slice.str.nilsl e =>
      simp only at h
      cases h4 : (ti E.T e).k <;> rw [h4] at h <;> try exact h.elim
      rename_i ik
      cases ik <;> try exact h.elim
      exact fromNil_sound hT hI ho h1 h2 h4 h3 h hn
  case binOp op t x y z =>
    have hl : (light E.T o.op (ρ st.tm) st.mem st.H fun v => K (st.put o.dst v)) → o.wp P a w next Q := hlight (by simp [ho])
    rw [ho] at hl
    simp only [aop, ho] at h
    cases h1 : (ti E.T t).k <;> rw [h1] at h <;> try exact hl h
    exact nil_sound hT hI ho h1 h hn
  case range t x =>
    simp only [aop, ho] at h
    cases h1 : (ti E.T t).k <;> cases h2 : ρ st.tm x <;> rw [h1, h2] at h <;> try exact h.elim
    · exact range_sound hT hI ho h1 h2 h hn
    · exact rangeMap_sound hT hI ho h1 h2 (G_out h).1 (G_out h).2 hn
  case next x b =>
    cases b
    case true =>
      simp only [aop, ho] at h
      cases h2 : ρ st.tm x <;> rw [h2] at h <;> try exact h.elim
      rename_i j q
      cases q <;> try exact h.elim
      simp only at h
      cases h3 : st.mem.getD j .dead <;> rw [h3] at h <;> try exact h.elim
      exact next_sound hI ho h2 h3 h hn
    case false =>
      simp only [aop, ho] at h
      cases h2 : ρ st.tm x <;> rw [h2] at h <;> try exact h.elim
      rename_i j q
      cases q <;> try exact h.elim
      simp only at h
      split at h
      · rename_i m kt vt since stepped seen h3
        obtain ⟨q0, h5, h6⟩ := G_out h
        simp only [Bool.and_eq_true] at q0
        exact nextMap_sound hI ho h2 h3 q0.1 q0.2.1 q0.2.2 h5 h6 hn
      · exact h.elim
  case entry x =>
    simp only [aop, ho] at h
    cases h2 : ρ st.tm x <;> rw [h2] at h <;> try exact h.elim
    rename_i j q
    cases q <;> try exact h.elim
    simp only at h
    split at h
    · rename_i m kt vt since stepped n seen h3
      obtain ⟨q0, h⟩ := G_out h
      obtain ⟨q3, h⟩ := G_out h
      simp only [Bool.and_eq_true] at q0
      exact entry_sound hI ho h2 h3 q0.1 q0.2 q3 h hn
    · exact h.elim
  case makeFunc fn first cap =>
    simp only [aop, ho] at h
    cases fn <;> try exact h.elim
    cases hf : first.toList <;> rw [hf] at h <;> try exact h.elim
    exact makeFunc_sound hI ho hf h hn
  all_goals exact hlight (by simp [ho]) (by simpa only [aop, ho] using h)

theorem tm_get (hI : Inv w0 g0 g l w st a) {d : Nat} {x : AV} (h : st.tm.getD d .any = x) (hx : x ≠ .any) : ∃ v, a.tmps[d]? = some v ∧ TRep g l w st.mem.length x v := by
  rw [List.getD_eq_getElem?_getD] at h
  cases hd : st.tm[d]? with
  | none => rw [hd] at h; exact absurd h.symm hx
  | some y =>
    rw [hd] at h
    simp only [Option.getD_some] at h
    subst h
    obtain ⟨v, hv, hr⟩ := hI.tm.get hd
    exact ⟨v, by simpa using hv, hr⟩
theorem mode_wanted (hI : Inv w0 g0 g l w st a) {ops : Array Oper} {b : Bool} (h : mode ops.toList o st.tm = some b) : Region.wanted o (yielded ops a.tmps) = b := by
  unfold mode at h
  unfold Region.wanted
  cases hg : o.guard with
  | none => rw [hg] at h; simpa using h
  | some p =>
    obtain ⟨j, want⟩ := p
    rw [hg] at h
    simp only at h ⊢
    cases hd : (ops.toList[j]?).bind (·.dst) with
    | none => rw [hd] at h; simp at h
    | some d =>
      rw [hd] at h
      simp only at h
      have hd' : (ops[j]?).bind (·.dst) = some d := by rw [← hd]; simp
      unfold yielded
      rw [hd', Option.bind_some]
      cases hv : st.tm.getD d .any <;> rw [hv] at h <;> try (simp at h; done)
      case bool c =>
        obtain ⟨v, hv', hr⟩ := tm_get hI hv (by simp)
        simp only [TRep] at hr
        rw [hv', hr]
        simp only [Option.some.injEq] at h
        rw [← h]
        cases c <;> cases want <;> rfl
      case tup vs =>
        cases vs with
        | cons x r => simp at h
        | nil =>
          obtain ⟨v, hv', hr⟩ := tm_get hI hv (by simp)
          simp only [TRep] at hr
          obtain ⟨vs, rfl, hr⟩ := hr
          rw [hv']
          simp only [Option.some.injEq] at h
          rw [← h]
          rfl
theorem astep_sound {E : Env} {R : Oracle} (hT : TabOk P E.T) (hE : EqOk P E.T) (hA : LibOk P E) (hR : OSound P E R) (hI : Inv w0 g0 g l w st a) {strict : Bool} {ops : Array Oper} {i : Nat} {K : St → Prop} (ho : ops[i]? = some o)
    (h : astep E R strict ops.toList o st K) (hn : Goes w0 g0 K next) : wpOp P ops Q i next a w := by
  rw [astep_mode] at h
  unfold wpOp
  rw [ho]
  simp only
  cases hm : mode ops.toList o st.tm with
  | none => rw [hm] at h; exact h.elim
  | some b =>
    rw [hm] at h
    rw [mode_wanted hI hm]
    cases b with
    | true =>
      simp only [stepM, if_true] at h ⊢
      exact .inl (aop_sound hT hE hA hR hI h hn)
    | false =>
      simp only [stepM, Bool.false_eq_true, if_false] at h ⊢
      exact hn _ _ _ _ _ (hI.put (v := undef) (by simp only [TRep]; exact ⟨[], rfl, by simp [TReps]⟩) (by simp [tagsOf, tagsOfs]) _) h
theorem aopsL_sound {E : Env} {R : Oracle} (hT : TabOk P E.T) (hE : EqOk P E.T) (hA : LibOk P E) (hR : OSound P E R) {strict : Nat → Bool} {ops : Array Oper} {K : St → Prop} (hn : Goes w0 g0 K (Q .normal)) :
    ∀ (is : List Nat) {g : Gs} {l : Gl} {w : World} {st : St} {a : Act}, Inv w0 g0 g l w st a → aopsL E R ops.toList strict is st K → wpOps P ops Q is a w
  | [], _, _, _, _, _, hI, h => hn _ _ _ _ _ hI h
  | i :: is, _, _, _, _, _, hI, h => by
    simp only [aopsL, Array.getElem?_toList] at h
    rw [wpOps_cons]
    cases ho : ops[i]? with
    | none =>
      rw [ho] at h
      unfold wpOp
      rw [ho]
      exact aopsL_sound hT hE hA hR hn is hI h
    | some o =>
      rw [ho] at h
      exact astep_sound hT hE hA hR hI ho h fun g l w st a hI h => aopsL_sound hT hE hA hR hn is hI h

/-! Whatever order. -/
def Listed (ops : Array Oper) (b : Array Bool) : Prop := b.size = ops.size ∧ ∀ (i : Nat) (o : Oper), ops[i]? = some o → b.getD i true = true → ∀ e ∈ o.after, Region.binds .any e = true → b.getD e.on false = true
theorem anc_listed {ops : Array Oper} {b : Array Bool} (hb : Listed ops b) : ∀ (n i x : Nat), (∀ o, ops[i]? = some o → ∀ e ∈ o.after, Region.binds .any e = true → b.getD e.on false = true) → anc ops.toList n i x = true → b.getD x false = true
  | 0, _, _, _, h => by simp [anc] at h
  | n + 1, i, x, hi, h => by
    simp only [anc, Array.getElem?_toList] at h
    cases ho : ops[i]? with
    | none => rw [ho] at h; simp at h
    | some o =>
      rw [ho] at h
      simp only [List.any_eq_true, Bool.and_eq_true, Bool.or_eq_true] at h
      obtain ⟨e, he, hbe, h⟩ := h
      have hd := hi o ho e (by simpa using he) hbe
      rcases h with h | h
      · rwa [Nat.eq_of_beq_eq_true h] at hd
      · refine anc_listed hb n e.on x (fun o' ho' => hb.2 e.on o' ho' ?_) h
        have hlt : e.on < b.size := by
          rcases Nat.lt_or_ge e.on b.size with hlt | hge
          · exact hlt
          · simp [Array.getD, Nat.not_lt.2 hge] at hd
        simp only [Array.getD, hlt, dif_pos] at hd ⊢
        exact hd
def left (n : Nat) (b : Array Bool) : List Nat := (List.range n).filter fun i => !b.getD i true
theorem range_cut {i n : Nat} (h : i < n) : List.range n = List.range i ++ i :: List.range' (i + 1) (n - 1 - i) := by
  rw [List.range_eq_range', List.range_eq_range']
  have h1 : List.range' 0 n = List.range' 0 i ++ List.range' (0 + i) (n - i) := by rw [List.range'_append_1]; congr 1; omega
  rw [h1]
  have h2 : n - i = (n - 1 - i) + 1 := by omega
  rw [h2, List.range'_succ]
  simp
theorem getD_set_ne {b : Array Bool} {i j : Nat} {v d : Bool} (h : i ≠ j) : (b.setIfInBounds i v).getD j d = b.getD j d := by
  rw [Array.getD_eq_getD_getElem?, Array.getD_eq_getD_getElem?, Array.getElem?_setIfInBounds_ne h]
theorem getD_set_self {b : Array Bool} {i : Nat} {v d : Bool} (h : i < b.size) : (b.setIfInBounds i v).getD i d = v := by
  rw [Array.getD_eq_getD_getElem?, Array.getElem?_setIfInBounds_self_of_lt h]; rfl
theorem left_cut {i n : Nat} {b : Array Bool} (hb : b.size = n) (h : i < n) (hi : b.getD i true = false) :
    ∃ pre post, left n b = pre ++ i :: post ∧ left n (b.setIfInBounds i true) = pre ++ post ∧ ∀ j ∈ pre, j < i ∧ b.getD j true = false := by
  refine ⟨(List.range i).filter fun i => !b.getD i true, (List.range' (i + 1) (n - 1 - i)).filter fun i => !b.getD i true, ?_, ?_, ?_⟩
  · unfold left
    rw [range_cut h, List.filter_append, List.filter_cons, if_pos (by simp [hi])]
  · unfold left
    rw [range_cut h, List.filter_append, List.filter_cons, if_neg (by rw [getD_set_self (by omega)]; simp)]
    congr 1
    · refine List.filter_congr fun j hj => ?_
      have : j < i := List.mem_range.1 hj
      rw [getD_set_ne (by omega)]
    · refine List.filter_congr fun j hj => ?_
      have : i + 1 ≤ j := (List.mem_range'_1.1 hj).1
      rw [getD_set_ne (by omega)]
  · intro j hj
    rw [List.mem_filter] at hj
    exact ⟨List.mem_range.1 hj.1, by simpa using hj.2⟩
theorem ready_mem {ops : Array Oper} {b : Array Bool} {i : Nat} : i ∈ Region.ready .any ops b ↔ i < ops.size ∧ b.getD i true = false ∧ ∃ o, ops[i]? = some o ∧ ∀ e ∈ o.after, Region.binds .any e = true → b.getD e.on false = true := by
  unfold Region.ready
  rw [List.mem_filter, List.mem_range]
  constructor
  · rintro ⟨h1, h2⟩
    have ho : ops[i]? = some ops[i] := Array.getElem?_eq_getElem h1
    rw [ho] at h2
    simp only [Option.map_some, Option.getD_some, Bool.and_eq_true, Bool.not_eq_eq_eq_not, Bool.not_true, Array.all_eq_true_iff_forall_mem, Bool.or_eq_true] at h2
    refine ⟨h1, h2.1, ops[i], ho, fun e he hb => ?_⟩
    rcases h2.2 e he with h | h
    · rw [hb] at h; cases h
    · exact h
  · rintro ⟨h1, h2, o, ho, h3⟩
    refine ⟨h1, ?_⟩
    rw [ho]
    simp only [Option.map_some, Option.getD_some, Bool.and_eq_true, Bool.not_eq_eq_eq_not, Bool.not_true, Array.all_eq_true_iff_forall_mem, Bool.or_eq_true]
    refine ⟨h2, fun e he => ?_⟩
    cases hb : Region.binds .any e with
    | false => exact .inl rfl
    | true => exact .inr (h3 e he hb)
theorem drawOk_pair {E : Env} {ops : Array Oper} (h : drawOk E ops.toList = true) {i j : Nat} (hij : i < j) (hj : j < ops.size) (hn : anc ops.toList ops.size j i = false) :
    ∃ x y, ops[i]? = some x ∧ ops[j]? = some y ∧ fits E ops.toList x y = true ∧ openAt ops.toList i = true ∧ openAt ops.toList j = true := by
  unfold drawOk at h
  simp only [List.all_eq_true, List.mem_range, Bool.and_eq_true] at h
  have hp := (h j (by simpa using hj)).1 i hij
  unfold pairOk at hp
  have hx : ops[i]? = some (ops[i]'(by omega)) := Array.getElem?_eq_getElem (by omega)
  have hy : ops[j]? = some ops[j] := Array.getElem?_eq_getElem hj
  simp only [Array.getElem?_toList, hx, hy, Array.length_toList, hn, Bool.false_or] at hp
  have ho : openAt ops.toList i = true := by
    unfold openAt
    rw [List.any_eq_true]
    refine ⟨j, by simpa using hj, ?_⟩
    have : Nat.blt i j = true := by rw [Nat.blt_eq]; exact hij
    simp [hn, this]
  have ho' : openAt ops.toList j = true := by
    unfold openAt
    rw [List.any_eq_true]
    refine ⟨i, by simp; omega, ?_⟩
    have : Nat.blt i j = true := by rw [Nat.blt_eq]; exact hij
    simp [hn, this]
  exact ⟨_, _, hx, hy, hp, ho, ho'⟩
theorem drawOk_after {E : Env} {ops : Array Oper} (h : drawOk E ops.toList = true) {j : Nat} {o : Oper} (ho : ops[j]? = some o) : ∀ e ∈ o.after, Region.binds .any e = true → e.on < j := by
  unfold drawOk at h
  simp only [List.all_eq_true, List.mem_range, Bool.and_eq_true] at h
  have hj : j < ops.size := by
    rcases Nat.lt_or_ge j ops.size with h | h
    · exact h
    · rw [Array.getElem?_eq_none h] at ho; cases ho
  have hp := (h j (by simpa using hj)).2
  simp only [Array.getElem?_toList, ho, List.all_eq_true, Bool.or_eq_true] at hp
  intro e he hb
  rcases hp e (by simpa using he) with h | h
  · rw [hb] at h; cases h
  · rwa [Nat.blt_eq] at h
theorem wpAny_of {E : Env} {R : Oracle} (hT : TabOk P E.T) (hE : EqOk P E.T) (hA : LibOk P E) (hR : OSound P E R) (hM : OLe R R) (hF : Feas R) {ops : Array Oper} (hd : drawOk E ops.toList = true) {K : St → Prop} (hn : Goes w0 g0 K (Q .normal)) :
    ∀ (fuel : Nat) (b : Array Bool) {g : Gs} {l : Gl} {w : World} {st : St} {a : Act}, Listed ops b → (left ops.size b).length ≤ fuel → Inv w0 g0 g l w st a → aopsL E R ops.toList (openAt ops.toList) (left ops.size b) st K → wpAny P .any ops Q fuel b a w
  | 0, b, g, l, w, st, a, hb, hl, hI, h => by
    have h0 : left ops.size b = [] := List.eq_nil_of_length_eq_zero (by omega)
    refine ⟨List.eq_nil_iff_forall_not_mem.2 fun i hi => ?_, ?_⟩
    · obtain ⟨h1, h2, _⟩ := ready_mem.1 hi
      have : i ∈ left ops.size b := by unfold left; rw [List.mem_filter, List.mem_range]; exact ⟨h1, by simp [h2]⟩
      rw [h0] at this
      cases this
    · rw [h0] at h
      exact hn _ _ _ _ _ hI h
  | fuel + 1, b, g, l, w, st, a, hb, hl, hI, h => by
    refine ⟨fun h0 => ?_, fun i hi => ?_⟩
    · -- nothing is ready: nothing is left
      have : left ops.size b = [] := by
        cases hc : left ops.size b with
        | nil => rfl
        | cons i r =>
          have hi : i ∈ left ops.size b := by rw [hc]; simp
          unfold left at hi
          rw [List.mem_filter, List.mem_range] at hi
          have hib : b.getD i true = false := by simpa using hi.2
          obtain ⟨pre, post, e1, _, e3⟩ := left_cut hb.1 hi.1 hib
          have hpre : pre = [] := by
            cases pre with
            | nil => rfl
            | cons j pre =>
              rw [hc] at e1
              simp only [List.cons_append, List.cons.injEq] at e1
              have := (e3 j (by simp)).1
              omega
          have hready : i ∈ Region.ready .any ops b := by
            refine ready_mem.2 ⟨hi.1, hib, _, Array.getElem?_eq_getElem hi.1, fun e he hbe => ?_⟩
            have hlt := drawOk_after hd (Array.getElem?_eq_getElem hi.1) e he hbe
            cases hv : b.getD e.on true with
            | true =>
              have : e.on < b.size := by rw [hb.1]; omega
              simp only [Array.getD, this, dif_pos] at hv ⊢
              exact hv
            | false =>
              -- it would stand ahead of i
              have hm : e.on ∈ left ops.size b := by unfold left; rw [List.mem_filter, List.mem_range]; exact ⟨by omega, by simp [hv]⟩
              have hs : (left ops.size b).Pairwise (· < ·) := List.Pairwise.filter _ List.pairwise_lt_range
              rw [hc] at hm hs
              rcases List.mem_cons.1 hm with hm | hm
              · omega
              · have := (List.pairwise_cons.1 hs).1 _ hm; omega
          rw [h0] at hready
          cases hready
      rw [this] at h
      exact hn _ _ _ _ _ hI h
    · obtain ⟨h1, h2, o, ho, h3⟩ := ready_mem.1 hi
      obtain ⟨pre, post, e1, e2, e3⟩ := left_cut hb.1 h1 h2
      rw [e1] at h
      have hmv := move_front hM hF (strict := openAt ops.toList) (i := i) (o := o) (by simpa using ho) pre st (fun j hj x hx => by
        obtain ⟨hj1, hj2⟩ := e3 j hj
        have hna : anc ops.toList ops.size i j = false := by
          cases ha : anc ops.toList ops.size i j with
          | false => rfl
          | true =>
            have := anc_listed hb _ _ _ (fun o' ho' => by rw [ho] at ho'; cases ho'; exact h3) ha
            have hjb : j < b.size := by rw [hb.1]; omega
            simp only [Array.getD, hjb, dif_pos] at this hj2
            rw [hj2] at this
            cases this
        obtain ⟨x', y', hx', hy', hf, hs1, hs2⟩ := drawOk_pair hd hj1 h1 hna
        rw [ho] at hy'
        cases hy'
        have : ops[j]? = some x := by simpa using hx
        rw [this] at hx'
        cases hx'
        exact ⟨hf, hs1, hs2⟩) h
      refine astep_sound hT hE hA hR hI ho hmv fun g l w st a hI h => ?_
      refine wpAny_of hT hE hA hR hM hF hd hn fuel _ ⟨by simp [hb.1], fun k o' hk hkb e he hbe => ?_⟩ ?_ hI (by rw [e2]; exact h)
      · have hold : b.getD e.on false = true := by
          by_cases hki : i = k
          · subst hki
            rw [ho] at hk
            cases hk
            exact h3 e he hbe
          · refine hb.2 k o' hk ?_ e he hbe
            rwa [getD_set_ne hki] at hkb
        by_cases hei : i = e.on
        · have : e.on < b.size := by rw [hb.1, ← hei]; exact h1
          simp [Array.getD, hei, this]
        · rwa [getD_set_ne hei]
      · rw [e2]
        rw [e1] at hl
        simp only [List.length_append, List.length_cons] at hl ⊢
        omega
theorem drawAft_after {ops : Array Oper} (h : drawAft ops.toList = true) {j : Nat} {o : Oper} (ho : ops[j]? = some o) : ∀ e ∈ o.after, Region.binds .any e = true → e.on < j := by
  unfold drawAft at h
  simp only [List.all_eq_true, List.mem_range] at h
  have hj : j < ops.size := by
    rcases Nat.lt_or_ge j ops.size with h | h
    · exact h
    · rw [Array.getElem?_eq_none h] at ho; cases ho
  have hp := h j (by simpa using hj)
  simp only [Array.getElem?_toList, ho, List.all_eq_true, Bool.or_eq_true] at hp
  intro e he hb
  rcases hp e (by simpa using he) with h | h
  · rw [hb] at h; cases h
  · rwa [Nat.blt_eq] at h
theorem left_rm {i n : Nat} {b : Array Bool} (hb : b.size = n) (h : i < n) : left n (b.setIfInBounds i true) = rmD i (left n b) := by
  unfold left rmD
  rw [List.filter_filter]
  refine List.filter_congr fun j hj => ?_
  by_cases e : i = j
  · subst e
    rw [getD_set_self (by omega)]
    simp
  · rw [getD_set_ne e]
    have : Nat.beq j i = false := by
      cases hb : Nat.beq j i with
      | false => rfl
      | true => exact absurd (Nat.eq_of_beq_eq_true hb).symm e
    rw [this]
    simp
theorem wpAny_ofD {E : Env} {R : Oracle} (hT : TabOk P E.T) (hE : EqOk P E.T) (hA : LibOk P E) (hR : OSound P E R) (hM : OLe R R) (hF : Feas R) {ops : Array Oper} (hd : drawAft ops.toList = true) {K : St → Prop} (hn : Goes w0 g0 K (Q .normal)) :
    ∀ (fuel : Nat) (b : Array Bool) {g : Gs} {l : Gl} {w : World} {st : St} {a : Act}, Listed ops b → (left ops.size b).length ≤ fuel → Inv w0 g0 g l w st a → aopsD E R ops.toList (fuel + 1) (left ops.size b) st K → wpAny P .any ops Q fuel b a w
  | 0, b, g, l, w, st, a, hb, hl, hI, h => by
    have h0 : left ops.size b = [] := List.eq_nil_of_length_eq_zero (by omega)
    refine ⟨List.eq_nil_iff_forall_not_mem.2 fun i hi => ?_, ?_⟩
    · obtain ⟨h1, h2, _⟩ := ready_mem.1 hi
      have : i ∈ left ops.size b := by unfold left; rw [List.mem_filter, List.mem_range]; exact ⟨h1, by simp [h2]⟩
      rw [h0] at this
      cases this
    · rw [h0] at h
      exact hn _ _ _ _ _ hI h
  | fuel + 1, b, g, l, w, st, a, hb, hl, hI, h => by
    refine ⟨fun h0 => ?_, fun i hi => ?_⟩
    · -- nothing is ready: nothing is left
      have : left ops.size b = [] := by
        cases hc : left ops.size b with
        | nil => rfl
        | cons i r =>
          have hi : i ∈ left ops.size b := by rw [hc]; simp
          unfold left at hi
          rw [List.mem_filter, List.mem_range] at hi
          have hib : b.getD i true = false := by simpa using hi.2
          have hready : i ∈ Region.ready .any ops b := by
            refine ready_mem.2 ⟨hi.1, hib, _, Array.getElem?_eq_getElem hi.1, fun e he hbe => ?_⟩
            have hlt := drawAft_after hd (Array.getElem?_eq_getElem hi.1) e he hbe
            cases hv : b.getD e.on true with
            | true =>
              have : e.on < b.size := by rw [hb.1]; omega
              simp only [Array.getD, this, dif_pos] at hv ⊢
              exact hv
            | false =>
              -- it would stand ahead of i
              have hm : e.on ∈ left ops.size b := by unfold left; rw [List.mem_filter, List.mem_range]; exact ⟨by omega, by simp [hv]⟩
              have hs : (left ops.size b).Pairwise (· < ·) := List.Pairwise.filter _ List.pairwise_lt_range
              rw [hc] at hm hs
              rcases List.mem_cons.1 hm with hm | hm
              · omega
              · have := (List.pairwise_cons.1 hs).1 _ hm; omega
          rw [h0] at hready
          cases hready
      rw [this] at h
      exact hn _ _ _ _ _ hI h
    · obtain ⟨h1, h2, o, ho, h3⟩ := ready_mem.1 hi
      have hil : i ∈ left ops.size b := by unfold left; rw [List.mem_filter, List.mem_range]; exact ⟨h1, by simp [h2]⟩
      have hmin : minAt ops.toList (left ops.size b) i = true := by
        refine minAt_spec.2 fun j hj => ?_
        cases ha : anc ops.toList ops.toList.length i j with
        | false => rfl
        | true =>
          unfold left at hj
          rw [List.mem_filter, List.mem_range] at hj
          have hj2 : b.getD j true = false := by simpa using hj.2
          have := anc_listed hb _ _ _ (fun o' ho' => by rw [ho] at ho'; cases ho'; exact h3) ha
          have hjb : j < b.size := by rw [hb.1]; omega
          simp only [Array.getD, hjb, dif_pos] at this hj2
          rw [hj2] at this
          cases this
      have hmv := (orders hM hF (ops := ops.toList) (K := K) (fuel + 1)).1 _ i st hil hmin h
      unfold stepD at hmv
      rw [Array.getElem?_toList, ho] at hmv
      simp only at hmv
      refine astep_sound hT hE hA hR hI ho hmv fun g l w st a hI h => ?_
      have hrm := left_rm (b := b) hb.1 h1
      refine wpAny_ofD hT hE hA hR hM hF hd hn fuel _ ⟨by simp [hb.1], fun k o' hk hkb e he hbe => ?_⟩ ?_ hI (by rw [hrm]; exact h)
      · have hold : b.getD e.on false = true := by
          by_cases hki : i = k
          · subst hki
            rw [ho] at hk
            cases hk
            exact h3 e he hbe
          · refine hb.2 k o' hk ?_ e he hbe
            rwa [getD_set_ne hki] at hkb
        by_cases hei : i = e.on
        · have : e.on < b.size := by rw [hb.1, ← hei]; exact h1
          simp [Array.getD, hei, this]
        · rwa [getD_set_ne hei]
      · obtain ⟨pre, post, e1, e2, _⟩ := left_cut hb.1 h1 h2
        rw [e2]
        rw [e1] at hl
        simp only [List.length_append, List.length_cons] at hl ⊢
        omega
theorem region_sound {E : Env} {R : Oracle} (hT : TabOk P E.T) (hE : EqOk P E.T) (hA : LibOk P E) (hR : OSound P E R) (hM : OLe R R) (hF : Feas R) (hmix : P.follows .mixedOrders = true) {id : Nat} {ops : Array Oper} {draw : Bool} {K : St → Prop} (hn : Goes w0 g0 K (Q .normal)) (hI : Inv w0 g0 g l w st a)
    (h : cond draw (cond (drawOk E ops.toList) (aops E R ops.toList (openAt ops.toList) ops.toList 0 st K) (G (drawAft ops.toList) (aopsD E R ops.toList (ops.toList.length + 1) (List.range ops.toList.length) st K))) (aops E R ops.toList (fun _ => false) ops.toList 0 st K)) : (Code.region id ops draw).wp P Q a w := by
  cases draw with
  | false =>
    refine wp_region (aopsL_sound hT hE hA hR hn _ hI (?_ : aopsL E R ops.toList (fun _ => false) _ _ _))
    have := aops_L hM ops.toList [] st rfl h
    rw [List.range_eq_range']
    simpa using this
  | true =>
    have hI' : Inv w0 g0 g l { w with drawn := w.drawn + 1 } st a := hI.grow rfl rfl rfl (Nat.le_refl _) (fun _ _ => rfl)
    have hlist : Listed ops (Array.replicate ops.size false) := ⟨by simp, fun i o ho hb => by
      have hi : i < ops.size := by
        rcases Nat.lt_or_ge i ops.size with h | h
        · exact h
        · rw [Array.getElem?_eq_none h] at ho; cases ho
      simp [Array.getD, hi] at hb⟩
    have h0 : left ops.size (Array.replicate ops.size false) = List.range ops.size := by
      unfold left
      rw [List.filter_eq_self]
      intro i hi
      have := List.mem_range.1 hi
      simp [Array.getD, this]
    have hlen : (left ops.size (Array.replicate ops.size false)).length ≤ ops.size := by rw [h0, List.length_range]; exact Nat.le_refl _
    cases hd : drawOk E ops.toList with
    | true =>
      rw [hd] at h
      simp only [cond_true] at h
      refine wp_region_any hmix (wpAny_of hT hE hA hR hM hF hd hn ops.size _ hlist hlen hI' ?_)
      rw [h0]
      have := aops_L hM ops.toList [] st rfl h
      rw [List.range_eq_range']
      simpa using this
    | false =>
      rw [hd] at h
      simp only [cond_true, cond_false] at h
      obtain ⟨hd, h⟩ := G_out h
      refine wp_region_any hmix (wpAny_ofD hT hE hA hR hM hF hd hn ops.size _ hlist hlen hI' ?_)
      rw [h0]
      exact h
end
end Go.Proofs.Ytbkkhhmjmbbfpaa.Ab
