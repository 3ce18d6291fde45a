/- The quiet operations: what the abstract machine tells of them is so. First parts: types, operands, loads. -/
import Derived.Test.YtbkkhhmjmbbfpaaAbInv3
import Derived.Laws.Cells
namespace Go.Proofs.Ytbkkhhmjmbbfpaa.Ab
open Go

/-- The table of types is the program's; and its zero values are as the shapes tell. -/
def zeroCell : Value → CK → Bool
  | .int k m, .int k' => decide (k = k') && decide (m = 0)
  | .bool b, .bool => !b
  | .string s, .str => decide (s = ⟨#[]⟩)
  | .pointer none, .ptr => true
  | .slice none 0 0, .slice _ => true
  | .map none, .map => true
  | .nilFunc, .func => true
  | .nilIface, .iface => true
  | v, .other => v.oneCell'
  | _, _ => false
def zeroCells : List Value → List CK → Bool
  | [], [] => true
  | v :: vs, c :: cs => zeroCell v c && zeroCells vs cs
  | _, _ => false
def isAggV : Value → Bool | .agg _ => true | _ => false
def zeroOk (P : Program) (T : List TI) (t : Nat) : Bool :=
  match (ti T t).k with
  | .other => true
  | .tuple _ => true
  | _ => match P.info? t with
    | some i => match i.zero with
      | some z => zeroCells z.cells.toList (ti T t).shape && (Nat.beq (ti T t).shape.length (ti T t).size && (isAggT T t == isAggV z))
      | none => false
    | none => true
structure TabOk (P : Program) (T : List TI) : Prop where
  tys : tysOf P = T
  zeros : (List.range T.length).all (zeroOk P T) = true

section
variable {P : Program} {T : List TI}
theorem TabOk.get (h : TabOk P T) {t : Nat} (ht : (ti T t).k ≠ .other) : t < T.length ∧ ti T t = tyOf P t := by
  have hl : T.length = P.types.size := by rw [← h.tys]; simp [tysOf]
  by_cases hlt : t < T.length
  · refine ⟨hlt, ?_⟩
    have : T[t]? = some (tyOf P t) := by rw [← h.tys]; simp [tysOf, List.getElem?_range (by omega : t < P.types.size)]
    simp [ti, List.getD_eq_getElem?_getD, this]
  · exact absurd (by simp [ti, List.getD_eq_getElem?_getD, List.getElem?_eq_none (Nat.le_of_not_lt hlt)]) ht
theorem TabOk.k (h : TabOk P T) {t : Nat} (ht : (ti T t).k ≠ .other) : (ti T t).k = tkOf P t := by rw [(h.get ht).2]; rfl
theorem TabOk.size (h : TabOk P T) {t : Nat} (ht : (ti T t).k ≠ .other) : (ti T t).size = P.cellsOf t := by rw [(h.get ht).2]; rfl
theorem TabOk.bytes (h : TabOk P T) {t : Nat} (ht : (ti T t).k ≠ .other) : (ti T t).bytes = P.bytesOf t := by rw [(h.get ht).2]; rfl
theorem TabOk.shape (h : TabOk P T) {t : Nat} (ht : (ti T t).k ≠ .other) : (ti T t).shape = shapeOf P 20 t := by rw [(h.get ht).2]; rfl

theorem TabOk.info (h : TabOk P T) {t : Nat} (ht : (ti T t).k ≠ .other) : ∃ i, P.info? t = some i ∧ i.size = (ti T t).size ∧ i.bytes = (ti T t).bytes := by
  have hk := h.k ht
  cases hi : P.info? t with
  | none =>
    exfalso
    apply ht
    rw [hk]
    simp [tkOf, Program.underlying, hi]
  | some i => exact ⟨i, rfl, by rw [h.size ht]; simp [Program.cellsOf, hi], by rw [h.bytes ht]; simp [Program.bytesOf, hi]⟩
theorem TabOk.run_size (h : TabOk P T) {t : Nat} (ht : (ti T t).k ≠ .other) (w : World) : (sizeOf t).run P w = .ok (ti T t).size w := by
  obtain ⟨i, hi, hs, _⟩ := h.info ht
  simp [sizeOf, typeInfo, hi, hs]

/-- The kind that the table tells is the type's. -/
theorem TabOk.under (h : TabOk P T) {t : Nat} (ht : (ti T t).k ≠ .other) : ∃ d, P.underlying t = some d ∧ (ti T t).k = (match d with
    | .int k => .int k | .bool => .bool | .string => .str | .pointer e => .ptr e | .slice e => .slice e | .struct fs => .struct (fs.toList.map fun f => (f.offset, f.type))
    | .array n e => .array n e | .map k e => .map k e | .func .. => .func | .interface _ => .iface | .tuple es => .tuple es.toList | _ => TK.other) := by
  have hk := h.k ht
  cases hu : P.underlying t with
  | none => exfalso; apply ht; rw [hk]; simp [tkOf, hu]
  | some d =>
    refine ⟨d, rfl, ?_⟩
    rw [hk]
    simp only [tkOf, hu]
    cases d <;> rfl
theorem TabOk.u_int (h : TabOk P T) {t : Nat} {k : IntKind} (ht : (ti T t).k = .int k) : P.underlying t = some (.int k) := by
  obtain ⟨d, hd, hk⟩ := h.under (t := t) (by rw [ht]; simp)
  rw [ht] at hk
  cases d <;> simp_all
theorem TabOk.u_str (h : TabOk P T) {t : Nat} (ht : (ti T t).k = .str) : P.underlying t = some .string := by
  obtain ⟨d, hd, hk⟩ := h.under (t := t) (by rw [ht]; simp)
  rw [ht] at hk
  cases d <;> first | exact hd | (simp at hk; done)
theorem TabOk.u_slice (h : TabOk P T) {t e : Nat} (ht : (ti T t).k = .slice e) : P.underlying t = some (.slice e) := by
  obtain ⟨d, hd, hk⟩ := h.under (t := t) (by rw [ht]; simp)
  rw [ht] at hk
  cases d <;> simp_all
theorem TabOk.u_array (h : TabOk P T) {t n e : Nat} (ht : (ti T t).k = .array n e) : P.underlying t = some (.array n e) := by
  obtain ⟨d, hd, hk⟩ := h.under (t := t) (by rw [ht]; simp)
  rw [ht] at hk
  cases d <;> simp_all
theorem TabOk.u_struct (h : TabOk P T) {t : Nat} {fs : List (Nat × Nat)} (ht : (ti T t).k = .struct fs) : ∃ fa : Array Field, P.underlying t = some (.struct fa) ∧ fs = fa.toList.map fun f => (f.offset, f.type) := by
  obtain ⟨d, hd, hk⟩ := h.under (t := t) (by rw [ht]; simp)
  rw [ht] at hk
  cases d with
  | struct fa => exact ⟨fa, hd, by simpa using hk⟩
  | _ => simp at hk
theorem TabOk.run_isAgg (h : TabOk P T) {t : Nat} (ht : (ti T t).k ≠ .other) (w : World) : (isAgg t).run P w = .ok (isAggT T t) w := by
  obtain ⟨d, hd, hk⟩ := h.under ht
  have : (underlying t).run P w = .ok d w := by simp [Go.underlying, hd]
  simp only [isAgg, Sem.run_bind, this, Result.andThen, isAggT, hk]
  cases d <;> rfl
end

/-! Operands. -/
section
variable {P : Program} {w0 : World} {g0 g : Gs} {l : Gl} {w : World} {st : St} {a : Act}
theorem constAV_rep (n : Nat) (v : Value) : TRep g l w n (constAV v) v := by
  cases v
  case pointer p => cases p <;> simp [constAV, TRep]
  case map p => cases p <;> simp [constAV, TRep]
  case slice p m c =>
    cases p with
    | some p => simp [constAV, TRep]
    | none => cases m <;> cases c <;> simp [constAV, TRep]
  case agg cs =>
    simp only [constAV, TRep]
    refine ⟨cs.toList, by simp, TReps.mk (by simp) fun i c v hc hv => ?_⟩
    simp only [List.getElem?_map, Option.map_eq_some_iff] at hc
    obtain ⟨v', hv', rfl⟩ := hc
    rw [hv] at hv'
    cases hv'
    cases v
    case pointer p => cases p <;> simp [TRep]
    case map p => cases p <;> simp [TRep]
    case slice p m c =>
      cases p with
      | some p => simp [TRep]
      | none => cases m <;> cases c <;> simp [TRep]
    all_goals simp [TRep]
  all_goals simp [constAV, TRep]
theorem constAV_tags (v : Value) : tagsOf (constAV v) = [] := by
  cases v
  case pointer p => cases p <;> simp [constAV, tagsOf]
  case map p => cases p <;> simp [constAV, tagsOf]
  case slice p m c =>
    cases p with
    | some p => simp [constAV, tagsOf]
    | none => cases m <;> cases c <;> simp [constAV, tagsOf]
  case agg cs =>
    simp only [constAV, tagsOf]
    refine List.eq_nil_iff_forall_not_mem.2 fun t ht => ?_
    · obtain ⟨i, c, hc, ht⟩ := tagsOfs_iff ht
      simp only [List.getElem?_map, Option.map_eq_some_iff] at hc
      obtain ⟨v, hv, rfl⟩ := hc
      cases v
      case pointer p => cases p <;> simp [tagsOf] at ht
      case map p => cases p <;> simp [tagsOf] at ht
      case slice p m c =>
        cases p with
        | some p => simp [tagsOf] at ht
        | none => cases m <;> cases c <;> simp [tagsOf] at ht
      all_goals simp [tagsOf] at ht
  all_goals simp [constAV, tagsOf]
theorem lookup_mem {α : Type} {g : Nat} {p : α} : ∀ {l : List (Nat × α)}, l.lookup g = some p → (g, p) ∈ l
  | [], h => by cases h
  | (a, b) :: r, h => by
    rw [List.lookup_cons] at h
    by_cases e : g = a
    · subst e
      simp only [BEq.rfl] at h
      cases h
      simp
    · have : (g == a) = false := by simpa using e
      rw [this] at h
      exact List.mem_cons_of_mem _ (lookup_mem h)
theorem Inv.operand (h : Inv w0 g0 g l w st a) (x : Operand) : TRep g l w st.mem.length (ρ st.tm x) (a.eval x) ∧ ∀ t ∈ tagsOf (ρ st.tm x), t ∈ st.tags := by
  cases x with
  | tmp t =>
    simp only [ρ, Act.eval]
    cases hc : st.tm[t]? with
    | none =>
      simp only [List.getD_eq_getElem?_getD, hc, Option.getD_none]
      exact ⟨by simp [TRep], by simp [tagsOf]⟩
    | some c =>
      obtain ⟨v, hv, hr⟩ := h.tm.get hc
      have hv' : a.tmps[t]? = some v := by simpa using hv
      simp only [List.getD_eq_getElem?_getD, hc, Option.getD_some, Array.getD_eq_getD_getElem?, hv']
      exact ⟨hr, fun u hu => tags_tm (tagsOfs_get hc u hu)⟩
  | const v => exact ⟨constAV_rep _ v, by simp [ρ, constAV_tags]⟩
  | global g =>
    simp only [ρ]
    cases hl : fxT.lookup g with
    | none => exact ⟨by simp [TRep], by simp [tagsOf]⟩
    | some p =>
      have hm : (g, p) ∈ fxT := lookup_mem hl
      obtain ⟨h1, h2⟩ := h.heap.fx _ hm
      simp only [Option.isSome_some, cond_true]
      refine ⟨?_, by simp [tagsOf]⟩
      simp only [TRep, Act.eval]
      have hg : gl g = p.2.map (AV.int p.1) := by simp only [gl, hl]
      rw [hg]
      refine .rp g 0 0 _ (fun i => .int p.1 (p.2.getD i 0)) h1 (fun i hi => ?_) (fun i hi => rfl) (fun i c hc => ?_)
      · rw [List.length_map] at hi
        rw [Nat.zero_add]
        exact h2.cell (by simp [List.getD_eq_getElem?_getD, List.getElem?_eq_getElem hi])
      · rw [List.getElem?_map] at hc
        cases hp : p.2[i]? with
        | none => rw [hp] at hc; cases hc
        | some n =>
          rw [hp] at hc
          simp only [Option.map_some, Option.some.injEq] at hc
          subst hc
          simp only [List.getD_eq_getElem?_getD, hp, Option.getD_some]
          exact .int _ _
  | func f => exact ⟨by simp only [ρ, TRep, Act.eval]; exact .fn f [] [] rfl (by simp), by simp [ρ, tagsOf]⟩
end

theorem Rep.tags {w : World} {stb : Nat → Prop} {ob : Nat → Option Nat} {x : AV} {v : Value} (h : Rep w stb ob x v) : tagsOf x = [] := by
  have many : ∀ (cs : List AV) (vs : List Value), cs.length = vs.length → (∀ (i : Nat) (c : AV) (v : Value), cs[i]? = some c → vs[i]? = some v → tagsOf c = []) → tagsOfs cs = [] := by
    intro cs vs hl hr
    refine List.eq_nil_iff_forall_not_mem.2 fun t ht => ?_
    obtain ⟨i, c, hc, ht⟩ := tagsOfs_iff ht
    have hi : i < vs.length := by rw [← hl]; exact (List.getElem?_eq_some_iff.1 hc).1
    rw [hr i c vs[i] hc (List.getElem?_eq_getElem hi)] at ht
    simp at ht
  induction h with
  | agg cs vs hl hr ih => exact many cs vs hl ih
  | tup cs vs hl hr ih => exact many cs vs hl ih
  | iface t a v h ih => exact ih
  | _ => rfl

/-! Cells in the form that their kind tells. -/
def NormRel (x y : AV) : Prop := x.notAny = true ∧ ∀ (w : World) (stb : Nat → Prop) (ob : Nat → Option Nat) (v : Value), Rep w stb ob x v → Rep w stb ob y v
theorem norm_out {c : CK} {x : AV} {K : AV → Prop} (h : norm c x K) : ∃ y, K y ∧ NormRel x y ∧ ∀ K' : AV → Prop, K' y → norm c x K' := by
  cases c <;> simp only [norm] at h ⊢
  case int k =>
    cases x <;> simp only [AV.isInt, G, cond_false] at h
    rename_i k' n
    cases hk : decide (k = k') <;> rw [hk] at h <;> simp only [cond_false, cond_true] at h
    have hk' := of_decide_eq_true hk
    subst hk'
    exact ⟨_, h, ⟨rfl, fun _ _ _ _ h => h⟩, fun K' h => by simpa [G, AV.isInt] using h⟩
  case bool =>
    cases x <;> simp only [AV.isBool, G, cond_false] at h
    exact ⟨_, h, ⟨rfl, fun _ _ _ _ h => h⟩, fun K' h => by simpa [G, AV.isBool] using h⟩
  case str =>
    cases x <;> simp only [AV.isStr, G, cond_false] at h
    exact ⟨_, h, ⟨rfl, fun _ _ _ _ h => h⟩, fun K' h => by simpa [G, AV.isStr] using h⟩
  case slice k =>
    cases x <;> simp only [AV.isSl, G, cond_false, cond_true] at h
    case nilsl =>
      refine ⟨_, h, ⟨rfl, fun w stb ob v hv => ?_⟩, fun K' h => by simpa [G, AV.isSl] using h⟩
      cases hv
      exact .sl0 _ _ _
    case sl t k' xs =>
      cases t with
      | succ t => simp only [cond_false] at h
      | zero =>
        simp only at h
        cases hk : Nat.beq k k' <;> rw [hk] at h <;> simp only [cond_false, cond_true] at h
        have hk' := Nat.eq_of_beq_eq_true hk
        subst hk'
        exact ⟨_, h, ⟨rfl, fun _ _ _ _ h => h⟩, fun K' h => by simpa [G, AV.isSl] using h⟩
  case ptr =>
    cases x <;> simp only [AV.isObj, AV.isNilp, AV.objJ, G, cond_false, cond_true] at h
    case nilp => exact ⟨_, h, ⟨rfl, fun _ _ _ _ h => h⟩, fun K' h => by simpa [G, AV.isObj, AV.isNilp] using h⟩
    case obj j o =>
      cases o with
      | zero => exact ⟨_, h, ⟨rfl, fun _ _ _ _ h => h⟩, fun K' h => by simpa [G, AV.isObj, AV.objJ] using h⟩
      | succ o => exact h.elim
  case map =>
    cases x <;> simp only [AV.isMap, AV.isNilmap, AV.mapJ, G, cond_false, cond_true] at h
    · exact ⟨_, h, ⟨rfl, fun _ _ _ _ h => h⟩, fun K' h => by simpa [G, AV.isMap, AV.mapJ] using h⟩
    · exact ⟨_, h, ⟨rfl, fun _ _ _ _ h => h⟩, fun K' h => by simpa [G, AV.isMap, AV.isNilmap] using h⟩
  case iface =>
    cases x <;> simp only [AV.isIf, AV.isNilif, AV.ifT, AV.ifV, G, cond_false, cond_true] at h
    · exact ⟨_, h, ⟨rfl, fun _ _ _ _ h => h⟩, fun K' h => by simpa [G, AV.isIf, AV.ifT, AV.ifV] using h⟩
    · exact ⟨_, h, ⟨rfl, fun _ _ _ _ h => h⟩, fun K' h => by simpa [G, AV.isIf, AV.isNilif] using h⟩
  all_goals
    cases hx : x.notAny <;> rw [hx] at h <;> simp only [G, cond_false, cond_true] at h
    exact ⟨x, h, ⟨hx, fun _ _ _ _ h => h⟩, fun K' h => by simpa [G] using h⟩
theorem norm1_out {c : CK} {x : AV} {K : AV → Prop} (h : norm1 c x K) : ∃ y, K y ∧ NormRel x y ∧ ∀ K' : AV → Prop, K' y → norm1 c x K' := by
  cases c <;> simp only [norm1] at h ⊢ <;> try exact norm_out h
  case ptr =>
    cases x <;> simp only [AV.isObj, AV.objJ, G, cond_false, cond_true] at h
    rename_i j o
    cases o with
    | zero => exact ⟨_, h, ⟨rfl, fun _ _ _ _ h => h⟩, fun K' h => by simpa [G, AV.isObj, AV.objJ] using h⟩
    | succ o => exact h.elim
  case map =>
    cases x <;> simp only [AV.isMap, AV.mapJ, G, cond_false, cond_true] at h
    exact ⟨_, h, ⟨rfl, fun _ _ _ _ h => h⟩, fun K' h => by simpa [G, AV.isMap, AV.mapJ] using h⟩
theorem normO_out {c : CK} {x : AV} {K : AV → Prop} (h : normO c x K) : ∃ y, K y ∧ NormRel x y ∧ ∀ K' : AV → Prop, K' y → normO c x K' := by
  cases c <;> simp only [normO] at h ⊢ <;> try exact norm_out h
  case slice k =>
    cases x <;> simp only [AV.isHs, AV.isNilsl, AV.hsJ, AV.hsO, AV.hsN, AV.hsC, G, cond_false, cond_true] at h
    case nilsl => exact ⟨_, h, ⟨rfl, fun _ _ _ _ h => h⟩, fun K' h => by simpa [G, AV.isHs, AV.isNilsl] using h⟩
    case hs j o n c k' =>
      cases hk : Nat.beq k' k <;> rw [hk] at h <;> simp only [cond_false, cond_true] at h
      have := Nat.eq_of_beq_eq_true hk
      subst this
      exact ⟨_, h, ⟨rfl, fun _ _ _ _ h => h⟩, fun K' h => by simpa [G, AV.isHs, AV.hsJ, AV.hsO, AV.hsN, AV.hsC] using h⟩
theorem normM_out {c : CK} {x : AV} {K : AV → Prop} (h : normM c x K) : K x ∧ x.notAny = true ∧ ∀ K' : AV → Prop, K' x → normM c x K' := by
  cases c <;> simp only [normM] at h ⊢
  case int k =>
    cases x <;> simp only [AV.isInt, G, cond_false] at h
    rename_i k' n
    cases hk : decide (k = k') <;> rw [hk] at h <;> simp only [cond_false, cond_true] at h
    have hk' := of_decide_eq_true hk
    subst hk'
    exact ⟨h, rfl, fun K' h => by simpa [G, AV.isInt, AV.toInt] using h⟩
  case bool =>
    cases x <;> simp only [AV.isBool, G, cond_false] at h
    exact ⟨h, rfl, fun K' h => by simpa [G, AV.isBool, AV.toBool] using h⟩
  case str =>
    cases x <;> simp only [AV.isStr, G, cond_false] at h
    exact ⟨h, rfl, fun K' h => by simpa [G, AV.isStr, AV.toStr] using h⟩
  all_goals
    cases hx : x.notAny <;> rw [hx] at h <;> simp only [G, cond_false, cond_true] at h
    exact ⟨h, rfl, fun K' h => by simpa [G] using h⟩
theorem normL_out {get : Nat → AV} : ∀ {cs : List CK} {o : Nat} {K : List AV → Prop}, normL get cs o K →
    ∃ ys, K ys ∧ ys.length = cs.length ∧ (∀ (i : Nat) (y : AV), ys[i]? = some y → NormRel (get (o + i)) y) ∧ ∀ K' : List AV → Prop, K' ys → normL get cs o K'
  | [], o, K, h => ⟨[], h, rfl, by simp, fun K' h => h⟩
  | c :: cs, o, K, h => by
    simp only [normL] at h ⊢
    obtain ⟨y, h, hr, hd⟩ := norm_out h
    obtain ⟨ys, h, hl, hrs, hds⟩ := normL_out h
    refine ⟨y :: ys, h, by simp [hl], fun i z hz => ?_, fun K' hK => hd _ (hds _ hK)⟩
    cases i with
    | zero => simp at hz; subst hz; exact hr
    | succ i =>
      have := hrs i z (by simpa using hz)
      rwa [show o + 1 + i = o + (i + 1) by omega] at this
theorem normOL_out {get : Nat → AV} : ∀ {cs : List CK} {o : Nat} {K : List AV → Prop}, normOL get cs o K →
    ∃ ys, K ys ∧ ys.length = cs.length ∧ (∀ (i : Nat) (y : AV), ys[i]? = some y → NormRel (get (o + i)) y) ∧ ∀ K' : List AV → Prop, K' ys → normOL get cs o K'
  | [], o, K, h => ⟨[], h, rfl, by simp, fun K' h => h⟩
  | c :: cs, o, K, h => by
    simp only [normOL] at h ⊢
    obtain ⟨y, h, hr, hd⟩ := normO_out h
    obtain ⟨ys, h, hl, hrs, hds⟩ := normOL_out h
    refine ⟨y :: ys, h, by simp [hl], fun i z hz => ?_, fun K' hK => hd _ (hds _ hK)⟩
    cases i with
    | zero => simp at hz; subst hz; exact hr
    | succ i =>
      have := hrs i z (by simpa using hz)
      rwa [show o + 1 + i = o + (i + 1) by omega] at this
theorem normML_out {get : Nat → AV} : ∀ {cs : List CK} {o : Nat} {K : List AV → Prop}, normML get cs o K →
    ∃ ys, K ys ∧ ys.length = cs.length ∧ (∀ (i : Nat) (y : AV), ys[i]? = some y → y = get (o + i) ∧ y.notAny = true) ∧ ∀ K' : List AV → Prop, K' ys → normML get cs o K'
  | [], o, K, h => ⟨[], h, rfl, by simp, fun K' h => h⟩
  | c :: cs, o, K, h => by
    simp only [normML] at h ⊢
    obtain ⟨h, hr, hd⟩ := normM_out h
    obtain ⟨ys, h, hl, hrs, hds⟩ := normML_out h
    refine ⟨get o :: ys, h, by simp [hl], fun i z hz => ?_, fun K' hK => hd _ (hds _ hK)⟩
    cases i with
    | zero => simp at hz; subst hz; exact ⟨rfl, hr⟩
    | succ i =>
      have := hrs i z (by simpa using hz)
      rwa [show o + 1 + i = o + (i + 1) by omega] at this
theorem getD_notAny {cs : List AV} {i : Nat} (h : (cs.getD i .any).notAny = true) : ∃ c, cs[i]? = some c ∧ cs.getD i .any = c := by
  rw [List.getD_eq_getElem?_getD] at h ⊢
  cases hc : cs[i]? with
  | none => rw [hc] at h; simp [AV.notAny] at h
  | some c => exact ⟨c, rfl, rfl⟩
end Go.Proofs.Ytbkkhhmjmbbfpaa.Ab
