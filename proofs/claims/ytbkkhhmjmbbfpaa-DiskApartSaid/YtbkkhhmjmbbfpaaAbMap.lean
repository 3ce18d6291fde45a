/- Maps: what the model's operations on them give. -/
import Derived.Test.YtbkkhhmjmbbfpaaAbOps2
import Derived.MapKept
import Derived.WideKeyRuns
namespace Go.Proofs.Ytbkkhhmjmbbfpaa.Ab
open Go

theorem const_int {v : Value} {k : IntKind} {n : Int} (h : constAV v = .int k n) : v = .int k n := by
  unfold constAV at h
  split at h <;> first | (simp at h; done) | (simp at h; obtain ⟨rfl, rfl⟩ := h; rfl)
theorem const_bool {v : Value} {b : Bool} (h : constAV v = .bool b) : v = .bool b := by
  unfold constAV at h
  split at h <;> first | (simp at h; done) | (simp at h; subst h; rfl)
theorem const_str {v : Value} {s : ByteArray} (h : constAV v = .str s) : v = .string s := by
  unfold constAV at h
  split at h <;> first | (simp at h; done) | (simp at h; subst h; rfl)
/-- '==' of structs and arrays of numbers, bools and strings alone; such a struct as a map's key. -/
def EqOk (P : Program) (T : List TI) : Prop := (∀ (t : Nat) (x y : Operand) (cs ds : List AV) (vs us : List Value) (b : Bool) (w : World), plainT T t = true → eqCells cs ds = some b → cellsFit (plainK T t) cs = true → cellsFit (plainK T t) ds = true →
  vs.map constAV = cs → us.map constAV = ds →
  (eqGuard .eql t x y (.agg vs.toArray) (.agg us.toArray)).run P w = .ok () w ∧ (eqGuard .neq t x y (.agg vs.toArray) (.agg us.toArray)).run P w = .ok () w ∧
  (Op.equal t (.agg vs.toArray) (.agg us.toArray)).run P w = .ok b w) ∧
  ∀ (t : Nat) (cs : List AV) (vs : List Value) (em : Bool) (w : World), plainT T t = true → cellsFit (plainK T t) cs = true → vs.map constAV = cs → (Instr.checkKey em 10000 t (.agg vs.toArray)).run P w = .ok () w

theorem eqCells_true : ∀ {cs ds : List AV}, eqCells cs ds = some true → cs = ds
  | [], [], _ => rfl
  | c :: cs, d :: ds, h => by
    cases c <;> cases d <;> simp only [eqCells] at h <;> try (simp at h; done)
    case int.int k a k' b =>
      cases hk : decide (k = k') <;> rw [hk] at h <;> simp only [cond_false, cond_true] at h
      · cases h
      · obtain ⟨q, hq, e⟩ := Option.map_eq_some_iff.1 h
        simp only [Bool.and_eq_true, eqI, decide_eq_true_eq] at e
        obtain ⟨rfl, rfl⟩ := e
        rw [of_decide_eq_true hk, eqCells_true hq]
    case bool.bool a b =>
      obtain ⟨q, hq, e⟩ := Option.map_eq_some_iff.1 h
      simp only [Bool.and_eq_true, beq_iff_eq] at e
      obtain ⟨rfl, rfl⟩ := e
      rw [eqCells_true hq]
    case str.str a b =>
      obtain ⟨q, hq, e⟩ := Option.map_eq_some_iff.1 h
      simp only [Bool.and_eq_true, eqS, decide_eq_true_eq] at e
      obtain ⟨rfl, rfl⟩ := e
      rw [eqCells_true hq]
  | [], _ :: _, h => by simp [eqCells] at h
  | _ :: _, [], h => by simp [eqCells] at h
theorem eqCells_fit : ∀ {ks : List CK} {cs ds : List AV}, cellsFit ks cs = true → cellsFit ks ds = true → ∃ b, eqCells cs ds = some b
  | [], [], [], _, _ => ⟨true, rfl⟩
  | k :: ks, [], _, h, _ => by cases k <;> simp [cellsFit] at h
  | k :: ks, _ :: _, [], _, h => by cases k <;> simp [cellsFit] at h
  | [], _ :: _, _, h, _ => by simp [cellsFit] at h
  | [], [], _ :: _, _, h => by simp [cellsFit] at h
  | k :: ks, c :: cs, d :: ds, h, h' => by
    cases k <;> cases c <;> simp only [cellsFit, Bool.and_eq_true] at h <;> try (simp at h; done)
    case int.int k k' n =>
      cases d <;> simp only [cellsFit, Bool.and_eq_true] at h' <;> try (simp at h'; done)
      obtain ⟨b, hb⟩ := eqCells_fit h.2 h'.2
      have e1 := of_decide_eq_true h.1
      have e2 := of_decide_eq_true h'.1
      subst e1
      subst e2
      exact ⟨_, by simp only [eqCells, decide_true, cond_true, hb, Option.map_some]; rfl⟩
    case bool.bool a =>
      cases d <;> simp only [cellsFit] at h' <;> try (simp at h'; done)
      obtain ⟨b, hb⟩ := eqCells_fit h h'
      exact ⟨_, by simp only [eqCells, hb, Option.map_some]; rfl⟩
    case str.str a =>
      cases d <;> simp only [cellsFit] at h' <;> try (simp at h'; done)
      obtain ⟨b, hb⟩ := eqCells_fit h h'
      exact ⟨_, by simp only [eqCells, hb, Option.map_some]; rfl⟩
theorem cellsFit_plain : ∀ {ks : List CK} {cs : List AV}, cellsFit ks cs = true → ∀ c ∈ cs, (∃ k n, c = .int k n) ∨ (∃ b, c = .bool b) ∨ ∃ s, c = .str s
  | [], [], _, c, hc => by cases hc
  | [], _ :: _, h, _, _ => by simp [cellsFit] at h
  | k :: ks, [], h, _, _ => by cases k <;> simp [cellsFit] at h
  | k :: ks, d :: cs, h, c, hc => by
    cases k <;> cases d <;> simp only [cellsFit, Bool.and_eq_true] at h <;> try (simp at h; done)
    case int.int k' n => cases hc with | head => exact .inl ⟨_, _, rfl⟩ | tail _ hc => exact cellsFit_plain h.2 c hc
    case bool.bool b => cases hc with | head => exact .inr (.inl ⟨_, rfl⟩) | tail _ hc => exact cellsFit_plain h c hc
    case str.str s => cases hc with | head => exact .inr (.inr ⟨_, rfl⟩) | tail _ hc => exact cellsFit_plain h c hc
theorem const_inj {u v : Value} (h : constAV u = constAV v) (hp : (∃ k n, constAV u = .int k n) ∨ (∃ b, constAV u = .bool b) ∨ ∃ s, constAV u = .str s) : u = v := by
  rcases hp with ⟨k, n, e⟩ | ⟨b, e⟩ | ⟨s, e⟩
  · exact (const_int e).trans (const_int (h.symm.trans e)).symm
  · exact (const_bool e).trans (const_bool (h.symm.trans e)).symm
  · exact (const_str e).trans (const_str (h.symm.trans e)).symm
theorem const_rep {w : World} {stb : Nat → Prop} {ob : Nat → Option Nat} {c : AV} {v : Value} (h : Rep w stb ob c v) (hp : (∃ k n, c = .int k n) ∨ (∃ b, c = .bool b) ∨ ∃ s, c = .str s) : constAV v = c := by
  rcases hp with ⟨k, n, rfl⟩ | ⟨b, rfl⟩ | ⟨s, rfl⟩ <;> cases h <;> rfl

section
variable {P : Program} {T : List TI}
theorem TabOk.u_bool (h : TabOk P T) {t : Nat} (ht : (ti T t).k = .bool) : P.underlying t = some .bool := by
  obtain ⟨d, hd, hk⟩ := h.under (t := t) (by rw [ht]; simp)
  rw [ht] at hk
  cases d <;> first | exact hd | (simp at hk; done)
theorem TabOk.u_ptr (h : TabOk P T) {t e : Nat} (ht : (ti T t).k = .ptr e) : P.underlying t = some (.pointer e) := by
  obtain ⟨d, hd, hk⟩ := h.under (t := t) (by rw [ht]; simp)
  rw [ht] at hk
  cases d <;> simp_all
theorem TabOk.u_map (h : TabOk P T) {t k e : Nat} (ht : (ti T t).k = .map k e) : P.underlying t = some (.map k e) := by
  obtain ⟨d, hd, hk⟩ := h.under (t := t) (by rw [ht]; simp)
  rw [ht] at hk
  cases d <;> simp_all
theorem TabOk.u_func (h : TabOk P T) {t : Nat} (ht : (ti T t).k = .func) : ∃ a b c, P.underlying t = some (.func a b c) := by
  obtain ⟨d, hd, hk⟩ := h.under (t := t) (by rw [ht]; simp)
  rw [ht] at hk
  cases d <;> first | exact ⟨_, _, _, hd⟩ | (simp at hk; done)
theorem TabOk.u_iface (h : TabOk P T) {t : Nat} (ht : (ti T t).k = .iface) : ∃ a, P.underlying t = some (.interface a) := by
  obtain ⟨d, hd, hk⟩ := h.under (t := t) (by rw [ht]; simp)
  rw [ht] at hk
  cases d <;> first | exact ⟨_, hd⟩ | (simp at hk; done)
end
/-- A key as a value of the model. -/
structure IsK (T : List TI) (kt : Nat) (k : AV) (v : Value) : Prop where
  fits : keyFits (keyT T kt) (isAggT T kt) k = true
  val : (isAggT T kt = true ∧ ∃ vs : List Value, v = .agg vs.toArray ∧ k = .agg (vs.map constAV)) ∨ (isAggT T kt = false ∧ constAV v = k)
section
variable {P : Program} {T : List TI} {w : World} {stb : Nat → Prop} {ob : Nat → Option Nat} {kt : Nat} {k k' : AV} {v v' : Value}
theorem isK_of (h : keyFits (keyT T kt) (isAggT T kt) k = true) (hr : Rep w stb ob k v) : IsK T kt k v := by
  refine ⟨h, ?_⟩
  unfold keyFits at h
  split at h
  · rename_i cs
    simp only [Bool.and_eq_true] at h
    refine .inl ⟨h.1, ?_⟩
    cases hr with
    | agg _ vs hl hr =>
      refine ⟨vs, rfl, ?_⟩
      congr 1
      apply List.ext_getElem?
      intro i
      rw [List.getElem?_map]
      cases hc : cs[i]? with
      | none => rw [List.getElem?_eq_none_iff] at hc; rw [List.getElem?_eq_none (by rw [← hl]; exact hc)]; rfl
      | some c =>
        have hi : i < vs.length := by rw [← hl]; exact (List.getElem?_eq_some_iff.1 hc).1
        rw [List.getElem?_eq_getElem hi, Option.map_some]
        rw [const_rep (hr i c _ hc (List.getElem?_eq_getElem hi)) (cellsFit_plain h.2 c (List.mem_of_getElem? hc))]
  · simp only [Bool.and_eq_true, Bool.not_eq_true'] at h
    exact .inr ⟨h.1, const_rep hr (cellsFit_plain h.2 _ (by simp))⟩
theorem IsK.inj (h : IsK T kt k v) (h' : IsK T kt k' v') (e : keyEq k k' = true) : v = v' := by
  unfold keyEq at e
  split at e <;> try (cases e; done)
  rename_i b hb
  subst e
  have hc := eqCells_true hb
  have f1 := h.fits
  rcases h.val with ⟨a, vs, rfl, rfl⟩ | ⟨a, rfl⟩ <;> rcases h'.val with ⟨a', us, rfl, rfl⟩ | ⟨a', rfl⟩ <;> try (rw [a] at a'; cases a'; done)
  · simp only [cellsOf] at hc
    simp only [keyFits, Bool.and_eq_true] at f1
    have : vs = us := by
      apply List.ext_getElem?
      intro i
      have hi := congrArg (·[i]?) hc
      simp only [List.getElem?_map] at hi
      cases hv : vs[i]? with
      | none => rw [hv] at hi; simpa using hi.symm
      | some x =>
        rw [hv] at hi
        obtain ⟨y, hy, e⟩ := Option.map_eq_some_iff.1 hi.symm
        rw [hy]
        congr 1
        exact (const_inj e.symm (cellsFit_plain f1.2 _ (by simp only [List.mem_map]; exact ⟨x, List.mem_of_getElem? hv, rfl⟩)))
    rw [this]
  · have hn : ∀ v : Value, keyFits (keyT T kt) (isAggT T kt) (constAV v) = true → cellsOf (constAV v) = [constAV v] ∧ cellsFit (keyT T kt) [constAV v] = true := fun v h => by
      rw [a] at h
      unfold keyFits at h
      split at h
      · simp at h
      · rename_i x hx
        simp only [Bool.not_false, Bool.true_and] at h
        refine ⟨?_, h⟩
        cases hh : constAV v <;> first | rfl | exact absurd hh (hx _)
    obtain ⟨c1, c2⟩ := hn _ f1
    obtain ⟨c3, c4⟩ := hn _ h'.fits
    rw [c1, c3] at hc
    simp only [List.cons.injEq, and_true] at hc
    exact const_inj hc (cellsFit_plain c2 _ (by simp))

/-- The place of the first entry with a key. -/
def midx (k : AV) : List (Nat × AV × AV) → Option Nat
  | [] => none
  | e :: r => cond (keyEq k e.2.1) (some 0) ((midx k r).map (· + 1))
theorem mfind_idx (k : AV) : ∀ es : List (Nat × AV × AV), mfind k es = (midx k es).bind fun i => (es[i]?).map fun e => e.2.2
  | [] => rfl
  | e :: r => by
    simp only [mfind, midx]
    cases keyEq k e.2.1
    · simp only [cond_false, mfind_idx k r]
      cases midx k r <;> simp
    · simp
theorem midx_get {k : AV} : ∀ {es : List (Nat × AV × AV)} {i : Nat}, midx k es = some i → ∃ e, es[i]? = some e ∧ keyEq k e.2.1 = true
  | e :: r, i, h => by
    simp only [midx] at h
    cases hk : keyEq k e.2.1 <;> rw [hk] at h <;> simp only [cond_false, cond_true] at h
    · obtain ⟨j, hj, rfl⟩ := Option.map_eq_some_iff.1 h
      obtain ⟨e', h1, h2⟩ := midx_get hj
      exact ⟨e', by simpa using h1, h2⟩
    · cases h
      exact ⟨e, rfl, hk⟩
theorem mput_idx (k v : AV) (c : Nat) : ∀ es : List (Nat × AV × AV), mput k v c es = match midx k es with | some i => (es.set i (((es[i]?).map (·.1)).getD 0, k, v)) | none => es ++ [(c, k, v)]
  | [] => rfl
  | e :: r => by
    simp only [mput, midx, mput_idx k v c r]
    cases keyEq k e.2.1
    · cases midx k r <;> simp
    · simp
theorem mdel_idx (k : AV) : ∀ es : List (Nat × AV × AV), mdel k es = match midx k es with | some i => es.eraseIdx i | none => es
  | [] => rfl
  | e :: r => by
    simp only [mdel, midx, mdel_idx k r]
    cases keyEq k e.2.1
    · cases midx k r <;> simp
    · simp

/-- The model's search. -/
theorem run_find (hT : TabOk P T) (hE : EqOk P T) (hk : keyOkT T kt = true) {es : List (Nat × AV × AV)} {vs : List MapEntry} (hv : IsK T kt k v) (hl : vs.length = es.length) (hes : ∀ (i : Nat) (a : Nat × AV × AV) (e : MapEntry), es[i]? = some a → vs[i]? = some e → IsK T kt a.2.1 e.key) :
    (Instr.findKey kt v vs).run P w = .ok ((midx k es).bind fun i => (vs[i]?).map fun e => (i, e.val)) w := by
  have fits_cells : ∀ {k : AV}, keyFits (keyT T kt) (isAggT T kt) k = true → cellsFit (keyT T kt) (cellsOf k) = true := fun {k} h => by
    unfold keyFits at h
    split at h
    · simp only [Bool.and_eq_true] at h; exact h.2
    · rename_i hx
      simp only [Bool.and_eq_true] at h
      have : cellsOf k = [k] := by cases k <;> first | rfl | exact (hx _ rfl).elim
      rw [this]; exact h.2
  have eqSome : ∀ {k k' : AV} {v v' : Value}, IsK T kt k v → IsK T kt k' v' → eqCells (cellsOf k) (cellsOf k') = some (keyEq k k') := fun h h' => by
    obtain ⟨b, hb⟩ := eqCells_fit (fits_cells h.fits) (fits_cells h'.fits)
    unfold keyEq
    rw [hb]
  unfold keyOkT at hk
  cases hagg : isAggT T kt
  · rw [hagg] at hk
    simp only [cond_false] at hk
    have h0 : ∀ {k : AV} {v : Value}, IsK T kt k v → constAV v = k := fun h => by
      rcases h.val with ⟨a, _⟩ | ⟨_, e⟩
      · rw [hagg] at a; cases a
      · exact e
    -- scalars: the search at once
    obtain ⟨d, hd, hs⟩ : ∃ d, P.underlying kt = some d ∧ ∀ {k k' : AV} {v v' : Value}, IsK T kt k v → IsK T kt k' v' → Instr.sameNow d v v' = some (keyEq k k') := by
      simp only [eqT] at hk
      have shape1 : ∀ {k : AV} {v : Value}, IsK T kt k v → cellsFit (kindsT T 1 kt) (cellsOf k) = true := fun h => by
        have := fits_cells h.fits
        unfold keyT at this
        rwa [hagg, cond_false] at this
      cases hkk : (ti T kt).k <;> rw [hkk] at hk <;> try (simp at hk; done)
      case int ik =>
        refine ⟨_, hT.u_int hkk, fun {k k' v v'} h h' => ?_⟩
        have e1 := eqSome h h'
        have f1 := shape1 h
        have f2 := shape1 h'
        simp only [kindsT, hkk] at f1 f2
        have c1 := h0 h
        have c2 := h0 h'
        subst c1
        subst c2
        cases hc : constAV v <;> rw [hc] at f1 e1 <;> simp only [cellsOf, cellsFit, Bool.and_eq_true] at f1 <;> try (simp at f1; done)
        · cases hc' : constAV v' <;> rw [hc'] at f2 e1 <;> simp only [cellsOf, cellsFit, Bool.and_eq_true] at f2 <;> try (simp at f2; done)
          · rw [const_int hc, const_int hc']
            have g1 := of_decide_eq_true f1.1
            have g2 := of_decide_eq_true f2.1
            subst g1
            rw [← g2] at e1 ⊢
            simp only [cellsOf, eqCells, decide_true, cond_true, Option.map_some, Bool.and_true] at e1
            simp only [Instr.sameNow, if_true]
            rw [← e1, eqI]
            congr 1
          · exact absurd (hc' ▸ h'.fits) (by rw [hagg]; simp [keyFits])
        · exact absurd (hc ▸ h.fits) (by rw [hagg]; simp [keyFits])
      case bool =>
        refine ⟨_, hT.u_bool hkk, fun {k k' v v'} h h' => ?_⟩
        have e1 := eqSome h h'
        have f1 := shape1 h
        have f2 := shape1 h'
        simp only [kindsT, hkk] at f1 f2
        have c1 := h0 h
        have c2 := h0 h'
        subst c1
        subst c2
        cases hc : constAV v <;> rw [hc] at f1 e1 <;> simp only [cellsOf, cellsFit] at f1 <;> try (simp at f1; done)
        · cases hc' : constAV v' <;> rw [hc'] at f2 e1 <;> simp only [cellsOf, cellsFit] at f2 <;> try (simp at f2; done)
          · rw [const_bool hc, const_bool hc']
            simp only [cellsOf, eqCells, Option.map_some, Bool.and_true] at e1
            simp only [Instr.sameNow]
            rw [← e1]
          · exact absurd (hc' ▸ h'.fits) (by rw [hagg]; simp [keyFits])
        · exact absurd (hc ▸ h.fits) (by rw [hagg]; simp [keyFits])
      case str =>
        refine ⟨_, hT.u_str hkk, fun {k k' v v'} h h' => ?_⟩
        have e1 := eqSome h h'
        have f1 := shape1 h
        have f2 := shape1 h'
        simp only [kindsT, hkk] at f1 f2
        have c1 := h0 h
        have c2 := h0 h'
        subst c1
        subst c2
        cases hc : constAV v <;> rw [hc] at f1 e1 <;> simp only [cellsOf, cellsFit] at f1 <;> try (simp at f1; done)
        · cases hc' : constAV v' <;> rw [hc'] at f2 e1 <;> simp only [cellsOf, cellsFit] at f2 <;> try (simp at f2; done)
          · rw [const_str hc, const_str hc']
            simp only [cellsOf, eqCells, Option.map_some, Bool.and_true] at e1
            simp only [Instr.sameNow]
            rw [← e1]
            congr 1
            rw [Bool.eq_iff_iff, MapKept.bytes_beq, eqS, decide_eq_true_eq]
          · exact absurd (hc' ▸ h'.fits) (by rw [hagg]; simp [keyFits])
        · exact absurd (hc ▸ h.fits) (by rw [hagg]; simp [keyFits])
      case struct fs => simp [isAggT, hkk] at hagg
    refine MapKept.run_findKey hd ?_
    have key : ∀ (es : List (Nat × AV × AV)) (vs : List MapEntry) (i : Nat), vs.length = es.length → (∀ (i : Nat) (a : Nat × AV × AV) (e : MapEntry), es[i]? = some a → vs[i]? = some e → IsK T kt a.2.1 e.key) →
        Instr.findNow d v vs i = some ((midx k es).bind fun j => (vs[j]?).map fun e => (i + j, e.val)) := by
      intro es
      induction es with
      | nil => intro vs i hl _; cases vs with | nil => rfl | cons _ _ => simp at hl
      | cons a es ih =>
        intro vs i hl hes
        cases vs with
        | nil => simp at hl
        | cons e vs =>
          have h1 := hs hv (hes 0 a e rfl rfl)
          simp only [Instr.findNow, h1, midx]
          cases keyEq k a.2.1
          · simp only [cond_false]
            rw [ih vs (i + 1) (by simpa using hl) fun i a e ha he => hes (i + 1) a e (by simpa using ha) (by simpa using he)]
            cases midx k es with
            | none => rfl
            | some j => simp; congr 1; funext e; congr 1; omega
          · simp
    have := key es vs 0 hl hes
    simpa using this
  · rw [hagg] at hk
    simp only [cond_true] at hk
    have hkind : (match P.underlying kt with | some (.array _ _) | some (.struct _) => true | _ => false) = true := by
      unfold plainT at hk
      cases hkk : (ti T kt).k <;> rw [hkk] at hk <;> try (simp at hk; done)
      obtain ⟨fa, hfa, _⟩ := hT.u_struct hkk
      rw [hfa]
    rw [run_findKey_eq w hkind]
    have h0 : ∀ {k : AV} {v : Value}, IsK T kt k v → ∃ vs : List Value, v = .agg vs.toArray ∧ k = .agg (vs.map constAV) ∧ cellsFit (plainK T kt) (vs.map constAV) = true := fun {k v} h => by
      rcases h.val with ⟨_, vs, e1, e2⟩ | ⟨a, _⟩
      · refine ⟨vs, e1, e2, ?_⟩
        have := fits_cells h.fits
        unfold keyT at this
        rw [hagg, cond_true, e2] at this
        exact this
      · rw [hagg] at a; cases a
    have heq : ∀ {k k' : AV} {v v' : Value} (w : World), IsK T kt k v → IsK T kt k' v' → (Op.equal kt v v').run P w = .ok (keyEq k k') w := fun {k k' v v'} w h h' => by
      have e1 := eqSome h h'
      obtain ⟨vs, rfl, rfl, f1⟩ := h0 h
      obtain ⟨us, rfl, rfl, f2⟩ := h0 h'
      exact (hE.1 kt (.const (.bool true)) (.const (.bool true)) _ _ vs us _ w hk e1 f1 f2 rfl rfl).2.2
    have key : ∀ (es : List (Nat × AV × AV)) (vs : List MapEntry) (i : Nat), vs.length = es.length → (∀ (i : Nat) (a : Nat × AV × AV) (e : MapEntry), es[i]? = some a → vs[i]? = some e → IsK T kt a.2.1 e.key) →
        (Instr.findAsking kt v vs i).run P w = .ok ((midx k es).bind fun j => (vs[j]?).map fun e => (i + j, e.val)) w := by
      intro es
      induction es with
      | nil => intro vs i hl _; cases vs with | nil => rfl | cons _ _ => simp at hl
      | cons a es ih =>
        intro vs i hl hes
        cases vs with
        | nil => simp at hl
        | cons e vs =>
          have h1 := heq w hv (hes 0 a e rfl rfl)
          simp only [Instr.findAsking, Sem.run_bind, h1, midx, Result.andThen_ok]
          cases keyEq k a.2.1
          · simp only [cond_false, Bool.false_eq_true, if_false]
            rw [ih vs (i + 1) (by simpa using hl) fun i a e ha he => hes (i + 1) a e (by simpa using ha) (by simpa using he)]
            cases midx k es with
            | none => rfl
            | some j => simp; congr 1; funext e; congr 1; omega
          · simp
    have := key es vs 0 hl hes
    simpa using this
theorem run_check (hT : TabOk P T) (hE : EqOk P T) (hk : keyOkT T kt = true) (hv : IsK T kt k v) (em : Bool) : (Instr.checkKey em 10000 kt v).run P w = .ok () w := by
  unfold keyOkT at hk
  have f := hv.fits
  rcases hv.val with ⟨a, vs, rfl, rfl⟩ | ⟨a, rfl⟩
  · rw [a] at hk f
    simp only [cond_true] at hk
    simp only [keyFits, keyT, a, Bool.true_and, cond_true] at f
    exact hE.2 kt _ vs em w hk f rfl
  · rw [a] at hk f
    simp only [cond_false] at hk
    simp only [eqT] at hk
    have f' : cellsFit (kindsT T 1 kt) [constAV v] = true := by
      unfold keyFits at f
      split at f
      · simp at f
      · simp only [keyT, a, cond_false, Bool.not_false, Bool.true_and] at f; exact f
    cases hkk : (ti T kt).k <;> rw [hkk] at hk <;> try (simp at hk; done)
    case int ik =>
      simp only [kindsT, hkk] at f'
      refine MapKept.run_checkKey (d := .int ik) (hT.u_int hkk) ?_ em 9999
      cases hc : constAV v <;> rw [hc] at f' <;> simp only [cellsFit, Bool.and_eq_true] at f' <;> try (simp at f'; done)
      rw [const_int hc]
      exact (of_decide_eq_true f'.1).symm
    case bool =>
      simp only [kindsT, hkk] at f'
      refine MapKept.run_checkKey (d := .bool) (hT.u_bool hkk) ?_ em 9999
      cases hc : constAV v <;> rw [hc] at f' <;> simp only [cellsFit] at f' <;> try (simp at f'; done)
      rw [const_bool hc]
      trivial
    case str =>
      simp only [kindsT, hkk] at f'
      refine MapKept.run_checkKey (d := .string) (hT.u_str hkk) ?_ em 9999
      cases hc : constAV v <;> rw [hc] at f' <;> simp only [cellsFit] at f' <;> try (simp at f'; done)
      rw [const_str hc]
      trivial
    case struct fs => simp [isAggT, hkk] at a
theorem sameBits_const {v : Value} (hp : (∃ k n, constAV v = .int k n) ∨ (∃ b, constAV v = .bool b) ∨ ∃ s, constAV v = .str s) (n : Nat) : Instr.sameBits n v v = true := by
  rcases hp with ⟨k, m, e⟩ | ⟨b, e⟩ | ⟨s, e⟩
  · rw [const_int e]; simp [Instr.sameBits]
  · rw [const_bool e]; simp [Instr.sameBits]
  · rw [const_str e]; simp [Instr.sameBits, MapKept.bytes_beq]
theorem IsK.same (hv : IsK T kt k v) (n : Nat) : Instr.sameBits (n + 1) v v = true := by
  have f := hv.fits
  rcases hv.val with ⟨a, vs, rfl, rfl⟩ | ⟨a, rfl⟩
  · simp only [keyFits, Bool.and_eq_true] at f
    simp only [Instr.sameBits, beq_self_eq_true, Bool.true_and, List.all_eq_true]
    rintro ⟨x, y⟩ hxy
    have : x = y ∧ x ∈ vs := by
      have hz : (vs.toArray.toList.zip vs.toArray.toList) = vs.map fun x => (x, x) := by
        show vs.zip vs = _
        clear hxy hv f
        induction vs with
        | nil => rfl
        | cons x r ih => simp [ih]
      rw [hz] at hxy
      obtain ⟨z, hz, e⟩ := List.mem_map.1 hxy
      cases e
      exact ⟨rfl, hz⟩
    obtain ⟨rfl, hx⟩ := this
    exact sameBits_const (cellsFit_plain f.2 _ (List.mem_map_of_mem hx)) n
  · rw [a] at f
    unfold keyFits at f
    split at f
    · simp at f
    · simp only [Bool.not_false, Bool.true_and] at f
      exact sameBits_const (cellsFit_plain f _ (by simp)) _
end
section
variable {P : Program} {T : List TI}
theorem isAgg_cells {z : Value} (h : isAggV z = true) : ∃ vs, z = .agg vs := by
  cases z <;> simp [isAggV] at h
  exact ⟨_, rfl⟩
theorem zeros_rep (hT : TabOk P T) {t : Nat} (ht : (ti T t).k ≠ .other) (htup : ∀ ts, (ti T t).k ≠ .tuple ts) : ∃ i z, P.info? t = some i ∧ i.zero = some z ∧ i.size = (ti T t).size ∧ i.bytes = (ti T t).bytes ∧ z.cells.toList.length = (ti T t).size ∧ (ti T t).shape.length = (ti T t).size ∧
    (∀ (g : Gs) (l : Gl) (w : World) (n : Nat), TReps g l w n ((ti T t).shape.map CK.zero) z.cells.toList) ∧ tagsOfs ((ti T t).shape.map CK.zero) = [] ∧ (∀ u ∈ z.cells.toList, u.oneCell' = true) ∧
    (∀ (g : Gs) (w : World) (j : Nat) (c : AV), ((ti T t).shape.map CK.zero)[j]? = some c → ∃ v, z.cells.toList[j]? = some v ∧ Rep w g.stb g.ob c v) := by
  obtain ⟨i, z, hi, hz, hl1, hl2, hagg, hc⟩ := hT.zero ht htup
  obtain ⟨i', hi', hsz, hby⟩ := hT.info ht
  rw [hi] at hi'
  cases hi'
  refine ⟨i, z, hi, hz, hsz, hby, by omega, hl2, ?_, ?_, ?_, ?_⟩
  · intro g l w n
    refine TReps.mk (by simp [hl1]) fun j c v hc' hv => ?_
    simp only [List.getElem?_map, Option.map_eq_some_iff] at hc'
    obtain ⟨ck, hck, rfl⟩ := hc'
    exact ((hc j v ck hv hck).1 _ _ _ _).1
  · refine List.eq_nil_iff_forall_not_mem.2 fun t ht => ?_
    obtain ⟨j, c, hc', ht⟩ := tagsOfs_iff ht
    simp only [List.getElem?_map, Option.map_eq_some_iff] at hc'
    obtain ⟨ck, _, rfl⟩ := hc'
    cases ck <;> simp [CK.zero, tagsOf] at ht
  · intro u hu
    obtain ⟨j, hj⟩ := List.mem_iff_getElem?.1 hu
    have hjl : j < (ti T t).shape.length := by rw [← hl1]; exact (List.getElem?_eq_some_iff.1 hj).1
    exact (hc j u _ hj (List.getElem?_eq_getElem hjl)).2
  · intro g w j c hj
    simp only [List.getElem?_map, Option.map_eq_some_iff] at hj
    obtain ⟨ck, hck, rfl⟩ := hj
    have hjl : j < z.cells.toList.length := by rw [hl1]; exact (List.getElem?_eq_some_iff.1 hck).1
    refine ⟨_, List.getElem?_eq_getElem hjl, ((hc j _ ck (List.getElem?_eq_getElem hjl) hck).1 g ⟨fun _ => 0, fun _ => undef, fun _ => [], fun _ => 0⟩ w 0).2⟩
theorem zeroT_rep (hT : TabOk P T) {t : Nat} (ht : (ti T t).k ≠ .other) (htup : ∀ ts, (ti T t).k ≠ .tuple ts) (g : Gs) (w : World) : ∃ z, (zeroValue t).run P w = .ok z w ∧ Rep w g.stb g.ob (zeroT T t) z := by
  obtain ⟨i, z, hi, hz, hsz, hby, hzl, hl2, _, _, _, hr⟩ := zeros_rep (P := P) hT ht htup
  obtain ⟨i', z', hi', hz', hl1, _, hagg, _⟩ := hT.zero (P := P) ht htup
  rw [hi] at hi'
  cases hi'
  rw [hz] at hz'
  cases hz'
  refine ⟨z, by simp [zeroValue, typeInfo, hi, hz], ?_⟩
  unfold zeroT
  cases ha : isAggT T t
  · rw [ha] at hagg
    have hz1 : z.cells = #[z] := by cases z <;> first | rfl | (simp [isAggV] at hagg; done)
    rw [hz1] at hl1
    simp only [List.length_cons, List.length_nil, Nat.zero_add] at hl1
    obtain ⟨c, hsc⟩ : ∃ c, (ti T t).shape = [c] := by
      cases hs : (ti T t).shape with
      | nil => rw [hs] at hl1; simp at hl1
      | cons c r => cases r with
        | nil => exact ⟨c, rfl⟩
        | cons d r => rw [hs] at hl1; simp at hl1
    rw [hsc] at hr ⊢
    obtain ⟨v, hv, hrv⟩ := hr g w 0 c.zero rfl
    rw [hz1] at hv
    simp only [List.getElem?_cons_zero, Option.some.injEq] at hv
    subst hv
    exact hrv
  · rw [ha] at hagg
    obtain ⟨vs, rfl⟩ := isAgg_cells hagg.symm
    simp only [cond_true]
    have h1 : vs = vs.toList.toArray := by simp
    rw [h1]
    refine .agg _ _ (by have h2 := hl1.symm; simp only [Value.cells] at h2; simpa using h2) fun j c v hc hv => ?_
    obtain ⟨v', hv', hrv⟩ := hr g w j c hc
    have : v' = v := by
      have h2 : vs.toList[j]? = some v' := hv'
      rw [h2] at hv
      exact Option.some.inj hv
    exact this ▸ hrv
end
section
variable {P : Program} {T : List TI} {w0 : World} {g0 g : Gs} {l : Gl} {w : World} {st : St} {a : Act} {n : Nat}
theorem normE_out {t : Nat} {x : AV} {K : AV → Prop} (h : normE T t x K) : ∃ y, K y ∧ NormRel x y ∧ ∀ K' : AV → Prop, K' y → normE T t x K' := by
  unfold normE at h ⊢
  cases ha : isAggT T t <;> rw [ha] at h <;> simp only [cond_false, cond_true] at h ⊢
  · exact norm1_out h
  · have h' := G_out h
    clear h
    obtain ⟨h1, h⟩ := h'
    simp only [Bool.and_eq_true] at h1
    obtain ⟨ys, hy, hl, hr, hd⟩ := normL_out h
    clear h
    obtain ⟨cs, rfl⟩ : ∃ cs, x = .agg cs := by cases x <;> first | exact ⟨_, rfl⟩ | (simp [AV.isAgg] at h1; done)
    simp only [AV.aggCs] at h1 hr hd
    have hlen := Nat.eq_of_beq_eq_true h1.2
    refine ⟨_, hy, ⟨rfl, fun w stb ob v hv => ?_⟩, fun K' hK => G_in (by simp [AV.isAgg, AV.aggCs, hlen]) (hd _ hK)⟩
    cases hv with
    | agg _ vs hl' hr' =>
      refine .agg ys vs (by omega) fun i c v hc hv => ?_
      have h2 := hr i c hc
      have hi : i < cs.length := by have := (List.getElem?_eq_some_iff.1 hc).1; omega
      rw [Nat.zero_add, List.getD_eq_getElem?_getD, List.getElem?_eq_getElem hi, Option.getD_some] at h2
      exact h2.2 _ _ _ _ (hr' i _ v (List.getElem?_eq_getElem hi) hv)
/-- A key is a stable value. -/
theorem key_rep {ks : List CK} {b : Bool} {k : AV} {v : Value} (hf : keyFits ks b k = true) (h : TRep g l w n k v) : Rep w g.stb g.ob k v := by
  have one : ∀ {c : AV} {u : Value}, ((∃ k n, c = .int k n) ∨ (∃ b, c = .bool b) ∨ ∃ s, c = .str s) → TRep g l w n c u → Rep w g.stb g.ob c u := fun hp h => by
    rcases hp with ⟨k, m, rfl⟩ | ⟨b, rfl⟩ | ⟨s, rfl⟩ <;> simp only [TRep] at h <;> subst h
    · exact .int _ _
    · exact .bool _
    · exact .str _
  unfold keyFits at hf
  split at hf
  · simp only [Bool.and_eq_true] at hf
    simp only [TRep] at h
    obtain ⟨vs, rfl, h⟩ := h
    exact .agg _ vs h.length fun i c v hc hv => one (cellsFit_plain hf.2 c (List.mem_of_getElem? hc)) (h.of i c v hc hv)
  · simp only [Bool.and_eq_true] at hf
    exact one (cellsFit_plain hf.2 _ (by simp)) h
theorem keyFits_tags {ks : List CK} {b : Bool} {k : AV} (hf : keyFits ks b k = true) : tagsOf k = [] := by
  have one : ∀ {c : AV}, ((∃ k n, c = .int k n) ∨ (∃ b, c = .bool b) ∨ ∃ s, c = .str s) → tagsOf c = [] := fun hp => by
    rcases hp with ⟨k, m, rfl⟩ | ⟨b, rfl⟩ | ⟨s, rfl⟩ <;> rfl
  unfold keyFits at hf
  split at hf
  · simp only [Bool.and_eq_true] at hf
    simp only [tagsOf]
    refine List.eq_nil_iff_forall_not_mem.2 fun t ht => ?_
    obtain ⟨i, c, hc, ht⟩ := tagsOfs_iff ht
    rw [one (cellsFit_plain hf.2 c (List.mem_of_getElem? hc))] at ht
    cases ht
  · simp only [Bool.and_eq_true] at hf
    exact one (cellsFit_plain hf.2 _ (by simp))
/-- A map's entries and keys. -/
theorem map_out {H : Heap} (hH : HOK g w H) {j b : Nat} (ho : g.ob j = some b) {kt : Nat} (hm : (H.get j).isMapOf (keyT T kt) (isAggT T kt) = true) :
    ∃ es c vs, H.get j = .map es c ∧ g.foot b ∧ w.heap[b]? = some (.map (List.toArray vs) c) ∧ vs.length = es.length ∧
      (∀ (i : Nat) (a : Nat × AV × AV) (v : MapEntry), es[i]? = some a → vs[i]? = some v → v.born = a.1 ∧ Rep w g.stb g.ob a.2.1 v.key ∧ Rep w g.stb g.ob a.2.2 v.val) ∧
      ∀ (i : Nat) (a : Nat × AV × AV) (v : MapEntry), es[i]? = some a → vs[i]? = some v → IsK T kt a.2.1 v.key := by
  unfold HB.isMapOf at hm
  simp only [Bool.and_eq_true, List.all_eq_true] at hm
  obtain ⟨es, c, he⟩ := isMap_eq hm.1
  obtain ⟨hf, vs, hh, hl, hr⟩ := hH.map ho he
  rw [he] at hm
  exact ⟨es, c, vs, he, hf, hh, hl, hr, fun i a v ha hv => isK_of (hm.2 a (List.mem_of_getElem? ha)) (hr i a v ha hv).2.1⟩
theorem lookAV_sound (hT : TabOk P T) (hE : EqOk P T) (hI : Inv w0 g0 g l w st a) {t : Nat} {ok : Bool} {xa ka : AV} {xv kv : Value} {K : AV → Prop} (hx : TRep g l w n xa xv) (hk : TRep g l w n ka kv) (h : lookAV T t ok st.H xa ka K) :
    ∃ av v, K av ∧ (Instr.lookup t xv kv ok).run P w = .ok v w ∧ TRep g l w n av v ∧ (∀ t ∈ tagsOf av, t ∈ st.tags) ∧ ∀ K' : AV → Prop, K' av → lookAV T t ok st.H xa ka K' := by
  unfold lookAV at h ⊢
  cases hkk : (ti T t).k <;> rw [hkk] at h <;> try exact h.elim
  rename_i kt vt
  cases xa <;> try exact h.elim
  rename_i j
  simp only at h ⊢
  obtain ⟨q1, h⟩ := G_out h
  obtain ⟨q2, h⟩ := G_out h
  obtain ⟨q3, h⟩ := G_out h
  simp only [TRep] at hx
  cases hx with
  | map _ b ho =>
    obtain ⟨es, c, vs, he, hf, hh, hl, hr, hks⟩ := map_out hI.heap ho q3
    have hkr := key_rep q2 hk
    have hK := isK_of q2 hkr
    have hfind := run_find (P := P) (w := w) hT hE q1 hK hl hks
    have hchk := run_check (P := P) (w := w) hT hE q1 hK vs.toArray.isEmpty
    have hu := run_underlying (w := w) (hT.u_map hkk)
    have hget := MapKept.run_getObj_map (P := P) hh
    rw [he] at h
    simp only [HB.es, mhas, mget, mfind_idx] at h
    have hfin : ∀ {av : AV} {v : Value}, Rep w g.stb g.ob av v → (∀ t ∈ tagsOf (cond ok (.tup [av, .bool true]) av), t ∈ st.tags) ∧ (∀ t ∈ tagsOf (cond ok (.tup [av, .bool false]) av), t ∈ st.tags) ∧
        (∀ b, TRep g l w n (cond ok (.tup [av, .bool b]) av) (if ok then .tuple #[v, .bool b] else v)) := fun {av v} hrep => by
      have htags := hrep.tags
      have htr : TRep g l w n av v := TRep.of_rep hrep
      refine ⟨?_, ?_, fun b => ?_⟩
      · cases ok <;> simp [tagsOf, tagsOfs, htags]
      · cases ok <;> simp [tagsOf, tagsOfs, htags]
      · cases ok
        · exact htr
        · simp only [cond_true, if_true, TRep]
          exact ⟨[v, .bool b], rfl, by simp only [TReps, and_true, TRep]; exact htr⟩
    cases hm : midx ka es with
    | none =>
      rw [hm] at h hfind
      simp only [Option.bind_none, Option.isSome_none, cond_false] at h hfind
      obtain ⟨q4, h⟩ := G_out h
      have hk1 : (ti T vt).k ≠ .other := fun e => by rw [e] at q4; simp at q4
      have hk2 : ∀ ts, (ti T vt).k ≠ .tuple ts := fun ts e => by rw [e] at q4; simp at q4
      obtain ⟨z, hz, hzr⟩ := zeroT_rep (P := P) hT hk1 hk2 g w
      refine ⟨_, if ok then .tuple #[z, .bool false] else z, h, ?_, (hfin hzr).2.2 false, (hfin hzr).2.1, fun K' hK' => ?_⟩
      · unfold Instr.lookup
        simp only [Sem.run_bind, hu, Result.andThen_ok, hget, Sem.run_pure, hchk, hfind, hz]
      · refine G_in q1 (G_in q2 (G_in q3 ?_))
        rw [he]
        simp only [HB.es, mhas, mget, mfind_idx, hm, Option.bind_none, Option.isSome_none, cond_false]
        exact G_in (by first | rfl | exact q4) hK'
    | some i =>
      obtain ⟨e, hei, _⟩ := midx_get hm
      obtain ⟨u, hui⟩ : ∃ u, vs[i]? = some u := ⟨_, List.getElem?_eq_getElem (by rw [hl]; exact (List.getElem?_eq_some_iff.1 hei).1)⟩
      rw [hm] at h hfind
      simp only [Option.bind_some, hei, hui, Option.map_some, Option.isSome_some, cond_true, Option.getD_some] at h hfind
      obtain ⟨y, hy, hrel, hd⟩ := normE_out h
      have hyr := hrel.2 _ _ _ _ (hr i e u hei hui).2.2
      refine ⟨_, if ok then .tuple #[u.val, .bool true] else u.val, hy, ?_, (hfin hyr).2.2 true, (hfin hyr).1, fun K' hK' => ?_⟩
      · unfold Instr.lookup
        simp only [Sem.run_bind, hu, Result.andThen_ok, hget, Sem.run_pure, hchk, hfind]
      · refine G_in q1 (G_in q2 (G_in q3 ?_))
        rw [he]
        simp only [HB.es, mhas, mget, mfind_idx, hm, Option.bind_some, hei, Option.map_some, Option.isSome_some, cond_true, Option.getD_some]
        exact hd _ hK'
end
end Go.Proofs.Ytbkkhhmjmbbfpaa.Ab
