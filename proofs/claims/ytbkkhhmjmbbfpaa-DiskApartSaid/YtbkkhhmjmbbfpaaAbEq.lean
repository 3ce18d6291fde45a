/- '==' of structs of numbers, bools and strings. -/
import Derived.Test.YtbkkhhmjmbbfpaaAbOps3
namespace Go.Proofs.Ytbkkhhmjmbbfpaa.Ab
open Go

theorem eqCells_append : ∀ {c1 c2 d1 d2 : List AV} {b : Bool}, c1.length = d1.length → eqCells (c1 ++ c2) (d1 ++ d2) = some b → ∃ b1 b2, eqCells c1 d1 = some b1 ∧ eqCells c2 d2 = some b2 ∧ b = (b1 && b2)
  | [], c2, [], d2, b, _, h => ⟨true, b, rfl, h, by simp⟩
  | c :: c1, c2, d :: d1, d2, b, hl, h => by
    cases c <;> cases d <;> simp only [List.cons_append, eqCells] at h ⊢ <;> try (simp at h; done)
    case int.int k a k' b' =>
      cases hk : decide (k = k') <;> rw [hk] at h <;> simp only [cond_false, cond_true] at h ⊢
      · cases h
      · obtain ⟨q, hq, rfl⟩ := Option.map_eq_some_iff.1 h
        obtain ⟨b1, b2, h1, h2, rfl⟩ := eqCells_append (by simpa using hl) hq
        exact ⟨_, b2, by rw [h1]; rfl, h2, by rw [Bool.and_assoc]⟩
    case bool.bool a b' =>
      obtain ⟨q, hq, rfl⟩ := Option.map_eq_some_iff.1 h
      obtain ⟨b1, b2, h1, h2, rfl⟩ := eqCells_append (by simpa using hl) hq
      exact ⟨_, b2, by rw [h1]; rfl, h2, by rw [Bool.and_assoc]⟩
    case str.str a b' =>
      obtain ⟨q, hq, rfl⟩ := Option.map_eq_some_iff.1 h
      obtain ⟨b1, b2, h1, h2, rfl⟩ := eqCells_append (by simpa using hl) hq
      exact ⟨_, b2, by rw [h1]; rfl, h2, by rw [Bool.and_assoc]⟩
  | [], _, _ :: _, _, _, hl, _ => by simp at hl
  | _ :: _, _, [], _, _, hl, _ => by simp at hl

section
variable {P : Program} {T : List TI}
def valT (T : List TI) (t : Nat) (vs : List Value) : Value := cond (isAggT T t) (.agg vs.toArray) (vs.headD undef)
/-- What is asked of the structs that are compared. -/
def StructsOk (P : Program) (T : List TI) : Prop := ∀ t fs, (ti T t).k = .struct fs → (∃ d, d ≤ 8 ∧ eqT T d t = true) → P.stoodInHeld t = false ∧ P.eqGuardType P.depth t = false ∧ ∀ f ∈ (P.fieldsOf t).toList, f.name ≠ "_"
theorem eqT_kind {d t : Nat} (h : eqT T d t = true) : (ti T t).k ≠ .other ∧ ∀ ts, (ti T t).k ≠ .tuple ts := by
  cases d with
  | zero => simp [eqT] at h
  | succ d =>
    simp only [eqT] at h
    cases hk : (ti T t).k <;> rw [hk] at h <;> first | (simp at h; done) | exact ⟨by simp, by simp⟩
theorem run_part_val (hT : TabOk P T) {t o : Nat} {vs : List Value} (hk : (ti T t).k ≠ .other) (ho : o + (ti T t).size ≤ vs.length) (hs : isAggT T t = false → (ti T t).size = 1) (w : World) :
    (part t vs.toArray o).run P w = .ok (valT T t ((vs.drop o).take (ti T t).size)) w := by
  unfold part valT
  rw [Sem.run_bind, hT.run_isAgg hk]
  cases hagg : isAggT T t
  · have h1 := hs hagg
    obtain ⟨v, hv⟩ : ∃ v, vs[o]? = some v := ⟨_, List.getElem?_eq_getElem (by omega)⟩
    have hd : (vs.drop o).take (ti T t).size = [v] := by
      rw [h1, List.take_one, List.head?_drop, hv]; rfl
    have hv' : vs.toArray[o]? = some v := by simpa using hv
    simp only [Result.andThen_ok, Bool.false_eq_true, if_false, hv', cond_false, hd, Sem.run_pure, List.headD_cons]
  · simp only [Result.andThen_ok, if_true, Sem.run_bind, hT.run_size hk, Sem.run_pure, cond_true]
    congr 2
    apply Array.ext'
    simp
theorem scalar_size {d t : Nat} (h : eqT T d t = true) (hagg : isAggT T t = false) : (ti T t).size = 1 := by
  cases d with
  | zero => simp [eqT] at h
  | succ d =>
    simp only [eqT] at h
    unfold isAggT at hagg
    cases hk : (ti T t).k <;> rw [hk] at h hagg <;> first | (simp at h; done) | (simp at hagg; done) | exact Nat.eq_of_beq_eq_true h | exact Nat.eq_of_beq_eq_true (Bool.and_eq_true _ _ ▸ h).1

theorem cellsFit_append : ∀ {k1 k2 : List CK} {cs : List AV}, cellsFit (k1 ++ k2) cs = true → cs.length = k1.length + k2.length ∧ cellsFit k1 (cs.take k1.length) = true ∧ cellsFit k2 (cs.drop k1.length) = true
  | [], k2, cs, h => by
    have hl : ∀ {k : List CK} {cs : List AV}, cellsFit k cs = true → cs.length = k.length := by
      intro k
      induction k with
      | nil => intro cs h; cases cs <;> simp_all [cellsFit]
      | cons c k ih =>
        intro cs h
        cases cs with
        | nil => cases c <;> simp [cellsFit] at h
        | cons x cs =>
          cases c <;> cases x <;> simp only [cellsFit, Bool.and_eq_true] at h <;> first | (simp at h; done) | simp [ih h] | simp [ih h.2]
    exact ⟨by simpa using hl h, by simp [cellsFit], by simpa using h⟩
  | c :: k1, k2, [], h => by cases c <;> simp [cellsFit] at h
  | c :: k1, k2, x :: cs, h => by
    cases c <;> cases x <;> simp only [List.cons_append, cellsFit, Bool.and_eq_true] at h <;> try (simp at h; done)
    case int.int k k' n =>
      obtain ⟨h1, h2, h3⟩ := cellsFit_append h.2
      exact ⟨by simp [h1]; omega, by simp only [List.length_cons, List.take_succ_cons, cellsFit, h.1, Bool.true_and]; exact h2, by simpa using h3⟩
    case bool.bool b =>
      obtain ⟨h1, h2, h3⟩ := cellsFit_append h
      exact ⟨by simp [h1]; omega, by simp only [List.length_cons, List.take_succ_cons, cellsFit]; exact h2, by simpa using h3⟩
    case str.str b =>
      obtain ⟨h1, h2, h3⟩ := cellsFit_append h
      exact ⟨by simp [h1]; omega, by simp only [List.length_cons, List.take_succ_cons, cellsFit]; exact h2, by simpa using h3⟩
theorem kinds_len : ∀ {d t : Nat}, eqT T d t = true → (kindsT T d t).length = (ti T t).size
  | 0, _, h => by simp [eqT] at h
  | d + 1, t, h => by
    simp only [eqT] at h
    cases hk : (ti T t).k <;> rw [hk] at h <;> try (simp at h; done)
    case int k => simp only [kindsT, hk]; exact (Nat.eq_of_beq_eq_true (Bool.and_eq_true _ _ ▸ h).1).symm
    case bool => simp only [kindsT, hk]; exact (Nat.eq_of_beq_eq_true h).symm
    case str => simp only [kindsT, hk]; exact (Nat.eq_of_beq_eq_true h).symm
    case struct fs =>
      simp only [kindsT, hk]
      simp only [Bool.and_eq_true, List.all_eq_true] at h
      have key : ∀ (fl : List (Nat × Nat)) (off : Nat), eqTile T (ti T t).size off fl = true → (∀ p ∈ fl, eqT T d p.2 = true) → off + (fl.flatMap fun p => kindsT T d p.2).length = (ti T t).size := by
        intro fl
        induction fl with
        | nil => intro off h _; simpa [eqTile] using Nat.eq_of_beq_eq_true h
        | cons p fl ih =>
          intro off h hp
          simp only [eqTile, Bool.and_eq_true] at h
          have := ih _ h.2 (fun q hq => hp q (by simp [hq]))
          have hl := kinds_len (hp p (by simp))
          simp only [List.flatMap_cons, List.length_append, hl]
          omega
      simpa using key fs 0 h.1 h.2

theorem eq_main (hT : TabOk P T) (hok : StructsOk P T) : ∀ (d t e : Nat) (cs ds : List AV) (vs us : List Value) (b : Bool) (w : World), d ≤ 8 → eqT T d t = true → eqCells cs ds = some b → cellsFit (kindsT T d t) cs = true → cellsFit (kindsT T d t) ds = true → vs.map constAV = cs → us.map constAV = ds →
    (Op.equalIn (e + d) t (valT T t vs) (valT T t us)).run P w = .ok b w
  | 0, _, _, _, _, _, _, _, _, _, h, _, _, _, _, _ => by simp [eqT] at h
  | d + 1, t, e, cs, ds, vs, us, b, w, hd8, h, hc, hf, hf', hv, hu => by
    have hkl := kinds_len h
    obtain ⟨hk, htup⟩ := eqT_kind h
    have h0 := h
    simp only [eqT] at h
    cases hkk : (ti T t).k <;> rw [hkk] at h <;> try (simp at h; done)
    case int k =>
      have ha : isAggT T t = false := by simp [isAggT, hkk]
      simp only [kindsT, hkk] at hf hf'
      subst hv hu
      match vs, us, hf, hf' with
      | [], _, hf, _ => simp [cellsFit] at hf
      | _ :: _, [], _, hf' => simp [cellsFit] at hf'
      | v :: vs, u :: us, hf, hf' =>
        simp only [List.map_cons] at hf hf' hc
        cases hcv : constAV v <;> rw [hcv] at hf hc <;> simp only [cellsFit, Bool.and_eq_true] at hf <;> try (simp at hf; done)
        cases hcu : constAV u <;> rw [hcu] at hf' hc <;> simp only [cellsFit, Bool.and_eq_true] at hf' <;> try (simp at hf'; done)
        have e1 : vs = [] := by cases vs <;> simp_all [cellsFit]
        have e2 : us = [] := by cases us <;> simp_all [cellsFit]
        subst e1 e2
        have k1 := of_decide_eq_true hf.1
        have k2 := of_decide_eq_true hf'.1
        subst k1
        rw [← k2] at hcu hc
        simp only [valT, ha, cond_false, List.headD_cons, const_int hcv, const_int hcu]
        simp [eqCells] at hc
        rw [← Nat.add_assoc, run_equalIn_int w (e + d) t _ k _ _ (hT.u_int hkk), ← hc, eqI_beq]
    case bool =>
      have ha : isAggT T t = false := by simp [isAggT, hkk]
      simp only [kindsT, hkk] at hf hf'
      subst hv hu
      match vs, us, hf, hf' with
      | [], _, hf, _ => simp [cellsFit] at hf
      | _ :: _, [], _, hf' => simp [cellsFit] at hf'
      | v :: vs, u :: us, hf, hf' =>
        simp only [List.map_cons] at hf hf' hc
        cases hcv : constAV v <;> rw [hcv] at hf hc <;> simp only [cellsFit] at hf <;> try (simp at hf; done)
        cases hcu : constAV u <;> rw [hcu] at hf' hc <;> simp only [cellsFit] at hf' <;> try (simp at hf'; done)
        have e1 : vs = [] := by cases vs <;> simp_all [cellsFit]
        have e2 : us = [] := by cases us <;> simp_all [cellsFit]
        subst e1 e2
        simp only [valT, ha, cond_false, List.headD_cons, const_bool hcv, const_bool hcu]
        simp [eqCells] at hc
        rw [← Nat.add_assoc, run_equalIn_bool' w (e + d) t _ _ (hT.u_bool hkk), ← hc]
    case str =>
      have ha : isAggT T t = false := by simp [isAggT, hkk]
      simp only [kindsT, hkk] at hf hf'
      subst hv hu
      match vs, us, hf, hf' with
      | [], _, hf, _ => simp [cellsFit] at hf
      | _ :: _, [], _, hf' => simp [cellsFit] at hf'
      | v :: vs, u :: us, hf, hf' =>
        simp only [List.map_cons] at hf hf' hc
        cases hcv : constAV v <;> rw [hcv] at hf hc <;> simp only [cellsFit] at hf <;> try (simp at hf; done)
        cases hcu : constAV u <;> rw [hcu] at hf' hc <;> simp only [cellsFit] at hf' <;> try (simp at hf'; done)
        have e1 : vs = [] := by cases vs <;> simp_all [cellsFit]
        have e2 : us = [] := by cases us <;> simp_all [cellsFit]
        subst e1 e2
        simp only [valT, ha, cond_false, List.headD_cons, const_str hcv, const_str hcu]
        simp [eqCells] at hc
        rw [← Nat.add_assoc, run_equalIn_string w (e + d) t _ _ (hT.u_str hkk), ← hc, eqS_beq]
    case struct fs =>
      have ha : isAggT T t = true := by simp [isAggT, hkk]
      obtain ⟨hst, _, hnm⟩ := hok t fs hkk ⟨_, hd8, h0⟩
      obtain ⟨fa, hfa, hfs⟩ := hT.u_struct hkk
      have hfo : P.fieldsOf t = fa := by simp [Program.fieldsOf, hfa]
      simp only [Bool.and_eq_true, List.all_eq_true] at h
      simp only [kindsT, hkk] at hf hf'
      subst hv hu
      simp only [valT, ha, cond_true]
      rw [← Nat.add_assoc, run_equalIn_struct w (e + d) t _ _ (by rw [hfo]; exact hfa) hst]
      have hvl : vs.length = (ti T t).size := by
        have := (cellsFit_append (k1 := []) hf).1
        simp only [List.length_map, List.length_nil, Nat.zero_add] at this
        rw [this, ← hkl]; simp only [kindsT, hkk, List.flatMap]
      have hul : us.length = (ti T t).size := by
        have := (cellsFit_append (k1 := []) hf').1
        simp only [List.length_map, List.length_nil, Nat.zero_add] at this
        rw [this, ← hkl]; simp only [kindsT, hkk, List.flatMap]
      have key : ∀ (fl : List Field) (off : Nat) (b : Bool) (w : World), eqTile T (ti T t).size off (fl.map fun f => (f.offset, f.type)) = true → (∀ f ∈ fl, eqT T d f.type = true) → (∀ f ∈ fl, f.name ≠ "_") →
          cellsFit (fl.flatMap fun f => kindsT T d f.type) ((vs.drop off).map constAV) = true → cellsFit (fl.flatMap fun f => kindsT T d f.type) ((us.drop off).map constAV) = true → eqCells ((vs.drop off).map constAV) ((us.drop off).map constAV) = some b → off ≤ (ti T t).size →
          (Op.eqFields (e + d) vs.toArray us.toArray fl).run P w = .ok b w := by
        intro fl
        induction fl with
        | nil =>
          intro off b w ht _ _ hf hf' hc _
          simp only [List.flatMap_nil] at hf hf'
          have e1 : (vs.drop off).map constAV = [] := by cases hh : (vs.drop off).map constAV with | nil => rfl | cons x r => rw [hh] at hf; simp [cellsFit] at hf
          have e2 : (us.drop off).map constAV = [] := by cases hh : (us.drop off).map constAV with | nil => rfl | cons x r => rw [hh] at hf'; simp [cellsFit] at hf'
          rw [e1, e2] at hc
          simp only [eqCells, Option.some.injEq] at hc
          subst hc
          simp [Op.eqFields]
        | cons f fl ih =>
          intro off b w ht hq hn hf hf' hc hoff
          simp only [List.map_cons, eqTile, Bool.and_eq_true] at ht
          have ho := Nat.eq_of_beq_eq_true ht.1
          have ho : f.offset = off := ho
          have hqf := hq f (by simp)
          have hkf := kinds_len hqf
          obtain ⟨hkk', _⟩ := eqT_kind hqf
          simp only [List.flatMap_cons] at hf hf'
          obtain ⟨l1, f1, f2⟩ := cellsFit_append hf
          obtain ⟨l1', f1', f2'⟩ := cellsFit_append hf'
          rw [hkf] at f1 f2 f1' f2' l1 l1'
          rw [← List.map_take] at f1 f1'
          rw [← List.map_drop, List.drop_drop] at f2 f2'
          simp only [List.length_map, List.length_drop] at l1 l1'
          have hsplit : ∀ l : List Value, (l.drop off).map constAV = ((l.drop off).take (ti T f.type).size).map constAV ++ (l.drop (off + (ti T f.type).size)).map constAV := fun l => by
            rw [← List.map_append, ← List.drop_drop, List.take_append_drop]
          rw [hsplit vs, hsplit us] at hc
          obtain ⟨b1, b2, c1, c2, rfl⟩ := eqCells_append (by simp; omega) hc
          have r1 := ih (off + (ti T f.type).size) b2 w ht.2 (fun g hg => hq g (by simp [hg])) (fun g hg => hn g (by simp [hg])) f2 f2' c2 (by omega)
          have p1 := run_part_val (P := P) (vs := vs) (o := off) hT hkk' (by omega) (scalar_size hqf) w
          have p2 := run_part_val (P := P) (vs := us) (o := off) hT hkk' (by omega) (scalar_size hqf) w
          have q1 := eq_main hT hok d f.type e _ _ _ _ b1 w (by omega) hqf c1 f1 f1' rfl rfl
          have hnf := hn f (by simp)
          simp only [Op.eqFields, if_pos hnf, Sem.run_bind, ho, p1, p2, q1, Result.andThen_ok]
          cases b1
          · simp
          · simpa using r1
      have hfs' : fs.flatMap (fun p => kindsT T d p.2) = fa.toList.flatMap fun f => kindsT T d f.type := by rw [hfs, List.flatMap_map]
      rw [hfs'] at hf hf'
      rw [hfo] at hnm ⊢
      refine key fa.toList 0 b w (by rw [← hfs]; exact h.1) (fun f hf => h.2 (f.offset, f.type) (by rw [hfs]; exact List.mem_map_of_mem hf)) hnm (by simpa using hf) (by simpa using hf') (by simpa using hc) (Nat.zero_le _)
def structsB (P : Program) (T : List TI) : Bool := (List.range T.length).all fun t => match (ti T t).k with
  | .struct _ => !((List.range 9).any fun d => eqT T d t) || (!(P.stoodInHeld t) && (!(P.eqGuardType P.depth t) && (P.fieldsOf t).toList.all fun f => !(f.name == "_")))
  | _ => true
theorem structsOk_of (h : structsB P T = true) : StructsOk P T := by
  rintro t fs hk ⟨d, hd, he⟩
  have hlt : t < T.length := by
    rcases Nat.lt_or_ge t T.length with h | h
    · exact h
    · simp [ti, List.getD_eq_getElem?_getD, List.getElem?_eq_none h] at hk
  have := List.all_eq_true.1 h t (List.mem_range.2 hlt)
  rw [hk] at this
  have hany : ((List.range 9).any fun d => eqT T d t) = true := List.any_eq_true.2 ⟨d, List.mem_range.2 (by omega), he⟩
  rw [hany] at this
  simp only [Bool.not_true, Bool.false_or, Bool.and_eq_true, Bool.not_eq_true', List.all_eq_true, beq_eq_false_iff_ne] at this
  exact ⟨this.1, this.2.1, this.2.2⟩
theorem check_main (hT : TabOk P T) (hok : StructsOk P T) (em : Bool) (w : World) : ∀ (d t n : Nat) (vs : List Value), d ≤ 8 → eqT T d t = true → cellsFit (kindsT T d t) (vs.map constAV) = true → (Instr.checkKey em (n + d) t (valT T t vs)).run P w = .ok () w
  | 0, _, _, _, _, h, _ => by simp [eqT] at h
  | d + 1, t, n, vs, hd8, h, hf => by
    have hkl := kinds_len h
    have h0 := h
    simp only [eqT] at h
    cases hkk : (ti T t).k <;> rw [hkk] at h <;> try (simp at h; done)
    case int k => rw [← Nat.add_assoc, Instr.checkKey]; simp [run_underlying (hT.u_int hkk)]
    case bool => rw [← Nat.add_assoc, Instr.checkKey]; simp [run_underlying (hT.u_bool hkk)]
    case str => rw [← Nat.add_assoc, Instr.checkKey]; simp [run_underlying (hT.u_str hkk)]
    case struct fs =>
      have ha : isAggT T t = true := by simp [isAggT, hkk]
      obtain ⟨hst, _, hnm⟩ := hok t fs hkk ⟨_, hd8, h0⟩
      obtain ⟨fa, hfa, hfs⟩ := hT.u_struct hkk
      have hfo : P.fieldsOf t = fa := by simp [Program.fieldsOf, hfa]
      rw [hfo] at hnm
      simp only [Bool.and_eq_true, List.all_eq_true] at h
      simp only [kindsT, hkk] at hf
      simp only [valT, ha, cond_true]
      rw [← Nat.add_assoc, Instr.checkKey]
      simp only [Sem.run_bind, run_underlying hfa, Result.andThen_ok]
      rw [← Array.forIn_toList]
      have hvl : vs.length = (ti T t).size := by
        have := (cellsFit_append (k1 := []) hf).1
        simp only [List.length_map, List.length_nil, Nat.zero_add] at this
        rw [this, ← hkl]; simp only [kindsT, hkk, List.flatMap]
      have hfs' : fs.flatMap (fun p => kindsT T d p.2) = fa.toList.flatMap fun f => kindsT T d f.type := by rw [hfs, List.flatMap_map]
      rw [hfs'] at hf
      have hq : ∀ f ∈ fa.toList, eqT T d f.type = true := fun f hf => h.2 (f.offset, f.type) (by rw [hfs]; exact List.mem_map_of_mem hf)
      have ht : eqTile T (ti T t).size 0 (fa.toList.map fun f => (f.offset, f.type)) = true := by rw [← hfs]; exact h.1
      have hf0 : cellsFit (fa.toList.flatMap fun f => kindsT T d f.type) ((vs.drop 0).map constAV) = true := by simpa using hf
      have h00 : 0 ≤ (ti T t).size := Nat.zero_le _
      clear hf hfs' hfs
      generalize (0 : Nat) = off at ht hf0 h00
      generalize fa.toList = L at hnm hq ht hf0
      induction L generalizing off with
      | nil => simp
      | cons f L ih =>
        simp only [List.map_cons, eqTile, Bool.and_eq_true] at ht
        have ho : f.offset = off := Nat.eq_of_beq_eq_true ht.1
        have hqf := hq f (by simp)
        have hkf := kinds_len hqf
        obtain ⟨hkk', _⟩ := eqT_kind hqf
        simp only [List.flatMap_cons] at hf0
        obtain ⟨l1, f1, f2⟩ := cellsFit_append hf0
        rw [hkf] at f1 f2 l1
        rw [← List.map_take] at f1
        rw [← List.map_drop, List.drop_drop] at f2
        simp only [List.length_map, List.length_drop] at l1
        have p1 := run_part_val (P := P) (vs := vs) (o := off) hT hkk' (by omega) (scalar_size hqf) w
        have q1 := check_main hT hok em w d f.type n _ (by omega) hqf f1
        have hnf := hnm f (by simp)
        simp only [List.forIn_cons, Sem.run_bind, hnf, ne_eq, not_false_eq_true, if_true, ho, Result.andThen_ok, p1, q1, Sem.run_pure]
        exact ih (off + (ti T f.type).size) (by omega) (fun g hg => hnm g (List.mem_cons_of_mem _ hg)) (fun g hg => hq g (List.mem_cons_of_mem _ hg)) ht.2 f2
theorem eqOk (hT : TabOk P T) (hok : StructsOk P T) : EqOk P T := by
  refine ⟨?_, fun t cs vs em w hp hf hv => ?_⟩
  case refine_2 =>
    unfold plainT at hp
    simp only [Bool.and_eq_true] at hp
    obtain ⟨h1, h2⟩ := hp
    cases hk : (ti T t).k <;> rw [hk] at h1 <;> try (simp at h1; done)
    subst hv
    have := check_main hT hok em w 8 t 9992 vs (Nat.le_refl _) h2 hf
    simp only [valT, isAggT, hk, cond_true] at this
    exact this
  intro t x y cs ds vs us b w hp hc hf hf' hv hu
  unfold plainT at hp
  simp only [Bool.and_eq_true] at hp
  obtain ⟨h1, h2⟩ := hp
  cases hk : (ti T t).k <;> rw [hk] at h1 <;> try (simp at h1; done)
  rename_i fs
  obtain ⟨_, hg, _⟩ := hok t fs hk ⟨8, Nat.le_refl _, h2⟩
  refine ⟨run_eqGuard_agg w .eql t x y _ _ hg, run_eqGuard_agg w .neq t x y _ _ hg, ?_⟩
  have := eq_main hT hok 8 t 9992 cs ds vs us b w (Nat.le_refl _) h2 hc hf hf' hv hu
  simp only [valT, isAggT, hk, cond_true] at this
  exact this
end
end Go.Proofs.Ytbkkhhmjmbbfpaa.Ab
