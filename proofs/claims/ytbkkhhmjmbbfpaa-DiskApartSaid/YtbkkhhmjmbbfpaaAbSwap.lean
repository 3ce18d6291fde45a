/- Operations whose order is open: they change places. -/
import Derived.Test.YtbkkhhmjmbbfpaaAbDet
import Derived.Test.YtbkkhhmjmbbfpaaAbFeas
namespace Go.Proofs.Ytbkkhhmjmbbfpaa.Ab
open Go

theorem set_same {tm : List AV} {d : Nat} {x : AV} (h : tm.getD d .any = x) : tm.set d x = tm := by
  apply List.ext_getElem?
  intro i
  rw [List.getElem?_set]
  by_cases e : d = i
  · subst e
    rw [if_pos rfl]
    split
    · rw [List.getD_eq_getElem?_getD] at h
      rw [List.getElem?_eq_getElem (by assumption)] at h ⊢
      simp at h
      rw [h]
    · rw [List.getElem?_eq_none (by omega)]
  · rw [if_neg e]

/-- One operation, told more plainly: the guard's slot holds what it holds. -/
def astepS (E : Env) (R : Oracle) (strict : Bool) (ops : List Oper) (o : Oper) (s : St) (K : St → Prop) : Prop :=
  match o.guard with
  | none => aop E R strict o s K
  | some (j, want) =>
    match (ops[j]?).bind (·.dst) with
    | none => False
    | some d =>
      match s.tm.getD d .any with
      | .bool b => cond (b == want) (aop E R strict o s K) (K (s.put o.dst (.tup [])))
      | .tup [] => K (s.put o.dst (.tup []))
      | _ => False
theorem astep_eq {E : Env} {R : Oracle} {strict : Bool} {ops : List Oper} {o : Oper} {s : St} {K : St → Prop} : astep E R strict ops o s K ↔ astepS E R strict ops o s K := by
  unfold astep astepS
  cases hg : o.guard with
  | none => exact Iff.rfl
  | some p =>
    obtain ⟨j, want⟩ := p
    simp only
    cases hd : (ops[j]?).bind (·.dst) with
    | none => exact Iff.rfl
    | some d =>
      simp only
      cases hv : s.tm.getD d .any <;> try exact Iff.rfl
      case tup vs => cases vs <;> exact Iff.rfl
      case bool b =>
        have hs : ({ s with tm := s.tm.set d (.bool b) } : St) = s := by rw [set_same hv]
        cases b <;> cases want <;> simp only [cond_true, cond_false, hs, BEq.rfl, Bool.true_beq, Bool.false_beq, Bool.not_true] <;> exact Iff.rfl

theorem isLight_aop {E : Env} {R : Oracle} {o : Oper} {s : St} {K : St → Prop} (h : isLight E.T o = true) : aop E R true o s K ↔ light E.T o.op (ρ s.tm) s.mem s.H fun v => K (s.put o.dst v) := by
  unfold isLight at h
  cases ho : o.op <;> rw [ho] at h <;> simp only [aop, ho] <;> (try simp only at h) <;> try (first | exact Iff.rfl | (simp at h; done))
  case binOp op t x y z =>
    cases hk : (ti E.T t).k <;> rw [hk] at h <;> first | exact Iff.rfl | (simp at h; done)
  case convert src dst x =>
    cases hk : (ti E.T src).k <;> rw [hk] at h <;> try (simp at h; done)
    all_goals cases hk' : (ti E.T dst).k <;> rw [hk'] at h <;> first | exact Iff.rfl | (simp at h; done)
  case makeFunc fn first cap =>
    cases hf : first.toList with
    | cons x r => rw [hf] at h; simp at h
    | nil =>
      cases hc : cap.toList with
      | cons x r => rw [hf, hc] at h; simp at h
      | nil => cases fn <;> simp [light, hf, hc, capAll]
  case call c =>
    cases hc : c.callee with
    | value f => simp [hc] at h
    | invoke r n => simp [hc] at h
    | builtin b => cases b <;> simp [hc] at h <;> exact Iff.rfl
  case slice t x lo hi mx =>
    cases hx : ρ s.tm x <;> try exact Iff.rfl
    case sl tg k xs =>
      cases tg with
      | zero => exact Iff.rfl
      | succ tg =>
        simp only [G, Bool.not_true, cond_false, light, hx]
        cases (ti E.T t).k <;> exact Iff.rfl

theorem boundI_congr {o : Option Operand} {r r' : Operand → AV} {d : Int} {K : Int → Prop} (h : ∀ x, o = some x → r x = r' x) : boundI o r d K = boundI o r' d K := by
  cases o with
  | none => rfl
  | some x => simp only [boundI]; rw [h x rfl]
theorem light_congr {T : List TI} {op : Op} {r r' : Operand → AV} {mem : List MB} {H : Heap} {K : AV → Prop} (h : ∀ x ∈ op.operands, r x = r' x) : light T op r mem H K = light T op r' mem H K := by
  cases op
  case call c =>
    have ha : c.args.toList.map r = c.args.toList.map r' := List.map_congr_left fun x hx => h x (by simp [Op.operands, Call.operands]; simp_all)
    simp only [light]
    rw [ha]
    split <;> try rfl
    all_goals
      split <;> try rfl
      rename_i x t hx ht
      rw [h x (by simp [Op.operands, Call.operands]; right; rw [← Array.mem_toList_iff, hx]; simp)]
  case slice t x lo hi mx =>
    simp only [light]
    rw [h x (by simp [Op.operands])]
    have hl : ∀ {d K}, boundI lo r d K = boundI lo r' d K := boundI_congr fun y hy => h y (by simp [Op.operands, hy])
    have hh : ∀ {d K}, boundI hi r d K = boundI hi r' d K := boundI_congr fun y hy => h y (by simp [Op.operands, hy])
    have hm : ∀ {d K}, boundI mx r d K = boundI mx r' d K := boundI_congr fun y hy => h y (by simp [Op.operands, hy])
    simp only [hl, hh, hm]
  case pick c a b => simp only [light]; rw [h c (by simp [Op.operands]), h a (by simp [Op.operands]), h b (by simp [Op.operands])]
  case binOp op t x y z => simp only [light]; rw [h x (by simp [Op.operands]), h y (by simp [Op.operands])]
  case indexAddr t x y => simp only [light]; rw [h x (by simp [Op.operands]), h y (by simp [Op.operands])]
  case index t x y => simp only [light]; rw [h x (by simp [Op.operands]), h y (by simp [Op.operands])]
  case move x => simp only [light]; rw [h x (by simp [Op.operands])]
  case assign x => simp only [light]; rw [h x (by simp [Op.operands])]
  case load t x => simp only [light]; rw [h x (by simp [Op.operands])]
  case unOp op t x => simp only [light]; rw [h x (by simp [Op.operands])]
  case convert src dst x => simp only [light]; rw [h x (by simp [Op.operands])]
  case fieldAddr t x f => simp only [light]; rw [h x (by simp [Op.operands])]
  case field t x f => simp only [light]; rw [h x (by simp [Op.operands])]
  case extract x i => simp only [light]; rw [h x (by simp [Op.operands])]
  case nilCheck x => simp only [light]; rw [h x (by simp [Op.operands])]
  case lookup t x y ok => simp only [light]; rw [h x (by simp [Op.operands]), h y (by simp [Op.operands])]
  case makeInterface t x => simp only [light]; rw [h x (by simp [Op.operands])]
  all_goals rfl

/-- How a guard decides. -/
def mode (ops : List Oper) (o : Oper) (tm : List AV) : Option Bool :=
  match o.guard with
  | none => some true
  | some (j, want) =>
    match (ops[j]?).bind (·.dst) with
    | none => none
    | some d =>
      match tm.getD d .any with
      | .bool b => some (b == want)
      | .tup [] => some false
      | _ => none
def stepM (m : Option Bool) (run skip : Prop) : Prop := match m with | some true => run | some false => skip | none => False
theorem astep_mode {E : Env} {R : Oracle} {strict : Bool} {ops : List Oper} {o : Oper} {s : St} {K : St → Prop} :
    astep E R strict ops o s K ↔ stepM (mode ops o s.tm) (aop E R strict o s K) (K (s.put o.dst (.tup []))) := by
  rw [astep_eq]
  unfold astepS mode
  cases hg : o.guard with
  | none => exact Iff.rfl
  | some p =>
    obtain ⟨j, want⟩ := p
    simp only
    cases hd : (ops[j]?).bind (·.dst) with
    | none => exact Iff.rfl
    | some d =>
      simp only
      cases hv : s.tm.getD d .any <;> try exact Iff.rfl
      case tup vs => cases vs <;> exact Iff.rfl
      case bool b => cases b <;> cases want <;> exact Iff.rfl

theorem light_H {T : List TI} {op : Op} {r : Operand → AV} {mem : List MB} {H H' : Heap} {K : AV → Prop} (h : H.get = H'.get) : light T op r mem H K = light T op r mem H' K := by
  obtain ⟨n, f⟩ := H
  obtain ⟨n', f'⟩ := H'
  cases h
  rfl
/-- Do two states agree on what an operation looks at? -/
def Agree (ops : List Oper) (o : Oper) (s s' : St) : Prop := s'.mem = s.mem ∧ s'.H.get = s.H.get ∧ ∀ t ∈ looks ops o, s'.tm.getD t .any = s.tm.getD t .any
theorem Agree.mode {ops : List Oper} {o : Oper} {s s' : St} (h : Agree ops o s s') : mode ops o s'.tm = mode ops o s.tm := by
  unfold Ab.mode
  cases hg : o.guard with
  | none => rfl
  | some p =>
    obtain ⟨j, want⟩ := p
    simp only
    cases hd : (ops[j]?).bind (·.dst) with
    | none => rfl
    | some d =>
      simp only
      rw [h.2.2 d (by simp [looks, hg, hd])]
theorem Agree.operand {ops : List Oper} {o : Oper} {s s' : St} (h : Agree ops o s s') : ∀ x ∈ o.op.operands, ρ s'.tm x = ρ s.tm x := by
  intro x hx
  cases x with
  | tmp t => exact h.2.2 t (by simp only [looks, List.mem_append, List.mem_filterMap]; exact .inl ⟨.tmp t, by simpa using hx, rfl⟩)
  | _ => rfl
theorem fillRows_det {k : Nat} : ∀ {ps : List (Nat × AV)} {xs : List (List AV)}, Det (fillRows k xs ps)
  | [], _ => det_at _
  | (i, v) :: r, xs => by
    show Det fun K => G (boxable v) (G (Nat.beq (cellsOf v).length k) (G (Nat.blt i xs.length) (fillRows k (xs.set i (cellsOf v)) r K)))
    exact det_G (det_G (det_G fillRows_det))
theorem fillAV_det {place : Nat → Option (Nat × Nat)} : ∀ {ps : List (Nat × AV)} {cs : List AV}, Det (fillAV place cs ps)
  | [], _ => det_at _
  | (i, v) :: r, cs => by
    have e : fillAV place cs ((i, v) :: r) = fun K => match place i with
      | none => False
      | some (off, size) => G (boxable v) (G (Nat.beq (cellsOf v).length size) (G (Nat.ble (off + size) cs.length) (fillAV place (setRange cs off (cellsOf v)) r K))) := rfl
    rw [e]
    cases place i with
    | none => exact det_no
    | some p => exact det_G (det_G (det_G fillAV_det))
theorem buildL_det {T : List TI} {t n : Nat} {ps : Array (Nat × Operand)} {r : Operand → AV} : Det (buildL T t n ps r) := by
  unfold buildL
  split
  · exact det_G (det_G (det_map fillRows_det))
  · exact det_no
theorem buildL_congr {T : List TI} {t n : Nat} {ps : Array (Nat × Operand)} {r r' : Operand → AV} (h : ∀ p ∈ ps.toList, r p.2 = r' p.2) : buildL T t n ps r = buildL T t n ps r' := by
  have : (ps.toList.map fun p => (p.1, frzV (r p.2))) = ps.toList.map fun p => (p.1, frzV (r' p.2)) := List.map_congr_left fun p hp => by rw [h p hp]
  unfold buildL
  rw [this]
theorem conv_aop {E : Env} {R : Oracle} {o : Oper} {st : Bool} {s : St} {K : St → Prop} {src dst : Nat} {x : Operand} (h : isForm E.T o = true) (ho : o.op = .convert src dst x) : aop E R st o s K ↔ convK E.T src dst (ρ s.tm x) fun v => K (s.put o.dst v) := by
  unfold isForm at h
  rw [ho] at h
  simp only at h
  simp only [aop, ho, convK]
  cases h1 : (ti E.T src).k <;> rw [h1] at h <;> try (simp at h; done)
  all_goals cases h2 : (ti E.T dst).k <;> rw [h2] at h <;> try (simp at h; done)
  all_goals
    cases ρ s.tm x <;> simp only [light, h1, h2]
    all_goals (try exact Iff.rfl)
    all_goals (split <;> exact Iff.rfl)
theorem light_step {E : Env} {ops : List Oper} {o : Oper} (hl : isQuiet E.T o = true) (s : St) :
    ∃ F : (AV → Prop) → Prop, Det F ∧ ∀ s', Agree ops o s s' → ∀ (R : Oracle) (K : St → Prop), astep E R true ops o s' K ↔ F fun v => K (s'.put o.dst v) := by
  cases hm : mode ops o s.tm with
  | none => exact ⟨_, det_no, fun s' ha R K => by rw [astep_mode, ha.mode, hm]; exact Iff.rfl⟩
  | some b =>
    cases b with
    | false => exact ⟨_, det_at (AV.tup []), fun s' ha R K => by rw [astep_mode, ha.mode, hm]; exact Iff.rfl⟩
    | true =>
      cases hq : isLight E.T o with
      | true =>
        refine ⟨_, light_det (T := E.T) (op := o.op) (r := ρ s.tm) (mem := s.mem) (H := s.H), fun s' ha R K => ?_⟩
        rw [astep_mode, ha.mode, hm]
        simp only [stepM]
        rw [isLight_aop hq, light_congr ha.operand, ha.1, light_H ha.2.1]
      | false =>
        cases hfm : isForm E.T o with
        | true =>
          by_cases hcv : ∃ src dst x, o.op = .convert src dst x
          · obtain ⟨src, dst, x, ho⟩ := hcv
            refine ⟨_, convK_det (T := E.T) (src := src) (dst := dst) (v := ρ s.tm x), fun s' ha R K => ?_⟩
            rw [astep_mode, ha.mode, hm]
            simp only [stepM]
            rw [conv_aop hfm ho, ha.operand x (by simp [ho, Op.operands])]
          unfold isForm at hfm
          cases ho : o.op <;> rw [ho] at hfm <;> try (simp at hfm; done)
          case convert src dst x => exact absurd ⟨_, _, _, ho⟩ hcv
          rename_i t ps
          have no : (∀ s', Agree ops o s s' → ∀ (R : Oracle) (K : St → Prop), ¬ aop E R true o s' K) → ∃ F : (AV → Prop) → Prop, Det F ∧ ∀ s', Agree ops o s s' → ∀ (R : Oracle) (K : St → Prop), astep E R true ops o s' K ↔ F fun v => K (s'.put o.dst v) := fun h => by
            refine ⟨_, det_no, fun s' ha R K => ?_⟩
            rw [astep_mode, ha.mode, hm]
            exact ⟨fun h' => h s' ha R K h', False.elim⟩
          have he : ∀ s', Agree ops o s s' → (ps.toList.map fun p => (p.1, ρ s'.tm p.2)) = ps.toList.map fun p => (p.1, ρ s.tm p.2) := fun s' ha => List.map_congr_left fun p hp => by
            rw [ha.operand p.2 (by rw [ho]; simp only [Op.operands]; exact (by simpa using ⟨p.1, by simpa using hp⟩))]
          cases hk : (ti E.T t).k
          case struct fs =>
            refine ⟨_, det_G (b := fs.all fun p => Nat.blt 0 (ti E.T p.2).size) (det_map (f := AV.agg) (fillAV_det (place := fun i => (fs[i]?).map fun p => (p.1, (ti E.T p.2).size)) (ps := ps.toList.map fun p => (p.1, ρ s.tm p.2)) (cs := (ti E.T t).shape.map CK.zero))), fun s' ha R K => ?_⟩
            rw [astep_mode, ha.mode, hm]
            simp only [stepM, aop, ho, hk]
            rw [he s' ha]
          case array n e =>
            refine ⟨_, det_G (b := Nat.blt 0 (ti E.T e).size) (det_map (f := AV.agg) (fillAV_det (place := fun i => some (i * (ti E.T e).size, (ti E.T e).size)) (ps := ps.toList.map fun p => (p.1, ρ s.tm p.2)) (cs := (ti E.T t).shape.map CK.zero))), fun s' ha R K => ?_⟩
            rw [astep_mode, ha.mode, hm]
            simp only [stepM, aop, ho, hk]
            rw [he s' ha]
          all_goals
            refine no fun s' ha R K => ?_
            simp only [aop, ho, hk]
            exact id
        | false =>
        have hb : isBuild E.T o = true := by unfold isQuiet at hl; rw [hq, hfm] at hl; simpa using hl
        unfold isBuild at hb
        cases ho : o.op <;> rw [ho] at hb <;> try (simp at hb; done)
        rename_i t n ps
        refine ⟨_, det_G (b := (tagsOfs (ps.toList.map fun p => ρ s.tm p.2)).isEmpty) (buildL_det (T := E.T) (t := t) (n := n) (ps := ps) (r := ρ s.tm)), fun s' ha R K => ?_⟩
        rw [astep_mode, ha.mode, hm]
        have hop : ∀ p ∈ ps.toList, ρ s'.tm p.2 = ρ s.tm p.2 := fun p hp => ha.operand p.2 (by rw [ho]; simp only [Op.operands]; exact (by simpa using ⟨p.1, by simpa using hp⟩))
        have he : (ps.toList.map fun p => ρ s'.tm p.2) = ps.toList.map fun p => ρ s.tm p.2 := List.map_congr_left hop
        simp only [stepM, aop, ho, cond_true]
        rw [he, buildL_congr hop]
def FMono {α β : Type} (F : (α → β → Prop) → Prop) : Prop := ∀ K K' : α → β → Prop, (∀ a b, K a b → K' a b) → F K → F K'
def FFeas {α β : Type} (F : (α → β → Prop) → Prop) : Prop := ∀ K : α → β → Prop, F K → ∃ a b, K a b
theorem lendH_get {H H' : Heap} (h : H.get = H'.get) : lendH H = lendH H' := by
  funext v
  cases v <;> simp only [lendH, h]
theorem hsOk_get {H H' : Heap} (h : H.get = H'.get) : hsOk H = hsOk H' := by
  funext v
  cases v <;> simp only [hsOk, h]
theorem apartK_get {H H' : Heap} (h : H.get = H'.get) : apartK H = apartK H' := by
  obtain ⟨n, f⟩ := H
  obtain ⟨n', f'⟩ := H'
  cases h
  rfl
theorem call_step {E : Env} {R : Oracle} (hR : OLe R R) (hF : Feas R) {ops : List Oper} {o : Oper} (hc : isCall E o = true) (s : St) :
    ∃ F : Nat → (AV → Nat → Prop) → Prop, (∀ n, FMono (F n)) ∧ (∀ n, FFeas (F n)) ∧ ∀ s', Agree ops o s s' → ∀ K : St → Prop, astep E R true ops o s' K ↔ F s'.H.next fun v n => K ({ s' with H := ⟨n, s'.H.get⟩ }.put o.dst v) := by
  have no : mode ops o s.tm = none ∨ (∀ s', Agree ops o s s' → ∀ K, ¬ aop E R true o s' K) ∧ mode ops o s.tm = some true → ∃ F : Nat → (AV → Nat → Prop) → Prop, (∀ n, FMono (F n)) ∧ (∀ n, FFeas (F n)) ∧ ∀ s', Agree ops o s s' → ∀ K : St → Prop, astep E R true ops o s' K ↔ F s'.H.next fun v n => K ({ s' with H := ⟨n, s'.H.get⟩ }.put o.dst v) := by
    intro h
    refine ⟨fun _ _ => False, fun n K K' hK h => h, fun n K h => h.elim, fun s' ha K => ?_⟩
    rw [astep_mode, ha.mode]
    rcases h with h | ⟨h, hm⟩
    · rw [h]; exact Iff.rfl
    · rw [hm]
      simp only [stepM]
      exact ⟨fun h' => h s' ha K h', False.elim⟩
  cases hm : mode ops o s.tm with
  | none => exact no (.inl hm)
  | some b =>
    cases b with
    | false => exact ⟨fun n K => K (.tup []) n, fun n K K' hK h => hK _ _ h, fun n K h => ⟨_, _, h⟩, fun s' ha K => by rw [astep_mode, ha.mode, hm]; exact Iff.rfl⟩
    | true =>
      unfold isCall at hc
      cases ho : o.op <;> rw [ho] at hc <;> simp only [Bool.false_eq_true] at hc
      case call c =>
      cases hcc : c.callee <;> rw [hcc] at hc <;> try (simp only [Bool.false_eq_true] at hc; done)
      case value f =>
      have hfo : f ∈ o.op.operands := by simp [ho, Op.operands, Call.operands, hcc]
      cases hf : ρ s.tm f <;> first
        | (refine no (.inr ⟨fun s' ha K => ?_, hm⟩)
           simp only [aop, ho, hcc]
           rw [ha.operand f hfo, hf]
           exact id
           done)
        | skip
      case fn g cap =>
      cases hap : E.apart g with
      | true =>
        have hargs : ∀ s', Agree ops o s s' → ∀ i, i < c.args.size → ρ s'.tm (c.args.getD i (.const (.bool false))) = ρ s.tm (c.args.getD i (.const (.bool false))) := fun s' ha i hi => ha.operand _ (by simp [ho, Op.operands, Call.operands, Array.getD, hi])
        cases h2 : (Nat.beq c.args.size 2 && cap.isEmpty) with
        | false =>
          refine no (.inr ⟨fun s' ha K => ?_, hm⟩)
          simp only [aop, ho, hcc]
          rw [ha.operand f hfo, hf]
          simp only [hap, cond_true, h2]
          exact id
        | true =>
          have hsz := Nat.eq_of_beq_eq_true (Bool.and_eq_true _ _ ▸ h2).1
          refine ⟨fun n K => apartK s.H (ρ s.tm (c.args.getD 0 (.const (.bool false)))) (ρ s.tm (c.args.getD 1 (.const (.bool false)))) fun b => K (.bool b) n, fun n K K' hK => apartK_mono fun _ => hK _ _, fun n K h => let ⟨b, h⟩ := apartK_feas h; ⟨_, _, h⟩, fun s' ha K => ?_⟩
          rw [astep_mode, ha.mode, hm]
          simp only [stepM, aop, ho, hcc]
          rw [ha.operand f hfo, hf]
          simp only [hap, cond_true]
          rw [hargs s' ha 0 (by omega), hargs s' ha 1 (by omega), apartK_get ha.2.1]
          simp only [h2, G, cond_true]
      | false =>
      let args := cond (E.io g) (c.args.toList.map (ρ s.tm)) (argNs E.T c.argTypes.toList (c.args.toList.map (ρ s.tm))) ++ cap
      refine ⟨fun n K => cond (E.io g) False (cond (E.pur g)
        (cond (scalarT E.T o.type)
          (G (!(E.own g)) (G (args.all (hsOk s.H)) (R g (mapTs (lendH s.H) args) ⟨n, fun _ => .dead⟩ fun v H => normRes E.T false 0 o.type v fun v => K v (Nat.max n H.next))))
          (G (tagsOfs args).isEmpty (G (!(E.own g)) (R g (frzVs args) ⟨n, fun _ => .dead⟩ fun v H => normRes E.T false 0 o.type v fun v => K v (Nat.max n H.next))))) False), fun n K K' hK => ?_, fun n K => ?_, fun s' ha K => ?_⟩
      · exact cond_mono id (cond_mono (cond_mono (G_mono (G_mono (hR _ _ _ _ _ fun _ _ => normRes_mono fun _ => hK _ _))) (G_mono (G_mono (hR _ _ _ _ _ fun _ _ => normRes_mono fun _ => hK _ _)))) id)
      · have key : ∀ {args : List AV}, (R g args ⟨n, fun _ => .dead⟩ fun v H => normRes E.T false 0 o.type v fun v => K v (Nat.max n H.next)) → ∃ a b, K a b := fun h => by
          obtain ⟨v, H', h⟩ := hF _ _ _ _ h
          obtain ⟨y, h⟩ := normRes_feas h
          exact ⟨y, _, h⟩
        exact cond_feas False.elim (cond_feas (cond_feas (G_feas (G_feas key)) (G_feas (G_feas key))) False.elim)
      · rw [astep_mode, ha.mode, hm]
        simp only [stepM, aop, ho, hcc]
        rw [ha.operand f hfo, hf]
        have hargs : c.args.toList.map (ρ s'.tm) = c.args.toList.map (ρ s.tm) := List.map_congr_left fun x hx => ha.operand x (by simp [ho, Op.operands, Call.operands]; simp_all)
        simp only [hargs, hap, cond_false, callAV, Bool.not_true, lendH_get ha.2.1, hsOk_get ha.2.1, cond_true]
        exact Iff.rfl

theorem apartB_spec {ops : List Oper} {x y : Oper} (h : apartB ops x y = true) :
    (∀ d, x.dst = some d → d ∉ looks ops y) ∧ (∀ d, x.dst = some d → y.dst ≠ some d) ∧ (∀ d, y.dst = some d → d ∉ looks ops x) := by
  refine ⟨fun d hd => ?_, fun d hd => ?_, fun d hd => ?_⟩ <;> simp [apartB, hd] at h
  · exact h.1.1
  · exact h.1.2
  · exact h.2
theorem put_mem' (s : St) (d : Option Nat) (v : AV) : (s.put d v).mem = s.mem := by cases d <;> rfl
theorem put_H' (s : St) (d : Option Nat) (v : AV) : (s.put d v).H = s.H := by cases d <;> rfl
theorem put_agree {ops : List Oper} {x y : Oper} {s : St} (n : Nat) {v : AV} (h : ∀ d, x.dst = some d → d ∉ looks ops y) : Agree ops y s ({ s with H := ⟨n, s.H.get⟩ }.put x.dst v) := by
  refine ⟨put_mem' _ _ _, by rw [put_H'], fun t ht => ?_⟩
  cases hd : x.dst with
  | none => rfl
  | some d =>
    have : d ≠ t := fun e => h d hd (e ▸ ht)
    simp only [St.put, List.getD_eq_getElem?_getD, List.getElem?_set, this, if_false]
theorem agree_refl {ops : List Oper} {y : Oper} {s : St} : Agree ops y s s := ⟨rfl, rfl, fun _ _ => rfl⟩
theorem put_swap {s : St} {d d' : Option Nat} {v v' : AV} (h : ∀ i, d = some i → d' ≠ some i) : (s.put d v).put d' v' = (s.put d' v').put d v := by
  cases d with
  | none => cases d' <;> rfl
  | some i =>
    cases d' with
    | none => rfl
    | some j =>
      have : i ≠ j := fun e => h i rfl (by rw [e])
      simp only [St.put]
      rw [List.set_comm _ _ this]
theorem put_setH {s : St} {d : Option Nat} {v : AV} {H : Heap} : ({ s.put d v with H := H } : St) = ({ s with H := H } : St).put d v := by cases d <;> rfl
theorem put_next {s : St} {d : Option Nat} {v : AV} {n : Nat} : ({ s.put d v with H := ⟨n, (s.put d v).H.get⟩ } : St) = ({ s with H := ⟨n, s.H.get⟩ } : St).put d v := by cases d <;> rfl

theorem light_dry {T : List TI} {op : Op} {r : Operand → AV} {mem mem' : List MB} {H H' : Heap} {K : AV → Prop} (h : dryOp T op = true) : light T op r mem H K = light T op r mem' H' K := by
  cases op <;> first | rfl | (simp [dryOp] at h; done) | skip
  rename_i c
  simp only [light]
  cases hc : c.callee <;> try rfl
  rename_i b
  cases b <;> try rfl
  simp only [dryOp, hc] at h
  cases ha : c.args.toList with
  | nil => rfl
  | cons x l =>
    cases l with
    | cons y l => rfl
    | nil =>
      cases ht : c.argTypes.toList with
      | nil => rfl
      | cons t l =>
        cases l with
        | cons u l => rfl
        | nil =>
          rw [ht] at h
          simp only [List.headD_cons] at h
          simp only
          cases hk : (ti T t).k <;> first | rfl | (rw [hk] at h; simp at h; done) | (cases r x <;> rfl)
theorem dry_step {E : Env} {ops : List Oper} {o : Oper} (hl : isDry E.T o = true) (s : St) :
    ∃ F : (AV → Prop) → Prop, Det F ∧ ∀ s', (∀ t ∈ looks ops o, s'.tm.getD t .any = s.tm.getD t .any) → ∀ (R : Oracle) (K : St → Prop), astep E R true ops o s' K ↔ F fun v => K (s'.put o.dst v) := by
  unfold isDry at hl
  rw [Bool.and_eq_true] at hl
  have hag : ∀ s' : St, (∀ t ∈ looks ops o, s'.tm.getD t .any = s.tm.getD t .any) → Agree ops o s { s' with mem := s.mem, H := s.H } := fun s' h => ⟨rfl, rfl, h⟩
  have hmd : ∀ s' : St, (∀ t ∈ looks ops o, s'.tm.getD t .any = s.tm.getD t .any) → mode ops o s'.tm = mode ops o s.tm := fun s' h => (hag s' h).mode
  have hop : ∀ s' : St, (∀ t ∈ looks ops o, s'.tm.getD t .any = s.tm.getD t .any) → ∀ x ∈ o.op.operands, ρ s'.tm x = ρ s.tm x := fun s' h => (hag s' h).operand
  cases hm : mode ops o s.tm with
  | none => exact ⟨_, det_no, fun s' ha R K => by rw [astep_mode, hmd s' ha, hm]; exact Iff.rfl⟩
  | some b =>
    cases b with
    | false => exact ⟨_, det_at (AV.tup []), fun s' ha R K => by rw [astep_mode, hmd s' ha, hm]; exact Iff.rfl⟩
    | true =>
      refine ⟨_, light_det (T := E.T) (op := o.op) (r := ρ s.tm) (mem := s.mem) (H := s.H), fun s' ha R K => ?_⟩
      rw [astep_mode, hmd s' ha, hm]
      simp only [stepM]
      rw [isLight_aop hl.1, light_congr (hop s' ha), light_dry hl.2]
theorem store_step {E : Env} {ops : List Oper} {o : Oper} (hl : isStore o = true) (s : St) :
    ∃ F : (List MB × Heap → Prop) → Prop, Det F ∧ ∀ s', s'.mem = s.mem → s'.H = s.H → (∀ t ∈ looks ops o, s'.tm.getD t .any = s.tm.getD t .any) → ∀ (R : Oracle) (K : St → Prop),
      astep E R true ops o s' K ↔ F fun u => K ({ s' with mem := u.1, H := u.2 }.put o.dst (.tup [])) := by
  have hag : ∀ s' : St, s'.mem = s.mem → s'.H = s.H → (∀ t ∈ looks ops o, s'.tm.getD t .any = s.tm.getD t .any) → Agree ops o s s' := fun s' h1 h2 h => ⟨h1, by rw [h2], h⟩
  unfold isStore at hl
  cases hm : mode ops o s.tm with
  | none => exact ⟨_, det_no, fun s' h1 h2 h3 R K => by rw [astep_mode, (hag s' h1 h2 h3).mode, hm]; exact Iff.rfl⟩
  | some b =>
    cases b with
    | false =>
      refine ⟨_, det_at (s.mem, s.H), fun s' h1 h2 h3 R K => ?_⟩
      rw [astep_mode, (hag s' h1 h2 h3).mode, hm]
      obtain ⟨tm, mem, H⟩ := s'
      cases h1; cases h2
      exact Iff.rfl
    | true =>
      cases ho : o.op <;> rw [ho] at hl <;> try (simp at hl; done)
      rename_i t x y
      have ex : ∀ s' : St, s'.mem = s.mem → s'.H = s.H → (∀ t ∈ looks ops o, s'.tm.getD t .any = s.tm.getD t .any) → ρ s'.tm x = ρ s.tm x ∧ ρ s'.tm y = ρ s.tm y := fun s' h1 h2 h3 =>
        ⟨(hag s' h1 h2 h3).operand x (by simp [ho, Op.operands]), (hag s' h1 h2 h3).operand y (by simp [ho, Op.operands])⟩
      have no : (∀ s' : St, s'.mem = s.mem → s'.H = s.H → ρ s'.tm x = ρ s.tm x → ρ s'.tm y = ρ s.tm y → ∀ (R : Oracle) (K : St → Prop), ¬ aop E R true o s' K) → ∃ F : (List MB × Heap → Prop) → Prop, Det F ∧ ∀ s', s'.mem = s.mem → s'.H = s.H → (∀ t ∈ looks ops o, s'.tm.getD t .any = s.tm.getD t .any) → ∀ (R : Oracle) (K : St → Prop),
          astep E R true ops o s' K ↔ F fun u => K ({ s' with mem := u.1, H := u.2 }.put o.dst (.tup [])) := fun hno => by
        refine ⟨_, det_no, fun s' h1 h2 h3 R K => ?_⟩
        rw [astep_mode, (hag s' h1 h2 h3).mode, hm]
        exact ⟨fun h => hno s' h1 h2 (ex s' h1 h2 h3).1 (ex s' h1 h2 h3).2 R K h, False.elim⟩
      cases hx : ρ s.tm x
      case ptr j o' =>
        cases hb : s.mem.getD j .dead
        case cells cs =>
          refine ⟨_, det_G (b := Nat.blt 0 (ti E.T t).size) (det_G (b := boxable (ρ s.tm y)) (det_G (b := Nat.ble (o' + (cellsOf (ρ s.tm y)).length) cs.length) (det_G (b := Nat.beq (cellsOf (ρ s.tm y)).length (ti E.T t).size)
            (det_at (s.mem.set j (.cells (setRangeX cs o' (cellsOf (ρ s.tm y)))), s.H))))), fun s' h1 h2 h3 R K => ?_⟩
          rw [astep_mode, (hag s' h1 h2 h3).mode, hm]
          obtain ⟨e1, e2⟩ := ex s' h1 h2 h3
          obtain ⟨tm, mem, H⟩ := s'
          cases h1; cases h2
          have e1 : ρ tm x = ρ s.tm x := e1
          have e2 : ρ tm y = ρ s.tm y := e2
          simp only [stepM, aop, ho, e1, e2, hx, hb]
        all_goals
          refine no fun s' h1 h2 e1 e2 R K => ?_
          simp only [aop, ho, e1, hx, h1, hb]
          exact id
      case he j k i o' =>
        have hd := det_G (b := (tagsOf (ρ s.tm y)).isEmpty) <| det_G (b := (s.H.get j).isRows k) <| det_G (b := Nat.blt 0 (ti E.T t).size) <| det_G (b := boxable (ρ s.tm y)) <| det_G (b := Nat.ble (o' + (cellsOf (ρ s.tm y)).length) k) <| det_G (b := Nat.beq (cellsOf (ρ s.tm y)).length (ti E.T t).size) <|
          det_G (b := Nat.blt i (s.H.get j).xs.length) <| det_at (s.mem, s.H.set j (.rows k ((s.H.get j).xs.set i (setRange ((s.H.get j).xs.getD i []) o' (frzVs (cellsOf (ρ s.tm y)))))))
        refine ⟨_, hd, fun s' h1 h2 h3 R K => ?_⟩
        rw [astep_mode, (hag s' h1 h2 h3).mode, hm]
        obtain ⟨e1, e2⟩ := ex s' h1 h2 h3
        obtain ⟨tm, mem, H⟩ := s'
        cases h1; cases h2
        have e1 : ρ tm x = ρ s.tm x := e1
        have e2 : ρ tm y = ρ s.tm y := e2
        simp only [stepM, aop, ho, e1, e2, hx, Bool.not_true, Bool.false_or]
        cases hv : (tagsOf (ρ s.tm y)) with
        | nil => exact Iff.rfl
        | cons a b => exact Iff.rfl
      case obj j o' =>
        by_cases hy : ∃ tg k xs, ρ s.tm y = .sl (tg + 1) k xs
        · obtain ⟨tg, k, xs, hy⟩ := hy
          refine no fun s' h1 h2 e1 e2 R K => ?_
          simp only [aop, ho, e1, e2, hx, hy, Bool.not_true, G, cond_false]
          exact id
        have haop : ∀ s' : St, ρ s'.tm x = ρ s.tm x → ρ s'.tm y = ρ s.tm y → ∀ (R : Oracle) (K : St → Prop), aop E R true o s' K = (G (!true || (tagsOf (ρ s.tm y)).isEmpty) <| G ((s'.H.get j).isCells) (G (Nat.blt 0 (ti E.T t).size) (G (boxable (ρ s.tm y)) (G (Nat.ble (o' + (cellsOf (ρ s.tm y)).length) (s'.H.get j).cs.length) (G (Nat.beq (cellsOf (ρ s.tm y)).length (ti E.T t).size)
            (K ({ s'.frzAll (tagsOf (ρ s.tm y)) with H := s'.H.set j (.cells (setRange (s'.H.get j).cs o' (frzVs (cellsOf (ρ s.tm y))))) }.put o.dst (.tup []))))))) : Prop) := by
          intro s' e1 e2 R K
          simp only [aop, ho, e1, e2, hx]
          split
          · rename_i tg k xs hh
            exact absurd ⟨_, _, _, hh⟩ hy
          · rfl
        have hd := det_G (b := (tagsOf (ρ s.tm y)).isEmpty) <| det_G (b := (s.H.get j).isCells) <| det_G (b := Nat.blt 0 (ti E.T t).size) <| det_G (b := boxable (ρ s.tm y)) <| det_G (b := Nat.ble (o' + (cellsOf (ρ s.tm y)).length) (s.H.get j).cs.length) <| det_G (b := Nat.beq (cellsOf (ρ s.tm y)).length (ti E.T t).size) <|
          det_at (s.mem, s.H.set j (.cells (setRange (s.H.get j).cs o' (frzVs (cellsOf (ρ s.tm y))))))
        refine ⟨_, hd, fun s' h1 h2 h3 R K => ?_⟩
        rw [astep_mode, (hag s' h1 h2 h3).mode, hm]
        obtain ⟨e1, e2⟩ := ex s' h1 h2 h3
        obtain ⟨tm, mem, H⟩ := s'
        cases h1; cases h2
        have e1 : ρ tm x = ρ s.tm x := e1
        have e2 : ρ tm y = ρ s.tm y := e2
        simp only [stepM]
        rw [haop ⟨tm, _, _⟩ e1 e2]
        simp only [Bool.not_true, Bool.false_or]
        cases hv : (tagsOf (ρ s.tm y)) with
        | nil => exact Iff.rfl
        | cons a b => exact Iff.rfl
      all_goals
        refine no fun s' h1 h2 e1 e2 R K => ?_
        simp only [aop, ho, e1, hx, Bool.not_true, G, cond_false]
        exact id
/-- Two operations whose order is open change places. -/
theorem swap {E : Env} {R : Oracle} (hR : OLe R R) (hF : Feas R) {ops : List Oper} {x y : Oper} (h : fits E ops x y = true) {s : St} {K : St → Prop}
    (hs : astep E R true ops x s fun s => astep E R true ops y s K) : astep E R true ops y s fun s => astep E R true ops x s K := by
  unfold fits at h
  simp only [Bool.and_eq_true, Bool.or_eq_true] at h
  obtain ⟨h1, h0⟩ := h
  obtain ⟨a1, a2, a3⟩ := apartB_spec h1
  have keepL : ∀ {z : Oper} {s' : St} {d : Option Nat} {v : AV}, (∀ i, d = some i → i ∉ looks ops z) → s'.tm = s.tm → ∀ t ∈ looks ops z, (s'.put d v).tm.getD t .any = s.tm.getD t .any := by
    intro z s' d v hd hs t ht
    cases d with
    | none => simp only [St.put, hs]
    | some i =>
      have : i ≠ t := fun e => hd i rfl (e ▸ ht)
      simp only [St.put, hs, List.getD_eq_getElem?_getD, List.getElem?_set, this, if_false]
  have putM : ∀ {s' : St} {d : Option Nat} {v : AV} {m : List MB} {H : Heap}, ({ s'.put d v with mem := m, H := H } : St) = ({ s' with mem := m, H := H } : St).put d v := by
    intro s' d v m H
    cases d <;> rfl
  rcases h0 with ⟨⟨h2, h3⟩, h4⟩ | ⟨hx, hy⟩ | ⟨hx, hy⟩
  case inr.inl =>
    obtain ⟨F, ⟨o, hF1⟩, hF2⟩ := dry_step (ops := ops) hx s
    obtain ⟨G, ⟨o', hG1⟩, hG2⟩ := store_step (E := E) (ops := ops) hy s
    rw [hF2 s (fun _ _ => rfl), hF1] at hs
    obtain ⟨v, rfl, hs⟩ := hs
    rw [hG2 _ (put_mem' _ _ _) (put_H' _ _ _) (keepL a1 rfl), hG1] at hs
    obtain ⟨u, rfl, hs⟩ := hs
    rw [hG2 s rfl rfl (fun _ _ => rfl), hG1]
    refine ⟨u, rfl, ?_⟩
    rw [hF2 _ (keepL (s' := { s with mem := u.1, H := u.2 }) a3 rfl), hF1]
    refine ⟨v, rfl, ?_⟩
    rw [← put_swap a2]
    have e := putM (s' := s) (d := x.dst) (v := v) (m := u.1) (H := u.2)
    rw [← e]
    exact hs
  case inr.inr =>
    obtain ⟨F, ⟨o, hF1⟩, hF2⟩ := store_step (E := E) (ops := ops) hx s
    obtain ⟨G, ⟨o', hG1⟩, hG2⟩ := dry_step (ops := ops) hy s
    rw [hF2 s rfl rfl (fun _ _ => rfl), hF1] at hs
    obtain ⟨u, rfl, hs⟩ := hs
    rw [hG2 _ (keepL (s' := { s with mem := u.1, H := u.2 }) a1 rfl), hG1] at hs
    obtain ⟨v, rfl, hs⟩ := hs
    rw [hG2 s (fun _ _ => rfl), hG1]
    refine ⟨v, rfl, ?_⟩
    rw [hF2 _ (put_mem' _ _ _) (put_H' _ _ _) (keepL a3 rfl), hF1]
    refine ⟨u, rfl, ?_⟩
    rw [putM, put_swap (fun i hi hx => a2 i hx hi)]
    exact hs
  have a2' : ∀ i, y.dst = some i → x.dst ≠ some i := fun i hi hx => a2 i hx hi
  have ax : ∀ {v : AV}, Agree ops y s (s.put x.dst v) := put_agree s.H.next a1
  have ay : ∀ {v : AV}, Agree ops x s (s.put y.dst v) := put_agree s.H.next a3
  cases hx : isQuiet E.T x with
  | true =>
    obtain ⟨F, ⟨o, hF1⟩, hF2⟩ := light_step (ops := ops) hx s
    rw [hF2 s agree_refl, hF1] at hs
    obtain ⟨v, rfl, hs⟩ := hs
    cases hy : isQuiet E.T y with
    | true =>
      obtain ⟨G, ⟨o', hG1⟩, hG2⟩ := light_step (ops := ops) hy s
      rw [hG2 _ ax, hG1] at hs
      obtain ⟨u, rfl, hs⟩ := hs
      rw [hG2 s agree_refl, hG1]
      refine ⟨u, rfl, ?_⟩
      rw [hF2 _ ay, hF1]
      refine ⟨v, rfl, ?_⟩
      rw [← put_swap a2]
      exact hs
    | false =>
      have hy : isCall E y = true := by rw [hy] at h4; simpa using h4
      obtain ⟨G, hG0, _, hG2⟩ := call_step (E := E) hR hF (ops := ops) hy s
      rw [hG2 _ ax] at hs
      rw [hG2 s agree_refl]
      rw [put_H'] at hs
      refine hG0 _ _ _ (fun u n hu => ?_) hs
      rw [hF2 _ (put_agree n a3), hF1]
      refine ⟨v, rfl, ?_⟩
      rw [← put_swap a2]
      have e : ({ s.put x.dst v with H := ⟨n, s.H.get⟩ } : St) = ({ s with H := ⟨n, s.H.get⟩ } : St).put x.dst v := put_setH
      rw [← e]
      exact hu
  | false =>
    have hxc : isCall E x = true := by rw [hx] at h3; simpa using h3
    have hy : isQuiet E.T y = true := by rw [hx] at h2; simpa using h2
    obtain ⟨G, ⟨o, hG1⟩, hG2⟩ := light_step (ops := ops) hy s
    obtain ⟨F, hF0, hF1, hF2⟩ := call_step (E := E) hR hF (ops := ops) hxc s
    rw [hF2 s agree_refl] at hs
    obtain ⟨v0, n0, hv0⟩ := hF1 _ _ hs
    rw [hG2 _ (put_agree n0 a1), hG1] at hv0
    obtain ⟨u, rfl, _⟩ := hv0
    rw [hG2 s agree_refl, hG1]
    refine ⟨u, rfl, ?_⟩
    rw [hF2 _ ay, put_H']
    refine hF0 _ _ _ (fun v n hv => ?_) hs
    rw [hG2 _ (put_agree n a1), hG1] at hv
    obtain ⟨_, e, hv⟩ := hv
    cases e
    have e : ({ s.put y.dst u with H := ⟨n, s.H.get⟩ } : St) = ({ s with H := ⟨n, s.H.get⟩ } : St).put y.dst u := put_setH
    rw [e, put_swap a2']
    exact hv

/-- Operations by their numbers, in an order. -/
def aopsL (E : Env) (R : Oracle) (ops : List Oper) (strict : Nat → Bool) : List Nat → St → (St → Prop) → Prop
  | [], s, K => K s
  | i :: r, s, K => match ops[i]? with
    | none => aopsL E R ops strict r s K
    | some o => astep E R (strict i) ops o s fun s => aopsL E R ops strict r s K
theorem aopsL_mono {E : Env} {R R' : Oracle} (hR : OLe R R') {ops : List Oper} {strict : Nat → Bool} : ∀ {l : List Nat} {s : St} {K K' : St → Prop}, (∀ s, K s → K' s) → aopsL E R ops strict l s K → aopsL E R' ops strict l s K'
  | [], _, _, _, hK, h => hK _ h
  | i :: r, s, K, K', hK, h => by
    simp only [aopsL] at h ⊢
    cases ho : ops[i]? with
    | none => rw [ho] at h; exact aopsL_mono hR hK h
    | some o => rw [ho] at h; exact astep_mono hR (fun _ h => aopsL_mono hR hK h) h
theorem aops_L {E : Env} {R : Oracle} (hR : OLe R R) {ops : List Oper} {strict : Nat → Bool} {K : St → Prop} : ∀ (rest pre : List Oper) (s : St), ops = pre ++ rest → aops E R ops strict rest pre.length s K → aopsL E R ops strict (List.range' pre.length rest.length) s K
  | [], _, _, _, h => h
  | o :: rest, pre, s, e, h => by
    simp only [aops, List.length_cons, List.range'_succ, aopsL] at h ⊢
    have ho : ops[pre.length]? = some o := by rw [e]; simp
    rw [ho]
    simp only
    have e' : ops = (pre ++ [o]) ++ rest := by rw [e]; simp
    have this := fun s => aops_L hR (E := E) (strict := strict) (K := K) rest (pre ++ [o]) s e'
    simp only [List.length_append, List.length_cons, List.length_nil, Nat.zero_add] at this
    exact astep_mono hR (fun s h => this s h) h
/-- An operation that may change places with all that stand before it is done first. -/
theorem move_front {E : Env} {R : Oracle} (hR : OLe R R) (hF : Feas R) {ops : List Oper} {strict : Nat → Bool} {i : Nat} {o : Oper} (ho : ops[i]? = some o) {post : List Nat} {K : St → Prop} :
    ∀ (pre : List Nat) (s : St), (∀ j ∈ pre, ∀ x, ops[j]? = some x → fits E ops x o = true ∧ strict j = true ∧ strict i = true) → aopsL E R ops strict (pre ++ i :: post) s K → astep E R (strict i) ops o s fun s => aopsL E R ops strict (pre ++ post) s K
  | [], s, _, h => by simpa [aopsL, ho] using h
  | j :: pre, s, hp, h => by
    simp only [List.cons_append, aopsL] at h
    cases hj : ops[j]? with
    | none =>
      rw [hj] at h
      refine astep_mono hR (fun s h => ?_) (move_front hR hF ho pre s (fun j hj => hp j (by simp [hj])) h)
      simp only [List.cons_append, aopsL, hj]
      exact h
    | some x =>
      rw [hj] at h
      obtain ⟨h1, h2, h3⟩ := hp j (by simp) x hj
      have h := astep_mono hR (fun s h => move_front hR hF ho pre s (fun j hj => hp j (by simp [hj])) h) h
      simp only [h2, h3] at h
      have h := swap hR hF h1 h
      simp only [List.cons_append, aopsL, hj, h2, h3]
      exact h

/-! Orders told one by one. -/
theorem rmD_mem {i j : Nat} {rem : List Nat} : j ∈ rmD i rem ↔ j ∈ rem ∧ j ≠ i := by
  unfold rmD
  rw [List.mem_filter]
  refine and_congr_right fun _ => ?_
  cases h : Nat.beq j i with
  | true => simp [Nat.eq_of_beq_eq_true h]
  | false => simp; exact fun e => by rw [e, Nat.beq_refl] at h; cases h
theorem rmD_comm (i j : Nat) (rem : List Nat) : rmD i (rmD j rem) = rmD j (rmD i rem) := by
  unfold rmD
  rw [List.filter_filter, List.filter_filter]
  congr 1
  funext x
  rw [Bool.and_comm]
theorem minAt_spec {ops : List Oper} {rem : List Nat} {i : Nat} : minAt ops rem i = true ↔ ∀ j ∈ rem, anc ops ops.length i j = false := by
  unfold minAt
  rw [List.all_eq_true]
  exact forall_congr' fun j => by simp
theorem minAt_rm {ops : List Oper} {rem : List Nat} {i c : Nat} (h : minAt ops rem i = true) : minAt ops (rmD c rem) i = true := minAt_spec.2 fun j hj => minAt_spec.1 h j (rmD_mem.1 hj).1
theorem commAt_spec {E : Env} {ops : List Oper} {rem : List Nat} {i : Nat} (h : commAt E ops rem i = true) {j : Nat} (hj : j ∈ rem) (hne : j ≠ i) (hna : anc ops ops.length j i = false) : (fitsAt E ops i j || fitsAAt E ops i j) = true := by
  unfold commAt at h
  rw [List.all_eq_true] at h
  have := h j hj
  rw [hna] at this
  have hb : Nat.beq j i = false := by
    cases hb : Nat.beq j i with
    | false => rfl
    | true => exact absurd (Nat.eq_of_beq_eq_true hb) hne
  rw [hb] at this
  simpa using this
theorem commAt_rm {E : Env} {ops : List Oper} {rem : List Nat} {i c : Nat} (h : commAt E ops rem i = true) : commAt E ops (rmD c rem) i = true := by
  unfold commAt at h ⊢
  rw [List.all_eq_true] at h ⊢
  exact fun j hj => h j (rmD_mem.1 hj).1
theorem isLightN_aop {E : Env} {R : Oracle} {o : Oper} {s : St} {K : St → Prop} {st : Bool} (h : isLightN E.T o = true) : aop E R st o s K ↔ light E.T o.op (ρ s.tm) s.mem s.H fun v => K (s.put o.dst v) := by
  unfold isLightN at h
  rw [Bool.and_eq_true] at h
  obtain ⟨h, h2⟩ := h
  unfold isLight at h
  cases ho : o.op <;> rw [ho] at h h2 <;> simp only [aop, ho] <;> (try simp only at h) <;> try (first | exact Iff.rfl | (simp at h; done) | (simp at h2; done))
  case binOp op t x y z =>
    cases hk : (ti E.T t).k <;> rw [hk] at h <;> first | exact Iff.rfl | (simp at h; done)
  case convert src dst x =>
    cases hk : (ti E.T src).k <;> rw [hk] at h <;> try (simp at h; done)
    all_goals cases hk' : (ti E.T dst).k <;> rw [hk'] at h <;> first | exact Iff.rfl | (simp at h; done)
  case makeFunc fn first cap =>
    cases hf : first.toList with
    | cons x r => rw [hf] at h; simp at h
    | nil =>
      cases hc : cap.toList with
      | cons x r => rw [hf, hc] at h; simp at h
      | nil => cases fn <;> simp [light, hf, hc, capAll]
  case call c =>
    cases hc : c.callee with
    | value f => simp [hc] at h
    | invoke r n => simp [hc] at h
    | builtin b => cases b <;> simp [hc] at h <;> exact Iff.rfl
/-- One more block of local memory, and where it is pointed to. -/
def St.ext (B : MB) (d : Option Nat) (s : St) : St := ({ s with mem := s.mem ++ [B] } : St).put d (.ptr s.mem.length 0)
theorem ext_put {B : MB} {d d' : Option Nat} {v : AV} {s : St} (h : ∀ i, d = some i → d' ≠ some i) : (s.put d' v).ext B d = (s.ext B d).put d' v := by
  unfold St.ext
  rw [put_mem']
  have : ({ s.put d' v with mem := s.mem ++ [B] } : St) = ({ s with mem := s.mem ++ [B] } : St).put d' v := by cases d' <;> rfl
  rw [this, put_swap fun i hi hx => h i hx hi]
theorem light_ext {T : List TI} {op : Op} {r : Operand → AV} {mem : List MB} {B : MB} {H : Heap} {K : AV → Prop} (h : light T op r mem H K) : light T op r (mem ++ [B]) H K := by
  cases op <;> try exact h
  case load t a =>
    simp only [light] at h ⊢
    unfold loadAt at h ⊢
    cases hp : r a <;> rw [hp] at h <;> try exact h
    rename_i j o
    simp only at h ⊢
    have hlt : mem.getD j .dead ≠ .dead → (mem ++ [B]).getD j .dead = mem.getD j .dead := fun hne => by
      rw [List.getD_eq_getElem?_getD, List.getD_eq_getElem?_getD, List.getElem?_append]
      by_cases hl : j < mem.length
      · rw [if_pos hl]
      · rw [List.getD_eq_getElem?_getD, List.getElem?_eq_none (by omega)] at hne
        exact absurd rfl hne
    split at h
    · rename_i cs hc; rw [hlt (by rw [hc]; simp), hc]; exact h
    · rename_i cs hc; rw [hlt (by rw [hc]; simp), hc]; exact h
    · exact h.elim
/-- A block in which nothing is told otherwise by what tells of slices. -/
def Plain (B : MB) : Prop := ∀ f : AV → AV, (∀ v, (∀ t k xs, v ≠ .sl t k xs) → (∀ t k i o xs, v ≠ .ep t k i o xs) → f v = v) → B.mapM f = B
theorem zero_plain (T : List TI) (e : Nat) : Plain (MB.cells (cellsOf (zeroT T e))) := by
  intro f hf
  have hz : ∀ c : CK, mapT f c.zero = c.zero := fun c => by cases c <;> simp only [CK.zero, mapT] <;> exact hf _ (by simp) (by simp)
  have hl : ∀ l : List CK, mapTs f (l.map CK.zero) = l.map CK.zero := fun l => by
    induction l with
    | nil => rfl
    | cons c l ih => simp only [List.map_cons, mapTs, hz, ih]
  simp only [MB.mapM]
  congr 1
  unfold zeroT
  cases isAggT T e
  · simp only [cond_false]
    cases hs : (ti T e).shape with
    | nil => simp only [List.map_nil, List.headD_nil, cellsOf, mapTs, mapT]; rw [hf _ (by simp) (by simp)]
    | cons c r =>
      simp only [List.map_cons, List.headD_cons]
      have : cellsOf c.zero = [c.zero] := by cases c <;> rfl
      rw [this]
      simp only [mapTs, hz]
  · simp only [cond_true, cellsOf, hl]
theorem mapTs_set (f : AV → AV) : ∀ (l : List AV) (i : Nat) (v : AV), mapTs f (l.set i v) = (mapTs f l).set i (mapT f v)
  | [], _, _ => rfl
  | _ :: _, 0, _ => rfl
  | c :: l, i + 1, v => by simp only [List.set_cons_succ, mapTs, mapTs_set f l i v]
theorem ext_mapS {B : MB} {d : Option Nat} {s : St} {f : AV → AV} (hB : Plain B) (hf : ∀ v, (∀ t k xs, v ≠ .sl t k xs) → (∀ t k i o xs, v ≠ .ep t k i o xs) → f v = v) : (s.mapS f).ext B d = (s.ext B d).mapS f := by
  have hp : mapT f (.ptr s.mem.length 0) = .ptr s.mem.length 0 := by simp only [mapT]; exact hf _ (by simp) (by simp)
  have hm : (s.mem ++ [B]).map (MB.mapM f) = s.mem.map (MB.mapM f) ++ [B] := by rw [List.map_append, List.map_cons, List.map_nil, hB f hf]
  unfold St.ext
  cases d with
  | none => simp only [St.put, St.mapS, hm]
  | some i => simp only [St.put, St.mapS, hm, List.length_map, mapTs_set, hp]
theorem frzF_rest (t : Nat) : ∀ v, (∀ t k xs, v ≠ .sl t k xs) → (∀ t k i o xs, v ≠ .ep t k i o xs) → frzF t v = v := fun v h1 h2 => by
  cases v <;> first | rfl | exact absurd rfl (h1 _ _ _) | exact absurd rfl (h2 _ _ _ _ _)
theorem killF_rest (t : Nat) : ∀ v, (∀ t k xs, v ≠ .sl t k xs) → (∀ t k i o xs, v ≠ .ep t k i o xs) → killF t v = v := fun v h1 h2 => by
  cases v <;> first | rfl | exact absurd rfl (h1 _ _ _) | exact absurd rfl (h2 _ _ _ _ _)
theorem updF_rest (t : Nat) (ys : List (List AV)) : ∀ v, (∀ t k xs, v ≠ .sl t k xs) → (∀ t k i o xs, v ≠ .ep t k i o xs) → updF t ys v = v := fun v h1 h2 => by
  cases v <;> first | rfl | exact absurd rfl (h1 _ _ _) | exact absurd rfl (h2 _ _ _ _ _)
theorem ext_frzAll {B : MB} {d : Option Nat} (hB : Plain B) : ∀ (ts : List Nat) (s : St), (s.frzAll ts).ext B d = (s.ext B d).frzAll ts
  | [], s => rfl
  | t :: ts, s => by simp only [St.frzAll]; rw [ext_frzAll hB ts, ext_mapS hB (frzF_rest t)]
theorem ext_H {B : MB} {d : Option Nat} {s : St} {H : Heap} : ({ s with H := H } : St).ext B d = { s.ext B d with H := H } := by cases d <;> rfl
theorem ext_getH {B : MB} {d : Option Nat} {s : St} : (s.ext B d).H = s.H := by cases d <;> rfl
theorem ext_getM {B : MB} {d : Option Nat} {s : St} : (s.ext B d).mem = s.mem ++ [B] := by cases d <;> rfl
/-- The number of the first tag that is free does not matter where nothing is the caller's own. -/
theorem normC_any {s s' : Nat} {c : CK} {x : AV} {K : AV → Prop} (h : normC false s c x fun _ y => K y) : normC false s' c x fun _ y => K y := by cases c <;> exact h
theorem normCs_any : ∀ {cs : List CK} {s s' : Nat} {xs : List AV} {K : List AV → Prop}, normCs false cs s xs (fun _ y => K y) → normCs false cs s' xs fun _ y => K y
  | [], _, _, _, _, h => h
  | c :: cs, s, s', xs, K, h => by
    simp only [normCs] at h ⊢
    have h1 : normC false s c (xs.headD .any) fun _ x => normCs false cs 0 xs.tail fun _ r => K (x :: r) := normC_mono (fun s1 y hy => normCs_any (K := fun r => K (y :: r)) hy) h
    have h2 := normC_any (s' := s') (K := fun x => normCs false cs 0 xs.tail fun _ r => K (x :: r)) h1
    exact normC_mono (fun s1 y hy => normCs_any (K := fun r => K (y :: r)) hy) h2
theorem normT_any {T : List TI} {s s' t : Nat} {x : AV} {K : AV → Prop} (h : normT T false s t x fun _ y => K y) : normT T false s' t x fun _ y => K y := by
  unfold normT at h ⊢
  exact cond_mono (G_mono (normCs_any (K := fun l => K (.agg l)))) normC_any h
theorem normTs_any {T : List TI} : ∀ {ts : List Nat} {s s' : Nat} {xs : List AV} {K : List AV → Prop}, normTs T false ts s xs (fun _ y => K y) → normTs T false ts s' xs fun _ y => K y
  | [], _, _, _, _, h => h
  | t :: ts, s, s', xs, K, h => by
    simp only [normTs] at h ⊢
    have h1 : normT T false s t (xs.headD .any) fun _ x => normTs T false ts 0 xs.tail fun _ r => K (x :: r) := normT_mono (fun s1 y hy => normTs_any (K := fun r => K (y :: r)) hy) h
    have h2 := normT_any (s' := s') (K := fun x => normTs T false ts 0 xs.tail fun _ r => K (x :: r)) h1
    exact normT_mono (fun s1 y hy => normTs_any (K := fun r => K (y :: r)) hy) h2
theorem normRes_any {T : List TI} {s s' t : Nat} {x : AV} {K : AV → Prop} (h : normRes T false s t x K) : normRes T false s' t x K := by
  unfold normRes at h ⊢
  split at h
  · exact G_mono (normTs_any (K := fun l => K (.tup l))) h
  · exact normT_any h
/-- What stands ahead of the making of a variable may stand behind it. -/
theorem aop_ext {E : Env} {R : Oracle} (hR : OLe R R) {ops : List Oper} {x y : Oper} {st : Bool} {B : MB} (hB : Plain B) (ha : apartB ops x y = true) (hx : (isLightN E.T x || (isForm E.T x || (isStore x || isCallA E x))) = true) {s : St} {K : St → Prop}
    (h : aop E R st x s fun s => K (s.ext B y.dst)) : aop E R st x (s.ext B y.dst) K := by
  obtain ⟨a1, a2, a3⟩ := apartB_spec ha
  have hd : ∀ i, y.dst = some i → x.dst ≠ some i := fun i hi hx => a2 i hx hi
  have hput : ∀ {s : St} {v : AV}, (s.put x.dst v).ext B y.dst = (s.ext B y.dst).put x.dst v := ext_put hd
  have hop : ∀ o ∈ x.op.operands, ρ (s.ext B y.dst).tm o = ρ s.tm o := fun o ho => by
    cases o with
    | tmp t =>
      have ht : t ∈ looks ops x := by simp only [looks, List.mem_append, List.mem_filterMap]; exact .inl ⟨.tmp t, by simpa using ho, rfl⟩
      unfold St.ext
      cases hyd : y.dst with
      | none => rfl
      | some i =>
        have hne : i ≠ t := fun e => a3 i hyd (e ▸ ht)
        simp only [St.put, ρ, List.getD_eq_getElem?_getD, List.getElem?_set, hne, if_false]
    | _ => rfl
  simp only [Bool.or_eq_true] at hx
  rcases hx with hx | hx | hx | hx
  · rw [isLightN_aop hx] at h ⊢
    rw [ext_getH, ext_getM, light_congr hop]
    refine light_ext (light_mono (fun v hv => ?_) h)
    rw [← hput]
    exact hv
  · by_cases hcv : ∃ src dst y, x.op = .convert src dst y
    · obtain ⟨src, dst, v, ho⟩ := hcv
      rw [conv_aop hx ho] at h ⊢
      rw [hop v (by simp [ho, Op.operands])]
      simpa only [hput] using h
    unfold isForm at hx
    cases ho : x.op <;> rw [ho] at hx <;> try (simp at hx; done)
    case convert src dst v => exact absurd ⟨_, _, _, ho⟩ hcv
    rename_i t ps
    have he : (ps.toList.map fun p => (p.1, ρ (s.ext B y.dst).tm p.2)) = ps.toList.map fun p => (p.1, ρ s.tm p.2) := List.map_congr_left fun p hp => by
      rw [hop p.2 (by rw [ho]; simp only [Op.operands]; exact (by simpa using ⟨p.1, by simpa using hp⟩))]
    simp only [aop, ho, hput] at h ⊢
    rw [he]
    exact h
  · unfold isStore at hx
    cases ho : x.op <;> rw [ho] at hx <;> try (simp at hx; done)
    rename_i t p v
    have e1 : ρ (s.ext B y.dst).tm p = ρ s.tm p := hop p (by simp [ho, Op.operands])
    have e2 : ρ (s.ext B y.dst).tm v = ρ s.tm v := hop v (by simp [ho, Op.operands])
    simp only [aop, ho, e1, e2] at h ⊢
    cases hp : ρ s.tm p <;> rw [hp] at h <;> try exact h.elim
    case ptr j o' =>
      simp only [ext_getM] at h ⊢
      cases hm : s.mem.getD j .dead <;> rw [hm] at h <;> try exact h.elim
      rename_i cs
      have hlt : j < s.mem.length := by
        rcases Nat.lt_or_ge j s.mem.length with hl | hl
        · exact hl
        · rw [List.getD_eq_getElem?_getD, List.getElem?_eq_none hl] at hm; cases hm
      have hm' : (s.mem ++ [B]).getD j .dead = .cells cs := by rw [← hm, List.getD_eq_getElem?_getD, List.getD_eq_getElem?_getD, List.getElem?_append_left hlt]
      simp only [hm', hput] at h ⊢
      refine G_mono (G_mono (G_mono (G_mono fun h => ?_))) h
      have : ({ s with mem := s.mem.set j (.cells (setRangeX cs o' (cellsOf (ρ s.tm v)))) } : St).ext B y.dst = { s.ext B y.dst with mem := (s.mem ++ [B]).set j (.cells (setRangeX cs o' (cellsOf (ρ s.tm v)))) } := by
        unfold St.ext
        rw [List.set_append_left _ _ hlt]
        cases y.dst <;> simp [St.put]
      rw [← this]
      exact h
    case ep tg k i o' xs =>
      simp only [hput] at h ⊢
      refine G_mono (G_mono (G_mono (G_mono (G_mono (G_mono fun h => ?_))))) h
      rw [ext_mapS hB (updF_rest _ _), ext_frzAll hB] at h
      exact h
    case he j k i o' =>
      simp only [hput, ext_getH] at h ⊢
      refine G_mono (G_mono (G_mono (G_mono (G_mono (G_mono (G_mono fun h => ?_)))))) h
      rw [ext_H, ext_frzAll hB] at h
      exact h
    case obj j o' =>
      simp only [ext_getH] at h ⊢
      split at h
      · simp only [hput] at h ⊢
        refine G_mono (G_mono (G_mono (G_mono fun h => ⟨fun m h1 h2 => ?_, fun e => ?_⟩))) h
        · have := h.1 m h1 h2
          rw [ext_H, ext_mapS hB (killF_rest _)] at this
          exact this
        · have := h.2 e
          rw [ext_H, ext_mapS hB (killF_rest _)] at this
          exact this
      · simp only [hput] at h ⊢
        refine G_mono (G_mono (G_mono (G_mono (G_mono (G_mono fun h => ?_))))) h
        rw [ext_H, ext_frzAll hB] at h
        exact h
  · unfold isCallA at hx
    cases ho : x.op <;> rw [ho] at hx <;> try (simp at hx; done)
    rename_i c
    simp only at hx
    cases hcc : c.callee <;> rw [hcc] at hx <;> try (simp at hx; done)
    rename_i f
    cases f <;> simp only [Bool.false_eq_true] at hx
    rename_i f
    simp only [Bool.and_eq_true, Bool.not_eq_true'] at hx
    obtain ⟨q1, q2, q3⟩ := hx
    have hargs : c.args.toList.map (ρ (s.ext B y.dst).tm) = c.args.toList.map (ρ s.tm) := List.map_congr_left fun z hz => hop z (by simp [ho, Op.operands, Call.operands]; simp_all)
    simp only [aop, ho, hcc, ρ, q3, cond_false, hargs] at h ⊢
    unfold callAV at h ⊢
    simp only [q2, cond_false, ext_getH, q1] at h ⊢
    have one : ∀ {n n' : Nat} {args : List AV} {H : Heap} {g g' : Heap → St}, (∀ H, (g H).ext B y.dst = g' H) → R f args H (fun v H => normRes E.T false n x.type v fun v => K (((g H).put x.dst v).ext B y.dst)) → R f args H (fun v H => normRes E.T false n' x.type v fun v => K ((g' H).put x.dst v)) := fun {n n' args H g g'} hg => hR _ _ _ _ _ fun v H hv => by
      refine normRes_any (normRes_mono (fun v hv => ?_) hv)
      rw [hput, hg] at hv
      exact hv
    have onep : ∀ {n n' : Nat} {args : List AV} {H : Heap} {g g' : Heap → St}, (∀ H, (g H).ext B y.dst = g' H) → pastR R f args H (fun v H => normRes E.T false n x.type v fun v => K (((g H).put x.dst v).ext B y.dst)) → pastR R f args H (fun v H => normRes E.T false n' x.type v fun v => K ((g' H).put x.dst v)) := fun {n n' args H g g'} hg => pastR_mono hR _ _ _ _ _ fun v H hv => by
      refine normRes_any (normRes_mono (fun v hv => ?_) hv)
      rw [hput, hg] at hv
      exact hv
    exact cond_mono (cond_mono (G_mono (G_mono (onep fun H => ext_H))) (cond_mono (G_mono (G_mono (onep fun H => ext_H))) (onep fun H => by rw [ext_H, ext_frzAll hB]))) (G_mono (one fun H => by rw [ext_H, ext_frzAll hB])) h
theorem swapA {E : Env} {R : Oracle} (hR : OLe R R) (hF : Feas R) {ops : List Oper} {x y : Oper} {st st' : Bool} (h : fitsA E ops x y = true) {s : St} {K : St → Prop}
    (hs : astep E R st ops x s fun s => astep E R st' ops y s K) : astep E R st' ops y s fun s => astep E R st ops x s K := by
  unfold fitsA at h
  simp only [Bool.and_eq_true] at h
  obtain ⟨ha, hy, hx⟩ := h
  unfold isAllocL at hy
  rw [Bool.and_eq_true] at hy
  obtain ⟨hg, hy⟩ := hy
  cases ho : y.op <;> rw [ho] at hy <;> try (simp at hy; done)
  rename_i e
  simp only [Bool.not_eq_true'] at hy
  have hstep : ∀ (s : St) (K : St → Prop), astep E R st' ops y s K ↔ G (match (ti E.T e).k with | .other => false | .tuple _ => false | _ => true) (K (s.ext (MB.cells (cellsOf (zeroT E.T e))) y.dst)) := fun s K => by
    unfold astep
    rw [Option.isNone_iff_eq_none.1 hg]
    simp only [aop, ho, hy, cond_false]
    exact Iff.rfl
  simp only [hstep] at hs ⊢
  have hk : (match (ti E.T e).k with | .other => false | .tuple _ => false | _ => true) = true := by
    obtain ⟨s1, h1⟩ := astep_feas hF hs
    exact (G_out h1).1
  refine G_in hk ?_
  have hs : astep E R st ops x s fun s => K (s.ext (MB.cells (cellsOf (zeroT E.T e))) y.dst) := astep_mono hR (fun s h => (G_out h).2) hs
  obtain ⟨a1, a2, a3⟩ := apartB_spec ha
  have hmode : mode ops x (s.ext (MB.cells (cellsOf (zeroT E.T e))) y.dst).tm = mode ops x s.tm := by
    unfold mode
    cases hgx : x.guard with
    | none => rfl
    | some p =>
      obtain ⟨j, want⟩ := p
      simp only
      cases hd : (ops[j]?).bind (·.dst) with
      | none => rfl
      | some d =>
        simp only
        have : (s.ext (MB.cells (cellsOf (zeroT E.T e))) y.dst).tm.getD d .any = s.tm.getD d .any := by
          have hl : d ∈ looks ops x := by simp [looks, hgx, hd]
          unfold St.ext
          cases hyd : y.dst with
          | none => rfl
          | some i =>
            have hne : i ≠ d := fun e => a3 i hyd (e ▸ hl)
            simp only [St.put, List.getD_eq_getElem?_getD, List.getElem?_set, hne, if_false]
        rw [this]
  rw [astep_mode] at hs ⊢
  rw [hmode]
  cases hm : mode ops x s.tm with
  | none => rw [hm] at hs; exact hs
  | some b =>
    rw [hm] at hs
    cases b with
    | true => exact aop_ext hR (zero_plain _ _) ha hx hs
    | false =>
      simp only [stepM] at hs ⊢
      rw [ext_put fun i hi hx => a2 i hx hi] at hs
      exact hs
/-- Two that may change places do. -/
theorem stepD_swap {E : Env} {R : Oracle} (hR : OLe R R) (hF : Feas R) {ops : List Oper} {c i : Nat} (hne : i ≠ c) (h1 : anc ops ops.length i c = false) (h2 : anc ops ops.length c i = false) (hf : (fitsAt E ops c i || fitsAAt E ops c i) = true) {s : St} {K : St → Prop}
    (h : stepD E R ops c s fun s => stepD E R ops i s K) : stepD E R ops i s fun s => stepD E R ops c s K := by
  rw [Bool.or_eq_true] at hf
  rcases hf with hf | hf
  case inr =>
    unfold fitsAAt at hf
    cases hc : ops[c]? with
    | none => rw [hc] at hf; simp at hf
    | some x =>
      cases hi : ops[i]? with
      | none => rw [hc, hi] at hf; simp at hf
      | some y =>
        rw [hc, hi] at hf
        simp only at hf
        simp only [stepD, hc, hi] at h ⊢
        exact swapA hR hF hf h
  unfold fitsAt at hf
  cases hc : ops[c]? with
  | none => rw [hc] at hf; simp at hf
  | some x =>
    cases hi : ops[i]? with
    | none => rw [hc, hi] at hf; simp at hf
    | some y =>
      rw [hc, hi] at hf
      simp only at hf
      have lc : c < ops.length := (List.getElem?_eq_some_iff.1 hc).1
      have li : i < ops.length := (List.getElem?_eq_some_iff.1 hi).1
      have hb1 : Nat.beq i c = false := by
        cases hb : Nat.beq i c with
        | false => rfl
        | true => exact absurd (Nat.eq_of_beq_eq_true hb) hne
      have hb2 : Nat.beq c i = false := by
        cases hb : Nat.beq c i with
        | false => rfl
        | true => exact absurd (Nat.eq_of_beq_eq_true hb).symm hne
      have sc : stD E ops c = true := by
        unfold stD
        rw [List.any_eq_true]
        refine ⟨i, List.mem_range.2 li, ?_⟩
        simp [hb1, h1, h2, fitsAt, hc, hi, hf]
      have si : stD E ops i = true := by
        unfold stD
        rw [List.any_eq_true]
        refine ⟨c, List.mem_range.2 lc, ?_⟩
        simp [hb2, h1, h2, fitsAt, hc, hi, hf]
      simp only [stepD, hc, hi, sc, si] at h ⊢
      exact swap hR hF hf h
theorem conjL_mem {f : Nat → Prop} {i : Nat} : ∀ {l : List Nat}, i ∈ l → conjL l f → f i
  | [], h, _ => by cases h
  | [j], h, h' => by
    rcases List.mem_cons.1 h with rfl | h
    · exact h'
    · cases h
  | j :: k :: r, h, h' => by
    rcases List.mem_cons.1 h with rfl | h
    · exact h'.1
    · exact conjL_mem h h'.2
theorem orders {E : Env} {R : Oracle} (hR : OLe R R) (hF : Feas R) {ops : List Oper} {K : St → Prop} : ∀ (n : Nat),
    (∀ (rem : List Nat) (i : Nat) (s : St), i ∈ rem → minAt ops rem i = true → aopsD E R ops (n + 1) rem s K → stepD E R ops i s fun s => aopsD E R ops n (rmD i rem) s K) ∧
    (∀ (rem : List Nat) (c : Nat) (s : St), c ∈ rem → minAt ops rem c = true → commAt E ops rem c = true → (stepD E R ops c s fun s => aopsD E R ops n (rmD c rem) s K) → aopsD E R ops (n + 1) rem s K) := by
  intro n
  induction n with
  | zero =>
    refine ⟨fun rem i s hi hm h => ?_, fun rem c s hc hm hco h => ?_⟩
    · exfalso
      match rem, hi with
      | r :: rs, hi =>
        simp only [aopsD] at h
        split at h
        · obtain ⟨_, h⟩ := stepD_feas hF h; exact h
        · obtain ⟨_, h⟩ := conjL_one h
          obtain ⟨_, h⟩ := stepD_feas hF h; exact h
    · obtain ⟨_, h⟩ := stepD_feas hF h
      exact h.elim
  | succ n ih =>
    obtain ⟨ihA, ihB⟩ := ih
    have A : ∀ (rem : List Nat) (i : Nat) (s : St), i ∈ rem → minAt ops rem i = true → aopsD E R ops (n + 1 + 1) rem s K → stepD E R ops i s fun s => aopsD E R ops (n + 1) (rmD i rem) s K := by
      intro rem i s hi hm h
      match rem, hi with
      | r :: rs, hi =>
        simp only [aopsD] at h
        split at h
        · rename_i c hc
          have hc' := List.find?_some hc
          have hcm : c ∈ r :: rs := List.mem_of_find?_eq_some hc
          rw [Bool.and_eq_true] at hc'
          by_cases e : i = c
          · subst e; exact h
          · have a1 := minAt_spec.1 hm c hcm
            have a2 := minAt_spec.1 hc'.1 i hi
            have h := stepD_mono hR (fun s h => ihA (rmD c (r :: rs)) i s (rmD_mem.2 ⟨hi, e⟩) (minAt_rm hm) h) h
            have h := stepD_swap hR hF e a1 a2 (commAt_spec hc'.2 hi e a1) h
            refine stepD_mono hR (fun s h => ihB (rmD i (r :: rs)) c s (rmD_mem.2 ⟨hcm, fun e' => e e'.symm⟩) (minAt_rm hc'.1) (commAt_rm hc'.2) ?_) h
            rw [rmD_comm]
            exact h
        · exact conjL_mem (f := fun i => stepD E R ops i s fun s => aopsD E R ops (n + 1) (rmD i (r :: rs)) s K) (List.mem_filter.2 ⟨hi, hm⟩) h
    refine ⟨A, fun rem c s hc hm hco h => ?_⟩
    match rem, hc with
    | r :: rs, hc =>
      simp only [aopsD]
      have hex : (pickD E ops (r :: rs)).isSome = true := by
        unfold pickD
        rw [List.find?_isSome]
        exact ⟨c, hc, by rw [hm, hco]; rfl⟩
      cases hp : pickD E ops (r :: rs) with
      | none => rw [hp] at hex; cases hex
      | some c' =>
        simp only
        have hc1 := List.find?_some hp
        have hcm : c' ∈ r :: rs := List.mem_of_find?_eq_some hp
        rw [Bool.and_eq_true] at hc1
        by_cases e : c' = c
        · subst e; exact h
        · have a1 := minAt_spec.1 hc1.1 c hc
          have a2 := minAt_spec.1 hm c' hcm
          have h := stepD_mono hR (fun s h => ihA (rmD c (r :: rs)) c' s (rmD_mem.2 ⟨hcm, e⟩) (minAt_rm hc1.1) h) h
          have h := stepD_swap hR hF e a1 a2 (commAt_spec hco hcm e a1) h
          refine stepD_mono hR (fun s h => ihB (rmD c' (r :: rs)) c s (rmD_mem.2 ⟨hc, fun e' => e e'.symm⟩) (minAt_rm hm) (commAt_rm hco) ?_) h
          rw [rmD_comm]
          exact h
end Go.Proofs.Ytbkkhhmjmbbfpaa.Ab
