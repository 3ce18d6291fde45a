/- The quiet operations: each of them. -/
import Derived.Test.YtbkkhhmjmbbfpaaAbMap
import Derived.Laws.StructEq
namespace Go.Proofs.Ytbkkhhmjmbbfpaa.Ab
open Go

theorem exec_v {P : Program} {s : Sem Value} {v : Value} {w w' : World} (h : s.run P w = .ok v w') : ((do pure (Next.value (← s))) : Sem Next).run P w = .ok (.value v) w' := by
  simp [h]

section
variable {P : Program} {T : List TI} {w0 : World} {g0 g : Gs} {l : Gl} {w : World} {st : St} {a : Act} {K : AV → Prop}

theorem int_of_rep {n : Nat} {k : IntKind} {m : Int} {v : Value} (h : TRep g l w n (.int k m) v) : v = .int k m := by simpa [TRep] using h
theorem TabOk.size_pos (h : TabOk P T) {t : Nat} (ht : 0 < (ti T t).size) (w : World) : (sizeOf t).run P w = .ok (ti T t).size w := by
  have hl : T.length = P.types.size := by rw [← h.tys]; simp [tysOf]
  by_cases hlt : t < T.length
  · have : T[t]? = some (tyOf P t) := by rw [← h.tys]; simp [tysOf, List.getElem?_range (by omega : t < P.types.size)]
    have e : ti T t = tyOf P t := by simp [ti, List.getD_eq_getElem?_getD, this]
    rw [e] at ht ⊢
    have ht' : 0 < P.cellsOf t := ht
    show _ = Result.ok (P.cellsOf t) w
    unfold Program.cellsOf at ht' ⊢
    cases hi : P.info? t with
    | none => simp [hi] at ht'
    | some i => simp [sizeOf, typeInfo, hi]
  · simp [ti, List.getD_eq_getElem?_getD, List.getElem?_eq_none (Nat.le_of_not_lt hlt)] at ht

theorem part_sound (hT : TabOk P T) {n t o : Nat} {cs : List AV} {vs : List Value} (hr : TReps g l w n cs vs) (h : partAV T t cs o K) :
    ∃ av u, K av ∧ (part t vs.toArray o).run P w = .ok u w ∧ TRep g l w n av u ∧ (∀ t ∈ tagsOf av, t ∈ tagsOfs cs) ∧ ∀ K' : AV → Prop, K' av → partAV T t cs o K' := by
  unfold partAV at h ⊢
  cases hagg : isAggT T t
  · rw [hagg] at h
    simp only [cond_false] at h ⊢
    have hk := headM_kind hT h
    obtain ⟨hy, hrel, hd⟩ := normM_out h
    obtain ⟨c, hcs, he⟩ := getD_notAny hrel
    obtain ⟨v, hv, hrv⟩ := hr.get hcs
    rw [he] at hy hd
    refine ⟨c, v, hy, ?_, hrv, tagsOfs_get hcs, ?_⟩
    · simp only [part, Sem.run_bind, hT.run_isAgg hk, Result.andThen, hagg, Bool.false_eq_true, if_false]
      have : vs.toArray[o]? = some v := by simpa using hv
      rw [this]
      rfl
    · rw [he]; exact hd
  · rw [hagg] at h
    simp only [cond_true] at h ⊢
    obtain ⟨ys, hy, hlen, hrel, hd⟩ := normML_out h
    obtain ⟨hk, htup⟩ := agg_kind hagg
    obtain ⟨_, _, _, _, _, hsz, _⟩ := hT.zero hk htup
    have hin : ∀ (i : Nat) (y : AV), ys[i]? = some y → cs[o + i]? = some y := by
      intro i y hy
      obtain ⟨h1, h2⟩ := hrel i y hy
      rw [h1] at h2
      obtain ⟨c, hcs, he⟩ := getD_notAny h2
      rw [h1, he]
      exact hcs
    refine ⟨.agg ys, .agg (vs.toArray.extract o (o + (ti T t).size)), hy, ?_, ?_, ?_, fun K' hK => hd _ hK⟩
    · simp only [part, Sem.run_bind, hT.run_isAgg hk, Result.andThen, hagg, if_true, hT.run_size hk]
      rfl
    · have hl : (vs.toArray.extract o (o + (ti T t).size)).toList = (vs.drop o).take (ti T t).size := by
        simp
      refine ⟨(vs.drop o).take (ti T t).size, by rw [← hl], TReps.mk ?_ fun i y v hy hv => ?_⟩
      · rw [List.length_take, List.length_drop, ← hr.length]
        by_cases h0 : ys.length = 0
        · omega
        · have := (List.getElem?_eq_some_iff.1 (hin (ys.length - 1) _ (List.getElem?_eq_getElem (by omega)))).1
          omega
      · rw [List.getElem?_take] at hv
        split at hv
        · rw [List.getElem?_drop] at hv
          exact hr.of _ y v (hin i y hy) hv
        · cases hv
    · intro u hu
      simp only [tagsOf] at hu
      obtain ⟨i, y, hy, hu⟩ := tagsOfs_iff hu
      exact tagsOfs_get (hin i y hy) u hu

theorem eqCells_plain : ∀ {cs ds : List AV} {b : Bool}, eqCells cs ds = some b → cs.length = ds.length ∧ (∀ c ∈ cs, (∃ k n, c = .int k n) ∨ (∃ b, c = .bool b) ∨ ∃ s, c = .str s) ∧ (∀ c ∈ ds, (∃ k n, c = .int k n) ∨ (∃ b, c = .bool b) ∨ ∃ s, c = .str s)
  | [], [], b, _ => by simp
  | c :: cs, d :: ds, b, h => by
    cases c <;> cases d <;> simp only [eqCells] at h <;> try (simp at h; done)
    case int.int k a k' b' =>
      cases hk : decide (k = k') <;> rw [hk] at h <;> simp only [cond_false, cond_true] at h
      · cases h
      · obtain ⟨q, hq, _⟩ := Option.map_eq_some_iff.1 h
        obtain ⟨h1, h2, h3⟩ := eqCells_plain hq
        exact ⟨by simp [h1], by simpa using h2, by simpa using h3⟩
    case bool.bool a b' =>
      obtain ⟨q, hq, _⟩ := Option.map_eq_some_iff.1 h
      obtain ⟨h1, h2, h3⟩ := eqCells_plain hq
      exact ⟨by simp [h1], by simpa using h2, by simpa using h3⟩
    case str.str a b' =>
      obtain ⟨q, hq, _⟩ := Option.map_eq_some_iff.1 h
      obtain ⟨h1, h2, h3⟩ := eqCells_plain hq
      exact ⟨by simp [h1], by simpa using h2, by simpa using h3⟩
  | [], _ :: _, _, h => by simp [eqCells] at h
  | c :: _, [], _, h => by cases c <;> simp [eqCells] at h
theorem plain_const {n : Nat} {c : AV} {v : Value} (hp : (∃ k n, c = .int k n) ∨ (∃ b, c = .bool b) ∨ ∃ s, c = .str s) (h : TRep g l w n c v) : constAV v = c := by
  rcases hp with ⟨k, m, rfl⟩ | ⟨b, rfl⟩ | ⟨s, rfl⟩ <;> (simp only [TRep] at h; subst h; rfl)
theorem toList_inj {a b : ByteArray} (h : a.toList = b.toList) : a = b := by
  rw [ByteArray.toList_eq, ByteArray.toList_eq] at h
  obtain ⟨⟨x⟩⟩ := a
  obtain ⟨⟨y⟩⟩ := b
  simp at h
  rw [h]
theorem eqS_beq (a b : ByteArray) : eqS a b = (a.toList == b.toList) := by
  unfold eqS
  by_cases h : a = b
  · subst h; simp
  · have : a.toList ≠ b.toList := fun e => h (toList_inj e)
    simp [h, this]
theorem eqI_beq (a b : Int) : eqI a b = (a == b) := by
  unfold eqI
  by_cases h : a = b
  · subst h; simp
  · simp [h]
theorem run_equal_step {t : Nat} {u v : Value} {r : Result Bool} (h : ∀ d, (Op.equalIn (d + 1) t u v).run P w = r) : (Op.equal t u v).run P w = r := h 9999
theorem run_eql_of {t : Nat} {u v : Value} {b : Bool} (h : (Op.equal t u v).run P w = .ok b w) (h1 : binOp .eql t u v = (do pure (.bool (← Op.equal t u v)))) (h2 : binOp .neq t u v = (do pure (.bool (!(← Op.equal t u v))))) :
    (binOp .eql t u v).run P w = .ok (.bool b) w ∧ (binOp .neq t u v).run P w = .ok (.bool (!b)) w := by
  rw [h1, h2]
  constructor <;> simp [h]

theorem less_total : ∀ (a b : List UInt8), Op.bytesLess a b = !(Op.bytesLess b a || b == a)
  | [], [] => by simp [Op.bytesLess]
  | [], _ :: _ => by simp [Op.bytesLess]
  | _ :: _, [] => by simp [Op.bytesLess]
  | x :: a, y :: b => by
    simp only [Op.bytesLess, less_total a b]
    by_cases h1 : x < y
    · have h2 : ¬ y < x := by simp only [UInt8.lt_iff_toNat_lt] at h1 ⊢; omega
      have h3 : ¬ y = x := by intro e; subst e; exact h2 h1
      simp [h1, h2, h3]
    · by_cases h2 : y < x
      · have h3 : ¬ x = y := by intro e; subst e; exact h1 h2
        simp [h1, h2, h3]
      · have h3 : x = y := by
          apply UInt8.toNat_inj.1
          simp only [UInt8.lt_iff_toNat_lt] at h1 h2
          omega
        subst h3
        simp [h1]

set_option maxHeartbeats 2000000 in
theorem eql_sound (hT : TabOk P T) (hE : EqOk P T) {n : Nat} {t : Nat} {x y : Operand} {xa ya : AV} {xv yv : Value} {K : Bool → Prop} (hx : TRep g l w n xa xv) (hy : TRep g l w n ya yv)
    (h : eqlAV (plainT T t) (plainK T t) (ti T t).k (isConstO x || isConstO y) xa ya K) :
    ∃ b, K b ∧ (eqGuard .eql t x y xv yv).run P w = .ok () w ∧ (eqGuard .neq t x y xv yv).run P w = .ok () w ∧ (binOp .eql t xv yv).run P w = .ok (.bool b) w ∧ (binOp .neq t xv yv).run P w = .ok (.bool (!b)) w ∧
      ∀ K' : Bool → Prop, K' b → eqlAV (plainT T t) (plainK T t) (ti T t).k (isConstO x || isConstO y) xa ya K' := by
  cases xa <;> cases ya <;> simp only [eqlAV] at h ⊢
  case int.int k a k' b =>
    have hx := int_of_rep hx
    have hy := int_of_rep hy
    cases hk : decide (k = k') <;> rw [hk] at h <;> simp only [G, cond_false, cond_true] at h ⊢
    have e := of_decide_eq_true hk
    subst e
    subst hx
    subst hy
    refine ⟨_, h, by simp [eqGuard], by simp [eqGuard], ?_, ?_, fun K' h => h⟩
    · simp only [binOp, Op.intCmp, ne_eq, not_true_eq_false, if_false, eqI_beq]
      rfl
    · simp only [binOp, Op.intCmp, ne_eq, not_true_eq_false, if_false, eqI_beq]
      rfl
  case str.str a b =>
    simp only [TRep] at hx hy
    subst hx
    subst hy
    refine ⟨_, h, by simp [eqGuard], by simp [eqGuard], ?_, ?_, fun K' h => h⟩
    · simp [binOp, Op.stringOp, eqS_beq]
    · simp [binOp, Op.stringOp, eqS_beq]
  case bool.bool a b =>
    simp only [TRep] at hx hy
    subst hx
    subst hy
    cases hk : (ti T t).k <;> rw [hk] at h <;> simp only at h ⊢
    have hu := run_underlying (w := w) (hT.u_bool hk)
    obtain ⟨r1, r2⟩ := run_eql_of (P := P) (w := w) (t := t) (u := .bool a) (v := .bool b) (b := a == b) (run_equal_step fun d => by simp only [Op.equalIn, Sem.run_bind, hu, Result.andThen_ok, Sem.run_pure]) rfl rfl
    exact ⟨_, h, by simp [eqGuard], by simp [eqGuard], r1, r2, fun K' h => h⟩
  case agg.agg cs ds =>
    simp only [TRep] at hx hy
    obtain ⟨vs, rfl, hvs⟩ := hx
    obtain ⟨us, rfl, hus⟩ := hy
    cases hb : eqCells cs ds with
    | none =>
      rw [hb] at h
      cases hp : plainT T t <;> cases hz : (cellsFit (plainK T t) cs && cellsFit (plainK T t) ds) <;> rw [hp, hz] at h <;> simp [G] at h
    | some b =>
      rw [hb] at h
      cases hp : plainT T t <;> rw [hp] at h <;> simp only [G, cond_false, cond_true] at h ⊢
      cases hz : (cellsFit (plainK T t) cs && cellsFit (plainK T t) ds) <;> rw [hz] at h <;> simp only [cond_false, cond_true] at h ⊢
      obtain ⟨hlen, hpc, hpd⟩ := eqCells_plain hb
      have hmap : ∀ {cs : List AV} {vs : List Value}, TReps g l w n cs vs → (∀ c ∈ cs, (∃ k n, c = .int k n) ∨ (∃ b, c = .bool b) ∨ ∃ s, c = .str s) → vs.map constAV = cs := by
        intro cs vs hr hp
        apply List.ext_getElem?
        intro i
        rw [List.getElem?_map]
        cases hc : cs[i]? with
        | none => rw [List.getElem?_eq_none_iff] at hc; rw [List.getElem?_eq_none (by rw [← hr.length]; exact hc)]; rfl
        | some c =>
          obtain ⟨v, hv, hrv⟩ := hr.get hc
          rw [hv]
          simp only [Option.map_some]
          rw [plain_const (hp c (List.mem_of_getElem? hc)) hrv]
      obtain ⟨g1, g2, g3⟩ := hE.1 t x y cs ds vs us b w hp hb (Bool.and_eq_true _ _ ▸ hz).1 (Bool.and_eq_true _ _ ▸ hz).2 (hmap hvs hpc) (hmap hus hpd)
      obtain ⟨r1, r2⟩ := run_eql_of g3 rfl rfl
      exact ⟨b, h, g1, g2, r1, r2, fun K' h => h⟩
  case nilp.nilp =>
    simp only [TRep] at hx hy
    subst hx
    subst hy
    cases hk : (ti T t).k <;> rw [hk] at h <;> simp only at h ⊢
    have hu := run_underlying (w := w) (hT.u_ptr hk)
    obtain ⟨r1, r2⟩ := run_eql_of (P := P) (w := w) (t := t) (u := .pointer none) (v := .pointer none) (b := true) (run_equal_step fun d => by simp only [Op.equalIn, Sem.run_bind, hu, Result.andThen_ok, Sem.run_pure]; try rfl) rfl rfl
    exact ⟨_, h, by simp [eqGuard], by simp [eqGuard], r1, r2, fun K' h => h⟩
  case ptr.nilp j o =>
    simp only [TRep] at hx hy
    obtain ⟨_, hx⟩ := hx
    subst hx
    subst hy
    cases hk : (ti T t).k <;> rw [hk] at h <;> simp only at h ⊢
    have hu := run_underlying (w := w) (hT.u_ptr hk)
    obtain ⟨r1, r2⟩ := run_eql_of (P := P) (w := w) (t := t) (u := .pointer (some ⟨l.loc j, o, none⟩)) (v := .pointer none) (b := false) (run_equal_step fun d => by simp only [Op.equalIn, Sem.run_bind, hu, Result.andThen_ok, Sem.run_pure]; try rfl) rfl rfl
    exact ⟨_, h, by simp [eqGuard], by simp [eqGuard], r1, r2, fun K' h => h⟩
  case rp.nilp cs o =>
    have hv : ∃ b o', xv = .pointer (some ⟨b, o', none⟩) := by simp only [TRep] at hx; cases hx with | rp b o1 _ _ vs hb hc h1 hr => exact ⟨_, _, rfl⟩
    obtain ⟨b', o', rfl⟩ := hv
    simp only [TRep] at hy
    subst hy
    cases hk : (ti T t).k <;> rw [hk] at h <;> simp only at h ⊢
    have hu := run_underlying (w := w) (hT.u_ptr hk)
    obtain ⟨r1, r2⟩ := run_eql_of (P := P) (w := w) (t := t) (u := .pointer (some ⟨b', o', none⟩)) (v := .pointer none) (b := false) (run_equal_step fun d => by simp only [Op.equalIn, Sem.run_bind, hu, Result.andThen_ok, Sem.run_pure]; try rfl) rfl rfl
    exact ⟨_, h, by simp [eqGuard], by simp [eqGuard], r1, r2, fun K' h => h⟩
  case obj.nilp j o =>
    have hv : ∃ b o', xv = .pointer (some ⟨b, o', none⟩) := by simp only [TRep] at hx; cases hx with | obj _ b _ hj => exact ⟨_, _, rfl⟩
    obtain ⟨b', o', rfl⟩ := hv
    simp only [TRep] at hy
    subst hy
    cases hk : (ti T t).k <;> rw [hk] at h <;> simp only at h ⊢
    have hu := run_underlying (w := w) (hT.u_ptr hk)
    obtain ⟨r1, r2⟩ := run_eql_of (P := P) (w := w) (t := t) (u := .pointer (some ⟨b', o', none⟩)) (v := .pointer none) (b := false) (run_equal_step fun d => by simp only [Op.equalIn, Sem.run_bind, hu, Result.andThen_ok, Sem.run_pure]; try rfl) rfl rfl
    exact ⟨_, h, by simp [eqGuard], by simp [eqGuard], r1, r2, fun K' h => h⟩
  case he.nilp j k0 i0 o =>
    have hv : ∃ b o', xv = .pointer (some ⟨b, o', none⟩) := by simp only [TRep] at hx; cases hx with | he _ b _ _ _ hj => exact ⟨_, _, rfl⟩
    obtain ⟨b', o', rfl⟩ := hv
    simp only [TRep] at hy
    subst hy
    cases hk : (ti T t).k <;> rw [hk] at h <;> simp only at h ⊢
    have hu := run_underlying (w := w) (hT.u_ptr hk)
    obtain ⟨r1, r2⟩ := run_eql_of (P := P) (w := w) (t := t) (u := .pointer (some ⟨b', o', none⟩)) (v := .pointer none) (b := false) (run_equal_step fun d => by simp only [Op.equalIn, Sem.run_bind, hu, Result.andThen_ok, Sem.run_pure]; try rfl) rfl rfl
    exact ⟨_, h, by simp [eqGuard], by simp [eqGuard], r1, r2, fun K' h => h⟩
  case nilp.obj j o =>
    have hv : ∃ b o', yv = .pointer (some ⟨b, o', none⟩) := by simp only [TRep] at hy; cases hy with | obj _ b _ hj => exact ⟨_, _, rfl⟩
    obtain ⟨b', o', rfl⟩ := hv
    simp only [TRep] at hx
    subst hx
    cases hk : (ti T t).k <;> rw [hk] at h <;> simp only at h ⊢
    have hu := run_underlying (w := w) (hT.u_ptr hk)
    obtain ⟨r1, r2⟩ := run_eql_of (P := P) (w := w) (t := t) (u := .pointer none) (v := .pointer (some ⟨b', o', none⟩)) (b := false) (run_equal_step fun d => by simp only [Op.equalIn, Sem.run_bind, hu, Result.andThen_ok, Sem.run_pure]; try rfl) rfl rfl
    exact ⟨_, h, by simp [eqGuard], by simp [eqGuard], r1, r2, fun K' h => h⟩
  case nilmap.nilmap =>
    simp only [TRep] at hx hy
    subst hx
    subst hy
    cases hk : (ti T t).k <;> rw [hk] at h <;> simp only at h ⊢
    have hu := run_underlying (w := w) (hT.u_map hk)
    obtain ⟨r1, r2⟩ := run_eql_of (P := P) (w := w) (t := t) (u := .map none) (v := .map none) (b := true) (run_equal_step fun d => by simp only [Op.equalIn, Sem.run_bind, hu, Result.andThen_ok, Sem.run_pure]; try rfl) rfl rfl
    exact ⟨_, h, by simp [eqGuard], by simp [eqGuard], r1, r2, fun K' h => h⟩
  case map.nilmap j =>
    have hv : ∃ b, xv = .map (some b) := by simp only [TRep] at hx; cases hx with | map _ b hj => exact ⟨_, rfl⟩
    obtain ⟨b', rfl⟩ := hv
    simp only [TRep] at hy
    subst hy
    cases hk : (ti T t).k <;> rw [hk] at h <;> simp only at h ⊢
    have hu := run_underlying (w := w) (hT.u_map hk)
    obtain ⟨r1, r2⟩ := run_eql_of (P := P) (w := w) (t := t) (u := .map (some b')) (v := .map none) (b := false) (run_equal_step fun d => by simp only [Op.equalIn, Sem.run_bind, hu, Result.andThen_ok, Sem.run_pure]; try rfl) rfl rfl
    exact ⟨_, h, by simp [eqGuard], by simp [eqGuard], r1, r2, fun K' h => h⟩
  case nilfn.nilfn =>
    simp only [TRep] at hx hy
    subst hx
    subst hy
    cases hk : (ti T t).k <;> rw [hk] at h <;> simp only at h ⊢
    obtain ⟨_, _, _, hu⟩ := hT.u_func hk
    have hu := run_underlying (w := w) hu
    obtain ⟨r1, r2⟩ := run_eql_of (P := P) (w := w) (t := t) (u := .nilFunc) (v := .nilFunc) (b := true) (run_equal_step fun d => by simp only [Op.equalIn, Sem.run_bind, hu, Result.andThen_ok, Sem.run_pure]; try rfl) rfl rfl
    exact ⟨_, h, by simp [eqGuard], by simp [eqGuard], r1, r2, fun K' h => h⟩
  case fn.nilfn f c =>
    have hv : ∃ vs, xv = .func (.func f) #[] vs := by simp only [TRep] at hx; cases hx with | fn _ _ vs hl hr => exact ⟨_, rfl⟩
    obtain ⟨vs, rfl⟩ := hv
    simp only [TRep] at hy
    subst hy
    cases hk : (ti T t).k <;> rw [hk] at h <;> simp only at h ⊢
    obtain ⟨_, _, _, hu⟩ := hT.u_func hk
    have hu := run_underlying (w := w) hu
    obtain ⟨r1, r2⟩ := run_eql_of (P := P) (w := w) (t := t) (u := .func (.func f) #[] vs) (v := .nilFunc) (b := false) (run_equal_step fun d => by simp only [Op.equalIn, Sem.run_bind, hu, Result.andThen_ok, Sem.run_pure]; try rfl) rfl rfl
    exact ⟨_, h, by simp [eqGuard], by simp [eqGuard], r1, r2, fun K' h => h⟩
  case iface.niliface q b =>
    simp only [TRep] at hx hy
    obtain ⟨u, rfl, _⟩ := hx
    subst hy
    cases hk : (ti T t).k <;> rw [hk] at h <;> simp only at h ⊢
    obtain ⟨_, hu⟩ := hT.u_iface hk
    have hu := run_underlying (w := w) hu
    obtain ⟨r1, r2⟩ := run_eql_of (P := P) (w := w) (t := t) (u := .iface q u) (v := .nilIface) (b := false) (run_equal_step fun d => by simp only [Op.equalIn, Sem.run_bind, hu, Result.andThen_ok, Sem.run_pure]) rfl rfl
    exact ⟨_, h, by simp [eqGuard], by simp [eqGuard], r1, r2, fun K' h => h⟩
  case niliface.niliface =>
    simp only [TRep] at hx hy
    subst hx
    subst hy
    cases hk : (ti T t).k <;> rw [hk] at h <;> simp only at h ⊢
    cases hc : (isConstO x || isConstO y) <;> rw [hc] at h <;> simp only [G, cond_false, cond_true] at h ⊢
    obtain ⟨_, hu⟩ := hT.u_iface hk
    have hu := run_underlying (w := w) hu
    obtain ⟨r1, r2⟩ := run_eql_of (P := P) (w := w) (t := t) (u := .nilIface) (v := .nilIface) (b := true) (run_equal_step fun d => by simp only [Op.equalIn, Sem.run_bind, hu, Result.andThen_ok, Sem.run_pure]) rfl rfl
    have hg : ∀ op, (eqGuard op t x y .nilIface .nilIface).run P w = .ok () w := by
      intro op
      cases x <;> cases y <;> first | (simp [isConstO] at hc; done) | (cases op <;> simp [eqGuard])
    exact ⟨_, h, hg _, hg _, r1, r2, fun K' h => h⟩

set_option maxHeartbeats 2000000 in
theorem bin_sound (hT : TabOk P T) (hE : EqOk P T) {n : Nat} {op : BinOp} {t : Nat} {x y : Operand} {xa ya : AV} {xv yv : Value} (hx : TRep g l w n xa xv) (hy : TRep g l w n ya yv)
    (h : binAV (plainT T t) (plainK T t) (ti T t).k (isConstO x || isConstO y) op xa ya K) :
    ∃ av v, K av ∧ (eqGuard op t x y xv yv).run P w = .ok () w ∧ (binOp op t xv yv).run P w = .ok v w ∧ TRep g l w n av v ∧ tagsOf av = [] ∧ ∀ K' : AV → Prop, K' av → binAV (plainT T t) (plainK T t) (ti T t).k (isConstO x || isConstO y) op xa ya K' := by
  unfold binAV at h ⊢
  cases op <;> try (simp only at h; done)
  case eql =>
    simp only at h ⊢
    obtain ⟨b, h1, h2, h3, h4, h5, h6⟩ := eql_sound hT hE hx hy h
    exact ⟨.bool b, .bool b, h1, h2, h4, by simp [TRep], by simp [tagsOf], fun K' hK => h6 _ hK⟩
  case neq =>
    simp only at h ⊢
    obtain ⟨b, h1, h2, h3, h4, h5, h6⟩ := eql_sound hT hE hx hy h
    exact ⟨.bool (!b), .bool (!b), h1, h3, h5, by simp [TRep], by simp [tagsOf], fun K' hK => h6 _ hK⟩
  all_goals
    simp only at h ⊢
    cases xa <;> cases ya <;> simp only at h ⊢
  case add.int.int k a k' b =>
    have hx := int_of_rep hx
    have hy := int_of_rep hy
    cases hk : decide (k = k') <;> rw [hk] at h <;> simp only [G, cond_false, cond_true] at h ⊢
    have e := of_decide_eq_true hk
    subst e
    subst hx
    subst hy
    exact ⟨_, .int k (addW k a b), h, by simp [eqGuard], by simp [binOp, Op.intArith, addW], by simp [TRep], by simp [tagsOf], fun K' h => h⟩
  case add.str.str a b =>
    simp only [TRep] at hx hy
    subst hx
    subst hy
    cases hk : Nat.ble (a.size + b.size) 9223372036854775807 <;> rw [hk] at h <;> simp only [G, cond_false, cond_true] at h ⊢
    have e := Nat.le_of_ble_eq_true hk
    refine ⟨_, .string (a ++ b), h, by simp [eqGuard], ?_, by simp [TRep], by simp [tagsOf], fun K' h => h⟩
    have hmax : IntKind.i64.max = 9223372036854775807 := by decide
    simp only [binOp, Op.stringOp, hmax]
    rw [if_neg (by omega)]
    rfl
  case and.int.int k a k' b =>
    have hx := int_of_rep hx
    have hy := int_of_rep hy
    cases hk : decide (k = k') <;> rw [hk] at h <;> simp only [G, cond_false, cond_true] at h ⊢
    have e := of_decide_eq_true hk
    subst e
    subst hx
    subst hy
    exact ⟨_, .int k (andW k a b), h, by simp [eqGuard], by simp [binOp, Op.intBits, andW], by simp [TRep], by simp [tagsOf], fun K' h => h⟩
  case or.int.int k a k' b =>
    have hx := int_of_rep hx
    have hy := int_of_rep hy
    cases hk : decide (k = k') <;> rw [hk] at h <;> simp only [G, cond_false, cond_true] at h ⊢
    have e := of_decide_eq_true hk
    subst e
    subst hx
    subst hy
    exact ⟨_, .int k (orW k a b), h, by simp [eqGuard], by simp [binOp, Op.intBits, orW], by simp [TRep], by simp [tagsOf], fun K' h => h⟩
  case xor.int.int k a k' b =>
    have hx := int_of_rep hx
    have hy := int_of_rep hy
    cases hk : decide (k = k') <;> rw [hk] at h <;> simp only [G, cond_false, cond_true] at h ⊢
    have e := of_decide_eq_true hk
    subst e
    subst hx
    subst hy
    exact ⟨_, .int k (xorW k a b), h, by simp [eqGuard], by simp [binOp, Op.intBits, xorW], by simp [TRep], by simp [tagsOf], fun K' h => h⟩
  case andNot.int.int k a k' b =>
    have hx := int_of_rep hx
    have hy := int_of_rep hy
    cases hk : decide (k = k') <;> rw [hk] at h <;> simp only [G, cond_false, cond_true] at h ⊢
    have e := of_decide_eq_true hk
    subst e
    subst hx
    subst hy
    exact ⟨_, .int k (andNotW k a b), h, by simp [eqGuard], by simp [binOp, Op.intBits, andNotW], by simp [TRep], by simp [tagsOf], fun K' h => h⟩
  case shl.int.int k a k' b =>
    have hx := int_of_rep hx
    have hy := int_of_rep hy
    subst hx
    subst hy
    cases hz : leI 0 b <;> rw [hz] at h <;> simp only [G, cond_false, cond_true] at h ⊢
    have hb : 0 ≤ b := of_decide_eq_true hz
    exact ⟨_, .int k (shlW k a b), h, by simp [eqGuard], by simp only [binOp, Op.shift]; rw [if_neg (by omega)]; rfl, by simp [TRep], by simp [tagsOf], fun K' h => h⟩
  case shr.int.int k a k' b =>
    have hx := int_of_rep hx
    have hy := int_of_rep hy
    subst hx
    subst hy
    cases hz : leI 0 b <;> rw [hz] at h <;> simp only [G, cond_false, cond_true] at h ⊢
    have hb : 0 ≤ b := of_decide_eq_true hz
    exact ⟨_, .int k (shrW k a b), h, by simp [eqGuard], by simp only [binOp, Op.shift]; rw [if_neg (by omega)]; rfl, by simp [TRep], by simp [tagsOf], fun K' h => h⟩
  case sub.int.int k a k' b =>
    have hx := int_of_rep hx
    have hy := int_of_rep hy
    cases hk : decide (k = k') <;> rw [hk] at h <;> simp only [G, cond_false, cond_true] at h ⊢
    have e := of_decide_eq_true hk
    subst e
    subst hx
    subst hy
    exact ⟨_, .int k (subW k a b), h, by simp [eqGuard], by simp [binOp, Op.intArith, subW], by simp [TRep], by simp [tagsOf], fun K' h => h⟩
  case mul.int.int k a k' b =>
    have hx := int_of_rep hx
    have hy := int_of_rep hy
    cases hk : decide (k = k') <;> rw [hk] at h <;> simp only [G, cond_false, cond_true] at h ⊢
    have e := of_decide_eq_true hk
    subst e
    subst hx
    subst hy
    exact ⟨_, .int k (mulW k a b), h, by simp [eqGuard], by simp [binOp, Op.intArith, mulW], by simp [TRep], by simp [tagsOf], fun K' h => h⟩
  case quo.int.int k a k' b =>
    have hx := int_of_rep hx
    have hy := int_of_rep hy
    cases hk : decide (k = k') <;> rw [hk] at h <;> simp only [G, cond_false, cond_true] at h ⊢
    have e := of_decide_eq_true hk
    subst e
    subst hx
    subst hy
    cases hz : eqI b 0 <;> rw [hz] at h <;> simp only [Bool.not_false, Bool.not_true, cond_false, cond_true] at h ⊢
    have hb : b ≠ 0 := of_decide_eq_false hz
    exact ⟨_, .int k (k.wrap (a.tdiv b)), h, by simp [eqGuard], by simp [binOp, Op.intDiv, hb], by simp [TRep], by simp [tagsOf], fun K' h => h⟩
  case rem.int.int k a k' b =>
    have hx := int_of_rep hx
    have hy := int_of_rep hy
    cases hk : decide (k = k') <;> rw [hk] at h <;> simp only [G, cond_false, cond_true] at h ⊢
    have e := of_decide_eq_true hk
    subst e
    subst hx
    subst hy
    cases hz : eqI b 0 <;> rw [hz] at h <;> simp only [Bool.not_false, Bool.not_true, cond_false, cond_true] at h ⊢
    have hb : b ≠ 0 := of_decide_eq_false hz
    exact ⟨_, .int k (a.tmod b), h, by simp [eqGuard], by simp [binOp, Op.intDiv, hb], by simp [TRep], by simp [tagsOf], fun K' h => h⟩
  case lss.int.int k a k' b =>
    have hx := int_of_rep hx
    have hy := int_of_rep hy
    cases hk : decide (k = k') <;> rw [hk] at h <;> simp only [G, cond_false, cond_true] at h ⊢
    have e := of_decide_eq_true hk
    subst e
    subst hx
    subst hy
    exact ⟨_, .bool (ltI a b), h, by simp [eqGuard], by simp [binOp, Op.intCmp, ltI], by simp [TRep], by simp [tagsOf], fun K' h => h⟩
  case leq.int.int k a k' b =>
    have hx := int_of_rep hx
    have hy := int_of_rep hy
    cases hk : decide (k = k') <;> rw [hk] at h <;> simp only [G, cond_false, cond_true] at h ⊢
    have e := of_decide_eq_true hk
    subst e
    subst hx
    subst hy
    exact ⟨_, .bool (leI a b), h, by simp [eqGuard], by simp [binOp, Op.intCmp, leI], by simp [TRep], by simp [tagsOf], fun K' h => h⟩
  case gtr.int.int k a k' b =>
    have hx := int_of_rep hx
    have hy := int_of_rep hy
    cases hk : decide (k = k') <;> rw [hk] at h <;> simp only [G, cond_false, cond_true] at h ⊢
    have e := of_decide_eq_true hk
    subst e
    subst hx
    subst hy
    exact ⟨_, .bool (ltI b a), h, by simp [eqGuard], by simp [binOp, Op.intCmp, ltI], by simp [TRep], by simp [tagsOf], fun K' h => h⟩
  case geq.int.int k a k' b =>
    have hx := int_of_rep hx
    have hy := int_of_rep hy
    cases hk : decide (k = k') <;> rw [hk] at h <;> simp only [G, cond_false, cond_true] at h ⊢
    have e := of_decide_eq_true hk
    subst e
    subst hx
    subst hy
    exact ⟨_, .bool (leI b a), h, by simp [eqGuard], by simp [binOp, Op.intCmp, leI], by simp [TRep], by simp [tagsOf], fun K' h => h⟩
  case lss.str.str a b =>
    simp only [TRep] at hx hy
    subst hx
    subst hy
    exact ⟨_, .bool (ltS a b), h, by simp [eqGuard], by simp [binOp, Op.stringOp, ltS], by simp [TRep], by simp [tagsOf], fun K' h => h⟩
  case leq.str.str a b =>
    simp only [TRep] at hx hy
    subst hx
    subst hy
    exact ⟨_, .bool (!(ltS b a)), h, by simp [eqGuard], by simp [binOp, Op.stringOp, ltS, less_total b.toList a.toList], by simp [TRep], by simp [tagsOf], fun K' h => h⟩
  case gtr.str.str a b =>
    simp only [TRep] at hx hy
    subst hx
    subst hy
    exact ⟨_, .bool (ltS b a), h, by simp [eqGuard], by simp [binOp, Op.stringOp, ltS, less_total b.toList a.toList], by simp [TRep], by simp [tagsOf], fun K' h => h⟩
  case geq.str.str a b =>
    simp only [TRep] at hx hy
    subst hx
    subst hy
    exact ⟨_, .bool (!(ltS a b)), h, by simp [eqGuard], by simp [binOp, Op.stringOp, ltS], by simp [TRep], by simp [tagsOf], fun K' h => h⟩

set_option maxHeartbeats 2000000 in
theorem light_sound (hT : TabOk P T) (hE : EqOk P T) (hI : Inv w0 g0 g l w st a) (o : Oper) (hl : ∀ t x lo hi mx, o.op ≠ .slice t x lo hi mx) (h : light T o.op (ρ st.tm) st.mem st.H K) :
    ∃ av v, K av ∧ (execOp a.eval o).run P w = .ok (.value v) w ∧ TRep g l w st.mem.length av v ∧ (∀ t ∈ tagsOf av, t ∈ st.tags) ∧ ∀ K' : AV → Prop, K' av → light T o.op (ρ st.tm) st.mem st.H K' := by
  have hop := fun x => hI.operand (a := a) x
  unfold execOp
  cases ho : o.op <;> rw [ho] at h <;> simp only [light] at h ⊢
  case move x => exact ⟨_, _, h, rfl, (hop x).1, (hop x).2, fun K' h => h⟩
  case assign x => exact ⟨_, _, h, rfl, (hop x).1, (hop x).2, fun K' h => h⟩
  case pick c x y =>
    have hc := (hop c).1
    cases hcv : ρ st.tm c <;> rw [hcv] at h hc <;> simp only at h ⊢
    case bool t =>
      simp only [TRep] at hc
      cases t
      · simp only [cond_false] at h ⊢
        exact ⟨_, _, h, by simp [hc, asBool], (hop y).1, (hop y).2, fun K' h => h⟩
      · simp only [cond_true] at h ⊢
        exact ⟨_, _, h, by simp [hc, asBool], (hop x).1, (hop x).2, fun K' h => h⟩
  case load t x =>
    obtain ⟨av, u, h1, h2, h3, h4, h5⟩ := loadAt_sound hT hI (hop x).1 (hop x).2 h
    exact ⟨av, u, h1, exec_v h2, h3, h4, h5⟩
  case unOp op t x =>
    have hx := (hop x).1
    cases op <;> cases hxv : ρ st.tm x <;> rw [hxv] at h hx <;> simp only at h ⊢
    case neg.int k n =>
      have hx := int_of_rep hx
      exact ⟨_, .int k (subW k 0 n), h, exec_v (by simp [hx, Op.unary, Op.intArith, subW]), by simp [TRep], by simp [tagsOf], fun K' h => h⟩
    case not.bool b =>
      simp only [TRep] at hx
      exact ⟨_, .bool (!b), h, exec_v (by simp [hx, Op.unary]), by simp [TRep], by simp [tagsOf], fun K' h => h⟩
  case convert src dst x =>
    have hx := (hop x).1
    cases hs : (ti T src).k <;> cases hd : (ti T dst).k <;> cases hxv : ρ st.tm x <;> rw [hs, hd, hxv] at h <;> rw [hxv] at hx <;> simp only at h ⊢
    case int.int.int k k' k2 n =>
      have hx := int_of_rep hx
      refine ⟨_, .int k' (k'.wrap n), h, exec_v ?_, by simp [TRep], by simp [tagsOf], fun K' h => h⟩
      simp [convert, run_underlying (hT.u_int hs), run_underlying (hT.u_int hd), hx, Conv.intToInt]
    case str.str.str s =>
      simp only [TRep] at hx
      refine ⟨_, .string s, h, exec_v ?_, by simp [TRep], by simp [tagsOf], fun K' h => h⟩
      simp [convert, run_underlying (hT.u_str hs), run_underlying (hT.u_str hd), hx]
  case lookup t x k ok =>
    obtain ⟨av, v, h1, h2, h3, h4, h5⟩ := lookAV_sound hT hE hI (hop x).1 (hop k).1 h
    exact ⟨av, v, h1, exec_v h2, h3, h4, h5⟩
  case makeInterface t x =>
    have hu : ∃ d, P.underlying t = some d ∧ ∀ ms, d ≠ .interface ms := by
      by_cases ho' : (ti T t).k = .other
      · rw [ho'] at h; exact h.elim
      · obtain ⟨d, hd, hk⟩ := hT.under ho'
        refine ⟨d, hd, fun ms e => ?_⟩
        rw [e] at hk
        have : (ti T t).k = .iface := hk
        rw [this] at h
        exact h
    obtain ⟨d, hd, hni⟩ := hu
    have hrun : (Instr.makeInterface t (a.eval x)).run P w = .ok (.iface t (a.eval x)) w := by
      unfold Instr.makeInterface
      simp only [Sem.run_bind, run_underlying hd, Result.andThen_ok]
      cases d <;> first | rfl | exact absurd rfl (hni _)
    have h' : K (.iface t (ρ st.tm x)) := by split at h <;> first | exact h.elim | exact h
    refine ⟨_, _, h', exec_v hrun, by simp only [TRep]; exact ⟨_, rfl, (hop x).1⟩, fun t ht => (hop x).2 t (by simpa [tagsOf] using ht), fun K' hK' => ?_⟩
    split at h <;> first | exact h.elim | exact hK'
  case extract x i =>
    have hx := hop x
    cases hxv : ρ st.tm x <;> rw [hxv] at h hx <;> simp only at h ⊢
    case tup vs =>
      have h1 := hx.1
      simp only [TRep] at h1
      obtain ⟨us, hu, hr⟩ := h1
      cases hc : vs[i]? with
      | none => simp [hc] at h
      | some c =>
        obtain ⟨v, hv, hrv⟩ := hr.get hc
        rw [hc] at h
        simp only at h ⊢
        refine ⟨c, v, h, exec_v ?_, hrv, fun t ht => hx.2 t (by simp only [tagsOf]; exact tagsOfs_get hc t ht), fun K' h => h⟩
        have : us.toArray[i]? = some v := by simpa using hv
        simp [Instr.extract, hu, this]
  case nilCheck x =>
    have hx := hop x
    cases hxv : ρ st.tm x <;> rw [hxv] at h hx <;> simp only at h ⊢
    case ptr j o' =>
      have h1 := hx.1
      simp only [TRep] at h1
      exact ⟨_, _, h, by rw [h1.2]; rfl, by simpa only [TRep, and_true] using h1.1, hx.2, fun K' h => h⟩
    case rp cs o' =>
      obtain ⟨h1, h3⟩ := hx
      simp only [TRep] at h1
      generalize a.eval x = v at h1 ⊢
      cases h1 with
      | rp b o1 _ _ vs hb hc h1 hr => exact ⟨_, _, h, rfl, by simp only [TRep]; exact .rp b o1 _ _ vs hb hc h1 hr, h3, fun K' h => h⟩
    case obj j o' =>
      obtain ⟨h1, h3⟩ := hx
      simp only [TRep] at h1
      generalize a.eval x = v at h1 ⊢
      cases h1 with
      | obj _ b _ hj => exact ⟨_, _, h, rfl, by simp only [TRep]; exact .obj _ b _ hj, h3, fun K' h => h⟩
    case he j k0 i0 o' =>
      obtain ⟨h1, h3⟩ := hx
      simp only [TRep] at h1
      generalize a.eval x = v at h1 ⊢
      cases h1 with
      | he _ b _ _ _ hj => exact ⟨_, _, h, rfl, by simp only [TRep]; exact .he _ b _ _ _ hj, h3, fun K' h => h⟩
    case fn f c =>
      obtain ⟨h1, h3⟩ := hx
      simp only [TRep] at h1
      generalize a.eval x = v at h1 ⊢
      cases h1 with
      | fn _ _ vs hl hr => exact ⟨_, _, h, rfl, by simp only [TRep]; exact .fn _ _ vs hl hr, h3, fun K' h => h⟩
  case makeFunc fn first cap =>
    cases fn <;> cases hf : first.toList <;> cases hc : cap.toList <;> rw [hf, hc] at h <;> simp only at h ⊢
    case func.nil.nil f =>
      have hf' : first = #[] := by simpa using hf
      have hc' : cap = #[] := by simpa using hc
      subst hf'
      subst hc'
      exact ⟨_, .func (.func f) #[] #[], h, exec_v (by simp [Instr.makeFunc]), by simp only [TRep]; exact .fn f [] [] rfl (by simp), by simp [tagsOf], fun K' h => h⟩
  case fieldAddr s x f =>
    have hx := hop x
    cases hk : (ti T s).k <;> rw [hk] at h <;> simp only at h ⊢
    case struct fs =>
      obtain ⟨fa, hu, hfs⟩ := hT.u_struct hk
      cases hf : fs[f]? with
      | none => simp [hf] at h
      | some p =>
        obtain ⟨off, ft⟩ := p
        rw [hf] at h
        simp only at h ⊢
        have hfa : ∃ fd : Field, fa[f]? = some fd ∧ fd.offset = off ∧ fd.type = ft := by
          rw [hfs] at hf
          simp only [List.getElem?_map, Option.map_eq_some_iff, Array.getElem?_toList] at hf
          obtain ⟨fd, h1, h2⟩ := hf
          simp only [Prod.mk.injEq] at h2
          exact ⟨fd, h1, h2.1, h2.2⟩
        obtain ⟨fd, hfd, rfl, rfl⟩ := hfa
        cases hsz : Nat.blt 0 (ti T fd.type).size <;> rw [hsz] at h <;> simp only [G, cond_false, cond_true] at h ⊢
        have hpos : 0 < (ti T fd.type).size := Nat.le_of_ble_eq_true hsz
        have run : ∀ b o', (Instr.fieldAt s (.pointer (some ⟨b, o', none⟩)) f).run P w = .ok (.pointer (some ⟨b, o' + fd.offset, none⟩)) w := by
          intro b o'
          simp only [Instr.fieldAt, Sem.run_bind, run_underlying hu, Result.andThen_ok, hfd, Instr.sureAddr, Sem.run_pure, fieldPlace, hT.size_pos hpos, Nat.ne_of_gt hpos, if_false, add_plain]
        cases hxv : ρ st.tm x <;> rw [hxv] at h hx <;> simp only at h ⊢
        case ptr j o' =>
          have h1 := hx.1
          simp only [TRep] at h1
          exact ⟨_, .pointer (some ⟨l.loc j, o' + fd.offset, none⟩), h, exec_v (by rw [h1.2]; exact run _ _), by simp [TRep, h1.1], by simp [tagsOf], fun K' h => h⟩
        case rp cs o' =>
          have h1 := hx.1
          simp only [TRep] at h1
          generalize a.eval x = v at h1 ⊢
          cases h1 with
          | rp b o1 _ _ vs hb hc h1 hr => exact ⟨_, _, h, exec_v (run _ _), by simp only [TRep]; rw [Nat.add_assoc]; exact .rp b o1 _ _ vs hb hc h1 hr, by simp [tagsOf], fun K' h => h⟩
        case obj j o' =>
          have h1 := hx.1
          simp only [TRep] at h1
          generalize a.eval x = v at h1 ⊢
          cases h1 with
          | obj _ b _ hj => exact ⟨_, _, h, exec_v (run _ _), by simp only [TRep]; exact .obj _ b _ hj, by simp [tagsOf], fun K' h => h⟩
        case he j k0 i0 o' =>
          have h1 := hx.1
          simp only [TRep] at h1
          generalize a.eval x = v at h1 ⊢
          cases h1 with
          | he _ b _ _ _ hj =>
            refine ⟨_, .pointer (some ⟨b, i0 * k0 + (o' + fd.offset), none⟩), h, exec_v (by rw [run, Nat.add_assoc]), ?_, by simp [tagsOf], fun K' h => h⟩
            simp only [TRep]
            exact .he _ b _ _ _ hj
        case ep t k i o' xs =>
          have h1 := hx.1
          simp only [TRep] at h1
          obtain ⟨e1, e2, h0, hi, b, m, c, hv, hp⟩ := h1
          refine ⟨_, .pointer (some ⟨b, i * k + (o' + fd.offset), none⟩), h, exec_v (by rw [hp, run, Nat.add_assoc]), ?_, hx.2, fun K' h => h⟩
          simp only [TRep]
          exact ⟨e1, e2, h0, hi, b, m, c, hv, rfl⟩
  case field s x f =>
    have hx := hop x
    cases hk : (ti T s).k <;> cases hxv : ρ st.tm x <;> rw [hk, hxv] at h <;> rw [hxv] at hx <;> simp only at h ⊢
    case struct.agg fs cs =>
      obtain ⟨fa, hu, hfs⟩ := hT.u_struct hk
      cases hf : fs[f]? with
      | none => simp [hf] at h
      | some p =>
        obtain ⟨off, ft⟩ := p
        rw [hf] at h
        simp only at h ⊢
        have hfa : ∃ fd : Field, fa[f]? = some fd ∧ fd.offset = off ∧ fd.type = ft := by
          rw [hfs] at hf
          simp only [List.getElem?_map, Option.map_eq_some_iff, Array.getElem?_toList] at hf
          obtain ⟨fd, h1, h2⟩ := hf
          simp only [Prod.mk.injEq] at h2
          exact ⟨fd, h1, h2.1, h2.2⟩
        obtain ⟨fd, hfd, rfl, rfl⟩ := hfa
        have h1 := hx.1
        simp only [TRep] at h1
        obtain ⟨vs, hv, hr⟩ := h1
        obtain ⟨av, u, k1, k2, k3, k4, k5⟩ := part_sound (P := P) hT hr h
        refine ⟨av, u, k1, exec_v ?_, k3, fun t ht => hx.2 t (by simpa [tagsOf] using k4 t ht), k5⟩
        simp only [Instr.field, Sem.run_bind, run_underlying hu, Result.andThen_ok, hfd, hv, asAgg, Sem.run_pure, k2]
  case slice t x lo hi mx => exact absurd ho (hl t x lo hi mx)
  case indexAddr t x ix =>
    have hx := hop x
    have hi := (hop ix).1
    cases hiv : ρ st.tm ix <;> rw [hiv] at h hi <;> simp only at h ⊢
    case int ki i =>
      have hi := int_of_rep hi
      cases hk : (ti T t).k <;> cases hxv : ρ st.tm x <;> rw [hk, hxv] at h <;> rw [hxv] at hx <;> simp only at h ⊢
      case slice.sl e tg k xs =>
        have hu := hT.u_slice hk
        cases h1 : Nat.beq k (ti T e).size <;> rw [h1] at h <;> simp only [G, cond_false, cond_true] at h ⊢
        cases h4 : Nat.blt 0 k <;> rw [h4] at h <;> simp only [cond_false, cond_true] at h ⊢
        cases h2 : leI 0 i <;> rw [h2] at h <;> simp only [cond_false, cond_true] at h ⊢
        cases h3 : ltI i (lenI xs) <;> rw [h3] at h <;> simp only [cond_false, cond_true] at h ⊢
        have e1 : k = (ti T e).size := Nat.eq_of_beq_eq_true h1
        have e2 : 0 ≤ i := of_decide_eq_true h2
        have e3 : i < (xs.length : Int) := of_decide_eq_true h3
        have e4 : 0 < k := Nat.le_of_ble_eq_true h4
        have hn : i.toNat < xs.length := by omega
        have run : ∀ b o' c, (Instr.indexAt t (.slice (some ⟨b, o', none⟩) xs.length c) (.int ki i)).run P w = .ok (.pointer (some ⟨b, o' + i.toNat * k, none⟩)) w := by
          intro b o' c
          have hsz := hT.size_pos (P := P) (t := e) (by omega) w
          simp only [Instr.indexAt, asIntOf, Sem.run_bind, Sem.run_pure, Result.andThen_ok, run_underlying hu]
          rw [if_pos ⟨e2, by omega⟩]
          simp [hsz, add_plain, e1]
        have h1' := hx.1
        have hget : xs[i.toNat]? = some (xs.getD i.toNat []) := by rw [List.getD_eq_getElem?_getD, List.getElem?_eq_getElem hn]; rfl
        cases tg with
        | zero =>
          simp only at h ⊢
          simp only [TRep] at h1'
          generalize a.eval x = v at h1' ⊢
          cases h1' with
          | sl0 A c k => simp at hn
          | sl b o1 c _ _ vs hb hn' hm hkk hc h1 hr =>
            refine ⟨_, _, h, exec_v (by rw [hi]; exact run _ _ _), ?_, by simp [tagsOf], fun K' h => h⟩
            simp only [TRep]
            have hlen : (xs.getD i.toNat []).length = k := hkk _ (List.mem_of_getElem? hget)
            exact .rp b (o1 + i.toNat * k) 0 _ (vs i.toNat) hb (fun j hj => by
              have := hc i.toNat j hn (by omega)
              rwa [← Nat.add_assoc] at this) (fun j hj => h1 _ _ hn (by omega)) fun j c hj => hr i.toNat _ j c hget hj
        | succ tg =>
          simp only at h ⊢
          simp only [TRep] at h1'
          obtain ⟨q1, q2, q3⟩ := h1'
          have hin := hx.2 (tg + 1) (by simp [tagsOf, Nat.beq])
          rcases (hI.own _ hin).parts with ⟨p1, p2⟩ | ⟨b, c, vs, hv, _, hlt, hn', hm, hc, h1, hr⟩
          · rw [q2, p2] at hn; simp at hn
          · refine ⟨_, .pointer (some ⟨b, i.toNat * k + 0, none⟩), h, exec_v (by rw [hi, q1, hv, ← q2, run]; simp), ?_, fun t ht => by simp [tagsOf] at ht; subst ht; exact hin, fun K' h => h⟩
            simp only [TRep]
            exact ⟨q2, q3, by omega, hn, b, _, c, hv, rfl⟩
      case slice.hs e j o' n m k =>
        have hu := hT.u_slice hk
        cases h1 : Nat.beq k (ti T e).size <;> rw [h1] at h <;> simp only [G, cond_false, cond_true] at h ⊢
        cases h4 : Nat.blt 0 k <;> rw [h4] at h <;> simp only [cond_false, cond_true] at h ⊢
        cases h2 : leI 0 i <;> rw [h2] at h <;> simp only [cond_false, cond_true] at h ⊢
        cases h3 : ltI i n <;> rw [h3] at h <;> simp only [cond_false, cond_true] at h ⊢
        have e1 : k = (ti T e).size := Nat.eq_of_beq_eq_true h1
        have e2 : 0 ≤ i := of_decide_eq_true h2
        have e3 : i < (n : Int) := of_decide_eq_true h3
        have e4 : 0 < k := Nat.le_of_ble_eq_true h4
        have h1' := hx.1
        simp only [TRep] at h1'
        generalize a.eval x = v at h1' ⊢
        cases h1' with
        | hs _ b _ _ _ _ q hj hn hm hq =>
          have hq : q = o' * k := by rcases hq with hq | hq <;> omega
          subst hq
          refine ⟨_, .pointer (some ⟨b, (o' + i.toNat) * k + 0, none⟩), h, exec_v ?_, ?_, by simp [tagsOf], fun K' h => h⟩
          · have hsz := hT.size_pos (P := P) (t := e) (by omega) w
            rw [hi]
            simp only [Instr.indexAt, asIntOf, Sem.run_bind, Sem.run_pure, Result.andThen_ok, run_underlying hu]
            rw [if_pos ⟨e2, by omega⟩]
            simp [hsz, add_plain, ← e1, Nat.add_mul]
          · simp only [TRep]
            exact .he _ b _ _ _ hj
      case array.obj n e j o' =>
        have hu := hT.u_array hk
        cases h4 : Nat.blt 0 (ti T e).size <;> rw [h4] at h <;> simp only [G, cond_false, cond_true] at h ⊢
        cases h2 : leI 0 i <;> rw [h2] at h <;> simp only [cond_false, cond_true] at h ⊢
        cases h3 : ltI i n <;> rw [h3] at h <;> simp only [cond_false, cond_true] at h ⊢
        have e2 : 0 ≤ i := of_decide_eq_true h2
        have e3 : i < (n : Int) := of_decide_eq_true h3
        have e4 : 0 < (ti T e).size := Nat.le_of_ble_eq_true h4
        have h1' := hx.1
        simp only [TRep] at h1'
        generalize a.eval x = v at h1' ⊢
        cases h1' with
        | obj _ b _ hj =>
          refine ⟨_, .pointer (some ⟨b, o' + i.toNat * (ti T e).size, none⟩), h, exec_v ?_, by simp only [TRep]; exact .obj _ b _ hj, by simp [tagsOf], fun K' h => h⟩
          have hsz := hT.size_pos (P := P) (t := e) e4 w
          rw [hi]
          simp only [Instr.indexAt, asIntOf, Sem.run_bind, Sem.run_pure, Result.andThen_ok, run_underlying hu, Instr.sureAddr]
          rw [if_pos ⟨e2, e3⟩]
          simp [hsz, add_plain]
      case array.he n e j k q o' =>
        have hu := hT.u_array hk
        cases h4 : Nat.blt 0 (ti T e).size <;> rw [h4] at h <;> simp only [G, cond_false, cond_true] at h ⊢
        cases h2 : leI 0 i <;> rw [h2] at h <;> simp only [cond_false, cond_true] at h ⊢
        cases h3 : ltI i n <;> rw [h3] at h <;> simp only [cond_false, cond_true] at h ⊢
        have e2 : 0 ≤ i := of_decide_eq_true h2
        have e3 : i < (n : Int) := of_decide_eq_true h3
        have e4 : 0 < (ti T e).size := Nat.le_of_ble_eq_true h4
        have h1' := hx.1
        simp only [TRep] at h1'
        generalize a.eval x = v at h1' ⊢
        cases h1' with
        | he _ b _ _ _ hj =>
          refine ⟨_, .pointer (some ⟨b, q * k + (o' + i.toNat * (ti T e).size), none⟩), h, exec_v ?_, by simp only [TRep]; exact .he _ b _ _ _ hj, by simp [tagsOf], fun K' h => h⟩
          have hsz := hT.size_pos (P := P) (t := e) e4 w
          rw [hi]
          simp only [Instr.indexAt, asIntOf, Sem.run_bind, Sem.run_pure, Result.andThen_ok, run_underlying hu, Instr.sureAddr]
          rw [if_pos ⟨e2, e3⟩]
          simp [hsz, add_plain, Nat.add_assoc]
      case array.ptr n e j o' =>
        have hu := hT.u_array hk
        cases h4 : Nat.blt 0 (ti T e).size <;> rw [h4] at h <;> simp only [G, cond_false, cond_true] at h ⊢
        cases h2 : leI 0 i <;> rw [h2] at h <;> simp only [cond_false, cond_true] at h ⊢
        cases h3 : ltI i n <;> rw [h3] at h <;> simp only [cond_false, cond_true] at h ⊢
        have e2 : 0 ≤ i := of_decide_eq_true h2
        have e3 : i < (n : Int) := of_decide_eq_true h3
        have e4 : 0 < (ti T e).size := Nat.le_of_ble_eq_true h4
        have run : ∀ b o', (Instr.indexAt t (.pointer (some ⟨b, o', none⟩)) (.int ki i)).run P w = .ok (.pointer (some ⟨b, o' + i.toNat * (ti T e).size, none⟩)) w := by
          intro b o'
          have hsz := hT.size_pos (P := P) (t := e) e4 w
          simp only [Instr.indexAt, asIntOf, Sem.run_bind, Sem.run_pure, Result.andThen_ok, run_underlying hu, Instr.sureAddr]
          rw [if_pos ⟨e2, e3⟩]
          simp [hsz, add_plain]
        have h1' := hx.1
        simp only [TRep] at h1'
        exact ⟨_, .pointer (some ⟨l.loc j, o' + i.toNat * (ti T e).size, none⟩), h, exec_v (by rw [hi, h1'.2]; exact run _ _), by simp [TRep, h1'.1], by simp [tagsOf], fun K' h => h⟩
      case array.rp n e cs o' =>
        have hu := hT.u_array hk
        cases h4 : Nat.blt 0 (ti T e).size <;> rw [h4] at h <;> simp only [G, cond_false, cond_true] at h ⊢
        cases h2 : leI 0 i <;> rw [h2] at h <;> simp only [cond_false, cond_true] at h ⊢
        cases h3 : ltI i n <;> rw [h3] at h <;> simp only [cond_false, cond_true] at h ⊢
        have e2 : 0 ≤ i := of_decide_eq_true h2
        have e3 : i < (n : Int) := of_decide_eq_true h3
        have e4 : 0 < (ti T e).size := Nat.le_of_ble_eq_true h4
        have run : ∀ b o', (Instr.indexAt t (.pointer (some ⟨b, o', none⟩)) (.int ki i)).run P w = .ok (.pointer (some ⟨b, o' + i.toNat * (ti T e).size, none⟩)) w := by
          intro b o'
          have hsz := hT.size_pos (P := P) (t := e) e4 w
          simp only [Instr.indexAt, asIntOf, Sem.run_bind, Sem.run_pure, Result.andThen_ok, run_underlying hu, Instr.sureAddr]
          rw [if_pos ⟨e2, e3⟩]
          simp [hsz, add_plain]
        have h1' := hx.1
        simp only [TRep] at h1'
        generalize a.eval x = v at h1' ⊢
        cases h1' with
        | rp b o1 _ _ vs hb hc h1 hr => exact ⟨_, _, h, exec_v (by rw [hi]; exact run _ _), by simp only [TRep]; rw [Nat.add_assoc]; exact .rp b o1 _ _ vs hb hc h1 hr, by simp [tagsOf], fun K' h => h⟩
      case array.ep n e tg k q o' xs =>
        have hu := hT.u_array hk
        cases h4 : Nat.blt 0 (ti T e).size <;> rw [h4] at h <;> simp only [G, cond_false, cond_true] at h ⊢
        cases h2 : leI 0 i <;> rw [h2] at h <;> simp only [cond_false, cond_true] at h ⊢
        cases h3 : ltI i n <;> rw [h3] at h <;> simp only [cond_false, cond_true] at h ⊢
        have e2 : 0 ≤ i := of_decide_eq_true h2
        have e3 : i < (n : Int) := of_decide_eq_true h3
        have e4 : 0 < (ti T e).size := Nat.le_of_ble_eq_true h4
        have run : ∀ b o', (Instr.indexAt t (.pointer (some ⟨b, o', none⟩)) (.int ki i)).run P w = .ok (.pointer (some ⟨b, o' + i.toNat * (ti T e).size, none⟩)) w := by
          intro b o'
          have hsz := hT.size_pos (P := P) (t := e) e4 w
          simp only [Instr.indexAt, asIntOf, Sem.run_bind, Sem.run_pure, Result.andThen_ok, run_underlying hu, Instr.sureAddr]
          rw [if_pos ⟨e2, e3⟩]
          simp [hsz, add_plain]
        have h1' := hx.1
        simp only [TRep] at h1'
        obtain ⟨q1, q2, h0, hq, b, m, c, hv, hp⟩ := h1'
        refine ⟨_, .pointer (some ⟨b, q * k + (o' + i.toNat * (ti T e).size), none⟩), h, exec_v (by rw [hi, hp, run, Nat.add_assoc]), ?_, hx.2, fun K' h => h⟩
        simp only [TRep]
        exact ⟨q1, q2, h0, hq, b, m, c, hv, rfl⟩
  case index t x ix =>
    have hx := hop x
    have hi := (hop ix).1
    cases hiv : ρ st.tm ix <;> rw [hiv] at h hi <;> simp only at h ⊢
    case int ki i =>
      have hi := int_of_rep hi
      cases hk : (ti T t).k <;> cases hxv : ρ st.tm x <;> rw [hk, hxv] at h <;> rw [hxv] at hx <;> simp only at h ⊢
      case str.str s =>
        have hu := hT.u_str hk
        simp only [G] at h ⊢
        cases h2 : leI 0 i <;> rw [h2] at h <;> simp only [cond_false, cond_true] at h ⊢
        cases h3 : ltI i (sizeI s) <;> rw [h3] at h <;> simp only [cond_false, cond_true] at h ⊢
        have e2 : 0 ≤ i := of_decide_eq_true h2
        have e3 : i < (s.size : Int) := of_decide_eq_true h3
        have h1 := hx.1
        simp only [TRep] at h1
        have hn : i.toNat < s.size := by omega
        have hn' : i.toNat < s.data.toList.length := by rw [Array.length_toList]; exact hn
        refine ⟨_, .int .u8 (bt s i), h, exec_v ?_, by simp [TRep], by simp [tagsOf], fun K' h => h⟩
        have hb : s[i.toNat]? = some (s[i.toNat]'hn) := by simp [hn]
        simp only [Instr.index, hi, h1, asIntOf, Sem.run_bind, Sem.run_pure, Result.andThen_ok, run_underlying hu, e2, if_true, hb]
        simp [bt, List.getD_eq_getElem?_getD, hn]
        rfl
      case array.agg n e cs =>
        have hu := hT.u_array hk
        cases h4 : Nat.blt 0 (ti T e).size <;> rw [h4] at h <;> simp only [G, cond_false, cond_true] at h ⊢
        cases h2 : leI 0 i <;> rw [h2] at h <;> simp only [cond_false, cond_true] at h ⊢
        cases h3 : ltI i n <;> rw [h3] at h <;> simp only [cond_false, cond_true] at h ⊢
        have e2 : 0 ≤ i := of_decide_eq_true h2
        have e3 : i < (n : Int) := of_decide_eq_true h3
        have e4 : 0 < (ti T e).size := Nat.le_of_ble_eq_true h4
        have h1 := hx.1
        simp only [TRep] at h1
        obtain ⟨vs, hv, hr⟩ := h1
        obtain ⟨av, u, k1, k2, k3, k4, k5⟩ := part_sound (P := P) hT hr h
        refine ⟨av, u, k1, exec_v ?_, k3, fun t ht => hx.2 t (by simpa [tagsOf] using k4 t ht), k5⟩
        have hsz := hT.size_pos (P := P) (t := e) e4 w
        simp only [Instr.index, hi, hv, asIntOf, Sem.run_bind, Sem.run_pure, Result.andThen_ok, run_underlying hu]
        rw [if_pos ⟨e2, e3⟩]
        simp [hsz, k2]
  case call c =>
    obtain ⟨ce, cargs, ctypes⟩ := c
    cases ce <;> simp only at h ⊢
    case builtin b =>
      cases b <;> try simp only at h ⊢
      case len =>
        cases ha : cargs.toList with
        | nil => simp [ha] at h
        | cons x r =>
          cases r with
          | cons y r => simp [ha] at h
          | nil =>
            cases ht : ctypes.toList with
            | nil => simp [ha, ht] at h
            | cons t r =>
              cases r with
              | cons y r => simp [ha, ht] at h
              | nil =>
                rw [ha, ht] at h
                simp only at h ⊢
                obtain rfl : cargs = #[x] := by apply Array.ext'; simpa using ha
                obtain rfl : ctypes = #[t] := by apply Array.ext'; simpa using ht
                have hx := hop x
                have run : ∀ (v : Value), (Builtin.len_ #[t] o.type #[a.eval x]).run P w = .ok v w → (do let d ← resolve a.eval { callee := .builtin .len, args := #[x], argTypes := #[t] } o.type; invoke d.target d.args : Sem Next).run P w = .ok (.value v) w := by
                  intro v hv
                  simp [resolve, invoke, builtin, hv]
                cases hk : (ti T t).k <;> rw [hk] at h <;> try simp only at h ⊢
                case str =>
                  cases hxv : ρ st.tm x <;> rw [hxv] at h hx <;> simp only at h ⊢
                  case str s =>
                    have h1 := hx.1
                    simp only [TRep] at h1
                    exact ⟨_, .int .i64 (sizeI s), h, run _ (by simp [Builtin.len_, run_underlying (hT.u_str hk), h1, goInt, sizeI]), by simp [TRep], by simp [tagsOf], fun K' h => h⟩
                case map kt vt =>
                  cases hxv : ρ st.tm x <;> rw [hxv] at h hx <;> simp only at h ⊢ <;> try exact h.elim
                  case map j =>
                    obtain ⟨q1, h⟩ := G_out h
                    obtain ⟨es, c, he⟩ := isMap_eq q1
                    have h1 := hx.1
                    simp only [TRep] at h1
                    generalize hv : a.eval x = v at h1 run
                    cases h1 with
                    | map _ b ho =>
                      obtain ⟨_, vs, hh, hl, _⟩ := hI.heap.map ho he
                      refine ⟨_, .int .i64 (lenI (st.H.get j).es), h, run _ ?_, by simp [TRep], by simp [tagsOf], fun K' h => G_in q1 h⟩
                      simp [Builtin.len_, run_underlying (hT.u_map hk), MapKept.run_getObj_map hh, goInt, he, HB.es, lenI, hl]
                case slice e =>
                  cases hxv : ρ st.tm x <;> rw [hxv] at h hx <;> simp only at h ⊢
                  case nilsl =>
                    have h1 := hx.1
                    simp only [TRep] at h1
                    exact ⟨_, .int .i64 0, h, run _ (by simp [Builtin.len_, run_underlying (hT.u_slice hk), h1, goInt]), by simp [TRep], by simp [tagsOf], fun K' h => h⟩
                  case sl tg k xs =>
                    have hv : ∃ A c, a.eval x = .slice A xs.length c := by
                      obtain ⟨h1, h2⟩ := hx
                      cases tg with
                      | zero =>
                        simp only [TRep] at h1
                        generalize a.eval x = v at h1 ⊢
                        cases h1 with
                        | sl0 A c k => exact ⟨_, _, rfl⟩
                        | sl b o1 c _ _ vs hb hn' hm hkk hc h1 hr => exact ⟨_, _, rfl⟩
                      | succ tg =>
                        simp only [TRep] at h1
                        obtain ⟨q1, q2, q3⟩ := h1
                        rcases (hI.own _ (h2 (tg + 1) (by simp [tagsOf, Nat.beq]))).parts with ⟨p1, p2⟩ | ⟨b, c, vs, hv, _⟩
                        · rw [q1, q2, p1, p2]; exact ⟨_, _, rfl⟩
                        · rw [q1, q2, hv]; exact ⟨_, _, rfl⟩
                    obtain ⟨A, c, hv⟩ := hv
                    exact ⟨_, .int .i64 (lenI xs), h, run _ (by simp [Builtin.len_, run_underlying (hT.u_slice hk), hv, goInt, lenI]), by simp [TRep], by simp [tagsOf], fun K' h => h⟩
                  case hs j o' n m k =>
                    have h1 := hx.1
                    simp only [TRep] at h1
                    generalize a.eval x = v at h1 run ⊢
                    cases h1 with
                    | hs _ b _ _ _ _ q hj hn hm hq => exact ⟨_, .int .i64 n, h, run _ (by simp [Builtin.len_, run_underlying (hT.u_slice hk), goInt]), by simp [TRep], by simp [tagsOf], fun K' h => h⟩
                case array n e =>
                  exact ⟨_, .int .i64 n, h, run _ (by simp [Builtin.len_, run_underlying (hT.u_array hk), goInt]), by simp [TRep], by simp [tagsOf], fun K' h => h⟩
      case cap =>
        cases ha : cargs.toList with
        | nil => simp [ha] at h
        | cons x r =>
          cases r with
          | cons y r => simp [ha] at h
          | nil =>
            cases ht : ctypes.toList with
            | nil => simp [ha, ht] at h
            | cons t r =>
              cases r with
              | cons y r => simp [ha, ht] at h
              | nil =>
                rw [ha, ht] at h
                simp only at h ⊢
                obtain rfl : cargs = #[x] := by apply Array.ext'; simpa using ha
                obtain rfl : ctypes = #[t] := by apply Array.ext'; simpa using ht
                have hx := hop x
                have run : ∀ (v : Value), (Builtin.cap_ #[t] o.type #[a.eval x]).run P w = .ok v w → (do let d ← resolve a.eval { callee := .builtin .cap, args := #[x], argTypes := #[t] } o.type; invoke d.target d.args : Sem Next).run P w = .ok (.value v) w := by
                  intro v hv
                  simp [resolve, invoke, builtin, hv]
                cases hk : (ti T t).k <;> rw [hk] at h <;> try simp only at h ⊢
                case slice e =>
                  cases hxv : ρ st.tm x <;> rw [hxv] at h hx <;> simp only at h ⊢
                  case nilsl =>
                    have h1 := hx.1
                    simp only [TRep] at h1
                    exact ⟨_, .int .i64 0, h, run _ (by simp [Builtin.cap_, run_underlying (hT.u_slice hk), h1, goInt]), by simp [TRep], by simp [tagsOf], fun K' h => h⟩
                  case hs j o' n m k =>
                    have h1 := hx.1
                    simp only [TRep] at h1
                    generalize a.eval x = v at h1 run ⊢
                    cases h1 with
                    | hs _ b _ _ _ _ q hj hn hm hq => exact ⟨_, .int .i64 m, h, run _ (by simp [Builtin.cap_, run_underlying (hT.u_slice hk), goInt]), by simp [TRep], by simp [tagsOf], fun K' h => h⟩
      case max =>
        cases ha : cargs.toList with
        | nil => simp [ha] at h
        | cons x r =>
          cases r with
          | nil => simp [ha] at h
          | cons y r =>
            cases r with
            | cons z r => simp [ha] at h
            | nil =>
              obtain rfl : cargs = #[x, y] := by apply Array.ext'; simpa using ha
              have hx := (hop x).1
              have hy := (hop y).1
              simp only [List.map_cons, List.map_nil] at h ⊢
              cases hxv : ρ st.tm x <;> cases hyv : ρ st.tm y <;> rw [hxv, hyv] at h <;> rw [hxv] at hx <;> rw [hyv] at hy <;> simp only at h ⊢
              case int.int k a' k' b' =>
                have hx := int_of_rep hx
                have hy := int_of_rep hy
                cases hkk : decide (k = k') <;> rw [hkk] at h <;> simp only [G, cond_false, cond_true] at h ⊢
                have e := of_decide_eq_true hkk
                subst e
                refine ⟨_, .int k (cond (ltI a' b') b' a'), h, ?_, by simp [TRep], by simp [tagsOf], fun K' h => h⟩
                simp [resolve, invoke, builtin, Builtin.max_, hx, hy, Builtin.max2, ltI, Bool.cond_eq_ite]
      case min =>
        cases ha : cargs.toList with
        | nil => simp [ha] at h
        | cons x r =>
          cases r with
          | nil => simp [ha] at h
          | cons y r =>
            cases r with
            | cons z r => simp [ha] at h
            | nil =>
              obtain rfl : cargs = #[x, y] := by apply Array.ext'; simpa using ha
              have hx := (hop x).1
              have hy := (hop y).1
              simp only [List.map_cons, List.map_nil] at h ⊢
              cases hxv : ρ st.tm x <;> cases hyv : ρ st.tm y <;> rw [hxv, hyv] at h <;> rw [hxv] at hx <;> rw [hyv] at hy <;> simp only at h ⊢
              case int.int k a' k' b' =>
                have hx := int_of_rep hx
                have hy := int_of_rep hy
                cases hkk : decide (k = k') <;> rw [hkk] at h <;> simp only [G, cond_false, cond_true] at h ⊢
                have e := of_decide_eq_true hkk
                subst e
                refine ⟨_, .int k (cond (ltI b' a') b' a'), h, ?_, by simp [TRep], by simp [tagsOf], fun K' h => h⟩
                simp [resolve, invoke, builtin, Builtin.min_, hx, hy, Builtin.min2, ltI, Bool.cond_eq_ite]
  case binOp op t x y yt =>
    have hx := hop x
    have hy := hop y
    obtain ⟨av, v, k1, k2, k3, k4, k5, k6⟩ := bin_sound (P := P) hT hE hx.1 hy.1 h
    exact ⟨av, v, k1, exec_v (by simp [k2, k3]), k4, by simp [k5], k6⟩
end
end Go.Proofs.Ytbkkhhmjmbbfpaa.Ab
