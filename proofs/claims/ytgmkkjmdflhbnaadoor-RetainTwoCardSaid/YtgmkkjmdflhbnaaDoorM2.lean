/- Texts of the proof, joined: AbOps3, AbOps4, AbOps5, AbOps6, AbOps7, AbOps8, AbOps9, AbOps10, AbOps11, AbHeap. -/
import Derived.Test.YtgmkkjmdflhbnaaDoorM1
import Derived.Laws.StructEq
import Derived.ArgAppend
import Derived.Laws.IdiomStrings
import Derived.Laws.BytesString
import Derived.Lib.OthersKept
set_option linter.unusedVariables false
set_option linter.unusedSimpArgs false
set_option linter.unnecessarySimpa false
section
namespace Go.Proofs.YtgmkkjmdflhbnaaDoor.Ab
open Go
theorem exec_v {P : Program} {s : Sem Value} {v : Value} {w w' : World} (h : s.run P w = .ok v w') : ((do pure (Next.value (← s))) : Sem Next).run P w = .ok (.value v) w' := by
  simp [h]
section
variable {P : Program} {T : List TI} {w0 : World} {g0 g : Gs} {l : Gl} {w : World} {st : St} {a : Act} {K : AV → Prop}
theorem int_of_rep {n : Nat} {k : IntKind} {m : Int} {v : Value} (h : TRep g l w n (.int k m) v) : v = .int k m := by simpa [TRep] using h
theorem TabOk.size_pos (h : TabOk P T) {t : Nat} (ht : 0 < (ti T t).size) (w : World) : (sizeOf t).run P w = .ok (ti T t).size w := by
  have hl : T.length = P.types.size := by rw [← h.tys]; simp [tysOf]
  by_cases hlt : t < T.length
  · have : T[t]? = some (tyOf P t) := by rw [← h.tys]; simp [tysOf, List.getElem?_range (by omega : t < P.types.size)]
    have e : ti T t = tyOf P t := by simp [ti, List.getD_eq_getElem?_getD, this]
    rw [e] at ht ⊢
    have ht' : 0 < P.cellsOf t := ht
    show _ = Result.ok (P.cellsOf t) w
    unfold Program.cellsOf at ht' ⊢
    cases hi : P.info? t with
    | none => simp [hi] at ht'
    | some i => simp [sizeOf, typeInfo, hi]
  · simp [ti, List.getD_eq_getElem?_getD, List.getElem?_eq_none (Nat.le_of_not_lt hlt)] at ht
theorem part_sound (hT : TabOk P T) {n t o : Nat} {cs : List AV} {vs : List Value} (hr : TReps g l w n cs vs) (h : partAV T t cs o K) :
    ∃ av u, K av ∧ (part t vs.toArray o).run P w = .ok u w ∧ TRep g l w n av u ∧ (∀ t ∈ tagsOf av, t ∈ tagsOfs cs) ∧ ∀ K' : AV → Prop, K' av → partAV T t cs o K' := by
  unfold partAV at h ⊢
  cases hagg : isAggT T t
  · rw [hagg] at h
    simp only [cond_false] at h ⊢
    have hk := headM_kind hT h
    obtain ⟨hy, hrel, hd⟩ := normM_out h
    obtain ⟨c, hcs, he⟩ := getD_notAny hrel
    obtain ⟨v, hv, hrv⟩ := hr.get hcs
    rw [he] at hy hd
    refine ⟨c, v, hy, ?_, hrv, tagsOfs_get hcs, ?_⟩
    · simp only [part, Sem.run_bind, hT.run_isAgg hk, Result.andThen, hagg, Bool.false_eq_true, if_false]
      have : vs.toArray[o]? = some v := by simpa using hv
      rw [this]
      rfl
    · rw [he]; exact hd
  · rw [hagg] at h
    simp only [cond_true] at h ⊢
    obtain ⟨ys, hy, hlen, hrel, hd⟩ := normML_out h
    obtain ⟨hk, htup⟩ := agg_kind hagg
    obtain ⟨_, _, _, _, _, hsz, _⟩ := hT.zero hk htup
    have hin : ∀ (i : Nat) (y : AV), ys[i]? = some y → cs[o + i]? = some y := by
      intro i y hy
      obtain ⟨h1, h2⟩ := hrel i y hy
      rw [h1] at h2
      obtain ⟨c, hcs, he⟩ := getD_notAny h2
      rw [h1, he]
      exact hcs
    refine ⟨.agg ys, .agg (vs.toArray.extract o (o + (ti T t).size)), hy, ?_, ?_, ?_, fun K' hK => hd _ hK⟩
    · simp only [part, Sem.run_bind, hT.run_isAgg hk, Result.andThen, hagg, if_true, hT.run_size hk]
      rfl
    · have hl : (vs.toArray.extract o (o + (ti T t).size)).toList = (vs.drop o).take (ti T t).size := by
        simp
      refine ⟨(vs.drop o).take (ti T t).size, by rw [← hl], TReps.mk ?_ fun i y v hy hv => ?_⟩
      · rw [List.length_take, List.length_drop, ← hr.length]
        by_cases h0 : ys.length = 0
        · omega
        · have := (List.getElem?_eq_some_iff.1 (hin (ys.length - 1) _ (List.getElem?_eq_getElem (by omega)))).1
          omega
      · rw [List.getElem?_take] at hv
        split at hv
        · rw [List.getElem?_drop] at hv
          exact hr.of _ y v (hin i y hy) hv
        · cases hv
    · intro u hu
      simp only [tagsOf] at hu
      obtain ⟨i, y, hy, hu⟩ := tagsOfs_iff hu
      exact tagsOfs_get (hin i y hy) u hu
theorem eqCells_plain : ∀ {cs ds : List AV} {b : Bool}, eqCells cs ds = some b → cs.length = ds.length ∧ (∀ c ∈ cs, (∃ k n, c = .int k n) ∨ (∃ b, c = .bool b) ∨ ∃ s, c = .str s) ∧ (∀ c ∈ ds, (∃ k n, c = .int k n) ∨ (∃ b, c = .bool b) ∨ ∃ s, c = .str s)
  | [], [], b, _ => by simp
  | c :: cs, d :: ds, b, h => by
    cases c <;> cases d <;> simp only [eqCells] at h <;> try (simp at h; done)
    case int.int k a k' b' =>
      cases hk : decide (k = k') <;> rw [hk] at h <;> simp only [cond_false, cond_true] at h
      · cases h
      · obtain ⟨q, hq, _⟩ := Option.map_eq_some_iff.1 h
        obtain ⟨h1, h2, h3⟩ := eqCells_plain hq
        exact ⟨by simp [h1], by simpa using h2, by simpa using h3⟩
    case bool.bool a b' =>
      obtain ⟨q, hq, _⟩ := Option.map_eq_some_iff.1 h
      obtain ⟨h1, h2, h3⟩ := eqCells_plain hq
      exact ⟨by simp [h1], by simpa using h2, by simpa using h3⟩
    case str.str a b' =>
      obtain ⟨q, hq, _⟩ := Option.map_eq_some_iff.1 h
      obtain ⟨h1, h2, h3⟩ := eqCells_plain hq
      exact ⟨by simp [h1], by simpa using h2, by simpa using h3⟩
  | [], _ :: _, _, h => by simp [eqCells] at h
  | c :: _, [], _, h => by cases c <;> simp [eqCells] at h
theorem plain_const {n : Nat} {c : AV} {v : Value} (hp : (∃ k n, c = .int k n) ∨ (∃ b, c = .bool b) ∨ ∃ s, c = .str s) (h : TRep g l w n c v) : constAV v = c := by
  rcases hp with ⟨k, m, rfl⟩ | ⟨b, rfl⟩ | ⟨s, rfl⟩ <;> (simp only [TRep] at h; subst h; rfl)
theorem toList_inj {a b : ByteArray} (h : a.toList = b.toList) : a = b := by
  rw [ByteArray.toList_eq, ByteArray.toList_eq] at h
  obtain ⟨⟨x⟩⟩ := a
  obtain ⟨⟨y⟩⟩ := b
  simp at h
  rw [h]
theorem eqS_beq (a b : ByteArray) : eqS a b = (a.toList == b.toList) := by
  unfold eqS
  by_cases h : a = b
  · subst h; simp
  · have : a.toList ≠ b.toList := fun e => h (toList_inj e)
    simp [h, this]
theorem eqI_beq (a b : Int) : eqI a b = (a == b) := by
  unfold eqI
  by_cases h : a = b
  · subst h; simp
  · simp [h]
theorem run_equal_step {t : Nat} {u v : Value} {r : Result Bool} (h : ∀ d, (Op.equalIn (d + 1) t u v).run P w = r) : (Op.equal t u v).run P w = r := h 9999
theorem run_eql_of {t : Nat} {u v : Value} {b : Bool} (h : (Op.equal t u v).run P w = .ok b w) (h1 : binOp .eql t u v = (do pure (.bool (← Op.equal t u v)))) (h2 : binOp .neq t u v = (do pure (.bool (!(← Op.equal t u v))))) :
    (binOp .eql t u v).run P w = .ok (.bool b) w ∧ (binOp .neq t u v).run P w = .ok (.bool (!b)) w := by
  rw [h1, h2]
  constructor <;> simp [h]
theorem less_total : ∀ (a b : List UInt8), Op.bytesLess a b = !(Op.bytesLess b a || b == a)
  | [], [] => by simp [Op.bytesLess]
  | [], _ :: _ => by simp [Op.bytesLess]
  | _ :: _, [] => by simp [Op.bytesLess]
  | x :: a, y :: b => by
    simp only [Op.bytesLess, less_total a b]
    by_cases h1 : x < y
    · have h2 : ¬ y < x := by simp only [UInt8.lt_iff_toNat_lt] at h1 ⊢; omega
      have h3 : ¬ y = x := by intro e; subst e; exact h2 h1
      simp [h1, h2, h3]
    · by_cases h2 : y < x
      · have h3 : ¬ x = y := by intro e; subst e; exact h1 h2
        simp [h1, h2, h3]
      · have h3 : x = y := by
          apply UInt8.toNat_inj.1
          simp only [UInt8.lt_iff_toNat_lt] at h1 h2
          omega
        subst h3
        simp [h1]
set_option maxHeartbeats 2000000 in
theorem eql_sound (hT : TabOk P T) (hE : EqOk P T) {n : Nat} {t : Nat} {x y : Operand} {xa ya : AV} {xv yv : Value} {K : Bool → Prop} (hx : TRep g l w n xa xv) (hy : TRep g l w n ya yv)
    (h : eqlAV (plainT T t) (plainK T t) (ti T t).k (isConstO x || isConstO y) xa ya K) :
    ∃ b, K b ∧ (eqGuard .eql t x y xv yv).run P w = .ok () w ∧ (eqGuard .neq t x y xv yv).run P w = .ok () w ∧ (binOp .eql t xv yv).run P w = .ok (.bool b) w ∧ (binOp .neq t xv yv).run P w = .ok (.bool (!b)) w ∧
      ∀ K' : Bool → Prop, K' b → eqlAV (plainT T t) (plainK T t) (ti T t).k (isConstO x || isConstO y) xa ya K' := by
  cases xa <;> cases ya <;> simp only [eqlAV] at h ⊢
  case int.int k a k' b =>
    have hx := int_of_rep hx
    have hy := int_of_rep hy
    cases hk : decide (k = k') <;> rw [hk] at h <;> simp only [G, cond_false, cond_true] at h ⊢
    have e := of_decide_eq_true hk
    subst e
    subst hx
    subst hy
    refine ⟨_, h, by simp [eqGuard], by simp [eqGuard], ?_, ?_, fun K' h => h⟩
    · simp only [binOp, Op.intCmp, ne_eq, not_true_eq_false, if_false, eqI_beq]
      rfl
    · simp only [binOp, Op.intCmp, ne_eq, not_true_eq_false, if_false, eqI_beq]
      rfl
  case str.str a b =>
    simp only [TRep] at hx hy
    subst hx
    subst hy
    refine ⟨_, h, by simp [eqGuard], by simp [eqGuard], ?_, ?_, fun K' h => h⟩
    · simp [binOp, Op.stringOp, eqS_beq]
    · simp [binOp, Op.stringOp, eqS_beq]
  case bool.bool a b =>
    simp only [TRep] at hx hy
    subst hx
    subst hy
    cases hk : (ti T t).k <;> rw [hk] at h <;> simp only at h ⊢
    have hu := run_underlying (w := w) (hT.u_bool hk)
    obtain ⟨r1, r2⟩ := run_eql_of (P := P) (w := w) (t := t) (u := .bool a) (v := .bool b) (b := a == b) (run_equal_step fun d => by simp only [Op.equalIn, Sem.run_bind, hu, Result.andThen_ok, Sem.run_pure]) rfl rfl
    exact ⟨_, h, by simp [eqGuard], by simp [eqGuard], r1, r2, fun K' h => h⟩
  case agg.agg cs ds =>
    simp only [TRep] at hx hy
    obtain ⟨vs, rfl, hvs⟩ := hx
    obtain ⟨us, rfl, hus⟩ := hy
    cases hb : eqCells cs ds with
    | none =>
      rw [hb] at h
      cases hp : plainT T t <;> cases hz : (cellsFit (plainK T t) cs && cellsFit (plainK T t) ds) <;> rw [hp, hz] at h <;> simp [G] at h
    | some b =>
      rw [hb] at h
      cases hp : plainT T t <;> rw [hp] at h <;> simp only [G, cond_false, cond_true] at h ⊢
      cases hz : (cellsFit (plainK T t) cs && cellsFit (plainK T t) ds) <;> rw [hz] at h <;> simp only [cond_false, cond_true] at h ⊢
      obtain ⟨hlen, hpc, hpd⟩ := eqCells_plain hb
      have hmap : ∀ {cs : List AV} {vs : List Value}, TReps g l w n cs vs → (∀ c ∈ cs, (∃ k n, c = .int k n) ∨ (∃ b, c = .bool b) ∨ ∃ s, c = .str s) → vs.map constAV = cs := by
        intro cs vs hr hp
        apply List.ext_getElem?
        intro i
        rw [List.getElem?_map]
        cases hc : cs[i]? with
        | none => rw [List.getElem?_eq_none_iff] at hc; rw [List.getElem?_eq_none (by rw [← hr.length]; exact hc)]; rfl
        | some c =>
          obtain ⟨v, hv, hrv⟩ := hr.get hc
          rw [hv]
          simp only [Option.map_some]
          rw [plain_const (hp c (List.mem_of_getElem? hc)) hrv]
      obtain ⟨g1, g2, g3⟩ := hE.1 t x y cs ds vs us b w hp hb (Bool.and_eq_true _ _ ▸ hz).1 (Bool.and_eq_true _ _ ▸ hz).2 (hmap hvs hpc) (hmap hus hpd)
      obtain ⟨r1, r2⟩ := run_eql_of g3 rfl rfl
      exact ⟨b, h, g1, g2, r1, r2, fun K' h => h⟩
  case nilp.nilp =>
    simp only [TRep] at hx hy
    subst hx
    subst hy
    cases hk : (ti T t).k <;> rw [hk] at h <;> simp only at h ⊢
    have hu := run_underlying (w := w) (hT.u_ptr hk)
    obtain ⟨r1, r2⟩ := run_eql_of (P := P) (w := w) (t := t) (u := .pointer none) (v := .pointer none) (b := true) (run_equal_step fun d => by simp only [Op.equalIn, Sem.run_bind, hu, Result.andThen_ok, Sem.run_pure]; try rfl) rfl rfl
    exact ⟨_, h, by simp [eqGuard], by simp [eqGuard], r1, r2, fun K' h => h⟩
  case ptr.nilp j o =>
    simp only [TRep] at hx hy
    obtain ⟨_, hx⟩ := hx
    subst hx
    subst hy
    cases hk : (ti T t).k <;> rw [hk] at h <;> simp only at h ⊢
    have hu := run_underlying (w := w) (hT.u_ptr hk)
    obtain ⟨r1, r2⟩ := run_eql_of (P := P) (w := w) (t := t) (u := .pointer (some ⟨l.loc j, o, none⟩)) (v := .pointer none) (b := false) (run_equal_step fun d => by simp only [Op.equalIn, Sem.run_bind, hu, Result.andThen_ok, Sem.run_pure]; try rfl) rfl rfl
    exact ⟨_, h, by simp [eqGuard], by simp [eqGuard], r1, r2, fun K' h => h⟩
  case rp.nilp cs o =>
    have hv : ∃ b o', xv = .pointer (some ⟨b, o', none⟩) := by simp only [TRep] at hx; cases hx with | rp b o1 _ _ vs hb hc h1 hr => exact ⟨_, _, rfl⟩
    obtain ⟨b', o', rfl⟩ := hv
    simp only [TRep] at hy
    subst hy
    cases hk : (ti T t).k <;> rw [hk] at h <;> simp only at h ⊢
    have hu := run_underlying (w := w) (hT.u_ptr hk)
    obtain ⟨r1, r2⟩ := run_eql_of (P := P) (w := w) (t := t) (u := .pointer (some ⟨b', o', none⟩)) (v := .pointer none) (b := false) (run_equal_step fun d => by simp only [Op.equalIn, Sem.run_bind, hu, Result.andThen_ok, Sem.run_pure]; try rfl) rfl rfl
    exact ⟨_, h, by simp [eqGuard], by simp [eqGuard], r1, r2, fun K' h => h⟩
  case obj.nilp j o =>
    have hv : ∃ b o', xv = .pointer (some ⟨b, o', none⟩) := by simp only [TRep] at hx; cases hx with | obj _ b _ hj => exact ⟨_, _, rfl⟩
    obtain ⟨b', o', rfl⟩ := hv
    simp only [TRep] at hy
    subst hy
    cases hk : (ti T t).k <;> rw [hk] at h <;> simp only at h ⊢
    have hu := run_underlying (w := w) (hT.u_ptr hk)
    obtain ⟨r1, r2⟩ := run_eql_of (P := P) (w := w) (t := t) (u := .pointer (some ⟨b', o', none⟩)) (v := .pointer none) (b := false) (run_equal_step fun d => by simp only [Op.equalIn, Sem.run_bind, hu, Result.andThen_ok, Sem.run_pure]; try rfl) rfl rfl
    exact ⟨_, h, by simp [eqGuard], by simp [eqGuard], r1, r2, fun K' h => h⟩
  case he.nilp j k0 i0 o =>
    have hv : ∃ b o', xv = .pointer (some ⟨b, o', none⟩) := by simp only [TRep] at hx; cases hx with | he _ b _ _ _ hj => exact ⟨_, _, rfl⟩
    obtain ⟨b', o', rfl⟩ := hv
    simp only [TRep] at hy
    subst hy
    cases hk : (ti T t).k <;> rw [hk] at h <;> simp only at h ⊢
    have hu := run_underlying (w := w) (hT.u_ptr hk)
    obtain ⟨r1, r2⟩ := run_eql_of (P := P) (w := w) (t := t) (u := .pointer (some ⟨b', o', none⟩)) (v := .pointer none) (b := false) (run_equal_step fun d => by simp only [Op.equalIn, Sem.run_bind, hu, Result.andThen_ok, Sem.run_pure]; try rfl) rfl rfl
    exact ⟨_, h, by simp [eqGuard], by simp [eqGuard], r1, r2, fun K' h => h⟩
  case nilp.obj j o =>
    have hv : ∃ b o', yv = .pointer (some ⟨b, o', none⟩) := by simp only [TRep] at hy; cases hy with | obj _ b _ hj => exact ⟨_, _, rfl⟩
    obtain ⟨b', o', rfl⟩ := hv
    simp only [TRep] at hx
    subst hx
    cases hk : (ti T t).k <;> rw [hk] at h <;> simp only at h ⊢
    have hu := run_underlying (w := w) (hT.u_ptr hk)
    obtain ⟨r1, r2⟩ := run_eql_of (P := P) (w := w) (t := t) (u := .pointer none) (v := .pointer (some ⟨b', o', none⟩)) (b := false) (run_equal_step fun d => by simp only [Op.equalIn, Sem.run_bind, hu, Result.andThen_ok, Sem.run_pure]; try rfl) rfl rfl
    exact ⟨_, h, by simp [eqGuard], by simp [eqGuard], r1, r2, fun K' h => h⟩
  case nilmap.nilmap =>
    simp only [TRep] at hx hy
    subst hx
    subst hy
    cases hk : (ti T t).k <;> rw [hk] at h <;> simp only at h ⊢
    have hu := run_underlying (w := w) (hT.u_map hk)
    obtain ⟨r1, r2⟩ := run_eql_of (P := P) (w := w) (t := t) (u := .map none) (v := .map none) (b := true) (run_equal_step fun d => by simp only [Op.equalIn, Sem.run_bind, hu, Result.andThen_ok, Sem.run_pure]; try rfl) rfl rfl
    exact ⟨_, h, by simp [eqGuard], by simp [eqGuard], r1, r2, fun K' h => h⟩
  case map.nilmap j =>
    have hv : ∃ b, xv = .map (some b) := by simp only [TRep] at hx; cases hx with | map _ b hj => exact ⟨_, rfl⟩
    obtain ⟨b', rfl⟩ := hv
    simp only [TRep] at hy
    subst hy
    cases hk : (ti T t).k <;> rw [hk] at h <;> simp only at h ⊢
    have hu := run_underlying (w := w) (hT.u_map hk)
    obtain ⟨r1, r2⟩ := run_eql_of (P := P) (w := w) (t := t) (u := .map (some b')) (v := .map none) (b := false) (run_equal_step fun d => by simp only [Op.equalIn, Sem.run_bind, hu, Result.andThen_ok, Sem.run_pure]; try rfl) rfl rfl
    exact ⟨_, h, by simp [eqGuard], by simp [eqGuard], r1, r2, fun K' h => h⟩
  case nilfn.nilfn =>
    simp only [TRep] at hx hy
    subst hx
    subst hy
    cases hk : (ti T t).k <;> rw [hk] at h <;> simp only at h ⊢
    obtain ⟨_, _, _, hu⟩ := hT.u_func hk
    have hu := run_underlying (w := w) hu
    obtain ⟨r1, r2⟩ := run_eql_of (P := P) (w := w) (t := t) (u := .nilFunc) (v := .nilFunc) (b := true) (run_equal_step fun d => by simp only [Op.equalIn, Sem.run_bind, hu, Result.andThen_ok, Sem.run_pure]; try rfl) rfl rfl
    exact ⟨_, h, by simp [eqGuard], by simp [eqGuard], r1, r2, fun K' h => h⟩
  case fn.nilfn f c =>
    have hv : ∃ vs, xv = .func (.func f) #[] vs := by simp only [TRep] at hx; cases hx with | fn _ _ vs hl hr => exact ⟨_, rfl⟩
    obtain ⟨vs, rfl⟩ := hv
    simp only [TRep] at hy
    subst hy
    cases hk : (ti T t).k <;> rw [hk] at h <;> simp only at h ⊢
    obtain ⟨_, _, _, hu⟩ := hT.u_func hk
    have hu := run_underlying (w := w) hu
    obtain ⟨r1, r2⟩ := run_eql_of (P := P) (w := w) (t := t) (u := .func (.func f) #[] vs) (v := .nilFunc) (b := false) (run_equal_step fun d => by simp only [Op.equalIn, Sem.run_bind, hu, Result.andThen_ok, Sem.run_pure]; try rfl) rfl rfl
    exact ⟨_, h, by simp [eqGuard], by simp [eqGuard], r1, r2, fun K' h => h⟩
  case iface.niliface q b =>
    simp only [TRep] at hx hy
    obtain ⟨u, rfl, _⟩ := hx
    subst hy
    cases hk : (ti T t).k <;> rw [hk] at h <;> simp only at h ⊢
    obtain ⟨_, hu⟩ := hT.u_iface hk
    have hu := run_underlying (w := w) hu
    obtain ⟨r1, r2⟩ := run_eql_of (P := P) (w := w) (t := t) (u := .iface q u) (v := .nilIface) (b := false) (run_equal_step fun d => by simp only [Op.equalIn, Sem.run_bind, hu, Result.andThen_ok, Sem.run_pure]) rfl rfl
    exact ⟨_, h, by simp [eqGuard], by simp [eqGuard], r1, r2, fun K' h => h⟩
  case niliface.niliface =>
    simp only [TRep] at hx hy
    subst hx
    subst hy
    cases hk : (ti T t).k <;> rw [hk] at h <;> simp only at h ⊢
    cases hc : (isConstO x || isConstO y) <;> rw [hc] at h <;> simp only [G, cond_false, cond_true] at h ⊢
    obtain ⟨_, hu⟩ := hT.u_iface hk
    have hu := run_underlying (w := w) hu
    obtain ⟨r1, r2⟩ := run_eql_of (P := P) (w := w) (t := t) (u := .nilIface) (v := .nilIface) (b := true) (run_equal_step fun d => by simp only [Op.equalIn, Sem.run_bind, hu, Result.andThen_ok, Sem.run_pure]) rfl rfl
    have hg : ∀ op, (eqGuard op t x y .nilIface .nilIface).run P w = .ok () w := by
      intro op
      cases x <;> cases y <;> first | (simp [isConstO] at hc; done) | (cases op <;> simp [eqGuard])
    exact ⟨_, h, hg _, hg _, r1, r2, fun K' h => h⟩
set_option maxHeartbeats 2000000 in
theorem bin_sound (hT : TabOk P T) (hE : EqOk P T) {n : Nat} {op : BinOp} {t : Nat} {x y : Operand} {xa ya : AV} {xv yv : Value} (hx : TRep g l w n xa xv) (hy : TRep g l w n ya yv)
    (h : binAV (plainT T t) (plainK T t) (ti T t).k (isConstO x || isConstO y) op xa ya K) :
    ∃ av v, K av ∧ (eqGuard op t x y xv yv).run P w = .ok () w ∧ (binOp op t xv yv).run P w = .ok v w ∧ TRep g l w n av v ∧ tagsOf av = [] ∧ ∀ K' : AV → Prop, K' av → binAV (plainT T t) (plainK T t) (ti T t).k (isConstO x || isConstO y) op xa ya K' := by
  unfold binAV at h ⊢
  cases op <;> try (simp only at h; done)
  case eql =>
    simp only at h ⊢
    obtain ⟨b, h1, h2, h3, h4, h5, h6⟩ := eql_sound hT hE hx hy h
    exact ⟨.bool b, .bool b, h1, h2, h4, by simp [TRep], by simp [tagsOf], fun K' hK => h6 _ hK⟩
  case neq =>
    simp only at h ⊢
    obtain ⟨b, h1, h2, h3, h4, h5, h6⟩ := eql_sound hT hE hx hy h
    exact ⟨.bool (!b), .bool (!b), h1, h3, h5, by simp [TRep], by simp [tagsOf], fun K' hK => h6 _ hK⟩
  all_goals
    simp only at h ⊢
    cases xa <;> cases ya <;> simp only at h ⊢
  case add.int.int k a k' b =>
    have hx := int_of_rep hx
    have hy := int_of_rep hy
    cases hk : decide (k = k') <;> rw [hk] at h <;> simp only [G, cond_false, cond_true] at h ⊢
    have e := of_decide_eq_true hk
    subst e
    subst hx
    subst hy
    exact ⟨_, .int k (addW k a b), h, by simp [eqGuard], by simp [binOp, Op.intArith, addW], by simp [TRep], by simp [tagsOf], fun K' h => h⟩
  case add.str.str a b =>
    simp only [TRep] at hx hy
    subst hx
    subst hy
    cases hk : Nat.ble (a.size + b.size) 9223372036854775807 <;> rw [hk] at h <;> simp only [G, cond_false, cond_true] at h ⊢
    have e := Nat.le_of_ble_eq_true hk
    refine ⟨_, .string (a ++ b), h, by simp [eqGuard], ?_, by simp [TRep], by simp [tagsOf], fun K' h => h⟩
    have hmax : IntKind.i64.max = 9223372036854775807 := by decide
    simp only [binOp, Op.stringOp, hmax]
    rw [if_neg (by omega)]
    rfl
  case and.int.int k a k' b =>
    have hx := int_of_rep hx
    have hy := int_of_rep hy
    cases hk : decide (k = k') <;> rw [hk] at h <;> simp only [G, cond_false, cond_true] at h ⊢
    have e := of_decide_eq_true hk
    subst e
    subst hx
    subst hy
    exact ⟨_, .int k (andW k a b), h, by simp [eqGuard], by simp [binOp, Op.intBits, andW], by simp [TRep], by simp [tagsOf], fun K' h => h⟩
  case or.int.int k a k' b =>
    have hx := int_of_rep hx
    have hy := int_of_rep hy
    cases hk : decide (k = k') <;> rw [hk] at h <;> simp only [G, cond_false, cond_true] at h ⊢
    have e := of_decide_eq_true hk
    subst e
    subst hx
    subst hy
    exact ⟨_, .int k (orW k a b), h, by simp [eqGuard], by simp [binOp, Op.intBits, orW], by simp [TRep], by simp [tagsOf], fun K' h => h⟩
  case xor.int.int k a k' b =>
    have hx := int_of_rep hx
    have hy := int_of_rep hy
    cases hk : decide (k = k') <;> rw [hk] at h <;> simp only [G, cond_false, cond_true] at h ⊢
    have e := of_decide_eq_true hk
    subst e
    subst hx
    subst hy
    exact ⟨_, .int k (xorW k a b), h, by simp [eqGuard], by simp [binOp, Op.intBits, xorW], by simp [TRep], by simp [tagsOf], fun K' h => h⟩
  case andNot.int.int k a k' b =>
    have hx := int_of_rep hx
    have hy := int_of_rep hy
    cases hk : decide (k = k') <;> rw [hk] at h <;> simp only [G, cond_false, cond_true] at h ⊢
    have e := of_decide_eq_true hk
    subst e
    subst hx
    subst hy
    exact ⟨_, .int k (andNotW k a b), h, by simp [eqGuard], by simp [binOp, Op.intBits, andNotW], by simp [TRep], by simp [tagsOf], fun K' h => h⟩
  case shl.int.int k a k' b =>
    have hx := int_of_rep hx
    have hy := int_of_rep hy
    subst hx
    subst hy
    cases hz : leI 0 b <;> rw [hz] at h <;> simp only [G, cond_false, cond_true] at h ⊢
    have hb : 0 ≤ b := of_decide_eq_true hz
    exact ⟨_, .int k (shlW k a b), h, by simp [eqGuard], by simp only [binOp, Op.shift]; rw [if_neg (by omega)]; rfl, by simp [TRep], by simp [tagsOf], fun K' h => h⟩
  case shr.int.int k a k' b =>
    have hx := int_of_rep hx
    have hy := int_of_rep hy
    subst hx
    subst hy
    cases hz : leI 0 b <;> rw [hz] at h <;> simp only [G, cond_false, cond_true] at h ⊢
    have hb : 0 ≤ b := of_decide_eq_true hz
    exact ⟨_, .int k (shrW k a b), h, by simp [eqGuard], by simp only [binOp, Op.shift]; rw [if_neg (by omega)]; rfl, by simp [TRep], by simp [tagsOf], fun K' h => h⟩
  case sub.int.int k a k' b =>
    have hx := int_of_rep hx
    have hy := int_of_rep hy
    cases hk : decide (k = k') <;> rw [hk] at h <;> simp only [G, cond_false, cond_true] at h ⊢
    have e := of_decide_eq_true hk
    subst e
    subst hx
    subst hy
    exact ⟨_, .int k (subW k a b), h, by simp [eqGuard], by simp [binOp, Op.intArith, subW], by simp [TRep], by simp [tagsOf], fun K' h => h⟩
  case mul.int.int k a k' b =>
    have hx := int_of_rep hx
    have hy := int_of_rep hy
    cases hk : decide (k = k') <;> rw [hk] at h <;> simp only [G, cond_false, cond_true] at h ⊢
    have e := of_decide_eq_true hk
    subst e
    subst hx
    subst hy
    exact ⟨_, .int k (mulW k a b), h, by simp [eqGuard], by simp [binOp, Op.intArith, mulW], by simp [TRep], by simp [tagsOf], fun K' h => h⟩
  case quo.int.int k a k' b =>
    have hx := int_of_rep hx
    have hy := int_of_rep hy
    cases hk : decide (k = k') <;> rw [hk] at h <;> simp only [G, cond_false, cond_true] at h ⊢
    have e := of_decide_eq_true hk
    subst e
    subst hx
    subst hy
    cases hz : eqI b 0 <;> rw [hz] at h <;> simp only [Bool.not_false, Bool.not_true, cond_false, cond_true] at h ⊢
    have hb : b ≠ 0 := of_decide_eq_false hz
    exact ⟨_, .int k (k.wrap (a.tdiv b)), h, by simp [eqGuard], by simp [binOp, Op.intDiv, hb], by simp [TRep], by simp [tagsOf], fun K' h => h⟩
  case rem.int.int k a k' b =>
    have hx := int_of_rep hx
    have hy := int_of_rep hy
    cases hk : decide (k = k') <;> rw [hk] at h <;> simp only [G, cond_false, cond_true] at h ⊢
    have e := of_decide_eq_true hk
    subst e
    subst hx
    subst hy
    cases hz : eqI b 0 <;> rw [hz] at h <;> simp only [Bool.not_false, Bool.not_true, cond_false, cond_true] at h ⊢
    have hb : b ≠ 0 := of_decide_eq_false hz
    exact ⟨_, .int k (a.tmod b), h, by simp [eqGuard], by simp [binOp, Op.intDiv, hb], by simp [TRep], by simp [tagsOf], fun K' h => h⟩
  case lss.int.int k a k' b =>
    have hx := int_of_rep hx
    have hy := int_of_rep hy
    cases hk : decide (k = k') <;> rw [hk] at h <;> simp only [G, cond_false, cond_true] at h ⊢
    have e := of_decide_eq_true hk
    subst e
    subst hx
    subst hy
    exact ⟨_, .bool (ltI a b), h, by simp [eqGuard], by simp [binOp, Op.intCmp, ltI], by simp [TRep], by simp [tagsOf], fun K' h => h⟩
  case leq.int.int k a k' b =>
    have hx := int_of_rep hx
    have hy := int_of_rep hy
    cases hk : decide (k = k') <;> rw [hk] at h <;> simp only [G, cond_false, cond_true] at h ⊢
    have e := of_decide_eq_true hk
    subst e
    subst hx
    subst hy
    exact ⟨_, .bool (leI a b), h, by simp [eqGuard], by simp [binOp, Op.intCmp, leI], by simp [TRep], by simp [tagsOf], fun K' h => h⟩
  case gtr.int.int k a k' b =>
    have hx := int_of_rep hx
    have hy := int_of_rep hy
    cases hk : decide (k = k') <;> rw [hk] at h <;> simp only [G, cond_false, cond_true] at h ⊢
    have e := of_decide_eq_true hk
    subst e
    subst hx
    subst hy
    exact ⟨_, .bool (ltI b a), h, by simp [eqGuard], by simp [binOp, Op.intCmp, ltI], by simp [TRep], by simp [tagsOf], fun K' h => h⟩
  case geq.int.int k a k' b =>
    have hx := int_of_rep hx
    have hy := int_of_rep hy
    cases hk : decide (k = k') <;> rw [hk] at h <;> simp only [G, cond_false, cond_true] at h ⊢
    have e := of_decide_eq_true hk
    subst e
    subst hx
    subst hy
    exact ⟨_, .bool (leI b a), h, by simp [eqGuard], by simp [binOp, Op.intCmp, leI], by simp [TRep], by simp [tagsOf], fun K' h => h⟩
  case lss.str.str a b =>
    simp only [TRep] at hx hy
    subst hx
    subst hy
    exact ⟨_, .bool (ltS a b), h, by simp [eqGuard], by simp [binOp, Op.stringOp, ltS], by simp [TRep], by simp [tagsOf], fun K' h => h⟩
  case leq.str.str a b =>
    simp only [TRep] at hx hy
    subst hx
    subst hy
    exact ⟨_, .bool (!(ltS b a)), h, by simp [eqGuard], by simp [binOp, Op.stringOp, ltS, less_total b.toList a.toList], by simp [TRep], by simp [tagsOf], fun K' h => h⟩
  case gtr.str.str a b =>
    simp only [TRep] at hx hy
    subst hx
    subst hy
    exact ⟨_, .bool (ltS b a), h, by simp [eqGuard], by simp [binOp, Op.stringOp, ltS, less_total b.toList a.toList], by simp [TRep], by simp [tagsOf], fun K' h => h⟩
  case geq.str.str a b =>
    simp only [TRep] at hx hy
    subst hx
    subst hy
    exact ⟨_, .bool (!(ltS a b)), h, by simp [eqGuard], by simp [binOp, Op.stringOp, ltS], by simp [TRep], by simp [tagsOf], fun K' h => h⟩
set_option maxHeartbeats 2000000 in
theorem light_sound (hT : TabOk P T) (hE : EqOk P T) (hI : Inv w0 g0 g l w st a) (o : Oper) (hl : ∀ t x lo hi mx, o.op ≠ .slice t x lo hi mx) (h : light T o.op (ρ st.tm) st.mem st.H K) :
    ∃ av v, K av ∧ (execOp a.eval o).run P w = .ok (.value v) w ∧ TRep g l w st.mem.length av v ∧ (∀ t ∈ tagsOf av, t ∈ st.tags) ∧ ∀ K' : AV → Prop, K' av → light T o.op (ρ st.tm) st.mem st.H K' := by
  have hop := fun x => hI.operand (a := a) x
  unfold execOp
  cases ho : o.op <;> rw [ho] at h <;> simp only [light] at h ⊢
  case move x => exact ⟨_, _, h, rfl, (hop x).1, (hop x).2, fun K' h => h⟩
  case assign x => exact ⟨_, _, h, rfl, (hop x).1, (hop x).2, fun K' h => h⟩
  case pick c x y =>
    have hc := (hop c).1
    cases hcv : ρ st.tm c <;> rw [hcv] at h hc <;> simp only at h ⊢
    case bool t =>
      simp only [TRep] at hc
      cases t
      · simp only [cond_false] at h ⊢
        exact ⟨_, _, h, by simp [hc, asBool], (hop y).1, (hop y).2, fun K' h => h⟩
      · simp only [cond_true] at h ⊢
        exact ⟨_, _, h, by simp [hc, asBool], (hop x).1, (hop x).2, fun K' h => h⟩
  case load t x =>
    obtain ⟨av, u, h1, h2, h3, h4, h5⟩ := loadAt_sound hT hI (hop x).1 (hop x).2 h
    exact ⟨av, u, h1, exec_v h2, h3, h4, h5⟩
  case unOp op t x =>
    have hx := (hop x).1
    cases op <;> cases hxv : ρ st.tm x <;> rw [hxv] at h hx <;> simp only at h ⊢
    case neg.int k n =>
      have hx := int_of_rep hx
      exact ⟨_, .int k (subW k 0 n), h, exec_v (by simp [hx, Op.unary, Op.intArith, subW]), by simp [TRep], by simp [tagsOf], fun K' h => h⟩
    case not.bool b =>
      simp only [TRep] at hx
      exact ⟨_, .bool (!b), h, exec_v (by simp [hx, Op.unary]), by simp [TRep], by simp [tagsOf], fun K' h => h⟩
  case convert src dst x =>
    have hx := (hop x).1
    cases hs : (ti T src).k <;> cases hd : (ti T dst).k <;> cases hxv : ρ st.tm x <;> rw [hs, hd, hxv] at h <;> rw [hxv] at hx <;> simp only at h ⊢
    case int.int.int k k' k2 n =>
      have hx := int_of_rep hx
      refine ⟨_, .int k' (k'.wrap n), h, exec_v ?_, by simp [TRep], by simp [tagsOf], fun K' h => h⟩
      simp [convert, run_underlying (hT.u_int hs), run_underlying (hT.u_int hd), hx, Conv.intToInt]
    case str.str.str s =>
      simp only [TRep] at hx
      refine ⟨_, .string s, h, exec_v ?_, by simp [TRep], by simp [tagsOf], fun K' h => h⟩
      simp [convert, run_underlying (hT.u_str hs), run_underlying (hT.u_str hd), hx]
  case lookup t x k ok =>
    obtain ⟨av, v, h1, h2, h3, h4, h5⟩ := lookAV_sound hT hE hI (hop x).1 (hop k).1 h
    exact ⟨av, v, h1, exec_v h2, h3, h4, h5⟩
  case makeInterface t x =>
    have hu : ∃ d, P.underlying t = some d ∧ ∀ ms, d ≠ .interface ms := by
      by_cases ho' : (ti T t).k = .other
      · rw [ho'] at h; exact h.elim
      · obtain ⟨d, hd, hk⟩ := hT.under ho'
        refine ⟨d, hd, fun ms e => ?_⟩
        rw [e] at hk
        have : (ti T t).k = .iface := hk
        rw [this] at h
        exact h
    obtain ⟨d, hd, hni⟩ := hu
    have hrun : (Instr.makeInterface t (a.eval x)).run P w = .ok (.iface t (a.eval x)) w := by
      unfold Instr.makeInterface
      simp only [Sem.run_bind, run_underlying hd, Result.andThen_ok]
      cases d <;> first | rfl | exact absurd rfl (hni _)
    have h' : K (.iface t (ρ st.tm x)) := by split at h <;> first | exact h.elim | exact h
    refine ⟨_, _, h', exec_v hrun, by simp only [TRep]; exact ⟨_, rfl, (hop x).1⟩, fun t ht => (hop x).2 t (by simpa [tagsOf] using ht), fun K' hK' => ?_⟩
    split at h <;> first | exact h.elim | exact hK'
  case extract x i =>
    have hx := hop x
    cases hxv : ρ st.tm x <;> rw [hxv] at h hx <;> simp only at h ⊢
    case tup vs =>
      have h1 := hx.1
      simp only [TRep] at h1
      obtain ⟨us, hu, hr⟩ := h1
      cases hc : vs[i]? with
      | none => simp [hc] at h
      | some c =>
        obtain ⟨v, hv, hrv⟩ := hr.get hc
        rw [hc] at h
        simp only at h ⊢
        refine ⟨c, v, h, exec_v ?_, hrv, fun t ht => hx.2 t (by simp only [tagsOf]; exact tagsOfs_get hc t ht), fun K' h => h⟩
        have : us.toArray[i]? = some v := by simpa using hv
        simp [Instr.extract, hu, this]
  case nilCheck x =>
    have hx := hop x
    cases hxv : ρ st.tm x <;> rw [hxv] at h hx <;> simp only at h ⊢
    case ptr j o' =>
      have h1 := hx.1
      simp only [TRep] at h1
      exact ⟨_, _, h, by rw [h1.2]; rfl, by simpa only [TRep, and_true] using h1.1, hx.2, fun K' h => h⟩
    case rp cs o' =>
      obtain ⟨h1, h3⟩ := hx
      simp only [TRep] at h1
      generalize a.eval x = v at h1 ⊢
      cases h1 with
      | rp b o1 _ _ vs hb hc h1 hr => exact ⟨_, _, h, rfl, by simp only [TRep]; exact .rp b o1 _ _ vs hb hc h1 hr, h3, fun K' h => h⟩
    case obj j o' =>
      obtain ⟨h1, h3⟩ := hx
      simp only [TRep] at h1
      generalize a.eval x = v at h1 ⊢
      cases h1 with
      | obj _ b _ hj => exact ⟨_, _, h, rfl, by simp only [TRep]; exact .obj _ b _ hj, h3, fun K' h => h⟩
    case he j k0 i0 o' =>
      obtain ⟨h1, h3⟩ := hx
      simp only [TRep] at h1
      generalize a.eval x = v at h1 ⊢
      cases h1 with
      | he _ b _ _ _ hj => exact ⟨_, _, h, rfl, by simp only [TRep]; exact .he _ b _ _ _ hj, h3, fun K' h => h⟩
    case fn f c =>
      obtain ⟨h1, h3⟩ := hx
      simp only [TRep] at h1
      generalize a.eval x = v at h1 ⊢
      cases h1 with
      | fn _ _ vs hl hr => exact ⟨_, _, h, rfl, by simp only [TRep]; exact .fn _ _ vs hl hr, h3, fun K' h => h⟩
  case makeFunc fn first cap =>
    cases fn <;> cases hf : first.toList <;> cases hc : cap.toList <;> rw [hf, hc] at h <;> simp only at h ⊢
    case func.nil.nil f =>
      have hf' : first = #[] := by simpa using hf
      have hc' : cap = #[] := by simpa using hc
      subst hf'
      subst hc'
      exact ⟨_, .func (.func f) #[] #[], h, exec_v (by simp [Instr.makeFunc]), by simp only [TRep]; exact .fn f [] [] rfl (by simp), by simp [tagsOf], fun K' h => h⟩
  case fieldAddr s x f =>
    have hx := hop x
    cases hk : (ti T s).k <;> rw [hk] at h <;> simp only at h ⊢
    case struct fs =>
      obtain ⟨fa, hu, hfs⟩ := hT.u_struct hk
      cases hf : fs[f]? with
      | none => simp [hf] at h
      | some p =>
        obtain ⟨off, ft⟩ := p
        rw [hf] at h
        simp only at h ⊢
        have hfa : ∃ fd : Field, fa[f]? = some fd ∧ fd.offset = off ∧ fd.type = ft := by
          rw [hfs] at hf
          simp only [List.getElem?_map, Option.map_eq_some_iff, Array.getElem?_toList] at hf
          obtain ⟨fd, h1, h2⟩ := hf
          simp only [Prod.mk.injEq] at h2
          exact ⟨fd, h1, h2.1, h2.2⟩
        obtain ⟨fd, hfd, rfl, rfl⟩ := hfa
        cases hsz : Nat.blt 0 (ti T fd.type).size <;> rw [hsz] at h <;> simp only [G, cond_false, cond_true] at h ⊢
        have hpos : 0 < (ti T fd.type).size := Nat.le_of_ble_eq_true hsz
        have run : ∀ b o', (Instr.fieldAt s (.pointer (some ⟨b, o', none⟩)) f).run P w = .ok (.pointer (some ⟨b, o' + fd.offset, none⟩)) w := by
          intro b o'
          simp only [Instr.fieldAt, Sem.run_bind, run_underlying hu, Result.andThen_ok, hfd, Instr.sureAddr, Sem.run_pure, fieldPlace, hT.size_pos hpos, Nat.ne_of_gt hpos, if_false, add_plain]
        cases hxv : ρ st.tm x <;> rw [hxv] at h hx <;> simp only at h ⊢
        case ptr j o' =>
          have h1 := hx.1
          simp only [TRep] at h1
          exact ⟨_, .pointer (some ⟨l.loc j, o' + fd.offset, none⟩), h, exec_v (by rw [h1.2]; exact run _ _), by simp [TRep, h1.1], by simp [tagsOf], fun K' h => h⟩
        case rp cs o' =>
          have h1 := hx.1
          simp only [TRep] at h1
          generalize a.eval x = v at h1 ⊢
          cases h1 with
          | rp b o1 _ _ vs hb hc h1 hr => exact ⟨_, _, h, exec_v (run _ _), by simp only [TRep]; rw [Nat.add_assoc]; exact .rp b o1 _ _ vs hb hc h1 hr, by simp [tagsOf], fun K' h => h⟩
        case obj j o' =>
          have h1 := hx.1
          simp only [TRep] at h1
          generalize a.eval x = v at h1 ⊢
          cases h1 with
          | obj _ b _ hj => exact ⟨_, _, h, exec_v (run _ _), by simp only [TRep]; exact .obj _ b _ hj, by simp [tagsOf], fun K' h => h⟩
        case he j k0 i0 o' =>
          have h1 := hx.1
          simp only [TRep] at h1
          generalize a.eval x = v at h1 ⊢
          cases h1 with
          | he _ b _ _ _ hj =>
            refine ⟨_, .pointer (some ⟨b, i0 * k0 + (o' + fd.offset), none⟩), h, exec_v (by rw [run, Nat.add_assoc]), ?_, by simp [tagsOf], fun K' h => h⟩
            simp only [TRep]
            exact .he _ b _ _ _ hj
        case ep t k i o' xs =>
          have h1 := hx.1
          simp only [TRep] at h1
          obtain ⟨e1, e2, h0, hi, b, m, c, hv, hp⟩ := h1
          refine ⟨_, .pointer (some ⟨b, i * k + (o' + fd.offset), none⟩), h, exec_v (by rw [hp, run, Nat.add_assoc]), ?_, hx.2, fun K' h => h⟩
          simp only [TRep]
          exact ⟨e1, e2, h0, hi, b, m, c, hv, rfl⟩
  case field s x f =>
    have hx := hop x
    cases hk : (ti T s).k <;> cases hxv : ρ st.tm x <;> rw [hk, hxv] at h <;> rw [hxv] at hx <;> simp only at h ⊢
    case struct.agg fs cs =>
      obtain ⟨fa, hu, hfs⟩ := hT.u_struct hk
      cases hf : fs[f]? with
      | none => simp [hf] at h
      | some p =>
        obtain ⟨off, ft⟩ := p
        rw [hf] at h
        simp only at h ⊢
        have hfa : ∃ fd : Field, fa[f]? = some fd ∧ fd.offset = off ∧ fd.type = ft := by
          rw [hfs] at hf
          simp only [List.getElem?_map, Option.map_eq_some_iff, Array.getElem?_toList] at hf
          obtain ⟨fd, h1, h2⟩ := hf
          simp only [Prod.mk.injEq] at h2
          exact ⟨fd, h1, h2.1, h2.2⟩
        obtain ⟨fd, hfd, rfl, rfl⟩ := hfa
        have h1 := hx.1
        simp only [TRep] at h1
        obtain ⟨vs, hv, hr⟩ := h1
        obtain ⟨av, u, k1, k2, k3, k4, k5⟩ := part_sound (P := P) hT hr h
        refine ⟨av, u, k1, exec_v ?_, k3, fun t ht => hx.2 t (by simpa [tagsOf] using k4 t ht), k5⟩
        simp only [Instr.field, Sem.run_bind, run_underlying hu, Result.andThen_ok, hfd, hv, asAgg, Sem.run_pure, k2]
  case slice t x lo hi mx => exact absurd ho (hl t x lo hi mx)
  case indexAddr t x ix =>
    have hx := hop x
    have hi := (hop ix).1
    cases hiv : ρ st.tm ix <;> rw [hiv] at h hi <;> simp only at h ⊢
    case int ki i =>
      have hi := int_of_rep hi
      cases hk : (ti T t).k <;> cases hxv : ρ st.tm x <;> rw [hk, hxv] at h <;> rw [hxv] at hx <;> simp only at h ⊢
      case slice.sl e tg k xs =>
        have hu := hT.u_slice hk
        cases h1 : Nat.beq k (ti T e).size <;> rw [h1] at h <;> simp only [G, cond_false, cond_true] at h ⊢
        cases h4 : Nat.blt 0 k <;> rw [h4] at h <;> simp only [cond_false, cond_true] at h ⊢
        cases h2 : leI 0 i <;> rw [h2] at h <;> simp only [cond_false, cond_true] at h ⊢
        cases h3 : ltI i (lenI xs) <;> rw [h3] at h <;> simp only [cond_false, cond_true] at h ⊢
        have e1 : k = (ti T e).size := Nat.eq_of_beq_eq_true h1
        have e2 : 0 ≤ i := of_decide_eq_true h2
        have e3 : i < (xs.length : Int) := of_decide_eq_true h3
        have e4 : 0 < k := Nat.le_of_ble_eq_true h4
        have hn : i.toNat < xs.length := by omega
        have run : ∀ b o' c, (Instr.indexAt t (.slice (some ⟨b, o', none⟩) xs.length c) (.int ki i)).run P w = .ok (.pointer (some ⟨b, o' + i.toNat * k, none⟩)) w := by
          intro b o' c
          have hsz := hT.size_pos (P := P) (t := e) (by omega) w
          simp only [Instr.indexAt, asIntOf, Sem.run_bind, Sem.run_pure, Result.andThen_ok, run_underlying hu]
          rw [if_pos ⟨e2, by omega⟩]
          simp [hsz, add_plain, e1]
        have h1' := hx.1
        have hget : xs[i.toNat]? = some (xs.getD i.toNat []) := by rw [List.getD_eq_getElem?_getD, List.getElem?_eq_getElem hn]; rfl
        cases tg with
        | zero =>
          simp only at h ⊢
          simp only [TRep] at h1'
          generalize a.eval x = v at h1' ⊢
          cases h1' with
          | sl0 A c k => simp at hn
          | sl b o1 c _ _ vs hb hn' hm hkk hc h1 hr =>
            refine ⟨_, _, h, exec_v (by rw [hi]; exact run _ _ _), ?_, by simp [tagsOf], fun K' h => h⟩
            simp only [TRep]
            have hlen : (xs.getD i.toNat []).length = k := hkk _ (List.mem_of_getElem? hget)
            exact .rp b (o1 + i.toNat * k) 0 _ (vs i.toNat) hb (fun j hj => by
              have := hc i.toNat j hn (by omega)
              rwa [← Nat.add_assoc] at this) (fun j hj => h1 _ _ hn (by omega)) fun j c hj => hr i.toNat _ j c hget hj
        | succ tg =>
          simp only at h ⊢
          simp only [TRep] at h1'
          obtain ⟨q1, q2, q3⟩ := h1'
          have hin := hx.2 (tg + 1) (by simp [tagsOf, Nat.beq])
          rcases (hI.own _ hin).parts with ⟨p1, p2⟩ | ⟨b, c, vs, hv, _, hlt, hn', hm, hc, h1, hr⟩
          · rw [q2, p2] at hn; simp at hn
          · refine ⟨_, .pointer (some ⟨b, i.toNat * k + 0, none⟩), h, exec_v (by rw [hi, q1, hv, ← q2, run]; simp), ?_, fun t ht => by simp [tagsOf] at ht; subst ht; exact hin, fun K' h => h⟩
            simp only [TRep]
            exact ⟨q2, q3, by omega, hn, b, _, c, hv, rfl⟩
      case slice.hs e j o' n m k =>
        have hu := hT.u_slice hk
        cases h1 : Nat.beq k (ti T e).size <;> rw [h1] at h <;> simp only [G, cond_false, cond_true] at h ⊢
        cases h4 : Nat.blt 0 k <;> rw [h4] at h <;> simp only [cond_false, cond_true] at h ⊢
        cases h2 : leI 0 i <;> rw [h2] at h <;> simp only [cond_false, cond_true] at h ⊢
        cases h3 : ltI i n <;> rw [h3] at h <;> simp only [cond_false, cond_true] at h ⊢
        have e1 : k = (ti T e).size := Nat.eq_of_beq_eq_true h1
        have e2 : 0 ≤ i := of_decide_eq_true h2
        have e3 : i < (n : Int) := of_decide_eq_true h3
        have e4 : 0 < k := Nat.le_of_ble_eq_true h4
        have h1' := hx.1
        simp only [TRep] at h1'
        generalize a.eval x = v at h1' ⊢
        cases h1' with
        | hs _ b _ _ _ _ q hj hn hm hq =>
          have hq : q = o' * k := by rcases hq with hq | hq <;> omega
          subst hq
          refine ⟨_, .pointer (some ⟨b, (o' + i.toNat) * k + 0, none⟩), h, exec_v ?_, ?_, by simp [tagsOf], fun K' h => h⟩
          · have hsz := hT.size_pos (P := P) (t := e) (by omega) w
            rw [hi]
            simp only [Instr.indexAt, asIntOf, Sem.run_bind, Sem.run_pure, Result.andThen_ok, run_underlying hu]
            rw [if_pos ⟨e2, by omega⟩]
            simp [hsz, add_plain, ← e1, Nat.add_mul]
          · simp only [TRep]
            exact .he _ b _ _ _ hj
      case array.obj n e j o' =>
        have hu := hT.u_array hk
        cases h4 : Nat.blt 0 (ti T e).size <;> rw [h4] at h <;> simp only [G, cond_false, cond_true] at h ⊢
        cases h2 : leI 0 i <;> rw [h2] at h <;> simp only [cond_false, cond_true] at h ⊢
        cases h3 : ltI i n <;> rw [h3] at h <;> simp only [cond_false, cond_true] at h ⊢
        have e2 : 0 ≤ i := of_decide_eq_true h2
        have e3 : i < (n : Int) := of_decide_eq_true h3
        have e4 : 0 < (ti T e).size := Nat.le_of_ble_eq_true h4
        have h1' := hx.1
        simp only [TRep] at h1'
        generalize a.eval x = v at h1' ⊢
        cases h1' with
        | obj _ b _ hj =>
          refine ⟨_, .pointer (some ⟨b, o' + i.toNat * (ti T e).size, none⟩), h, exec_v ?_, by simp only [TRep]; exact .obj _ b _ hj, by simp [tagsOf], fun K' h => h⟩
          have hsz := hT.size_pos (P := P) (t := e) e4 w
          rw [hi]
          simp only [Instr.indexAt, asIntOf, Sem.run_bind, Sem.run_pure, Result.andThen_ok, run_underlying hu, Instr.sureAddr]
          rw [if_pos ⟨e2, e3⟩]
          simp [hsz, add_plain]
      case array.he n e j k q o' =>
        have hu := hT.u_array hk
        cases h4 : Nat.blt 0 (ti T e).size <;> rw [h4] at h <;> simp only [G, cond_false, cond_true] at h ⊢
        cases h2 : leI 0 i <;> rw [h2] at h <;> simp only [cond_false, cond_true] at h ⊢
        cases h3 : ltI i n <;> rw [h3] at h <;> simp only [cond_false, cond_true] at h ⊢
        have e2 : 0 ≤ i := of_decide_eq_true h2
        have e3 : i < (n : Int) := of_decide_eq_true h3
        have e4 : 0 < (ti T e).size := Nat.le_of_ble_eq_true h4
        have h1' := hx.1
        simp only [TRep] at h1'
        generalize a.eval x = v at h1' ⊢
        cases h1' with
        | he _ b _ _ _ hj =>
          refine ⟨_, .pointer (some ⟨b, q * k + (o' + i.toNat * (ti T e).size), none⟩), h, exec_v ?_, by simp only [TRep]; exact .he _ b _ _ _ hj, by simp [tagsOf], fun K' h => h⟩
          have hsz := hT.size_pos (P := P) (t := e) e4 w
          rw [hi]
          simp only [Instr.indexAt, asIntOf, Sem.run_bind, Sem.run_pure, Result.andThen_ok, run_underlying hu, Instr.sureAddr]
          rw [if_pos ⟨e2, e3⟩]
          simp [hsz, add_plain, Nat.add_assoc]
      case array.ptr n e j o' =>
        have hu := hT.u_array hk
        cases h4 : Nat.blt 0 (ti T e).size <;> rw [h4] at h <;> simp only [G, cond_false, cond_true] at h ⊢
        cases h2 : leI 0 i <;> rw [h2] at h <;> simp only [cond_false, cond_true] at h ⊢
        cases h3 : ltI i n <;> rw [h3] at h <;> simp only [cond_false, cond_true] at h ⊢
        have e2 : 0 ≤ i := of_decide_eq_true h2
        have e3 : i < (n : Int) := of_decide_eq_true h3
        have e4 : 0 < (ti T e).size := Nat.le_of_ble_eq_true h4
        have run : ∀ b o', (Instr.indexAt t (.pointer (some ⟨b, o', none⟩)) (.int ki i)).run P w = .ok (.pointer (some ⟨b, o' + i.toNat * (ti T e).size, none⟩)) w := by
          intro b o'
          have hsz := hT.size_pos (P := P) (t := e) e4 w
          simp only [Instr.indexAt, asIntOf, Sem.run_bind, Sem.run_pure, Result.andThen_ok, run_underlying hu, Instr.sureAddr]
          rw [if_pos ⟨e2, e3⟩]
          simp [hsz, add_plain]
        have h1' := hx.1
        simp only [TRep] at h1'
        exact ⟨_, .pointer (some ⟨l.loc j, o' + i.toNat * (ti T e).size, none⟩), h, exec_v (by rw [hi, h1'.2]; exact run _ _), by simp [TRep, h1'.1], by simp [tagsOf], fun K' h => h⟩
      case array.rp n e cs o' =>
        have hu := hT.u_array hk
        cases h4 : Nat.blt 0 (ti T e).size <;> rw [h4] at h <;> simp only [G, cond_false, cond_true] at h ⊢
        cases h2 : leI 0 i <;> rw [h2] at h <;> simp only [cond_false, cond_true] at h ⊢
        cases h3 : ltI i n <;> rw [h3] at h <;> simp only [cond_false, cond_true] at h ⊢
        have e2 : 0 ≤ i := of_decide_eq_true h2
        have e3 : i < (n : Int) := of_decide_eq_true h3
        have e4 : 0 < (ti T e).size := Nat.le_of_ble_eq_true h4
        have run : ∀ b o', (Instr.indexAt t (.pointer (some ⟨b, o', none⟩)) (.int ki i)).run P w = .ok (.pointer (some ⟨b, o' + i.toNat * (ti T e).size, none⟩)) w := by
          intro b o'
          have hsz := hT.size_pos (P := P) (t := e) e4 w
          simp only [Instr.indexAt, asIntOf, Sem.run_bind, Sem.run_pure, Result.andThen_ok, run_underlying hu, Instr.sureAddr]
          rw [if_pos ⟨e2, e3⟩]
          simp [hsz, add_plain]
        have h1' := hx.1
        simp only [TRep] at h1'
        generalize a.eval x = v at h1' ⊢
        cases h1' with
        | rp b o1 _ _ vs hb hc h1 hr => exact ⟨_, _, h, exec_v (by rw [hi]; exact run _ _), by simp only [TRep]; rw [Nat.add_assoc]; exact .rp b o1 _ _ vs hb hc h1 hr, by simp [tagsOf], fun K' h => h⟩
      case array.ep n e tg k q o' xs =>
        have hu := hT.u_array hk
        cases h4 : Nat.blt 0 (ti T e).size <;> rw [h4] at h <;> simp only [G, cond_false, cond_true] at h ⊢
        cases h2 : leI 0 i <;> rw [h2] at h <;> simp only [cond_false, cond_true] at h ⊢
        cases h3 : ltI i n <;> rw [h3] at h <;> simp only [cond_false, cond_true] at h ⊢
        have e2 : 0 ≤ i := of_decide_eq_true h2
        have e3 : i < (n : Int) := of_decide_eq_true h3
        have e4 : 0 < (ti T e).size := Nat.le_of_ble_eq_true h4
        have run : ∀ b o', (Instr.indexAt t (.pointer (some ⟨b, o', none⟩)) (.int ki i)).run P w = .ok (.pointer (some ⟨b, o' + i.toNat * (ti T e).size, none⟩)) w := by
          intro b o'
          have hsz := hT.size_pos (P := P) (t := e) e4 w
          simp only [Instr.indexAt, asIntOf, Sem.run_bind, Sem.run_pure, Result.andThen_ok, run_underlying hu, Instr.sureAddr]
          rw [if_pos ⟨e2, e3⟩]
          simp [hsz, add_plain]
        have h1' := hx.1
        simp only [TRep] at h1'
        obtain ⟨q1, q2, h0, hq, b, m, c, hv, hp⟩ := h1'
        refine ⟨_, .pointer (some ⟨b, q * k + (o' + i.toNat * (ti T e).size), none⟩), h, exec_v (by rw [hi, hp, run, Nat.add_assoc]), ?_, hx.2, fun K' h => h⟩
        simp only [TRep]
        exact ⟨q1, q2, h0, hq, b, m, c, hv, rfl⟩
  case index t x ix =>
    have hx := hop x
    have hi := (hop ix).1
    cases hiv : ρ st.tm ix <;> rw [hiv] at h hi <;> simp only at h ⊢
    case int ki i =>
      have hi := int_of_rep hi
      cases hk : (ti T t).k <;> cases hxv : ρ st.tm x <;> rw [hk, hxv] at h <;> rw [hxv] at hx <;> simp only at h ⊢
      case str.str s =>
        have hu := hT.u_str hk
        simp only [G] at h ⊢
        cases h2 : leI 0 i <;> rw [h2] at h <;> simp only [cond_false, cond_true] at h ⊢
        cases h3 : ltI i (sizeI s) <;> rw [h3] at h <;> simp only [cond_false, cond_true] at h ⊢
        have e2 : 0 ≤ i := of_decide_eq_true h2
        have e3 : i < (s.size : Int) := of_decide_eq_true h3
        have h1 := hx.1
        simp only [TRep] at h1
        have hn : i.toNat < s.size := by omega
        have hn' : i.toNat < s.data.toList.length := by rw [Array.length_toList]; exact hn
        refine ⟨_, .int .u8 (bt s i), h, exec_v ?_, by simp [TRep], by simp [tagsOf], fun K' h => h⟩
        have hb : s[i.toNat]? = some (s[i.toNat]'hn) := by simp [hn]
        simp only [Instr.index, hi, h1, asIntOf, Sem.run_bind, Sem.run_pure, Result.andThen_ok, run_underlying hu, e2, if_true, hb]
        simp [bt, List.getD_eq_getElem?_getD, hn]
        rfl
      case array.agg n e cs =>
        have hu := hT.u_array hk
        cases h4 : Nat.blt 0 (ti T e).size <;> rw [h4] at h <;> simp only [G, cond_false, cond_true] at h ⊢
        cases h2 : leI 0 i <;> rw [h2] at h <;> simp only [cond_false, cond_true] at h ⊢
        cases h3 : ltI i n <;> rw [h3] at h <;> simp only [cond_false, cond_true] at h ⊢
        have e2 : 0 ≤ i := of_decide_eq_true h2
        have e3 : i < (n : Int) := of_decide_eq_true h3
        have e4 : 0 < (ti T e).size := Nat.le_of_ble_eq_true h4
        have h1 := hx.1
        simp only [TRep] at h1
        obtain ⟨vs, hv, hr⟩ := h1
        obtain ⟨av, u, k1, k2, k3, k4, k5⟩ := part_sound (P := P) hT hr h
        refine ⟨av, u, k1, exec_v ?_, k3, fun t ht => hx.2 t (by simpa [tagsOf] using k4 t ht), k5⟩
        have hsz := hT.size_pos (P := P) (t := e) e4 w
        simp only [Instr.index, hi, hv, asIntOf, Sem.run_bind, Sem.run_pure, Result.andThen_ok, run_underlying hu]
        rw [if_pos ⟨e2, e3⟩]
        simp [hsz, k2]
  case call c =>
    obtain ⟨ce, cargs, ctypes⟩ := c
    cases ce <;> simp only at h ⊢
    case builtin b =>
      cases b <;> try simp only at h ⊢
      case len =>
        cases ha : cargs.toList with
        | nil => simp [ha] at h
        | cons x r =>
          cases r with
          | cons y r => simp [ha] at h
          | nil =>
            cases ht : ctypes.toList with
            | nil => simp [ha, ht] at h
            | cons t r =>
              cases r with
              | cons y r => simp [ha, ht] at h
              | nil =>
                rw [ha, ht] at h
                simp only at h ⊢
                obtain rfl : cargs = #[x] := by apply Array.ext'; simpa using ha
                obtain rfl : ctypes = #[t] := by apply Array.ext'; simpa using ht
                have hx := hop x
                have run : ∀ (v : Value), (Builtin.len_ #[t] o.type #[a.eval x]).run P w = .ok v w → (do let d ← resolve a.eval { callee := .builtin .len, args := #[x], argTypes := #[t] } o.type; invoke d.target d.args : Sem Next).run P w = .ok (.value v) w := by
                  intro v hv
                  simp [resolve, invoke, builtin, hv]
                cases hk : (ti T t).k <;> rw [hk] at h <;> try simp only at h ⊢
                case str =>
                  cases hxv : ρ st.tm x <;> rw [hxv] at h hx <;> simp only at h ⊢
                  case str s =>
                    have h1 := hx.1
                    simp only [TRep] at h1
                    exact ⟨_, .int .i64 (sizeI s), h, run _ (by simp [Builtin.len_, run_underlying (hT.u_str hk), h1, goInt, sizeI]), by simp [TRep], by simp [tagsOf], fun K' h => h⟩
                case map kt vt =>
                  cases hxv : ρ st.tm x <;> rw [hxv] at h hx <;> simp only at h ⊢ <;> try exact h.elim
                  case map j =>
                    obtain ⟨q1, h⟩ := G_out h
                    obtain ⟨es, c, he⟩ := isMap_eq q1
                    have h1 := hx.1
                    simp only [TRep] at h1
                    generalize hv : a.eval x = v at h1 run
                    cases h1 with
                    | map _ b ho =>
                      obtain ⟨_, vs, hh, hl, _⟩ := hI.heap.map ho he
                      refine ⟨_, .int .i64 (lenI (st.H.get j).es), h, run _ ?_, by simp [TRep], by simp [tagsOf], fun K' h => G_in q1 h⟩
                      simp [Builtin.len_, run_underlying (hT.u_map hk), MapKept.run_getObj_map hh, goInt, he, HB.es, lenI, hl]
                case slice e =>
                  cases hxv : ρ st.tm x <;> rw [hxv] at h hx <;> simp only at h ⊢
                  case nilsl =>
                    have h1 := hx.1
                    simp only [TRep] at h1
                    exact ⟨_, .int .i64 0, h, run _ (by simp [Builtin.len_, run_underlying (hT.u_slice hk), h1, goInt]), by simp [TRep], by simp [tagsOf], fun K' h => h⟩
                  case sl tg k xs =>
                    have hv : ∃ A c, a.eval x = .slice A xs.length c := by
                      obtain ⟨h1, h2⟩ := hx
                      cases tg with
                      | zero =>
                        simp only [TRep] at h1
                        generalize a.eval x = v at h1 ⊢
                        cases h1 with
                        | sl0 A c k => exact ⟨_, _, rfl⟩
                        | sl b o1 c _ _ vs hb hn' hm hkk hc h1 hr => exact ⟨_, _, rfl⟩
                      | succ tg =>
                        simp only [TRep] at h1
                        obtain ⟨q1, q2, q3⟩ := h1
                        rcases (hI.own _ (h2 (tg + 1) (by simp [tagsOf, Nat.beq]))).parts with ⟨p1, p2⟩ | ⟨b, c, vs, hv, _⟩
                        · rw [q1, q2, p1, p2]; exact ⟨_, _, rfl⟩
                        · rw [q1, q2, hv]; exact ⟨_, _, rfl⟩
                    obtain ⟨A, c, hv⟩ := hv
                    exact ⟨_, .int .i64 (lenI xs), h, run _ (by simp [Builtin.len_, run_underlying (hT.u_slice hk), hv, goInt, lenI]), by simp [TRep], by simp [tagsOf], fun K' h => h⟩
                  case hs j o' n m k =>
                    have h1 := hx.1
                    simp only [TRep] at h1
                    generalize a.eval x = v at h1 run ⊢
                    cases h1 with
                    | hs _ b _ _ _ _ q hj hn hm hq => exact ⟨_, .int .i64 n, h, run _ (by simp [Builtin.len_, run_underlying (hT.u_slice hk), goInt]), by simp [TRep], by simp [tagsOf], fun K' h => h⟩
                case array n e =>
                  exact ⟨_, .int .i64 n, h, run _ (by simp [Builtin.len_, run_underlying (hT.u_array hk), goInt]), by simp [TRep], by simp [tagsOf], fun K' h => h⟩
      case cap =>
        cases ha : cargs.toList with
        | nil => simp [ha] at h
        | cons x r =>
          cases r with
          | cons y r => simp [ha] at h
          | nil =>
            cases ht : ctypes.toList with
            | nil => simp [ha, ht] at h
            | cons t r =>
              cases r with
              | cons y r => simp [ha, ht] at h
              | nil =>
                rw [ha, ht] at h
                simp only at h ⊢
                obtain rfl : cargs = #[x] := by apply Array.ext'; simpa using ha
                obtain rfl : ctypes = #[t] := by apply Array.ext'; simpa using ht
                have hx := hop x
                have run : ∀ (v : Value), (Builtin.cap_ #[t] o.type #[a.eval x]).run P w = .ok v w → (do let d ← resolve a.eval { callee := .builtin .cap, args := #[x], argTypes := #[t] } o.type; invoke d.target d.args : Sem Next).run P w = .ok (.value v) w := by
                  intro v hv
                  simp [resolve, invoke, builtin, hv]
                cases hk : (ti T t).k <;> rw [hk] at h <;> try simp only at h ⊢
                case slice e =>
                  cases hxv : ρ st.tm x <;> rw [hxv] at h hx <;> simp only at h ⊢
                  case nilsl =>
                    have h1 := hx.1
                    simp only [TRep] at h1
                    exact ⟨_, .int .i64 0, h, run _ (by simp [Builtin.cap_, run_underlying (hT.u_slice hk), h1, goInt]), by simp [TRep], by simp [tagsOf], fun K' h => h⟩
                  case hs j o' n m k =>
                    have h1 := hx.1
                    simp only [TRep] at h1
                    generalize a.eval x = v at h1 run ⊢
                    cases h1 with
                    | hs _ b _ _ _ _ q hj hn hm hq => exact ⟨_, .int .i64 m, h, run _ (by simp [Builtin.cap_, run_underlying (hT.u_slice hk), goInt]), by simp [TRep], by simp [tagsOf], fun K' h => h⟩
      case max =>
        cases ha : cargs.toList with
        | nil => simp [ha] at h
        | cons x r =>
          cases r with
          | nil => simp [ha] at h
          | cons y r =>
            cases r with
            | cons z r => simp [ha] at h
            | nil =>
              obtain rfl : cargs = #[x, y] := by apply Array.ext'; simpa using ha
              have hx := (hop x).1
              have hy := (hop y).1
              simp only [List.map_cons, List.map_nil] at h ⊢
              cases hxv : ρ st.tm x <;> cases hyv : ρ st.tm y <;> rw [hxv, hyv] at h <;> rw [hxv] at hx <;> rw [hyv] at hy <;> simp only at h ⊢
              case int.int k a' k' b' =>
                have hx := int_of_rep hx
                have hy := int_of_rep hy
                cases hkk : decide (k = k') <;> rw [hkk] at h <;> simp only [G, cond_false, cond_true] at h ⊢
                have e := of_decide_eq_true hkk
                subst e
                refine ⟨_, .int k (cond (ltI a' b') b' a'), h, ?_, by simp [TRep], by simp [tagsOf], fun K' h => h⟩
                simp [resolve, invoke, builtin, Builtin.max_, hx, hy, Builtin.max2, ltI, Bool.cond_eq_ite]
      case min =>
        cases ha : cargs.toList with
        | nil => simp [ha] at h
        | cons x r =>
          cases r with
          | nil => simp [ha] at h
          | cons y r =>
            cases r with
            | cons z r => simp [ha] at h
            | nil =>
              obtain rfl : cargs = #[x, y] := by apply Array.ext'; simpa using ha
              have hx := (hop x).1
              have hy := (hop y).1
              simp only [List.map_cons, List.map_nil] at h ⊢
              cases hxv : ρ st.tm x <;> cases hyv : ρ st.tm y <;> rw [hxv, hyv] at h <;> rw [hxv] at hx <;> rw [hyv] at hy <;> simp only at h ⊢
              case int.int k a' k' b' =>
                have hx := int_of_rep hx
                have hy := int_of_rep hy
                cases hkk : decide (k = k') <;> rw [hkk] at h <;> simp only [G, cond_false, cond_true] at h ⊢
                have e := of_decide_eq_true hkk
                subst e
                refine ⟨_, .int k (cond (ltI b' a') b' a'), h, ?_, by simp [TRep], by simp [tagsOf], fun K' h => h⟩
                simp [resolve, invoke, builtin, Builtin.min_, hx, hy, Builtin.min2, ltI, Bool.cond_eq_ite]
  case binOp op t x y yt =>
    have hx := hop x
    have hy := hop y
    obtain ⟨av, v, k1, k2, k3, k4, k5, k6⟩ := bin_sound (P := P) hT hE hx.1 hy.1 h
    exact ⟨av, v, k1, exec_v (by simp [k2, k3]), k4, by simp [k5], k6⟩
end
end Go.Proofs.YtgmkkjmdflhbnaaDoor.Ab
end
section
namespace Go.Proofs.YtgmkkjmdflhbnaaDoor.Ab
open Go
section
variable {P : Program} {T : List TI} {w0 : World} {g0 g : Gs} {l : Gl} {w : World} {st : St} {a : Act} {K : AV → Prop}
theorem bound_out {r : Operand → AV} {o : Option Operand} {d : Int} {K : Int → Prop} (hr : ∀ y k i, r y = .int k i → a.eval y = .int k i) (h : boundI o r d K) :
    ∃ i, K i ∧ (o = none ∧ i = d ∨ ∃ x k, o = some x ∧ a.eval x = .int k i) := by
  cases o with
  | none => exact ⟨d, h, .inl ⟨rfl, rfl⟩⟩
  | some x =>
    simp only [boundI] at h
    cases hv : r x <;> rw [hv] at h <;> simp only at h
    case int k i => exact ⟨i, h, .inr ⟨x, k, rfl, hr x k i hv⟩⟩
theorem run_bound {x : Value} {k : IntKind} {i : Int} {y : Nat} {c : BoundsCode} (hx : x = .int k i) (h0 : 0 ≤ i) (h1 : i ≤ y) : (Instr.sliceBound x y c).run P w = .ok i.toNat w := by
  subst hx
  simp [Instr.sliceBound, asIntOf, h0, h1]
theorem run_bounds {isSlice : Bool} {len cap : Nat} {lo hi mx : Option Operand} {li hi' mi : Int} (hl : lo = none ∧ li = 0 ∨ ∃ x k, lo = some x ∧ a.eval x = .int k li) (hh : hi = none ∧ hi' = len ∨ ∃ x k, hi = some x ∧ a.eval x = .int k hi')
    (hm : mx = none ∧ mi = hi' ∨ ∃ x k, mx = some x ∧ a.eval x = .int k mi) (hmh : mx.isSome → hi.isSome) (h0 : 0 ≤ li) (h1 : li ≤ hi') (h2 : hi' ≤ mi) (h3 : mi ≤ cap) (h4 : len ≤ cap) :
    ∃ m : Nat, (Instr.sliceBounds isSlice len cap (lo.map a.eval) (hi.map a.eval) (mx.map a.eval)).run P w = .ok (li.toNat, hi'.toNat, m) w ∧ hi'.toNat ≤ m ∧ m ≤ cap := by
  have hlow : ∀ (x : Operand) (k : IntKind) (c : BoundsCode), a.eval x = .int k li → (Instr.sliceBound (a.eval x) hi'.toNat c).run P w = .ok li.toNat w := fun x k c hx => run_bound hx h0 (by omega)
  rcases hm with ⟨rfl, rfl⟩ | ⟨xm, km, rfl, hxm⟩
  · refine ⟨cap, ?_, by omega, Nat.le_refl _⟩
    rcases hh with ⟨rfl, rfl⟩ | ⟨xh, kh, rfl, hxh⟩
    · have e : ((len : Int)).toNat = len := by omega
      rw [e] at hlow ⊢
      rcases hl with ⟨rfl, rfl⟩ | ⟨xl, kl, rfl, hxl⟩
      · simp [Instr.sliceBounds]
      · simp [Instr.sliceBounds, hlow xl kl _ hxl]
    · have hb := fun c => run_bound (P := P) (w := w) (c := c) (y := cap) hxh (by omega) (by omega)
      rcases hl with ⟨rfl, rfl⟩ | ⟨xl, kl, rfl, hxl⟩
      · simp [Instr.sliceBounds, hb]
      · simp [Instr.sliceBounds, hb, hlow xl kl _ hxl]
  · refine ⟨mi.toNat, ?_, by omega, by omega⟩
    rcases hh with ⟨rfl, rfl⟩ | ⟨xh, kh, rfl, hxh⟩
    · simp at hmh
    · have hb := fun c => run_bound (P := P) (w := w) (c := c) (y := mi.toNat) hxh (by omega) (by omega)
      have hbm := fun c => run_bound (P := P) (w := w) (c := c) (y := cap) hxm (by omega) (by omega)
      rcases hl with ⟨rfl, rfl⟩ | ⟨xl, kl, rfl, hxl⟩
      · simp [Instr.sliceBounds, hb, hbm]
      · simp [Instr.sliceBounds, hb, hbm, hlow xl kl _ hxl]
theorem Rep.cut {stb : Nat → Prop} {ob : Nat → Option Nat} {k : Nat} {xs : List (List AV)} {A : Option Addr} {c : Nat} (h : Rep w stb ob (.sl 0 k xs) (.slice A xs.length c)) (i j m : Nat) (hij : i ≤ j) (hj : j ≤ xs.length) (hjm : j ≤ m) (_hm : m ≤ c) (size : Nat) (hk : xs ≠ [] → k = size) :
    Rep w stb ob (.sl 0 k ((xs.take j).drop i)) (.slice (if m = i then A else A.map (·.add (i * size))) (j - i) (m - i)) := by
  have hlen : ((xs.take j).drop i).length = j - i := by simp; omega
  by_cases he : (xs.take j).drop i = []
  · rw [he]
    have : j - i = 0 := by rw [← hlen, he]; rfl
    rw [this]
    exact .sl0 _ _ _
  · have hlt : i < j := by
      rcases Nat.lt_or_ge i j with h | h
      · exact h
      · exact absurd (List.eq_nil_of_length_eq_zero (by omega)) he
    have hne : xs ≠ [] := by intro e; rw [e] at hj; simp at hj; omega
    have hk := hk hne
    subst hk
    rw [if_neg (by omega)]
    generalize hn : xs.length = n at h hj
    cases h with
    | sl0 A c k => simp at hn; omega
    | sl b o c' _ _ vs hb hn' hm' hkk hc h1 hr =>
      simp only [Option.map_some, add_plain]
      have hget : ∀ (q : Nat) (x : List AV), ((xs.take j).drop i)[q]? = some x → xs[i + q]? = some x ∧ i + q < j := by
        intro q x hx
        rw [List.getElem?_drop, List.getElem?_take] at hx
        split at hx
        · exact ⟨hx, by assumption⟩
        · cases hx
      have := Rep.sl (w := w) (stb := stb) (ob := ob) b (o + i * k) (m - i) k ((xs.take j).drop i) (fun q p => vs (i + q) p) hb (by omega) (by rw [hlen]; omega) (fun x hx => hkk x (List.mem_of_mem_take (List.mem_of_mem_drop hx)))
        (fun q p hq hp => by
          have := hc (i + q) p (by omega) hp
          rw [Nat.add_mul] at this
          rwa [show o + i * k + (q * k + p) = o + (i * k + q * k + p) by omega])
        (fun q p hq hp => h1 (i + q) p (by omega) hp) (fun q x p c hx hp => hr (i + q) x p c (hget q x hx).1 hp)
      rwa [hlen] at this
theorem slice_sound (hT : TabOk P T) {r : Operand → AV} {n t : Nat} {x : Operand} {lo hi mx : Option Operand} {mem : List MB} {H : Heap} (hr : ∀ y k i, r y = .int k i → a.eval y = .int k i) (hx : TRep g l w n (r x) (a.eval x)) (h : light T (.slice t x lo hi mx) r mem H K) :
    ∃ av v, K av ∧ (Instr.sliceAt t (a.eval x) (lo.map a.eval) (hi.map a.eval) (mx.map a.eval)).run P w = .ok v w ∧ Rep w g.stb g.ob av v := by
  simp only [light] at h
  cases hk : (ti T t).k <;> cases hxv : r x <;> rw [hk, hxv] at h <;> rw [hxv] at hx <;> try simp only at h
  case str.str s =>
    simp only [TRep] at hx
    obtain ⟨li, ha, hl⟩ := bound_out hr h
    clear h
    obtain ⟨hi', h, hh⟩ := bound_out hr ha
    clear ha
    cases h0 : mx.isNone <;> rw [h0] at h <;> simp only [G, cond_false, cond_true] at h
    cases h1 : leI 0 li <;> rw [h1] at h <;> simp only [cond_false, cond_true] at h
    cases h2 : leI li hi' <;> rw [h2] at h <;> simp only [cond_false, cond_true] at h
    cases h3 : leI hi' (sizeI s) <;> rw [h3] at h <;> simp only [cond_false, cond_true] at h
    have e1 := of_decide_eq_true h1
    have e2 := of_decide_eq_true h2
    have e3 : hi' ≤ (s.size : Int) := of_decide_eq_true h3
    obtain rfl : mx = none := by simpa using h0
    obtain ⟨m, hb, _⟩ := run_bounds (P := P) (w := w) (isSlice := false) (len := s.size) (cap := s.size) (mx := none) (mi := hi') hl hh (.inl ⟨rfl, rfl⟩) (by simp) e1 e2 (Int.le_refl _) e3 (Nat.le_refl _)
    have hu := hT.u_str hk
    refine ⟨_, .string (s.extract li.toNat hi'.toNat), h, ?_, .str _⟩
    simp only [Option.map_none] at hb
    simp only [Instr.sliceAt, Sem.run_bind, run_underlying hu, Result.andThen_ok, Instr.slice, hx, Option.map_none, Option.isSome_none, Bool.false_eq_true, if_false, hb, Sem.run_pure]
  case slice.sl e tg k xs =>
    cases tg with
    | succ tg => simp at h
    | zero =>
    simp only at h
    simp only [TRep] at hx
    obtain ⟨li, h, hl⟩ := bound_out hr h
    obtain ⟨hi', h, hh⟩ := bound_out hr h
    obtain ⟨mi, h, hm⟩ := bound_out hr h
    cases h5 : Nat.beq k (ti T e).size <;> rw [h5] at h <;> simp only [G, cond_false, cond_true] at h
    cases h6 : Nat.blt 0 k <;> rw [h6] at h <;> simp only [cond_false, cond_true] at h
    cases h7 : (!mx.isSome || hi.isSome) <;> rw [h7] at h <;> simp only [cond_false, cond_true] at h
    cases h1 : leI 0 li <;> rw [h1] at h <;> simp only [cond_false, cond_true] at h
    cases h2 : leI li hi' <;> rw [h2] at h <;> simp only [cond_false, cond_true] at h
    cases h3 : leI hi' mi <;> rw [h3] at h <;> simp only [cond_false, cond_true] at h
    cases h4 : leI mi (lenI xs) <;> rw [h4] at h <;> simp only [cond_false, cond_true] at h
    have e1 := of_decide_eq_true h1
    have e2 := of_decide_eq_true h2
    have e3 := of_decide_eq_true h3
    have e4 : mi ≤ (xs.length : Int) := of_decide_eq_true h4
    have e5 : k = (ti T e).size := Nat.eq_of_beq_eq_true h5
    have e6 : 0 < k := Nat.le_of_ble_eq_true h6
    have hv : ∃ A c, a.eval x = .slice A xs.length c ∧ xs.length ≤ c := by
      generalize a.eval x = v at hx ⊢
      cases hx with
      | sl0 A c k => exact ⟨_, _, rfl, Nat.zero_le _⟩
      | sl b o1 c _ _ vs hb hn' hm hkk hc h1 hr => exact ⟨_, _, rfl, hn'⟩
    obtain ⟨A, c, hv, hc⟩ := hv
    obtain ⟨m, hb, hm1, hm2⟩ := run_bounds (P := P) (w := w) (isSlice := true) (len := xs.length) (cap := c) hl hh hm (by intro hs; cases hi <;> simp_all) e1 e2 e3 (by omega) hc
    have hu := hT.u_slice hk
    rw [hv] at hx ⊢
    have hcut := hx.cut li.toNat hi'.toNat m (by omega) (by omega) hm1 hm2 k (fun _ => rfl)
    refine ⟨_, _, h, ?_, hcut⟩
    have hsz := hT.size_pos (P := P) (t := e) (by omega) w
    simp only [Instr.sliceAt, Sem.run_bind, run_underlying hu, Result.andThen_ok, Instr.slice, hb, hsz, Sem.run_pure, e5]
  case slice.hs e j o n c k =>
    simp only [TRep] at hx
    obtain ⟨li, h, hl⟩ := bound_out hr h
    obtain ⟨hi', h, hh⟩ := bound_out hr h
    obtain ⟨mi, h, hm⟩ := bound_out hr h
    cases h5 : Nat.beq k (ti T e).size <;> rw [h5] at h <;> simp only [G, cond_false, cond_true] at h
    cases h6 : Nat.blt 0 k <;> rw [h6] at h <;> simp only [cond_false, cond_true] at h
    cases h7 : (!mx.isSome || hi.isSome) <;> rw [h7] at h <;> simp only [cond_false, cond_true] at h
    cases h1 : leI 0 li <;> rw [h1] at h <;> simp only [cond_false, cond_true] at h
    cases h2 : leI li hi' <;> rw [h2] at h <;> simp only [cond_false, cond_true] at h
    cases h3 : leI hi' mi <;> rw [h3] at h <;> simp only [cond_false, cond_true] at h
    cases h4 : leI mi c <;> rw [h4] at h <;> simp only [cond_false, cond_true] at h
    have e1 := of_decide_eq_true h1
    have e2 := of_decide_eq_true h2
    have e3 := of_decide_eq_true h3
    have e4 : mi ≤ (c : Int) := of_decide_eq_true h4
    have e5 : k = (ti T e).size := Nat.eq_of_beq_eq_true h5
    have e6 : 0 < k := Nat.le_of_ble_eq_true h6
    have hu := hT.u_slice hk
    have hsz := hT.size_pos (P := P) (t := e) (by omega) w
    generalize hv : a.eval x = v at hx ⊢
    cases hx with
    | hs _ b _ _ _ _ q hj hn hcm hq =>
      have hb : (Instr.sliceBounds true n c (lo.map a.eval) (hi.map a.eval) (mx.map a.eval)).run P w = .ok (li.toNat, hi'.toNat, mi.toNat) w := by
        have hlow : ∀ (xl : Operand) (kl : IntKind) (y : Nat), hi'.toNat ≤ y → a.eval xl = .int kl li → ∀ code, (Instr.sliceBound (a.eval xl) y code).run P w = .ok li.toNat w := fun xl kl y hy hxl code => run_bound hxl e1 (by omega)
        rcases hm with ⟨rfl, rfl⟩ | ⟨xm, km, rfl, hxm⟩
        · rcases hh with ⟨rfl, rfl⟩ | ⟨xh, kh, rfl, hxh⟩
          · rcases hl with ⟨rfl, rfl⟩ | ⟨xl, kl, rfl, hxl⟩
            · simp [Instr.sliceBounds]
            · have := fun code => hlow xl kl n (by omega) hxl code
              simp [Instr.sliceBounds, this]
          · have hb1 := fun code => run_bound (P := P) (w := w) (c := code) (y := c) hxh (by omega) (by omega)
            rcases hl with ⟨rfl, rfl⟩ | ⟨xl, kl, rfl, hxl⟩
            · simp [Instr.sliceBounds, hb1]
            · have := fun code => hlow xl kl hi'.toNat (Nat.le_refl _) hxl code
              simp [Instr.sliceBounds, hb1, this]
        · have hbm := fun code => run_bound (P := P) (w := w) (c := code) (y := c) hxm (by omega) (by omega)
          rcases hh with ⟨rfl, rfl⟩ | ⟨xh, kh, rfl, hxh⟩
          · simp at h7
          · have hb1 := fun code => run_bound (P := P) (w := w) (c := code) (y := mi.toNat) hxh (by omega) (by omega)
            rcases hl with ⟨rfl, rfl⟩ | ⟨xl, kl, rfl, hxl⟩
            · simp [Instr.sliceBounds, hb1, hbm]
            · have := fun code => hlow xl kl hi'.toNat (Nat.le_refl _) hxl code
              simp [Instr.sliceBounds, hb1, hbm, this]
      refine ⟨_, .slice (if mi.toNat = li.toNat then some ⟨b, q, none⟩ else some ⟨b, q + li.toNat * k, none⟩) (hi'.toNat - li.toNat) (mi.toNat - li.toNat), h, ?_, ?_⟩
      · simp only [Instr.sliceAt, Sem.run_bind, run_underlying hu, Result.andThen_ok, Instr.slice, hb, hsz, Sem.run_pure, e5, Option.map_some, add_plain]
        try rfl
      · by_cases hml : mi.toNat = li.toNat
        · rw [if_pos hml]
          exact .hs j b _ _ _ k q hj (by omega) (by omega) (by
            by_cases hl0 : li.toNat = 0
            · rcases hq with hq | hq
              · exact .inl ⟨by omega, by omega⟩
              · exact .inr (by rw [hl0, Nat.add_zero]; exact hq)
            · exact .inl ⟨by omega, by omega⟩)
        · rw [if_neg hml]
          exact .hs j b _ _ _ k _ hj (by omega) (by omega) (.inr (by
            have hq : q = o * k := by rcases hq with hq | hq <;> omega
            rw [hq, Nat.add_mul]))
  case slice.nilsl e =>
    simp only [TRep] at hx
    obtain ⟨li, ha, hl⟩ := bound_out hr h
    clear h
    obtain ⟨hi', hb, hh⟩ := bound_out hr ha
    clear ha
    obtain ⟨mi, h, hm⟩ := bound_out hr hb
    clear hb
    cases h7 : (!mx.isSome || hi.isSome) <;> rw [h7] at h <;> simp only [G, cond_false, cond_true] at h
    cases h6 : Nat.blt 0 (ti T e).size <;> rw [h6] at h <;> simp only [cond_false, cond_true] at h
    have e6 : 0 < (ti T e).size := Nat.le_of_ble_eq_true h6
    cases h1 : eqI li 0 <;> rw [h1] at h <;> simp only [cond_false, cond_true] at h
    cases h2 : eqI hi' 0 <;> rw [h2] at h <;> simp only [cond_false, cond_true] at h
    cases h3 : eqI mi 0 <;> rw [h3] at h <;> simp only [cond_false, cond_true] at h
    have e1 : li = 0 := of_decide_eq_true h1
    have e2 : hi' = 0 := of_decide_eq_true h2
    have e3 : mi = 0 := of_decide_eq_true h3
    have hu := hT.u_slice hk
    subst e1
    subst e2
    subst e3
    refine ⟨_, .slice none 0 0, h, ?_, .nilsl⟩
    have hz : ∀ (xl : Operand) (kl : IntKind), a.eval xl = .int kl 0 → ∀ code, (Instr.sliceBound (a.eval xl) 0 code).run P w = .ok 0 w := fun xl kl hxl code => run_bound hxl (Int.le_refl _) (by simp)
    have hsz := hT.size_pos (P := P) (t := e) e6 w
    rcases hh with ⟨rfl, _⟩ | ⟨xh, kh, rfl, hxh⟩
    · obtain rfl : mx = none := by cases mx <;> simp_all
      rcases hl with ⟨rfl, _⟩ | ⟨xl, kl, rfl, hxl⟩
      · simp [Instr.sliceAt, run_underlying hu, Instr.slice, hx, Instr.sliceBounds, hsz]
      · simp [Instr.sliceAt, run_underlying hu, Instr.slice, hx, Instr.sliceBounds, hsz, hz xl kl hxl]
    · rcases hm with ⟨rfl, _⟩ | ⟨xm, km, rfl, hxm⟩
      · rcases hl with ⟨rfl, _⟩ | ⟨xl, kl, rfl, hxl⟩
        · simp [Instr.sliceAt, run_underlying hu, Instr.slice, hx, Instr.sliceBounds, hsz, hz xh kh hxh]
        · simp [Instr.sliceAt, run_underlying hu, Instr.slice, hx, Instr.sliceBounds, hsz, hz xh kh hxh, hz xl kl hxl]
      · rcases hl with ⟨rfl, _⟩ | ⟨xl, kl, rfl, hxl⟩
        · simp [Instr.sliceAt, run_underlying hu, Instr.slice, hx, Instr.sliceBounds, hsz, hz xh kh hxh, hz xm km hxm]
        · simp [Instr.sliceAt, run_underlying hu, Instr.slice, hx, Instr.sliceBounds, hsz, hz xh kh hxh, hz xm km hxm, hz xl kl hxl]
end
end Go.Proofs.YtgmkkjmdflhbnaaDoor.Ab
end
section
namespace Go.Proofs.YtgmkkjmdflhbnaaDoor.Ab
open Go
section
variable {P : Program} {T : List TI} {w0 : World} {g0 g : Gs} {l : Gl} {w : World} {st : St} {a : Act} {o : Oper} {next : Act → World → Prop} {Q : Exit → Act → World → Prop}
theorem wp_value {v : Value} {w' : World} (h : (execOp a.eval o).run P w = .ok (.value v) w') (hn : next (a.put o.dst v) w') : o.wp P a w next Q := by
  unfold Oper.wp
  rw [h]
  exact hn
theorem wp_skip {w' : World} (h : (execOp a.eval o).run P w = .ok .skip w') (hn : next (a.put o.dst undef) w') : o.wp P a w next Q := by
  unfold Oper.wp
  rw [h]
  exact hn
def Goes (w0 : World) (g0 : Gs) (K : St → Prop) (next : Act → World → Prop) : Prop := ∀ (g : Gs) (l : Gl) (w : World) (st : St) (a : Act), Inv w0 g0 g l w st a → K st → next a w
theorem scalar_one {n : Nat} {x : AV} {v : Value} (h : TRep g l w n x v) (hI : Inv w0 g0 g l w st a) (ht : ∀ t ∈ tagsOf x, t ∈ st.tags) (hs : scalarAV x = true) : v.oneCell' = true := by
  cases x <;> simp only [scalarAV] at hs <;> try (simp at hs; done)
  case sl t k xs =>
    cases t with
    | zero => simp only [TRep] at h; cases h <;> rfl
    | succ t =>
      simp only [TRep] at h
      obtain ⟨h1, _⟩ := h
      rcases (hI.own _ (ht (t + 1) (by simp [tagsOf, Nat.beq]))).parts with ⟨p1, _⟩ | ⟨b, c, vs, hv, _⟩
      · rw [h1, p1]; rfl
      · rw [h1, hv]; rfl
  case ep t k i o xs =>
    simp only [TRep] at h
    obtain ⟨_, _, _, _, b, m, c, _, rfl⟩ := h
    rfl
  case rp cs o => simp only [TRep] at h; cases h; rfl
  case fn f c => simp only [TRep] at h; cases h; rfl
  case obj j o => simp only [TRep] at h; cases h; rfl
  case map j => simp only [TRep] at h; cases h; rfl
  case hs j o n c k => simp only [TRep] at h; cases h; rfl
  case he j k i o => simp only [TRep] at h; cases h; rfl
  case iface q b => simp only [TRep] at h; obtain ⟨u, rfl, _⟩ := h; rfl
  case ptr j o => simp only [TRep] at h; obtain ⟨_, rfl⟩ := h; rfl
  all_goals (simp only [TRep] at h; subst h; rfl)
theorem box_rep {n : Nat} {x : AV} {v : Value} (h : TRep g l w n x v) (hI : Inv w0 g0 g l w st a) (ht : ∀ t ∈ tagsOf x, t ∈ st.tags) (hs : boxable x = true) :
    TReps g l w n (cellsOf x) v.cells.toList ∧ (∀ u ∈ v.cells.toList, u.oneCell' = true) ∧ (∀ t ∈ tagsOfs (cellsOf x), t ∈ st.tags) := by
  have one : scalarAV x = true → (∀ cs, x ≠ .agg cs) → TReps g l w n (cellsOf x) v.cells.toList ∧ (∀ u ∈ v.cells.toList, u.oneCell' = true) ∧ (∀ t ∈ tagsOfs (cellsOf x), t ∈ st.tags) := by
    intro hs hna
    have h1 := scalar_one h hI ht hs
    have hc : cellsOf x = [x] := by cases x <;> first | rfl | exact absurd rfl (hna _)
    have hv : v.cells = #[v] := by cases v <;> first | rfl | (simp [Value.oneCell'] at h1; done)
    rw [hc, hv]
    simp only [TReps, tagsOfs, List.append_nil, and_true]
    exact ⟨h, by simpa using h1, ht⟩
  cases x <;> try exact one hs (by simp)
  case agg cs =>
    simp only [TRep] at h
    obtain ⟨vs, rfl, hr⟩ := h
    simp only [boxable, List.all_eq_true] at hs
    refine ⟨by simpa [cellsOf, Value.cells] using hr, fun u hu => ?_, fun t h => ht t (by simpa [tagsOf, cellsOf] using h)⟩
    have hu' : u ∈ vs := by simpa [Value.cells] using hu
    obtain ⟨i, hi⟩ := List.mem_iff_getElem?.1 hu'
    have hil : i < cs.length := by rw [hr.length]; exact (List.getElem?_eq_some_iff.1 hi).1
    have hc : cs[i]? = some cs[i] := List.getElem?_eq_getElem hil
    exact scalar_one (hr.of i _ _ hc hi) hI (fun t h => ht t (by simp only [tagsOf]; exact tagsOfs_get hc t h)) (hs _ (List.mem_of_getElem? hc))
theorem alloc_sound (hT : TabOk P T) (hI : Inv w0 g0 g l w st a) {e : Nat} {K : St → Prop} (ho : o.op = .alloc e) (hk : (ti T e).k ≠ .other) (htup : ∀ ts, (ti T e).k ≠ .tuple ts)
    (h : K ({ st with mem := st.mem ++ [MB.cells (cellsOf (zeroT T e))] }.put o.dst (.ptr st.mem.length 0))) (hn : Goes w0 g0 K next) : o.wp P a w next Q := by
  obtain ⟨i, z, hi, hz, hl1, hl2, hagg, hc⟩ := hT.zero hk htup
  have hrun : (execOp a.eval o).run P w = .ok (.value (.pointer (some ⟨w.heap.size, 0, none⟩))) (w.alloc (.cells z.cells e)) := by
    unfold execOp
    rw [ho]
    refine exec_v ?_
    simp [Instr.alloc, zeroValue, typeInfo, hi, hz, newVar, newRow]
  have hcells : cellsOf (zeroT T e) = (ti T e).shape.map CK.zero := by
    unfold zeroT
    cases h : isAggT T e
    · rw [h] at hagg
      have hz1 : z.cells = #[z] := by cases z <;> first | rfl | (simp [isAggV] at hagg; done)
      rw [hz1] at hl1
      simp only [List.length_cons, List.length_nil, Nat.zero_add] at hl1
      obtain ⟨c, hsc⟩ : ∃ c, (ti T e).shape = [c] := by
        cases hs : (ti T e).shape with
        | nil => rw [hs] at hl1; simp at hl1
        | cons c r => cases r with
          | nil => exact ⟨c, rfl⟩
          | cons d r => rw [hs] at hl1; simp at hl1
      rw [hsc]
      simp only [cond_false, List.map_cons, List.map_nil, List.headD_cons]
      cases c <;> rfl
    · rfl
  refine wp_value hrun (hn _ _ _ _ _ (hI.newBlock _ (MB.cells (cellsOf (zeroT T e))) rfl ?_ ?_ _) h)
  · intro t ht
    simp only [MB.tags, hcells] at ht
    obtain ⟨j, c, hc', ht⟩ := tagsOfs_iff ht
    simp only [List.getElem?_map, Option.map_eq_some_iff] at hc'
    obtain ⟨ck, _, rfl⟩ := hc'
    cases ck <;> simp [CK.zero, tagsOf] at ht
  · refine ⟨z.cells.toList, e, (heap_alloc_new w _).trans (by simp), ?_, ?_⟩
    · rw [hcells]
      refine TReps.mk (by simp [hl1]) fun j c v hc' hv => ?_
      simp only [List.getElem?_map, Option.map_eq_some_iff] at hc'
      obtain ⟨ck, hck, rfl⟩ := hc'
      exact ((hc j v ck hv hck).1 _ _ _ _).1
    · intro u hu
      obtain ⟨j, hj⟩ := List.mem_iff_getElem?.1 hu
      have hjl : j < (ti T e).shape.length := by rw [← hl1]; exact (List.getElem?_eq_some_iff.1 hj).1
      exact (hc j u _ hj (List.getElem?_eq_getElem hjl)).2
theorem box_sound (hI : Inv w0 g0 g l w st a) {e : Nat} {x : Operand} {K : St → Prop} (ho : o.op = .box e x)
    (h : G (boxable (ρ st.tm x)) (K ({ st with mem := st.mem ++ [MB.cells (cellsOf (ρ st.tm x))] }.put o.dst (.ptr st.mem.length 0)))) (hn : Goes w0 g0 K next) : o.wp P a w next Q := by
  cases hb : boxable (ρ st.tm x) <;> rw [hb] at h <;> simp only [G, cond_false, cond_true] at h
  obtain ⟨hx, ht⟩ := hI.operand (a := a) x
  obtain ⟨h1, h2, h3⟩ := box_rep hx hI ht hb
  have hrun : (execOp a.eval o).run P w = .ok (.value (.pointer (some ⟨w.heap.size, 0, none⟩))) (w.alloc (.cells (a.eval x).cells e)) := by
    unfold execOp
    rw [ho]
    refine exec_v ?_
    simp [Instr.box, newVar, newRow]
  refine wp_value hrun (hn _ _ _ _ _ (hI.newBlock _ (MB.cells (cellsOf (ρ st.tm x))) rfl h3 ?_ _) h)
  refine ⟨(a.eval x).cells.toList, e, (heap_alloc_new w _).trans (by simp), ?_, h2⟩
  refine TReps.mono (l := l) (fun b hb' => heap_alloc w _ b (hI.stbLt b hb').1) (fun _ h => h) (fun _ _ h => h) (fun j hj => by simp [Gl.block, Nat.ne_of_lt hj]) (by omega) _ _ (fun _ _ => ⟨rfl, rfl, rfl⟩) h1
end
end Go.Proofs.YtgmkkjmdflhbnaaDoor.Ab
end
section
namespace Go.Proofs.YtgmkkjmdflhbnaaDoor.Ab
open Go
theorem setRange_eq : ∀ (vs cs : List AV) (o : Nat), o + vs.length ≤ cs.length → setRange cs o vs = cs.take o ++ vs ++ cs.drop (o + vs.length)
  | [], cs, o, _ => by simp [setRange]
  | v :: vs, cs, o, h => by
    simp only [List.length_cons] at h
    have ho : o < cs.length := by omega
    rw [setRange, setRange_eq vs (cs.set o v) (o + 1) (by simp; omega), List.take_set, List.drop_set_of_lt (by omega : o < o + 1 + vs.length)]
    rw [List.take_add_one, List.set_append_right _ _ (by simp; omega)]
    simp only [List.length_take, Nat.min_eq_left (Nat.le_of_lt ho), Nat.sub_self, List.getElem?_eq_getElem ho, Option.toList_some, List.set_cons_zero, List.length_cons, List.append_assoc, List.cons_append, List.nil_append]
    rw [show o + (vs.length + 1) = o + 1 + vs.length by omega]
theorem setRange_length (vs : List AV) : ∀ (cs : List AV) (o : Nat), (setRange cs o vs).length = cs.length := by
  induction vs with
  | nil => intro cs o; rfl
  | cons v vs ih => intro cs o; rw [setRange, ih]; simp
section
variable {P : Program} {T : List TI} {w0 : World} {g0 g : Gs} {l : Gl} {w : World} {st : St} {a : Act} {o : Oper} {next : Act → World → Prop} {Q : Exit → Act → World → Prop}
theorem TReps.take {n : Nat} {cs : List AV} {vs : List Value} (h : TReps g l w n cs vs) (k : Nat) : TReps g l w n (cs.take k) (vs.take k) := by
  refine .mk (by simp [h.length]) fun i c v hc hv => ?_
  rw [List.getElem?_take] at hc hv
  split at hc
  · rw [if_pos (by assumption)] at hv; exact h.of i c v hc hv
  · cases hc
theorem TReps.drop {n : Nat} {cs : List AV} {vs : List Value} (h : TReps g l w n cs vs) (k : Nat) : TReps g l w n (cs.drop k) (vs.drop k) := by
  refine .mk (by simp [h.length]) fun i c v hc hv => ?_
  rw [List.getElem?_drop] at hc hv
  exact h.of _ c v hc hv
theorem TReps.range {n : Nat} {cs ds : List AV} {vs us : List Value} (h : TReps g l w n cs vs) (h' : TReps g l w n ds us) (o : Nat) (hl : o + ds.length ≤ cs.length) :
    TReps g l w n (setRange cs o ds) (vs.take o ++ us ++ vs.drop (o + us.length)) := by
  rw [setRange_eq _ _ _ hl, ← h'.length]
  exact ((h.take o).append h').append (h.drop _)
theorem tagsOfs_append (xs ys : List AV) : tagsOfs (xs ++ ys) = tagsOfs xs ++ tagsOfs ys := by
  induction xs with
  | nil => simp [tagsOfs]
  | cons x xs ih => simp [tagsOfs, ih]
theorem tagsOfs_range {cs ds : List AV} {o : Nat} {t : Nat} (hl : o + ds.length ≤ cs.length) (h : t ∈ tagsOfs (setRange cs o ds)) : t ∈ tagsOfs cs ∨ t ∈ tagsOfs ds := by
  rw [setRange_eq _ _ _ hl, tagsOfs_append, tagsOfs_append, List.mem_append, List.mem_append] at h
  rcases h with (h | h) | h
  · obtain ⟨i, c, hc, ht⟩ := tagsOfs_iff h
    rw [List.getElem?_take] at hc
    split at hc
    · exact .inl (tagsOfs_get hc t ht)
    · cases hc
  · exact .inr h
  · obtain ⟨i, c, hc, ht⟩ := tagsOfs_iff h
    rw [List.getElem?_drop] at hc
    exact .inl (tagsOfs_get hc t ht)
theorem undef_rep {n : Nat} : TRep g l w n (.tup []) undef := by
  simp only [TRep]
  exact ⟨[], rfl, by simp [TReps]⟩
theorem store_ptr_sound (hT : TabOk P T) (hI : Inv w0 g0 g l w st a) {t : Nat} {x y : Operand} {j o' : Nat} {cs : List AV} {K : St → Prop} (ho : o.op = .store t x y) (hx : ρ st.tm x = .ptr j o') (hm : st.mem.getD j .dead = .cells cs)
    (h : G (Nat.blt 0 (ti T t).size) (G (boxable (ρ st.tm y)) (G (Nat.ble (o' + (cellsOf (ρ st.tm y)).length) cs.length) (G (Nat.beq (cellsOf (ρ st.tm y)).length (ti T t).size) (K ({ st with mem := st.mem.set j (.cells (setRangeX cs o' (cellsOf (ρ st.tm y)))) }.put o.dst (.tup [])))))))
    (hn : Goes w0 g0 K next) : o.wp P a w next Q := by
  rw [setRangeX_eq] at h
  cases h0 : Nat.blt 0 (ti T t).size <;> rw [h0] at h <;> simp only [G, cond_false, cond_true] at h
  cases hb : boxable (ρ st.tm y) <;> rw [hb] at h <;> simp only [cond_false, cond_true] at h
  cases h2 : Nat.ble (o' + (cellsOf (ρ st.tm y)).length) cs.length <;> rw [h2] at h <;> simp only [cond_false, cond_true] at h
  cases h3 : Nat.beq (cellsOf (ρ st.tm y)).length (ti T t).size <;> rw [h3] at h <;> simp only [cond_false, cond_true] at h
  have e2 := Nat.le_of_ble_eq_true h2
  have e3 := Nat.eq_of_beq_eq_true h3
  obtain ⟨hy, hyt⟩ := hI.operand (a := a) y
  obtain ⟨hyr, hy1, hyt⟩ := box_rep hy hI hyt hb
  obtain ⟨hp, _⟩ := hI.operand (a := a) x
  rw [hx] at hp
  simp only [TRep] at hp
  obtain ⟨hj, hp⟩ := hp
  have hjm : st.mem[j]? = some (.cells cs) := by rw [← hm, List.getD_eq_getElem?_getD, List.getElem?_eq_getElem hj]; rfl
  obtain ⟨vs, e, hh, hr, h1⟩ := hI.mem j _ hjm
  have hlen := hyr.length
  have hst := run_storeCells_at P (l.loc j) o' e (a.eval y).cells.toList 0 vs.toArray w hh (by rw [← hlen]; simp only [Nat.add_zero, List.size_toArray]; rw [← hr.length]; exact e2) hy1
  simp only [Nat.add_zero] at hst
  have hsz := hT.size_pos (P := P) (t := t) (Nat.le_of_ble_eq_true h0) w
  have hrun : (execOp a.eval o).run P w = .ok .skip (w.setRow (l.loc j) (vs.take o' ++ (a.eval y).cells.toList ++ vs.drop (o' + (a.eval y).cells.toList.length)).toArray) := by
    unfold execOp
    rw [ho]
    have hc : ((a.eval y).cells.size != (ti T t).size) = false := by
      rw [← e3, hlen]; simp
    have hc' : (a.eval y).cells.size = (ti T t).size := by simpa using hc
    simp [Instr.storeAt, Instr.sureAddr, hp, storeVar, hsz, hc', hst]
  refine wp_skip hrun (hn _ l _ _ _ ((hI.setMem (w' := w.setRow (l.loc j) (vs.take o' ++ (a.eval y).cells.toList ++ vs.drop (o' + (a.eval y).cells.toList.length)).toArray) hjm rfl (mb' := .cells (setRange cs o' (cellsOf (ρ st.tm y)))) rfl (fun t ht => ?_) rfl rfl rfl (by simp) (fun b hb => setRow_other _ _ _ _ hb) ?_).put undef_rep (by simp [tagsOf, tagsOfs]) _) h)
  · rcases tagsOfs_range e2 ht with ht | ht
    · exact tags_mem hjm ht
    · exact hyt t ht
  · have hst' : ∀ b, g.stb b → (w.setRow (l.loc j) (vs.take o' ++ (a.eval y).cells.toList ++ vs.drop (o' + (a.eval y).cells.toList.length)).toArray).heap[b]? = w.heap[b]? := fun b hb => setRow_other _ _ _ _ fun e => (hI.priv j _ hjm rfl).2.2.1 (e ▸ hb)
    refine ⟨_, e, setRow_heap _ _ _ _ _ _ hh, TReps.mono hst' (fun _ h => h) (fun _ _ h => h) (fun _ _ => rfl) (Nat.le_refl _) _ _ (fun _ _ => ⟨rfl, rfl, rfl⟩) (hr.range hyr o' e2), fun u hu => ?_⟩
    simp only [List.mem_append] at hu
    rcases hu with (hu | hu) | hu
    · exact h1 u (List.mem_of_mem_take hu)
    · exact hy1 u hu
    · exact h1 u (List.mem_of_mem_drop hu)
theorem frzAll_tags_of {u : Nat} : ∀ (ts : List Nat) (s : St), u ∉ ts → u ∈ s.tags → u ∈ (s.frzAll ts).tags
  | [], _, _, h => h
  | t :: ts, s, hn, h => by
    simp only [List.mem_cons, not_or] at hn
    exact frzAll_tags_of ts _ hn.2 (tags_mapS_of (frzF_tags_of hn.1) s h)
theorem store_ep_sound (hT : TabOk P T) (hI : Inv w0 g0 g l w st a) {t : Nat} {x y : Operand} {tg k i o' : Nat} {xs : List (List AV)} {K : St → Prop} (ho : o.op = .store t x y) (hx : ρ st.tm x = .ep tg k i o' xs)
    (h : G (Nat.blt 0 (ti T t).size) (G (boxable (ρ st.tm y)) (G (Nat.ble (o' + (cellsOf (ρ st.tm y)).length) k) (G (Nat.beq (cellsOf (ρ st.tm y)).length (ti T t).size) (G (!((tagsOf (ρ st.tm y)).contains tg))
      (K (((st.frzAll (tagsOf (ρ st.tm y))).mapS (updF tg (xs.set i (setRange (xs.getD i []) o' (frzVs (cellsOf (ρ st.tm y))))))).put o.dst (.tup []))))))))
    (hn : Goes w0 g0 K next) : o.wp P a w next Q := by
  cases h0 : Nat.blt 0 (ti T t).size <;> rw [h0] at h <;> simp only [G, cond_false, cond_true] at h
  cases hb : boxable (ρ st.tm y) <;> rw [hb] at h <;> simp only [cond_false, cond_true] at h
  cases h2 : Nat.ble (o' + (cellsOf (ρ st.tm y)).length) k <;> rw [h2] at h <;> simp only [cond_false, cond_true] at h
  cases h3 : Nat.beq (cellsOf (ρ st.tm y)).length (ti T t).size <;> rw [h3] at h <;> simp only [cond_false, cond_true] at h
  cases h4 : (tagsOf (ρ st.tm y)).contains tg <;> rw [h4] at h <;> simp only [Bool.not_true, Bool.not_false, cond_false, cond_true] at h
  have e2 := Nat.le_of_ble_eq_true h2
  have e3 := Nat.eq_of_beq_eq_true h3
  have e4 : tg ∉ tagsOf (ρ st.tm y) := by intro hm; simp [hm] at h4
  obtain ⟨hy, hyt⟩ := hI.operand (a := a) y
  obtain ⟨hyr, hy1, hyt'⟩ := box_rep hy hI hyt hb
  obtain ⟨hp, hpt⟩ := hI.operand (a := a) x
  rw [hx] at hp hpt
  simp only [TRep] at hp
  obtain ⟨rfl, rfl, ht0, hi, b, m, c, hv, hp⟩ := hp
  have hin : tg ∈ st.tags := hpt tg (by simp [tagsOf])
  have hcl : tagsOfs (cellsOf (ρ st.tm y)) = tagsOf (ρ st.tm y) := by
    cases ρ st.tm y <;> simp [cellsOf, tagsOfs, tagsOf]
  obtain ⟨g', hI', s1, n1, o1, f1, b1, c1⟩ := hI.frzAll (tagsOf (ρ st.tm y)) (fun t ht => tags_pos hI t (hyt t ht))
  have hin' : tg ∈ (st.frzAll (tagsOf (ρ st.tm y))).tags := frzAll_tags_of _ _ e4 hin
  obtain ⟨e, fl, hown, hk, hxs, h1, hr⟩ := hI'.own tg hin'
  have hlen := hyr.length
  have hlend : ∀ (j : Nat) (q : AV) (u : Value), (frzVs (cellsOf (ρ st.tm y)))[j]? = some q → (a.eval y).cells.toList[j]? = some u → Rep w g'.stb g'.ob q u := by
    intro j q u hq hu
    unfold frzVs at hq
    rw [mapTs_get, Option.map_eq_some_iff] at hq
    obtain ⟨q0, hq0, rfl⟩ := hq
    rw [o1]
    refine lend_rep (base := w0.heap.size) s1 (S := tagsOf (ρ st.tm y)) (fun t ht => ⟨hI.own t (hyt t ht), b1 t ht (hyt t ht)⟩) q0 u (fun t ht => ?_) (hyr.of j q0 u hq0 hu)
    rw [← hcl]
    exact tagsOfs_get hq0 t ht
  rcases hown.2 with ⟨hv', hz⟩ | ⟨b', cap, cur, hv', hbb, hh, hnc, hm, hcs, htk⟩
  · rw [hz] at hi; simp at hi
  rw [hv] at hv'
  simp only [Value.slice.injEq, Option.some.injEq, Addr.mk.injEq, and_true, true_and] at hv'
  obtain ⟨rfl, rfl, hcc⟩ := hv'
  subst hcc
  have hik : i * l.xk tg + l.xk tg ≤ (l.xc tg).length * l.xk tg := by
    calc i * l.xk tg + l.xk tg = (i + 1) * l.xk tg := by rw [Nat.add_mul, Nat.one_mul]
      _ ≤ _ := Nat.mul_le_mul_right _ hi
  have hck : (l.xc tg).length * l.xk tg ≤ cur.size := by rw [hcs]; exact Nat.mul_le_mul_right _ hnc
  have hst := run_storeCells_at P b (i * l.xk tg + o') e (a.eval y).cells.toList 0 cur w hh (by rw [← hlen]; omega) hy1
  simp only [Nat.add_zero] at hst
  have hsz := hT.size_pos (P := P) (t := t) (Nat.le_of_ble_eq_true h0) w
  generalize hcur : (cur.toList.take (i * l.xk tg + o') ++ (a.eval y).cells.toList ++ cur.toList.drop (i * l.xk tg + o' + (a.eval y).cells.toList.length)).toArray = cur' at hst
  have hrun : (execOp a.eval o).run P w = .ok .skip (w.setRow b cur') := by
    unfold execOp
    rw [ho]
    have hc' : (a.eval y).cells.size = (ti T t).size := by rw [← e3, hlen]; simp
    simp [Instr.storeAt, Instr.sureAddr, hp, storeVar, hsz, hc', hst]
  have hown' : (l.xv tg).ownBlock = some b := by rw [hv]; rfl
  have hst' : ∀ q, g'.stb q → (w.setRow b cur').heap[q]? = w.heap[q]? := fun q hq => setRow_other _ _ _ _ fun e => (hI'.ownPriv tg hin' b hown').1 (e ▸ hq)
  have hsizec : cur'.size = cur.size := by
    rw [← hcur]
    simp only [List.size_toArray, List.length_append, List.length_take, List.length_drop, Array.length_toList, ← hlen]
    omega
  have hcurget : ∀ q, cur'.toList[q]? = if i * l.xk tg + o' ≤ q ∧ q < i * l.xk tg + o' + (cellsOf (ρ st.tm y)).length then (a.eval y).cells.toList[q - (i * l.xk tg + o')]? else cur.toList[q]? := by
    intro q
    rw [← hcur]
    simp only [List.append_assoc, List.getElem?_append, List.length_take, Array.length_toList, ← hlen, Nat.min_eq_left (show i * l.xk tg + o' ≤ cur.size by omega)]
    by_cases c1 : q < i * l.xk tg + o'
    · rw [if_pos c1, if_neg (by omega), List.getElem?_take, if_pos c1]
    · rw [if_neg c1]
      by_cases c2 : q - (i * l.xk tg + o') < (cellsOf (ρ st.tm y)).length
      · rw [if_pos c2, if_pos (by omega)]
      · rw [if_neg c2, if_neg (by omega), List.getElem?_drop]
        congr 1
        omega
  refine wp_skip hrun (hn g' (l.own tg (l.xv tg) (l.xk tg) ((l.xc tg).set i (setRange ((l.xc tg).getD i []) o' (frzVs (cellsOf (ρ st.tm y)))))) _ _ _ ((hI'.upd (w' := w.setRow b cur') hin' (ys := (l.xc tg).set i (setRange ((l.xc tg).getD i []) o' (frzVs (cellsOf (ρ st.tm y))))) (by simp) rfl rfl rfl (by simp)
    (fun q hq => setRow_other _ _ _ _ fun e => hq (e ▸ hown')) ?_).put undef_rep (by simp [tagsOf, tagsOfs]) _) h)
  have hgi : (l.xc tg)[i]? = some ((l.xc tg).getD i []) := by rw [List.getD_eq_getElem?_getD, List.getElem?_eq_getElem hi]; rfl
  have hxi : ((l.xc tg).getD i []).length = l.xk tg := hxs _ (List.mem_of_getElem? hgi)
  have hfl : (frzVs (cellsOf (ρ st.tm y))).length = (cellsOf (ρ st.tm y)).length := by unfold frzVs; rw [mapTs_length]
  have hle : o' + (frzVs (cellsOf (ρ st.tm y))).length ≤ ((l.xc tg).getD i []).length := by rw [hfl, hxi]; exact e2
  refine ⟨e, cur'.toList.take ((l.xc tg).length * l.xk tg), ?_, ?_, ?_, ?_, ?_⟩
  · simp only [Gl.own, if_true, List.length_set]
    refine ⟨by simp only [List.length_take, Array.length_toList]; omega, .inr ⟨b, _, cur', hv, hbb, setRow_heap _ _ _ _ _ _ hh, hnc, hm, by omega, rfl⟩⟩
  · simp only [Gl.own, if_true]
    refine ⟨hk.1, fun b1 cs1 e1 fr hb1 hh1 u hu => ?_⟩
    rw [hown'] at hb1
    cases hb1
    rw [setRow_heap _ _ _ _ _ _ hh] at hh1
    cases hh1
    obtain ⟨q, hq⟩ := List.mem_iff_getElem?.1 hu
    rw [hcurget] at hq
    split at hq
    · exact hy1 u (List.mem_of_getElem? hq)
    · exact hk.2 b cur e (0, 0) hown' hh u (List.mem_of_getElem? hq)
  · simp only [Gl.own, if_true]
    intro q hq
    rcases List.mem_or_eq_of_mem_set hq with hq | rfl
    · exact hxs q hq
    · rw [setRange_length, hxi]
  · intro u hu
    obtain ⟨q, hq⟩ := List.mem_iff_getElem?.1 hu
    rw [List.getElem?_take] at hq
    split at hq
    · rename_i hqlt
      rw [hcurget] at hq
      split at hq
      · exact hy1 u (List.mem_of_getElem? hq)
      · refine h1 u ?_
        rw [← htk]
        refine List.mem_iff_getElem?.2 ⟨q, ?_⟩
        rw [List.getElem?_take, if_pos hqlt]
        exact hq
    · cases hq
  · simp only [Gl.own, if_true]
    intro p q j d hp' hj
    have hjk : p < (l.xc tg).length ∧ q.length = l.xk tg := by
      refine ⟨by have := (List.getElem?_eq_some_iff.1 hp').1; simpa using this, ?_⟩
      rcases List.mem_or_eq_of_mem_set (List.mem_of_getElem? hp') with hq | rfl
      · exact hxs q hq
      · rw [setRange_length, hxi]
    have hjl : j < l.xk tg := by have := (List.getElem?_eq_some_iff.1 hj).1; omega
    have hpk : p * l.xk tg + l.xk tg ≤ (l.xc tg).length * l.xk tg := by
      calc p * l.xk tg + l.xk tg = (p + 1) * l.xk tg := by rw [Nat.add_mul, Nat.one_mul]
        _ ≤ _ := Nat.mul_le_mul_right _ hjk.1
    have hold : ∀ d, (∃ x, (l.xc tg)[p]? = some x ∧ x[j]? = some d) → ¬ (i * l.xk tg + o' ≤ p * l.xk tg + j ∧ p * l.xk tg + j < i * l.xk tg + o' + (cellsOf (ρ st.tm y)).length) →
        ∃ v, (cur'.toList.take ((l.xc tg).length * l.xk tg))[p * l.xk tg + j]? = some v ∧ Rep (w.setRow b cur') g'.stb g'.ob d v := by
      intro d ⟨x, hx, hd⟩ hne
      obtain ⟨v, hv, hrep⟩ := hr p x j d hx hd
      refine ⟨v, ?_, hrep.mono hst' (fun _ h => h) (fun _ _ h => h)⟩
      rw [List.getElem?_take, if_pos (by omega), hcurget, if_neg hne]
      rw [← htk, List.getElem?_take] at hv
      split at hv
      · exact hv
      · cases hv
    by_cases hpi : p = i
    · subst hpi
      rw [List.getElem?_set_self hi] at hp'
      obtain rfl := Option.some.inj hp'
      rw [setRange_eq _ _ _ hle, List.append_assoc, List.getElem?_append] at hj
      simp only [List.length_take, hxi, Nat.min_eq_left (show o' ≤ l.xk tg by omega)] at hj
      split at hj
      · rw [List.getElem?_take, if_pos (by assumption)] at hj
        exact hold d ⟨_, hgi, hj⟩ (by omega)
      · rw [List.getElem?_append, hfl] at hj
        split at hj
        · obtain ⟨u, hu⟩ : ∃ u, (a.eval y).cells.toList[j - o']? = some u := ⟨_, List.getElem?_eq_getElem (by omega)⟩
          refine ⟨u, ?_, (hlend _ _ _ hj hu).mono hst' (fun _ h => h) (fun _ _ h => h)⟩
          rw [List.getElem?_take, if_pos (by omega), hcurget, if_pos (by omega), show p * l.xk tg + j - (p * l.xk tg + o') = j - o' by omega]
          exact hu
        · rw [List.getElem?_drop] at hj
          refine hold d ⟨_, hgi, ?_⟩ (by omega)
          rwa [show o' + (cellsOf (ρ st.tm y)).length + (j - o' - (cellsOf (ρ st.tm y)).length) = j by omega] at hj
    · rw [List.getElem?_set_ne (Ne.symm hpi)] at hp'
      refine hold d ⟨_, hp', hj⟩ ?_
      rcases Nat.lt_or_gt_of_ne hpi with hlt | hgt
      · have : p * l.xk tg + l.xk tg ≤ i * l.xk tg := by
          calc p * l.xk tg + l.xk tg = (p + 1) * l.xk tg := by rw [Nat.add_mul, Nat.one_mul]
            _ ≤ _ := Nat.mul_le_mul_right _ hlt
        omega
      · have : i * l.xk tg + l.xk tg ≤ p * l.xk tg := by
          calc i * l.xk tg + l.xk tg = (i + 1) * l.xk tg := by rw [Nat.add_mul, Nat.one_mul]
            _ ≤ _ := Nat.mul_le_mul_right _ hgt
        omega
end
end Go.Proofs.YtgmkkjmdflhbnaaDoor.Ab
end
section
namespace Go.Proofs.YtgmkkjmdflhbnaaDoor.Ab
open Go
def laid (cs : List Value) (o : Nat) (us : List Value) : List Value := cs.take o ++ us ++ cs.drop (o + us.length)
theorem laid_length {cs us : List Value} {o : Nat} (h : o + us.length ≤ cs.length) : (laid cs o us).length = cs.length := by
  simp only [laid, List.length_append, List.length_take, List.length_drop]; omega
theorem laid_get {cs us : List Value} {o : Nat} (h : o + us.length ≤ cs.length) (q : Nat) : (laid cs o us)[q]? = if o ≤ q ∧ q < o + us.length then us[q - o]? else cs[q]? := by
  simp only [laid, List.append_assoc, List.getElem?_append, List.length_take, Nat.min_eq_left (show o ≤ cs.length by omega)]
  by_cases c1 : q < o
  · rw [if_pos c1, if_neg (by omega), List.getElem?_take, if_pos c1]
  · rw [if_neg c1]
    by_cases c2 : q - o < us.length
    · rw [if_pos c2, if_pos (by omega)]
    · rw [if_neg c2, if_neg (by omega), List.getElem?_drop]
      congr 1
      omega
theorem laid_mem {cs us : List Value} {o : Nat} {u : Value} (h : u ∈ laid cs o us) : u ∈ cs ∨ u ∈ us := by
  simp only [laid, List.mem_append] at h
  rcases h with (h | h) | h
  · exact .inl (List.mem_of_mem_take h)
  · exact .inr h
  · exact .inl (List.mem_of_mem_drop h)
theorem laid_cons {cs us : List Value} {o : Nat} {u : Value} (h : o + (us.length + 1) ≤ cs.length) : laid (cs.set o u) (o + 1) us = laid cs o (u :: us) := by
  apply List.ext_getElem?
  intro q
  rw [laid_get (by simp; omega), laid_get (by simpa using h), List.getElem?_set]
  simp only [List.length_cons]
  by_cases c1 : o = q
  · subst c1
    rw [if_neg (by omega), if_pos rfl, if_pos (by omega), if_pos (by omega)]
    simp
  · by_cases c2 : o + 1 ≤ q ∧ q < o + 1 + us.length
    · rw [if_pos c2, if_pos (by omega), show q - o = (q - (o + 1)) + 1 by omega]
      simp
    · rw [if_neg c2, if_neg c1, if_neg (by omega)]
theorem fill_fold (off : Nat) : ∀ (us : List Value) (k : Nat) (cells : Array Value), off + k + us.length ≤ cells.size →
    ((us.zipIdx k).foldl (fun cs (p : Value × Nat) => cs.setIfInBounds (off + p.2) p.1) cells) = (laid cells.toList (off + k) us).toArray
  | [], k, cells, _ => by simp [laid]
  | u :: us, k, cells, h => by
    simp only [List.length_cons] at h
    simp only [List.zipIdx_cons, List.foldl_cons]
    rw [fill_fold off us (k + 1) _ (by simp; omega)]
    rw [Array.toList_setIfInBounds, show off + (k + 1) = off + k + 1 by omega, laid_cons (by simp; omega)]
theorem fill_step {place : Nat → Option (Nat × Nat)} {cs : List Value} {i off size : Nat} {v : Value} {rest : List (Nat × Value)} (hp : place i = some (off, size)) (hs : v.cells.toList.length = size) (hl : off + size ≤ cs.length) :
    Instr.fill place cs.toArray ((i, v) :: rest) = Instr.fill place (laid cs off v.cells.toList).toArray rest := by
  have h1 : v.cells.size = size := by simpa using hs
  have hf := fill_fold off v.cells.toList 0 cs.toArray (by simpa [h1] using hl)
  rw [Instr.fill, hp]
  simp only [h1, ne_eq, not_true, decide_false, Bool.false_or, List.size_toArray, gt_iff_lt, decide_eq_true_eq]
  rw [if_neg (by omega)]
  congr 1
  rw [← Array.foldl_toList, Array.toList_zipIdx]
  exact hf
section
variable {P : Program} {T : List TI} {w0 : World} {g0 g : Gs} {l : Gl} {w : World} {st : St} {a : Act} {o : Oper} {next : Act → World → Prop} {Q : Exit → Act → World → Prop}
def Parts (g : Gs) (l : Gl) (w : World) (st : St) (ps : List (Nat × AV)) (vs : List (Nat × Value)) : Prop :=
  ps.length = vs.length ∧ ∀ (i : Nat) (p : Nat × AV) (v : Nat × Value), ps[i]? = some p → vs[i]? = some v → p.1 = v.1 ∧ TRep g l w st.mem.length p.2 v.2 ∧ ∀ t ∈ tagsOf p.2, t ∈ st.tags
theorem Parts.tail {p : Nat × AV} {v : Nat × Value} {ps : List (Nat × AV)} {vs : List (Nat × Value)} (h : Parts g l w st (p :: ps) (v :: vs)) : Parts g l w st ps vs :=
  ⟨by simpa using h.1, fun i q u hq hu => h.2 (i + 1) q u (by simpa using hq) (by simpa using hu)⟩
theorem Parts.head {p : Nat × AV} {v : Nat × Value} {ps : List (Nat × AV)} {vs : List (Nat × Value)} (h : Parts g l w st (p :: ps) (v :: vs)) : p.1 = v.1 ∧ TRep g l w st.mem.length p.2 v.2 ∧ ∀ t ∈ tagsOf p.2, t ∈ st.tags := h.2 0 p v (by simp) (by simp)
theorem Inv.parts (hI : Inv w0 g0 g l w st a) (ps : Array (Nat × Operand)) : Parts g l w st (ps.toList.map fun p => (p.1, ρ st.tm p.2)) (ps.map fun (i, x) => (i, a.eval x)).toList := by
  refine ⟨by simp, fun i p v hp hv => ?_⟩
  simp only [List.getElem?_map, Array.toList_map] at hp hv
  cases hq : ps.toList[i]? with
  | none => rw [hq] at hp; simp at hp
  | some q =>
    rw [hq] at hp hv
    simp only [Option.map_some, Option.some.injEq] at hp hv
    subst hp hv
    obtain ⟨h1, h2⟩ := hI.operand (a := a) q.2
    exact ⟨rfl, h1, h2⟩
theorem fill_out (hI : Inv w0 g0 g l w st a) {place : Nat → Option (Nat × Nat)} : ∀ {ps : List (Nat × AV)} {vs : List (Nat × Value)} {cs : List AV} {us : List Value} {K : List AV → Prop}, Parts g l w st ps vs → TReps g l w st.mem.length cs us → (∀ t ∈ tagsOfs cs, t ∈ st.tags) →
    fillAV place cs ps K → ∃ cs' us', K cs' ∧ Instr.fill place us.toArray vs = some us'.toArray ∧ TReps g l w st.mem.length cs' us' ∧ ∀ t ∈ tagsOfs cs', t ∈ st.tags
  | [], [], cs, us, K, _, hr, ht, h => ⟨cs, us, h, rfl, hr, ht⟩
  | (i, x) :: ps, (i', v) :: vs, cs, us, K, hp, hr, ht, h => by
    obtain ⟨hi, hx, hxt⟩ := hp.head
    simp only at hi hx hxt
    subst hi
    simp only [fillAV] at h
    cases hpl : place i with
    | none => rw [hpl] at h; exact h.elim
    | some q =>
      obtain ⟨off, size⟩ := q
      rw [hpl] at h
      simp only at h
      cases hb : boxable x <;> rw [hb] at h <;> simp only [G, cond_false, cond_true] at h
      cases h2 : Nat.beq (cellsOf x).length size <;> rw [h2] at h <;> simp only [cond_false, cond_true] at h
      cases h3 : Nat.ble (off + size) cs.length <;> rw [h3] at h <;> simp only [cond_false, cond_true] at h
      have e2 := Nat.eq_of_beq_eq_true h2
      have e3 := Nat.le_of_ble_eq_true h3
      obtain ⟨hyr, hy1, hyt⟩ := box_rep hx hI hxt hb
      have hlen := hyr.length
      rw [fill_step hpl (by omega) (by rw [← hr.length]; exact e3)]
      exact fill_out hI hp.tail (hr.range hyr off (by omega)) (fun t ht' => (tagsOfs_range (by omega) ht').elim (ht t) (hyt t)) h
  | [], _ :: _, _, _, _, hp, _, _, _ => by have := hp.1; simp at this
  | _ :: _, [], _, _, _, hp, _, _, _ => by have := hp.1; simp at this
theorem places_out (hT : TabOk P T) : ∀ (fa : List Field), ((fa.map fun f => (f.offset, f.type)).all fun p => Nat.blt 0 (ti T p.2).size) = true →
    fa.mapM (fun f => (P.info? f.type).map fun i => (f.offset, i.size)) = some ((fa.map fun f => (f.offset, f.type)).map fun p => (p.1, (ti T p.2).size))
  | [], _ => rfl
  | f :: fa, h => by
    simp only [List.map_cons, List.all_cons, Bool.and_eq_true] at h
    have hs := hT.size_pos (P := P) (t := f.type) (Nat.le_of_ble_eq_true h.1) ⟨default, default, default, default, default⟩
    have ih := places_out hT fa h.2
    simp only [List.mapM_cons, ih]
    cases hi : P.info? f.type with
    | none => simp [sizeOf, typeInfo, hi] at hs
    | some i =>
      simp [sizeOf, typeInfo, hi] at hs
      simp [hs]
theorem build_sound (hT : TabOk P T) (hI : Inv w0 g0 g l w st a) {t : Nat} {ps : Array (Nat × Operand)} {K : St → Prop} (ho : o.op = .build t ps)
    (h : match (ti T t).k with
      | .struct fs => G (fs.all fun p => Nat.blt 0 (ti T p.2).size) (fillAV (fun i => (fs[i]?).map fun p => (p.1, (ti T p.2).size)) ((ti T t).shape.map CK.zero) (ps.toList.map fun p => (p.1, ρ st.tm p.2)) fun cs => K (st.put o.dst (.agg cs)))
      | .array _ e => G (Nat.blt 0 (ti T e).size) (fillAV (fun i => some (i * (ti T e).size, (ti T e).size)) ((ti T t).shape.map CK.zero) (ps.toList.map fun p => (p.1, ρ st.tm p.2)) fun cs => K (st.put o.dst (.agg cs)))
      | _ => False)
    (hn : Goes w0 g0 K next) : o.wp P a w next Q := by
  have go : ∀ (cs' : List AV) (us' : List Value), K (st.put o.dst (.agg cs')) → P.built t (ps.map fun (i, x) => (i, a.eval x)).toList = some us'.toArray → TReps g l w st.mem.length cs' us' → (∀ t ∈ tagsOfs cs', t ∈ st.tags) → o.wp P a w next Q := by
    intro cs' us' hK hb hr ht
    have hrun : (execOp a.eval o).run P w = .ok (.value (.agg us'.toArray)) w := by
      unfold execOp
      rw [ho]
      exact exec_v (run_build w t _ _ hb)
    exact wp_value hrun (hn g l w _ _ (hI.put (by simp only [TRep]; exact ⟨us', rfl, hr⟩) (by simpa [tagsOf] using ht) _) hK)
  cases hk : (ti T t).k <;> rw [hk] at h <;> simp only at h
  case struct fs =>
    obtain ⟨i, z, hi, hz, hsz, _, hzl, _, hzr, hzt, _, _⟩ := zeros_rep (P := P) hT (t := t) (by rw [hk]; simp) (by rw [hk]; simp)
    obtain ⟨fa, hu, rfl⟩ := hT.u_struct hk
    cases hf : ((fa.toList.map fun f => (f.offset, f.type)).all fun p => Nat.blt 0 (ti T p.2).size) <;> rw [hf] at h <;> simp only [G, cond_false, cond_true] at h
    obtain ⟨cs', us', hK, hfill, hr, ht⟩ := fill_out hI (hI.parts ps) (hzr g l w _) (by rw [hzt]; simp) h
    refine go cs' us' hK ?_ hr ht
    unfold Program.built
    simp only [hi, hu, hz, places_out (P := P) hT _ hf]
    rw [← hfill]
    congr 1
    · funext i
      simp
  case array n e =>
    obtain ⟨i, z, hi, hz, hsz, _, hzl, _, hzr, hzt, _, _⟩ := zeros_rep (P := P) hT (t := t) (by rw [hk]; simp) (by rw [hk]; simp)
    have hu := hT.u_array hk
    cases hf : Nat.blt 0 (ti T e).size <;> rw [hf] at h <;> simp only [G, cond_false, cond_true] at h
    obtain ⟨cs', us', hK, hfill, hr, ht⟩ := fill_out hI (hI.parts ps) (hzr g l w _) (by rw [hzt]; simp) h
    refine go cs' us' hK ?_ hr ht
    have hse := hT.size_pos (P := P) (t := e) (Nat.le_of_ble_eq_true hf) w
    unfold Program.built
    cases hie : P.info? e with
    | none => simp [sizeOf, typeInfo, hie] at hse
    | some ie =>
      simp [sizeOf, typeInfo, hie] at hse
      simp only [hi, hu, hz, hie, hse]
      rw [← hfill]
end
end Go.Proofs.YtgmkkjmdflhbnaaDoor.Ab
end
section
namespace Go.Proofs.YtgmkkjmdflhbnaaDoor.Ab
open Go
theorem Rep.box {w : World} {stb : Nat → Prop} {ob : Nat → Option Nat} {x : AV} {v : Value} (h : Rep w stb ob x v) (hs : boxable x = true) :
    (cellsOf x).length = v.cells.toList.length ∧ (∀ u ∈ v.cells.toList, u.oneCell' = true) ∧ ∀ (j : Nat) (c : AV) (u : Value), (cellsOf x)[j]? = some c → v.cells.toList[j]? = some u → Rep w stb ob c u := by
  have one : ∀ {x : AV} {v : Value}, Rep w stb ob x v → scalarAV x = true → v.oneCell' = true := by
    intro x v h hs
    cases h <;> first | rfl | (simp [scalarAV] at hs; done)
  have single : scalarAV x = true → (∀ cs, x ≠ .agg cs) → (cellsOf x).length = v.cells.toList.length ∧ (∀ u ∈ v.cells.toList, u.oneCell' = true) ∧ ∀ (j : Nat) (c : AV) (u : Value), (cellsOf x)[j]? = some c → v.cells.toList[j]? = some u → Rep w stb ob c u := by
    intro hs hna
    have h1 := one h hs
    have hc : cellsOf x = [x] := by cases x <;> first | rfl | exact absurd rfl (hna _)
    have hv : v.cells = #[v] := by cases v <;> first | rfl | (simp [Value.oneCell'] at h1; done)
    rw [hc, hv]
    refine ⟨rfl, by simpa using h1, fun j c u hj hu => ?_⟩
    cases j with
    | zero => simp at hj hu; subst hj hu; exact h
    | succ j => simp at hj
  cases h with
  | agg cs vs hl hr =>
    simp only [boxable, List.all_eq_true] at hs
    refine ⟨by simpa [cellsOf, Value.cells] using hl, fun u hu => ?_, fun j c u hj hu => hr j c u hj (by simpa [Value.cells] using hu)⟩
    have hu' : u ∈ vs := by simpa [Value.cells] using hu
    obtain ⟨i, hi⟩ := List.mem_iff_getElem?.1 hu'
    have hil : i < cs.length := by rw [hl]; exact (List.getElem?_eq_some_iff.1 hi).1
    have hc : cs[i]? = some cs[i] := List.getElem?_eq_getElem hil
    exact one (hr i _ _ hc hi) (hs _ (List.mem_of_getElem? hc))
  | _ => exact single hs (by simp)
structure Rows (w : World) (stb : Nat → Prop) (ob : Nat → Option Nat) (k : Nat) (xs : List (List AV)) (us : List Value) : Prop where
  len : us.length = xs.length * k
  row : ∀ x ∈ xs, x.length = k
  one : ∀ u ∈ us, u.oneCell' = true
  rep : ∀ (i : Nat) (x : List AV) (j : Nat) (c : AV), xs[i]? = some x → x[j]? = some c → ∃ v, us[i * k + j]? = some v ∧ Rep w stb ob c v
theorem row_le {i n k : Nat} (h : i < n) : i * k + k ≤ n * k := by
  calc i * k + k = (i + 1) * k := by rw [Nat.add_mul, Nat.one_mul]
    _ ≤ _ := Nat.mul_le_mul_right _ h
theorem Rows.set {w : World} {stb : Nat → Prop} {ob : Nat → Option Nat} {k : Nat} {xs : List (List AV)} {us : List Value} (h : Rows w stb ob k xs us) {i : Nat} (hi : i < xs.length) {ys : List AV} {vs : List Value}
    (hy : ys.length = k) (hv : vs.length = k) (h1 : ∀ u ∈ vs, u.oneCell' = true) (hr : ∀ (j : Nat) (c : AV) (u : Value), ys[j]? = some c → vs[j]? = some u → Rep w stb ob c u) :
    Rows w stb ob k (xs.set i ys) (laid us (i * k) vs) := by
  have hik := row_le (k := k) hi
  have hl : i * k + vs.length ≤ us.length := by rw [hv, h.len]; exact hik
  refine ⟨by rw [laid_length hl, h.len, List.length_set], fun x hx => ?_, fun u hu => (laid_mem hu).elim (h.one u) (h1 u), fun p x j c hp hj => ?_⟩
  · rcases List.mem_or_eq_of_mem_set hx with hx | rfl
    · exact h.row x hx
    · exact hy
  · rw [laid_get hl, hv]
    by_cases e : p = i
    · subst e
      rw [List.getElem?_set_self hi] at hp
      obtain rfl := Option.some.inj hp
      have hjl := (List.getElem?_eq_some_iff.1 hj).1
      rw [if_pos (by omega)]
      obtain ⟨u, hu⟩ : ∃ u, vs[j]? = some u := ⟨_, List.getElem?_eq_getElem (by omega)⟩
      exact ⟨u, by rw [show p * k + j - p * k = j by omega]; exact hu, hr j c u hj hu⟩
    · rw [List.getElem?_set_ne (Ne.symm e)] at hp
      have hjl := (List.getElem?_eq_some_iff.1 hj).1
      have hxk := h.row x (List.mem_of_getElem? hp)
      have hpl := (List.getElem?_eq_some_iff.1 hp).1
      rw [if_neg ?_]
      · exact h.rep p x j c hp hj
      · rcases Nat.lt_or_gt_of_ne e with hlt | hgt
        · have := row_le (k := k) hlt; omega
        · have := row_le (k := k) hgt; omega
theorem rows_out {w : World} {stb : Nat → Prop} {ob : Nat → Option Nat} {k : Nat} : ∀ {ps : List (Nat × AV)} {vs : List (Nat × Value)} {xs : List (List AV)} {us : List Value} {K : List (List AV) → Prop},
    ps.length = vs.length → (∀ (i : Nat) (p : Nat × AV) (v : Nat × Value), ps[i]? = some p → vs[i]? = some v → p.1 = v.1 ∧ Rep w stb ob p.2 v.2) → Rows w stb ob k xs us → fillRows k xs ps K →
    ∃ xs' us', K xs' ∧ Instr.fill (fun i => some (i * k, k)) us.toArray vs = some us'.toArray ∧ Rows w stb ob k xs' us' ∧ xs'.length = xs.length
  | [], [], xs, us, K, _, _, hR, h => ⟨xs, us, h, rfl, hR, rfl⟩
  | (i, x) :: ps, (i', v) :: vs, xs, us, K, hl, hp, hR, h => by
    obtain ⟨hi, hx⟩ := hp 0 (i, x) (i', v) (by simp) (by simp)
    simp only at hi hx
    subst hi
    simp only [fillRows] at h
    cases hb : boxable x <;> rw [hb] at h <;> simp only [G, cond_false, cond_true] at h
    cases h2 : Nat.beq (cellsOf x).length k <;> rw [h2] at h <;> simp only [cond_false, cond_true] at h
    cases h3 : Nat.blt i xs.length <;> rw [h3] at h <;> simp only [cond_false, cond_true] at h
    have e2 := Nat.eq_of_beq_eq_true h2
    have e3 : i < xs.length := Nat.le_of_ble_eq_true h3
    obtain ⟨hlen, h1, hr⟩ := hx.box hb
    rw [fill_step (off := i * k) (size := k) rfl (by omega) (by rw [hR.len]; exact row_le e3)]
    obtain ⟨xs', us', k1, k2, k3, k4⟩ := rows_out (by simpa using hl) (fun j p u hq hu => hp (j + 1) p u (by simpa using hq) (by simpa using hu)) (hR.set e3 e2 (by omega) h1 hr) h
    exact ⟨xs', us', k1, k2, k3, by rw [k4, List.length_set]⟩
  | [], _ :: _, _, _, _, hl, _, _, _ => by simp at hl
  | _ :: _, [], _, _, _, hl, _, _, _ => by simp at hl
section
variable {P : Program} {T : List TI} {w0 : World} {g0 g : Gs} {l : Gl} {w : World} {st : St} {a : Act} {o : Oper} {next : Act → World → Prop} {Q : Exit → Act → World → Prop}
theorem Inv.newSlice (hI : Inv w0 g0 g l w st a) {e k n : Nat} {cs : Array Value} {xs : List (List AV)} (hk : 0 < k) (hn : n ≤ maxLen) (hx : xs.length = n) (hR : Rows w g.stb g.ob k xs cs.toList) (d : Option Nat) :
    Inv w0 g0 g (l.own st.fresh (.slice (some ⟨w.heap.size, 0, none⟩) n n) k xs) (w.alloc (.cells cs e)) (st.put d (.sl st.fresh k xs)) (a.put d (.slice (some ⟨w.heap.size, 0, none⟩) n n)) := by
  have h' := hI.alloc (.cells cs e)
  have hs : cs.size = n * k := by have := hR.len; rw [hx] at this; simpa using this
  have hall : AllOne (w.alloc (.cells cs e)) (.slice (some ⟨w.heap.size, 0, none⟩) n n) := by
    intro b cs' e' fr hb hh
    obtain rfl : w.heap.size = b := by simpa [Value.ownBlock] using hb
    rw [heap_alloc_new] at hh
    cases hh
    exact hR.one
  refine h'.newTag (by have := fresh_pos st; omega) (by have := fresh_not st 0; simpa using this) ⟨e, cs.toList, ?_, ?_, ?_, hR.one, ?_⟩ ?_ d
  · simp only [Gl.own, if_true, hx]
    exact World.ownsRow_lit w cs n hI.ext.size hn hs
  · simp only [Gl.own, if_true]; exact ⟨hk, hall⟩
  · simpa [Gl.own] using hR.row
  · simp only [Gl.own, if_true]
    intro i x j c hi hj
    obtain ⟨v, hv, hr⟩ := hR.rep i x j c hi hj
    exact ⟨v, hv, hr.mono (fun b hb => heap_alloc w _ b (hI.stbLt b hb).1) (fun _ h => h) (fun _ _ h => h)⟩
  · intro b hb
    obtain rfl : w.heap.size = b := by simpa [Value.ownBlock] using hb
    refine ⟨fun hs => ?_, fun j hj he => ?_, fun u hu he => ?_, fun hf => by have := hI.heap.foot_lt hf; omega⟩
    · have := (hI.stbLt _ hs).1; omega
    · obtain ⟨mb, hm⟩ : ∃ mb, st.mem[j]? = some mb := ⟨_, List.getElem?_eq_getElem hj⟩
      cases hmine : mb.mine with
      | true => have := (hI.priv j mb hm hmine).2.1; omega
      | false =>
        cases mb with
        | frz cs =>
          have hb := (hI.mem j _ hm).1
          have := (hI.stbLt _ hb).1
          omega
        | dead => exact (hI.mem j _ hm).elim
        | cells cs => simp [MB.mine] at hmine
        | siter s p => simp [MB.mine] at hmine
        | miter _ _ _ _ _ _ => simp [MB.mine] at hmine
    · obtain ⟨e, fl, hown, _⟩ := hI.own u hu
      have := (hown.lt _ he).2
      omega
theorem madeT_out {e : Nat} (h : madeT T e = true) : (ti T e).k ≠ .other ∧ (∀ ts, (ti T e).k ≠ .tuple ts) ∧ 0 < (ti T e).size ∧ 0 < (ti T e).bytes := by
  simp only [madeT, Bool.and_eq_true] at h
  refine ⟨fun hk => ?_, fun ts hk => ?_, Nat.le_of_ble_eq_true h.2.1, Nat.le_of_ble_eq_true h.2.2⟩
  · rw [hk] at h; simp at h
  · rw [hk] at h; simp at h
theorem zero_rows (hT : TabOk P T) {e : Nat} (h : madeT T e = true) (n : Nat) {z : Value} {i : TypeInfo} (hi : P.info? e = some i) (hz : i.zero = some z) (g : Gs) (w : World) :
    Rows w g.stb g.ob (ti T e).size (List.replicate n ((ti T e).shape.map CK.zero)) (madeCells z.cells (n * (ti T e).size)).toList := by
  obtain ⟨h1, h2, h3, h4⟩ := madeT_out h
  obtain ⟨i', z', hi', hz', hsz, hby, hzl, hsl, hzr, hzt, hz1, hrep⟩ := zeros_rep (P := P) hT h1 h2
  rw [hi] at hi'
  cases hi'
  rw [hz] at hz'
  cases hz'
  have hzl' : z.cells.size = (ti T e).size := by simpa using hzl
  refine ⟨by simp [size_madeCells], fun x hx => ?_, fun u hu => ?_, fun p x j c hp hj => ?_⟩
  · obtain ⟨_, rfl⟩ := List.mem_replicate.1 hx
    simp [hsl]
  · simp only [madeCells, Array.toList_map, List.mem_map] at hu
    obtain ⟨q, _, rfl⟩ := hu
    refine hz1 _ ?_
    have hlt : q % z.cells.size < z.cells.size := Nat.mod_lt _ (by omega)
    rw [getElem!_pos z.cells _ hlt]
    simp
  · rw [List.getElem?_replicate] at hp
    split at hp
    · obtain rfl := Option.some.inj hp
      obtain ⟨v, hv, hr⟩ := hrep g w j c hj
      refine ⟨v, ?_, hr⟩
      have hjl : j < (ti T e).size := by have := (List.getElem?_eq_some_iff.1 hj).1; simpa [hsl] using this
      have hpk := row_le (k := (ti T e).size) (show p < n by assumption)
      have hq : (p * (ti T e).size + j) % z.cells.size = j := by
        rw [hzl', Nat.add_comm, Nat.add_mul_mod_self_right, Nat.mod_eq_of_lt hjl]
      simp only [madeCells, Array.toList_map, List.getElem?_map]
      rw [Array.getElem?_toList, Array.getElem?_range, if_pos (by omega)]
      simp only [Option.map_some, hq]
      rw [getElem!_pos z.cells j (by omega)]
      rw [← hv]
      simp
    · cases hp
theorem makeSlice_sound (hT : TabOk P T) (hI : Inv w0 g0 g l w st a) {t : Nat} {x y : Operand} {K : St → Prop} (ho : o.op = .makeSlice t x y)
    (h : match (ti T t).k, ρ st.tm x, ρ st.tm y with
      | .slice e, .int _ n, .int _ m => G (madeT T e) (G (leI 0 n) (G (eqI n m) (G (roomN n (ti T e).bytes) (K (st.put o.dst (.sl st.fresh (ti T e).size (List.replicate n.toNat ((ti T e).shape.map CK.zero))))))))
      | _, _, _ => False)
    (hn : Goes w0 g0 K next) : o.wp P a w next Q := by
  obtain ⟨hx, _⟩ := hI.operand (a := a) x
  obtain ⟨hy, _⟩ := hI.operand (a := a) y
  cases hk : (ti T t).k <;> rw [hk] at h <;> try exact h.elim
  rename_i e
  cases hxv : ρ st.tm x <;> rw [hxv] at h hx <;> try exact h.elim
  rename_i k1 n
  cases hyv : ρ st.tm y <;> rw [hyv] at h hy <;> try exact h.elim
  rename_i k2 m
  simp only at h
  have hx := int_of_rep hx
  have hy := int_of_rep hy
  cases h0 : madeT T e <;> rw [h0] at h <;> simp only [G, cond_false, cond_true] at h
  cases h1 : leI 0 n <;> rw [h1] at h <;> simp only [cond_false, cond_true] at h
  cases h2 : eqI n m <;> rw [h2] at h <;> simp only [cond_false, cond_true] at h
  cases h3 : roomN n (ti T e).bytes <;> rw [h3] at h <;> simp only [cond_false, cond_true] at h
  have e1 := of_decide_eq_true h1
  have e2 := of_decide_eq_true h2
  have e3 : n * ((ti T e).bytes : Int) ≤ 140737488355328 := of_decide_eq_true h3
  subst e2
  obtain ⟨q1, q2, q3, q4⟩ := madeT_out h0
  obtain ⟨i, z, hi, hz, hsz, hby, _⟩ := zeros_rep (P := P) hT q1 q2
  obtain ⟨N, rfl⟩ : ∃ N : Nat, n = N := ⟨n.toNat, by omega⟩
  have hNb : N * (ti T e).bytes ≤ 140737488355328 := by
    have h : ((N * (ti T e).bytes : Nat) : Int) ≤ 140737488355328 := by rw [Int.natCast_mul]; exact e3
    omega
  have hNle : N ≤ N * (ti T e).bytes := Nat.le_mul_of_pos_right _ q4
  have hml : N ≤ maxLen := by simp only [maxLen]; omega
  have hby' : i.bytes * N ≤ 140737488355328 := by rw [hby, Nat.mul_comm]; exact hNb
  have h63' : (N : Int) ≤ 9223372036854775807 := by omega
  have hb' : (i.bytes : Int) * (N : Int) ≤ 281474976710656 := by
    have h : ((i.bytes * N : Nat) : Int) ≤ 281474976710656 := by omega
    rwa [Int.natCast_mul] at h
  have hr := run_make (P := P) w t e i z (hT.u_slice hk) hi hz k1 k2 N N (by omega) (Int.le_refl _) hb' h63'
  simp only [Int.toNat_natCast] at hr h
  have hrun : (execOp a.eval o).run P w = .ok (.value (.slice (some ⟨w.heap.size, 0, none⟩) N N)) (w.alloc (.cells (madeCells z.cells (N * i.size)) e)) := by
    unfold execOp
    rw [ho]
    refine exec_v ?_
    rw [hx, hy, hr]
  refine wp_value hrun (hn _ _ _ _ _ (hI.newSlice q3 hml (by simp) ?_ _) h)
  rw [hsz]
  exact zero_rows hT h0 N hi hz g w
theorem buildSlice_sound (hT : TabOk P T) (hI : Inv w0 g0 g l w st a) {t n : Nat} {ps : Array (Nat × Operand)} {K : St → Prop} (ho : o.op = .buildSlice t n ps)
    (h : match (ti T t).k with
      | .slice e =>
        let s' := st.frzAll (tagsOfs (ps.toList.map fun p => ρ st.tm p.2))
        G (madeT T e) (G (Nat.ble (n * (ti T e).size) 16777216) (fillRows (ti T e).size (List.replicate n ((ti T e).shape.map CK.zero)) (ps.toList.map fun p => (p.1, frzV (ρ st.tm p.2))) fun xs =>
          K (s'.put o.dst (.sl s'.fresh (ti T e).size xs))))
      | _ => False)
    (hn : Goes w0 g0 K next) : o.wp P a w next Q := by
  cases hk : (ti T t).k <;> rw [hk] at h <;> try exact h.elim
  rename_i e
  simp only at h
  cases h0 : madeT T e <;> rw [h0] at h <;> simp only [G, cond_false, cond_true] at h
  cases h1 : Nat.ble (n * (ti T e).size) 16777216 <;> rw [h1] at h <;> simp only [cond_false, cond_true] at h
  have e1 := Nat.le_of_ble_eq_true h1
  obtain ⟨q1, q2, q3, q4⟩ := madeT_out h0
  have hnle : n ≤ n * (ti T e).size := Nat.le_mul_of_pos_right _ q3
  obtain ⟨i, z, hi, hz, hsz, hby, hzl, _⟩ := zeros_rep (P := P) hT q1 q2
  have htags : ∀ u ∈ tagsOfs (ps.toList.map fun p => ρ st.tm p.2), u ∈ st.tags := by
    intro u hu
    obtain ⟨j, c, hc, hu⟩ := tagsOfs_iff hu
    simp only [List.getElem?_map, Option.map_eq_some_iff] at hc
    obtain ⟨p, _, rfl⟩ := hc
    exact (hI.operand (a := a) p.2).2 u hu
  obtain ⟨g', hI', s1, n1, o1, f1, b1, c1⟩ := hI.frzAll _ (fun t ht => tags_pos hI t (htags t ht))
  obtain ⟨xs', us', hK, hfill, hR, hlen⟩ := rows_out (w := w) (stb := g'.stb) (ob := g'.ob) (vs := (ps.map fun (i, x) => (i, a.eval x)).toList) (by simp) (fun j p v hp hv => by
    simp only [List.getElem?_map, Array.toList_map] at hp hv
    cases hq : ps.toList[j]? with
    | none => rw [hq] at hp; simp at hp
    | some q =>
      rw [hq] at hp hv
      simp only [Option.map_some, Option.some.injEq] at hp hv
      subst hp hv
      refine ⟨rfl, ?_⟩
      obtain ⟨hx, hxt⟩ := hI.operand (a := a) q.2
      rw [o1]
      refine lend_rep (base := w0.heap.size) s1 (S := tagsOf (ρ st.tm q.2)) (fun t ht => ⟨hI.own t (hxt t ht), b1 t ?_ (hxt t ht)⟩) _ _ (fun t ht => ht) hx
      exact tagsOfs_get (i := j) (c := ρ st.tm q.2) (by simp [hq]) t ht) (zero_rows hT h0 n hi hz g' w) h
  have hrun : (execOp a.eval o).run P w = .ok (.value (.slice (some ⟨w.heap.size, 0, none⟩) n n)) (w.alloc (.cells us'.toArray e)) := by
    unfold execOp
    rw [ho]
    refine exec_v ?_
    have hu := hT.u_slice hk
    have hse := hT.size_pos (P := P) (t := e) q3 w
    have hfill' : Instr.fill (fun i => some (i * (ti T e).size, (ti T e).size)) (madeCells z.cells (n * (ti T e).size)) (ps.map fun (i, x) => (i, a.eval x)).toList = some us'.toArray := by
      rw [← hfill, Array.toArray_toList]
    have hzv : (zeroValue e).run P w = .ok z w := by simp [zeroValue, typeInfo, hi, hz]
    simp only [Instr.buildSlice, Sem.run_bind, run_underlying hu, Result.andThen_ok, hse]
    rw [if_neg (by omega)]
    simp only [Array.toList_map] at hfill'
    by_cases hz0 : n * (ti T e).size = 0
    · have hr0 : Array.range 0 = #[] := rfl
      rw [hz0] at hfill' ⊢
      simp only [madeCells, hr0, List.map_toArray, List.map_nil] at hfill'
      simp [hr0, hfill', newRow]
    · unfold madeCells at hfill'
      simp [hz0, hzv, hfill', newRow]
  refine wp_value hrun (hn _ _ _ _ _ (hI'.newSlice q3 (by simp only [maxLen]; omega) (by rw [hlen]; simp) hR _) hK)
end
end Go.Proofs.YtgmkkjmdflhbnaaDoor.Ab
end
section
namespace Go.Proofs.YtgmkkjmdflhbnaaDoor.Ab
open Go
theorem rows_nil {w : World} {stb : Nat → Prop} {ob : Nat → Option Nat} (k : Nat) : Rows w stb ob k [] [] := ⟨by simp, by simp, by simp, by simp⟩
theorem Rows.append {w : World} {stb : Nat → Prop} {ob : Nat → Option Nat} {k : Nat} {xs ys : List (List AV)} {us vs : List Value} (h : Rows w stb ob k xs us) (h' : Rows w stb ob k ys vs) : Rows w stb ob k (xs ++ ys) (us ++ vs) := by
  refine ⟨by simp [h.len, h'.len, Nat.add_mul], fun x hx => ?_, fun u hu => ?_, fun i x j c hi hj => ?_⟩
  · exact (List.mem_append.1 hx).elim (h.row x) (h'.row x)
  · exact (List.mem_append.1 hu).elim (h.one u) (h'.one u)
  · rw [List.getElem?_append] at hi
    split at hi
    · obtain ⟨v, hv, hr⟩ := h.rep i x j c hi hj
      refine ⟨v, ?_, hr⟩
      rw [List.getElem?_append_left (List.getElem?_eq_some_iff.1 hv).1]
      exact hv
    · obtain ⟨v, hv, hr⟩ := h'.rep _ x j c hi hj
      refine ⟨v, ?_, hr⟩
      have hge : xs.length ≤ i := by omega
      have hmul : xs.length * k ≤ i * k := Nat.mul_le_mul_right _ hge
      have hsub : (i - xs.length) * k = i * k - xs.length * k := Nat.sub_mul _ _ _
      rw [List.getElem?_append_right (by rw [h.len]; omega), h.len]
      rw [show i * k + j - xs.length * k = (i - xs.length) * k + j by omega]
      exact hv
theorem Rows.mono {w w' : World} {stb stb' : Nat → Prop} {ob ob' : Nat → Option Nat} {k : Nat} {xs : List (List AV)} {us : List Value} (h : Rows w stb ob k xs us) (hw : ∀ b, stb b → w'.heap[b]? = w.heap[b]?) (hs : ∀ b, stb b → stb' b)
    (ho : ∀ j b, ob j = some b → ob' j = some b) : Rows w' stb' ob' k xs us :=
  ⟨h.len, h.row, h.one, fun i x j c hi hj => by obtain ⟨v, hv, hr⟩ := h.rep i x j c hi hj; exact ⟨v, hv, hr.mono hw hs ho⟩⟩
section
variable {P : Program} (w : World)
theorem run_append_row (base : Nat) (t ty e e0 : TypeId) (i : TypeInfo) (z : Value) (size bytes : Nat) (ht : P.underlying t = some (.slice e)) (hi : P.info? e = some i) (hz : i.zero = some z)
    (hsize : i.size = size) (hby : i.bytes = bytes) (hzs : z.cells.size = size) (hsz : 0 < size) (hz1 : ∀ u ∈ z.cells.toList, u.oneCell' = true)
    (v : Value) (n : Nat) (xs : List Value) (hown : w.ownsRow base e0 size v n xs) (hall : AllOne w v)
    (A : Option Addr) (m c : Nat) (news : List Value) (hA : A = none → m = 0) (hl : news.length = m * size) (hnews : ∀ ad, A = some ad → ∀ j u, news[j]? = some u → w.cell? (ad.add j) = some u) (h1 : ∀ u ∈ news, u.oneCell' = true) (hx1 : ∀ u ∈ xs, u.oneCell' = true)
    (h63 : n + m ≤ maxLen) (hbytes : (n + m) * bytes ≤ 140737488355328) (hbase : base ≤ w.heap.size) :
    ∃ v' w' e1, (Builtin.append_ #[t, t] ty #[v, .slice A m c]).run P w = .ok v' w' ∧ w'.ownsRow base e1 size v' (n + m) (xs ++ news) ∧ w.grownBy w' v.ownBlock ∧
      (v'.ownBlock = v.ownBlock ∨ ∀ b, v'.ownBlock = some b → w.heap.size ≤ b) ∧ AllOne w' v' := by
  have zc : ∀ n, ∀ u ∈ (Builtin.zeroCells z.cells n).toList, u.oneCell' = true := by
    intro n u hu
    simp only [Builtin.zeroCells, Array.toList_map, List.mem_map] at hu
    obtain ⟨q, _, rfl⟩ := hu
    refine hz1 _ ?_
    have hlt : q % z.cells.size < z.cells.size := Nat.mod_lt _ (by omega)
    rw [getElem!_pos z.cells _ hlt]
    simp
  cases A with
  | none =>
    obtain rfl := hA rfl
    obtain rfl : news = [] := List.eq_nil_of_length_eq_zero (by simpa using hl)
    refine ⟨v, w, e0, ?_, by simpa using hown, ⟨rfl, rfl, rfl, Nat.le_refl _, fun _ _ _ => rfl⟩, .inl rfl, hall⟩
    rcases hown.2 with ⟨rfl, rfl⟩ | ⟨g, cap, cur, rfl, _, _, hnc, _⟩
    · simp [Builtin.append_, run_underlying ht, sizeOf, typeInfo, hi, Builtin.lenOf, Builtin.firstCells]
    · simp [Builtin.append_, run_underlying ht, sizeOf, typeInfo, hi, Builtin.lenOf, Builtin.firstCells, hnc, storeCells]
  | some ad =>
    rcases hown.2 with ⟨rfl, rfl⟩ | ⟨g, cap, cur, rfl, hbg, hg, hnc, hcm, hcs, htake⟩
    · obtain rfl : xs = [] := List.eq_nil_of_length_eq_zero (by simpa using hown.1)
      by_cases hm : m = 0
      · subst hm
        obtain rfl : news = [] := List.eq_nil_of_length_eq_zero (by simpa using hl)
        refine ⟨.slice none 0 0, w, e0, ?_, by simpa using hown, ⟨rfl, rfl, rfl, Nat.le_refl _, fun _ _ _ => rfl⟩, .inl rfl, hall⟩
        have hf := run_firstCells_some (P := P) w i.size 0 ad 0 c [] (by simp) (by simp)
        simp [Builtin.append_, run_underlying ht, sizeOf, typeInfo, hi, Builtin.lenOf, hf]
      · rw [Nat.zero_add] at h63 hbytes ⊢
        have hr := run_append_nil (P := P) w t ty e i z ht hi hz ad m c news (by rw [hsize]; exact hl) (hnews ad rfl) (by omega) (by simp only [maxLen] at h63; omega) (by rw [hby]; omega)
        have hge := grownCap_ge w m 0 e
        have hcm := grownCap_le_maxLen w m 0 e h63
        have hnew := heap_alloc_new w.drew (.cells (news.toArray ++ Builtin.zeroCells z.cells (grownCap w m 0 e - m)) e)
        refine ⟨_, _, e, hr, ⟨by simpa using hl, .inr ⟨w.heap.size, _, _, rfl, hbase, hnew, hge, hcm, ?_, ?_⟩⟩, ⟨rfl, rfl, rfl, by simp, fun k hk _ => heap_alloc_old w.drew _ k hk⟩, .inr fun b hb => by cases hb; exact Nat.le_refl _, ?_⟩
        · simp only [Array.size_append, List.size_toArray, size_zeroCells, hzs, hl, ← Nat.add_mul]
          congr 1
          omega
        · simp only [Array.toList_append, List.nil_append]
          rw [← hl]
          exact List.take_left
        · intro b cs' e' fr hb hh u hu
          cases hb
          have hh' : (w.drew.alloc (.cells (news.toArray ++ Builtin.zeroCells z.cells (grownCap w m 0 e - m)) e)).heap[w.drew.heap.size]? = _ := hh
          rw [hnew] at hh'
          cases hh'
          simp only [Array.toList_append, List.mem_append] at hu
          exact hu.elim (h1 u) (zc _ u)
    · have hrow : (Value.slice (some ⟨g, 0, none⟩) n cap).ownBlock = some g := rfl
      by_cases hroom : n + m ≤ cap
      · have hfit : n * i.size + news.length ≤ cur.size := by rw [hl, hcs, hsize, ← Nat.add_mul]; exact Nat.mul_le_mul_right _ hroom
        have hf := run_firstCells_some (P := P) w i.size m ad m c news (by rw [hsize]; exact hl) (hnews ad rfl)
        have hst := run_storeCells_at P g (n * i.size) e0 news 0 cur w hg (by simpa using hfit) h1
        simp only [Nat.add_zero] at hst
        have hr : (Builtin.append_ #[t, t] ty #[.slice (some ⟨g, 0, none⟩) n cap, .slice (some ad) m c]).run P w =
            .ok (.slice (some ⟨g, 0, none⟩) (n + m) cap) (w.setRow g (cur.toList.take (n * i.size) ++ news ++ cur.toList.drop (n * i.size + news.length)).toArray) := by
          simp [Builtin.append_, run_underlying ht, sizeOf, typeInfo, hi, Builtin.lenOf, hroom, hf, Addr.add_lit, hst]
        have hlen : (xs ++ news).length = (n + m) * size := by rw [List.length_append, hown.1, hl, Nat.add_mul]
        rw [hsize] at hr hfit
        refine ⟨_, _, e0, hr, ⟨hlen, .inr ⟨g, cap, _, rfl, hbg, setRow_heap w g cur _ e0 _ hg, hroom, hcm, ?_, ?_⟩⟩, ⟨rfl, rfl, rfl, by simp, fun k _ hk => setRow_other w g k _ (fun e => hk (by simp [Value.ownBlock, e]))⟩, Or.inl rfl, ?_⟩
        · simp only [List.size_toArray, List.length_append, List.length_take, List.length_drop, Array.length_toList]
          omega
        · rw [htake, ← hlen]
          exact List.take_left
        · intro b cs' e' fr hb hh u hu
          cases hb
          rw [setRow_heap w g cur _ e0 _ hg] at hh
          cases hh
          simp only [List.mem_append] at hu
          rcases hu with (hu | hu) | hu
          · exact hall g cur e0 (0, 0) rfl hg u (List.mem_of_mem_take hu)
          · exact h1 u hu
          · exact hall g cur e0 (0, 0) rfl hg u (List.mem_of_mem_drop hu)
      · have hge := grownCap_ge w (n + m) cap e
        have hcm2 := grownCap_le_maxLen w (n + m) cap e h63
        have hr := run_append_grow (P := P) w t ty e i z ht hi hz ⟨g, 0, none⟩ n cap xs (by rw [hsize]; exact hown.1) (hown.cells (g := g) rfl) ad m c news (by rw [hsize]; exact hl) (hnews ad rfl) (by omega) (by simp only [maxLen] at h63; omega) (growslice_fits (by omega) (by rw [hby]; exact hbytes))
        have hnew := heap_alloc_new w.drew (.cells (xs.toArray ++ news.toArray ++ Builtin.zeroCells z.cells (grownCap w (n + m) cap e - (n + m))) e)
        have hlen : (xs ++ news).length = (n + m) * size := by rw [List.length_append, hown.1, hl, Nat.add_mul]
        refine ⟨_, _, e, hr, ⟨hlen, .inr ⟨w.heap.size, _, _, rfl, hbase, hnew, hge, hcm2, ?_, ?_⟩⟩, ⟨rfl, rfl, rfl, by simp, fun k hk _ => heap_alloc_old w.drew _ k hk⟩, .inr fun b hb => by cases hb; exact Nat.le_refl _, ?_⟩
        · simp only [Array.size_append, List.size_toArray, size_zeroCells, hzs, hown.1, hl, ← Nat.add_mul]
          congr 1
          omega
        · simp only [Array.toList_append]
          rw [← hlen]
          exact List.take_left
        · intro b cs' e' fr hb hh u hu
          cases hb
          have hh' : (w.drew.alloc (.cells (xs.toArray ++ news.toArray ++ Builtin.zeroCells z.cells (grownCap w (n + m) cap e - (n + m))) e)).heap[w.drew.heap.size]? = _ := hh
          rw [hnew] at hh'
          cases hh'
          simp only [Array.toList_append, List.mem_append] at hu
          rcases hu with (hu | hu) | hu
          · exact hx1 u hu
          · exact h1 u hu
          · exact zc _ u hu
end
section
variable {P : Program} {T : List TI} {w0 : World} {g0 g : Gs} {l : Gl} {w : World} {st : St} {a : Act} {o : Oper} {next : Act → World → Prop} {Q : Exit → Act → World → Prop}
structure Src (g : Gs) (w : World) (k : Nat) (ys : List (List AV)) (v : Value) : Prop where
  mk ::
  out : ∃ A c news, v = .slice A ys.length c ∧ (A = none → ys.length = 0) ∧ (∀ ad, A = some ad → ∀ j u, news[j]? = some u → w.cell? (ad.add j) = some u) ∧ Rows w g.stb g.ob k ys news
theorem rep_src {k : Nat} {ys : List (List AV)} {v : Value} (h : Rep w g.stb g.ob (.sl 0 k ys) v) (hk : 0 < k) : Src g w k ys v := by
  cases h with
  | sl0 A c k => exact ⟨A, c, [], rfl, fun _ => rfl, by simp, rows_nil k⟩
  | sl b o c k xs vs hb hn hm hkk hc h1 hr =>
    refine ⟨_, c, (List.range (ys.length * k)).map fun q => vs (q / k) (q % k), rfl, by simp, ?_, ?_⟩
    · intro ad had q u hq
      cases had
      simp only [List.getElem?_map, Option.map_eq_some_iff] at hq
      obtain ⟨q', hq', rfl⟩ := hq
      obtain ⟨hlt, rfl⟩ := List.getElem?_eq_some_iff.1 hq'
      simp only [List.length_range] at hlt
      simp only [List.getElem_range]
      rw [add_plain]
      have hdiv : q / k < ys.length := Nat.div_lt_of_lt_mul (by rw [Nat.mul_comm]; exact hlt)
      have := hc (q / k) (q % k) hdiv (Nat.mod_lt _ hk)
      rwa [show q / k * k + q % k = q by rw [Nat.mul_comm]; exact Nat.div_add_mod q k] at this
    · refine ⟨by simp, hkk, fun u hu => ?_, fun i x j d hi hj => ?_⟩
      · simp only [List.mem_map, List.mem_range] at hu
        obtain ⟨q, hq, rfl⟩ := hu
        exact h1 _ _ (Nat.div_lt_of_lt_mul (by rw [Nat.mul_comm]; exact hq)) (Nat.mod_lt _ hk)
      · have hil := (List.getElem?_eq_some_iff.1 hi).1
        have hjl := (List.getElem?_eq_some_iff.1 hj).1
        rw [hkk x (List.mem_of_getElem? hi)] at hjl
        have hik := row_le (k := k) hil
        refine ⟨vs i j, ?_, hr i x j d hi hj⟩
        rw [List.getElem?_map, List.getElem?_range (by omega)]
        simp only [Option.map_some]
        rw [Nat.add_comm, Nat.add_mul_mod_self_right, Nat.mod_eq_of_lt hjl, Nat.add_mul_div_right _ _ hk, Nat.div_eq_of_lt hjl, Nat.zero_add]
theorem OwnT.rows {base t : Nat} (h : OwnT base g l w t) : ∃ e fl, w.ownsRow base e (l.xk t) (l.xv t) (l.xc t).length fl ∧ Rows w g.stb g.ob (l.xk t) (l.xc t) fl ∧ 0 < l.xk t := by
  obtain ⟨e, fl, hown, hk, hxs, h1, hr⟩ := h
  exact ⟨e, fl, hown, ⟨hown.1, hxs, h1, hr⟩, hk.1⟩
theorem OwnT.all {base t : Nat} (h : OwnT base g l w t) : AllOne w (l.xv t) := by
  obtain ⟨e, fl, hown, hk, hxs, h1, hr⟩ := h
  exact hk.2
theorem own_src {base t : Nat} (h : OwnT base g l w t) : Src g w (l.xk t) (l.xc t) (l.xv t) := by
  obtain ⟨e, fl, hown, hR, hk⟩ := h.rows
  rcases hown.2 with ⟨h1, h2⟩ | ⟨b, cap, cur, hv, hbb, hh, rest⟩
  · refine ⟨none, 0, fl, by rw [h1, h2], fun _ => h2, by simp, hR⟩
  · refine ⟨some ⟨b, 0, none⟩, cap, fl, hv, by simp, ?_, hR⟩
    intro ad had
    cases had
    exact hown.cells (by rw [hv]; rfl)
theorem append_core (hT : TabOk P T) {e : Nat} (h0 : madeT T e = true) (hI : Inv w0 g0 g l w st a) {t ty : Nat} (hk : (ti T t).k = .slice e) {v y : Value} {xs ys : List (List AV)} {st' : St}
    (hv : (v = .slice none 0 0 ∧ xs = [] ∧ st' = st) ∨ ∃ t ∈ st.tags, v = l.xv t ∧ xs = l.xc t ∧ (ti T e).size = l.xk t ∧ st' = st.mapS (killF t)) (hy : Src g w (ti T e).size ys y)
    (hroom : room xs ys (ti T e).bytes = true) (d : Option Nat) :
    ∃ v' w' l', (Builtin.append_ #[t, t] ty #[v, y]).run P w = .ok v' w' ∧ Inv w0 g0 g l' w' (st'.put d (.sl st'.fresh (ti T e).size (xs ++ ys))) (a.put d v') := by
  obtain ⟨q1, q2, q3, q4⟩ := madeT_out h0
  obtain ⟨i, z, hi, hz, hsz, hby, hzl, _, _, _, hz1, _⟩ := zeros_rep (P := P) hT q1 q2
  obtain ⟨A, c, news, rfl, hA, hcells, hRy⟩ := hy.out
  have hroom : (xs.length + ys.length) * (ti T e).bytes ≤ 140737488355328 := Nat.le_of_ble_eq_true hroom
  have hle : xs.length + ys.length ≤ (xs.length + ys.length) * (ti T e).bytes := Nat.le_mul_of_pos_right _ q4
  have hx : ∃ e0 fl, w.ownsRow w0.heap.size e0 (ti T e).size v xs.length fl ∧ Rows w g.stb g.ob (ti T e).size xs fl ∧ AllOne w v := by
    rcases hv with ⟨rfl, rfl, _⟩ | ⟨t, hin, rfl, rfl, hkk, _⟩
    · exact ⟨e, [], World.ownsRow_nil _ _ _ _, rows_nil _, fun b _ _ _ hb => by cases hb⟩
    · obtain ⟨e0, fl, hown, hR, _⟩ := (hI.own t hin).rows
      rw [hkk]
      exact ⟨e0, fl, hown, hR, (hI.own t hin).all⟩
  obtain ⟨e0, fl, hown, hRx, hall⟩ := hx
  obtain ⟨v', w', e1, hrun, hown', hgrow, hnew, hall'⟩ := run_append_row (P := P) w w0.heap.size t ty e e0 i z (ti T e).size (ti T e).bytes (hT.u_slice hk) hi hz hsz hby (by simpa using hzl) q3 hz1 v xs.length fl hown hall A ys.length c news hA hRy.len hcells hRy.one hRx.one
    (by simp only [maxLen]; omega) hroom hI.ext.size
  have hstab : ∀ b, g.stb b → w'.heap[b]? = w.heap[b]? := by
    intro b hb
    refine hgrow.block b (hI.stbLt b hb).1 fun e => ?_
    rcases hv with ⟨rfl, _⟩ | ⟨t, hin, rfl, _⟩
    · cases e
    · exact (hI.ownPriv t hin b e.symm).1 hb
  have hI' : Inv w0 g0 g l w' st' a ∧ st'.mem.length = st.mem.length ∧ (∀ u ∈ st'.tags, u ∈ st.tags ∧ ∀ t ∈ st.tags, v = l.xv t → v ≠ .slice none 0 0 → u ≠ t ∨ v.ownBlock = none) ∧ (∀ u ∈ st'.tags, ∀ b, v.ownBlock = some b → (l.xv u).ownBlock ≠ some b) := by
    rcases hv with ⟨rfl, rfl, rfl⟩ | ⟨t, hin, rfl, rfl, hkk, rfl⟩
    · exact ⟨hI.grow hgrow.os hgrow.tape hgrow.output hgrow.size (fun b hb => hgrow.block b hb (by simp [Value.ownBlock])), rfl, fun u hu => ⟨hu, fun _ _ _ h => absurd rfl h⟩, fun u hu b hb => by cases hb⟩
    · have htg := tags_mapS (killF_tags t) st
      refine ⟨hI.killed hin hgrow, mapS_memlen _ _, fun u hu => ⟨(htg u hu).1, fun t' ht' he _ => ?_⟩, fun u hu b hb he => ?_⟩
      · by_cases hne : u = t'
        · subst hne
          cases hb : (l.xv t).ownBlock with
          | none => exact .inr rfl
          | some b => exact absurd (hI.ownInj u ht' t hin b (by rw [← he]; exact hb) hb) (htg u hu).2
        · exact .inl hne
      · exact (htg u hu).2 (hI.ownInj u (htg u hu).1 t hin b he hb)
  obtain ⟨hI', hml, _, hdis⟩ := hI'
  have htsub : ∀ u ∈ st'.tags, u ∈ st.tags := by
    rcases hv with ⟨_, _, rfl⟩ | ⟨t, _, _, _, _, rfl⟩
    · exact fun u h => h
    · exact fun u h => (tags_mapS (killF_tags t) st u h).1
  refine ⟨v', w', l.own st'.fresh v' (ti T e).size (xs ++ ys), hrun, hI'.newTag (by have := fresh_pos st'; omega) (by have := fresh_not st' 0; simpa using this) ⟨e1, fl ++ news, ?_, ?_, ?_, (hRx.append hRy).one, ?_⟩ ?_ d⟩
  · simpa [Gl.own] using hown'
  · simp only [Gl.own, if_true]; exact ⟨q3, hall'⟩
  · simp only [Gl.own, if_true]
    exact (hRx.append hRy).row
  · simp only [Gl.own, if_true]
    exact ((hRx.append hRy).mono hstab (fun _ h => h) (fun _ _ h => h)).rep
  · intro b hb
    have hblk : (∃ t ∈ st.tags, (l.xv t).ownBlock = some b ∧ v.ownBlock = some b) ∨ w.heap.size ≤ b := by
      rcases hnew with h | h
      · rw [h] at hb
        rcases hv with ⟨rfl, _⟩ | ⟨t, hin, rfl, _⟩
        · cases hb
        · exact .inl ⟨t, hin, hb, hb⟩
      · exact .inr (h b hb)
    rcases hblk with ⟨t, hin, hb1, hb2⟩ | hge
    · obtain ⟨p1, p2, p3⟩ := hI.ownPriv t hin b hb1
      exact ⟨p1, fun j hj => p3 j (by omega), fun u hu => hdis u hu b hb2, p2⟩
    · refine ⟨fun hs => ?_, fun j hj he => ?_, fun u hu he => ?_, fun hf => by have := hI.heap.foot_lt hf; omega⟩
      · have := (hI.stbLt b hs).1; omega
      · obtain ⟨mb, hm⟩ : ∃ mb, st.mem[j]? = some mb := ⟨_, List.getElem?_eq_getElem (by omega)⟩
        cases hmine : mb.mine with
        | true => have := (hI.priv j mb hm hmine).2.1; omega
        | false =>
          cases mb with
          | frz cs =>
            have hb := (hI.mem j _ hm).1
            have := (hI.stbLt _ hb).1
            omega
          | dead => exact (hI.mem j _ hm).elim
          | cells cs => simp [MB.mine] at hmine
          | siter s p => simp [MB.mine] at hmine
          | miter _ _ _ _ _ _ => simp [MB.mine] at hmine
      · obtain ⟨e, fl, hown, _⟩ := hI.own u (htsub u hu)
        have := (hown.lt _ he).2
        omega
theorem hs_src (hI : Inv w0 g0 g l w st a) {j o n c k : Nat} {v : Value} (h : Rep w g.stb g.ob (.hs j o n c k) v) {xs : List (List AV)} (hj : st.H.get j = .rows k xs) (hle : o + n ≤ xs.length) : Src g w k ((xs.drop o).take n) v := by
  cases h with
  | hs _ b _ _ _ _ q ho hn hm hq =>
    obtain ⟨_, vs, e, hh, hl, hk, hmx, hxl, h1, hrep⟩ := hI.heap.rows ho hj
    have hlen : ((xs.drop o).take n).length = n := by simp; omega
    have hmul : (o + n) * k ≤ xs.length * k := Nat.mul_le_mul_right k hle
    rw [Nat.add_mul] at hmul
    refine ⟨some ⟨b, q, none⟩, c, (vs.drop (o * k)).take (n * k), by rw [hlen], by simp, ?_, ?_⟩
    · intro ad had i u hu
      cases had
      rw [List.getElem?_take] at hu
      split at hu
      · rename_i hi
        rw [List.getElem?_drop] at hu
        have hq : q = o * k := by
          rcases hq with hq | hq
          · have : n = 0 := by omega
            subst this
            simp at hi
          · exact hq
        rw [add_plain, hq]
        exact cell_of_list hh hu
      · cases hu
    · refine ⟨?_, fun x hx => hxl x (List.mem_of_mem_drop (List.mem_of_mem_take hx)), fun u hu => h1 u (List.mem_of_mem_drop (List.mem_of_mem_take hu)), fun i x p d hi hp => ?_⟩
      · rw [List.length_take, List.length_drop, hlen, hl]; omega
      · have hin : i < n := by have := (List.getElem?_eq_some_iff.1 hi).1; omega
        rw [List.getElem?_take, if_pos hin, List.getElem?_drop] at hi
        obtain ⟨v, hv, hr⟩ := hrep (o + i) x p d hi hp
        have hpk : p < k := by rw [← hxl x (List.mem_of_getElem? hi)]; exact (List.getElem?_eq_some_iff.1 hp).1
        refine ⟨v, ?_, hr⟩
        have : i * k + k ≤ n * k := row_le hin
        rw [List.getElem?_take, if_pos (by omega), List.getElem?_drop]
        rw [← hv, Nat.add_mul]
        congr 1
        omega
theorem row_src (hI : Inv w0 g0 g l w st a) {k : Nat} (hk : 0 < k) {y : Operand} {K : List (List AV) → Prop} (h : rowOf k st.H (ρ st.tm y) K) : ∃ ys, K ys ∧ Src g w k ys (a.eval y) := by
  obtain ⟨hy, hyt⟩ := hI.operand (a := a) y
  unfold rowOf at h
  cases hv : ρ st.tm y <;> rw [hv] at h hy hyt <;> try exact h.elim
  case nilsl =>
    simp only [TRep] at hy
    exact ⟨[], h, ⟨⟨none, 0, [], hy, fun _ => rfl, by simp, rows_nil _⟩⟩⟩
  case sl tg k' ys =>
    simp only at h
    obtain ⟨h1, hK⟩ := G_out h
    have e1 := Nat.eq_of_beq_eq_true h1
    subst e1
    refine ⟨ys, hK, ?_⟩
    cases tg with
    | zero => simp only [TRep] at hy; exact rep_src hy hk
    | succ tg =>
      simp only [TRep] at hy
      obtain ⟨r1, r2, r3⟩ := hy
      rw [r1, r2, r3]
      exact own_src (hI.own (tg + 1) (hyt _ (by simp [tagsOf, Nat.beq])))
  case hs j o n c k' =>
    simp only at h
    obtain ⟨h1, hA⟩ := G_out h
    obtain ⟨h2, hB⟩ := G_out hA
    obtain ⟨h3, hC⟩ := G_out hB
    have e1 := Nat.eq_of_beq_eq_true h1
    subst e1
    obtain ⟨xs, hx⟩ := isRows_eq h2
    clear h hA hB
    rw [hx] at hC h3
    simp only [HB.xs] at hC h3
    simp only [TRep] at hy
    exact ⟨_, hC, hs_src hI hy hx (Nat.le_of_ble_eq_true h3)⟩
theorem two_same {c : Go.Call} (hg : twoSame c = true) : ∃ x y t, c.args = #[x, y] ∧ c.argTypes = #[t, t] := by
  unfold twoSame at hg
  split at hg
  · rename_i x y t u h1 h2
    have e1 := Nat.eq_of_beq_eq_true hg
    subst e1
    exact ⟨x, y, t, by rw [← Array.toArray_toList (xs := c.args), h1], by rw [← Array.toArray_toList (xs := c.argTypes), h2]⟩
  · simp at hg
theorem append_sound (hT : TabOk P T) (hI : Inv w0 g0 g l w st a) {c : Go.Call} {K : St → Prop} {e : Nat} {v : Value} {st' : St} {xs : List (List AV)} (ho : o.op = .call c) (hc : c.callee = .builtin .append) (hk : (ti T (c.argTypes.getD 0 0)).k = .slice e) (h0 : madeT T e = true) (hg : twoSame c = true)
    (hxv : a.eval (c.args.getD 0 (.const (.bool false))) = v) (hv : (v = .slice none 0 0 ∧ xs = [] ∧ st' = st) ∨ ∃ t ∈ st.tags, v = l.xv t ∧ xs = l.xc t ∧ (ti T e).size = l.xk t ∧ st' = st.mapS (killF t))
    (h : rowOf (ti T e).size st.H (ρ st.tm (c.args.getD 1 (.const (.bool false)))) fun ys => G (room xs ys (ti T e).bytes) (K (st'.put o.dst (.sl st'.fresh (ti T e).size (xs ++ ys))))) (hn : Goes w0 g0 K next) : o.wp P a w next Q := by
  obtain ⟨x, y, t, hargs, htys⟩ := two_same hg
  rw [htys] at hk
  rw [hargs] at h hxv
  simp only [Array.getD_eq_getD_getElem?, List.getElem?_toArray, List.getElem?_cons_zero, List.getElem?_cons_succ, Option.getD_some] at h hk hxv
  obtain ⟨q1, q2, q3, q4⟩ := madeT_out h0
  obtain ⟨ys, h, hsrc⟩ := row_src hI q3 h
  obtain ⟨hr, h⟩ := G_out h
  obtain ⟨v', w', l', hrun, hI'⟩ := append_core (ty := o.type) hT h0 hI hk hv hsrc hr o.dst
  refine wp_value (w' := w') (v := v') ?_ (hn _ _ _ _ _ hI' h)
  unfold execOp
  rw [ho]
  simp only [resolve, hc, hargs, htys, Sem.run_bind, Sem.run_pure, Result.andThen_ok, invoke, builtin, List.map_toArray, List.map_cons, List.map_nil, hxv, hrun]
end
end Go.Proofs.YtgmkkjmdflhbnaaDoor.Ab
end
section
namespace Go.Proofs.YtgmkkjmdflhbnaaDoor.Ab
open Go
section
variable {P : Program} {T : List TI} {w0 : World} {g0 g : Gs} {l : Gl} {w : World} {st : St} {a : Act} {o : Oper} {next : Act → World → Prop} {Q : Exit → Act → World → Prop}
theorem slice_stable_sound (hT : TabOk P T) (hI : Inv w0 g0 g l w st a) {t : Nat} {x : Operand} {lo hi mx : Option Operand} {K : St → Prop} (ho : o.op = .slice t x lo hi mx)
    (h : light T o.op (ρ st.tm) st.mem st.H fun v => K (st.put o.dst v)) (hn : Goes w0 g0 K next) : o.wp P a w next Q := by
  rw [ho] at h
  obtain ⟨av, v, hK, hrun, hrep⟩ := slice_sound (P := P) hT (fun y k i hy => by have := (hI.operand (a := a) y).1; rw [hy] at this; exact int_of_rep this) (hI.operand x).1 h
  refine wp_value (w' := w) (v := v) ?_ (hn _ _ _ _ _ (hI.put (TRep.of_rep hrep) (by rw [hrep.tags]; simp) _) hK)
  unfold execOp
  rw [ho]
  exact exec_v hrun
theorem slice_own_sound (hT : TabOk P T) (hI : Inv w0 g0 g l w st a) {t : Nat} {x : Operand} {lo hi mx : Option Operand} {K : St → Prop} (ho : o.op = .slice t x lo hi mx)
    (h : light T o.op (fun y => mapT lendF (ρ st.tm y)) st.mem st.H fun v => K ((st.frzAll (tagsOf (ρ st.tm x))).put o.dst v)) (hn : Goes w0 g0 K next) : o.wp P a w next Q := by
  rw [ho] at h
  obtain ⟨hx, hxt⟩ := hI.operand (a := a) x
  obtain ⟨g', hI', s1, n1, o1, f1, b1, c1⟩ := hI.frzAll (tagsOf (ρ st.tm x)) (fun t ht => tags_pos hI t (hxt t ht))
  have hxr : Rep w g'.stb g'.ob (frzV (ρ st.tm x)) (a.eval x) := by
    rw [o1]
    exact lend_rep (base := w0.heap.size) s1 (S := tagsOf (ρ st.tm x)) (fun t ht => ⟨hI.own t (hxt t ht), b1 t ht (hxt t ht)⟩) _ _ (fun t ht => ht) hx
  obtain ⟨av, v, hK, hrun, hrep⟩ := slice_sound (P := P) (g := g') (l := l) (n := st.mem.length) hT (fun y k i hy => by
    have h1 := (hI.operand (a := a) y).1
    cases hv : ρ st.tm y <;> simp only [hv, mapT, lendF] at hy <;> try (cases hy; done)
    · cases hy
      rw [hv] at h1
      exact int_of_rep h1) (TRep.of_rep hxr) h
  refine wp_value (w' := w) (v := v) ?_ (hn _ _ _ _ _ (hI'.put (TRep.of_rep hrep) (by rw [hrep.tags]; simp) _) hK)
  unfold execOp
  rw [ho]
  exact exec_v hrun
theorem Inv.newStable (hI : Inv w0 g0 g l w st a) {w' : World} (hos : w'.os = w.os) (htape : w'.tape = w.tape) (hout : w'.output = w.output) (hsize : w'.heap.size = w.heap.size + 1) (hkeep : ∀ b, b < w.heap.size → w'.heap[b]? = w.heap[b]?) :
    Inv w0 g0 { g with stb := fun b => g.stb b ∨ b = w.heap.size } l w' st a :=
  hI.step0 (g' := { g with stb := fun b => g.stb b ∨ b = w.heap.size }) hos htape hout (by omega) (fun b hb _ => hkeep b hb) (fun _ h => Or.inl h) (fun b hb => hb.imp id fun h => by omega) rfl rfl
theorem Inv.newRows (hI : Inv w0 g0 g l w st a) {e k n : Nat} {cs : Array Value} {xs : List (List AV)} (hn : n ≤ maxLen) (hx : xs.length = n) (hR : Rows w g.stb g.ob k xs cs.toList) (d : Option Nat) :
    Inv w0 g0 { g with stb := fun b => g.stb b ∨ b = w.heap.size } l (w.alloc (.cells cs e)) (st.put d (.sl 0 k xs)) (a.put d (.slice (some ⟨w.heap.size, 0, none⟩) n n)) := by
  have h' := hI.newStable (w' := w.alloc (.cells cs e)) rfl rfl rfl (by simp) (fun b hb => heap_alloc_old w _ b hb)
  refine h'.put ?_ (by simp [tagsOf, Nat.beq]) d
  simp only [TRep]
  subst hx
  have hlen := hR.len
  have at' : ∀ i j, i < xs.length → j < k → i * k + j < cs.toList.length := fun i j hi hj => by
    have := row_le (k := k) hi
    rw [hlen]
    omega
  refine Rep.sl w.heap.size 0 xs.length k xs (fun i j => cs.toList.getD (i * k + j) .nilFunc) (.inr rfl) (Nat.le_refl _) hn hR.row (fun i j hi hj => ?_) (fun i j hi hj => ?_) (fun i x j c hi hj => ?_)
  · have hl := at' i j hi hj
    rw [cell_of_row _ w.heap.size _ cs e _ (heap_alloc_new w _)]
    simp only [Nat.zero_add]
    rw [List.getD_eq_getElem?_getD, List.getElem?_eq_getElem hl]
    simp
  · have hl := at' i j hi hj
    rw [List.getD_eq_getElem?_getD, List.getElem?_eq_getElem hl]
    exact hR.one _ (List.getElem_mem hl)
  · obtain ⟨v, hv, hr⟩ := hR.rep i x j c hi hj
    rw [List.getD_eq_getElem?_getD, hv]
    exact hr.mono (fun b hb => heap_alloc_old w _ b (hI.stbLt b hb).1) (fun _ h => .inl h) (fun _ _ h => h)
theorem buildStable_sound (hT : TabOk P T) (hI : Inv w0 g0 g l w st a) {t n : Nat} {ps : Array (Nat × Operand)} {K : St → Prop} (ho : o.op = .buildSlice t n ps) (hts : (tagsOfs (ps.toList.map fun p => ρ st.tm p.2)).isEmpty = true)
    (h : buildL T t n ps (ρ st.tm) fun v => K (st.put o.dst v)) (hn : Goes w0 g0 K next) : o.wp P a w next Q := by
  unfold buildL at h
  cases hk : (ti T t).k <;> rw [hk] at h <;> try exact h.elim
  rename_i e
  simp only at h
  cases h0 : madeT T e <;> rw [h0] at h <;> simp only [G, cond_false, cond_true] at h
  cases h1 : Nat.ble (n * (ti T e).size) 16777216 <;> rw [h1] at h <;> simp only [cond_false, cond_true] at h
  have e1 := Nat.le_of_ble_eq_true h1
  obtain ⟨q1, q2, q3, q4⟩ := madeT_out h0
  have hnle : n ≤ n * (ti T e).size := Nat.le_mul_of_pos_right _ q3
  obtain ⟨i, z, hi, hz, hsz, hby, hzl, _⟩ := zeros_rep (P := P) hT q1 q2
  have hts := List.isEmpty_iff.1 hts
  obtain ⟨g', hI', s1, n1, o1, f1, b1, c1⟩ := hI.frzAll [] (fun t ht => nomatch ht)
  have hI' : Inv w0 g0 g' l w st a := hI'
  obtain ⟨xs', us', hK, hfill, hR, hlen⟩ := rows_out (w := w) (stb := g'.stb) (ob := g'.ob) (vs := (ps.map fun (i, x) => (i, a.eval x)).toList) (by simp) (fun j p v hp hv => by
    simp only [List.getElem?_map, Array.toList_map] at hp hv
    cases hq : ps.toList[j]? with
    | none => rw [hq] at hp; simp at hp
    | some q =>
      rw [hq] at hp hv
      simp only [Option.map_some, Option.some.injEq] at hp hv
      subst hp hv
      refine ⟨rfl, ?_⟩
      obtain ⟨hx, hxt⟩ := hI.operand (a := a) q.2
      rw [o1]
      refine lend_rep (base := w0.heap.size) s1 (S := tagsOf (ρ st.tm q.2)) (fun t ht => ?_) _ _ (fun t ht => ht) hx
      have : t ∈ tagsOfs (ps.toList.map fun p => ρ st.tm p.2) := tagsOfs_get (i := j) (c := ρ st.tm q.2) (by simp [hq]) t ht
      rw [hts] at this
      cases this) (zero_rows hT h0 n hi hz g' w) h
  have hrun : (execOp a.eval o).run P w = .ok (.value (.slice (some ⟨w.heap.size, 0, none⟩) n n)) (w.alloc (.cells us'.toArray e)) := by
    unfold execOp
    rw [ho]
    refine exec_v ?_
    have hu := hT.u_slice hk
    have hse := hT.size_pos (P := P) (t := e) q3 w
    have hfill' : Instr.fill (fun i => some (i * (ti T e).size, (ti T e).size)) (madeCells z.cells (n * (ti T e).size)) (ps.map fun (i, x) => (i, a.eval x)).toList = some us'.toArray := by
      rw [← hfill, Array.toArray_toList]
    have hzv : (zeroValue e).run P w = .ok z w := by simp [zeroValue, typeInfo, hi, hz]
    simp only [Instr.buildSlice, Sem.run_bind, run_underlying hu, Result.andThen_ok, hse]
    rw [if_neg (by omega)]
    simp only [Array.toList_map] at hfill'
    by_cases hz0 : n * (ti T e).size = 0
    · have hr0 : Array.range 0 = #[] := rfl
      rw [hz0] at hfill' ⊢
      simp only [madeCells, hr0, List.map_toArray, List.map_nil] at hfill'
      simp [hr0, hfill', newRow]
    · unfold madeCells at hfill'
      simp [hz0, hzv, hfill', newRow]
  exact wp_value hrun (hn _ _ _ _ _ (hI'.newRows (by simp only [maxLen]; omega) (by rw [hlen]; simp) hR _) hK)
theorem toBytes_sound (hT : TabOk P T) (hI : Inv w0 g0 g l w st a) {src dst e : Nat} {x : Operand} {s : ByteArray} {K : St → Prop} (ho : o.op = .convert src dst x) (h1 : (ti T src).k = .str) (h2 : (ti T dst).k = .slice e) (h3 : (ti T e).k = .int .u8)
    (hx : ρ st.tm x = .str s) (h : G (Nat.ble s.size 9223372036854775807) (K (st.put o.dst (.sl 0 1 (bytesAV s))))) (hn : Goes w0 g0 K next) : o.wp P a w next Q := by
  obtain ⟨hg, h⟩ := G_out h
  have hg : (s.size : Int) ≤ 9223372036854775807 := by have := Nat.le_of_ble_eq_true hg; omega
  have hev := (hI.operand (a := a) x).1
  rw [hx] at hev
  simp only [TRep] at hev
  have hrun := run_bytes_of_string (P := P) w src dst e s (hT.u_str h1) (hT.u_slice h2) (hT.u_int h3)
  generalize hcap : grownCap w s.size 0 e = cap at hrun
  have hcapge : s.size ≤ cap := by rw [← hcap]; exact grownCap_ge w s.size 0 e
  generalize hw' : (w.drew.alloc (.cells (bytesRow s cap) e ((bytesRow s cap).size, (bytesRow s cap).size + 1))) = w' at hrun
  have hkeep : ∀ b, b < w.heap.size → w'.heap[b]? = w.heap[b]? := by
    intro b hb
    rw [← hw']
    exact heap_alloc_old w.drew _ b hb
  have hsize : w'.heap.size = w.heap.size + 1 := by rw [← hw']; simp
  have hI' := hI.newStable (w' := w') (by rw [← hw']; rfl) (by rw [← hw']; rfl) (by rw [← hw']; rfl) hsize hkeep
  have hsz : s.data.toList.length = s.size := by simp
  refine wp_value (w' := w') (v := .slice (some ⟨w.heap.size, 0, none⟩) s.size cap) ?_ (hn _ _ _ _ _ (hI'.put ?_ (by simp [tagsOf, Nat.beq]) _) h)
  · unfold execOp
    rw [ho]
    refine exec_v ?_
    rw [hev]
    exact hrun
  · simp only [TRep]
    have hlen : (bytesAV s).length = s.size := by simp [bytesAV]
    have hr := Rep.sl (w := w') (stb := fun b => g.stb b ∨ b = w.heap.size) (ob := g.ob) w.heap.size 0 cap 1 (bytesAV s) (fun i _ => .int .u8 ((s.data.toList.getD i 0).toNat : Int)) (.inr rfl) (by rw [hlen]; exact hcapge) (by rw [hlen]; simp only [maxLen]; omega)
      (by simp [bytesAV]) (fun i j hi hj => ?_) (fun _ _ _ _ => rfl) (fun i x j c hi hj => ?_)
    · rw [hlen] at hr
      exact hr
    · obtain rfl : j = 0 := by omega
      rw [hlen] at hi
      rw [← hw', cell_of_row _ w.heap.size _ (bytesRow s cap) e _ (heap_alloc_new w.drew _)]
      simp only [bytesRow, Nat.zero_add, Nat.mul_one, Nat.add_zero]
      rw [Array.getElem?_append_left (by simpa using hi)]
      have hi' : i < s.data.size := by simpa using hi
      simp only [Array.getElem?_map, Array.getElem?_eq_getElem hi', Option.map_some, List.getD_eq_getElem?_getD, Array.getElem?_toList, Option.getD_some]
    · simp only [bytesAV, List.getElem?_map, Option.map_eq_some_iff] at hi
      obtain ⟨b, hb, rfl⟩ := hi
      cases j with
      | succ j => simp at hj
      | zero =>
        simp at hj
        subst hj
        rw [List.getD_eq_getElem?_getD, hb]
        exact .int _ _
theorem rep_rows {stb : Nat → Prop} {ob : Nat → Option Nat} {k : Nat} {xs : List (List AV)} {v : Value} (h : Rep w stb ob (.sl 0 k xs) v) : ∀ x ∈ xs, x.length = k := by
  cases h with
  | sl0 A c k => simp
  | sl b o c k xs vs hb hn hm hkk => exact hkk
theorem push_all : ∀ (l : List UInt8) (r : ByteArray), (l.map fun b => (b.toNat : Int)).foldl (fun r n => r.push (UInt8.ofNat n.toNat)) r = ⟨r.data ++ l.toArray⟩
  | [], r => by simp
  | b :: l, r => by
    simp only [List.map_cons, List.foldl_cons]
    rw [push_all l]
    simp [ByteArray.push]
theorem bytes_str (b : ByteArray) : (b.data.toList.map fun b => (b.toNat : Int)).foldl (fun r n => r.push (UInt8.ofNat n.toNat)) ByteArray.empty = b := by
  rw [push_all]
  show (⟨#[] ++ b.data.toList.toArray⟩ : ByteArray) = b
  rw [Array.toArray_toList, Array.empty_append]
theorem fromBytes_run (hT : TabOk P T) {src dst e : Nat} (h1 : (ti T src).k = .slice e) (h2 : (ti T dst).k = .str) (h3 : (ti T e).k = .int .u8) {k : Nat} {v : Value} {b : ByteArray} (hs : Src g w k (bytesAV b) v) (hk : b.data.toList ≠ [] → k = 1) :
    (convert src dst v).run P w = .ok (.string b) w := by
  obtain ⟨A, c, news, rfl, hA, hcells, hR⟩ := hs.out
  rw [run_convert_bytes_string w src dst e A _ c (hT.u_slice h1) (hT.u_int h3) (hT.u_str h2)]
  have hlen : (bytesAV b).length = b.data.toList.length := by simp [bytesAV]
  by_cases he : b.data.toList = []
  · have hb : b = ByteArray.empty := by
      have := bytes_str b
      rw [he] at this
      exact this.symm
    have hl0 : (bytesAV b).length = 0 := by rw [hlen, he]; rfl
    rw [hl0]
    cases A with
    | none => simp [Conv.bytesToString, hb]
    | some ad =>
      rw [run_bytesToString w ad 0 c [] (by simp [loadCells, loadCellsFrom])]
      rw [hb]
      rfl
  · have hk := hk he
    subst hk
    have hn : news = (b.data.toList.map fun b => (b.toNat : Int)).map (Value.int .u8) := by
      apply List.ext_getElem
      · rw [hR.len, hlen]; simp
      · intro i q1 q2
        have hil : i < b.data.toList.length := by simpa using q2
        obtain ⟨v, hv, hr⟩ := hR.rep i [.int .u8 ((b.data.toList[i]).toNat : Int)] 0 (.int .u8 ((b.data.toList[i]).toNat : Int)) (by simp only [bytesAV, List.getElem?_map, List.getElem?_eq_getElem hil, Option.map_some]) rfl
        rw [Nat.mul_one, Nat.add_zero, List.getElem?_eq_getElem q1] at hv
        have hv := Option.some.inj hv
        rw [hv]
        cases hr
        simp
    cases A with
    | none => have := hA rfl; rw [hlen] at this; exact absurd (List.eq_nil_of_length_eq_zero this) he
    | some ad =>
      have hload := run_loadCells_list (P := P) w ad news (hcells ad rfl)
      have hnl : news.length = (bytesAV b).length := by rw [hR.len, Nat.mul_one]
      rw [hnl, hn] at hload
      rw [run_bytesToString w ad _ c _ hload, bytes_str]
theorem fromBytes_sound (hT : TabOk P T) (hI : Inv w0 g0 g l w st a) {src dst e : Nat} {x : Operand} {K : St → Prop} (ho : o.op = .convert src dst x) (h1 : (ti T src).k = .slice e) (h2 : (ti T dst).k = .str) (h3 : (ti T e).k = .int .u8)
    {t k : Nat} {xs : List (List AV)} (hx : ρ st.tm x = .sl t k xs) (h : ∃ b, xs = bytesAV b ∧ K (st.put o.dst (.str b))) (hn : Goes w0 g0 K next) : o.wp P a w next Q := by
  obtain ⟨b, rfl, h⟩ := h
  obtain ⟨hev, hevt⟩ := hI.operand (a := a) x
  rw [hx] at hev hevt
  have hrun : (convert src dst (a.eval x)).run P w = .ok (.string b) w := by
    cases t with
    | zero =>
      simp only [TRep] at hev
      by_cases hk0 : 0 < k
      · refine fromBytes_run hT h1 h2 h3 (rep_src hev hk0) fun hne => ?_
        cases hev' : bytesAV b with
        | nil => simp [bytesAV] at hev'; exact absurd (by simpa using hev') hne
        | cons x r =>
          have hx1 : x.length = 1 := by
            have : x ∈ bytesAV b := by rw [hev']; simp
            simp only [bytesAV, List.mem_map] at this
            obtain ⟨_, _, rfl⟩ := this
            rfl
          rw [hev'] at hev
          rw [← rep_rows hev x (by simp), hx1]
      · obtain rfl : k = 0 := by omega
        have hnil : bytesAV b = [] := by
          cases hev' : bytesAV b with
          | nil => rfl
          | cons x r =>
            have hx1 : x.length = 1 := by
              have : x ∈ bytesAV b := by rw [hev']; simp
              simp only [bytesAV, List.mem_map] at this
              obtain ⟨_, _, rfl⟩ := this
              rfl
            rw [hev'] at hev
            have := rep_rows hev x (by simp)
            omega
        rw [hnil] at hev
        have hsrc : Src g w 1 (bytesAV b) (a.eval x) := by
          rw [hnil]
          generalize a.eval x = v at hev
          cases hev with
          | sl0 A c k => exact ⟨⟨A, c, [], rfl, fun _ => rfl, by simp, rows_nil _⟩⟩
          | sl b o c k xs vs => exact ⟨⟨_, c, [], rfl, fun _ => rfl, by simp, rows_nil _⟩⟩
        exact fromBytes_run hT h1 h2 h3 hsrc fun _ => rfl
    | succ t =>
      simp only [TRep] at hev
      obtain ⟨r1, r2, r3⟩ := hev
      have hO := hI.own (t + 1) (hevt _ (by simp [tagsOf, Nat.beq]))
      rw [r1]
      refine fromBytes_run hT h1 h2 h3 (k := l.xk (t + 1)) (by rw [r2]; exact own_src hO) fun hne => ?_
      cases hev' : bytesAV b with
      | nil => simp [bytesAV] at hev'; exact absurd (by simpa using hev') hne
      | cons x r =>
        have hx0 : x ∈ bytesAV b := by rw [hev']; simp
        have hx1 : x.length = 1 := by
          simp only [bytesAV, List.mem_map] at hx0
          obtain ⟨_, _, rfl⟩ := hx0
          rfl
        rw [← hO.size x (by rw [← r2]; exact hx0), hx1]
  refine wp_value (w' := w) (v := .string b) ?_ (hn _ _ _ _ _ (hI.put (by simp [TRep]) (by simp [tagsOf]) _) h)
  unfold execOp
  rw [ho]
  exact exec_v hrun
theorem fromNil_sound (hT : TabOk P T) (hI : Inv w0 g0 g l w st a) {src dst e : Nat} {x : Operand} {K : St → Prop} (ho : o.op = .convert src dst x) (h1 : (ti T src).k = .slice e) (h2 : (ti T dst).k = .str) (h3 : (ti T e).k = .int .u8)
    (hx : ρ st.tm x = .nilsl) (h : K (st.put o.dst (.str ⟨#[]⟩))) (hn : Goes w0 g0 K next) : o.wp P a w next Q := by
  obtain ⟨hev, hevt⟩ := hI.operand (a := a) x
  rw [hx] at hev
  simp only [TRep] at hev
  refine wp_value (w' := w) (v := .string ⟨#[]⟩) ?_ (hn _ _ _ _ _ (hI.put (by simp [TRep]) (by simp [tagsOf]) _) h)
  unfold execOp
  rw [ho]
  refine exec_v ?_
  rw [hev]
  exact fromBytes_run (g := g) (k := 1) hT h1 h2 h3 ⟨⟨none, 0, [], rfl, fun _ => rfl, by simp, rows_nil _⟩⟩ fun _ => rfl
theorem range_sound (hT : TabOk P T) (hI : Inv w0 g0 g l w st a) {t : Nat} {x : Operand} {s : ByteArray} {K : St → Prop} (ho : o.op = .range t x) (ht : (ti T t).k = .str) (hx : ρ st.tm x = .str s)
    (h : K ({ st with mem := st.mem ++ [MB.siter s 0] }.put o.dst (.ptr st.mem.length 0))) (hn : Goes w0 g0 K next) : o.wp P a w next Q := by
  have hev := (hI.operand (a := a) x).1
  rw [hx] at hev
  simp only [TRep] at hev
  refine wp_value (w' := w.alloc (.stringIter s 0)) (v := .pointer (some ⟨w.heap.size, 0, none⟩)) ?_ (hn _ _ _ _ _ (hI.newBlock _ (MB.siter s 0) rfl (by simp [MB.tags]) (heap_alloc_new w _) _) h)
  unfold execOp
  rw [ho]
  refine exec_v ?_
  rw [hev]
  simp [Instr.range, run_underlying (hT.u_str ht)]
theorem next_sound (hI : Inv w0 g0 g l w st a) {x : Operand} {j : Nat} {s : ByteArray} {pos : Nat} {K : St → Prop} (ho : o.op = .next x true) (hx : ρ st.tm x = .ptr j 0) (hm : st.mem.getD j .dead = .siter s pos)
    (h : cond (Nat.blt pos s.size)
          (K ({ st with mem := st.mem.set j (.siter s (pos + (Utf8.decode s pos).2)) }.put o.dst (.tup [.bool true, .int .i64 (pos : Int), .int .i32 ((Utf8.decode s pos).1 : Int)])))
          (K (st.put o.dst (.tup [.bool false])))) (hn : Goes w0 g0 K next) : o.wp P a w next Q := by
  have hev := (hI.operand (a := a) x).1
  rw [hx] at hev
  simp only [TRep] at hev
  obtain ⟨hj, hev⟩ := hev
  have hjm : st.mem[j]? = some (.siter s pos) := by rw [← hm, List.getD_eq_getElem?_getD, List.getElem?_eq_getElem hj]; rfl
  have hb := hI.mem j _ hjm
  have hb : w.heap[l.loc j]? = some (.stringIter s pos) := hb
  cases hlt : Nat.blt pos s.size <;> rw [hlt] at h <;> simp only [cond_false, cond_true] at h
  · have hn' : ¬ pos < s.size := fun hh => by
      have := Nat.ble_eq_true_of_le hh
      unfold Nat.blt at hlt
      rw [this] at hlt
      cases hlt
    refine wp_value (w' := w) (v := .tuple #[.bool false]) ?_ (hn _ _ _ _ _ (hI.put ?_ (by simp [tagsOf, tagsOfs]) _) h)
    · unfold execOp
      rw [ho]
      refine exec_v ?_
      rw [hev]
      exact Go.Lib.run_next_end_at w _ s pos _ hb hn'
    · simp only [TRep]
      exact ⟨[.bool false], rfl, by simp [TReps, TRep]⟩
  · have hlt' : pos < s.size := Nat.le_of_ble_eq_true hlt
    refine wp_value (w' := w.iterAt (l.loc j) s (pos + (Utf8.decode s pos).2)) (v := .tuple #[.bool true, .int .i64 pos, .int .i32 (Utf8.decode s pos).1]) ?_ (hn _ l _ _ _ ((hI.setMem (w' := w.iterAt (l.loc j) s (pos + (Utf8.decode s pos).2)) hjm rfl (mb' := .siter s (pos + (Utf8.decode s pos).2)) rfl (by simp [MB.tags]) rfl rfl rfl ?_ ?_ ?_).put ?_ (by simp [tagsOf, tagsOfs]) _) h)
    · unfold execOp
      rw [ho]
      refine exec_v ?_
      rw [hev]
      exact Go.Lib.run_next_any_at w _ s pos _ hb hlt'
    · simp [World.iterAt]
    · intro b hb
      simp [World.iterAt, Array.getElem?_setIfInBounds, Ne.symm hb]
    · show (w.iterAt (l.loc j) s (pos + (Utf8.decode s pos).2)).heap[l.loc j]? = _
      have hl := (Array.getElem?_eq_some_iff.1 hb).1
      simp [World.iterAt, Array.getElem?_setIfInBounds, hl]
    · simp only [TRep]
      exact ⟨[.bool true, .int .i64 pos, .int .i32 (Utf8.decode s pos).1], rfl, by simp [TReps, TRep]⟩
end
end Go.Proofs.YtgmkkjmdflhbnaaDoor.Ab
end
section
namespace Go.Proofs.YtgmkkjmdflhbnaaDoor.Ab
open Go
section
variable {P : Program} {T : List TI} {w0 : World} {g0 g : Gs} {l : Gl} {w : World} {st : St} {a : Act} {o : Oper} {next : Act → World → Prop} {Q : Exit → Act → World → Prop}
theorem sl_shape (hI : Inv w0 g0 g l w st a) {t k : Nat} {xs : List (List AV)} {v : Value} {n : Nat} (h : TRep g l w n (.sl t k xs) v) (ht : ∀ u ∈ tagsOf (AV.sl t k xs), u ∈ st.tags) : ∃ A m c, v = .slice A m c ∧ (A = none → xs = []) := by
  cases t with
  | zero =>
    simp only [TRep] at h
    cases h with
    | sl0 A c k => exact ⟨A, 0, c, rfl, fun _ => rfl⟩
    | sl b o c k xs vs => exact ⟨_, _, c, rfl, by simp⟩
  | succ t =>
    simp only [TRep] at h
    obtain ⟨rfl, rfl, rfl⟩ := h
    rcases (hI.own (t + 1) (ht _ (by simp [tagsOf, Nat.beq]))).parts with ⟨h1, h2⟩ | ⟨b, c, vs, hv, _⟩
    · exact ⟨none, 0, 0, h1, fun _ => h2⟩
    · exact ⟨_, _, c, hv, by simp⟩
theorem run_nil_eql {t e : Nat} (hu : P.underlying t = some (.slice e)) (A : Option Addr) (m c : Nat) : (Op.equal t (.slice A m c) (.slice none 0 0)).run P w = .ok A.isNone w := by
  refine run_equal_step fun d => ?_
  cases A <;> simp [Op.equalIn, run_underlying hu]
theorem nil_sound (hT : TabOk P T) (hI : Inv w0 g0 g l w st a) {op : BinOp} {t e : Nat} {x y : Operand} {z : Nat} {K : St → Prop} (ho : o.op = .binOp op t x y z) (ht : (ti T t).k = .slice e)
    (h : match (generalizing := false) op, ρ st.tm x, ρ st.tm y with
      | .eql, .sl _ _ xs, .nilsl => ∀ b : Bool, (b = true → xs = []) → K (st.put o.dst (.bool b))
      | .neq, .sl _ _ xs, .nilsl => ∀ b : Bool, (b = true → xs = []) → K (st.put o.dst (.bool (!b)))
      | .eql, .nilsl, .nilsl => K (st.put o.dst (.bool true))
      | .neq, .nilsl, .nilsl => K (st.put o.dst (.bool false))
      | .eql, .hs _ _ _ _ _, .nilsl => K (st.put o.dst (.bool false))
      | .neq, .hs _ _ _ _ _, .nilsl => K (st.put o.dst (.bool true))
      | _, _, _ => False) (hn : Goes w0 g0 K next) : o.wp P a w next Q := by
  obtain ⟨hx, hxt⟩ := hI.operand (a := a) x
  obtain ⟨hy, _⟩ := hI.operand (a := a) y
  have hu := hT.u_slice ht
  have key : ∀ (A : Option Addr) (m c : Nat), a.eval x = .slice A m c → a.eval y = .slice none 0 0 → (op = .eql → K (st.put o.dst (.bool A.isNone))) → (op = .neq → K (st.put o.dst (.bool (!A.isNone)))) → (op = .eql ∨ op = .neq) → o.wp P a w next Q := by
    intro A m c hxv hyv h1 h2 hop
    have heq := run_nil_eql (P := P) (w := w) hu A m c
    rcases hop with rfl | rfl
    · refine wp_value (w' := w) (v := .bool A.isNone) ?_ (hn _ _ _ _ _ (hI.put (by simp [TRep]) (by simp [tagsOf]) _) (h1 rfl))
      unfold execOp
      rw [ho]
      refine exec_v ?_
      rw [hxv, hyv]
      simp [eqGuard, binOp, heq]
    · refine wp_value (w' := w) (v := .bool (!A.isNone)) ?_ (hn _ _ _ _ _ (hI.put (by simp [TRep]) (by simp [tagsOf]) _) (h2 rfl))
      unfold execOp
      rw [ho]
      refine exec_v ?_
      rw [hxv, hyv]
      simp [eqGuard, binOp, heq]
  cases hxv : ρ st.tm x <;> rw [hxv] at h hx hxt <;> try (cases op <;> exact h.elim)
  case nilsl =>
    cases hyv : ρ st.tm y <;> rw [hyv] at h hy <;> try (cases op <;> exact h.elim)
    simp only [TRep] at hx hy
    cases op <;> try exact h.elim
    · exact key none 0 0 hx hy (fun _ => h) (by simp) (.inl rfl)
    · exact key none 0 0 hx hy (by simp) (fun _ => h) (.inr rfl)
  case sl tg k xs =>
    cases hyv : ρ st.tm y <;> rw [hyv] at h hy <;> try (cases op <;> exact h.elim)
    simp only [TRep] at hy
    obtain ⟨A, m, c, hv, hA⟩ := sl_shape hI hx hxt
    cases op <;> try exact h.elim
    · exact key A m c hv hy (fun _ => h A.isNone (fun hh => hA (by simpa using hh))) (by simp) (.inl rfl)
    · exact key A m c hv hy (by simp) (fun _ => h A.isNone (fun hh => hA (by simpa using hh))) (.inr rfl)
  case hs j o' n m k =>
    cases hyv : ρ st.tm y <;> rw [hyv] at h hy <;> try (cases op <;> exact h.elim)
    simp only [TRep] at hx hy
    generalize hv : a.eval x = v at hx
    cases hx with
    | hs _ b _ _ _ _ q ho' _ _ _ =>
      cases op <;> try exact h.elim
      · exact key (some _) _ _ hv hy (fun _ => h) (by simp) (.inl rfl)
      · exact key (some _) _ _ hv hy (by simp) (fun _ => h) (.inr rfl)
theorem Inv.frzBlock (h : Inv w0 g0 g l w st a) {j : Nat} {cs cs' : List AV} {vs : List Value} {e : Nat} (hj : st.mem[j]? = some (.cells cs)) (hh : w.heap[l.loc j]? = some (.cells vs.toArray e (0, 0))) (h1 : ∀ u ∈ vs, u.oneCell' = true) (hl : cs'.length = vs.length)
    (hR : ∀ (i : Nat) (c : AV) (v : Value), cs'[i]? = some c → vs[i]? = some v → Rep w g.stb g.ob c v) :
    Inv w0 g0 { g with stb := fun b => g.stb b ∨ b = l.loc j } l w { st with mem := st.mem.set j (.frz cs') } a := by
  have hjl : j < st.mem.length := (List.getElem?_eq_some_iff.1 hj).1
  obtain ⟨p1, p2, p3, p4⟩ := h.priv j _ hj rfl
  have hlen : (st.mem.set j (.frz cs')).length = st.mem.length := by simp
  have hget : ∀ (i : Nat) (x : MB), (st.mem.set j (.frz cs'))[i]? = some x → (i = j ∧ x = .frz cs') ∨ (i ≠ j ∧ st.mem[i]? = some x) := by
    intro i x hi
    by_cases e : i = j
    · subst e
      rw [List.getElem?_set_self hjl] at hi
      exact .inl ⟨rfl, (Option.some.inj hi).symm⟩
    · rw [List.getElem?_set_ne (Ne.symm e)] at hi
      exact .inr ⟨e, hi⟩
  have htg : ∀ t ∈ ({ st with mem := st.mem.set j (.frz cs') } : St).tags, t ∈ st.tags := by
    intro t ht
    simp only [St.tags, List.mem_append, List.mem_flatMap] at ht ⊢
    rcases ht with ht | ⟨mb, hm, ht⟩
    · exact .inl ht
    · rcases List.mem_or_eq_of_mem_set hm with hm | rfl
      · exact .inr ⟨mb, hm, ht⟩
      · simp [MB.tags] at ht
  refine ⟨h.defers, ?_, ?_, ?_, ?_, ?_, ?_, ?_, h.heap.mono (g' := { g with stb := fun b => g.stb b ∨ b = l.loc j }) (fun _ _ => rfl) (fun _ _ => rfl) (fun _ h => Or.inl h) rfl rfl (Nat.le_refl _), ?_, ?_⟩
  · show TReps _ _ _ (st.mem.set j (.frz cs')).length _ _
    rw [hlen]
    exact TReps.mono (g := g) (g' := { g with stb := fun b => g.stb b ∨ b = l.loc j }) (l := l) (fun _ _ => rfl) (fun _ h => Or.inl h) (fun _ _ h => h) (fun _ _ => rfl) (Nat.le_refl _) _ _ (fun _ _ => ⟨rfl, rfl, rfl⟩) h.tm
  · intro i x hi
    show BRep _ _ _ (st.mem.set j (.frz cs')).length _ _
    rw [hlen]
    rcases hget i x hi with ⟨rfl, rfl⟩ | ⟨_, hi⟩
    · refine ⟨.inr rfl, fun q => vs.getD q undef, fun q hq => ?_, fun q hq => ?_, fun q c hq => ?_⟩
      · rw [cell_of_row _ _ q vs.toArray e _ hh]
        show _ = some (vs.getD q undef)
        rw [List.getD_eq_getElem?_getD]
        simp [List.getElem?_eq_getElem (show q < vs.length by omega)]
      · show (vs.getD q undef).oneCell' = true
        rw [List.getD_eq_getElem?_getD, List.getElem?_eq_getElem (show q < vs.length by omega)]
        exact h1 _ (by simp)
      · have hql : q < vs.length := by have := (List.getElem?_eq_some_iff.1 hq).1; omega
        show Rep _ _ _ _ (vs.getD q undef)
        rw [List.getD_eq_getElem?_getD, List.getElem?_eq_getElem hql]
        exact (hR q c _ hq (List.getElem?_eq_getElem hql)).mono (fun _ _ => rfl) (fun _ h => .inl h) (fun _ _ h => h)
    · exact BRep.mono (h.mem i x hi) (fun _ => rfl) (fun _ _ => ⟨rfl, rfl, rfl⟩) (fun _ _ => rfl) (Nat.le_refl _) (fun _ _ => rfl) (fun _ h => Or.inl h) (fun _ _ h => h)
  · intro t ht
    exact OwnT.mono (h.own t (htg t ht)) ⟨rfl, rfl, rfl⟩ (fun _ _ => rfl) (fun _ _ => rfl) (fun _ h => Or.inl h) (fun _ _ h => h)
  · intro i x hi hm
    rcases hget i x hi with ⟨rfl, rfl⟩ | ⟨hne, hi⟩
    · simp [MB.mine] at hm
    · obtain ⟨q1, q2, q3, q4⟩ := h.priv i x hi hm
      refine ⟨q1, q2, fun hs => ?_, q4⟩
      rcases hs with hs | hs
      · exact q3 hs
      · exact hne (h.inj i j x hi hm hjl hs)
  · intro i q x hi hm hq he
    rcases hget i x hi with ⟨rfl, rfl⟩ | ⟨hne, hi⟩
    · simp [MB.mine] at hm
    · exact h.inj i q x hi hm (by rw [← hlen]; exact hq) he
  · intro t ht b hb
    obtain ⟨q1, q2, q3⟩ := h.ownPriv t (htg t ht) b hb
    refine ⟨fun hs => ?_, q2, fun i hi => q3 i (by rw [← hlen]; exact hi)⟩
    rcases hs with hs | hs
    · exact q1 hs
    · exact q3 j hjl hs.symm
  · intro t ht u hu b hb hb'
    exact h.ownInj t (htg t ht) u (htg u hu) b hb hb'
  · exact ⟨h.ext.os, h.ext.tape, h.ext.output, h.ext.size, h.ext.keep, fun b hb => .inl (h.ext.stb b hb), fun b hb => by
      rcases hb with hb | rfl
      · exact h.ext.stbNew b hb
      · exact .inr (.inl p1), h.ext.ob, h.ext.footNew⟩
  · intro b hb
    rcases hb with hb | rfl
    · exact h.stbLt b hb
    · exact ⟨p2, p4⟩
theorem frzAll_cells {j : Nat} : ∀ (ts : List Nat) {s : St} {cs : List AV}, s.mem[j]? = some (.cells cs) → ∃ cs1, (s.frzAll ts).mem[j]? = some (.cells cs1)
  | [], _, cs, h => ⟨cs, h⟩
  | t :: ts, s, cs, h => frzAll_cells ts (s := s.mapS (frzF t)) (cs := mapTs (frzF t) cs) (by simp [St.mapS, h, MB.mapM])
theorem frzAll_cells_tags {j : Nat} : ∀ (ts : List Nat) {s : St} {cs cs1 : List AV}, (∀ t ∈ ts, t ≠ 0) → s.mem[j]? = some (.cells cs) → (s.frzAll ts).mem[j]? = some (.cells cs1) → ∀ t ∈ tagsOfs cs1, t ∈ tagsOfs cs
  | [], _, cs, cs1, _, h, h1, t, ht => by
    simp only [St.frzAll] at h1
    rw [h] at h1
    cases h1
    exact ht
  | u :: ts, s, cs, cs1, h0, h, h1, t, ht => (mapTs_tags (frzF_tags u (h0 u (by simp))) cs t (frzAll_cells_tags ts (s := s.mapS (frzF u)) (cs := mapTs (frzF u) cs) (fun t h => h0 t (by simp [h])) (by simp [St.mapS, h, MB.mapM]) h1 t ht)).1
theorem tags_set_frz {s : St} {j t : Nat} {cs cs' : List AV} (hj : s.mem[j]? = some (.cells cs)) (ht : t ∈ s.tags) (hn : t ∉ tagsOfs cs) : t ∈ ({ s with mem := s.mem.set j (.frz cs') } : St).tags := by
  simp only [St.tags, List.mem_append, List.mem_flatMap] at ht ⊢
  rcases ht with ht | ⟨mb, hm, ht⟩
  · exact .inl ht
  · refine .inr ⟨mb, ?_, ht⟩
    obtain ⟨i, hi⟩ := List.mem_iff_getElem?.1 hm
    have hne : j ≠ i := fun e => by
      subst e
      rw [hj] at hi
      cases hi
      exact hn ht
    exact List.mem_iff_getElem?.2 ⟨i, by rw [List.getElem?_set_ne hne]; exact hi⟩
theorem cap_out {base : Nat} (hbase : w0.heap.size = base) : ∀ {xs : List AV} {vals : List Value} {g : Gs} {st : St} {K : List AV → St → Prop}, Inv w0 g0 g l w st a → TReps g l w st.mem.length xs vals →
    (∀ t ∈ tagsOfs xs, t ≠ 0 ∧ OwnT base g l w t ∧ (t ∈ st.tags ∨ ∀ b, (l.xv t).ownBlock = some b → g.stb b)) → capAll st xs K →
    ∃ ys st' g', K ys st' ∧ Inv w0 g0 g' l w st' a ∧ ys.length = vals.length ∧ (∀ (i : Nat) (c : AV) (v : Value), ys[i]? = some c → vals[i]? = some v → Rep w g'.stb g'.ob c v) ∧ (∀ b, g.stb b → g'.stb b) ∧ g'.ob = g.ob
  | [], [], g, st, K, hI, _, _, h => ⟨[], st, g, h, hI, rfl, by simp, fun _ h => h, rfl⟩
  | x :: xs, v :: vals, g, st, K, hI, hr, ht, h => by
    simp only [TReps] at hr
    obtain ⟨hx, hr⟩ := hr
    have rest : ∀ {g1 : Gs} {st1 : St} {y : AV} {K' : List AV → St → Prop}, Inv w0 g0 g1 l w st1 a → st1.mem.length = st.mem.length → (∀ b, g.stb b → g1.stb b) → g1.ob = g.ob →
        (∀ t ∈ tagsOfs xs, t ∈ st1.tags ∨ ∀ b, (l.xv t).ownBlock = some b → g1.stb b) → Rep w g1.stb g1.ob y v → (∀ ys s, K' ys s → K (y :: ys) s) → capAll st1 xs K' →
        ∃ ys st' g', K ys st' ∧ Inv w0 g0 g' l w st' a ∧ ys.length = (v :: vals).length ∧ (∀ (i : Nat) (c : AV) (u : Value), ys[i]? = some c → (v :: vals)[i]? = some u → Rep w g'.stb g'.ob c u) ∧ (∀ b, g.stb b → g'.stb b) ∧ g'.ob = g.ob := by
      intro g1 st1 y K' hI1 hm1 hs1 ho1 ht1 hy hK hc
      obtain ⟨ys, st', g', k1, k2, k3, k4, k5, k6⟩ := cap_out hbase (g := g1) (st := st1) hI1 (by
          rw [hm1]
          exact TReps.mono (fun _ _ => rfl) hs1 (fun j b h => by rw [ho1]; exact h) (fun _ _ => rfl) (Nat.le_refl _) _ _ (fun _ _ => ⟨rfl, rfl, rfl⟩) hr)
        (fun t h => ⟨(ht t (by simp [tagsOfs, h])).1, OwnT.mono (g' := g1) (ht t (by simp [tagsOfs, h])).2.1 ⟨rfl, rfl, rfl⟩ (fun _ _ => rfl) (fun _ _ => rfl) hs1 (fun j b h => by rw [ho1]; exact h), ht1 t h⟩) hc
      refine ⟨y :: ys, st', g', hK _ _ k1, k2, by simp [k3], fun i c u hc hu => ?_, fun b hb => k5 b (hs1 b hb), k6.trans ho1⟩
      cases i with
      | zero => simp at hc hu; subst hc hu; exact hy.mono (fun _ _ => rfl) k5 (fun j b h => by rw [k6]; exact h)
      | succ i => exact k4 i c u (by simpa using hc) (by simpa using hu)
    have other : (∀ j o, x ≠ .ptr j o) → (let s' := st.frzAll (tagsOf x); capAll s' xs fun vs s => K (frzV x :: vs) s) →
        ∃ ys st' g', K ys st' ∧ Inv w0 g0 g' l w st' a ∧ ys.length = (v :: vals).length ∧ (∀ (i : Nat) (c : AV) (u : Value), ys[i]? = some c → (v :: vals)[i]? = some u → Rep w g'.stb g'.ob c u) ∧ (∀ b, g.stb b → g'.stb b) ∧ g'.ob = g.ob := by
      intro hne h
      simp only at h
      obtain ⟨g1, hI1, s1, n1, o1, f1, b1, c1⟩ := hI.frzAll (tagsOf x) (fun t h => (ht t (by simp [tagsOfs, h])).1)
      have hstb : ∀ t ∈ tagsOf x, ∀ b, (l.xv t).ownBlock = some b → g1.stb b := by
        intro t h b hb
        rcases (ht t (by simp [tagsOfs, h])).2.2 with hin | hs
        · exact b1 t h hin b hb
        · exact s1 b (hs b hb)
      refine rest hI1 (frzAll_memlen _ _) s1 o1 (fun t h => ?_) ?_ (fun _ _ h => h) h
      · rcases (ht t (by simp [tagsOfs, h])).2.2 with hin | hs
        · by_cases hx : t ∈ tagsOf x
          · exact .inr (hstb t hx)
          · exact .inl (frzAll_tags_of _ _ hx hin)
        · exact .inr fun b hb => s1 b (hs b hb)
      · rw [o1]
        exact lend_rep (base := base) s1 (S := tagsOf x) (fun t h => ⟨(ht t (by simp [tagsOfs, h])).2.1, hstb t h⟩) _ _ (fun t h => h) hx
    cases x
    case ptr j o =>
      simp only [capAll] at h
      simp only [TRep] at hx
      obtain ⟨hj, rfl⟩ := hx
      have hjm : st.mem[j]? = some (st.mem.getD j .dead) := by rw [List.getD_eq_getElem?_getD, List.getElem?_eq_getElem hj]; rfl
      cases hmb : st.mem.getD j .dead <;> rw [hmb] at h hjm <;> try exact h.elim
      case frz cs =>
        simp only at h
        obtain ⟨hst, vs, hc, h1, hR⟩ := hI.mem j _ hjm
        refine rest hI rfl (fun _ h => h) rfl (fun t h => (ht t (by simp [tagsOfs, h])).2.2) ?_ (fun _ _ h => h) h
        have := Rep.rp (w := w) (stb := g.stb) (ob := g.ob) (l.loc j) 0 o cs vs hst (fun i hi => by rw [Nat.zero_add]; exact hc i hi) h1 hR
        rwa [Nat.zero_add] at this
      case cells cs =>
        simp only at h
        obtain ⟨vs, e, hh, hR, h1⟩ := hI.mem j _ hjm
        have htc : ∀ t ∈ tagsOfs cs, t ∈ st.tags := fun t h => tags_mem hjm h
        obtain ⟨g1, hI1, s1, n1, o1, f1, b1, c1⟩ := hI.frzAll (tagsOfs cs) (fun t h => tags_pos hI t (htc t h))
        have hrep : ∀ (i : Nat) (c : AV) (u : Value), (frzVs cs)[i]? = some c → vs[i]? = some u → Rep w g1.stb g1.ob c u := by
          intro i c u hc hu
          unfold frzVs at hc
          rw [mapTs_get, Option.map_eq_some_iff] at hc
          obtain ⟨c0, hc0, rfl⟩ := hc
          rw [o1]
          exact lend_rep (base := w0.heap.size) s1 (S := tagsOfs cs) (fun t h => ⟨hI.own t (htc t h), b1 t h (htc t h)⟩) c0 u (fun t h => tagsOfs_get hc0 t h) (hR.of i c0 u hc0 hu)
        have hl : (frzVs cs).length = vs.length := by unfold frzVs; rw [mapTs_length, hR.length]
        have hj1 : j < (st.frzAll (tagsOfs cs)).mem.length := by rw [frzAll_memlen]; exact hj
        obtain ⟨cs1, hcs1⟩ : ∃ cs1, (st.frzAll (tagsOfs cs)).mem[j]? = some (.cells cs1) := frzAll_cells _ hjm
        have hI2 := hI1.frzBlock (cs' := frzVs cs) hcs1 hh h1 hl hrep
        refine rest hI2 (by simp [frzAll_memlen]) (fun b hb => .inl (s1 b hb)) o1 (fun t h => ?_) ?_ (fun _ _ h => h) h
        · rcases (ht t (by simp [tagsOfs, h])).2.2 with hin | hs
          · by_cases hx : t ∈ tagsOfs cs
            · exact .inr fun b hb => .inl (b1 t hx hin b hb)
            · refine (Classical.em (t ∈ ({ (st.frzAll (tagsOfs cs)) with mem := (st.frzAll (tagsOfs cs)).mem.set j (.frz (frzVs cs)) } : St).tags)).imp id fun hn => ?_
              exact absurd (tags_set_frz hcs1 (frzAll_tags_of _ _ hx hin) (fun h' => hx (frzAll_cells_tags _ (fun t h => tags_pos hI t (htc t h)) hjm hcs1 t h'))) hn
          · exact .inr fun b hb => .inl (s1 b (hs b hb))
        · have := Rep.rp (w := w) (stb := fun b => g1.stb b ∨ b = l.loc j) (ob := g1.ob) (l.loc j) 0 o (frzVs cs) (fun i => vs.getD i undef) (.inr rfl) (fun i hi => ?_) (fun i hi => ?_) (fun i c hc => ?_)
          · rwa [Nat.zero_add] at this
          · rw [Nat.zero_add, cell_of_row _ _ i vs.toArray e _ hh]
            show _ = some (vs.getD i undef)
            rw [List.getD_eq_getElem?_getD]
            simp [List.getElem?_eq_getElem (show i < vs.length by omega)]
          · show (vs.getD i undef).oneCell' = true
            rw [List.getD_eq_getElem?_getD, List.getElem?_eq_getElem (show i < vs.length by omega)]
            exact h1 _ (by simp)
          · have hql : i < vs.length := by have := (List.getElem?_eq_some_iff.1 hc).1; omega
            show Rep _ _ _ _ (vs.getD i undef)
            rw [List.getD_eq_getElem?_getD, List.getElem?_eq_getElem hql]
            exact (hrep i c _ hc (List.getElem?_eq_getElem hql)).mono (fun _ _ => rfl) (fun _ h => .inl h) (fun _ _ h => h)
    all_goals exact other (by simp) h
  | [], _ :: _, _, _, _, _, hr, _, _ => by simp [TReps] at hr
  | _ :: _, [], _, _, _, _, hr, _, _ => by simp [TReps] at hr
theorem makeFunc_sound (hI : Inv w0 g0 g l w st a) {f : Nat} {first cap : Array Operand} {K : St → Prop} (ho : o.op = .makeFunc (.func f) first cap) (hf : first.toList = [])
    (h : capAll st (cap.toList.map (ρ st.tm)) fun vs s' => K (s'.put o.dst (.fn f vs))) (hn : Goes w0 g0 K next) : o.wp P a w next Q := by
  have hr : TReps g l w st.mem.length (cap.toList.map (ρ st.tm)) (cap.map a.eval).toList := by
    refine .mk (by simp) fun i c v hc hv => ?_
    simp only [List.getElem?_map, Array.toList_map, Option.map_eq_some_iff] at hc hv
    obtain ⟨x, hx, rfl⟩ := hc
    obtain ⟨y, hy, rfl⟩ := hv
    rw [hx] at hy
    cases hy
    exact (hI.operand x).1
  obtain ⟨ys, st', g', k1, k2, k3, k4, _, _⟩ := cap_out rfl hI hr (fun t ht => by
    obtain ⟨i, c, hc, ht⟩ := tagsOfs_iff ht
    simp only [List.getElem?_map, Option.map_eq_some_iff] at hc
    obtain ⟨x, _, rfl⟩ := hc
    have hin := (hI.operand (a := a) x).2 t ht
    exact ⟨tags_pos hI t hin, hI.own t hin, .inl hin⟩) h
  have hrep : Rep w g'.stb g'.ob (.fn f ys) (.func (.func f) #[] (cap.map a.eval)) := by
    have := Rep.fn (w := w) (stb := g'.stb) (ob := g'.ob) f ys (cap.map a.eval).toList k3 k4
    rwa [Array.toArray_toList] at this
  refine wp_value (w' := w) (v := .func (.func f) #[] (cap.map a.eval)) ?_ (hn _ _ _ _ _ (k2.put (TRep.of_rep hrep) (by rw [hrep.tags]; simp) _) k1)
  unfold execOp
  rw [ho]
  refine exec_v ?_
  have : first = #[] := by rw [← Array.toArray_toList (xs := first), hf]
  rw [this]
  simp [Instr.makeFunc]
end
end Go.Proofs.YtgmkkjmdflhbnaaDoor.Ab
end
section
namespace Go.Proofs.YtgmkkjmdflhbnaaDoor.Ab
open Go
section
variable {w : World} {stb : Nat → Prop} {ob : Nat → Option Nat} {k : Nat}
theorem Rows.take {xs : List (List AV)} {us : List Value} (h : Rows w stb ob k xs us) (n : Nat) : Rows w stb ob k (xs.take n) (us.take (n * k)) := by
  refine ⟨?_, fun x hx => h.row x (List.mem_of_mem_take hx), fun u hu => h.one u (List.mem_of_mem_take hu), fun i x j c hi hj => ?_⟩
  · rw [List.length_take, List.length_take, h.len]
    rcases Nat.le_total n xs.length with hn | hn
    · rw [Nat.min_eq_left hn, Nat.min_eq_left (Nat.mul_le_mul_right _ hn)]
    · rw [Nat.min_eq_right hn, Nat.min_eq_right (Nat.mul_le_mul_right _ hn)]
  · rw [List.getElem?_take] at hi
    split at hi
    · rename_i hin
      obtain ⟨v, hv, hr⟩ := h.rep i x j c hi hj
      have hjk : j < k := by rw [← h.row x (List.mem_of_getElem? hi)]; exact (List.getElem?_eq_some_iff.1 hj).1
      have := row_le (k := k) hin
      exact ⟨v, by rw [List.getElem?_take, if_pos (by omega)]; exact hv, hr⟩
    · cases hi
theorem Rows.drop {xs : List (List AV)} {us : List Value} (h : Rows w stb ob k xs us) (n : Nat) : Rows w stb ob k (xs.drop n) (us.drop (n * k)) := by
  refine ⟨?_, fun x hx => h.row x (List.mem_of_mem_drop hx), fun u hu => h.one u (List.mem_of_mem_drop hu), fun i x j c hi hj => ?_⟩
  · rw [List.length_drop, List.length_drop, h.len, Nat.sub_mul]
  · rw [List.getElem?_drop] at hi
    obtain ⟨v, hv, hr⟩ := h.rep _ x j c hi hj
    refine ⟨v, ?_, hr⟩
    rw [List.getElem?_drop, ← hv, Nat.add_mul]
    congr 1
    omega
theorem Rows.splice {xs ys : List (List AV)} {us vs : List Value} (h : Rows w stb ob k xs us) (h' : Rows w stb ob k ys vs) (o : Nat) : Rows w stb ob k (splice xs o ys) (us.take (o * k) ++ vs ++ us.drop (o * k + vs.length)) := by
  unfold Ab.splice
  have h3 := h.drop (o + ys.length)
  rw [Nat.add_mul, ← h'.len] at h3
  exact ((h.take o).append h').append h3
theorem splice_length {xs ys : List (List AV)} {o : Nat} (h : o + ys.length ≤ xs.length) : (splice xs o ys).length = xs.length := by
  unfold splice
  simp only [List.length_append, List.length_take, List.length_drop]
  omega
theorem setRange_get {cs ds : List AV} {o : Nat} (h : o + ds.length ≤ cs.length) (q : Nat) : (setRange cs o ds)[q]? = if o ≤ q ∧ q < o + ds.length then ds[q - o]? else cs[q]? := by
  rw [setRange_eq _ _ _ h, List.append_assoc, List.getElem?_append]
  simp only [List.length_take, Nat.min_eq_left (show o ≤ cs.length by omega)]
  by_cases c1 : q < o
  · rw [if_pos c1, if_neg (by omega), List.getElem?_take, if_pos c1]
  · rw [if_neg c1, List.getElem?_append]
    by_cases c2 : q - o < ds.length
    · rw [if_pos c2, if_pos (by omega)]
    · rw [if_neg c2, if_neg (by omega), List.getElem?_drop]
      congr 1
      omega
theorem Rows.setCells {xs : List (List AV)} {us : List Value} (h : Rows w stb ob k xs us) {i o : Nat} (hi : i < xs.length) {cs : List AV} {vs : List Value} (hl : cs.length = vs.length) (ho : o + cs.length ≤ k)
    (h1 : ∀ u ∈ vs, u.oneCell' = true) (hr : ∀ (j : Nat) (c : AV) (u : Value), cs[j]? = some c → vs[j]? = some u → Rep w stb ob c u) :
    Rows w stb ob k (xs.set i (setRange (xs.getD i []) o cs)) (laid us (i * k + o) vs) := by
  have hik := row_le (k := k) hi
  have hgi : xs[i]? = some (xs.getD i []) := by rw [List.getD_eq_getElem?_getD, List.getElem?_eq_getElem hi]; rfl
  have hxi : (xs.getD i []).length = k := h.row _ (List.mem_of_getElem? hgi)
  have hll : i * k + o + vs.length ≤ us.length := by rw [h.len]; omega
  refine ⟨by rw [laid_length hll, h.len, List.length_set], fun x hx => ?_, fun u hu => (laid_mem hu).elim (h.one u) (h1 u), fun p x j c hp hj => ?_⟩
  · rcases List.mem_or_eq_of_mem_set hx with hx | rfl
    · exact h.row x hx
    · rw [setRange_length, hxi]
  · rw [laid_get hll]
    by_cases e : p = i
    · subst e
      rw [List.getElem?_set_self hi] at hp
      obtain rfl := Option.some.inj hp
      rw [setRange_get (by omega)] at hj
      by_cases c1 : o ≤ j ∧ j < o + cs.length
      · rw [if_pos c1] at hj
        obtain ⟨u, hu⟩ : ∃ u, vs[j - o]? = some u := ⟨_, List.getElem?_eq_getElem (by omega)⟩
        exact ⟨u, by rw [if_pos (by omega), show p * k + j - (p * k + o) = j - o by omega]; exact hu, hr _ _ _ hj hu⟩
      · rw [if_neg c1] at hj
        rw [if_neg (by omega)]
        exact h.rep p _ j c hgi hj
    · rw [List.getElem?_set_ne (Ne.symm e)] at hp
      have hjl := (List.getElem?_eq_some_iff.1 hj).1
      have hxk := h.row x (List.mem_of_getElem? hp)
      rw [if_neg ?_]
      · exact h.rep p x j c hp hj
      · rcases Nat.lt_or_gt_of_ne e with hlt | hgt
        · have := row_le (k := k) hlt; omega
        · have := row_le (k := k) hgt; omega
end
theorem set_get_self (H : Heap) (j : Nat) (x : HB) : (H.set j x).get j = x := by simp [Heap.set]
theorem set_get_ne (H : Heap) {i j : Nat} (x : HB) (h : i ≠ j) : (H.set j x).get i = H.get i := by
  have : Nat.beq i j = false := by
    cases hb : Nat.beq i j with
    | false => rfl
    | true => exact absurd (Nat.eq_of_beq_eq_true hb) h
  simp [Heap.set, this]
theorem push_get_self (H : Heap) (x : HB) : (H.push x).get H.next = x := by simp [Heap.push]
theorem push_get_ne (H : Heap) {i : Nat} (x : HB) (h : i ≠ H.next) : (H.push x).get i = H.get i := by
  have : Nat.beq i H.next = false := by
    cases hb : Nat.beq i H.next with
    | false => rfl
    | true => exact absurd (Nat.eq_of_beq_eq_true hb) h
  simp [Heap.push, this]
section
variable {P : Program} {T : List TI} {w0 : World} {g0 g g' : Gs} {l : Gl} {w w' : World} {st : St} {a : Act} {o : Oper} {next : Act → World → Prop} {Q : Exit → Act → World → Prop}
theorem HOK.set {H : Heap} (h : HOK g w H) {j b : Nat} (ho : g.ob j = some b) (hj : H.get j ≠ .dead) (hsize : w.heap.size ≤ w'.heap.size) (hkeep : ∀ q, q ≠ b → q < w.heap.size → w'.heap[q]? = w.heap[q]?) (hst : ∀ b, g.stb b → w'.heap[b]? = w.heap[b]?) {x : HB} (hx : x ≠ .dead) (hR : HRep g w' b x) : HOK g w' (H.set j x) where
  lt := h.lt
  top i hi := by
    have hlt := h.lt j b ho
    rw [set_get_ne _ _ (by show i ≠ j; have : H.next ≤ i := hi; omega)]
    exact h.top i hi
  live i hi := by
    by_cases e : i = j
    · subst e
      rw [set_get_self]
      obtain ⟨b', h1, h2, h3, _⟩ := h.live i hj
      rw [ho] at h1
      cases h1
      exact ⟨b, ho, h2, by omega, hR⟩
    · rw [set_get_ne _ _ e] at hi ⊢
      obtain ⟨b', h1, h2, h3, h4⟩ := h.live i hi
      have hne : b' ≠ b := fun eb => e (h.inj i j b hi hj (eb ▸ h1) ho)
      exact ⟨b', h1, h2, by omega, h4.mono (hkeep b' hne h3) hst (fun _ h => h) (fun _ _ h => h)⟩
  inj i q b' hi hq h1 h2 := by
    have hi' : H.get i ≠ .dead := by
      by_cases e : i = j
      · subst e; exact hj
      · rwa [set_get_ne _ _ e] at hi
    have hq' : H.get q ≠ .dead := by
      by_cases e : q = j
      · subst e; exact hj
      · rwa [set_get_ne _ _ e] at hq
    exact h.inj i q b' hi' hq' h1 h2
  foot b' hb := by
    obtain ⟨i, h1, h2⟩ := h.foot b' hb
    refine ⟨i, ?_, h2⟩
    by_cases e : i = j
    · subst e; rw [set_get_self]; exact hx
    · rw [set_get_ne _ _ e]; exact h1
  fx p hp := ⟨(h.fx p hp).1, (h.fx p hp).2.mono (hst _ (h.fx p hp).1)⟩
theorem Inv.setHeap (hI : Inv w0 g0 g l w st a) {j b : Nat} (ho : g.ob j = some b) (hj : st.H.get j ≠ .dead) (hos : w'.os = w.os) (htape : w'.tape = w.tape) (hout : w'.output = w.output) (hsize : w'.heap.size = w.heap.size) (hkeep : ∀ q, q ≠ b → w'.heap[q]? = w.heap[q]?)
    {x : HB} (hx : x ≠ .dead) (hR : HRep g w' b x) : Inv w0 g0 g l w' { st with H := st.H.set j x } a := by
  obtain ⟨b', h1, h2, h3, _⟩ := hI.heap.live j hj
  rw [ho] at h1
  cases h1
  refine hI.step hos htape hout (by omega) (fun q hq hl => hkeep q fun e => ?_) (fun _ h => h) (fun _ h => .inl h) (fun _ _ h => h) (fun _ h => .inl h) (fun q hq => by rw [hsize]; exact hI.stbLt q hq)
    (hI.heap.set ho hj (by omega) (fun q hq _ => hkeep q hq) (fun q hq => hkeep q fun e => (hI.stbLt q hq).2 (e ▸ h2)) hx hR)
  subst e
  rcases hl with (hl | ⟨i, mb, hi, hm, hl⟩ | ⟨t, ht, hl⟩) | hl
  · exact (hI.stbLt _ hl).2 h2
  · exact (hI.priv i mb hi hm).2.2.2 (hl ▸ h2)
  · exact (hI.ownPriv t ht _ hl).2.1 h2
  · exact hl.2 h2
def Gs.push (g : Gs) (n b : Nat) : Gs := { stb := g.stb, ob := fun i => if i = n then some b else g.ob i, foot := fun q => g.foot q ∨ q = b }
theorem HOK.push {H : Heap} (h : HOK g w H) {b : Nat} (hb : w.heap.size ≤ b ∨ b < w.heap.size ∧ ¬ g.foot b) (hbl : b < w'.heap.size) (hsize : w.heap.size ≤ w'.heap.size) (hkeep : ∀ q, q < w.heap.size → w'.heap[q]? = w.heap[q]?) (hst : ∀ b, g.stb b → b < w.heap.size) {x : HB} (hx : x ≠ .dead) (hR : HRep (g.push H.next b) w' b x) : HOK (g.push H.next b) w' (H.push x) where
  lt i q hi := by
    show i < H.next + 1
    simp only [Gs.push] at hi
    split at hi
    · omega
    · have := h.lt i q hi; omega
  top i hi := by
    have hi' : H.next + 1 ≤ i := hi
    rw [push_get_ne _ _ (by omega)]
    exact h.top i (by omega)
  live i hi := by
    by_cases e : i = H.next
    · subst e
      rw [push_get_self]
      exact ⟨b, by simp [Gs.push], .inr rfl, hbl, hR⟩
    · rw [push_get_ne _ _ e] at hi ⊢
      obtain ⟨b', h1, h2, h3, h4⟩ := h.live i hi
      refine ⟨b', by simp [Gs.push, e, h1], .inl h2, by omega, h4.mono (hkeep b' h3) (fun q hq => hkeep q (hst q hq)) (fun _ h => h) (fun q b hq => ?_)⟩
      have := h.lt q b hq
      simp only [Gs.push, hq]
      rw [if_neg (by omega)]
  inj i q b' hi hq h1 h2 := by
    have old : ∀ {i}, i ≠ H.next → g.ob i = some b → (H.push x).get i ≠ .dead → False := by
      intro i e ho hl
      rw [push_get_ne _ _ e] at hl
      obtain ⟨b'', k1, k2, k3, _⟩ := h.live i hl
      rw [ho] at k1
      cases k1
      rcases hb with hb | hb
      · omega
      · exact hb.2 k2
    simp only [Gs.push] at h1 h2
    by_cases e : i = H.next <;> by_cases e' : q = H.next
    · omega
    · rw [if_pos e] at h1
      rw [if_neg e'] at h2
      cases h1
      exact (old e' h2 hq).elim
    · rw [if_neg e] at h1
      rw [if_pos e'] at h2
      cases h2
      exact (old e h1 hi).elim
    · rw [if_neg e] at h1
      rw [if_neg e'] at h2
      rw [push_get_ne _ _ e] at hi
      rw [push_get_ne _ _ e'] at hq
      exact h.inj i q b' hi hq h1 h2
  foot b' hb' := by
    rcases hb' with hb' | rfl
    · obtain ⟨i, h1, h2⟩ := h.foot b' hb'
      have hlt := h.lt i b' h2
      refine ⟨i, ?_, ?_⟩
      · rw [push_get_ne _ _ (by omega)]; exact h1
      · simp only [Gs.push]; rw [if_neg (by omega)]; exact h2
    · exact ⟨H.next, by rw [push_get_self]; exact hx, by simp [Gs.push]⟩
  fx p hp := ⟨(h.fx p hp).1, (h.fx p hp).2.mono (hkeep _ (hst _ (h.fx p hp).1))⟩
theorem push_ob {H : Heap} (h : HOK g w H) {b : Nat} : ∀ j q, g.ob j = some q → (g.push H.next b).ob j = some q := by
  intro j q hj
  have := h.lt j q hj
  simp only [Gs.push]
  rw [if_neg (by omega)]
  exact hj
theorem Inv.pushHeap (hI : Inv w0 g0 g l w st a) (hos : w'.os = w.os) (htape : w'.tape = w.tape) (hout : w'.output = w.output) (hsize : w.heap.size ≤ w'.heap.size) (hkeep : ∀ q, q < w.heap.size → w'.heap[q]? = w.heap[q]?)
    {b : Nat} (hb : w.heap.size ≤ b) (hbl : b < w'.heap.size) {x : HB} (hx : x ≠ .dead) (hR : HRep (g.push st.H.next b) w' b x) : Inv w0 g0 (g.push st.H.next b) l w' { st with H := st.H.push x } a := by
  refine hI.step (g' := g.push st.H.next b) hos htape hout hsize (fun q hq _ => hkeep q hq) (fun _ h => h) (fun _ h => .inl h) (push_ob hI.heap) (fun q hq => ?_) (fun q hq => ?_)
    (hI.heap.push (.inl hb) hbl hsize hkeep (fun q hq => (hI.stbLt q hq).1) hx hR)
  · rcases hq with hq | rfl
    · exact .inl hq
    · exact .inr hb
  · have := hI.stbLt q hq
    refine ⟨by omega, fun h => ?_⟩
    rcases h with h | rfl
    · exact this.2 h
    · omega
theorem lent_cells (hI : Inv w0 g0 g l w st a) {y : Operand} (hb : boxable (ρ st.tm y) = true) :
    ∃ g', Inv w0 g0 g' l w (st.frzAll (tagsOf (ρ st.tm y))) a ∧ g'.ob = g.ob ∧ (frzVs (cellsOf (ρ st.tm y))).length = (a.eval y).cells.toList.length ∧ (∀ u ∈ (a.eval y).cells.toList, u.oneCell' = true) ∧
      ∀ (j : Nat) (q : AV) (u : Value), (frzVs (cellsOf (ρ st.tm y)))[j]? = some q → (a.eval y).cells.toList[j]? = some u → Rep w g'.stb g'.ob q u := by
  obtain ⟨hy, hyt⟩ := hI.operand (a := a) y
  obtain ⟨hyr, hy1, hyt'⟩ := box_rep hy hI hyt hb
  have hcl : tagsOfs (cellsOf (ρ st.tm y)) = tagsOf (ρ st.tm y) := by
    cases ρ st.tm y <;> simp [cellsOf, tagsOfs, tagsOf]
  obtain ⟨g', hI', s1, n1, o1, f1, b1, c1⟩ := hI.frzAll (tagsOf (ρ st.tm y)) (fun t ht => tags_pos hI t (hyt t ht))
  refine ⟨g', hI', o1, by unfold frzVs; rw [mapTs_length, hyr.length], hy1, fun j q u hq hu => ?_⟩
  unfold frzVs at hq
  rw [mapTs_get, Option.map_eq_some_iff] at hq
  obtain ⟨q0, hq0, rfl⟩ := hq
  rw [o1]
  refine lend_rep (base := w0.heap.size) s1 (S := tagsOf (ρ st.tm y)) (fun t ht => ⟨hI.own t (hyt t ht), b1 t ht (hyt t ht)⟩) q0 u (fun t ht => ?_) (hyr.of j q0 u hq0 hu)
  rw [← hcl]
  exact tagsOfs_get hq0 t ht
theorem hrep_rows {b k : Nat} {xs : List (List AV)} {vs : List Value} {e : TypeId} (hh : w.heap[b]? = some (.cells vs.toArray e (0, 0))) (hk : 0 < k) (hm : xs.length ≤ maxLen) (hR : Rows w g.stb g.ob k xs vs) : HRep g w b (.rows k xs) :=
  ⟨vs, e, hh, hR.len, hk, hm, hR.row, hR.one, hR.rep⟩
theorem rows_of {H : Heap} (h : HOK g w H) {j b k : Nat} (ho : g.ob j = some b) {xs : List (List AV)} (hj : H.get j = .rows k xs) :
    g.foot b ∧ 0 < k ∧ xs.length ≤ maxLen ∧ ∃ vs e, w.heap[b]? = some (.cells (List.toArray vs) e (0, 0)) ∧ Rows w g.stb g.ob k xs vs := by
  obtain ⟨h1, vs, e, h2, h3, h4, h5, h6, h7, h8⟩ := h.rows ho hj
  exact ⟨h1, h4, h5, vs, e, h2, h3, h6, h7, h8⟩
theorem store_he_sound (hT : TabOk P T) (hI : Inv w0 g0 g l w st a) {t : Nat} {x y : Operand} {j k i o' : Nat} {K : St → Prop} (ho : o.op = .store t x y) (hx : ρ st.tm x = .he j k i o')
    (h : G ((st.H.get j).isRows k) (G (Nat.blt 0 (ti T t).size) (G (boxable (ρ st.tm y)) (G (Nat.ble (o' + (cellsOf (ρ st.tm y)).length) k) (G (Nat.beq (cellsOf (ρ st.tm y)).length (ti T t).size) (G (Nat.blt i (st.H.get j).xs.length)
      (K ({ st.frzAll (tagsOf (ρ st.tm y)) with H := st.H.set j (.rows k ((st.H.get j).xs.set i (setRange ((st.H.get j).xs.getD i []) o' (frzVs (cellsOf (ρ st.tm y)))))) }.put o.dst (.tup [])))))))))
    (hn : Goes w0 g0 K next) : o.wp P a w next Q := by
  obtain ⟨h0, h⟩ := G_out h
  obtain ⟨h1, h⟩ := G_out h
  obtain ⟨hb, h⟩ := G_out h
  obtain ⟨h2, h⟩ := G_out h
  obtain ⟨h3, h⟩ := G_out h
  obtain ⟨h4, h⟩ := G_out h
  have e2 := Nat.le_of_ble_eq_true h2
  have e3 := Nat.eq_of_beq_eq_true h3
  have e4 : i < (st.H.get j).xs.length := Nat.le_of_ble_eq_true h4
  obtain ⟨xs, hxs⟩ := isRows_eq h0
  obtain ⟨hp, _⟩ := hI.operand (a := a) x
  rw [hx] at hp
  simp only [TRep] at hp
  obtain ⟨g', hI', ho', hl, hy1, hlend⟩ := lent_cells hI hb
  have hH : (st.frzAll (tagsOf (ρ st.tm y))).H = st.H := frzAll_H _ _
  generalize hv : a.eval x = v at hp
  cases hp with
  | he _ b _ _ _ hob =>
    have hob' : g'.ob j = some b := by rw [ho']; exact hob
    have hj' : (st.frzAll (tagsOf (ρ st.tm y))).H.get j = .rows k xs := by rw [hH]; exact hxs
    obtain ⟨hf, hk, hm, vs, e, hh, hR⟩ := rows_of hI'.heap hob' hj'
    rw [hxs] at h e4
    simp only [HB.xs] at h e4
    have hfl : (frzVs (cellsOf (ρ st.tm y))).length = (cellsOf (ρ st.tm y)).length := by unfold frzVs; rw [mapTs_length]
    have hik := row_le (k := k) e4
    have hll : i * k + o' + (a.eval y).cells.toList.length ≤ vs.length := by rw [hR.len, ← hl, hfl]; omega
    have hst := run_storeCells_at P b (i * k + o') e (a.eval y).cells.toList 0 vs.toArray w hh (by simp only [Nat.add_zero, List.size_toArray]; exact hll) hy1
    simp only [Nat.add_zero] at hst
    have hsz := hT.size_pos (P := P) (t := t) (Nat.le_of_ble_eq_true h1) w
    have hrun : (execOp a.eval o).run P w = .ok .skip (w.setRow b (laid vs (i * k + o') (a.eval y).cells.toList).toArray) := by
      unfold execOp
      rw [ho]
      have hc' : (a.eval y).cells.size = (ti T t).size := by rw [← e3, ← hfl, hl]; simp
      simp [Instr.storeAt, Instr.sureAddr, hv, storeVar, hsz, hc', hst, laid]
    have hR' := hR.setCells (i := i) (o := o') e4 hl (by rw [hfl]; exact e2) hy1 hlend
    have hst' : ∀ q, g'.stb q → (w.setRow b (laid vs (i * k + o') (a.eval y).cells.toList).toArray).heap[q]? = w.heap[q]? := fun q hq => setRow_other _ _ _ _ fun e => (hI'.stbLt q hq).2 (e ▸ hf)
    have hI2 := hI'.setHeap (w' := w.setRow b (laid vs (i * k + o') (a.eval y).cells.toList).toArray) hob' (by rw [hj']; simp) rfl rfl rfl (by simp) (fun q hq => setRow_other _ _ _ _ hq) (x := .rows k (xs.set i (setRange (xs.getD i []) o' (frzVs (cellsOf (ρ st.tm y)))))) (by simp)
      (hrep_rows (setRow_heap _ _ _ _ _ _ hh) hk (by simpa using hm) (hR'.mono hst' (fun _ h => h) (fun _ _ h => h)))
    rw [hH] at hI2
    exact wp_skip hrun (hn _ _ _ _ _ (hI2.put undef_rep (by simp [tagsOf, tagsOfs]) _) h)
theorem store_obj_sound (hT : TabOk P T) (hI : Inv w0 g0 g l w st a) {t : Nat} {x y : Operand} {j o' : Nat} {K : St → Prop} (ho : o.op = .store t x y) (hx : ρ st.tm x = .obj j o')
    (h : G ((st.H.get j).isCells) (G (Nat.blt 0 (ti T t).size) (G (boxable (ρ st.tm y)) (G (Nat.ble (o' + (cellsOf (ρ st.tm y)).length) (st.H.get j).cs.length) (G (Nat.beq (cellsOf (ρ st.tm y)).length (ti T t).size)
      (K ({ st.frzAll (tagsOf (ρ st.tm y)) with H := st.H.set j (.cells (setRange (st.H.get j).cs o' (frzVs (cellsOf (ρ st.tm y))))) }.put o.dst (.tup []))))))))
    (hn : Goes w0 g0 K next) : o.wp P a w next Q := by
  obtain ⟨h0, h⟩ := G_out h
  obtain ⟨h1, h⟩ := G_out h
  obtain ⟨hb, h⟩ := G_out h
  obtain ⟨h2, h⟩ := G_out h
  obtain ⟨h3, h⟩ := G_out h
  have e2 := Nat.le_of_ble_eq_true h2
  have e3 := Nat.eq_of_beq_eq_true h3
  obtain ⟨cs, hcs⟩ := isCells_eq h0
  obtain ⟨hp, _⟩ := hI.operand (a := a) x
  rw [hx] at hp
  simp only [TRep] at hp
  obtain ⟨g', hI', ho', hl, hy1, hlend⟩ := lent_cells hI hb
  have hH : (st.frzAll (tagsOf (ρ st.tm y))).H = st.H := frzAll_H _ _
  generalize hv : a.eval x = v at hp
  cases hp with
  | obj _ b _ hob =>
    have hob' : g'.ob j = some b := by rw [ho']; exact hob
    have hj' : (st.frzAll (tagsOf (ρ st.tm y))).H.get j = .cells cs := by rw [hH]; exact hcs
    obtain ⟨hf, vs, e, hh, hlv, h1v, hrep⟩ := hI'.heap.cells hob' hj'
    rw [hcs] at h e2
    simp only [HB.cs] at h e2
    have hfl : (frzVs (cellsOf (ρ st.tm y))).length = (cellsOf (ρ st.tm y)).length := by unfold frzVs; rw [mapTs_length]
    have hll : o' + (a.eval y).cells.toList.length ≤ vs.length := by rw [hlv, ← hl, hfl]; exact e2
    have hst := run_storeCells_at P b o' e (a.eval y).cells.toList 0 vs.toArray w hh (by simp only [Nat.add_zero, List.size_toArray]; exact hll) hy1
    simp only [Nat.add_zero] at hst
    have hsz := hT.size_pos (P := P) (t := t) (Nat.le_of_ble_eq_true h1) w
    have hrun : (execOp a.eval o).run P w = .ok .skip (w.setRow b (laid vs o' (a.eval y).cells.toList).toArray) := by
      unfold execOp
      rw [ho]
      have hc' : (a.eval y).cells.size = (ti T t).size := by rw [← e3, ← hfl, hl]; simp
      simp [Instr.storeAt, Instr.sureAddr, hv, storeVar, hsz, hc', hst, laid]
    have hst' : ∀ q, g'.stb q → (w.setRow b (laid vs o' (a.eval y).cells.toList).toArray).heap[q]? = w.heap[q]? := fun q hq => setRow_other _ _ _ _ fun e => (hI'.stbLt q hq).2 (e ▸ hf)
    have hI2 := hI'.setHeap (w' := w.setRow b (laid vs o' (a.eval y).cells.toList).toArray) hob' (by rw [hj']; simp) rfl rfl rfl (by simp) (fun q hq => setRow_other _ _ _ _ hq) (x := .cells (setRange cs o' (frzVs (cellsOf (ρ st.tm y))))) (by simp)
      ⟨_, e, setRow_heap _ _ _ _ _ _ hh, by rw [laid_length hll, setRange_length]; exact hlv, fun u hu => (laid_mem hu).elim (h1v u) (hy1 u), fun i c v hc hv => by
        rw [setRange_get (by rw [hfl]; exact e2)] at hc
        rw [laid_get hll] at hv
        by_cases c1 : o' ≤ i ∧ i < o' + (frzVs (cellsOf (ρ st.tm y))).length
        · rw [if_pos c1] at hc
          rw [if_pos (by rw [← hl]; exact c1)] at hv
          exact (hlend _ _ _ hc hv).mono hst' (fun _ h => h) (fun _ _ h => h)
        · rw [if_neg c1] at hc
          rw [if_neg (by rw [← hl]; exact c1)] at hv
          exact (hrep i c v hc hv).mono hst' (fun _ h => h) (fun _ _ h => h)⟩
    rw [hH] at hI2
    exact wp_skip hrun (hn _ _ _ _ _ (hI2.put undef_rep (by simp [tagsOf, tagsOfs]) _) h)
structure App (P : Program) (w : World) (tys : Array TypeId) (ty e size bytes : Nat) (x : Value) (m : Nat) (news : List Value) : Prop where
  room : ∀ (a : Addr) (n c : Nat) (w' : World), n + m ≤ c → (storeCells (a.add (n * size)) news).run P w = .ok () w' → (Builtin.append_ tys ty #[.slice (some a) n c, x]).run P w = .ok (.slice (some a) (n + m) c) w'
  grow : ∀ (a : Addr) (n c : Nat) (olds : List Value), n ≤ c → c < n + m → n + m ≤ maxLen → (n + m) * bytes ≤ 140737488355328 → olds.length = n * size → (∀ (j : Nat) (v : Value), olds[j]? = some v → w.cell? (a.add j) = some v) →
    ∃ rest, rest.length = (grownCap w (n + m) c e - (n + m)) * size ∧ (∀ u ∈ rest, u.oneCell' = true) ∧ (Builtin.append_ tys ty #[.slice (some a) n c, x]).run P w = .ok (.slice (some ⟨w.heap.size, 0, none⟩) (n + m) (grownCap w (n + m) c e)) (w.drew.alloc (.cells (olds ++ news ++ rest).toArray e))
theorem zero_one (hT : TabOk P T) {e : Nat} (h : madeT T e = true) (n : Nat) {z : Value} {i : TypeInfo} (hi : P.info? e = some i) (hz : i.zero = some z) (w : World) :
    (Builtin.zeroCells z.cells n).toList.length = n * (ti T e).size ∧ (∀ u ∈ (Builtin.zeroCells z.cells n).toList, u.oneCell' = true) ∧ ∀ g : Gs, Rows w g.stb g.ob (ti T e).size (List.replicate n ((ti T e).shape.map CK.zero)) (Builtin.zeroCells z.cells n).toList := by
  obtain ⟨h1, h2, h3, h4⟩ := madeT_out h
  obtain ⟨i', z', hi', hz', hsz, hby, hzl, _⟩ := zeros_rep (P := P) hT h1 h2
  rw [hi] at hi'
  cases hi'
  rw [hz] at hz'
  cases hz'
  have hzl' : z.cells.size = (ti T e).size := by simpa using hzl
  have e1 : Builtin.zeroCells z.cells n = madeCells z.cells (n * (ti T e).size) := by rw [← hzl']; rfl
  rw [e1]
  have hR := fun g => zero_rows (P := P) hT h n hi hz g w
  exact ⟨by have := (hR ⟨fun _ => False, fun _ => none, fun _ => False⟩).len; simpa using this, (hR ⟨fun _ => False, fun _ => none, fun _ => False⟩).one, hR⟩
theorem app_rows (hT : TabOk P T) {e : Nat} (h0 : madeT T e = true) {t ty : Nat} (hk : (ti T t).k = .slice e) {ys : List (List AV)} {y : Value} (hy : Src g w (ti T e).size ys y) :
    ∃ news, App P w #[t, t] ty e (ti T e).size (ti T e).bytes y ys.length news ∧ Rows w g.stb g.ob (ti T e).size ys news := by
  obtain ⟨q1, q2, q3, q4⟩ := madeT_out h0
  obtain ⟨i, z, hi, hz, hsz, hby, hzl, _⟩ := zeros_rep (P := P) hT q1 q2
  obtain ⟨A, c0, news, rfl, hA, hcells, hR⟩ := hy.out
  have ht := hT.u_slice hk
  refine ⟨news, ⟨fun a n c w' hroom hst => ?_, fun a n c olds hnc hg h63 hbytes hlo holds => ?_⟩, hR⟩
  · have hf : (Builtin.firstCells i.size ys.length (.slice A ys.length c0)).run P w = .ok news.toArray w := by
      cases A with
      | none =>
        have hy0 := hA rfl
        have : news = [] := List.eq_nil_of_length_eq_zero (by rw [hR.len, hy0]; simp)
        rw [this]
        exact run_firstCells_none (P := P) w i.size ys.length ys.length c0
      | some ad => exact run_firstCells_some (P := P) w i.size ys.length ad ys.length c0 news (by rw [hsz]; exact hR.len) (hcells ad rfl)
    rw [← hsz] at hst
    simp [Builtin.append_, run_underlying ht, sizeOf, typeInfo, hi, Builtin.lenOf, hroom, hf, hst]
  · cases A with
    | none => have := hA rfl; omega
    | some ad =>
      obtain ⟨z1, z2, _⟩ := zero_one (P := P) hT h0 (grownCap w (n + ys.length) c e - (n + ys.length)) hi hz w
      refine ⟨_, z1, z2, ?_⟩
      have hr := run_append_grow (P := P) w t ty e i z ht hi hz a n c olds (by rw [hsz]; exact hlo) holds ad ys.length c0 news (by rw [hsz]; exact hR.len) (hcells ad rfl) hg (by simp only [maxLen] at h63; omega) (growslice_fits hg (by rw [hby]; exact hbytes))
      rw [hr]
      congr 3
      apply Array.ext'
      simp
theorem app_zeros (hT : TabOk P T) {e : Nat} (h0 : madeT T e = true) {t u ty : Nat} (hk : (ti T t).k = .slice e) (hu : (ti T u).k = .int .i64) {m : Int} (hm : 0 ≤ m) (hr : roomN m (ti T e).bytes = true) :
    ∃ news, App P w #[t, u] ty e (ti T e).size (ti T e).bytes (.int .i64 m) m.toNat news ∧ Rows w g.stb g.ob (ti T e).size (List.replicate m.toNat ((ti T e).shape.map CK.zero)) news := by
  obtain ⟨q1, q2, q3, q4⟩ := madeT_out h0
  obtain ⟨i, z, hi, hz, hsz, hby, hzl, _⟩ := zeros_rep (P := P) hT q1 q2
  have ht := hT.u_slice hk
  have hui := hT.u_int hu
  obtain ⟨z1, z2, z3⟩ := zero_one (P := P) hT h0 m.toNat hi hz w
  have hroom : m * ((ti T e).bytes : Int) ≤ 140737488355328 := of_decide_eq_true hr
  have hmle : m ≤ 140737488355328 := by
    have : m * 1 ≤ m * ((ti T e).bytes : Int) := Int.mul_le_mul_of_nonneg_left (by omega) hm
    omega
  have hwrap : IntKind.i64.wrap m = m := by simp [IntKind.wrap, IntKind.signed, IntKind.bits]; omega
  have hnn : ¬ m < 0 := by omega
  have h48 : ¬ 281474976710656 < m * (i.bytes : Int) := by rw [hby]; omega
  have hzl' : z.cells.size = i.size := by rw [hsz]; simpa using hzl
  have hzz : m.toNat * i.size = 0 → Builtin.zeroCells z.cells m.toNat = #[] := fun hz0 => by
    apply Array.eq_empty_of_size_eq_zero
    rw [size_zeroCells, hzl', hz0]
  refine ⟨(Builtin.zeroCells z.cells m.toNat).toList, ⟨fun a n c w' hroom hst => ?_, fun a n c olds hnc hg h63 hbytes hlo holds => ?_⟩, z3 g⟩
  · rw [← hsz] at hst
    by_cases hz0 : m.toNat * i.size = 0
    · have := hzz hz0
      have hst0 : (storeCells (a.add (n * i.size)) []).run P w = .ok () w' := by rw [this] at hst; simpa using hst
      simp [Builtin.append_, run_underlying ht, run_underlying hui, sizeOf, typeInfo, hi, asInt, asIntOf, hwrap, hnn, h48, hroom, hz0, hst0]
    · simp [Builtin.append_, run_underlying ht, run_underlying hui, sizeOf, typeInfo, hi, hz, zeroValue, asInt, asIntOf, hwrap, hnn, h48, hroom, hz0, hst]
  · have hcap : ¬ n + m.toNat ≤ c := by omega
    have hm0 : ¬ m.toNat = 0 := by omega
    have hz2 : ¬ i.size = 0 := by omega
    obtain ⟨y1, y2, _⟩ := zero_one (P := P) hT h0 (grownCap w (n + m.toNat) c e - (n + m.toNat)) hi hz w
    have hfo := run_firstCells_some (P := P) w.drew i.size n a n c olds (by rw [hsz]; exact hlo) (by simpa using holds)
    have hfit := growslice_fits hg (show (n + m.toNat) * i.bytes ≤ 140737488355328 by rw [hby]; exact hbytes)
    have h48' : ¬ (281474976710656 < Builtin.nextslicecap (n + m.toNat) c * i.bytes) := by omega
    have h63'' : ¬ (9223372036854775807 < ((n : Int) + max m 0)) := by simp only [maxLen] at h63; omega
    refine ⟨_, y1, y2, ?_⟩
    have hmz : ¬ m.toNat * i.size = 0 := fun h => by rcases Nat.mul_eq_zero.1 h with h | h <;> contradiction
    simp [Builtin.append_, run_underlying ht, run_underlying hui, sizeOf, typeInfo, hi, hz, zeroValue, asInt, asIntOf, hwrap, hnn, h48, hcap, h48', h63'', Question.forced, hfo, newRow, grownCap]
    rw [if_neg hmz]
    congr 3
    apply Array.ext'
    simp
theorem rows_any {k r : Nat} {us : List Value} (hl : us.length = r * k) (h1 : ∀ u ∈ us, u.oneCell' = true) (w : World) (stb : Nat → Prop) (ob : Nat → Option Nat) : Rows w stb ob k (List.replicate r (List.replicate k .any)) us := by
  refine ⟨by simp [hl], fun x hx => ?_, h1, fun i x j c hi hj => ?_⟩
  · obtain ⟨_, rfl⟩ := List.mem_replicate.1 hx; simp
  · rw [List.getElem?_replicate] at hi
    split at hi
    · rename_i hlt
      cases hi
      rw [List.getElem?_replicate] at hj
      split at hj
      · cases hj
        have := row_le (k := k) hlt
        exact ⟨_, List.getElem?_eq_getElem (by omega), .any _⟩
      · cases hj
    · cases hi
theorem laid_nil (vs : List Value) (o : Nat) : laid vs o [] = vs := by simp [laid]
theorem store_rows {b q o k n c e : Nat} {vs news : List Value} {ys : List (List AV)} (hh : w.heap[b]? = some (.cells vs.toArray e (0, 0))) (hq : (c = 0 ∧ o ≠ 0) ∨ q = o * k) (hl : news.length = ys.length * k) (hroom : n + ys.length ≤ c) (hfit : (o + n) * k + news.length ≤ vs.length) (h1 : ∀ u ∈ news, u.oneCell' = true) :
    (storeCells ((⟨b, q, none⟩ : Addr).add (n * k)) news).run P w = .ok () (w.setRow b (laid vs ((o + n) * k) news).toArray) := by
  by_cases hy : news = []
  · subst hy
    rw [laid_nil]
    rw [setRow_self w b vs.toArray e (0, 0) hh]
    simp [storeCells]
  · have hq : q = o * k := by
      rcases hq with hq | hq
      · have : ys.length = 0 := by omega
        rw [this, Nat.zero_mul] at hl
        exact absurd (List.eq_nil_of_length_eq_zero hl) hy
      · exact hq
    subst hq
    rw [add_plain, ← Nat.add_mul]
    have := run_storeCells_at P b ((o + n) * k) e news 0 vs.toArray w hh (by simpa using hfit) h1
    simpa [laid] using this
theorem append_hs_core (hI : Inv w0 g0 g l w st a) {e : Nat} (q3 : 0 < (ti T e).size) {j o' n m : Nat} {v : Value} (hv : Rep w g.stb g.ob (.hs j o' n m (ti T e).size) v) {xs : List (List AV)} (hxs : st.H.get j = .rows (ti T e).size xs)
    {tys : Array TypeId} {ty : Nat} {yv : Value} {ys : List (List AV)} {news : List Value} (hA : App P w tys ty e (ti T e).size (ti T e).bytes yv ys.length news) (hR : Rows w g.stb g.ob (ti T e).size ys news) {d : Option Nat} {K : St → Prop} (q4 : 0 < (ti T e).bytes)
    (h : cond (Nat.ble (n + ys.length) m)
      (G (Nat.ble (o' + n + ys.length) xs.length) (K ({ st with H := st.H.set j (.rows (ti T e).size (splice xs (o' + n) ys)) }.put d (.hs j o' (n + ys.length) m (ti T e).size))))
      (G (room ((xs.drop o').take n) ys (ti T e).bytes) (G (Nat.ble (o' + n) xs.length) (∀ m', n + ys.length ≤ m' → (n + ys.length ≤ 140737488355328 → m' ≤ 9223372036854775807) →
        K ({ st with H := st.H.push (.rows (ti T e).size (pad (ti T e).size m' ((xs.drop o').take n ++ ys))) }.put d (.hs st.H.next 0 (n + ys.length) m' (ti T e).size)))))) :
    ∃ v' w' g' st', (Builtin.append_ tys ty #[v, yv]).run P w = .ok v' w' ∧ Inv w0 g0 g' l w' st' (a.put d v') ∧ K st' := by
  cases hv with
  | hs _ b _ _ _ _ q hob hn hm hq =>
    obtain ⟨hf, _, hmx, vs, e0, hh, hRx⟩ := rows_of hI.heap hob hxs
    cases hroom : Nat.ble (n + ys.length) m <;> rw [hroom] at h <;> simp only [cond_true, cond_false] at h
    ·
      obtain ⟨hr, h⟩ := G_out h
      obtain ⟨hle, h⟩ := G_out h
      have hle := Nat.le_of_ble_eq_true hle
      have hgt : m < n + ys.length := by
        rcases Nat.lt_or_ge m (n + ys.length) with h | h
        · exact h
        · have := Nat.ble_eq_true_of_le h; rw [hroom] at this; cases this
      have hlen : ((xs.drop o').take n).length = n := by simp; omega
      have hr : (n + ys.length) * (ti T e).bytes ≤ 140737488355328 := by have := Nat.le_of_ble_eq_true hr; rwa [hlen] at this
      have hle2 : n + ys.length ≤ (n + ys.length) * (ti T e).bytes := Nat.le_mul_of_pos_right _ q4
      have h63 : n + ys.length ≤ maxLen := by simp only [maxLen]; omega
      have hmul : (o' + n) * (ti T e).size ≤ xs.length * (ti T e).size := Nat.mul_le_mul_right _ hle
      rw [Nat.add_mul] at hmul
      have hold := (hRx.drop o').take n
      obtain ⟨rest, r1, r2, hrun⟩ := hA.grow ⟨b, q, none⟩ n m ((vs.drop (o' * (ti T e).size)).take (n * (ti T e).size)) hn hgt h63 hr (by rw [hold.len, hlen]) (fun i u hu => by
        rw [List.getElem?_take] at hu
        split at hu
        · rename_i hi
          rw [List.getElem?_drop] at hu
          have hq : q = o' * (ti T e).size := by
            rcases hq with hq | hq
            · have : n = 0 := by omega
              subst this
              simp at hi
            · exact hq
          rw [add_plain, hq]
          exact cell_of_list hh hu
        · cases hu)
      have hge := grownCap_ge w (n + ys.length) m e
      have hcm := grownCap_le_maxLen w (n + ys.length) m e h63
      refine ⟨_, _, _, _, hrun, Inv.put (g := g.push st.H.next w.heap.size) (hI.pushHeap (w' := w.drew.alloc (.cells ((vs.drop (o' * (ti T e).size)).take (n * (ti T e).size) ++ news ++ rest).toArray e)) rfl rfl rfl (by simp) (fun q hq => heap_alloc_old w.drew _ q hq) (Nat.le_refl _) (by simp) (x := .rows (ti T e).size (pad (ti T e).size (grownCap w (n + ys.length) m e) ((xs.drop o').take n ++ ys))) (by simp) ?_) (TRep.of_rep (.hs st.H.next w.heap.size 0 _ _ _ 0 (by simp [Gs.push]) hge hcm (.inr (by simp)))) (by simp [tagsOf]) d, h _ hge fun _ => hcm⟩
      have hnew : (w.drew.alloc (.cells ((vs.drop (o' * (ti T e).size)).take (n * (ti T e).size) ++ news ++ rest).toArray e)).heap[w.heap.size]? = some (.cells ((vs.drop (o' * (ti T e).size)).take (n * (ti T e).size) ++ news ++ rest).toArray e (0, 0)) := heap_alloc_new w.drew _
      have hst : ∀ b, g.stb b → (w.drew.alloc (.cells ((vs.drop (o' * (ti T e).size)).take (n * (ti T e).size) ++ news ++ rest).toArray e)).heap[b]? = w.heap[b]? := fun b hb => heap_alloc_old w.drew _ b (hI.stbLt b hb).1
      refine hrep_rows hnew q3 ?_ ?_
      · simp only [pad, List.length_append, List.length_replicate, hlen]; omega
      · unfold pad
        have hany := rows_any (r := grownCap w (n + ys.length) m e - (n + ys.length)) r1 r2 (w.drew.alloc (.cells ((vs.drop (o' * (ti T e).size)).take (n * (ti T e).size) ++ news ++ rest).toArray e)) (g.push st.H.next w.heap.size).stb (g.push st.H.next w.heap.size).ob
        have hold' := (hold.append hR).mono (stb' := (g.push st.H.next w.heap.size).stb) (ob' := (g.push st.H.next w.heap.size).ob) hst (fun _ h => h) (push_ob hI.heap)
        have := hold'.append hany
        rw [List.length_append, hlen]
        exact this
    ·
      obtain ⟨hle, h⟩ := G_out h
      have hle := Nat.le_of_ble_eq_true hle
      have hroom := Nat.le_of_ble_eq_true hroom
      have hmul : (o' + n + ys.length) * (ti T e).size ≤ xs.length * (ti T e).size := Nat.mul_le_mul_right _ hle
      have hfit : (o' + n) * (ti T e).size + news.length ≤ vs.length := by rw [hR.len, hRx.len, ← Nat.add_mul]; exact hmul
      have hst := store_rows (P := P) hh hq hR.len hroom hfit hR.one
      have hrun := hA.room ⟨b, q, none⟩ n m _ hroom hst
      have hkeep : ∀ p, p ≠ b → (w.setRow b (laid vs ((o' + n) * (ti T e).size) news).toArray).heap[p]? = w.heap[p]? := fun p hp => setRow_other _ _ _ _ hp
      have hst' : ∀ p, g.stb p → (w.setRow b (laid vs ((o' + n) * (ti T e).size) news).toArray).heap[p]? = w.heap[p]? := fun p hp => hkeep p fun e => (hI.stbLt p hp).2 (e ▸ hf)
      refine ⟨_, _, _, _, hrun, Inv.put (hI.setHeap (w' := w.setRow b (laid vs ((o' + n) * (ti T e).size) news).toArray) hob (by rw [hxs]; simp) rfl rfl rfl (by simp) hkeep (x := .rows (ti T e).size (splice xs (o' + n) ys)) (by simp)
        (hrep_rows (setRow_heap _ _ _ _ _ _ hh) q3 (by rw [splice_length hle]; exact hmx) ((hRx.splice hR (o' + n)).mono hst' (fun _ h => h) (fun _ _ h => h)))) (TRep.of_rep (.hs j b o' _ _ _ q hob hroom hm hq)) (by simp [tagsOf]) d, h⟩
theorem append_hs_sound (hT : TabOk P T) (hI : Inv w0 g0 g l w st a) {c : Go.Call} {K : St → Prop} {e j o' n m k : Nat} (ho : o.op = .call c) (hc : c.callee = .builtin .append) (hk : (ti T (c.argTypes.getD 0 0)).k = .slice e) (h0 : madeT T e = true)
    (hx : ρ st.tm (c.args.getD 0 (.const (.bool false))) = .hs j o' n m k)
    (h : G (Nat.beq k (ti T e).size) (G ((st.H.get j).isRows k) ((fun (K : List (List AV) → Prop) => cond (twoSame c) (rowOf (ti T e).size st.H (ρ st.tm (c.args.getD 1 (.const (.bool false)))) K) (zerosOf T e c (ρ st.tm (c.args.getD 1 (.const (.bool false)))) K)) fun ys =>
      cond (Nat.ble (n + ys.length) m)
        (G (Nat.ble (o' + n + ys.length) (st.H.get j).xs.length) (K ({ st with H := st.H.set j (.rows k (splice (st.H.get j).xs (o' + n) ys)) }.put o.dst (.hs j o' (n + ys.length) m k))))
        (G (room (((st.H.get j).xs.drop o').take n) ys (ti T e).bytes) (G (Nat.ble (o' + n) (st.H.get j).xs.length) (∀ m', n + ys.length ≤ m' → (n + ys.length ≤ 140737488355328 → m' ≤ 9223372036854775807) →
          K ({ st with H := st.H.push (.rows k (pad k m' (((st.H.get j).xs.drop o').take n ++ ys))) }.put o.dst (.hs st.H.next 0 (n + ys.length) m' k)))))))) (hn : Goes w0 g0 K next) : o.wp P a w next Q := by
  obtain ⟨h1, h⟩ := G_out h
  obtain ⟨h2, h⟩ := G_out h
  have e1 := Nat.eq_of_beq_eq_true h1
  subst e1
  obtain ⟨xs, hxs⟩ := isRows_eq h2
  obtain ⟨q1, q2, q3, q4⟩ := madeT_out h0
  obtain ⟨hxr, _⟩ := hI.operand (a := a) (c.args.getD 0 (.const (.bool false)))
  rw [hx] at hxr
  simp only [TRep] at hxr
  rw [hxs] at h
  simp only [HB.xs] at h
  have fin : ∀ {x y : Operand} {t u : Nat} {ys : List (List AV)} {news : List Value}, c.args = #[x, y] → c.argTypes = #[t, u] → App P w #[t, u] o.type e (ti T e).size (ti T e).bytes (a.eval y) ys.length news → Rows w g.stb g.ob (ti T e).size ys news →
      (cond (Nat.ble (n + ys.length) m)
        (G (Nat.ble (o' + n + ys.length) xs.length) (K ({ st with H := st.H.set j (.rows (ti T e).size (splice xs (o' + n) ys)) }.put o.dst (.hs j o' (n + ys.length) m (ti T e).size))))
        (G (room ((xs.drop o').take n) ys (ti T e).bytes) (G (Nat.ble (o' + n) xs.length) (∀ m', n + ys.length ≤ m' → (n + ys.length ≤ 140737488355328 → m' ≤ 9223372036854775807) →
          K ({ st with H := st.H.push (.rows (ti T e).size (pad (ti T e).size m' ((xs.drop o').take n ++ ys))) }.put o.dst (.hs st.H.next 0 (n + ys.length) m' (ti T e).size)))))) → o.wp P a w next Q := by
    intro x y t u ys news hargs htys hA hR h
    rw [hargs] at hxr
    simp only [Array.getD_eq_getD_getElem?, List.getElem?_toArray, List.getElem?_cons_zero, Option.getD_some] at hxr
    obtain ⟨v', w', g', st', hrun, hI', hK⟩ := append_hs_core (d := o.dst) hI q3 hxr hxs hA hR q4 h
    refine wp_value (w' := w') (v := v') ?_ (hn _ _ _ _ _ hI' hK)
    unfold execOp
    rw [ho]
    simp only [resolve, hc, hargs, htys, Sem.run_bind, Sem.run_pure, Result.andThen_ok, invoke, builtin, List.map_toArray, List.map_cons, List.map_nil, hrun]
  cases hts : twoSame c with
  | true =>
    rw [hts, cond_true] at h
    obtain ⟨x, y, t, hargs, htys⟩ := two_same hts
    rw [hargs] at h
    rw [htys] at hk
    simp only [Array.getD_eq_getD_getElem?, List.getElem?_toArray, List.getElem?_cons_zero, List.getElem?_cons_succ, Option.getD_some] at h hk
    obtain ⟨ys, h, hsrc⟩ := row_src hI q3 h
    obtain ⟨news, hA, hR⟩ := app_rows (ty := o.type) hT h0 hk hsrc
    exact fin hargs htys hA hR h
  | false =>
    rw [hts, cond_false] at h
    unfold zerosOf at h
    split at h
    · rename_i x y t u h1 h2
      have hargs : c.args = #[x, y] := by rw [← Array.toArray_toList (xs := c.args), h1]
      have htys : c.argTypes = #[t, u] := by rw [← Array.toArray_toList (xs := c.argTypes), h2]
      rw [hargs] at h
      rw [htys] at hk
      simp only [Array.getD_eq_getD_getElem?, List.getElem?_toArray, List.getElem?_cons_zero, List.getElem?_cons_succ, Option.getD_some] at h hk
      cases hu : (ti T u).k <;> rw [hu] at h <;> try exact h.elim
      rename_i ik
      cases ik <;> try exact h.elim
      cases hy : ρ st.tm y <;> rw [hy] at h <;> try exact h.elim
      rename_i ik' mi
      cases ik' <;> try exact h.elim
      simp only at h
      obtain ⟨g1, h⟩ := G_out h
      obtain ⟨g2, h⟩ := G_out h
      have hyv := (hI.operand (a := a) y).1
      rw [hy] at hyv
      simp only [TRep] at hyv
      obtain ⟨news, hA, hR⟩ := app_zeros (w := w) (g := g) (ty := o.type) hT h0 hk hu (of_decide_eq_true g1) g2
      have hl : (List.replicate mi.toNat ((ti T e).shape.map CK.zero)).length = mi.toNat := by simp
      rw [← hl] at hA
      rw [← hyv] at hA
      exact fin hargs htys hA hR h
    · exact h.elim
theorem array_two {α : Type} {xs : Array α} (h : xs.size = 2) : ∃ x y, xs = #[x, y] := by
  obtain ⟨l⟩ := xs
  match l, h with
  | [x, y], _ => exact ⟨x, y, rfl⟩
theorem array_one {α : Type} {xs : Array α} (h : xs.size = 1) : ∃ x, xs = #[x] := by
  obtain ⟨l⟩ := xs
  match l, h with
  | [x], _ => exact ⟨x, rfl⟩
theorem copy_sound (hT : TabOk P T) (hI : Inv w0 g0 g l w st a) {c : Go.Call} {K : St → Prop} (ho : o.op = .call c) (hc : c.callee = .builtin .copy)
    (h : match (ti T (c.argTypes.getD 0 0)).k, ρ st.tm (c.args.getD 0 (.const (.bool false))) with
      | .slice e, .hs j o' n _ k => G (Nat.beq k (ti T e).size && Nat.blt 0 k && Nat.beq c.args.size 2 && Nat.beq c.argTypes.size 2) (G ((st.H.get j).isRows k) (G (Nat.ble (o' + n) (st.H.get j).xs.length)
          (rowOf k st.H (ρ st.tm (c.args.getD 1 (.const (.bool false)))) fun ys =>
            K ({ st with H := st.H.set j (.rows k (splice (st.H.get j).xs o' (ys.take n))) }.put o.dst (.int .i64 ((Nat.min ys.length n : Nat) : Int))))))
      | .slice e, .nilsl => G (Nat.blt 0 (ti T e).size && Nat.beq c.args.size 2 && Nat.beq c.argTypes.size 2) (rowOf (ti T e).size st.H (ρ st.tm (c.args.getD 1 (.const (.bool false)))) fun _ => K (st.put o.dst (.int .i64 0)))
      | _, _ => False) (hn : Goes w0 g0 K next) : o.wp P a w next Q := by
  cases hk : (ti T (c.argTypes.getD 0 0)).k <;> rw [hk] at h <;> try exact h.elim
  rename_i e
  obtain ⟨hxr, _⟩ := hI.operand (a := a) (c.args.getD 0 (.const (.bool false)))
  cases hx : ρ st.tm (c.args.getD 0 (.const (.bool false))) <;> rw [hx] at h hxr <;> try exact h.elim
  case nilsl =>
    simp only at h
    obtain ⟨hg, h⟩ := G_out h
    simp only [Bool.and_eq_true] at hg
    obtain ⟨⟨g1, g2⟩, g3⟩ := hg
    have q3 : 0 < (ti T e).size := Nat.le_of_ble_eq_true g1
    obtain ⟨x, y, hargs⟩ := array_two (Nat.eq_of_beq_eq_true g2)
    obtain ⟨t, u, htys⟩ := array_two (Nat.eq_of_beq_eq_true g3)
    rw [hargs] at h hxr
    rw [htys] at hk
    simp only [Array.getD_eq_getD_getElem?, List.getElem?_toArray, List.getElem?_cons_zero, List.getElem?_cons_succ, Option.getD_some] at h hk hxr
    obtain ⟨ys, hK, hsrc⟩ := row_src hI q3 h
    obtain ⟨A, c0, news, hyv, hA, hcells, hR⟩ := hsrc.out
    simp only [TRep] at hxr
    have hsz := hT.size_pos (P := P) (t := e) q3 w
    have hu := run_underlying (w := w) (hT.u_slice hk)
    refine wp_value (w' := w) (v := .int .i64 0) ?_ (hn _ _ _ _ _ (hI.put (by simp [TRep]) (by simp [tagsOf]) _) hK)
    unfold execOp
    rw [ho]
    have hf : (Builtin.firstCells (ti T e).size 0 (.slice A ys.length c0)).run P w = .ok #[] w := by
      cases A with
      | none => exact run_firstCells_none (P := P) w (ti T e).size 0 ys.length c0
      | some ad =>
        have := run_firstCells_some (P := P) w (ti T e).size 0 ad ys.length c0 [] (by simp) (by simp)
        simpa using this
    simp [resolve, hc, hargs, htys, invoke, builtin, Builtin.copy_, hu, hxr, hyv, Builtin.lenOf, hsz, hf, goInt]
  case hs j o' n m k =>
    simp only at h
    obtain ⟨hg, h⟩ := G_out h
    obtain ⟨g4, h⟩ := G_out h
    obtain ⟨g5, h⟩ := G_out h
    simp only [Bool.and_eq_true] at hg
    obtain ⟨⟨⟨g0', g1⟩, g2⟩, g3⟩ := hg
    have e1 := Nat.eq_of_beq_eq_true g0'
    subst e1
    have q3 : 0 < (ti T e).size := Nat.le_of_ble_eq_true g1
    obtain ⟨xs, hxs⟩ := isRows_eq g4
    rw [hxs] at h g5
    simp only [HB.xs] at h g5
    have g5 := Nat.le_of_ble_eq_true g5
    obtain ⟨x, y, hargs⟩ := array_two (Nat.eq_of_beq_eq_true g2)
    obtain ⟨t, u, htys⟩ := array_two (Nat.eq_of_beq_eq_true g3)
    rw [hargs] at h hxr
    rw [htys] at hk
    simp only [Array.getD_eq_getD_getElem?, List.getElem?_toArray, List.getElem?_cons_zero, List.getElem?_cons_succ, Option.getD_some] at h hk hxr
    obtain ⟨ys, hK, hsrc⟩ := row_src hI q3 h
    obtain ⟨A, c0, news, hyv, hA, hcells, hR⟩ := hsrc.out
    simp only [TRep] at hxr
    generalize hv : a.eval x = v at hxr
    cases hxr with
    | hs _ b _ _ _ _ q hob hnc hm hq =>
      obtain ⟨hf, _, hmx, vs, e0, hh, hRx⟩ := rows_of hI.heap hob hxs
      have hsz := hT.size_pos (P := P) (t := e) q3 w
      have hu := run_underlying (w := w) (hT.u_slice hk)
      have hRt := hR.take n
      have hlt : (ys.take n).length = Nat.min ys.length n := by rw [List.length_take, Nat.min_comm]
      have hmn : Nat.min ys.length n ≤ n := Nat.min_le_right _ _
      have hnl : (news.take (n * (ti T e).size)).length = (ys.take n).length * (ti T e).size := hRt.len
      have hfc : (Builtin.firstCells (ti T e).size (Nat.min ys.length n) (.slice A ys.length c0)).run P w = .ok (news.take (n * (ti T e).size)).toArray w := by
        cases A with
        | none =>
          have hy0 := hA rfl
          have : news = [] := List.eq_nil_of_length_eq_zero (by rw [hR.len, hy0]; simp)
          rw [this]
          have := run_firstCells_none (P := P) w (ti T e).size (Nat.min ys.length n) ys.length c0
          simpa using this
        | some ad =>
          refine run_firstCells_some (P := P) w (ti T e).size _ ad ys.length c0 _ (by rw [hnl, hlt]) (fun i u hu => ?_)
          rw [List.getElem?_take] at hu
          split at hu
          · exact hcells ad rfl i u hu
          · cases hu
      have hmul : (o' + (ys.take n).length) * (ti T e).size ≤ xs.length * (ti T e).size := Nat.mul_le_mul_right _ (by rw [hlt]; omega)
      have hfit : (o' + 0) * (ti T e).size + (news.take (n * (ti T e).size)).length ≤ vs.length := by rw [hnl, hRx.len, Nat.add_zero, ← Nat.add_mul]; exact hmul
      have hst := store_rows (P := P) (n := 0) hh hq hnl (by rw [hlt]; omega) hfit hRt.one
      simp only [Nat.zero_mul, Nat.add_zero, add_plain] at hst
      have hkeep : ∀ p, p ≠ b → (w.setRow b (laid vs (o' * (ti T e).size) (news.take (n * (ti T e).size))).toArray).heap[p]? = w.heap[p]? := fun p hp => setRow_other _ _ _ _ hp
      have hst' : ∀ p, g.stb p → (w.setRow b (laid vs (o' * (ti T e).size) (news.take (n * (ti T e).size))).toArray).heap[p]? = w.heap[p]? := fun p hp => hkeep p fun e => (hI.stbLt p hp).2 (e ▸ hf)
      refine wp_value (w' := w.setRow b (laid vs (o' * (ti T e).size) (news.take (n * (ti T e).size))).toArray) (v := .int .i64 ((Nat.min ys.length n : Nat) : Int)) ?_ (hn _ _ _ _ _ (Inv.put (hI.setHeap (w' := w.setRow b (laid vs (o' * (ti T e).size) (news.take (n * (ti T e).size))).toArray) hob (by rw [hxs]; simp) rfl rfl rfl (by simp) hkeep (x := .rows (ti T e).size (splice xs o' (ys.take n))) (by simp)
        (hrep_rows (setRow_heap _ _ _ _ _ _ hh) q3 (by rw [splice_length (by rw [hlt]; omega)]; exact hmx) ((hRx.splice hRt o').mono hst' (fun _ h => h) (fun _ _ h => h)))) (by simp [TRep]) (by simp [tagsOf]) _) hK)
      unfold execOp
      rw [ho]
      have hmin : ∀ n, Nat.min ys.length n = min ys.length n := fun _ => rfl
      simp only [hmin] at hfc
      simp [resolve, hc, hargs, htys, invoke, builtin, Builtin.copy_, hu, hv, hyv, Builtin.lenOf, hsz, hfc, hst, goInt, hmin]
theorem clear_sound (hT : TabOk P T) (hI : Inv w0 g0 g l w st a) {c : Go.Call} {K : St → Prop} (ho : o.op = .call c) (hc : c.callee = .builtin .clear)
    (h : match (ti T (c.argTypes.getD 0 0)).k, ρ st.tm (c.args.getD 0 (.const (.bool false))) with
      | .slice e, .hs j o' n _ k => G (madeT T e && Nat.beq k (ti T e).size && Nat.beq c.args.size 1 && Nat.beq c.argTypes.size 1) (G ((st.H.get j).isRows k) (G (Nat.ble (o' + n) (st.H.get j).xs.length)
          (K ({ st with H := st.H.set j (.rows k (splice (st.H.get j).xs o' (List.replicate n ((ti T e).shape.map CK.zero)))) }.put o.dst (.tup [])))))
      | .slice _, .nilsl => G (Nat.beq c.args.size 1 && Nat.beq c.argTypes.size 1) (K (st.put o.dst (.tup [])))
      | _, _ => False) (hn : Goes w0 g0 K next) : o.wp P a w next Q := by
  cases hk : (ti T (c.argTypes.getD 0 0)).k <;> rw [hk] at h <;> try exact h.elim
  rename_i e
  obtain ⟨hxr, _⟩ := hI.operand (a := a) (c.args.getD 0 (.const (.bool false)))
  cases hx : ρ st.tm (c.args.getD 0 (.const (.bool false))) <;> rw [hx] at h hxr <;> try exact h.elim
  case nilsl =>
    simp only at h
    obtain ⟨hg, h⟩ := G_out h
    simp only [Bool.and_eq_true] at hg
    obtain ⟨x, hargs⟩ := array_one (Nat.eq_of_beq_eq_true hg.1)
    obtain ⟨t, htys⟩ := array_one (Nat.eq_of_beq_eq_true hg.2)
    rw [hargs] at hxr
    rw [htys] at hk
    simp only [Array.getD_eq_getD_getElem?, List.getElem?_toArray, List.getElem?_cons_zero, Option.getD_some] at hk hxr
    simp only [TRep] at hxr
    have hu := run_underlying (w := w) (hT.u_slice hk)
    refine wp_value (w' := w) (v := undef) ?_ (hn _ _ _ _ _ (hI.put undef_rep (by simp [tagsOf, tagsOfs]) _) h)
    unfold execOp
    rw [ho]
    simp [resolve, hc, hargs, htys, invoke, builtin, Builtin.clear_, hu, hxr, undef]
  case hs j o' n m k =>
    simp only at h
    obtain ⟨hg, h⟩ := G_out h
    obtain ⟨g4, h⟩ := G_out h
    obtain ⟨g5, h⟩ := G_out h
    simp only [Bool.and_eq_true] at hg
    obtain ⟨⟨⟨h0, g1⟩, g2⟩, g3⟩ := hg
    have e1 := Nat.eq_of_beq_eq_true g1
    subst e1
    obtain ⟨q1, q2, q3, q4⟩ := madeT_out h0
    obtain ⟨i, z, hi, hz, hsz, hby, hzl, _⟩ := zeros_rep (P := P) hT q1 q2
    obtain ⟨xs, hxs⟩ := isRows_eq g4
    rw [hxs] at h g5
    simp only [HB.xs] at h g5
    have g5 := Nat.le_of_ble_eq_true g5
    obtain ⟨x, hargs⟩ := array_one (Nat.eq_of_beq_eq_true g2)
    obtain ⟨t, htys⟩ := array_one (Nat.eq_of_beq_eq_true g3)
    rw [hargs] at hxr
    rw [htys] at hk
    simp only [Array.getD_eq_getD_getElem?, List.getElem?_toArray, List.getElem?_cons_zero, Option.getD_some] at hk hxr
    simp only [TRep] at hxr
    generalize hv : a.eval x = v at hxr
    cases hxr with
    | hs _ b _ _ _ _ q hob hnc hm hq =>
      obtain ⟨hf, _, hmx, vs, e0, hh, hRx⟩ := rows_of hI.heap hob hxs
      have hu := run_underlying (w := w) (hT.u_slice hk)
      obtain ⟨z1, z2, z3⟩ := zero_one (P := P) hT h0 n hi hz w
      have hR := z3 g
      have hlen : (List.replicate n ((ti T e).shape.map CK.zero)).length = n := by simp
      have hmul : (o' + n) * (ti T e).size ≤ xs.length * (ti T e).size := Nat.mul_le_mul_right _ g5
      have hfit : (o' + 0) * (ti T e).size + (Builtin.zeroCells z.cells n).toList.length ≤ vs.length := by rw [z1, hRx.len, Nat.add_zero, ← Nat.add_mul]; exact hmul
      have hst := store_rows (P := P) (n := 0) (ys := List.replicate n ((ti T e).shape.map CK.zero)) hh hq (by rw [z1, hlen]) (by rw [hlen]; omega) hfit z2
      simp only [Nat.zero_mul, Nat.add_zero, add_plain] at hst
      have hkeep : ∀ p, p ≠ b → (w.setRow b (laid vs (o' * (ti T e).size) (Builtin.zeroCells z.cells n).toList).toArray).heap[p]? = w.heap[p]? := fun p hp => setRow_other _ _ _ _ hp
      have hst' : ∀ p, g.stb p → (w.setRow b (laid vs (o' * (ti T e).size) (Builtin.zeroCells z.cells n).toList).toArray).heap[p]? = w.heap[p]? := fun p hp => hkeep p fun e => (hI.stbLt p hp).2 (e ▸ hf)
      refine wp_value (w' := w.setRow b (laid vs (o' * (ti T e).size) (Builtin.zeroCells z.cells n).toList).toArray) (v := undef) ?_ (hn _ _ _ _ _ (Inv.put (hI.setHeap (w' := w.setRow b (laid vs (o' * (ti T e).size) (Builtin.zeroCells z.cells n).toList).toArray) hob (by rw [hxs]; simp) rfl rfl rfl (by simp) hkeep (x := .rows (ti T e).size (splice xs o' (List.replicate n ((ti T e).shape.map CK.zero)))) (by simp)
        (hrep_rows (setRow_heap _ _ _ _ _ _ hh) q3 (by rw [splice_length (by rw [hlen]; exact g5)]; exact hmx) ((hRx.splice hR o').mono hst' (fun _ h => h) (fun _ _ h => h)))) undef_rep (by simp [tagsOf, tagsOfs]) _) h)
      unfold execOp
      rw [ho]
      cases hn0 : n with
      | zero =>
        subst hn0
        have : (Builtin.zeroCells z.cells 0).toList = [] := List.eq_nil_of_length_eq_zero (by rw [z1]; simp)
        rw [this, laid_nil, setRow_self w b vs.toArray e0 (0, 0) hh]
        simp [resolve, hc, hargs, htys, invoke, builtin, Builtin.clear_, hu, hv, undef]
      | succ n' =>
        rw [← hn0]
        have hne : n ≠ 0 := by omega
        simp [resolve, hc, hargs, htys, invoke, builtin, Builtin.clear_, hu, hv, hn0, zeroValue, typeInfo, hi, hz, undef]
        rw [← hn0]
        simp [hst]
end
end Go.Proofs.YtgmkkjmdflhbnaaDoor.Ab
end
