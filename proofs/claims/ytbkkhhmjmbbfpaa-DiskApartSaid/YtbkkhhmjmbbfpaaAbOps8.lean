/- Memory made: slices. -/
import Derived.Test.YtbkkhhmjmbbfpaaAbOps7
namespace Go.Proofs.Ytbkkhhmjmbbfpaa.Ab
open Go

theorem Rep.box {w : World} {stb : Nat → Prop} {ob : Nat → Option Nat} {x : AV} {v : Value} (h : Rep w stb ob x v) (hs : boxable x = true) :
    (cellsOf x).length = v.cells.toList.length ∧ (∀ u ∈ v.cells.toList, u.oneCell' = true) ∧ ∀ (j : Nat) (c : AV) (u : Value), (cellsOf x)[j]? = some c → v.cells.toList[j]? = some u → Rep w stb ob c u := by
  have one : ∀ {x : AV} {v : Value}, Rep w stb ob x v → scalarAV x = true → v.oneCell' = true := by
    intro x v h hs
    cases h <;> first | rfl | (simp [scalarAV] at hs; done)
  have single : scalarAV x = true → (∀ cs, x ≠ .agg cs) → (cellsOf x).length = v.cells.toList.length ∧ (∀ u ∈ v.cells.toList, u.oneCell' = true) ∧ ∀ (j : Nat) (c : AV) (u : Value), (cellsOf x)[j]? = some c → v.cells.toList[j]? = some u → Rep w stb ob c u := by
    intro hs hna
    have h1 := one h hs
    have hc : cellsOf x = [x] := by cases x <;> first | rfl | exact absurd rfl (hna _)
    have hv : v.cells = #[v] := by cases v <;> first | rfl | (simp [Value.oneCell'] at h1; done)
    rw [hc, hv]
    refine ⟨rfl, by simpa using h1, fun j c u hj hu => ?_⟩
    cases j with
    | zero => simp at hj hu; subst hj hu; exact h
    | succ j => simp at hj
  cases h with
  | agg cs vs hl hr =>
    simp only [boxable, List.all_eq_true] at hs
    refine ⟨by simpa [cellsOf, Value.cells] using hl, fun u hu => ?_, fun j c u hj hu => hr j c u hj (by simpa [Value.cells] using hu)⟩
    have hu' : u ∈ vs := by simpa [Value.cells] using hu
    obtain ⟨i, hi⟩ := List.mem_iff_getElem?.1 hu'
    have hil : i < cs.length := by rw [hl]; exact (List.getElem?_eq_some_iff.1 hi).1
    have hc : cs[i]? = some cs[i] := List.getElem?_eq_getElem hil
    exact one (hr i _ _ hc hi) (hs _ (List.mem_of_getElem? hc))
  | _ => exact single hs (by simp)

/-- Rows and the cells that they stand for. -/
structure Rows (w : World) (stb : Nat → Prop) (ob : Nat → Option Nat) (k : Nat) (xs : List (List AV)) (us : List Value) : Prop where
  len : us.length = xs.length * k
  row : ∀ x ∈ xs, x.length = k
  one : ∀ u ∈ us, u.oneCell' = true
  rep : ∀ (i : Nat) (x : List AV) (j : Nat) (c : AV), xs[i]? = some x → x[j]? = some c → ∃ v, us[i * k + j]? = some v ∧ Rep w stb ob c v

theorem row_le {i n k : Nat} (h : i < n) : i * k + k ≤ n * k := by
  calc i * k + k = (i + 1) * k := by rw [Nat.add_mul, Nat.one_mul]
    _ ≤ _ := Nat.mul_le_mul_right _ h

theorem Rows.set {w : World} {stb : Nat → Prop} {ob : Nat → Option Nat} {k : Nat} {xs : List (List AV)} {us : List Value} (h : Rows w stb ob k xs us) {i : Nat} (hi : i < xs.length) {ys : List AV} {vs : List Value}
    (hy : ys.length = k) (hv : vs.length = k) (h1 : ∀ u ∈ vs, u.oneCell' = true) (hr : ∀ (j : Nat) (c : AV) (u : Value), ys[j]? = some c → vs[j]? = some u → Rep w stb ob c u) :
    Rows w stb ob k (xs.set i ys) (laid us (i * k) vs) := by
  have hik := row_le (k := k) hi
  have hl : i * k + vs.length ≤ us.length := by rw [hv, h.len]; exact hik
  refine ⟨by rw [laid_length hl, h.len, List.length_set], fun x hx => ?_, fun u hu => (laid_mem hu).elim (h.one u) (h1 u), fun p x j c hp hj => ?_⟩
  · rcases List.mem_or_eq_of_mem_set hx with hx | rfl
    · exact h.row x hx
    · exact hy
  · rw [laid_get hl, hv]
    by_cases e : p = i
    · subst e
      rw [List.getElem?_set_self hi] at hp
      obtain rfl := Option.some.inj hp
      have hjl := (List.getElem?_eq_some_iff.1 hj).1
      rw [if_pos (by omega)]
      obtain ⟨u, hu⟩ : ∃ u, vs[j]? = some u := ⟨_, List.getElem?_eq_getElem (by omega)⟩
      exact ⟨u, by rw [show p * k + j - p * k = j by omega]; exact hu, hr j c u hj hu⟩
    · rw [List.getElem?_set_ne (Ne.symm e)] at hp
      have hjl := (List.getElem?_eq_some_iff.1 hj).1
      have hxk := h.row x (List.mem_of_getElem? hp)
      have hpl := (List.getElem?_eq_some_iff.1 hp).1
      rw [if_neg ?_]
      · exact h.rep p x j c hp hj
      · rcases Nat.lt_or_gt_of_ne e with hlt | hgt
        · have := row_le (k := k) hlt; omega
        · have := row_le (k := k) hgt; omega

theorem rows_out {w : World} {stb : Nat → Prop} {ob : Nat → Option Nat} {k : Nat} : ∀ {ps : List (Nat × AV)} {vs : List (Nat × Value)} {xs : List (List AV)} {us : List Value} {K : List (List AV) → Prop},
    ps.length = vs.length → (∀ (i : Nat) (p : Nat × AV) (v : Nat × Value), ps[i]? = some p → vs[i]? = some v → p.1 = v.1 ∧ Rep w stb ob p.2 v.2) → Rows w stb ob k xs us → fillRows k xs ps K →
    ∃ xs' us', K xs' ∧ Instr.fill (fun i => some (i * k, k)) us.toArray vs = some us'.toArray ∧ Rows w stb ob k xs' us' ∧ xs'.length = xs.length
  | [], [], xs, us, K, _, _, hR, h => ⟨xs, us, h, rfl, hR, rfl⟩
  | (i, x) :: ps, (i', v) :: vs, xs, us, K, hl, hp, hR, h => by
    obtain ⟨hi, hx⟩ := hp 0 (i, x) (i', v) (by simp) (by simp)
    simp only at hi hx
    subst hi
    simp only [fillRows] at h
    cases hb : boxable x <;> rw [hb] at h <;> simp only [G, cond_false, cond_true] at h
    cases h2 : Nat.beq (cellsOf x).length k <;> rw [h2] at h <;> simp only [cond_false, cond_true] at h
    cases h3 : Nat.blt i xs.length <;> rw [h3] at h <;> simp only [cond_false, cond_true] at h
    have e2 := Nat.eq_of_beq_eq_true h2
    have e3 : i < xs.length := Nat.le_of_ble_eq_true h3
    obtain ⟨hlen, h1, hr⟩ := hx.box hb
    rw [fill_step (off := i * k) (size := k) rfl (by omega) (by rw [hR.len]; exact row_le e3)]
    obtain ⟨xs', us', k1, k2, k3, k4⟩ := rows_out (by simpa using hl) (fun j p u hq hu => hp (j + 1) p u (by simpa using hq) (by simpa using hu)) (hR.set e3 e2 (by omega) h1 hr) h
    exact ⟨xs', us', k1, k2, k3, by rw [k4, List.length_set]⟩
  | [], _ :: _, _, _, _, hl, _, _, _ => by simp at hl
  | _ :: _, [], _, _, _, hl, _, _, _ => by simp at hl

section
variable {P : Program} {T : List TI} {w0 : World} {g0 g : Gs} {l : Gl} {w : World} {st : St} {a : Act} {o : Oper} {next : Act → World → Prop} {Q : Exit → Act → World → Prop}

theorem Inv.newSlice (hI : Inv w0 g0 g l w st a) {e k n : Nat} {cs : Array Value} {xs : List (List AV)} (hk : 0 < k) (hn : n ≤ maxLen) (hx : xs.length = n) (hR : Rows w g.stb g.ob k xs cs.toList) (d : Option Nat) :
    Inv w0 g0 g (l.own st.fresh (.slice (some ⟨w.heap.size, 0, none⟩) n n) k xs) (w.alloc (.cells cs e)) (st.put d (.sl st.fresh k xs)) (a.put d (.slice (some ⟨w.heap.size, 0, none⟩) n n)) := by
  have h' := hI.alloc (.cells cs e)
  have hs : cs.size = n * k := by have := hR.len; rw [hx] at this; simpa using this
  have hall : AllOne (w.alloc (.cells cs e)) (.slice (some ⟨w.heap.size, 0, none⟩) n n) := by
    intro b cs' e' fr hb hh
    obtain rfl : w.heap.size = b := by simpa [Value.ownBlock] using hb
    rw [heap_alloc_new] at hh
    cases hh
    exact hR.one
  refine h'.newTag (by have := fresh_pos st; omega) (by have := fresh_not st 0; simpa using this) ⟨e, cs.toList, ?_, ?_, ?_, hR.one, ?_⟩ ?_ d
  · simp only [Gl.own, if_true, hx]
    exact World.ownsRow_lit w cs n hI.ext.size hn hs
  · simp only [Gl.own, if_true]; exact ⟨hk, hall⟩
  · simpa [Gl.own] using hR.row
  · simp only [Gl.own, if_true]
    intro i x j c hi hj
    obtain ⟨v, hv, hr⟩ := hR.rep i x j c hi hj
    exact ⟨v, hv, hr.mono (fun b hb => heap_alloc w _ b (hI.stbLt b hb).1) (fun _ h => h) (fun _ _ h => h)⟩
  · intro b hb
    obtain rfl : w.heap.size = b := by simpa [Value.ownBlock] using hb
    refine ⟨fun hs => ?_, fun j hj he => ?_, fun u hu he => ?_, fun hf => by have := hI.heap.foot_lt hf; omega⟩
    · have := (hI.stbLt _ hs).1; omega
    · obtain ⟨mb, hm⟩ : ∃ mb, st.mem[j]? = some mb := ⟨_, List.getElem?_eq_getElem hj⟩
      cases hmine : mb.mine with
      | true => have := (hI.priv j mb hm hmine).2.1; omega
      | false =>
        cases mb with
        | frz cs =>
          have hb := (hI.mem j _ hm).1
          have := (hI.stbLt _ hb).1
          omega
        | dead => exact (hI.mem j _ hm).elim
        | cells cs => simp [MB.mine] at hmine
        | siter s p => simp [MB.mine] at hmine
        | miter _ _ _ _ _ _ => simp [MB.mine] at hmine
    · obtain ⟨e, fl, hown, _⟩ := hI.own u hu
      have := (hown.lt _ he).2
      omega

theorem madeT_out {e : Nat} (h : madeT T e = true) : (ti T e).k ≠ .other ∧ (∀ ts, (ti T e).k ≠ .tuple ts) ∧ 0 < (ti T e).size ∧ 0 < (ti T e).bytes := by
  simp only [madeT, Bool.and_eq_true] at h
  refine ⟨fun hk => ?_, fun ts hk => ?_, Nat.le_of_ble_eq_true h.2.1, Nat.le_of_ble_eq_true h.2.2⟩
  · rw [hk] at h; simp at h
  · rw [hk] at h; simp at h

/-- Rows of zero values. -/
theorem zero_rows (hT : TabOk P T) {e : Nat} (h : madeT T e = true) (n : Nat) {z : Value} {i : TypeInfo} (hi : P.info? e = some i) (hz : i.zero = some z) (g : Gs) (w : World) :
    Rows w g.stb g.ob (ti T e).size (List.replicate n ((ti T e).shape.map CK.zero)) (madeCells z.cells (n * (ti T e).size)).toList := by
  obtain ⟨h1, h2, h3, h4⟩ := madeT_out h
  obtain ⟨i', z', hi', hz', hsz, hby, hzl, hsl, hzr, hzt, hz1, hrep⟩ := zeros_rep (P := P) hT h1 h2
  rw [hi] at hi'
  cases hi'
  rw [hz] at hz'
  cases hz'
  have hzl' : z.cells.size = (ti T e).size := by simpa using hzl
  refine ⟨by simp [size_madeCells], fun x hx => ?_, fun u hu => ?_, fun p x j c hp hj => ?_⟩
  · obtain ⟨_, rfl⟩ := List.mem_replicate.1 hx
    simp [hsl]
  · simp only [madeCells, Array.toList_map, List.mem_map] at hu
    obtain ⟨q, _, rfl⟩ := hu
    refine hz1 _ ?_
    have hlt : q % z.cells.size < z.cells.size := Nat.mod_lt _ (by omega)
    rw [getElem!_pos z.cells _ hlt]
    simp
  · rw [List.getElem?_replicate] at hp
    split at hp
    · obtain rfl := Option.some.inj hp
      obtain ⟨v, hv, hr⟩ := hrep g w j c hj
      refine ⟨v, ?_, hr⟩
      have hjl : j < (ti T e).size := by have := (List.getElem?_eq_some_iff.1 hj).1; simpa [hsl] using this
      have hpk := row_le (k := (ti T e).size) (show p < n by assumption)
      have hq : (p * (ti T e).size + j) % z.cells.size = j := by
        rw [hzl', Nat.add_comm, Nat.add_mul_mod_self_right, Nat.mod_eq_of_lt hjl]
      simp only [madeCells, Array.toList_map, List.getElem?_map]
      rw [Array.getElem?_toList, Array.getElem?_range, if_pos (by omega)]
      simp only [Option.map_some, hq]
      rw [getElem!_pos z.cells j (by omega)]
      rw [← hv]
      simp
    · cases hp

theorem makeSlice_sound (hT : TabOk P T) (hI : Inv w0 g0 g l w st a) {t : Nat} {x y : Operand} {K : St → Prop} (ho : o.op = .makeSlice t x y)
    (h : match (ti T t).k, ρ st.tm x, ρ st.tm y with
      | .slice e, .int _ n, .int _ m => G (madeT T e) (G (leI 0 n) (G (eqI n m) (G (roomN n (ti T e).bytes) (K (st.put o.dst (.sl st.fresh (ti T e).size (List.replicate n.toNat ((ti T e).shape.map CK.zero))))))))
      | _, _, _ => False)
    (hn : Goes w0 g0 K next) : o.wp P a w next Q := by
  obtain ⟨hx, _⟩ := hI.operand (a := a) x
  obtain ⟨hy, _⟩ := hI.operand (a := a) y
  cases hk : (ti T t).k <;> rw [hk] at h <;> try exact h.elim
  rename_i e
  cases hxv : ρ st.tm x <;> rw [hxv] at h hx <;> try exact h.elim
  rename_i k1 n
  cases hyv : ρ st.tm y <;> rw [hyv] at h hy <;> try exact h.elim
  rename_i k2 m
  simp only at h
  have hx := int_of_rep hx
  have hy := int_of_rep hy
  cases h0 : madeT T e <;> rw [h0] at h <;> simp only [G, cond_false, cond_true] at h
  cases h1 : leI 0 n <;> rw [h1] at h <;> simp only [cond_false, cond_true] at h
  cases h2 : eqI n m <;> rw [h2] at h <;> simp only [cond_false, cond_true] at h
  cases h3 : roomN n (ti T e).bytes <;> rw [h3] at h <;> simp only [cond_false, cond_true] at h
  have e1 := of_decide_eq_true h1
  have e2 := of_decide_eq_true h2
  have e3 : n * ((ti T e).bytes : Int) ≤ 140737488355328 := of_decide_eq_true h3
  subst e2
  obtain ⟨q1, q2, q3, q4⟩ := madeT_out h0
  obtain ⟨i, z, hi, hz, hsz, hby, _⟩ := zeros_rep (P := P) hT q1 q2
  obtain ⟨N, rfl⟩ : ∃ N : Nat, n = N := ⟨n.toNat, by omega⟩
  have hNb : N * (ti T e).bytes ≤ 140737488355328 := by
    have h : ((N * (ti T e).bytes : Nat) : Int) ≤ 140737488355328 := by rw [Int.natCast_mul]; exact e3
    omega
  have hNle : N ≤ N * (ti T e).bytes := Nat.le_mul_of_pos_right _ q4
  have hml : N ≤ maxLen := by simp only [maxLen]; omega
  have hby' : i.bytes * N ≤ 140737488355328 := by rw [hby, Nat.mul_comm]; exact hNb
  have h63' : (N : Int) ≤ 9223372036854775807 := by omega
  have hb' : (i.bytes : Int) * (N : Int) ≤ 281474976710656 := by
    have h : ((i.bytes * N : Nat) : Int) ≤ 281474976710656 := by omega
    rwa [Int.natCast_mul] at h
  have hr := run_make (P := P) w t e i z (hT.u_slice hk) hi hz k1 k2 N N (by omega) (Int.le_refl _) hb' h63'
  simp only [Int.toNat_natCast] at hr h
  have hrun : (execOp a.eval o).run P w = .ok (.value (.slice (some ⟨w.heap.size, 0, none⟩) N N)) (w.alloc (.cells (madeCells z.cells (N * i.size)) e)) := by
    unfold execOp
    rw [ho]
    refine exec_v ?_
    rw [hx, hy, hr]
  refine wp_value hrun (hn _ _ _ _ _ (hI.newSlice q3 hml (by simp) ?_ _) h)
  rw [hsz]
  exact zero_rows hT h0 N hi hz g w

theorem buildSlice_sound (hT : TabOk P T) (hI : Inv w0 g0 g l w st a) {t n : Nat} {ps : Array (Nat × Operand)} {K : St → Prop} (ho : o.op = .buildSlice t n ps)
    (h : match (ti T t).k with
      | .slice e =>
        let s' := st.frzAll (tagsOfs (ps.toList.map fun p => ρ st.tm p.2))
        G (madeT T e) (G (Nat.ble (n * (ti T e).size) 16777216) (fillRows (ti T e).size (List.replicate n ((ti T e).shape.map CK.zero)) (ps.toList.map fun p => (p.1, frzV (ρ st.tm p.2))) fun xs =>
          K (s'.put o.dst (.sl s'.fresh (ti T e).size xs))))
      | _ => False)
    (hn : Goes w0 g0 K next) : o.wp P a w next Q := by
  cases hk : (ti T t).k <;> rw [hk] at h <;> try exact h.elim
  rename_i e
  simp only at h
  cases h0 : madeT T e <;> rw [h0] at h <;> simp only [G, cond_false, cond_true] at h
  cases h1 : Nat.ble (n * (ti T e).size) 16777216 <;> rw [h1] at h <;> simp only [cond_false, cond_true] at h
  have e1 := Nat.le_of_ble_eq_true h1
  obtain ⟨q1, q2, q3, q4⟩ := madeT_out h0
  have hnle : n ≤ n * (ti T e).size := Nat.le_mul_of_pos_right _ q3
  obtain ⟨i, z, hi, hz, hsz, hby, hzl, _⟩ := zeros_rep (P := P) hT q1 q2
  have htags : ∀ u ∈ tagsOfs (ps.toList.map fun p => ρ st.tm p.2), u ∈ st.tags := by
    intro u hu
    obtain ⟨j, c, hc, hu⟩ := tagsOfs_iff hu
    simp only [List.getElem?_map, Option.map_eq_some_iff] at hc
    obtain ⟨p, _, rfl⟩ := hc
    exact (hI.operand (a := a) p.2).2 u hu
  obtain ⟨g', hI', s1, n1, o1, f1, b1, c1⟩ := hI.frzAll _ (fun t ht => tags_pos hI t (htags t ht))
  obtain ⟨xs', us', hK, hfill, hR, hlen⟩ := rows_out (w := w) (stb := g'.stb) (ob := g'.ob) (vs := (ps.map fun (i, x) => (i, a.eval x)).toList) (by simp) (fun j p v hp hv => by
    simp only [List.getElem?_map, Array.toList_map] at hp hv
    cases hq : ps.toList[j]? with
    | none => rw [hq] at hp; simp at hp
    | some q =>
      rw [hq] at hp hv
      simp only [Option.map_some, Option.some.injEq] at hp hv
      subst hp hv
      refine ⟨rfl, ?_⟩
      obtain ⟨hx, hxt⟩ := hI.operand (a := a) q.2
      rw [o1]
      refine lend_rep (base := w0.heap.size) s1 (S := tagsOf (ρ st.tm q.2)) (fun t ht => ⟨hI.own t (hxt t ht), b1 t ?_ (hxt t ht)⟩) _ _ (fun t ht => ht) hx
      exact tagsOfs_get (i := j) (c := ρ st.tm q.2) (by simp [hq]) t ht) (zero_rows hT h0 n hi hz g' w) h
  have hrun : (execOp a.eval o).run P w = .ok (.value (.slice (some ⟨w.heap.size, 0, none⟩) n n)) (w.alloc (.cells us'.toArray e)) := by
    unfold execOp
    rw [ho]
    refine exec_v ?_
    have hu := hT.u_slice hk
    have hse := hT.size_pos (P := P) (t := e) q3 w
    have hfill' : Instr.fill (fun i => some (i * (ti T e).size, (ti T e).size)) (madeCells z.cells (n * (ti T e).size)) (ps.map fun (i, x) => (i, a.eval x)).toList = some us'.toArray := by
      rw [← hfill, Array.toArray_toList]
    have hzv : (zeroValue e).run P w = .ok z w := by simp [zeroValue, typeInfo, hi, hz]
    simp only [Instr.buildSlice, Sem.run_bind, run_underlying hu, Result.andThen_ok, hse]
    rw [if_neg (by omega)]
    simp only [Array.toList_map] at hfill'
    by_cases hz0 : n * (ti T e).size = 0
    · have hr0 : Array.range 0 = #[] := rfl
      rw [hz0] at hfill' ⊢
      simp only [madeCells, hr0, List.map_toArray, List.map_nil] at hfill'
      simp [hr0, hfill', newRow]
    · unfold madeCells at hfill'
      simp [hz0, hzv, hfill', newRow]
  refine wp_value hrun (hn _ _ _ _ _ (hI'.newSlice q3 (by simp only [maxLen]; omega) (by rw [hlen]; simp) hR _) hK)
end
end Go.Proofs.Ytbkkhhmjmbbfpaa.Ab
