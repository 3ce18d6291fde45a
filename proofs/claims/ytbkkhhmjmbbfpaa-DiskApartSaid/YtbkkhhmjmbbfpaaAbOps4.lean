/- The other operations: slices of slices, memory made, stores. -/
import Derived.Test.YtbkkhhmjmbbfpaaAbOps3
namespace Go.Proofs.Ytbkkhhmjmbbfpaa.Ab
open Go

section
variable {P : Program} {T : List TI} {w0 : World} {g0 g : Gs} {l : Gl} {w : World} {st : St} {a : Act} {K : AV → Prop}

theorem bound_out {r : Operand → AV} {o : Option Operand} {d : Int} {K : Int → Prop} (hr : ∀ y k i, r y = .int k i → a.eval y = .int k i) (h : boundI o r d K) :
    ∃ i, K i ∧ (o = none ∧ i = d ∨ ∃ x k, o = some x ∧ a.eval x = .int k i) := by
  cases o with
  | none => exact ⟨d, h, .inl ⟨rfl, rfl⟩⟩
  | some x =>
    simp only [boundI] at h
    cases hv : r x <;> rw [hv] at h <;> simp only at h
    case int k i => exact ⟨i, h, .inr ⟨x, k, rfl, hr x k i hv⟩⟩

theorem run_bound {x : Value} {k : IntKind} {i : Int} {y : Nat} {c : BoundsCode} (hx : x = .int k i) (h0 : 0 ≤ i) (h1 : i ≤ y) : (Instr.sliceBound x y c).run P w = .ok i.toNat w := by
  subst hx
  simp [Instr.sliceBound, asIntOf, h0, h1]

/-- The bounds of a slice expression, all at hand. -/
theorem run_bounds {isSlice : Bool} {len cap : Nat} {lo hi mx : Option Operand} {li hi' mi : Int} (hl : lo = none ∧ li = 0 ∨ ∃ x k, lo = some x ∧ a.eval x = .int k li) (hh : hi = none ∧ hi' = len ∨ ∃ x k, hi = some x ∧ a.eval x = .int k hi')
    (hm : mx = none ∧ mi = hi' ∨ ∃ x k, mx = some x ∧ a.eval x = .int k mi) (hmh : mx.isSome → hi.isSome) (h0 : 0 ≤ li) (h1 : li ≤ hi') (h2 : hi' ≤ mi) (h3 : mi ≤ cap) (h4 : len ≤ cap) :
    ∃ m : Nat, (Instr.sliceBounds isSlice len cap (lo.map a.eval) (hi.map a.eval) (mx.map a.eval)).run P w = .ok (li.toNat, hi'.toNat, m) w ∧ hi'.toNat ≤ m ∧ m ≤ cap := by
  have hlow : ∀ (x : Operand) (k : IntKind) (c : BoundsCode), a.eval x = .int k li → (Instr.sliceBound (a.eval x) hi'.toNat c).run P w = .ok li.toNat w := fun x k c hx => run_bound hx h0 (by omega)
  rcases hm with ⟨rfl, rfl⟩ | ⟨xm, km, rfl, hxm⟩
  · refine ⟨cap, ?_, by omega, Nat.le_refl _⟩
    rcases hh with ⟨rfl, rfl⟩ | ⟨xh, kh, rfl, hxh⟩
    · have e : ((len : Int)).toNat = len := by omega
      rw [e] at hlow ⊢
      rcases hl with ⟨rfl, rfl⟩ | ⟨xl, kl, rfl, hxl⟩
      · simp [Instr.sliceBounds]
      · simp [Instr.sliceBounds, hlow xl kl _ hxl]
    · have hb := fun c => run_bound (P := P) (w := w) (c := c) (y := cap) hxh (by omega) (by omega)
      rcases hl with ⟨rfl, rfl⟩ | ⟨xl, kl, rfl, hxl⟩
      · simp [Instr.sliceBounds, hb]
      · simp [Instr.sliceBounds, hb, hlow xl kl _ hxl]
  · refine ⟨mi.toNat, ?_, by omega, by omega⟩
    rcases hh with ⟨rfl, rfl⟩ | ⟨xh, kh, rfl, hxh⟩
    · simp at hmh
    · have hb := fun c => run_bound (P := P) (w := w) (c := c) (y := mi.toNat) hxh (by omega) (by omega)
      have hbm := fun c => run_bound (P := P) (w := w) (c := c) (y := cap) hxm (by omega) (by omega)
      rcases hl with ⟨rfl, rfl⟩ | ⟨xl, kl, rfl, hxl⟩
      · simp [Instr.sliceBounds, hb, hbm]
      · simp [Instr.sliceBounds, hb, hbm, hlow xl kl _ hxl]

theorem Rep.cut {stb : Nat → Prop} {ob : Nat → Option Nat} {k : Nat} {xs : List (List AV)} {A : Option Addr} {c : Nat} (h : Rep w stb ob (.sl 0 k xs) (.slice A xs.length c)) (i j m : Nat) (hij : i ≤ j) (hj : j ≤ xs.length) (hjm : j ≤ m) (_hm : m ≤ c) (size : Nat) (hk : xs ≠ [] → k = size) :
    Rep w stb ob (.sl 0 k ((xs.take j).drop i)) (.slice (if m = i then A else A.map (·.add (i * size))) (j - i) (m - i)) := by
  have hlen : ((xs.take j).drop i).length = j - i := by simp; omega
  by_cases he : (xs.take j).drop i = []
  · rw [he]
    have : j - i = 0 := by rw [← hlen, he]; rfl
    rw [this]
    exact .sl0 _ _ _
  · have hlt : i < j := by
      rcases Nat.lt_or_ge i j with h | h
      · exact h
      · exact absurd (List.eq_nil_of_length_eq_zero (by omega)) he
    have hne : xs ≠ [] := by intro e; rw [e] at hj; simp at hj; omega
    have hk := hk hne
    subst hk
    rw [if_neg (by omega)]
    generalize hn : xs.length = n at h hj
    cases h with
    | sl0 A c k => simp at hn; omega
    | sl b o c' _ _ vs hb hn' hm' hkk hc h1 hr =>
      simp only [Option.map_some, add_plain]
      have hget : ∀ (q : Nat) (x : List AV), ((xs.take j).drop i)[q]? = some x → xs[i + q]? = some x ∧ i + q < j := by
        intro q x hx
        rw [List.getElem?_drop, List.getElem?_take] at hx
        split at hx
        · exact ⟨hx, by assumption⟩
        · cases hx
      have := Rep.sl (w := w) (stb := stb) (ob := ob) b (o + i * k) (m - i) k ((xs.take j).drop i) (fun q p => vs (i + q) p) hb (by omega) (by rw [hlen]; omega) (fun x hx => hkk x (List.mem_of_mem_take (List.mem_of_mem_drop hx)))
        (fun q p hq hp => by
          have := hc (i + q) p (by omega) hp
          rw [Nat.add_mul] at this
          rwa [show o + i * k + (q * k + p) = o + (i * k + q * k + p) by omega])
        (fun q p hq hp => h1 (i + q) p (by omega) hp) (fun q x p c hx hp => hr (i + q) x p c (hget q x hx).1 hp)
      rwa [hlen] at this

theorem slice_sound (hT : TabOk P T) {r : Operand → AV} {n t : Nat} {x : Operand} {lo hi mx : Option Operand} {mem : List MB} {H : Heap} (hr : ∀ y k i, r y = .int k i → a.eval y = .int k i) (hx : TRep g l w n (r x) (a.eval x)) (h : light T (.slice t x lo hi mx) r mem H K) :
    ∃ av v, K av ∧ (Instr.sliceAt t (a.eval x) (lo.map a.eval) (hi.map a.eval) (mx.map a.eval)).run P w = .ok v w ∧ Rep w g.stb g.ob av v := by
  simp only [light] at h
  cases hk : (ti T t).k <;> cases hxv : r x <;> rw [hk, hxv] at h <;> rw [hxv] at hx <;> try simp only at h
  case str.str s =>
    simp only [TRep] at hx
    obtain ⟨li, ha, hl⟩ := bound_out hr h
    clear h
    obtain ⟨hi', h, hh⟩ := bound_out hr ha
    clear ha
    cases h0 : mx.isNone <;> rw [h0] at h <;> simp only [G, cond_false, cond_true] at h
    cases h1 : leI 0 li <;> rw [h1] at h <;> simp only [cond_false, cond_true] at h
    cases h2 : leI li hi' <;> rw [h2] at h <;> simp only [cond_false, cond_true] at h
    cases h3 : leI hi' (sizeI s) <;> rw [h3] at h <;> simp only [cond_false, cond_true] at h
    have e1 := of_decide_eq_true h1
    have e2 := of_decide_eq_true h2
    have e3 : hi' ≤ (s.size : Int) := of_decide_eq_true h3
    obtain rfl : mx = none := by simpa using h0
    obtain ⟨m, hb, _⟩ := run_bounds (P := P) (w := w) (isSlice := false) (len := s.size) (cap := s.size) (mx := none) (mi := hi') hl hh (.inl ⟨rfl, rfl⟩) (by simp) e1 e2 (Int.le_refl _) e3 (Nat.le_refl _)
    have hu := hT.u_str hk
    refine ⟨_, .string (s.extract li.toNat hi'.toNat), h, ?_, .str _⟩
    simp only [Option.map_none] at hb
    simp only [Instr.sliceAt, Sem.run_bind, run_underlying hu, Result.andThen_ok, Instr.slice, hx, Option.map_none, Option.isSome_none, Bool.false_eq_true, if_false, hb, Sem.run_pure]
  case slice.sl e tg k xs =>
    cases tg with
    | succ tg => simp at h
    | zero =>
    simp only at h
    simp only [TRep] at hx
    obtain ⟨li, h, hl⟩ := bound_out hr h
    obtain ⟨hi', h, hh⟩ := bound_out hr h
    obtain ⟨mi, h, hm⟩ := bound_out hr h
    cases h5 : Nat.beq k (ti T e).size <;> rw [h5] at h <;> simp only [G, cond_false, cond_true] at h
    cases h6 : Nat.blt 0 k <;> rw [h6] at h <;> simp only [cond_false, cond_true] at h
    cases h7 : (!mx.isSome || hi.isSome) <;> rw [h7] at h <;> simp only [cond_false, cond_true] at h
    cases h1 : leI 0 li <;> rw [h1] at h <;> simp only [cond_false, cond_true] at h
    cases h2 : leI li hi' <;> rw [h2] at h <;> simp only [cond_false, cond_true] at h
    cases h3 : leI hi' mi <;> rw [h3] at h <;> simp only [cond_false, cond_true] at h
    cases h4 : leI mi (lenI xs) <;> rw [h4] at h <;> simp only [cond_false, cond_true] at h
    have e1 := of_decide_eq_true h1
    have e2 := of_decide_eq_true h2
    have e3 := of_decide_eq_true h3
    have e4 : mi ≤ (xs.length : Int) := of_decide_eq_true h4
    have e5 : k = (ti T e).size := Nat.eq_of_beq_eq_true h5
    have e6 : 0 < k := Nat.le_of_ble_eq_true h6
    have hv : ∃ A c, a.eval x = .slice A xs.length c ∧ xs.length ≤ c := by
      generalize a.eval x = v at hx ⊢
      cases hx with
      | sl0 A c k => exact ⟨_, _, rfl, Nat.zero_le _⟩
      | sl b o1 c _ _ vs hb hn' hm hkk hc h1 hr => exact ⟨_, _, rfl, hn'⟩
    obtain ⟨A, c, hv, hc⟩ := hv
    obtain ⟨m, hb, hm1, hm2⟩ := run_bounds (P := P) (w := w) (isSlice := true) (len := xs.length) (cap := c) hl hh hm (by intro hs; cases hi <;> simp_all) e1 e2 e3 (by omega) hc
    have hu := hT.u_slice hk
    rw [hv] at hx ⊢
    have hcut := hx.cut li.toNat hi'.toNat m (by omega) (by omega) hm1 hm2 k (fun _ => rfl)
    refine ⟨_, _, h, ?_, hcut⟩
    have hsz := hT.size_pos (P := P) (t := e) (by omega) w
    simp only [Instr.sliceAt, Sem.run_bind, run_underlying hu, Result.andThen_ok, Instr.slice, hb, hsz, Sem.run_pure, e5]
  case slice.hs e j o n c k =>
    simp only [TRep] at hx
    obtain ⟨li, h, hl⟩ := bound_out hr h
    obtain ⟨hi', h, hh⟩ := bound_out hr h
    obtain ⟨mi, h, hm⟩ := bound_out hr h
    cases h5 : Nat.beq k (ti T e).size <;> rw [h5] at h <;> simp only [G, cond_false, cond_true] at h
    cases h6 : Nat.blt 0 k <;> rw [h6] at h <;> simp only [cond_false, cond_true] at h
    cases h7 : (!mx.isSome || hi.isSome) <;> rw [h7] at h <;> simp only [cond_false, cond_true] at h
    cases h1 : leI 0 li <;> rw [h1] at h <;> simp only [cond_false, cond_true] at h
    cases h2 : leI li hi' <;> rw [h2] at h <;> simp only [cond_false, cond_true] at h
    cases h3 : leI hi' mi <;> rw [h3] at h <;> simp only [cond_false, cond_true] at h
    cases h4 : leI mi c <;> rw [h4] at h <;> simp only [cond_false, cond_true] at h
    have e1 := of_decide_eq_true h1
    have e2 := of_decide_eq_true h2
    have e3 := of_decide_eq_true h3
    have e4 : mi ≤ (c : Int) := of_decide_eq_true h4
    have e5 : k = (ti T e).size := Nat.eq_of_beq_eq_true h5
    have e6 : 0 < k := Nat.le_of_ble_eq_true h6
    have hu := hT.u_slice hk
    have hsz := hT.size_pos (P := P) (t := e) (by omega) w
    generalize hv : a.eval x = v at hx ⊢
    cases hx with
    | hs _ b _ _ _ _ q hj hn hcm hq =>
      have hb : (Instr.sliceBounds true n c (lo.map a.eval) (hi.map a.eval) (mx.map a.eval)).run P w = .ok (li.toNat, hi'.toNat, mi.toNat) w := by
        have hlow : ∀ (xl : Operand) (kl : IntKind) (y : Nat), hi'.toNat ≤ y → a.eval xl = .int kl li → ∀ code, (Instr.sliceBound (a.eval xl) y code).run P w = .ok li.toNat w := fun xl kl y hy hxl code => run_bound hxl e1 (by omega)
        rcases hm with ⟨rfl, rfl⟩ | ⟨xm, km, rfl, hxm⟩
        · rcases hh with ⟨rfl, rfl⟩ | ⟨xh, kh, rfl, hxh⟩
          · rcases hl with ⟨rfl, rfl⟩ | ⟨xl, kl, rfl, hxl⟩
            · simp [Instr.sliceBounds]
            · have := fun code => hlow xl kl n (by omega) hxl code
              simp [Instr.sliceBounds, this]
          · have hb1 := fun code => run_bound (P := P) (w := w) (c := code) (y := c) hxh (by omega) (by omega)
            rcases hl with ⟨rfl, rfl⟩ | ⟨xl, kl, rfl, hxl⟩
            · simp [Instr.sliceBounds, hb1]
            · have := fun code => hlow xl kl hi'.toNat (Nat.le_refl _) hxl code
              simp [Instr.sliceBounds, hb1, this]
        · have hbm := fun code => run_bound (P := P) (w := w) (c := code) (y := c) hxm (by omega) (by omega)
          rcases hh with ⟨rfl, rfl⟩ | ⟨xh, kh, rfl, hxh⟩
          · simp at h7
          · have hb1 := fun code => run_bound (P := P) (w := w) (c := code) (y := mi.toNat) hxh (by omega) (by omega)
            rcases hl with ⟨rfl, rfl⟩ | ⟨xl, kl, rfl, hxl⟩
            · simp [Instr.sliceBounds, hb1, hbm]
            · have := fun code => hlow xl kl hi'.toNat (Nat.le_refl _) hxl code
              simp [Instr.sliceBounds, hb1, hbm, this]
      refine ⟨_, .slice (if mi.toNat = li.toNat then some ⟨b, q, none⟩ else some ⟨b, q + li.toNat * k, none⟩) (hi'.toNat - li.toNat) (mi.toNat - li.toNat), h, ?_, ?_⟩
      · simp only [Instr.sliceAt, Sem.run_bind, run_underlying hu, Result.andThen_ok, Instr.slice, hb, hsz, Sem.run_pure, e5, Option.map_some, add_plain]
        try rfl
      · by_cases hml : mi.toNat = li.toNat
        · rw [if_pos hml]
          exact .hs j b _ _ _ k q hj (by omega) (by omega) (by
            by_cases hl0 : li.toNat = 0
            · rcases hq with hq | hq
              · exact .inl ⟨by omega, by omega⟩
              · exact .inr (by rw [hl0, Nat.add_zero]; exact hq)
            · exact .inl ⟨by omega, by omega⟩)
        · rw [if_neg hml]
          exact .hs j b _ _ _ k _ hj (by omega) (by omega) (.inr (by
            have hq : q = o * k := by rcases hq with hq | hq <;> omega
            rw [hq, Nat.add_mul]))
  case slice.nilsl e =>
    simp only [TRep] at hx
    obtain ⟨li, ha, hl⟩ := bound_out hr h
    clear h
    obtain ⟨hi', hb, hh⟩ := bound_out hr ha
    clear ha
    obtain ⟨mi, h, hm⟩ := bound_out hr hb
    clear hb
    cases h7 : (!mx.isSome || hi.isSome) <;> rw [h7] at h <;> simp only [G, cond_false, cond_true] at h
    cases h6 : Nat.blt 0 (ti T e).size <;> rw [h6] at h <;> simp only [cond_false, cond_true] at h
    have e6 : 0 < (ti T e).size := Nat.le_of_ble_eq_true h6
    cases h1 : eqI li 0 <;> rw [h1] at h <;> simp only [cond_false, cond_true] at h
    cases h2 : eqI hi' 0 <;> rw [h2] at h <;> simp only [cond_false, cond_true] at h
    cases h3 : eqI mi 0 <;> rw [h3] at h <;> simp only [cond_false, cond_true] at h
    have e1 : li = 0 := of_decide_eq_true h1
    have e2 : hi' = 0 := of_decide_eq_true h2
    have e3 : mi = 0 := of_decide_eq_true h3
    have hu := hT.u_slice hk
    subst e1
    subst e2
    subst e3
    refine ⟨_, .slice none 0 0, h, ?_, .nilsl⟩
    have hz : ∀ (xl : Operand) (kl : IntKind), a.eval xl = .int kl 0 → ∀ code, (Instr.sliceBound (a.eval xl) 0 code).run P w = .ok 0 w := fun xl kl hxl code => run_bound hxl (Int.le_refl _) (by simp)
    have hsz := hT.size_pos (P := P) (t := e) e6 w
    rcases hh with ⟨rfl, _⟩ | ⟨xh, kh, rfl, hxh⟩
    · obtain rfl : mx = none := by cases mx <;> simp_all
      rcases hl with ⟨rfl, _⟩ | ⟨xl, kl, rfl, hxl⟩
      · simp [Instr.sliceAt, run_underlying hu, Instr.slice, hx, Instr.sliceBounds, hsz]
      · simp [Instr.sliceAt, run_underlying hu, Instr.slice, hx, Instr.sliceBounds, hsz, hz xl kl hxl]
    · rcases hm with ⟨rfl, _⟩ | ⟨xm, km, rfl, hxm⟩
      · rcases hl with ⟨rfl, _⟩ | ⟨xl, kl, rfl, hxl⟩
        · simp [Instr.sliceAt, run_underlying hu, Instr.slice, hx, Instr.sliceBounds, hsz, hz xh kh hxh]
        · simp [Instr.sliceAt, run_underlying hu, Instr.slice, hx, Instr.sliceBounds, hsz, hz xh kh hxh, hz xl kl hxl]
      · rcases hl with ⟨rfl, _⟩ | ⟨xl, kl, rfl, hxl⟩
        · simp [Instr.sliceAt, run_underlying hu, Instr.slice, hx, Instr.sliceBounds, hsz, hz xh kh hxh, hz xm km hxm]
        · simp [Instr.sliceAt, run_underlying hu, Instr.slice, hx, Instr.sliceBounds, hsz, hz xh kh hxh, hz xm km hxm, hz xl kl hxl]
end
end Go.Proofs.Ytbkkhhmjmbbfpaa.Ab
