/- slices.overlaps: of slices in several blocks. -/
import Derived.Test.YtbkkhhmjmbbfpaaAbObj
import Derived.Lib.Overlaps
namespace Go.Proofs.Ytbkkhhmjmbbfpaa.Ab
open Go

/-- What the tables say of slices.overlaps. -/
def ApartOk (P : Program) (E : Env) : Prop :=
  ∀ g, E.apart g = true → ∃ fn tS tR e size, P.funcs[g]? = some fn ∧ (fn.name == "runtime.NumGoroutine") = false ∧ fn.body.isNone = true ∧ Extern.findNext fn = none ∧ Extern.find fn = some (Extern.SlicesOverlaps.overlaps #[tS, tS] #[tR]) ∧
    P.underlying tS = some (.slice e) ∧ ∀ w, (Go.sizeOf e).run P w = .ok size w

theorem run_overlaps_apart' {P : Program} (w : World) (tS tR e : TypeId) (ht : P.underlying tS = some (.slice e)) (size : Nat) (hz : ∀ w, (Go.sizeOf e).run P w = .ok size w)
    (a b : Addr) (la ca lb cb : Nat) (hne : a.block ≠ b.block) (tA tB : TypeId) (kA kB : Nat)
    (hsa : w.shape? a.block = some (tA, kA)) (hsb : w.shape? b.block = some (tB, kB)) (hkA : kA ≠ 0)
    (hfb : w.frozen? b = false) (hfe : w.frozen? { block := b.block, off := kB } = false) :
    (Extern.SlicesOverlaps.overlaps #[tS, tS] #[tR] #[.slice (some a) la ca, .slice (some b) lb cb]).run P w = .ok (.bool false) w := by
  have hnb : (a.block != b.block) = true := by simpa using hne
  have hnb' : (a.block == b.block) = false := by simpa using hne
  change Sem.run P (α := Value) (do
    let some t := (#[tS, tS] : Array TypeId)[0]? | stuck "slices.overlaps: no parameter types"
    let .slice elem ← underlying t | stuck "slices.overlaps: slice type expected"
    let size ← sizeOf elem
    match (some a : Option Addr), (some b : Option Addr) with
    | some a, some b =>
      if la = 0 ∨ lb = 0 ∨ size = 0 then pure (Value.bool false)
      else if a.block != b.block && (← frozen a) && (← frozen b) then unsupported .addressObserved
      else do
        if a.block != b.block then do
          noView a; noView b
          if ← mayBeOne a b then return Value.bool ((← choose (.extern "sameAddr.stringBytes" 2)) == 1)
        pure (Value.bool (a.block == b.block && a.off < b.off + lb * size && b.off < a.off + la * size))
    | _, _ => pure (Value.bool false)) w = _
  by_cases h0 : la = 0 ∨ lb = 0 ∨ size = 0
  · simp [run_underlying ht, hz, h0]
  · cases kA with
    | zero => exact absurd rfl hkA
    | succ kA =>
      cases h1 : w.frozen? a <;> cases h2 : w.frozen? { block := a.block, off := kA + 1 } <;>
        simp [run_underlying ht, hz, h0, hnb, hnb', frozen, noView, viewAt, mayBeOne, stringish, shape, Sem.run, hsa, hsb, hfb, hfe, h1, h2]
theorem run_overlaps_none {P : Program} (w : World) (tS tR e : TypeId) (ht : P.underlying tS = some (.slice e)) (size : Nat) (hz : ∀ w, (Go.sizeOf e).run P w = .ok size w) (A B : Option Addr) (la ca lb cb : Nat) (h : A = none ∨ B = none ∨ la = 0 ∨ lb = 0) :
    (Extern.SlicesOverlaps.overlaps #[tS, tS] #[tR] #[.slice A la ca, .slice B lb cb]).run P w = .ok (.bool false) w := by
  change Sem.run P (α := Value) (do
    let some t := (#[tS, tS] : Array TypeId)[0]? | stuck "slices.overlaps: no parameter types"
    let .slice elem ← underlying t | stuck "slices.overlaps: slice type expected"
    let size ← sizeOf elem
    match (A : Option Addr), (B : Option Addr) with
    | some a, some b =>
      if la = 0 ∨ lb = 0 ∨ size = 0 then pure (Value.bool false)
      else if a.block != b.block && (← frozen a) && (← frozen b) then unsupported .addressObserved
      else do
        if a.block != b.block then do
          noView a; noView b
          if ← mayBeOne a b then return Value.bool ((← choose (.extern "sameAddr.stringBytes" 2)) == 1)
        pure (Value.bool (a.block == b.block && a.off < b.off + lb * size && b.off < a.off + la * size))
    | _, _ => pure (Value.bool false)) w = _
  cases A with
  | none => simp [run_underlying ht, hz]
  | some a =>
    cases B with
    | none => simp [run_underlying ht, hz]
    | some b =>
      have h0 : la = 0 ∨ lb = 0 ∨ size = 0 := by rcases h with h | h | h | h <;> simp_all
      simp [run_underlying ht, hz, h0]

section
variable {P : Program} {T : List TI} {w0 : World} {g0 g : Gs} {l : Gl} {w w' : World} {st : St} {a : Act}

theorem sl_block (hI : Inv w0 g0 g l w st a) {t k : Nat} {xs : List (List AV)} {v : Value} (hr : TRep g l w st.mem.length (.sl t (k + 1) xs) v) (ht : ∀ u ∈ tagsOf (.sl t (k + 1) xs), u ∈ st.tags) :
    ∃ A n c, v = .slice A n c ∧ (A = none ∨ n = 0 ∨ ∃ b o u, A = some ⟨b, o, none⟩ ∧ ¬ g.foot b ∧ w.cell? ⟨b, o, none⟩ = some u) := by
  cases t with
  | zero =>
    simp only [TRep] at hr
    cases hr with
    | sl0 A c k => exact ⟨A, 0, c, rfl, .inr (.inl rfl)⟩
    | sl b o c k xs vs hb hn hm hk hc h1 hr =>
      refine ⟨_, _, _, rfl, ?_⟩
      rcases Nat.eq_zero_or_pos xs.length with h0 | h0
      · exact .inr (.inl h0)
      · exact .inr (.inr ⟨b, o, vs 0 0, rfl, (hI.stbLt b hb).2, by have := hc 0 0 h0 (by omega); simpa using this⟩)
  | succ t =>
    simp only [TRep] at hr
    obtain ⟨rfl, hx, hk⟩ := hr
    have hin : t + 1 ∈ st.tags := ht _ (by simp [tagsOf, Nat.beq])
    rcases (hI.own _ hin).parts with ⟨h1, h2⟩ | ⟨b, c, vs, hv, hb, hlt, hn, hm, hc, h1, hr⟩
    · exact ⟨none, 0, 0, h1, .inl rfl⟩
    · refine ⟨_, _, _, hv, ?_⟩
      rcases Nat.eq_zero_or_pos (l.xc (t + 1)).length with h0 | h0
      · exact .inr (.inl h0)
      · exact .inr (.inr ⟨b, 0, vs 0 0, rfl, (hI.ownPriv _ hin b (by rw [hv]; rfl)).2.1, by have := hc 0 0 h0 (by omega); simpa using this⟩)
theorem hs_block (_ : Inv w0 g0 g l w st a) {j o n c k : Nat} {v : Value} (hr : TRep g l w st.mem.length (.hs j o n c k) v) : ∃ b q, v = .slice (some ⟨b, q, none⟩) n c ∧ g.ob j = some b := by
  simp only [TRep] at hr
  cases hr with
  | hs _ b _ _ _ _ q ho _ _ _ => exact ⟨b, q, rfl, ho⟩
theorem cell_shape {b o : Nat} {u : Value} (h : w.cell? ⟨b, o, none⟩ = some u) : ∃ t k, w.shape? b = some (t, k) ∧ k ≠ 0 := by
  unfold World.cell? at h
  unfold World.shape?
  simp only at h
  split at h
  · rename_i c e fr hb
    refine ⟨e, c.size, by simp [hb], fun h0 => ?_⟩
    simp only [Option.isSome_none, Bool.false_eq_true, if_false] at h
    rw [Array.getElem?_eq_none (by omega)] at h
    cases h
  · cases h
theorem apart_run {E : Env} (hA : ApartOk P E) (hI : Inv w0 g0 g l w st a) {f : Nat} (hf : E.apart f = true) {x y : AV} {vx vy : Value} (hx : TRep g l w st.mem.length x vx) (hxt : ∀ u ∈ tagsOf x, u ∈ st.tags) (hy : TRep g l w st.mem.length y vy) (hyt : ∀ u ∈ tagsOf y, u ∈ st.tags)
    {K : Bool → Prop} (h : apartK st.H x y K) : K false ∧ (callFunc f #[vx, vy]).run P w = .ok (Next.value (.bool false)) w := by
  obtain ⟨fn, tS, tR, e, size, h1, h2, h3, h4, h5, h6, h7⟩ := hA f hf
  rw [run_callFunc_extern h1 h2 h3 h4 h5]
  have key : K false → (Extern.SlicesOverlaps.overlaps #[tS, tS] #[tR] #[vx, vy]).run P w = .ok (.bool false) w → K false ∧ ((Extern.SlicesOverlaps.overlaps #[tS, tS] #[tR] #[vx, vy]).run P w).andThen (fun v w' => .ok (Next.value v) w') = .ok (Next.value (.bool false)) w := by
    intro hb hr
    rw [hr]
    exact ⟨hb, rfl⟩
  have far : ∀ {b1 o1 n1 c1 b2 o2 n2 c2 j1 : Nat} {u : Value}, g.ob j1 = some b1 → (∃ k xs, st.H.get j1 = .rows k xs) → ¬ g.foot b2 → w.cell? ⟨b2, o2, none⟩ = some u →
      (Extern.SlicesOverlaps.overlaps #[tS, tS] #[tR] #[.slice (some ⟨b1, o1, none⟩) n1 c1, .slice (some ⟨b2, o2, none⟩) n2 c2]).run P w = .ok (.bool false) w ∧ (Extern.SlicesOverlaps.overlaps #[tS, tS] #[tR] #[.slice (some ⟨b2, o2, none⟩) n2 c2, .slice (some ⟨b1, o1, none⟩) n1 c1]).run P w = .ok (.bool false) w := by
    intro b1 o1 n1 c1 b2 o2 n2 c2 j1 u ho hd hnf hc
    obtain ⟨k0, xs0, hh⟩ := hd
    obtain ⟨b', q1, q2, q3, q4⟩ := hI.heap.live j1 (by rw [hh]; simp)
    rw [ho] at q1
    cases q1
    have hne : b1 ≠ b2 := fun e => hnf (e ▸ q2)
    obtain ⟨vs, e1, hb1⟩ : ∃ vs e1, w.heap[b1]? = some (.cells vs e1 (0, 0)) := by
      rw [hh] at q4; obtain ⟨vs, e, h, _⟩ := q4; exact ⟨_, e, h⟩
    have hs1 : w.shape? b1 = some (e1, vs.size) := by simp [World.shape?, hb1]
    have hf1 : ∀ o, w.frozen? ⟨b1, o, none⟩ = false := fun o => by simp [World.frozen?, hb1]
    obtain ⟨t2, k2, hs2, hk2⟩ := cell_shape hc
    exact ⟨Lib.run_overlaps_apart w tS tR e h6 size h7 ⟨b1, o1, none⟩ ⟨b2, o2, none⟩ n1 c1 n2 c2 hne e1 t2 vs.size k2 hs1 hs2 hk2 (hf1 _) (hf1 _),
      run_overlaps_apart' w tS tR e h6 size h7 ⟨b2, o2, none⟩ ⟨b1, o1, none⟩ n2 c2 n1 c1 (Ne.symm hne) t2 e1 k2 vs.size hs2 hs1 hk2 (hf1 _) (hf1 _)⟩
  have live : ∀ {j k : Nat}, G ((st.H.get j).isRows k) (K false) → K false ∧ (∃ k xs, st.H.get j = .rows k xs) := fun {j k} h => by
    obtain ⟨hh, h⟩ := G_out h
    obtain ⟨xs, hxs⟩ := isRows_eq hh
    exact ⟨h, _, xs, hxs⟩
  unfold apartK at h
  split at h <;> (try (exact h.elim))
  · refine key h ?_
    simp only [TRep] at hx hy
    subst hx hy
    exact run_overlaps_none w tS tR e h6 size h7 _ _ _ _ _ _ (.inl rfl)
  · refine key h ?_
    obtain ⟨_, _, rfl, _⟩ := hs_block hI hy
    simp only [TRep] at hx
    subst hx
    exact run_overlaps_none w tS tR e h6 size h7 _ _ _ _ _ _ (.inl rfl)
  · refine key h ?_
    obtain ⟨_, _, _, rfl, _⟩ := sl_block hI hy hyt
    simp only [TRep] at hx
    subst hx
    exact run_overlaps_none w tS tR e h6 size h7 _ _ _ _ _ _ (.inl rfl)
  · refine key h ?_
    obtain ⟨_, _, rfl, _⟩ := hs_block hI hx
    simp only [TRep] at hy
    subst hy
    exact run_overlaps_none w tS tR e h6 size h7 _ _ _ _ _ _ (.inr (.inl rfl))
  · refine key h ?_
    obtain ⟨_, _, _, rfl, _⟩ := sl_block hI hx hxt
    simp only [TRep] at hy
    subst hy
    exact run_overlaps_none w tS tR e h6 size h7 _ _ _ _ _ _ (.inr (.inl rfl))
  · obtain ⟨h, hd⟩ := live h
    refine key h ?_
    obtain ⟨b1, o1, rfl, ho⟩ := hs_block hI hx
    obtain ⟨A, n, c, rfl, hA⟩ := sl_block hI hy hyt
    rcases hA with rfl | rfl | ⟨b2, o2, u, rfl, hnf, hc⟩
    · exact run_overlaps_none w tS tR e h6 size h7 _ _ _ _ _ _ (.inr (.inl rfl))
    · exact run_overlaps_none w tS tR e h6 size h7 _ _ _ _ _ _ (.inr (.inr (.inr rfl)))
    · exact (far ho hd hnf hc).1
  · obtain ⟨h, hd⟩ := live h
    refine key h ?_
    obtain ⟨b1, o1, rfl, ho⟩ := hs_block hI hy
    obtain ⟨A, n, c, rfl, hA⟩ := sl_block hI hx hxt
    rcases hA with rfl | rfl | ⟨b2, o2, u, rfl, hnf, hc⟩
    · exact run_overlaps_none w tS tR e h6 size h7 _ _ _ _ _ _ (.inl rfl)
    · exact run_overlaps_none w tS tR e h6 size h7 _ _ _ _ _ _ (.inr (.inr (.inl rfl)))
    · exact (far ho hd hnf hc).2
end
/-- What is told of library functions and of methods. -/
structure LibOk (P : Program) (E : Env) : Prop where
  apart : ApartOk P E
  disp : DispOk P E
theorem dispOk_none {P : Program} {E : Env} (h : ∀ name, E.disp name = []) : DispOk P E := fun name p hp => by rw [h name] at hp; cases hp
end Go.Proofs.Ytbkkhhmjmbbfpaa.Ab
