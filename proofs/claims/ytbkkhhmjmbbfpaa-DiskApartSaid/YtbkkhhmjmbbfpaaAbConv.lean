/- The bytes of a constant string: the conversion of a slice to its own type. -/
import Derived.Test.YtbkkhhmjmbbfpaaAbOps10
namespace Go.Proofs.Ytbkkhhmjmbbfpaa.Ab
open Go

section
variable {P : Program} {T : List TI} {w0 : World} {g0 g : Gs} {l : Gl} {w : World} {st : St} {a : Act} {o : Oper} {next : Act → World → Prop} {Q : Exit → Act → World → Prop}
/-- A block that nobody leans on is stable from here on. -/
theorem Inv.addStb (h : Inv w0 g0 g l w st a) {b : Nat} (h1 : w0.heap.size ≤ b) (h2 : b < w.heap.size) (h3 : ¬ g.foot b) (h4 : ∀ j mb, st.mem[j]? = some mb → mb.mine = true → l.loc j ≠ b) (h5 : ∀ t ∈ st.tags, (l.xv t).ownBlock ≠ some b) :
    Inv w0 g0 { g with stb := fun x => g.stb x ∨ x = b } l w st a := by
  have hs : ∀ x, g.stb x → g.stb x ∨ x = b := fun x hx => .inl hx
  refine ⟨h.defers, TReps.mono (g' := { g with stb := fun x => g.stb x ∨ x = b }) (fun _ _ => rfl) hs (fun _ _ h => h) (fun _ _ => rfl) (Nat.le_refl _) _ _ (fun _ _ => ⟨rfl, rfl, rfl⟩) h.tm, ?_, ?_, ?_, h.inj, ?_, h.ownInj, ?_, ?_, ?_⟩
  · intro j mb hj
    exact BRep.mono (g' := { g with stb := fun x => g.stb x ∨ x = b }) (h.mem j mb hj) (fun _ => rfl) (fun _ _ => ⟨rfl, rfl, rfl⟩) (fun _ _ => rfl) (Nat.le_refl _) (fun _ _ => rfl) hs (fun _ _ h => h)
  · intro t ht
    exact OwnT.mono (g' := { g with stb := fun x => g.stb x ∨ x = b }) (h.own t ht) ⟨rfl, rfl, rfl⟩ (fun _ _ => rfl) (fun _ _ => rfl) hs (fun _ _ h => h)
  · intro j mb hj hm
    obtain ⟨k1, k2, k3, k4⟩ := h.priv j mb hj hm
    exact ⟨k1, k2, fun h' => h'.elim k3 (h4 j mb hj hm), k4⟩
  · intro t ht x hx
    obtain ⟨k1, k2, k3⟩ := h.ownPriv t ht x hx
    refine ⟨fun h' => h'.elim k1 fun e => h5 t ht (by rw [← e]; exact hx), k2, k3⟩
  · exact HOK.mono (g' := { g with stb := fun x => g.stb x ∨ x = b }) h.heap (fun _ _ => rfl) (fun _ _ => rfl) hs rfl rfl (Nat.le_refl _)
  · exact ⟨h.ext.os, h.ext.tape, h.ext.output, h.ext.size, h.ext.keep, fun x hx => .inl (h.ext.stb x hx), fun x hx => hx.elim (h.ext.stbNew x) fun e => .inr (.inl (e ▸ h1)), h.ext.ob, h.ext.footNew⟩
  · intro x hx
    rcases hx with hx | rfl
    · exact h.stbLt x hx
    · exact ⟨h2, h3⟩

theorem bytesConst_sound (hT : TabOk P T) (hI : Inv w0 g0 g l w st a) {src dst e e' t k : Nat} {x : Operand} {xs : List (List AV)} {K : St → Prop} (ho : o.op = .convert src dst x) (h1 : (ti T src).k = .slice e') (h2 : (ti T dst).k = .slice e) (h3 : (ti T e).k = .int .u8)
    (hx : ρ st.tm x = .sl (t + 1) k xs) (h : G (Nat.beq src dst) (G (!(xs.isEmpty)) (K ((st.mapS (killF (t + 1))).put o.dst (.sl 0 k xs))))) (hn : Goes w0 g0 K next) : o.wp P a w next Q := by
  obtain ⟨hsd, h⟩ := G_out h
  obtain ⟨hne, hK⟩ := G_out h
  obtain rfl : src = dst := Nat.eq_of_beq_eq_true hsd
  obtain ⟨hev, hts⟩ := hI.operand (a := a) x
  rw [hx] at hev hts
  simp only [TRep] at hev
  obtain ⟨hv, rfl, rfl⟩ := hev
  have ht : t + 1 ∈ st.tags := hts _ (by simp [tagsOf, Nat.beq])
  have hown := hI.own _ ht
  rcases hown.parts with ⟨_, q2⟩ | ⟨b, c, vs, q1, q2, q3, q4, q5, q6, q7, q8⟩
  · rw [q2] at hne; cases hne
  obtain ⟨p1, p2, p3⟩ := hI.ownPriv _ ht b (by rw [q1]; rfl)
  obtain ⟨ee, fl, hrow, _⟩ := hown
  have hblk : ∃ cur, w.heap[b]? = some (.cells cur ee (0, 0)) := by
    rcases hrow.2 with ⟨r1, _⟩ | ⟨b', cap, cur, r1, _, r3, _⟩
    · rw [q1] at r1; cases r1
    · rw [q1] at r1
      cases r1
      exact ⟨cur, r3⟩
  obtain ⟨cur, hblk⟩ := hblk
  -- the mark
  let w' : World := w.freeze ⟨b, cur.size, none⟩ 1
  have hsize : w'.heap.size = w.heap.size := by
    show (w.freeze ⟨b, cur.size, none⟩ 1).heap.size = _
    simp [World.freeze]
  have hother : ∀ y, y ≠ b → w'.heap[y]? = w.heap[y]? := by
    intro y hy
    show (w.freeze ⟨b, cur.size, none⟩ 1).heap[y]? = _
    simp only [World.freeze]
    rw [if_neg (by decide), Array.getElem?_modify, if_neg (Ne.symm hy)]
  have hhere : w'.heap[b]? = some (.cells cur ee (cur.size, cur.size + 1)) := by
    show (w.freeze ⟨b, cur.size, none⟩ 1).heap[b]? = _
    simp only [World.freeze]
    rw [if_neg (by decide), Array.getElem?_modify, if_pos rfl, hblk]
    rfl
  have hcell : ∀ i, w'.cell? ⟨b, i, none⟩ = w.cell? ⟨b, i, none⟩ := by
    intro i
    simp only [World.cell?, hhere, hblk]
  have hrun : (execOp a.eval o).run P w = .ok (.value (l.xv (t + 1))) w' := by
    unfold execOp
    rw [ho]
    refine exec_v ?_
    rw [hv, q1]
    have hsh : w.shape? b = some (ee, cur.size) := by unfold World.shape?; rw [hblk]
    have : e' = e := by rw [h1] at h2; cases h2; rfl
    subst this
    simp [convert, run_underlying (hT.u_slice h1), run_underlying (hT.u_int h3), markStringish, hsh]
    rfl
  have hk := hI.kill (t + 1)
  have htg : ∀ u ∈ (st.mapS (killF (t + 1))).tags, u ∈ st.tags ∧ u ≠ t + 1 := tags_mapS (killF_tags (t + 1)) st
  have hnl : ∀ u ∈ (st.mapS (killF (t + 1))).tags, (l.xv u).ownBlock ≠ some b := fun u hu e => by
    obtain ⟨u1, u2⟩ := htg u hu
    exact u2 (hI.ownInj u u1 (t + 1) ht b e (by rw [q1]; rfl))
  have hml : ∀ j mb, (st.mapS (killF (t + 1))).mem[j]? = some mb → mb.mine = true → l.loc j ≠ b := fun j mb hj _ => by
    refine p3 j ?_
    have := (List.getElem?_eq_some_iff.1 hj).1
    simpa [St.mapS] using this
  have hstep := hk.step0 (w' := w') (g' := g) rfl rfl rfl (Nat.le_of_eq hsize.symm) (fun y hy hl => by
    refine hother y fun e => ?_
    subst e
    rcases hl with hl | hl | hl
    · rcases hl with hl | ⟨j, mb, hj, hm, hl⟩ | ⟨u, hu, hl⟩
      · exact p1 hl
      · exact hml j mb hj hm hl
      · exact hnl u hu hl
    · exact p2 hl
    · omega) (fun _ h => h) (fun _ h => .inl h) rfl rfl
  have hadd := hstep.addStb (b := b) q2 (by rw [hsize]; exact q3) p2 hml hnl
  refine wp_value hrun (hn _ _ _ _ _ (hadd.put ?_ (by simp [tagsOf, Nat.beq]) _) hK)
  simp only [TRep]
  rw [q1]
  exact .sl b 0 c _ _ vs (.inr rfl) q4 (Nat.le_trans q4 q5) (hI.own _ ht).size (fun i j hi hj => (hcell _).trans (q6 i j hi hj)) q7
    fun i y j d hi hj => (q8 i y j d hi hj).mono (fun z hz => hother z fun e => p1 (e ▸ hz)) (fun _ h => .inl h) (fun _ _ h => h)
end
end Go.Proofs.Ytbkkhhmjmbbfpaa.Ab
