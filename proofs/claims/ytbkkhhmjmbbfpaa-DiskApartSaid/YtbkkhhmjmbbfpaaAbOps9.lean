/- append. -/
import Derived.Test.YtbkkhhmjmbbfpaaAbOps8
import Derived.ArgAppend
namespace Go.Proofs.Ytbkkhhmjmbbfpaa.Ab
open Go

theorem rows_nil {w : World} {stb : Nat → Prop} {ob : Nat → Option Nat} (k : Nat) : Rows w stb ob k [] [] := ⟨by simp, by simp, by simp, by simp⟩

theorem Rows.append {w : World} {stb : Nat → Prop} {ob : Nat → Option Nat} {k : Nat} {xs ys : List (List AV)} {us vs : List Value} (h : Rows w stb ob k xs us) (h' : Rows w stb ob k ys vs) : Rows w stb ob k (xs ++ ys) (us ++ vs) := by
  refine ⟨by simp [h.len, h'.len, Nat.add_mul], fun x hx => ?_, fun u hu => ?_, fun i x j c hi hj => ?_⟩
  · exact (List.mem_append.1 hx).elim (h.row x) (h'.row x)
  · exact (List.mem_append.1 hu).elim (h.one u) (h'.one u)
  · rw [List.getElem?_append] at hi
    split at hi
    · obtain ⟨v, hv, hr⟩ := h.rep i x j c hi hj
      refine ⟨v, ?_, hr⟩
      rw [List.getElem?_append_left (List.getElem?_eq_some_iff.1 hv).1]
      exact hv
    · obtain ⟨v, hv, hr⟩ := h'.rep _ x j c hi hj
      refine ⟨v, ?_, hr⟩
      have hge : xs.length ≤ i := by omega
      have hmul : xs.length * k ≤ i * k := Nat.mul_le_mul_right _ hge
      have hsub : (i - xs.length) * k = i * k - xs.length * k := Nat.sub_mul _ _ _
      rw [List.getElem?_append_right (by rw [h.len]; omega), h.len]
      rw [show i * k + j - xs.length * k = (i - xs.length) * k + j by omega]
      exact hv
theorem Rows.mono {w w' : World} {stb stb' : Nat → Prop} {ob ob' : Nat → Option Nat} {k : Nat} {xs : List (List AV)} {us : List Value} (h : Rows w stb ob k xs us) (hw : ∀ b, stb b → w'.heap[b]? = w.heap[b]?) (hs : ∀ b, stb b → stb' b)
    (ho : ∀ j b, ob j = some b → ob' j = some b) : Rows w' stb' ob' k xs us :=
  ⟨h.len, h.row, h.one, fun i x j c hi hj => by obtain ⟨v, hv, hr⟩ := h.rep i x j c hi hj; exact ⟨v, hv, hr.mono hw hs ho⟩⟩

section
variable {P : Program} (w : World)

/-- append at a row of the frame's own, whatever type its block is told to be of. -/
theorem run_append_row (base : Nat) (t ty e e0 : TypeId) (i : TypeInfo) (z : Value) (size bytes : Nat) (ht : P.underlying t = some (.slice e)) (hi : P.info? e = some i) (hz : i.zero = some z)
    (hsize : i.size = size) (hby : i.bytes = bytes) (hzs : z.cells.size = size) (hsz : 0 < size) (hz1 : ∀ u ∈ z.cells.toList, u.oneCell' = true)
    (v : Value) (n : Nat) (xs : List Value) (hown : w.ownsRow base e0 size v n xs) (hall : AllOne w v)
    (A : Option Addr) (m c : Nat) (news : List Value) (hA : A = none → m = 0) (hl : news.length = m * size) (hnews : ∀ ad, A = some ad → ∀ j u, news[j]? = some u → w.cell? (ad.add j) = some u) (h1 : ∀ u ∈ news, u.oneCell' = true) (hx1 : ∀ u ∈ xs, u.oneCell' = true)
    (h63 : n + m ≤ maxLen) (hbytes : (n + m) * bytes ≤ 140737488355328) (hbase : base ≤ w.heap.size) :
    ∃ v' w' e1, (Builtin.append_ #[t, t] ty #[v, .slice A m c]).run P w = .ok v' w' ∧ w'.ownsRow base e1 size v' (n + m) (xs ++ news) ∧ w.grownBy w' v.ownBlock ∧
      (v'.ownBlock = v.ownBlock ∨ ∀ b, v'.ownBlock = some b → w.heap.size ≤ b) ∧ AllOne w' v' := by
  have zc : ∀ n, ∀ u ∈ (Builtin.zeroCells z.cells n).toList, u.oneCell' = true := by
    intro n u hu
    simp only [Builtin.zeroCells, Array.toList_map, List.mem_map] at hu
    obtain ⟨q, _, rfl⟩ := hu
    refine hz1 _ ?_
    have hlt : q % z.cells.size < z.cells.size := Nat.mod_lt _ (by omega)
    rw [getElem!_pos z.cells _ hlt]
    simp
  cases A with
  | none =>
    obtain rfl := hA rfl
    obtain rfl : news = [] := List.eq_nil_of_length_eq_zero (by simpa using hl)
    refine ⟨v, w, e0, ?_, by simpa using hown, ⟨rfl, rfl, rfl, Nat.le_refl _, fun _ _ _ => rfl⟩, .inl rfl, hall⟩
    rcases hown.2 with ⟨rfl, rfl⟩ | ⟨g, cap, cur, rfl, _, _, hnc, _⟩
    · simp [Builtin.append_, run_underlying ht, sizeOf, typeInfo, hi, Builtin.lenOf, Builtin.firstCells]
    · simp [Builtin.append_, run_underlying ht, sizeOf, typeInfo, hi, Builtin.lenOf, Builtin.firstCells, hnc, storeCells]
  | some ad =>
    rcases hown.2 with ⟨rfl, rfl⟩ | ⟨g, cap, cur, rfl, hbg, hg, hnc, hcm, hcs, htake⟩
    · obtain rfl : xs = [] := List.eq_nil_of_length_eq_zero (by simpa using hown.1)
      by_cases hm : m = 0
      · subst hm
        obtain rfl : news = [] := List.eq_nil_of_length_eq_zero (by simpa using hl)
        refine ⟨.slice none 0 0, w, e0, ?_, by simpa using hown, ⟨rfl, rfl, rfl, Nat.le_refl _, fun _ _ _ => rfl⟩, .inl rfl, hall⟩
        have hf := run_firstCells_some (P := P) w i.size 0 ad 0 c [] (by simp) (by simp)
        simp [Builtin.append_, run_underlying ht, sizeOf, typeInfo, hi, Builtin.lenOf, hf]
      · rw [Nat.zero_add] at h63 hbytes ⊢
        have hr := run_append_nil (P := P) w t ty e i z ht hi hz ad m c news (by rw [hsize]; exact hl) (hnews ad rfl) (by omega) (by simp only [maxLen] at h63; omega) (by rw [hby]; omega)
        have hge := grownCap_ge w m 0 e
        have hcm := grownCap_le_maxLen w m 0 e h63
        have hnew := heap_alloc_new w.drew (.cells (news.toArray ++ Builtin.zeroCells z.cells (grownCap w m 0 e - m)) e)
        refine ⟨_, _, e, hr, ⟨by simpa using hl, .inr ⟨w.heap.size, _, _, rfl, hbase, hnew, hge, hcm, ?_, ?_⟩⟩, ⟨rfl, rfl, rfl, by simp, fun k hk _ => heap_alloc_old w.drew _ k hk⟩, .inr fun b hb => by cases hb; exact Nat.le_refl _, ?_⟩
        · simp only [Array.size_append, List.size_toArray, size_zeroCells, hzs, hl, ← Nat.add_mul]
          congr 1
          omega
        · simp only [Array.toList_append, List.nil_append]
          rw [← hl]
          exact List.take_left
        · intro b cs' e' fr hb hh u hu
          cases hb
          have hh' : (w.drew.alloc (.cells (news.toArray ++ Builtin.zeroCells z.cells (grownCap w m 0 e - m)) e)).heap[w.drew.heap.size]? = _ := hh
          rw [hnew] at hh'
          cases hh'
          simp only [Array.toList_append, List.mem_append] at hu
          exact hu.elim (h1 u) (zc _ u)
    · have hrow : (Value.slice (some ⟨g, 0, none⟩) n cap).ownBlock = some g := rfl
      by_cases hroom : n + m ≤ cap
      · have hfit : n * i.size + news.length ≤ cur.size := by rw [hl, hcs, hsize, ← Nat.add_mul]; exact Nat.mul_le_mul_right _ hroom
        have hf := run_firstCells_some (P := P) w i.size m ad m c news (by rw [hsize]; exact hl) (hnews ad rfl)
        have hst := run_storeCells_at P g (n * i.size) e0 news 0 cur w hg (by simpa using hfit) h1
        simp only [Nat.add_zero] at hst
        have hr : (Builtin.append_ #[t, t] ty #[.slice (some ⟨g, 0, none⟩) n cap, .slice (some ad) m c]).run P w =
            .ok (.slice (some ⟨g, 0, none⟩) (n + m) cap) (w.setRow g (cur.toList.take (n * i.size) ++ news ++ cur.toList.drop (n * i.size + news.length)).toArray) := by
          simp [Builtin.append_, run_underlying ht, sizeOf, typeInfo, hi, Builtin.lenOf, hroom, hf, Addr.add_lit, hst]
        have hlen : (xs ++ news).length = (n + m) * size := by rw [List.length_append, hown.1, hl, Nat.add_mul]
        rw [hsize] at hr hfit
        refine ⟨_, _, e0, hr, ⟨hlen, .inr ⟨g, cap, _, rfl, hbg, setRow_heap w g cur _ e0 _ hg, hroom, hcm, ?_, ?_⟩⟩, ⟨rfl, rfl, rfl, by simp, fun k _ hk => setRow_other w g k _ (fun e => hk (by simp [Value.ownBlock, e]))⟩, Or.inl rfl, ?_⟩
        · simp only [List.size_toArray, List.length_append, List.length_take, List.length_drop, Array.length_toList]
          omega
        · rw [htake, ← hlen]
          exact List.take_left
        · intro b cs' e' fr hb hh u hu
          cases hb
          rw [setRow_heap w g cur _ e0 _ hg] at hh
          cases hh
          simp only [List.mem_append] at hu
          rcases hu with (hu | hu) | hu
          · exact hall g cur e0 (0, 0) rfl hg u (List.mem_of_mem_take hu)
          · exact h1 u hu
          · exact hall g cur e0 (0, 0) rfl hg u (List.mem_of_mem_drop hu)
      · have hge := grownCap_ge w (n + m) cap e
        have hcm2 := grownCap_le_maxLen w (n + m) cap e h63
        have hr := run_append_grow (P := P) w t ty e i z ht hi hz ⟨g, 0, none⟩ n cap xs (by rw [hsize]; exact hown.1) (hown.cells (g := g) rfl) ad m c news (by rw [hsize]; exact hl) (hnews ad rfl) (by omega) (by simp only [maxLen] at h63; omega) (growslice_fits (by omega) (by rw [hby]; exact hbytes))
        have hnew := heap_alloc_new w.drew (.cells (xs.toArray ++ news.toArray ++ Builtin.zeroCells z.cells (grownCap w (n + m) cap e - (n + m))) e)
        have hlen : (xs ++ news).length = (n + m) * size := by rw [List.length_append, hown.1, hl, Nat.add_mul]
        refine ⟨_, _, e, hr, ⟨hlen, .inr ⟨w.heap.size, _, _, rfl, hbase, hnew, hge, hcm2, ?_, ?_⟩⟩, ⟨rfl, rfl, rfl, by simp, fun k hk _ => heap_alloc_old w.drew _ k hk⟩, .inr fun b hb => by cases hb; exact Nat.le_refl _, ?_⟩
        · simp only [Array.size_append, List.size_toArray, size_zeroCells, hzs, hown.1, hl, ← Nat.add_mul]
          congr 1
          omega
        · simp only [Array.toList_append]
          rw [← hlen]
          exact List.take_left
        · intro b cs' e' fr hb hh u hu
          cases hb
          have hh' : (w.drew.alloc (.cells (xs.toArray ++ news.toArray ++ Builtin.zeroCells z.cells (grownCap w (n + m) cap e - (n + m))) e)).heap[w.drew.heap.size]? = _ := hh
          rw [hnew] at hh'
          cases hh'
          simp only [Array.toList_append, List.mem_append] at hu
          rcases hu with (hu | hu) | hu
          · exact hx1 u hu
          · exact h1 u hu
          · exact zc _ u hu
end

section
variable {P : Program} {T : List TI} {w0 : World} {g0 g : Gs} {l : Gl} {w : World} {st : St} {a : Act} {o : Oper} {next : Act → World → Prop} {Q : Exit → Act → World → Prop}

/-- A slice whose elements are read. -/
structure Src (g : Gs) (w : World) (k : Nat) (ys : List (List AV)) (v : Value) : Prop where
  mk ::
  out : ∃ A c news, v = .slice A ys.length c ∧ (A = none → ys.length = 0) ∧ (∀ ad, A = some ad → ∀ j u, news[j]? = some u → w.cell? (ad.add j) = some u) ∧ Rows w g.stb g.ob k ys news

theorem rep_src {k : Nat} {ys : List (List AV)} {v : Value} (h : Rep w g.stb g.ob (.sl 0 k ys) v) (hk : 0 < k) : Src g w k ys v := by
  cases h with
  | sl0 A c k => exact ⟨A, c, [], rfl, fun _ => rfl, by simp, rows_nil k⟩
  | sl b o c k xs vs hb hn hm hkk hc h1 hr =>
    refine ⟨_, c, (List.range (ys.length * k)).map fun q => vs (q / k) (q % k), rfl, by simp, ?_, ?_⟩
    · intro ad had q u hq
      cases had
      simp only [List.getElem?_map, Option.map_eq_some_iff] at hq
      obtain ⟨q', hq', rfl⟩ := hq
      obtain ⟨hlt, rfl⟩ := List.getElem?_eq_some_iff.1 hq'
      simp only [List.length_range] at hlt
      simp only [List.getElem_range]
      rw [add_plain]
      have hdiv : q / k < ys.length := Nat.div_lt_of_lt_mul (by rw [Nat.mul_comm]; exact hlt)
      have := hc (q / k) (q % k) hdiv (Nat.mod_lt _ hk)
      rwa [show q / k * k + q % k = q by rw [Nat.mul_comm]; exact Nat.div_add_mod q k] at this
    · refine ⟨by simp, hkk, fun u hu => ?_, fun i x j d hi hj => ?_⟩
      · simp only [List.mem_map, List.mem_range] at hu
        obtain ⟨q, hq, rfl⟩ := hu
        exact h1 _ _ (Nat.div_lt_of_lt_mul (by rw [Nat.mul_comm]; exact hq)) (Nat.mod_lt _ hk)
      · have hil := (List.getElem?_eq_some_iff.1 hi).1
        have hjl := (List.getElem?_eq_some_iff.1 hj).1
        rw [hkk x (List.mem_of_getElem? hi)] at hjl
        have hik := row_le (k := k) hil
        refine ⟨vs i j, ?_, hr i x j d hi hj⟩
        rw [List.getElem?_map, List.getElem?_range (by omega)]
        simp only [Option.map_some]
        rw [Nat.add_comm, Nat.add_mul_mod_self_right, Nat.mod_eq_of_lt hjl, Nat.add_mul_div_right _ _ hk, Nat.div_eq_of_lt hjl, Nat.zero_add]
theorem OwnT.rows {base t : Nat} (h : OwnT base g l w t) : ∃ e fl, w.ownsRow base e (l.xk t) (l.xv t) (l.xc t).length fl ∧ Rows w g.stb g.ob (l.xk t) (l.xc t) fl ∧ 0 < l.xk t := by
  obtain ⟨e, fl, hown, hk, hxs, h1, hr⟩ := h
  exact ⟨e, fl, hown, ⟨hown.1, hxs, h1, hr⟩, hk.1⟩
theorem OwnT.all {base t : Nat} (h : OwnT base g l w t) : AllOne w (l.xv t) := by
  obtain ⟨e, fl, hown, hk, hxs, h1, hr⟩ := h
  exact hk.2
theorem own_src {base t : Nat} (h : OwnT base g l w t) : Src g w (l.xk t) (l.xc t) (l.xv t) := by
  obtain ⟨e, fl, hown, hR, hk⟩ := h.rows
  rcases hown.2 with ⟨h1, h2⟩ | ⟨b, cap, cur, hv, hbb, hh, rest⟩
  · refine ⟨none, 0, fl, by rw [h1, h2], fun _ => h2, by simp, hR⟩
  · refine ⟨some ⟨b, 0, none⟩, cap, fl, hv, by simp, ?_, hR⟩
    intro ad had
    cases had
    exact hown.cells (by rw [hv]; rfl)

/-- A row of the frame's own is appended to; the old slice is forgotten. -/
theorem append_core (hT : TabOk P T) {e : Nat} (h0 : madeT T e = true) (hI : Inv w0 g0 g l w st a) {t ty : Nat} (hk : (ti T t).k = .slice e) {v y : Value} {xs ys : List (List AV)} {st' : St}
    (hv : (v = .slice none 0 0 ∧ xs = [] ∧ st' = st) ∨ ∃ t ∈ st.tags, v = l.xv t ∧ xs = l.xc t ∧ (ti T e).size = l.xk t ∧ st' = st.mapS (killF t)) (hy : Src g w (ti T e).size ys y)
    (hroom : room xs ys (ti T e).bytes = true) (d : Option Nat) :
    ∃ v' w' l', (Builtin.append_ #[t, t] ty #[v, y]).run P w = .ok v' w' ∧ Inv w0 g0 g l' w' (st'.put d (.sl st'.fresh (ti T e).size (xs ++ ys))) (a.put d v') := by
  obtain ⟨q1, q2, q3, q4⟩ := madeT_out h0
  obtain ⟨i, z, hi, hz, hsz, hby, hzl, _, _, _, hz1, _⟩ := zeros_rep (P := P) hT q1 q2
  obtain ⟨A, c, news, rfl, hA, hcells, hRy⟩ := hy.out
  have hroom : (xs.length + ys.length) * (ti T e).bytes ≤ 140737488355328 := Nat.le_of_ble_eq_true hroom
  have hle : xs.length + ys.length ≤ (xs.length + ys.length) * (ti T e).bytes := Nat.le_mul_of_pos_right _ q4
  have hx : ∃ e0 fl, w.ownsRow w0.heap.size e0 (ti T e).size v xs.length fl ∧ Rows w g.stb g.ob (ti T e).size xs fl ∧ AllOne w v := by
    rcases hv with ⟨rfl, rfl, _⟩ | ⟨t, hin, rfl, rfl, hkk, _⟩
    · exact ⟨e, [], World.ownsRow_nil _ _ _ _, rows_nil _, fun b _ _ _ hb => by cases hb⟩
    · obtain ⟨e0, fl, hown, hR, _⟩ := (hI.own t hin).rows
      rw [hkk]
      exact ⟨e0, fl, hown, hR, (hI.own t hin).all⟩
  obtain ⟨e0, fl, hown, hRx, hall⟩ := hx
  obtain ⟨v', w', e1, hrun, hown', hgrow, hnew, hall'⟩ := run_append_row (P := P) w w0.heap.size t ty e e0 i z (ti T e).size (ti T e).bytes (hT.u_slice hk) hi hz hsz hby (by simpa using hzl) q3 hz1 v xs.length fl hown hall A ys.length c news hA hRy.len hcells hRy.one hRx.one
    (by simp only [maxLen]; omega) hroom hI.ext.size
  have hstab : ∀ b, g.stb b → w'.heap[b]? = w.heap[b]? := by
    intro b hb
    refine hgrow.block b (hI.stbLt b hb).1 fun e => ?_
    rcases hv with ⟨rfl, _⟩ | ⟨t, hin, rfl, _⟩
    · cases e
    · exact (hI.ownPriv t hin b e.symm).1 hb
  have hI' : Inv w0 g0 g l w' st' a ∧ st'.mem.length = st.mem.length ∧ (∀ u ∈ st'.tags, u ∈ st.tags ∧ ∀ t ∈ st.tags, v = l.xv t → v ≠ .slice none 0 0 → u ≠ t ∨ v.ownBlock = none) ∧ (∀ u ∈ st'.tags, ∀ b, v.ownBlock = some b → (l.xv u).ownBlock ≠ some b) := by
    rcases hv with ⟨rfl, rfl, rfl⟩ | ⟨t, hin, rfl, rfl, hkk, rfl⟩
    · exact ⟨hI.grow hgrow.os hgrow.tape hgrow.output hgrow.size (fun b hb => hgrow.block b hb (by simp [Value.ownBlock])), rfl, fun u hu => ⟨hu, fun _ _ _ h => absurd rfl h⟩, fun u hu b hb => by cases hb⟩
    · have htg := tags_mapS (killF_tags t) st
      refine ⟨hI.killed hin hgrow, mapS_memlen _ _, fun u hu => ⟨(htg u hu).1, fun t' ht' he _ => ?_⟩, fun u hu b hb he => ?_⟩
      · by_cases hne : u = t'
        · subst hne
          cases hb : (l.xv t).ownBlock with
          | none => exact .inr rfl
          | some b => exact absurd (hI.ownInj u ht' t hin b (by rw [← he]; exact hb) hb) (htg u hu).2
        · exact .inl hne
      · exact (htg u hu).2 (hI.ownInj u (htg u hu).1 t hin b he hb)
  obtain ⟨hI', hml, _, hdis⟩ := hI'
  have htsub : ∀ u ∈ st'.tags, u ∈ st.tags := by
    rcases hv with ⟨_, _, rfl⟩ | ⟨t, _, _, _, _, rfl⟩
    · exact fun u h => h
    · exact fun u h => (tags_mapS (killF_tags t) st u h).1
  refine ⟨v', w', l.own st'.fresh v' (ti T e).size (xs ++ ys), hrun, hI'.newTag (by have := fresh_pos st'; omega) (by have := fresh_not st' 0; simpa using this) ⟨e1, fl ++ news, ?_, ?_, ?_, (hRx.append hRy).one, ?_⟩ ?_ d⟩
  · simpa [Gl.own] using hown'
  · simp only [Gl.own, if_true]; exact ⟨q3, hall'⟩
  · simp only [Gl.own, if_true]
    exact (hRx.append hRy).row
  · simp only [Gl.own, if_true]
    exact ((hRx.append hRy).mono hstab (fun _ h => h) (fun _ _ h => h)).rep
  · intro b hb
    have hblk : (∃ t ∈ st.tags, (l.xv t).ownBlock = some b ∧ v.ownBlock = some b) ∨ w.heap.size ≤ b := by
      rcases hnew with h | h
      · rw [h] at hb
        rcases hv with ⟨rfl, _⟩ | ⟨t, hin, rfl, _⟩
        · cases hb
        · exact .inl ⟨t, hin, hb, hb⟩
      · exact .inr (h b hb)
    rcases hblk with ⟨t, hin, hb1, hb2⟩ | hge
    · obtain ⟨p1, p2, p3⟩ := hI.ownPriv t hin b hb1
      exact ⟨p1, fun j hj => p3 j (by omega), fun u hu => hdis u hu b hb2, p2⟩
    · refine ⟨fun hs => ?_, fun j hj he => ?_, fun u hu he => ?_, fun hf => by have := hI.heap.foot_lt hf; omega⟩
      · have := (hI.stbLt b hs).1; omega
      · obtain ⟨mb, hm⟩ : ∃ mb, st.mem[j]? = some mb := ⟨_, List.getElem?_eq_getElem (by omega)⟩
        cases hmine : mb.mine with
        | true => have := (hI.priv j mb hm hmine).2.1; omega
        | false =>
          cases mb with
          | frz cs =>
            have hb := (hI.mem j _ hm).1
            have := (hI.stbLt _ hb).1
            omega
          | dead => exact (hI.mem j _ hm).elim
          | cells cs => simp [MB.mine] at hmine
          | siter s p => simp [MB.mine] at hmine
          | miter _ _ _ _ _ _ => simp [MB.mine] at hmine
      · obtain ⟨e, fl, hown, _⟩ := hI.own u (htsub u hu)
        have := (hown.lt _ he).2
        omega

theorem hs_src (hI : Inv w0 g0 g l w st a) {j o n c k : Nat} {v : Value} (h : Rep w g.stb g.ob (.hs j o n c k) v) {xs : List (List AV)} (hj : st.H.get j = .rows k xs) (hle : o + n ≤ xs.length) : Src g w k ((xs.drop o).take n) v := by
  cases h with
  | hs _ b _ _ _ _ q ho hn hm hq =>
    obtain ⟨_, vs, e, hh, hl, hk, hmx, hxl, h1, hrep⟩ := hI.heap.rows ho hj
    have hlen : ((xs.drop o).take n).length = n := by simp; omega
    have hmul : (o + n) * k ≤ xs.length * k := Nat.mul_le_mul_right k hle
    rw [Nat.add_mul] at hmul
    refine ⟨some ⟨b, q, none⟩, c, (vs.drop (o * k)).take (n * k), by rw [hlen], by simp, ?_, ?_⟩
    · intro ad had i u hu
      cases had
      rw [List.getElem?_take] at hu
      split at hu
      · rename_i hi
        rw [List.getElem?_drop] at hu
        have hq : q = o * k := by
          rcases hq with hq | hq
          · have : n = 0 := by omega
            subst this
            simp at hi
          · exact hq
        rw [add_plain, hq]
        exact cell_of_list hh hu
      · cases hu
    · refine ⟨?_, fun x hx => hxl x (List.mem_of_mem_drop (List.mem_of_mem_take hx)), fun u hu => h1 u (List.mem_of_mem_drop (List.mem_of_mem_take hu)), fun i x p d hi hp => ?_⟩
      · rw [List.length_take, List.length_drop, hlen, hl]; omega
      · have hin : i < n := by have := (List.getElem?_eq_some_iff.1 hi).1; omega
        rw [List.getElem?_take, if_pos hin, List.getElem?_drop] at hi
        obtain ⟨v, hv, hr⟩ := hrep (o + i) x p d hi hp
        have hpk : p < k := by rw [← hxl x (List.mem_of_getElem? hi)]; exact (List.getElem?_eq_some_iff.1 hp).1
        refine ⟨v, ?_, hr⟩
        have : i * k + k ≤ n * k := row_le hin
        rw [List.getElem?_take, if_pos (by omega), List.getElem?_drop]
        rw [← hv, Nat.add_mul]
        congr 1
        omega
/-- The rows of an operand. -/
theorem row_src (hI : Inv w0 g0 g l w st a) {k : Nat} (hk : 0 < k) {y : Operand} {K : List (List AV) → Prop} (h : rowOf k st.H (ρ st.tm y) K) : ∃ ys, K ys ∧ Src g w k ys (a.eval y) := by
  obtain ⟨hy, hyt⟩ := hI.operand (a := a) y
  unfold rowOf at h
  cases hv : ρ st.tm y <;> rw [hv] at h hy hyt <;> try exact h.elim
  case nilsl => 
    simp only [TRep] at hy
    exact ⟨[], h, ⟨⟨none, 0, [], hy, fun _ => rfl, by simp, rows_nil _⟩⟩⟩
  case sl tg k' ys =>
    simp only at h
    obtain ⟨h1, hK⟩ := G_out h
    have e1 := Nat.eq_of_beq_eq_true h1
    subst e1
    refine ⟨ys, hK, ?_⟩
    cases tg with
    | zero => simp only [TRep] at hy; exact rep_src hy hk
    | succ tg =>
      simp only [TRep] at hy
      obtain ⟨r1, r2, r3⟩ := hy
      rw [r1, r2, r3]
      exact own_src (hI.own (tg + 1) (hyt _ (by simp [tagsOf, Nat.beq])))
  case hs j o n c k' =>
    simp only at h
    obtain ⟨h1, hA⟩ := G_out h
    obtain ⟨h2, hB⟩ := G_out hA
    obtain ⟨h3, hC⟩ := G_out hB
    have e1 := Nat.eq_of_beq_eq_true h1
    subst e1
    obtain ⟨xs, hx⟩ := isRows_eq h2
    clear h hA hB
    rw [hx] at hC h3
    simp only [HB.xs] at hC h3
    simp only [TRep] at hy
    exact ⟨_, hC, hs_src hI hy hx (Nat.le_of_ble_eq_true h3)⟩

theorem two_same {c : Go.Call} (hg : twoSame c = true) : ∃ x y t, c.args = #[x, y] ∧ c.argTypes = #[t, t] := by
  unfold twoSame at hg
  split at hg
  · rename_i x y t u h1 h2
    have e1 := Nat.eq_of_beq_eq_true hg
    subst e1
    exact ⟨x, y, t, by rw [← Array.toArray_toList (xs := c.args), h1], by rw [← Array.toArray_toList (xs := c.argTypes), h2]⟩
  · simp at hg
theorem append_sound (hT : TabOk P T) (hI : Inv w0 g0 g l w st a) {c : Go.Call} {K : St → Prop} {e : Nat} {v : Value} {st' : St} {xs : List (List AV)} (ho : o.op = .call c) (hc : c.callee = .builtin .append) (hk : (ti T (c.argTypes.getD 0 0)).k = .slice e) (h0 : madeT T e = true) (hg : twoSame c = true)
    (hxv : a.eval (c.args.getD 0 (.const (.bool false))) = v) (hv : (v = .slice none 0 0 ∧ xs = [] ∧ st' = st) ∨ ∃ t ∈ st.tags, v = l.xv t ∧ xs = l.xc t ∧ (ti T e).size = l.xk t ∧ st' = st.mapS (killF t))
    (h : rowOf (ti T e).size st.H (ρ st.tm (c.args.getD 1 (.const (.bool false)))) fun ys => G (room xs ys (ti T e).bytes) (K (st'.put o.dst (.sl st'.fresh (ti T e).size (xs ++ ys))))) (hn : Goes w0 g0 K next) : o.wp P a w next Q := by
  obtain ⟨x, y, t, hargs, htys⟩ := two_same hg
  rw [htys] at hk
  rw [hargs] at h hxv
  simp only [Array.getD_eq_getD_getElem?, List.getElem?_toArray, List.getElem?_cons_zero, List.getElem?_cons_succ, Option.getD_some] at h hk hxv
  obtain ⟨q1, q2, q3, q4⟩ := madeT_out h0
  obtain ⟨ys, h, hsrc⟩ := row_src hI q3 h
  obtain ⟨hr, h⟩ := G_out h
  obtain ⟨v', w', l', hrun, hI'⟩ := append_core (ty := o.type) hT h0 hI hk hv hsrc hr o.dst
  refine wp_value (w' := w') (v := v') ?_ (hn _ _ _ _ _ hI' h)
  unfold execOp
  rw [ho]
  simp only [resolve, hc, hargs, htys, Sem.run_bind, Sem.run_pure, Result.andThen_ok, invoke, builtin, List.map_toArray, List.map_cons, List.map_nil, hxv, hrun]
end
end Go.Proofs.Ytbkkhhmjmbbfpaa.Ab
