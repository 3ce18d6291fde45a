/- Disk: how a disk lies in the heap. -/
import Derived.Test.YtbkkhhmjmbbfpaaDkL
namespace Go.Proofs.Ytbkkhhmjmbbfpaa.Ab
open Go
set_option maxHeartbeats 2000000

/-! Order of names. -/
theorem ltS_eq (s t : ByteArray) : ltS s t = decide (bs s < bs t) := by
  have h := cond_ltS (s := s) (t := t) (p := True) (q := False)
  cases e : ltS s t <;> rw [e] at h <;> simp only [cond_true, cond_false] at h
  · by_cases q : s.data.toList < t.data.toList
    · rw [if_pos q] at h; exact absurd trivial (h ▸ not_false)
    · exact (decide_eq_false q).symm
  · by_cases q : s.data.toList < t.data.toList
    · exact (decide_eq_true q).symm
    · rw [if_neg q] at h; exact absurd trivial (h ▸ not_false)
theorem lt_irr (s : ByteArray) : ltS s s = false := by rw [ltS_eq]; simp [List.lt_irrefl]
theorem lt_tr {s t u : ByteArray} (h : ltS s t = true) (k : ltS t u = true) : ltS s u = true := by
  rw [ltS_eq, decide_eq_true_eq] at *
  exact List.lt_trans h k
theorem lt_asymm {s t : ByteArray} (h : ltS s t = true) : ltS t s = false := by
  cases k : ltS t s with
  | false => rfl
  | true => have := lt_tr h k; rw [lt_irr] at this; cases this
theorem lt_tri {s t : ByteArray} (h : ltS s t = false) (k : ltS t s = false) : s = t := by
  rw [ltS_eq, decide_eq_false_iff_not] at *
  exact bs_inj (List.le_antisymm (List.not_lt.1 k) (List.not_lt.1 h))
theorem lt_ne {s t : ByteArray} (h : ltS s t = true) : s ≠ t := fun e => by rw [e, lt_irr] at h; cases h
theorem lt_of {s t : ByteArray} (h : s ≠ t) (k : ltS t s = false) : ltS s t = true := by
  cases e : ltS s t with
  | true => rfl
  | false => exact absurd (lt_tri e k) h
def Srt (d : Dk) : Prop := d.Pairwise fun a b => ltS a.nm b.nm = true
theorem mem_without {d : Dk} {n : ByteArray} {f : Df} : f ∈ dwithout d n ↔ f ∈ d ∧ f.nm ≠ n := by simp [dwithout, eqS]
theorem Srt.without {d : Dk} (h : Srt d) (n : ByteArray) : Srt (dwithout d n) := h.sublist List.filter_sublist
theorem Srt.put {d : Dk} (h : Srt d) (f : Df) : Srt (dput d f) := by
  refine List.pairwise_append.2 ⟨(h.without _).sublist List.filter_sublist, List.pairwise_cons.2 ⟨fun g hg => (List.mem_filter.1 hg).2, (h.without _).sublist List.filter_sublist⟩, fun a ha b hb => ?_⟩
  have h1 := (List.mem_filter.1 ha).2
  rcases List.mem_cons.1 hb with rfl | hb
  · exact h1
  · exact lt_tr h1 (List.mem_filter.1 hb).2
theorem put_perm (d : Dk) (f : Df) : (dput d f).Perm (f :: dwithout d f.nm) := by
  refine List.perm_middle.trans (List.Perm.cons f ?_)
  have : (dwithout d f.nm).filter (fun g => ltS f.nm g.nm) = (dwithout d f.nm).filter (fun g => !(ltS g.nm f.nm)) := by
    refine List.filter_congr fun g hg => ?_
    have hn := (mem_without.1 hg).2
    cases e : ltS g.nm f.nm
    · exact lt_of (fun q => hn q.symm) e
    · exact lt_asymm e
  rw [this]
  exact List.filter_append_perm _ _
theorem mem_put {d : Dk} {f g : Df} : g ∈ dput d f ↔ g = f ∨ g ∈ dwithout d f.nm := by rw [(put_perm d f).mem_iff, List.mem_cons]
theorem Srt.nodup {d : Dk} (h : Srt d) : (d.map Df.nm).Nodup := by
  rw [List.Nodup, List.pairwise_map]
  exact h.imp fun k => lt_ne k
theorem srt_uniq : ∀ {d e : Dk}, Srt d → Srt e → d.Perm e → d = e := fun hd he hp =>
  hp.eq_of_pairwise (fun a b _ _ h1 h2 => by have := lt_asymm h1; rw [h2] at this; cases this) hd he
theorem get_of {d : Dk} (hs : (d.map Df.nm).Nodup) {f : Df} (hf : f ∈ d) : dget d f.nm = some f := by
  induction d with
  | nil => cases hf
  | cons g d ih =>
    simp only [List.map_cons, List.nodup_cons] at hs
    simp only [dget, List.find?_cons]
    rcases List.mem_cons.1 hf with rfl | hf
    · rw [eqS_t rfl]
    · have : ¬ g.nm = f.nm := fun e => hs.1 (e ▸ List.mem_map_of_mem hf)
      rw [eqS_f this]
      exact ih hs.2 hf
theorem get_none {d : Dk} {n : ByteArray} (h : ∀ f ∈ d, f.nm ≠ n) : dget d n = none := by
  rw [dget, List.find?_eq_none]
  intro f hf
  simp [eqS_f (h f hf)]

/-! How it lies. -/
structure En where
  b : Nat
  f : Df
  j : Nat
  bf : Option (Nat × Nat)
def ent (e : En) : Nat × AV × AV := (e.b, .str e.f.nm, .obj e.j 0)
def blks (e : En) : List Nat := e.j :: (match e.bf with | none => [] | some p => [p.1])
def FileAt (H : Heap) (e : En) : Prop :=
  match e.bf with
  | none => e.f.dat.size = 0 ∧ H.get e.j = .cells [.nilsl, .int .i64 (e.f.sf : Int)]
  | some (u, c) => H.get e.j = .cells [.hs u 0 e.f.dat.size c 1, .int .i64 (e.f.sf : Int)] ∧ e.f.dat.size ≤ c ∧ ∃ xs, H.get u = .rows 1 xs ∧ xs.take e.f.dat.size = bytesAV e.f.dat ∧ c ≤ xs.length
structure Lay (H : Heap) (j m c : Nat) (L : List En) : Prop where
  disk : H.get j = .cells [.map m]
  map : H.get m = .map (L.map ent) c
  file : ∀ e ∈ L, FileAt H e
  born : ∀ e ∈ L, e.b < c
  bnd : (L.map En.b).Nodup
  nnd : (L.map fun e => e.f.nm).Nodup
  blk : (j :: m :: L.flatMap blks).Nodup
  low : ∀ k ∈ j :: m :: L.flatMap blks, k < H.next
def DiskAt (H : Heap) (j : Nat) (d : Dk) : Prop := ∃ m c L, Lay H j m c L ∧ (L.map En.f).Perm d ∧ Srt d ∧ ∀ f ∈ d, f.dat.size ≤ 65536 ∧ f.sf ≤ f.dat.size
theorem FileAt.frame {H H' : Heap} {e : En} (h : FileAt H e) (hk : ∀ k ∈ blks e, H'.get k = H.get k) : FileAt H' e := by
  obtain ⟨b, f, j, bf⟩ := e
  cases bf with
  | none => exact ⟨h.1, by rw [hk j (by simp [blks])]; exact h.2⟩
  | some p => exact ⟨by rw [hk j (by simp [blks])]; exact h.1, h.2.1, by rw [hk p.1 (by simp [blks])]; exact h.2.2⟩
theorem Lay.past {H : Heap} {j m c : Nat} {L : List En} (h : Lay H j m c L) (H' : Heap) : Lay (H.past H') j m c L := ⟨h.disk, h.map, fun e he => (h.file e he).frame fun _ _ => rfl, h.born, h.bnd, h.nnd, h.blk, fun k hk => Nat.lt_of_lt_of_le (h.low k hk) (Nat.le_max_left _ _)⟩
/-- Blocks that are not the disk's. -/
theorem Lay.frame {H H' : Heap} {j m c : Nat} {L : List En} (h : Lay H j m c L) (hn : H.next ≤ H'.next) (hk : ∀ k ∈ j :: m :: L.flatMap blks, H'.get k = H.get k) : Lay H' j m c L :=
  ⟨by rw [hk j (by simp)]; exact h.disk, by rw [hk m (by simp)]; exact h.map, fun e he => (h.file e he).frame fun k q => hk k (by simp only [List.mem_cons, List.mem_flatMap]; exact .inr (.inr ⟨e, he, q⟩)), h.born, h.bnd, h.nnd, h.blk, fun k q => Nat.lt_of_lt_of_le (h.low k q) hn⟩
theorem nodup_mid {α : Type} {a b x y : List α} (h : (a ++ (x ++ b)).Nodup) (hy : y.Nodup) (hn : ∀ k ∈ y, k ∉ a ∧ k ∉ b) : (a ++ (y ++ b)).Nodup := by
  rw [List.nodup_append] at h ⊢
  obtain ⟨h1, h2, h3⟩ := h
  rw [List.nodup_append] at h2 ⊢
  obtain ⟨h4, h5, h6⟩ := h2
  refine ⟨h1, ⟨hy, h5, fun p hp q hq e => (hn p hp).2 (e ▸ hq)⟩, fun p hp q hq e => ?_⟩
  rcases List.mem_append.1 hq with hq | hq
  · exact (hn q hq).1 (e ▸ hp)
  · exact h3 p hp q (List.mem_append_right _ hq) e
/-- A file in the place of one with the same name. -/
theorem Lay.rep {H H' : Heap} {j m c : Nat} {A B : List En} {e e' : En} (h : Lay H j m c (A ++ e :: B)) (hn : H.next ≤ H'.next) (hb : e'.b = e.b) (hnm : e'.f.nm = e.f.nm) (hf : FileAt H' e')
    (hm : H'.get m = .map ((A ++ e' :: B).map ent) c) (hk : ∀ k ∈ j :: (A ++ B).flatMap blks, H'.get k = H.get k) (hnd : (blks e').Nodup) (hlow : ∀ k ∈ blks e', k < H'.next) (hfr : ∀ k ∈ blks e', k ∉ j :: m :: (A ++ B).flatMap blks) : Lay H' j m c (A ++ e' :: B) where
  disk := by rw [hk j (by simp)]; exact h.disk
  map := hm
  file x hx := by
    have hx' : x = e' ∨ x ∈ A ++ B := by simp only [List.mem_append, List.mem_cons] at hx ⊢; rcases hx with q | q | q <;> simp [q]
    rcases hx' with rfl | hx'
    · exact hf
    · refine (h.file x (by simp only [List.mem_append, List.mem_cons] at hx' ⊢; rcases hx' with q | q <;> simp [q])).frame fun k q => hk k ?_
      simp only [List.mem_cons, List.mem_flatMap]
      exact .inr ⟨x, hx', q⟩
  born x hx := by
    have hx' : x = e' ∨ x ∈ A ++ B := by simp only [List.mem_append, List.mem_cons] at hx ⊢; rcases hx with q | q | q <;> simp [q]
    rcases hx' with rfl | hx'
    · rw [hb]; exact h.born e (by simp)
    · exact h.born x (by simp only [List.mem_append, List.mem_cons] at hx' ⊢; rcases hx' with q | q <;> simp [q])
  bnd := by have := h.bnd; simp only [List.map_append, List.map_cons, hb] at this ⊢; exact this
  nnd := by have := h.nnd; simp only [List.map_append, List.map_cons, hnm] at this ⊢; exact this
  blk := by
    have h0 : (j :: m :: A.flatMap blks ++ (blks e ++ B.flatMap blks)).Nodup := by simpa [List.flatMap_append, List.flatMap_cons] using h.blk
    have := nodup_mid (y := blks e') h0 hnd fun k q => by
      have := hfr k q
      simp only [List.flatMap_append, List.mem_cons, List.mem_append, not_or] at this
      obtain ⟨q1, q2, q3, q4⟩ := this
      exact ⟨by simp only [List.cons_append, List.mem_cons, not_or]; exact ⟨q1, q2, q3⟩, q4⟩
    simpa [List.flatMap_append, List.flatMap_cons] using this
  low k q := by
    simp only [List.flatMap_append, List.flatMap_cons, List.mem_cons, List.mem_append] at q
    have hl := h.low k
    simp only [List.flatMap_append, List.flatMap_cons, List.mem_cons, List.mem_append] at hl
    rcases q with q | q | q | q | q
    · exact Nat.lt_of_lt_of_le (hl (.inl q)) hn
    · exact Nat.lt_of_lt_of_le (hl (.inr (.inl q))) hn
    · exact Nat.lt_of_lt_of_le (hl (.inr (.inr (.inl q)))) hn
    · exact hlow k q
    · exact Nat.lt_of_lt_of_le (hl (.inr (.inr (.inr (.inr q))))) hn
theorem nodup_append' {α : Type} {a b : List α} (ha : a.Nodup) (hb : b.Nodup) (h : ∀ x ∈ b, x ∉ a) : (a ++ b).Nodup := List.nodup_append.2 ⟨ha, hb, fun _ hx _ hy e => h _ hy (e ▸ hx)⟩
/-- A file more. -/
theorem Lay.ins {H H' : Heap} {j m c : Nat} {L : List En} {e : En} (h : Lay H j m c L) (hn : H.next ≤ H'.next) (hb : e.b = c) (hnm : ∀ x ∈ L, x.f.nm ≠ e.f.nm) (hf : FileAt H' e)
    (hm : H'.get m = .map ((L ++ [e]).map ent) (c + 1)) (hk : ∀ k ∈ j :: L.flatMap blks, H'.get k = H.get k) (hnd : (blks e).Nodup) (hlow : ∀ k ∈ blks e, k < H'.next) (hfr : ∀ k ∈ blks e, k ∉ j :: m :: L.flatMap blks) : Lay H' j m (c + 1) (L ++ [e]) where
  disk := by rw [hk j (by simp)]; exact h.disk
  map := hm
  file x hx := by
    rcases List.mem_append.1 hx with hx | hx
    · exact (h.file x hx).frame fun k q => hk k (by simp only [List.mem_cons, List.mem_flatMap]; exact .inr ⟨x, hx, q⟩)
    · rw [List.mem_singleton.1 hx]; exact hf
  born x hx := by
    rcases List.mem_append.1 hx with hx | hx
    · have := h.born x hx; omega
    · rw [List.mem_singleton.1 hx]; omega
  bnd := by
    rw [List.map_append]
    refine nodup_append' h.bnd (by simp) fun x hx q => ?_
    simp only [List.map_cons, List.map_nil, List.mem_singleton] at hx
    obtain ⟨y, hy, e1⟩ := List.mem_map.1 q
    have := h.born y hy
    omega
  nnd := by
    rw [List.map_append]
    refine nodup_append' h.nnd (by simp) fun x hx q => ?_
    simp only [List.map_cons, List.map_nil, List.mem_singleton] at hx
    obtain ⟨y, hy, e1⟩ := List.mem_map.1 q
    exact hnm y hy (e1.trans hx)
  blk := by
    have := nodup_append' h.blk hnd hfr
    simpa [List.flatMap_append] using this
  low k q := by
    have hl := h.low k
    simp only [List.flatMap_append, List.flatMap_cons, List.flatMap_nil, List.append_nil, List.mem_cons, List.mem_append] at q hl
    rcases q with q | q | q | q
    · exact Nat.lt_of_lt_of_le (hl (.inl q)) hn
    · exact Nat.lt_of_lt_of_le (hl (.inr (.inl q))) hn
    · exact Nat.lt_of_lt_of_le (hl (.inr (.inr q))) hn
    · exact hlow k q
/-- A file less. -/
theorem Lay.del {H H' : Heap} {j m c : Nat} {A B : List En} {e : En} (h : Lay H j m c (A ++ e :: B)) (hn : H.next ≤ H'.next) (hm : H'.get m = .map ((A ++ B).map ent) c) (hk : ∀ k ∈ j :: (A ++ B).flatMap blks, H'.get k = H.get k) : Lay H' j m c (A ++ B) where
  disk := by rw [hk j (by simp)]; exact h.disk
  map := hm
  file x hx := (h.file x (by simp only [List.mem_append, List.mem_cons] at hx ⊢; rcases hx with q | q <;> simp [q])).frame fun k q => hk k (by simp only [List.mem_cons, List.mem_flatMap]; exact .inr ⟨x, hx, q⟩)
  born x hx := h.born x (by simp only [List.mem_append, List.mem_cons] at hx ⊢; rcases hx with q | q <;> simp [q])
  bnd := h.bnd.sublist (List.Sublist.map _ (List.Sublist.append (List.Sublist.refl A) (List.sublist_cons_self e B)))
  nnd := h.nnd.sublist (List.Sublist.map _ (List.Sublist.append (List.Sublist.refl A) (List.sublist_cons_self e B)))
  blk := h.blk.sublist (by
    refine .cons_cons _ (.cons_cons _ ?_)
    rw [List.flatMap_append, List.flatMap_append, List.flatMap_cons]
    exact List.Sublist.append (List.Sublist.refl _) (List.sublist_append_right _ _))
  low k q := by
    have hl := h.low k
    simp only [List.flatMap_append, List.flatMap_cons, List.mem_cons, List.mem_append] at q hl
    rcases q with q | q | q | q
    · exact Nat.lt_of_lt_of_le (hl (.inl q)) hn
    · exact Nat.lt_of_lt_of_le (hl (.inr (.inl q))) hn
    · exact Nat.lt_of_lt_of_le (hl (.inr (.inr (.inl q)))) hn
    · exact Nat.lt_of_lt_of_le (hl (.inr (.inr (.inr (.inr q))))) hn

/-! The map. -/
theorem keyEq_s (a b : ByteArray) : keyEq (.str a) (.str b) = eqS a b := by simp [keyEq, cellsOf, eqCells]
theorem fits_all (L : List En) (c : Nat) : (HB.map (L.map ent) c).isMapOf [.str] false = true := by simp [HB.isMapOf, HB.isMap, HB.es, keyFits, ent, cellsFit]
theorem find_none {L : List En} {n : ByteArray} (h : ∀ e ∈ L, e.f.nm ≠ n) : mfind (.str n) (L.map ent) = none := by
  induction L with
  | nil => rfl
  | cons e L ih =>
    simp only [List.map_cons, mfind, ent, keyEq_s]
    rw [eqS_f (fun q => h e (by simp) q.symm)]
    exact ih fun x hx => h x (by simp [hx])
theorem put_none {L : List En} {n : ByteArray} {v : AV} {c : Nat} (h : ∀ e ∈ L, e.f.nm ≠ n) : mput (.str n) v c (L.map ent) = L.map ent ++ [(c, .str n, v)] := by
  induction L with
  | nil => rfl
  | cons e L ih =>
    simp only [List.map_cons, mput, ent, keyEq_s]
    rw [eqS_f (fun q => h e (by simp) q.symm)]
    simp only [cond_false, List.cons_append, List.cons.injEq, true_and]
    exact ih fun x hx => h x (by simp [hx])
theorem find_mid {A B : List En} {e : En} (h : ∀ x ∈ A, x.f.nm ≠ e.f.nm) : mfind (.str e.f.nm) ((A ++ e :: B).map ent) = some (.obj e.j 0) := by
  induction A with
  | nil => simp only [List.nil_append, List.map_cons, mfind, ent, keyEq_s, eqS_t, cond_true]
  | cons x A ih =>
    simp only [List.cons_append, List.map_cons, mfind, ent, keyEq_s]
    rw [eqS_f (fun q => h x (by simp) q.symm)]
    exact ih fun y hy => h y (by simp [hy])
theorem put_mid {A B : List En} {e : En} {v : AV} {c : Nat} (h : ∀ x ∈ A, x.f.nm ≠ e.f.nm) : mput (.str e.f.nm) v c ((A ++ e :: B).map ent) = A.map ent ++ (e.b, .str e.f.nm, v) :: B.map ent := by
  induction A with
  | nil => simp only [List.nil_append, List.map_cons, List.map_nil, mput, ent, keyEq_s, eqS_t, cond_true]
  | cons x A ih =>
    simp only [List.cons_append, List.map_cons, mput, ent, keyEq_s]
    rw [eqS_f (fun q => h x (by simp) q.symm)]
    simp only [cond_false, List.cons.injEq, true_and]
    exact ih fun y hy => h y (by simp [hy])
theorem del_mid {A B : List En} {e : En} (h : ∀ x ∈ A, x.f.nm ≠ e.f.nm) : mdel (.str e.f.nm) ((A ++ e :: B).map ent) = (A ++ B).map ent := by
  induction A with
  | nil => simp only [List.nil_append, List.map_cons, mdel, ent, keyEq_s, eqS_t, cond_true]
  | cons x A ih =>
    simp only [List.cons_append, List.map_cons, mdel, ent, keyEq_s]
    rw [eqS_f (fun q => h x (by simp) q.symm)]
    simp only [cond_false, List.cons.injEq, true_and]
    exact ih fun y hy => h y (by simp [hy])
/-- A name on the disk. -/
theorem find_case {L : List En} {d : Dk} (hn : (L.map fun e => e.f.nm).Nodup) (hp : (L.map En.f).Perm d) (n : ByteArray) :
    ((∀ e ∈ L, e.f.nm ≠ n) ∧ dget d n = none ∧ mhas (.str n) (L.map ent) = false) ∨
    (∃ A e B, L = A ++ e :: B ∧ e.f.nm = n ∧ (∀ x ∈ A ++ B, x.f.nm ≠ n) ∧ dget d n = some e.f ∧ mhas (.str n) (L.map ent) = true ∧ mget (.str n) (L.map ent) = .obj e.j 0 ∧ mdel (.str n) (L.map ent) = (A ++ B).map ent ∧ ((A ++ B).map En.f).Perm (dwithout d n)) := by
  by_cases h : ∃ e ∈ L, e.f.nm = n
  · obtain ⟨e, he, rfl⟩ := h
    obtain ⟨A, B, rfl⟩ := List.append_of_mem he
    have hx : ∀ x ∈ A ++ B, x.f.nm ≠ e.f.nm := by
      have h2 : ((fun e => e.f.nm) e :: (A ++ B).map fun e => e.f.nm).Nodup := by
        refine (List.Perm.nodup_iff ?_).1 hn
        simp only [List.map_append, List.map_cons]
        exact List.perm_middle
      intro x hx q
      exact (List.nodup_cons.1 h2).1 (List.mem_map.2 ⟨x, hx, q⟩)
    have hA : ∀ x ∈ A, x.f.nm ≠ e.f.nm := fun x q => hx x (by simp [q])
    have hd : (d.map Df.nm).Nodup := by
      refine (List.Perm.nodup_iff (hp.map Df.nm)).1 ?_
      rw [List.map_map]; exact hn
    refine .inr ⟨A, e, B, rfl, rfl, hx, get_of hd ((hp.mem_iff).1 (by simp)), ?_, ?_, del_mid hA, ?_⟩
    · simp only [mhas, find_mid hA, Option.isSome_some]
    · simp only [mget, find_mid hA, Option.getD_some]
    · have h1 : (e.f :: (A ++ B).map En.f).Perm d := by
        refine List.Perm.trans ?_ hp
        simp only [List.map_append, List.map_cons]
        exact List.perm_middle.symm
      have h2 := h1.filter fun f => !(eqS f.nm e.f.nm)
      have h3 : ((e.f :: (A ++ B).map En.f).filter fun f => !(eqS f.nm e.f.nm)) = (A ++ B).map En.f := by
        rw [List.filter_cons, eqS_t rfl]
        simp only [Bool.not_true, Bool.false_eq_true, if_false]
        refine List.filter_eq_self.2 fun f hf => ?_
        obtain ⟨x, hx', rfl⟩ := List.mem_map.1 hf
        rw [eqS_f (hx x hx')]
        rfl
      rw [h3] at h2
      exact h2
  · have hx : ∀ e ∈ L, e.f.nm ≠ n := fun e he q => h ⟨e, he, q⟩
    refine .inl ⟨hx, get_none fun f hf => ?_, ?_⟩
    · obtain ⟨e, he, rfl⟩ := List.mem_map.1 ((hp.mem_iff).2 hf)
      exact hx e he
    · simp only [mhas, find_none hx, Option.isSome_none]
end Go.Proofs.Ytbkkhhmjmbbfpaa.Ab
