/- Disk: the functions over its object. -/
import Derived.Test.YtbkkhhmjmbbfpaaDkG
import Derived.Test.YtbkkhhmjmbbfpaaAbHeap
namespace Go.Proofs.Ytbkkhhmjmbbfpaa.Ab
open Go
set_option maxHeartbeats 2000000
set_option linter.unusedVariables false

inductive Sg where
  | non
  | on (j : Nat) (d : Dk)
def Sg.empty : Sg := .non
def HR : Sg → Heap → Prop
  | .non, _ => True
  | .on j d, H => DiskAt H j d
theorem HR.empty (H : Heap) : HR Sg.empty H := trivial
theorem HR.past {s : Sg} {H H' : Heap} (h : HR s H) : HR s (H.past H') := by
  cases s with
  | non => trivial
  | on j d =>
    obtain ⟨m, c, L, hL, h1, h2, h3⟩ := h
    exact ⟨m, c, L, hL.past H', h1, h2, h3⟩
open Classical in
/-- Whatever handle is fresh. -/
noncomputable def anyJ {β : Type} (f : Nat → Option β) : Option β := if h : ∃ r, ∀ j, f j = some r then some (Classical.choose h) else none
theorem anyJ_some {β : Type} {f : Nat → Option β} {r : β} (h : anyJ f = some r) (j : Nat) : f j = some r := by
  unfold anyJ at h
  split at h
  · rename_i hx
    cases h
    exact Classical.choose_spec hx j
  · cases h
theorem anyJ_eq {β : Type} {f : Nat → Option β} {r : β} (h : ∀ j, f j = some r) : anyJ f = some r := by
  have hx : ∃ r, ∀ j, f j = some r := ⟨r, h⟩
  unfold anyJ
  rw [dif_pos hx, ← h 0, Classical.choose_spec hx 0]
theorem HS : (∀ cs, (HB.cells cs).isCells = true) ∧ (∀ cs, (HB.cells cs).cs = cs) ∧ (∀ es c, (HB.map es c).isMap = true) ∧ (∀ es c, (HB.map es c).es = es) ∧ (∀ es c, (HB.map es c).clock = c) ∧ (∀ k xs, (HB.rows k xs).xs = xs) ∧ (∀ xs, (HB.rows 1 xs).isRows 1 = true) ∧
    (∀ j, (AV.map j).isMap = true) ∧ (∀ j, (AV.map j).mapJ = j) ∧ (∀ j, (AV.obj j 0).isObj = true) ∧ (∀ j, (AV.obj j 0).objJ = j) ∧ (∀ j o n c, (AV.hs j o n c 1).isHs 1 = true) ∧ (∀ j o n c k, (AV.hs j o n c k).hsJ = j) ∧ (∀ j o n c k, (AV.hs j o n c k).hsO = o) ∧ (∀ j o n c k, (AV.hs j o n c k).hsN = n) ∧ (∀ j o n c k, (AV.hs j o n c k).hsC = c) ∧
    (AV.nilsl.isHs 1 = false) ∧ (AV.nilsl.isNilsl = true) ∧ (∀ p q : Prop, cond true p q = p) ∧ (∀ p q : Prop, cond false p q = q) ∧ (∀ p, G true p = p) ∧ (∀ x r, ce (x :: r) 0 = x) ∧ (∀ x r n, ce (x :: r) (n + 1) = ce r n) ∧ (∀ k x, (AV.int k x).toInt = x) ∧ (∀ x, (AV.int .i64 x).isInt .i64 = true) ∧ (∀ b, (AV.bool b).isBool = true) ∧ (∀ b, (AV.bool b).toBool = b) :=
  ⟨fun _ => rfl, fun _ => rfl, fun _ _ => rfl, fun _ _ => rfl, fun _ _ => rfl, fun _ _ => rfl, fun _ => rfl, fun _ => rfl, fun _ => rfl, fun _ => rfl, fun _ => rfl, fun _ _ _ _ => rfl, fun _ _ _ _ _ => rfl, fun _ _ _ _ _ => rfl, fun _ _ _ _ _ => rfl, fun _ _ _ _ _ => rfl,
    rfl, rfl, fun _ _ => rfl, fun _ _ => rfl, fun _ => rfl, fun _ _ => rfl, fun _ _ _ => rfl, fun _ _ => rfl, fun _ => rfl, fun _ => rfl, fun _ => rfl⟩
/-- What is known of a file's blocks. -/
theorem Lay.facts {H : Heap} {j m c : Nat} {A B : List En} {e : En} (h : Lay H j m c (A ++ e :: B)) : j ≠ m ∧ (blks e).Nodup ∧ (∀ k ∈ blks e, k < H.next ∧ k ∉ j :: m :: (A ++ B).flatMap blks) := by
  have hb := h.blk
  have hp : (j :: m :: (A ++ e :: B).flatMap blks).Perm (blks e ++ (j :: m :: (A ++ B).flatMap blks)) := by
    have h1 : ((A ++ e :: B).flatMap blks).Perm (blks e ++ (A ++ B).flatMap blks) := by
      simp only [List.flatMap_append, List.flatMap_cons]
      rw [← List.append_assoc, ← List.append_assoc]
      exact List.perm_append_comm.append_right _
    refine ((h1.cons m).cons j).trans ?_
    exact (List.perm_append_comm (l₁ := [j, m]) (l₂ := blks e)).append_right ((A ++ B).flatMap blks) |> fun q => by simpa using q
  have h2 := (List.Perm.nodup_iff hp).1 hb
  rw [List.nodup_append] at h2
  obtain ⟨q1, q2, q3⟩ := h2
  refine ⟨fun q => ?_, q1, fun k hk => ⟨h.low k ?_, fun q => q3 k hk k q rfl⟩⟩
  · have := (List.nodup_cons.1 hb).1
    exact this (by simp [q])
  · exact (hp.mem_iff).2 (List.mem_append_left _ hk)
theorem DiskAt.put {H : Heap} {j m c : Nat} {L : List En} {d : Dk} {f : Df} {R : List Df} (h : Lay H j m c L) (hp : (L.map En.f).Perm (f :: R)) (hr : R.Perm (dwithout d f.nm)) (hs : Srt d) (hz : ∀ f ∈ d, f.dat.size ≤ 65536 ∧ f.sf ≤ f.dat.size) (hf : f.dat.size ≤ 65536 ∧ f.sf ≤ f.dat.size) : DiskAt H j (dput d f) :=
  ⟨m, c, L, h, (hp.trans (hr.cons f)).trans (put_perm d f).symm, hs.put f, fun g hg => by
    rcases mem_put.1 hg with rfl | hg
    · exact hf
    · exact hz g (mem_without.1 hg).1⟩
theorem perm_mid {A B : List En} {e : En} : ((A ++ e :: B).map En.f).Perm (e.f :: (A ++ B).map En.f) := by
  simp only [List.map_append, List.map_cons]
  exact List.perm_middle

section
variable {β : Type} {r : β} {j : Nat} {n to : ByteArray} {xs : List (List AV)} {s : Sg} {H : Heap} {k : AV → Sg → Option β} {K : Qt}
/-! disk.New -/
noncomputable def NewD.B (_ : List AV) (_ : Sg) (k : AV → Sg → Option β) : Option β := anyJ fun j => k (.obj j 0) (.on j [])
theorem NewD.ls (hH : HR s H) (h : ∀ w s1 H1, HR s1 H1 → k w s1 = some r → K w H1) : NewD.B [] s k = some r → C 9 [] H K := by
  intro e
  refine F9.call ?_
  unfold F9.t
  refine h _ (.on (H.push (.map [] 0)).next []) _ ?_ (anyJ_some e _)
  have hn : (H.push (.map [] 0)).next = H.next + 1 := rfl
  refine ⟨H.next, 0, [], ⟨?_, ?_, nofun, nofun, .nil, .nil, by simp [hn], ?_⟩, .nil, .nil, nofun⟩
  · exact push_get_self _ _
  · rw [push_get_ne _ _ (by omega), push_get_self]; rfl
  · intro i hi
    have : ((H.push (.map [] 0)).push (.cells [.map H.next])).next = H.next + 2 := rfl
    simp only [List.flatMap_nil, List.mem_cons, List.not_mem_nil, or_false] at hi
    rcases hi with rfl | rfl <;> omega
/-! Sync -/
noncomputable def SyncD.B (args : List AV) (s : Sg) (k : AV → Sg → Option β) : Option β :=
  match args, s with
  | [.obj j 0, .str n], .on j' d => if j = j' then k (.int .i64 (synD d n).2) (.on j (synD d n).1) else none
  | _, _ => none
theorem SyncD.ls (hH : HR s H) (h : ∀ w s1 H1, HR s1 H1 → k w s1 = some r → K w H1) : SyncD.B [.obj j 0, .str n] s k = some r → C 11 [.obj j 0, .str n] H K := by
  intro e
  cases s with
  | non => cases e
  | on j' d =>
  simp only [SyncD.B] at e
  split at e
  case isFalse => cases e
  rename_i hj
  subst hj
  obtain ⟨m, c, L, hL, hp, hs, hz⟩ := id hH
  refine F11.call ?_
  unfold F11.t
  simp only [hL.disk, hL.map, HS, fits_all]
  rcases find_case hL.nnd hp n with ⟨a, b, q⟩ | ⟨A, x, B, rfl, rfl, hx, hg, hh, hm, hd, hq⟩
  · simp only [q, HS]
    refine h _ _ _ hH ?_
    simpa only [synD, b] using e
  · simp only [synD, hg] at e
    obtain ⟨f1, f2, f3⟩ := hL.facts
    have hf := hL.file x (by simp)
    have hxz := hz x.f ((hp.mem_iff).1 (by simp))
    have hxj := f3 x.j (by simp [blks])
    simp only [List.mem_cons, not_or] at hxj
    obtain ⟨g1, g2, g3, g4⟩ := hxj
    simp only [hh, hm, HS]
    have fin : ∀ b : HB, (∀ H', H'.get x.j = b → (∀ i, i ≠ x.j → H'.get i = H.get i) → FileAt H' ⟨x.b, ⟨x.f.nm, x.f.dat, x.f.dat.size⟩, x.j, x.bf⟩) → K (.int .i64 0) (H.set x.j b) := by
      intro b hb
      refine h _ _ _ ?_ e
      have hne : ∀ i, i ≠ x.j → (H.set x.j b).get i = H.get i := fun i hi => set_get_ne _ _ hi
      have hbk : ∀ i ∈ j :: (A ++ B).flatMap blks, i ≠ x.j := by
        intro i hi q
        subst q
        rcases List.mem_cons.1 hi with q | q
        · exact g2 q
        · exact g4 q
      refine DiskAt.put (L := A ++ ⟨x.b, ⟨x.f.nm, x.f.dat, x.f.dat.size⟩, x.j, x.bf⟩ :: B) (hL.rep (H' := H.set x.j b) (Nat.le_refl _) rfl rfl ?_ ?_ ?_ f2 (fun k hk => (f3 k hk).1) fun k hk => (f3 k hk).2) perm_mid hq hs hz ⟨hxz.1, Nat.le_refl _⟩
      · exact hb _ (set_get_self _ _ _) hne
      · rw [hne m (fun q => g3 q.symm), hL.map]
        simp [ent]
      · exact fun i hi => hne i (hbk i hi)
    obtain ⟨xb, xf, xj, bf⟩ := x
    cases bf with
    | none =>
      simp only [FileAt] at hf
      simp only [hf.2, HS, List.length_cons, List.length_nil]
      refine fin _ fun H' h1 h2 => ⟨hf.1, ?_⟩
      rw [h1, hf.1]
      rfl
    | some p =>
      obtain ⟨u, cc⟩ := p
      obtain ⟨h1, h2, ys, h3, h4, h5⟩ := hf
      simp only [h1, HS, List.length_cons, List.length_nil]
      have hu : u ≠ xj := by
        intro q
        subst q
        simp [blks] at f2
      refine fin _ fun H' q1 q2 => ⟨by rw [q1]; rfl, h2, ys, by rw [q2 u hu]; exact h3, h4, h5⟩
theorem DiskAt.rest {H : Heap} {j m c : Nat} {L : List En} {d : Dk} {n : ByteArray} (h : Lay H j m c L) (hp : (L.map En.f).Perm (dwithout d n)) (hs : Srt d) (hz : ∀ f ∈ d, f.dat.size ≤ 65536 ∧ f.sf ≤ f.dat.size) : DiskAt H j (dwithout d n) :=
  ⟨m, c, L, h, hp, hs.without n, fun g hg => hz g (mem_without.1 hg).1⟩
/-! Remove -/
noncomputable def RemD.B (args : List AV) (s : Sg) (k : AV → Sg → Option β) : Option β :=
  match args, s with
  | [.obj j 0, .str n], .on j' d => if j = j' then k (.int .i64 (remD d n).2) (.on j (remD d n).1) else none
  | _, _ => none
theorem RemD.ls (hH : HR s H) (h : ∀ w s1 H1, HR s1 H1 → k w s1 = some r → K w H1) : RemD.B [.obj j 0, .str n] s k = some r → C 27 [.obj j 0, .str n] H K := by
  intro e
  cases s with
  | non => cases e
  | on j' d =>
  simp only [RemD.B] at e
  split at e
  case isFalse => cases e
  rename_i hj
  subst hj
  obtain ⟨m, c, L, hL, hp, hs, hz⟩ := id hH
  refine F27.call ?_
  unfold F27.t
  simp only [hL.disk, hL.map, HS, fits_all]
  rcases find_case hL.nnd hp n with ⟨a, b, q⟩ | ⟨A, x, B, rfl, rfl, hx, hg, hh, hm, hd, hq⟩
  · simp only [q, HS]
    refine h _ _ _ hH ?_
    simpa only [remD, b] using e
  · simp only [remD, hg] at e
    obtain ⟨f1, f2, f3⟩ := hL.facts
    simp only [hh, hm, HS, hd]
    refine h _ _ _ ?_ e
    refine DiskAt.rest (L := A ++ B) (hL.del (H' := H.set m (.map ((A ++ B).map ent) c)) (Nat.le_refl _) (set_get_self _ _ _) fun i hi => set_get_ne _ _ ?_) hq hs hz
    have hb := hL.blk
    simp only [List.nodup_cons] at hb
    rintro rfl
    rcases List.mem_cons.1 hi with q | q
    · exact f1 q.symm
    · refine hb.2.1 ?_
      simp only [List.flatMap_append, List.flatMap_cons, List.mem_append] at q ⊢
      rcases q with q | q <;> simp [q]
/-! Read -/
noncomputable def ReadD.B (args : List AV) (s : Sg) (k : AV → Sg → Option β) : Option β :=
  match args, s with
  | [.obj j 0, .str n], .on j' d => if j = j' then (match dget d n with | some f => k (.tup [.sl 0 1 (bytesAV f.dat), .int .i64 0]) (.on j d) | none => k (.tup [.nilsl, .int .i64 8]) (.on j d)) else none
  | _, _ => none
theorem ReadD.ls (hH : HR s H) (h : ∀ w s1 H1, HR s1 H1 → k w s1 = some r → K w H1) : ReadD.B [.obj j 0, .str n] s k = some r → C 13 [.obj j 0, .str n] H K := by
  intro e
  cases s with
  | non => cases e
  | on j' d =>
  simp only [ReadD.B] at e
  split at e
  case isFalse => cases e
  rename_i hj
  subst hj
  obtain ⟨m, c, L, hL, hp, hs, hz⟩ := id hH
  refine F13.call ?_
  unfold F13.t
  simp only [hL.disk, hL.map, HS, fits_all]
  rcases find_case hL.nnd hp n with ⟨a, b, q⟩ | ⟨A, x, B, rfl, rfl, hx, hg, hh, hm, hd, hq⟩
  · simp only [q, HS]
    refine h _ _ _ hH ?_
    simpa only [b] using e
  · simp only [hg] at e
    have hf := hL.file x (by simp)
    have hxz := hz x.f ((hp.mem_iff).1 (by simp))
    simp only [hh, hm, HS]
    obtain ⟨xb, xf, xj, bf⟩ := x
    cases bf with
    | none =>
      have h0 : bytesAV xf.dat = [] := List.length_eq_zero_iff.1 ((bytes_len _).trans hf.1)
      simp only [hf.2, HS]
      refine (show G (room [] [] 1) _ = _ from rfl) ▸ h _ _ _ hH ?_
      rw [← h0]
      exact e
    | some p =>
      obtain ⟨u, cc⟩ := p
      obtain ⟨h1, h2, ys, h3, h4, h5⟩ := hf
      simp only at h1 h2 h3 h4 h5 hxz
      simp only [h1, h3, HS, List.drop_zero, h4, Nat.zero_add]
      rw [G_nble, G_room, bytes_len]
      refine ⟨by omega, by simp only [List.length_nil]; omega, h _ _ _ hH e⟩
theorem name_past {K : Qt} (h : ∀ H', K (.bool (nameB n)) (H.past H')) : CP 20 [.str n] H K := impP (A := True) (fun _ => F20.ok (F20.eq n) (Q := fun v H' => K v (H.past H')) h) trivial
theorem ent_snoc {L : List En} {e : En} : (L ++ [e]).map ent = L.map ent ++ [ent e] := by simp
theorem Lay.sub {H : Heap} {j m c : Nat} {A B : List En} {e : En} (h : Lay H j m c (A ++ e :: B)) {k : Nat} (hk : k ∈ j :: m :: (A ++ B).flatMap blks) : k ∈ j :: m :: (A ++ e :: B).flatMap blks := by
  simp only [List.flatMap_append, List.flatMap_cons, List.mem_cons, List.mem_append] at hk ⊢
  rcases hk with q | q | q | q <;> simp [q]
theorem Lay.nom {H : Heap} {j m c : Nat} {L : List En} (h : Lay H j m c L) : ∀ k ∈ j :: L.flatMap blks, k ≠ m := by
  have hb := h.blk
  simp only [List.nodup_cons] at hb
  rintro k hk rfl
  rcases List.mem_cons.1 hk with q | q
  · exact hb.1 (by simp [q])
  · exact hb.2.1 q
theorem without_none {d : Dk} {n : ByteArray} (h : dget d n = none) : dwithout d n = d := by
  rw [dget, List.find?_eq_none] at h
  exact List.filter_eq_self.2 fun f hf => by have := h f hf; simpa using this
/-! Rename -/
noncomputable def RenD.B (args : List AV) (s : Sg) (k : AV → Sg → Option β) : Option β :=
  match args, s with
  | [.obj j 0, .str n, .str to], .on j' d => if j = j' then k (.int .i64 (renD d n to).2) (.on j (renD d n to).1) else none
  | _, _ => none
theorem RenD.ls (hH : HR s H) (h : ∀ w s1 H1, HR s1 H1 → k w s1 = some r → K w H1) : RenD.B [.obj j 0, .str n, .str to] s k = some r → C 25 [.obj j 0, .str n, .str to] H K := by
  intro e
  cases s with
  | non => cases e
  | on j' d =>
  simp only [RenD.B] at e
  split at e
  case isFalse => cases e
  rename_i hj
  subst hj
  obtain ⟨m, c, L, hL, hp, hs, hz⟩ := id hH
  refine F25.call ?_
  unfold F25.t
  simp only [hL.disk, hL.map, HS, fits_all]
  rcases find_case hL.nnd hp n with ⟨a, b, q⟩ | ⟨A, x, B, rfl, rfl, hx, hg, hh, hm, hd, hq⟩
  · simp only [q, HS]
    refine h _ _ _ hH ?_
    simpa only [renD, b] using e
  · simp only [renD, hg] at e
    simp only [hh, hm, HS]
    refine name_past fun H' => ?_
    have hL2 := hL.past H'
    obtain ⟨f1, f2, f3⟩ := hL2.facts
    cases hn : nameB to
    · rw [hn] at e
      simp only [HS, Bool.not_false]
      exact h _ _ _ (HR.past hH) e
    · rw [hn] at e
      have e1 : ∀ (H : Heap) (x : HB), (H.set m x).get j = H.get j := fun H x => set_get_ne H x f1
      simp only [HS, Bool.not_true, hL2.disk, hL2.map, fits_all, e1, set_get_self, hd]
      refine h _ _ _ ?_ e
      have hL3 : Lay ((H.past H').set m (.map ((A ++ B).map ent) c)) j m c (A ++ B) := hL2.del (Nat.le_refl _) (set_get_self _ _ _) fun i hi => set_get_ne _ _ (by
        refine hL2.nom i ?_
        simp only [List.flatMap_append, List.flatMap_cons, List.mem_cons, List.mem_append] at hi ⊢
        rcases hi with q | q | q <;> simp [q])
      have hf := hL2.file x (by simp)
      have hxz := hz x.f ((hp.mem_iff).1 (by simp))
      have hfx : ∀ (X Y : HB) (bb : Nat), FileAt (((H.past H').set m X).set m Y) ⟨bb, ⟨to, x.f.dat, x.f.sf⟩, x.j, x.bf⟩ := by
        intro X Y bb
        have hfr := FileAt.frame (H' := ((H.past H').set m X).set m Y) hf fun k hk => by
          have hkm : k ≠ m := fun q => (f3 k hk).2 (by simp [q])
          rw [set_get_ne _ _ hkm, set_get_ne _ _ hkm]
        exact hfr
      rcases find_case hL3.nnd hq to with ⟨a, b, q⟩ | ⟨A', y, B', hl, rfl, hx', hg', hh', hm', hd', hq'⟩
      · rw [put_none a]
        simp only [q, HS]
        refine DiskAt.put (L := A ++ B ++ [⟨c, ⟨to, x.f.dat, x.f.sf⟩, x.j, x.bf⟩]) (R := (A ++ B).map En.f) (d := dwithout d x.f.nm) (m := m) (c := c + 1) (hL3.ins (Nat.le_refl _) rfl a ?_ ?_ ?_ f2 (fun k hk => (f3 k hk).1) fun k hk => (f3 k hk).2) ?_ ?_ (hs.without _) (fun f hf => hz f (mem_without.1 hf).1) hxz
        · exact hfx _ _ _
        · rw [set_get_self, ent_snoc]; rfl
        · exact fun i hi => set_get_ne _ _ (hL3.nom i hi)
        · simp only [List.map_append, List.map_cons, List.map_nil]
          exact List.perm_append_comm
        · simp only
          rw [without_none b]
          exact hq
      · rw [hl] at hL3 hh' hq ⊢
        have hA' : ∀ x ∈ A', x.f.nm ≠ y.f.nm := fun x q => hx' x (by simp [q])
        rw [put_mid hA']
        simp only [hh', HS]
        obtain ⟨q1, q2, q3⟩ := hL3.facts
        refine DiskAt.put (L := A' ++ ⟨y.b, ⟨y.f.nm, x.f.dat, x.f.sf⟩, x.j, x.bf⟩ :: B') (d := dwithout d x.f.nm) (m := m) (c := c) (hL3.rep (Nat.le_refl _) rfl rfl ?_ ?_ ?_ f2 (fun k hk => (f3 k hk).1) fun k hk q => (f3 k hk).2 ?_) perm_mid hq' (hs.without _) (fun f hf => hz f (mem_without.1 hf).1) hxz
        · exact hfx _ _ _
        · rw [set_get_self]; simp [ent]
        · refine fun i hi => set_get_ne _ _ (hL3.nom i ?_)
          simp only [List.flatMap_append, List.flatMap_cons, List.mem_cons, List.mem_append] at hi ⊢
          rcases hi with q | q | q <;> simp [q]
        · rw [hl]
          exact hL3.sub q
/-! Append -/
theorem bytesAV_app (a b : ByteArray) : bytesAV (a ++ b) = bytesAV a ++ bytesAV b := by simp [bytesAV]
/-- The last step: the file is put under its name. -/
theorem put_new {m c jf : Nat} {L : List En} {d : Dk} {xs : List (List AV)} {f : Df} {bf : Option (Nat × Nat)} (hL : Lay H j m c L) (ha : ∀ e ∈ L, e.f.nm ≠ f.nm) (hp : (L.map En.f).Perm d) (hg : dget d f.nm = none) (hs : Srt d) (hz : ∀ f ∈ d, f.dat.size ≤ 65536 ∧ f.sf ≤ f.dat.size)
    (hzf : f.dat.size ≤ 65536 ∧ f.sf ≤ f.dat.size) (hf : FileAt H ⟨c, f, jf, bf⟩) (hnd : (blks ⟨c, f, jf, bf⟩).Nodup) (hfr : ∀ k ∈ blks ⟨c, f, jf, bf⟩, k < H.next ∧ k ∉ j :: m :: L.flatMap blks) (h : ∀ H1, HR (.on j (dput d f)) H1 → K (.int .i64 0) H1) : F10.JR8 j f.nm xs K jf H := by
  refine F10.JR8_step ?_
  unfold F10.jR8
  have hh : mhas (.str f.nm) (L.map ent) = false := by simp only [mhas, find_none ha, Option.isSome_none]
  simp only [hL.disk, hL.map, HS, fits_all, put_none ha, hh]
  refine h _ ?_
  refine DiskAt.put (L := L ++ [⟨c, f, jf, bf⟩]) (R := L.map En.f) (d := d) (m := m) (c := c + 1) (hL.ins (Nat.le_refl _) rfl ha ?_ ?_ ?_ hnd (fun k hk => (hfr k hk).1) fun k hk => (hfr k hk).2) ?_ ?_ hs hz hzf
  · refine hf.frame fun k hk => set_get_ne _ _ fun q => (hfr k hk).2 (by simp [q])
  · rw [set_get_self, ent_snoc]; rfl
  · exact fun i hi => set_get_ne _ _ (hL.nom i hi)
  · simp only [List.map_append, List.map_cons, List.map_nil]
    exact List.perm_append_comm
  · rw [without_none hg]
    exact hp
theorem put_old {m c : Nat} {A B : List En} {x : En} {d : Dk} {xs : List (List AV)} (hL : Lay H j m c (A ++ x :: B)) (hx : ∀ y ∈ A ++ B, y.f.nm ≠ x.f.nm) (hq : ((A ++ B).map En.f).Perm (dwithout d x.f.nm)) (hs : Srt d) (hz : ∀ f ∈ d, f.dat.size ≤ 65536 ∧ f.sf ≤ f.dat.size)
    (hzf : x.f.dat.size ≤ 65536 ∧ x.f.sf ≤ x.f.dat.size) (h : ∀ H1, HR (.on j (dput d x.f)) H1 → K (.int .i64 0) H1) : F10.JR8 j x.f.nm xs K x.j H := by
  refine F10.JR8_step ?_
  unfold F10.jR8
  have hA : ∀ y ∈ A, y.f.nm ≠ x.f.nm := fun y q => hx y (by simp [q])
  have hh : mhas (.str x.f.nm) ((A ++ x :: B).map ent) = true := by simp only [mhas, find_mid hA, Option.isSome_some]
  simp only [hL.disk, hL.map, HS, fits_all, put_mid hA, hh]
  refine h _ ?_
  refine DiskAt.put (L := A ++ x :: B) (d := d) (m := m) (c := c) (hL.frame (Nat.le_refl _) ?_) perm_mid hq hs hz hzf
  intro i hi
  by_cases e : i = m
  · subst e
    rw [set_get_self, hL.map]
    simp [ent]
  · exact set_get_ne _ _ e
theorem pad_take {c : Nat} {ys : List (List AV)} : (pad 1 c ys).take ys.length = ys := by simp [pad]
theorem pad_le {c : Nat} {ys : List (List AV)} (h : ys.length ≤ c) : c ≤ (pad 1 c ys).length := by simp [pad]; omega
theorem get_pn (H : Heap) (x : HB) {i : Nat} (h : i < H.next) : (H.push x).get i = H.get i := push_get_ne _ _ (by omega)
/-- The file at an object's block, where it keeps its rows in a block of its own. -/
theorem file_new {H : Heap} {b jf u c : Nat} {f : Df} {ys : List (List AV)} (h1 : H.get jf = .cells [.hs u 0 f.dat.size c 1, .int .i64 (f.sf : Int)]) (h2 : H.get u = .rows 1 (pad 1 c ys)) (hy : ys = bytesAV f.dat) (hc : f.dat.size ≤ c) : FileAt H ⟨b, f, jf, some (u, c)⟩ := by
  have hl : ys.length = f.dat.size := by rw [hy, bytes_len]
  exact ⟨h1, hc, _, h2, by rw [← hl, pad_take, hy], pad_le (by omega)⟩
noncomputable def AppD.B (args : List AV) (s : Sg) (k : AV → Sg → Option β) : Option β :=
  match args, s with
  | [.obj j 0, .str n, .sl 0 1 xs], .on j' d => if j = j' then (unbytes xs).bind fun t => if t.size ≤ 1000000 then k (.int .i64 (appD d n t).2) (.on j (appD d n t).1) else none else none
  | _, _ => none
theorem AppD.ls (hH : HR s H) (h : ∀ w s1 H1, HR s1 H1 → k w s1 = some r → K w H1) : AppD.B [.obj j 0, .str n, .sl 0 1 xs] s k = some r → C 10 [.obj j 0, .str n, .sl 0 1 xs] H K := by
  intro e
  cases s with
  | non => cases e
  | on j' d =>
  simp only [AppD.B] at e
  split at e
  case isFalse => cases e
  rename_i hj
  subst hj
  cases ht : unbytes xs with
  | none => rw [ht] at e; cases e
  | some t =>
  rw [ht, bind_s] at e
  split at e
  case isFalse => cases e
  rename_i hts
  have hxs := unbytes_some ht
  have hlen : lenI xs = (t.size : Int) := by rw [hxs]; simp only [lenI, bytes_len]
  have hlx : xs.length = t.size := by rw [hxs, bytes_len]
  refine F10.call ?_
  unfold F10.t
  refine name_past fun H' => ?_
  obtain ⟨m, c, L, hL0, hp, hs, hz⟩ := id hH
  have hL := hL0.past H'
  have hH2 : HR (.on j d) (H.past H') := HR.past hH
  generalize H.past H' = H2 at hL hH2
  cases hn : nameB n
  · simp only [HS, Bool.not_false]
    refine h _ _ _ hH2 ?_
    simpa only [appD, hn, Bool.false_eq_true, if_false] using e
  simp only [appD, hn, if_true] at e
  simp only [HS, Bool.not_true, hL.disk, hL.map, fits_all]
  rcases find_case hL.nnd hp n with ⟨a, b, q⟩ | ⟨A, x, B, rfl, rfl, hx, hg, hh, hm, hd, hq⟩
  · simp only [b] at e
    have hz0 : (([.hs 0 0 0 0 0] : List AV).length) = 1 := rfl
    simp only [q, HS, push_get_self, hlen]
    have hnx : (H2.push (.cells [.nilsl, .int .i64 0])).next = H2.next + 1 := rfl
    have hL3 : Lay (H2.push (.cells [.nilsl, .int .i64 0])) j m c L := hL.frame (by omega) fun i hi => get_pn _ _ (hL.low i hi)
    rw [addW_eq (by omega) (by omega), cond_lt]
    by_cases hbig : 65536 < t.size
    · rw [if_pos (by omega)]
      rw [if_pos hbig] at e
      exact h _ (.on j d) _ (show DiskAt _ _ _ from ⟨m, c, L, hL3, hp, hs, hz⟩) e
    · rw [if_neg (by omega)]
      rw [if_neg hbig] at e
      have e0 : (⟨#[]⟩ : ByteArray) ++ t = t := by apply ByteArray.ext; simp
      rw [e0] at e
      have hfn : ∀ k, k = H2.next ∨ k = H2.next + 1 → k ∉ j :: m :: L.flatMap blks := fun k hk q => by have := hL.low k q; omega
      rw [G_room, G_nblt]
      refine ⟨by simp only [List.length_nil]; omega, by simp, fun cc hc _ => ?_, fun h0 => ?_⟩
      · refine put_new (f := ⟨n, t, 0⟩) (bf := some (H2.next + 1, cc)) (m := m) (c := c) (L := L) (d := d) (hL3.frame (by show H2.next + 1 ≤ H2.next + 1 + 1; omega) fun i hi => ?_) a hp b hs hz ⟨by show t.size ≤ 65536; omega, Nat.zero_le _⟩ (file_new (ys := xs) ?_ ?_ hxs (by show t.size ≤ cc; omega)) (by simp [blks]) ?_ fun H1 h1 => h _ _ _ h1 e
        · have := hL.low i hi
          rw [set_get_ne _ _ (by omega), push_get_ne _ _ (by show i ≠ H2.next + 1; omega)]
        · rw [set_get_self, hlx]; rfl
        · rw [set_get_ne _ _ (by omega)]; exact push_get_self _ _
        · intro k hk
          have hk' : k = H2.next ∨ k = H2.next + 1 := by simpa [blks] using hk
          exact ⟨by show k < H2.next + 1 + 1; omega, hfn k hk'⟩
      · have h00 : t.size = 0 := by rw [← hlx, h0]; rfl
        refine put_new (f := ⟨n, t, 0⟩) (bf := none) (m := m) (c := c) (L := L) (d := d) (hL3.frame (Nat.le_refl _) fun i hi => ?_) a hp b hs hz ⟨by show t.size ≤ 65536; omega, Nat.zero_le _⟩ ⟨h00, ?_⟩ (by simp [blks]) ?_ fun H1 h1 => h _ _ _ h1 e
        · have := hL.low i hi
          rw [set_get_ne _ _ (by omega)]
        · rw [set_get_self]; rfl
        · intro k hk
          have hk' : k = H2.next := by simpa [blks] using hk
          exact ⟨by show k < H2.next + 1; omega, hfn k (.inl hk')⟩
  · simp only [hg] at e
    obtain ⟨f1, f2, f3⟩ := hL.facts
    have hf := hL.file x (by simp)
    have hxz := hz x.f ((hp.mem_iff).1 (by simp))
    have hxj := f3 x.j (by simp [blks])
    simp only [hh, hm, HS, hlen]
    obtain ⟨xb, xf, xj, bf⟩ := x
    simp only at hxz hxj hq hx hg e
    have hmap : ∀ (t' : ByteArray) (bf' : Option (Nat × Nat)), (A ++ (⟨xb, ⟨xf.nm, t', xf.sf⟩, xj, bf'⟩ : En) :: B).map ent = (A ++ (⟨xb, xf, xj, bf⟩ : En) :: B).map ent := by intro t' bf'; simp only [List.map_append, List.map_cons, ent]
    have hAB : ∀ i ∈ j :: (A ++ B).flatMap blks, i ∈ j :: m :: (A ++ B).flatMap blks := fun i hi => by
      rcases List.mem_cons.1 hi with q | q
      · rw [q]; exact List.mem_cons_self
      · exact List.mem_cons_of_mem _ (List.mem_cons_of_mem _ q)
    have hnext : ∀ i, i ∈ j :: m :: (A ++ B).flatMap blks → i < H2.next := fun i hi => hL.low i (hL.sub hi)
    cases bf with
    | none =>
      obtain ⟨hf0, hf1⟩ := hf
      simp only at hf0 hf1
      simp only [hf1, HS]
      rw [addW_eq (by omega) (by omega), cond_lt]
      by_cases hbig : 65536 < xf.dat.size + t.size
      · rw [if_pos (by omega)]
        rw [if_pos hbig] at e
        exact h _ _ _ hH2 e
      · rw [if_neg (by omega)]
        rw [if_neg hbig] at e
        have ed : xf.dat = ⟨#[]⟩ := by
          have : xf.dat.data.size = 0 := hf0
          apply ByteArray.ext
          exact Array.eq_empty_of_size_eq_zero this
        have e0 : xf.dat ++ t = t := by rw [ed]; apply ByteArray.ext; simp
        rw [e0] at e
        rw [G_room, G_nblt]
        have hj0 : ∀ i ∈ j :: m :: (A ++ B).flatMap blks, i ≠ xj := fun i hi q => hxj.2 (q ▸ hi)
        refine ⟨by simp only [List.length_nil]; omega, by simp, fun cc hc _ => ?_, fun h0 => ?_⟩
        · refine put_old (x := ⟨xb, ⟨xf.nm, t, xf.sf⟩, xj, some (H2.next, cc)⟩) (A := A) (B := B) (d := d) (m := m) (c := c) (hL.rep (by show H2.next ≤ H2.next + 1; omega) rfl rfl (file_new (ys := xs) ?_ ?_ hxs (by show t.size ≤ cc; omega)) ?_ (fun i hi => ?_) ?_ ?_ ?_) hx hq hs hz ⟨by show t.size ≤ 65536; omega, by show xf.sf ≤ t.size; omega⟩ fun H1 h1 => h _ _ _ h1 e
          · rw [set_get_self, hlx]; rfl
          · rw [set_get_ne _ _ (by omega)]; exact push_get_self _ _
          · have := hnext m (by simp)
            rw [hmap, set_get_ne _ _ (hj0 m (by simp)), get_pn _ _ this]
            exact hL.map
          · have := hnext i (hAB i hi)
            rw [set_get_ne _ _ (hj0 i (hAB i hi)), get_pn _ _ this]
          · simp [blks]; omega
          · intro k hk
            have hk' : k = xj ∨ k = H2.next := by simpa [blks] using hk
            show k < H2.next + 1
            omega
          · intro k hk q
            have hk' : k = xj ∨ k = H2.next := by simpa [blks] using hk
            rcases hk' with rfl | rfl
            · exact hxj.2 q
            · exact absurd (hnext _ q) (by omega)
        · have h00 : t.size = 0 := by rw [← hlx, h0]; rfl
          refine put_old (x := ⟨xb, ⟨xf.nm, t, xf.sf⟩, xj, none⟩) (A := A) (B := B) (d := d) (m := m) (c := c) (hL.rep (Nat.le_refl _) rfl rfl ⟨h00, ?_⟩ ?_ (fun i hi => ?_) ?_ ?_ ?_) hx hq hs hz ⟨by show t.size ≤ 65536; omega, by show xf.sf ≤ t.size; omega⟩ fun H1 h1 => h _ _ _ h1 e
          · rw [set_get_self]; rfl
          · rw [hmap, set_get_ne _ _ (hj0 m (by simp))]
            exact hL.map
          · rw [set_get_ne _ _ (hj0 i (hAB i hi))]
          · simp [blks]
          · intro k hk
            have hk' : k = xj := by simpa [blks] using hk
            show k < H2.next
            omega
          · intro k hk q
            have hk' : k = xj := by simpa [blks] using hk
            subst hk'
            exact hxj.2 q
    | some p =>
      obtain ⟨u, c0⟩ := p
      obtain ⟨g1, g2, ys, g3, g4, g5⟩ := hf
      simp only at g1 g2 g3 g4 g5
      have hu := f3 u (by simp [blks])
      have hux : u ≠ xj := by
        intro q
        subst q
        simp [blks] at f2
      simp only [g1, g3, HS]
      rw [addW_eq (by omega) (by omega), cond_lt]
      by_cases hbig : 65536 < xf.dat.size + t.size
      · rw [if_pos (by omega)]
        rw [if_pos hbig] at e
        exact h _ _ _ hH2 e
      rw [if_neg (by omega)]
      rw [if_neg hbig] at e
      have hj0 : ∀ i ∈ j :: m :: (A ++ B).flatMap blks, i ≠ xj := fun i hi q => hxj.2 (q ▸ hi)
      have hu0 : ∀ i ∈ j :: m :: (A ++ B).flatMap blks, i ≠ u := fun i hi q => hu.2 (q ▸ hi)
      have hsz : (xf.dat ++ t).size = xf.dat.size + t.size := by simp
      rw [hlx, cond_nble]
      by_cases hfit : xf.dat.size + t.size ≤ c0
      · rw [if_pos hfit, G_nble]
        refine ⟨by omega, ?_⟩
        simp only [set_get_ne _ _ (Ne.symm hux), g1, HS, List.length_cons, List.length_nil]
        rw [G_nble]
        refine ⟨by omega, ?_⟩
        refine put_old (x := ⟨xb, ⟨xf.nm, xf.dat ++ t, xf.sf⟩, xj, some (u, c0)⟩) (A := A) (B := B) (d := d) (m := m) (c := c) (hL.rep (Nat.le_refl _) rfl rfl ⟨?_, by show (xf.dat ++ t).size ≤ c0; omega, splice ys xf.dat.size xs, ?_, ?_, ?_⟩ ?_ (fun i hi => ?_) f2 (fun k hk => (f3 k hk).1) fun k hk => (f3 k hk).2) hx hq hs hz ⟨by show (xf.dat ++ t).size ≤ 65536; omega, by show xf.sf ≤ (xf.dat ++ t).size; omega⟩ fun H1 h1 => h _ _ _ h1 e
        · show _ = HB.cells [.hs u 0 (xf.dat ++ t).size c0 1, _]
          rw [set_get_self, hsz]; rfl
        · rw [set_get_ne _ _ hux, set_get_self, Nat.zero_add]
        · show List.take (xf.dat ++ t).size _ = bytesAV (xf.dat ++ t)
          rw [bytesAV_app, ← hxs, ← g4, splice, hsz, List.append_assoc, List.take_append, List.take_take]
          have hl1 : (ys.take xf.dat.size).length = xf.dat.size := by rw [g4, bytes_len]
          rw [hl1, Nat.add_sub_cancel_left, List.take_append, hlx, Nat.sub_self, List.take_zero, List.append_nil, Nat.min_eq_right (by omega), List.take_of_length_le (by omega : xs.length ≤ t.size)]
        · rw [splice_length (by omega)]; exact g5
        · rw [hmap, set_get_ne _ _ (hj0 m (by simp)), set_get_ne _ _ (hu0 m (by simp))]
          exact hL.map
        · rw [set_get_ne _ _ (hj0 i (hAB i hi)), set_get_ne _ _ (hu0 i (hAB i hi))]
      · rw [if_neg hfit]
        simp only [List.drop_zero, Nat.zero_add, g4]
        rw [G_room, G_nble, bytes_len]
        refine ⟨by omega, by omega, fun cc hc _ => ?_⟩
        have hxl := hxj.1
        simp only [get_pn _ _ hxl, g1, HS, List.length_cons, List.length_nil]
        rw [G_nble]
        refine ⟨by omega, ?_⟩
        refine put_old (x := ⟨xb, ⟨xf.nm, xf.dat ++ t, xf.sf⟩, xj, some (H2.next, cc)⟩) (A := A) (B := B) (d := d) (m := m) (c := c) (hL.rep (by show H2.next ≤ H2.next + 1; omega) rfl rfl (file_new (ys := bytesAV xf.dat ++ xs) ?_ ?_ ?_ (by show (xf.dat ++ t).size ≤ cc; omega)) ?_ (fun i hi => ?_) ?_ ?_ ?_) hx hq hs hz ⟨by show (xf.dat ++ t).size ≤ 65536; omega, by show xf.sf ≤ (xf.dat ++ t).size; omega⟩ fun H1 h1 => h _ _ _ h1 e
        · show _ = HB.cells [.hs H2.next 0 (xf.dat ++ t).size cc 1, _]
          rw [set_get_self, hsz]; rfl
        · rw [set_get_ne _ _ (by omega)]; exact push_get_self _ _
        · show _ = bytesAV (xf.dat ++ t)
          rw [bytesAV_app, hxs]
        · have := hnext m (by simp)
          rw [hmap, set_get_ne _ _ (hj0 m (by simp)), get_pn _ _ this]
          exact hL.map
        · have := hnext i (hAB i hi)
          rw [set_get_ne _ _ (hj0 i (hAB i hi)), get_pn _ _ this]
        · simp [blks]; omega
        · intro k hk
          have hk' : k = xj ∨ k = H2.next := by simpa [blks] using hk
          show k < H2.next + 1
          omega
        · intro k hk q
          have hk' : k = xj ∨ k = H2.next := by simpa [blks] using hk
          rcases hk' with rfl | rfl
          · exact hxj.2 q
          · exact absurd (hnext _ q) (by omega)
end
end Go.Proofs.Ytbkkhhmjmbbfpaa.Ab
