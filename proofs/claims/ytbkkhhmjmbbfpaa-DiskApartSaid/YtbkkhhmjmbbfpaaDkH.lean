/- Disk: Names and Crash. -/
import Derived.Test.YtbkkhhmjmbbfpaaDkA
namespace Go.Proofs.Ytbkkhhmjmbbfpaa.Ab
open Go
set_option maxHeartbeats 2000000
set_option linter.unusedVariables false

/-! Names -/
def outN (S : List En) : List (List AV) := S.map fun e => [.str e.f.nm]
def seenN (S : List En) : List Nat := (S.map En.b).reverse
def leftN (L S : List En) : List En := L.filter fun e => !((seenN S).contains e.b)
theorem seenN_snoc (S : List En) (e : En) : seenN (S ++ [e]) = e.b :: seenN S := by simp [seenN]
theorem mleftN (L S : List En) : mleft (seenN S) (L.map ent) = (leftN L S).map ent := by
  unfold mleft leftN
  rw [List.filter_map]
  rfl
theorem outN_strs (S : List En) : outN S = strsL (S.map fun e => bs e.f.nm) := by
  unfold outN strsL
  rw [List.map_map]
  refine List.map_congr_left fun e _ => ?_
  show [AV.str e.f.nm] = [AV.str ⟨(e.f.nm.data.toList).toArray⟩]
  rw [Array.toArray_toList]
theorem nms_strs (d : Dk) : nms d = strsL (d.map fun f => bs f.nm) := by
  unfold nms strsL
  rw [List.map_map]
  refine List.map_congr_left fun e _ => ?_
  show [AV.str e.nm] = [AV.str ⟨(e.nm.data.toList).toArray⟩]
  rw [Array.toArray_toList]
theorem sort_nms {S : List En} {d : Dk} (hp : (S.map En.f).Perm d) (hs : Srt d) : ((S.map fun e => bs e.f.nm).mergeSort fun x y => decide (x ≤ y)) = d.map fun f => bs f.nm := by
  have h1 : (S.map fun e => bs e.f.nm).Perm (d.map fun f => bs f.nm) := by
    have := hp.map fun f => bs f.nm
    rwa [List.map_map] at this
  refine List.Perm.eq_of_pairwise (le := fun a b => a ≤ b) (fun a b _ _ h1 h2 => List.le_antisymm h1 h2) ?_ ?_ ((List.mergeSort_perm _ _).trans h1)
  · have := List.pairwise_mergeSort (le := fun x y : List UInt8 => decide (x ≤ y)) (fun a b c h1 h2 => by simp only [decide_eq_true_eq] at *; exact List.le_trans h1 h2) (fun a b => by simp only [Bool.or_eq_true, decide_eq_true_eq]; exact List.le_total a b) (S.map fun e => bs e.f.nm)
    exact this.imp fun h => by simpa using h
  · rw [List.pairwise_map]
    refine hs.imp fun {a b} h => ?_
    rw [ltS_eq, decide_eq_true_eq] at h
    exact List.le_of_lt h
theorem nodup_of_map {α β : Type} {f : α → β} {l : List α} (h : (l.map f).Nodup) : l.Nodup := by
  rw [List.Nodup, List.pairwise_map] at h
  exact h.imp fun {a b} (k : f a ≠ f b) (e : a = b) => k (by rw [e])
theorem F30.spec {j o n c : Nat} {xs : List (List AV)} {zs : List (List UInt8)} {H : Heap} {Q : AV → Heap → Prop} (hj : H.get j = .rows 1 xs) (hn : zs.length = n) (hb : n ≤ 100000) (hle : o + n ≤ xs.length) (hz : (xs.drop o).take n = strsL zs)
    (hQ : Q (.tup []) (H.set j (.rows 1 (splice xs o (strsL (zs.mergeSort fun x y => decide (x ≤ y))))))) : C 30 [.hs j o n c 1] H Q := by
  refine Call_intro (E := E0) ?_
  show ∃ Q' : AV → Heap → Prop, (∀ v H, Q' v H → Q v H) ∧ E0.leaf 30 [.hs j o n c 1] H Q'
  exact ⟨Q, fun _ _ h => h, rfl, .inl ⟨j, o, n, c, xs, zs, rfl, hj, hn, by omega, hle, hz, hQ⟩⟩
theorem F30.nil {H : Heap} {Q : AV → Heap → Prop} (hQ : Q (.tup []) H) : C 30 [.nilsl] H Q := by
  refine Call_intro (E := E0) ?_
  show ∃ Q' : AV → Heap → Prop, (∀ v H, Q' v H → Q v H) ∧ E0.leaf 30 [.nilsl] H Q'
  exact ⟨Q, fun _ _ h => h, rfl, .inr ⟨rfl, hQ⟩⟩
theorem pad_length {k m : Nat} {xs : List (List AV)} (h : xs.length ≤ m) : (pad k m xs).length = m := by simp [pad]; omega
theorem strsL_len (l : List (List UInt8)) : (strsL l).length = l.length := by simp [strsL]
theorem sortS_turn {zs : List (List UInt8)} (hb : zs.length ≤ 100000) {H : Heap} {K : List (List AV) → Heap → Prop} (h : ∀ H1, H.next ≤ H1.next → (∀ i, H1.get i = H.get i) → K (strsL (zs.mergeSort fun x y => decide (x ≤ y))) H1) : ioTurn C 30 1 (strsL zs) [] H K := by
  refine ⟨fun m hm _ => ?_, fun e => ?_⟩
  · rw [strsL_len] at hm ⊢
    have hpl : (pad 1 m (strsL zs)).length = m := pad_length (by rw [strsL_len]; exact hm)
    have hpt : (pad 1 m (strsL zs)).take zs.length = strsL zs := by rw [← strsL_len]; exact pad_take
    refine F30.spec (push_get_self _ _) rfl hb (by rw [hpl]; omega) (by rw [List.drop_zero]; exact hpt) ?_
    have hs : (strsL (zs.mergeSort fun x y => decide (x ≤ y))).length = zs.length := by rw [strsL_len, List.length_mergeSort]
    refine ⟨rfl, fun i hi => ?_, _, set_get_self _ _ _, by rw [splice_length (by rw [hpl]; omega), hpl], ?_⟩
    · rw [set_get_ne _ _ (by omega), push_get_ne _ _ (by omega)]
    · simp only [splice, List.take_zero, List.nil_append]
      rw [List.take_append_of_le_length (by omega), List.take_of_length_le (by omega)]
      refine h _ (Nat.le_succ _) fun i => ?_
      by_cases e : i = H.next
      · subst e; exact set_get_self _ _ _
      · rw [set_get_ne _ _ e, set_get_ne _ _ e, push_get_ne _ _ e]
  · have : zs = [] := by cases zs with | nil => rfl | cons z zs => simp [strsL] at e
    subst this
    exact F30.nil ⟨rfl, by simpa [strsL] using h H (Nat.le_refl _) fun _ => rfl⟩
theorem born_at {L : List En} {e : En} (hn : (L.map En.b).Nodup) (he : e ∈ L) : mborn e.b (L.map ent) = some (ent e) := by
  induction L with
  | nil => cases he
  | cons x L ih =>
    simp only [List.map_cons, List.nodup_cons] at hn
    simp only [mborn, List.map_cons, List.find?_cons]
    rcases List.mem_cons.1 he with rfl | he
    · have : Nat.beq (ent e).1 e.b = true := by simp [ent]
      rw [this]
    · have : Nat.beq (ent x).1 e.b = false := by
        cases h : Nat.beq (ent x).1 e.b with
        | false => rfl
        | true => exact absurd (List.mem_map.2 ⟨e, he, (Nat.eq_of_beq_eq_true h).symm⟩) hn.1
      rw [this]
      exact ih hn.2 he
theorem names_step {H : Heap} {j m c a0 b : Nat} {L S : List En} {K : Qt} (hL : Lay H j m c L) (hS : S.length ≤ 100000)
    (h0 : leftN L S = [] → ioTurn C 30 1 (outN S) [] H fun y H1 => K (.sl 0 1 y) H1) (h1 : ∀ e ∈ leftN L S, F19.L0 a0 K (outN (S ++ [e])) (seenN (S ++ [e])) m c c H) : F19.L0 a0 K (outN S) (seenN S) m c b H := by
  refine F19.L0_step ?_
  unfold F19.r0
  have hall : ((L.map ent).all fun e => Nat.blt e.1 c) = true := by
    simp only [List.all_map, List.all_eq_true, Function.comp]
    intro e he
    have := hL.born e he
    simp only [ent]
    exact Nat.ble_eq_true_of_le this
  have hcc : Nat.ble c c = true := Nat.ble_eq_true_of_le (Nat.le_refl _)
  have hbb : Nat.beq c c = true := Nat.beq_refl c
  simp only [hL.map, mleftN, HS, hall, hcc, hbb, Bool.and_true]
  refine ⟨fun q => h0 (List.map_eq_nil_iff.1 q), fun e1 he1 => ?_⟩
  obtain ⟨e, he, rfl⟩ := List.mem_map.1 he1
  have heL : e ∈ L := (List.mem_filter.1 he).1
  have hb := born_at hL.bnd heL
  have e11 : (ent e).1 = e.b := rfl
  have hk : mkeyAt e.b (L.map ent) = .str e.f.nm := by simp only [mkeyAt, hb, ent]
  have hv : mvalAt e.b (L.map ent) = .obj e.j 0 := by simp only [mvalAt, hb, ent]
  have hstr : (AV.str e.f.nm).isStr = true := rfl
  have hstr2 : (AV.str e.f.nm).toStr = e.f.nm := rfl
  simp only [e11, hb, hk, hv, HS, Option.isSome_some, hstr, hstr2]
  rw [G_room]
  refine ⟨by simp only [outN, List.length_map, List.length_cons, List.length_nil]; omega, ?_⟩
  have := h1 e he
  rw [seenN_snoc] at this
  have ho : outN (S ++ [e]) = outN S ++ [[.str e.f.nm]] := by simp [outN]
  rw [ho] at this
  exact this
theorem names_loop {H : Heap} {j m c a0 : Nat} {L : List En} {K : Qt} (hL : Lay H j m c L) (hl : L.length ≤ 100000) (fin : ∀ S : List En, S.Perm L → ioTurn C 30 1 (outN S) [] H fun y H1 => K (.sl 0 1 y) H1) :
    ∀ (k : Nat) (S : List En) (b : Nat), L.length - S.length ≤ k → (S.map En.b).Nodup → (∀ e ∈ S, e ∈ L) → F19.L0 a0 K (outN S) (seenN S) m c b H := by
  have hmem : ∀ {S : List En} {e : En}, e ∈ leftN L S → e ∈ L ∧ e.b ∉ S.map En.b := by
    intro S e he
    obtain ⟨h1, h2⟩ := List.mem_filter.1 he
    refine ⟨h1, fun q => ?_⟩
    have : (seenN S).contains e.b = true := by simpa [seenN] using q
    rw [this] at h2
    cases h2
  have hinj : ∀ e ∈ L, ∀ e' ∈ L, e.b = e'.b → e = e' := by
    intro e he e' he' q
    have h1 := born_at hL.bnd he
    obtain ⟨P, Q, rfl⟩ := List.append_of_mem he
    have hn := hL.bnd
    simp only [List.map_append, List.map_cons] at hn
    have h2 := List.nodup_append.1 hn
    obtain ⟨n1, n2, n3⟩ := h2
    simp only [List.mem_append, List.mem_cons] at he'
    rcases he' with h | h | h
    · exact absurd q.symm (n3 _ (List.mem_map_of_mem h) _ (by simp))
    · exact h.symm
    · exact absurd (q ▸ List.mem_map_of_mem h) (List.nodup_cons.1 n2).1
  have hsub : ∀ {S : List En}, (S.map En.b).Nodup → (∀ e ∈ S, e ∈ L) → S.length ≤ L.length := fun {S} h1 h2 => (nodup_of_map h1).length_le_of_subset h2
  have hend : ∀ {S : List En}, (S.map En.b).Nodup → (∀ e ∈ S, e ∈ L) → leftN L S = [] → S.Perm L := by
    intro S hn hs h0
    refine (List.perm_ext_iff_of_nodup (nodup_of_map hn) (nodup_of_map hL.bnd)).2 fun e => ⟨hs e, fun he => ?_⟩
    have : e ∉ leftN L S := by rw [h0]; exact List.not_mem_nil
    have hc : (seenN S).contains e.b = true := by
      cases h : (seenN S).contains e.b with
      | true => rfl
      | false => exact absurd (List.mem_filter.2 ⟨he, by rw [h]; rfl⟩) this
    have hc2 : e.b ∈ S.map En.b := by simpa [seenN] using hc
    obtain ⟨e', he', q⟩ := List.mem_map.1 hc2
    rw [← hinj e' (hs e' he') e he q]
    exact he'
  have hstep : ∀ {S : List En} {e : En}, (S.map En.b).Nodup → (∀ e ∈ S, e ∈ L) → e ∈ leftN L S → ((S ++ [e]).map En.b).Nodup ∧ (∀ x ∈ S ++ [e], x ∈ L) ∧ S.length + 1 ≤ L.length := by
    intro S e hn hs he
    obtain ⟨q1, q2⟩ := hmem he
    have a1 : ((S ++ [e]).map En.b).Nodup := by
      rw [List.map_append]
      refine nodup_append' hn (by simp) fun x hx => ?_
      rw [show x = e.b by simpa using hx]
      exact q2
    have a2 : ∀ x ∈ S ++ [e], x ∈ L := by
      intro x hx
      rcases List.mem_append.1 hx with h | h
      · exact hs x h
      · rw [List.mem_singleton.1 h]; exact q1
    have := hsub a1 a2
    rw [List.length_append] at this
    exact ⟨a1, a2, this⟩
  intro k
  induction k with
  | zero =>
    intro S b hk hn hs
    have hlen := hsub hn hs
    refine names_step hL (by omega) (fun h0 => fin S (hend hn hs h0)) fun e he => ?_
    have := (hstep hn hs he).2.2
    omega
  | succ k ih =>
    intro S b hk hn hs
    have hlen := hsub hn hs
    refine names_step hL (by omega) (fun h0 => fin S (hend hn hs h0)) fun e he => ?_
    obtain ⟨a1, a2, a3⟩ := hstep hn hs he
    exact ih _ _ (by rw [List.length_append, List.length_singleton]; omega) a1 a2
section
variable {β : Type} {r : β} {j : Nat} {n to : ByteArray} {xs : List (List AV)} {s : Sg} {H : Heap} {k : AV → Sg → Option β} {K : Qt}
noncomputable def NamesD.B (args : List AV) (s : Sg) (k : AV → Sg → Option β) : Option β :=
  match args, s with
  | [.obj j 0], .on j' d => if j = j' then (if d.length ≤ 100000 then k (.sl 0 1 (nms d)) (.on j d) else none) else none
  | _, _ => none
theorem names_at {d : Dk} (hH : DiskAt H j d) (hl : d.length ≤ 100000) (h : ∀ H1, H.next ≤ H1.next → (∀ i, H1.get i = H.get i) → K (.sl 0 1 (nms d)) H1) : C 19 [.obj j 0] H K := by
  obtain ⟨m, c, L, hL, hp, hs, hz⟩ := hH
  refine F19.call ?_
  unfold F19.t
  simp only [hL.disk, hL.map, HS]
  have hlen : L.length = d.length := by rw [← hp.length_eq, List.length_map]
  refine names_loop (K := K) hL (by omega) (fun S hS => ?_) L.length [] c (by simp) .nil nofun
  rw [outN_strs]
  refine sortS_turn (by rw [List.length_map, hS.length_eq]; omega) fun H1 h1 h2 => ?_
  rw [sort_nms ((hS.map En.f).trans hp) hs, ← nms_strs]
  exact h H1 h1 h2
theorem DiskAt.same {H H1 : Heap} {d : Dk} (h : DiskAt H j d) (h1 : H.next ≤ H1.next) (h2 : ∀ i, H1.get i = H.get i) : DiskAt H1 j d := by
  obtain ⟨m, c, L, hL, hp, hs, hz⟩ := h
  exact ⟨m, c, L, hL.frame h1 fun i _ => h2 i, hp, hs, hz⟩
theorem NamesD.ls (hH : HR s H) (h : ∀ w s1 H1, HR s1 H1 → k w s1 = some r → K w H1) : NamesD.B [.obj j 0] s k = some r → C 19 [.obj j 0] H K := by
  intro e
  cases s with
  | non => cases e
  | on j' d =>
  simp only [NamesD.B] at e
  split at e
  case isFalse => cases e
  rename_i hj
  subst hj
  split at e
  case isFalse => cases e
  rename_i hl
  exact names_at hH hl fun H1 h1 h2 => h _ (.on j d) _ (DiskAt.same hH h1 h2) e
/-! Crash -/
def crN (f : Df) (k : Int) : Nat := f.sf + min k.toNat (f.dat.size - f.sf)
def crF (f : Df) (k : Int) : Df := ⟨f.nm, f.dat.extract 0 (crN f k), crN f k⟩
def keepAt : List (List AV) → Int
  | [] => 0
  | r :: _ => (ce r 0).toInt
def crashD : Dk → List (List AV) → Dk
  | [], _ => []
  | f :: d, xs => crF f (keepAt xs) :: crashD d xs.tail
theorem crN_le {f : Df} (h : f.sf ≤ f.dat.size) (k : Int) : f.sf ≤ crN f k ∧ crN f k ≤ f.dat.size := by unfold crN; omega
theorem crF_size {f : Df} (h : f.sf ≤ f.dat.size) (k : Int) : (crF f k).dat.size = crN f k := by
  have := crN_le h k
  simp only [crF, ByteArray.size_extract]
  omega
theorem bytesAV_take (s : ByteArray) (n : Nat) : bytesAV (s.extract 0 n) = (bytesAV s).take n := by simp [bytesAV, List.map_take]
theorem crash_put {m c : Nat} {A B : List En} {x : En} {d : Dk} {f : Df} {bf : Option (Nat × Nat)} (X Y : HB) (hL : Lay H j m c (A ++ x :: B)) (hq : ((A ++ B).map En.f).Perm (dwithout d x.f.nm)) (hs : Srt d) (hz : ∀ f ∈ d, f.dat.size ≤ 65536 ∧ f.sf ≤ f.dat.size) (hnm : f.nm = x.f.nm) (hb : blks ⟨x.b, f, x.j, bf⟩ = blks x)
    (hf : ∀ H' : Heap, H'.get x.j = Y → (∀ i, i ≠ x.j → H'.get i = H.get i) → FileAt H' ⟨x.b, f, x.j, bf⟩) (hzf : f.dat.size ≤ 65536 ∧ f.sf ≤ f.dat.size) : DiskAt ((H.set x.j X).set x.j Y) j (dput d f) := by
  obtain ⟨f1, f2, f3⟩ := hL.facts
  have hxj := f3 x.j (by simp [blks])
  have hne : ∀ i, i ≠ x.j → ((H.set x.j X).set x.j Y).get i = H.get i := fun i hi => by rw [set_get_ne _ _ hi, set_get_ne _ _ hi]
  refine DiskAt.put (L := A ++ ⟨x.b, f, x.j, bf⟩ :: B) (m := m) (c := c) (hL.rep (Nat.le_refl _) rfl hnm (hf _ (set_get_self _ _ _) hne) ?_ (fun i hi => hne i ?_) (by rw [hb]; exact f2) (by rw [hb]; exact fun k hk => (f3 k hk).1) (by rw [hb]; exact fun k hk => (f3 k hk).2)) perm_mid (by rw [hnm]; exact hq) hs hz hzf
  · rw [hne m (fun q => hxj.2 (by simp [q])), hL.map]
    simp [ent, hnm]
  · rintro rfl
    refine hxj.2 ?_
    rcases List.mem_cons.1 hi with q | q
    · rw [q]; exact List.mem_cons_self
    · exact List.mem_cons_of_mem _ (List.mem_cons_of_mem _ q)
theorem srt_congr {d e : Dk} (h : d.map Df.nm = e.map Df.nm) (hs : Srt d) : Srt e := by
  have h1 : (d.map Df.nm).Pairwise fun a b => ltS a b = true := List.pairwise_map.2 hs
  rw [h] at h1
  exact List.pairwise_map.1 h1
theorem put_at {pre post : Dk} {f f' : Df} (hs : Srt (pre ++ f :: post)) (hn : f'.nm = f.nm) : dput (pre ++ f :: post) f' = pre ++ f' :: post := by
  refine srt_uniq (hs.put f') (srt_congr (by simp [hn]) hs) ((put_perm _ _).trans ?_)
  have h1 : dwithout (pre ++ f :: post) f'.nm = pre ++ post := by
    have h2 := List.pairwise_append.1 hs
    obtain ⟨p1, p2, p3⟩ := h2
    have p4 := (List.pairwise_cons.1 p2).1
    unfold dwithout
    rw [List.filter_append, List.filter_cons, hn, eqS_t rfl]
    simp only [Bool.not_true, Bool.false_eq_true, if_false]
    congr 1
    · exact List.filter_eq_self.2 fun g hg => by rw [eqS_f (lt_ne (p3 g hg f (by simp)))]; rfl
    · exact List.filter_eq_self.2 fun g hg => by rw [eqS_f (fun q => lt_ne (p4 g hg) q.symm)]; rfl
  rw [h1]
  exact List.perm_middle.symm
theorem nms_get {pre post : Dk} {f : Df} : ro (nms (pre ++ f :: post)) (pre.length : Int).toNat = [.str f.nm] := nms_at rfl
theorem min_max {a k : Int} {p : Nat} (ha : a = p) : (cond (ltI 0 (cond (ltI a k) a k)) (cond (ltI a k) a k) 0 : Int) = ((min k.toNat p : Nat) : Int) := by
  subst ha
  have hc : ∀ (x y u v : Int), (cond (ltI x y) u v : Int) = if x < y then u else v := by
    intro x y u v
    unfold ltI
    by_cases h : x < y <;> simp [h]
  simp only [hc]
  split <;> split <;> omega
theorem cr_val {a k : Int} {sf size : Nat} (ha : a = size) (h : sf ≤ size) (hs : size ≤ 65536) : addW .i64 (sf : Int) (cond (ltI 0 (cond (ltI (subW .i64 a (sf : Int)) k) (subW .i64 a (sf : Int)) k)) (cond (ltI (subW .i64 a (sf : Int)) k) (subW .i64 a (sf : Int)) k) 0) = ((sf + min k.toNat (size - sf) : Nat) : Int) := by
  rw [subW_eq (by omega) (by omega), min_max (p := size - sf) (by omega), addW_eq (by omega) (by omega)]
  omega
theorem setR1 {a b v : AV} : setRange [a, b] 1 [v] = [a, v] := rfl
theorem setR0 {a b v : AV} : setRange [a, b] 0 [v] = [v, b] := rfl
def crCell (bf : Option (Nat × Nat)) (n : Nat) : AV := match bf with | none => .nilsl | some p => .hs p.1 0 n n 1
/-- A file after a crash, at its place. -/
theorem crash_file {b : Nat} {f : Df} {xj : Nat} {bf : Option (Nat × Nat)} {H H' : Heap} {n : Nat} {k : Int} (hn : crN f k = n) (hz : f.sf ≤ f.dat.size) (hf : FileAt H ⟨b, f, xj, bf⟩) (hd : (blks ⟨b, f, xj, bf⟩).Nodup)
    (h1 : H'.get xj = .cells [crCell bf n, .int .i64 (n : Int)]) (h2 : ∀ i, i ≠ xj → H'.get i = H.get i) : FileAt H' ⟨b, crF f k, xj, bf.map fun p => (p.1, n)⟩ := by
  have hs := crF_size hz k
  have hle := crN_le hz k
  cases bf with
  | none =>
    obtain ⟨g1, g2⟩ := hf
    simp only at g1
    exact ⟨by show (crF f k).dat.size = 0; omega, by show _ = HB.cells [.nilsl, .int .i64 (crN f k : Int)]; rw [h1, hn]; rfl⟩
  | some p =>
    obtain ⟨u, c0⟩ := p
    obtain ⟨g1, g2, ys, g3, g4, g5⟩ := hf
    simp only at g1 g2 g3 g4 g5
    have hux : u ≠ xj := by
      intro q
      subst q
      simp [blks] at hd
    refine ⟨?_, by show (crF f k).dat.size ≤ n; omega, ys, by rw [h2 u hux]; exact g3, ?_, by omega⟩
    · show _ = HB.cells [.hs u 0 (crF f k).dat.size n 1, .int .i64 (crN f k : Int)]
      rw [h1, hs, hn]; rfl
    · show ys.take (crF f k).dat.size = bytesAV (f.dat.extract 0 (crN f k))
      rw [bytesAV_take, ← g4, List.take_take, hs, Nat.min_eq_left hle.2]
theorem crash_loop {a1 : List (List AV)} (ha : ∀ r ∈ a1, (ce r 0).isInt .i64 = true) : ∀ (post pre : Dk) (H : Heap), (pre ++ post).length ≤ 100000 → DiskAt H j (pre ++ post) →
    (∀ H1, DiskAt H1 j (pre ++ crashD post (a1.drop pre.length)) → K (.tup []) H1) → F12.L0 j a1 K (nms (pre ++ post)) ((pre ++ post).length : Int) (pre.length : Int) H
  | [], pre, H, hlen, hH, h => by
    refine F12.L0_step ?_
    unfold F12.r0
    rw [cond_lt, if_neg (by simp)]
    exact h H (by simpa [crashD] using hH)
  | f :: post, pre, H, hlen, hH, h => by
    have hl2 : (pre ++ f :: post).length = pre.length + (post.length + 1) := by simp
    refine F12.L0_step ?_
    unfold F12.r0
    obtain ⟨m, c, L, hL, hp, hs, hz⟩ := id hH
    rcases find_case hL.nnd hp f.nm with ⟨a, b, q⟩ | ⟨A, x, B, rfl, hxn, hx, hg, hh, hm, hd, hq⟩
    · rw [get_of hs.nodup (by simp)] at b
      cases b
    obtain rfl : f = x.f := by
      rw [get_of hs.nodup (by simp)] at hg
      exact Option.some.inj hg
    have hxz := hz x.f (by simp)
    have hro : ro (nms (pre ++ x.f :: post)) (pre.length : Int).toNat = [.str x.f.nm] := nms_get
    have hstr : (AV.str x.f.nm).isStr = true := rfl
    have hstr2 : (AV.str x.f.nm).toStr = x.f.nm := rfl
    have h0 : leI 0 (pre.length : Int) = true := by rw [tt_le]; omega
    have h1 : ltI (pre.length : Int) (lenI (nms (pre ++ x.f :: post))) = true := by rw [tt_lt, nms_len]; omega
    have h2 : ltI (pre.length : Int) ((pre ++ x.f :: post).length : Int) = true := by rw [tt_lt]; omega
    simp only [h0, h1, h2, hro, HS, hstr, hstr2, hL.disk, hL.map, fits_all, hh, hm]
    have hinc : addW .i64 (pre.length : Int) 1 = ((pre.length + 1 : Nat) : Int) := by rw [addW_eq (by omega) (by omega)]; simp
    have nxt : ∀ (k : Int) (H1 : Heap), k = keepAt (a1.drop pre.length) → DiskAt H1 j (dput (pre ++ x.f :: post) (crF x.f k)) → F12.L0 j a1 K (nms (pre ++ x.f :: post)) ((pre ++ x.f :: post).length : Int) (addW .i64 (pre.length : Int) 1) H1 := by
      intro k H1 hk hD
      rw [put_at (f' := crF x.f k) hs rfl] at hD
      have ih := crash_loop ha post (pre ++ [crF x.f k]) H1 (by simp at hlen ⊢; omega) (by simpa using hD) fun H2 h2 => h H2 (by
        have : a1.drop (pre ++ [crF x.f k]).length = (a1.drop pre.length).tail := by simp
        rw [this] at h2
        simpa [crashD, hk] using h2)
      rw [hinc]
      have e1 : nms (pre ++ [crF x.f k] ++ post) = nms (pre ++ x.f :: post) := by simp [nms, crF]
      have e2 : (pre ++ [crF x.f k] ++ post).length = (pre ++ x.f :: post).length := by simp
      have e3 : (pre ++ [crF x.f k]).length = pre.length + 1 := by simp
      rw [e1, e2, e3] at ih
      exact ih
    have hf := hL.file x (by simp)
    obtain ⟨f1, f2, f3⟩ := hL.facts
    have go : ∀ (k : Int) (X Y : HB), k = keepAt (a1.drop pre.length) → Y = .cells [crCell x.bf (crN x.f k), .int .i64 (crN x.f k : Int)] →
        F12.L0 j a1 K (nms (pre ++ x.f :: post)) ((pre ++ x.f :: post).length : Int) (addW .i64 (pre.length : Int) 1) ((H.set x.j X).set x.j Y) := by
      intro k X Y hk hY
      have hsz := crF_size hxz.2 k
      have hle := crN_le hxz.2 k
      refine nxt k _ hk (crash_put (bf := x.bf.map fun p => (p.1, crN x.f k)) X Y hL hq hs hz rfl (by cases hb : x.bf <;> simp [blks, hb]) (fun H' h1 h2 => crash_file (b := x.b) (f := x.f) (xj := x.j) (bf := x.bf) (k := k) rfl hxz.2 hf f2 (h1.trans hY) h2) ⟨by omega, by show crN x.f k ≤ _; omega⟩)
    have hcr : ∀ k, crN x.f k = x.f.sf + min k.toNat (x.f.dat.size - x.f.sf) := fun _ => rfl
    obtain ⟨xb, xf, xj, bf⟩ := x
    simp only at hxz go hcr
    have hle2 : ∀ k, xf.sf ≤ crN xf k ∧ crN xf k ≤ xf.dat.size := crN_le hxz.2
    by_cases hk : pre.length < a1.length
    · have e1 : ltI (pre.length : Int) (lenI a1) = true := by rw [tt_lt]; simp only [lenI]; omega
      have e2 : a1.drop pre.length = a1[pre.length] :: a1.drop (pre.length + 1) := List.drop_eq_getElem_cons hk
      have e3 : ro a1 (pre.length : Int).toNat = a1[pre.length] := by simp [ro, hk]
      have e4 := ha a1[pre.length] (List.getElem_mem hk)
      have hkk : (ce a1[pre.length] 0).toInt = keepAt (a1.drop pre.length) := by rw [e2]; rfl
      simp only [e1, h0, e3, e4, HS]
      generalize (ce a1[pre.length] 0).toInt = kk at hkk ⊢
      cases bf with
      | none =>
        obtain ⟨g1, g2⟩ := hf
        simp only at g1 g2
        have hv : ∀ a : Int, a = 0 → addW .i64 (xf.sf : Int) (cond (ltI 0 (cond (ltI (subW .i64 a (xf.sf : Int)) kk) (subW .i64 a (xf.sf : Int)) kk)) (cond (ltI (subW .i64 a (xf.sf : Int)) kk) (subW .i64 a (xf.sf : Int)) kk) 0) = (crN xf kk : Int) := fun a h => cr_val (by omega) hxz.2 hxz.1
        have hn0 : crN xf kk = 0 := by have := hle2 kk; omega
        have e5 : eqI ((crN xf kk : Nat) : Int) 0 = true := by rw [tt_eq]; omega
        simp only [g2, HS, set_get_self, setR1, setR0, hv 0 rfl, e5, List.length_cons, List.length_nil]
        exact go kk _ _ hkk rfl
      | some p =>
        obtain ⟨u, c0⟩ := p
        obtain ⟨g1, g2, ys, g3, g4, g5⟩ := hf
        simp only at g1 g2
        have hv := cr_val (a := (xf.dat.size : Int)) (k := kk) rfl hxz.2 hxz.1
        rw [← hcr] at hv
        have hn := hle2 kk
        have e5 : leI 0 ((crN xf kk : Nat) : Int) = true := by rw [tt_le]; omega
        have e6 : leI ((crN xf kk : Nat) : Int) ((crN xf kk : Nat) : Int) = true := by rw [tt_le]; omega
        have e7 : leI ((crN xf kk : Nat) : Int) (c0 : Int) = true := by rw [tt_le]; omega
        simp only [g1, HS, set_get_self, setR1, setR0, hv, e5, e6, e7, List.length_cons, List.length_nil, Int.toNat_natCast]
        exact go kk _ _ hkk rfl
    · have e1 : ltI (pre.length : Int) (lenI a1) = false := by rw [ff_lt]; simp only [lenI]; omega
      have e2 : a1.drop pre.length = [] := List.drop_eq_nil_iff.2 (by omega)
      have hkk : (0 : Int) = keepAt (a1.drop pre.length) := by rw [e2]; rfl
      simp only [e1, HS]
      have hv : addW .i64 (xf.sf : Int) 0 = (crN xf 0 : Int) := by rw [addW_eq (by omega) (by omega), hcr]; simp
      cases bf with
      | none =>
        obtain ⟨g1, g2⟩ := hf
        simp only at g1 g2
        have hn0 : crN xf 0 = 0 := by have := hle2 0; omega
        have e5 : eqI ((crN xf 0 : Nat) : Int) 0 = true := by rw [tt_eq]; omega
        simp only [g2, HS, set_get_self, setR1, setR0, hv, e5, List.length_cons, List.length_nil]
        exact go 0 _ _ hkk rfl
      | some p =>
        obtain ⟨u, c0⟩ := p
        obtain ⟨g1, g2, ys, g3, g4, g5⟩ := hf
        simp only at g1 g2
        have hn := hle2 0
        have e5 : leI 0 ((crN xf 0 : Nat) : Int) = true := by rw [tt_le]; omega
        have e6 : leI ((crN xf 0 : Nat) : Int) ((crN xf 0 : Nat) : Int) = true := by rw [tt_le]; omega
        have e7 : leI ((crN xf 0 : Nat) : Int) (c0 : Int) = true := by rw [tt_le]; omega
        simp only [g1, HS, set_get_self, setR1, setR0, hv, e5, e6, e7, List.length_cons, List.length_nil, Int.toNat_natCast]
        exact go 0 _ _ hkk rfl
noncomputable def CrashD.B (args : List AV) (s : Sg) (k : AV → Sg → Option β) : Option β :=
  match args, s with
  | [.obj j 0, .sl 0 1 xs], .on j' d => if j = j' then (if d.length ≤ 100000 ∧ ∀ r ∈ xs, (ce r 0).isInt .i64 = true then k (.tup []) (.on j (crashD d xs)) else none) else none
  | _, _ => none
theorem CrashD.ls (hH : HR s H) (h : ∀ w s1 H1, HR s1 H1 → k w s1 = some r → K w H1) : CrashD.B [.obj j 0, .sl 0 1 xs] s k = some r → C 12 [.obj j 0, .sl 0 1 xs] H K := by
  intro e
  cases s with
  | non => cases e
  | on j' d =>
  simp only [CrashD.B] at e
  split at e
  case isFalse => cases e
  rename_i hj
  subst hj
  split at e
  case isFalse => cases e
  rename_i hl
  refine F12.call ?_
  unfold F12.t
  refine names_at hH hl.1 fun H1 h1 h2 => ?_
  rw [G_sl]
  have hs : (AV.sl 0 1 (nms d)).slXs = nms d := rfl
  rw [hs, nms_len]
  exact crash_loop (K := K) hl.2 d [] H1 hl.1 (DiskAt.same hH h1 h2) fun H2 h3 => h _ (.on j (crashD d xs)) _ h3 e
end
end Go.Proofs.Ytbkkhhmjmbbfpaa.Ab
