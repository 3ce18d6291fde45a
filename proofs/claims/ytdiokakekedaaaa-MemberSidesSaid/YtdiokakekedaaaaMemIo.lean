/- Member: the functions that turn the slice that they are handed. -/
import Derived.Test.YtdiokakekedaaaaMemIns
import Derived.Test.YtdiokakekedaaaaAbP
namespace Go.Proofs.Ytdiokakekedaaaa.Ab
open Go
set_option linter.unusedSimpArgs false

/-! Consecutive equal numbers -/
def compT : Int → List Int → List Int
  | _, [] => []
  | p, x :: r => if x = p then compT p r else x :: compT x r
def comp : List Int → List Int
  | [] => []
  | z :: zs => z :: compT z zs
theorem compT_len : ∀ (p : Int) (l : List Int), (compT p l).length ≤ l.length
  | _, [] => by simp [compT]
  | p, x :: r => by
    simp only [compT]
    split
    · have := compT_len p r; simp; omega
    · have := compT_len x r; simp; omega
theorem comp_len (l : List Int) : (comp l).length ≤ l.length := by
  cases l with
  | nil => simp [comp]
  | cons z zs => have := compT_len z zs; simp [comp]; omega

/-! A heap of which one block is turned -/
structure Blk (H0 H : Heap) (j k : Nat) (xs : List (List AV)) : Prop where
  next : H.next = H0.next
  ne : ∀ i, i ≠ j → H.get i = H0.get i
  get : H.get j = .rows k xs
theorem Blk.set {H0 H : Heap} {j k : Nat} {xs ys : List (List AV)} (h : Blk H0 H j k xs) : Blk H0 (H.set j (.rows k ys)) j k ys :=
  ⟨h.next, fun i hi => by rw [set_get_ne _ _ hi]; exact h.ne i hi, set_get_self _ _ _⟩
theorem length_ints {l : List Int} : (ints l).length = l.length := by simp [ints]
theorem td_get {cur : List (List AV)} {n a : Nat} {l : List Int} (h : (cur.take n).drop a = ints l) {i : Nat} {z : Int} (hz : l[i]? = some z) : cur[a + i]? = some [.int .i64 z] := by
  have h1 : ((cur.take n).drop a)[i]? = some [.int .i64 z] := by rw [h]; simp [ints, hz]
  rw [List.getElem?_drop, List.getElem?_take] at h1
  split at h1
  · exact h1
  · cases h1
theorem ce_1 {x : AV} : ce [x] 0 = x := rfl
theorem set1 {r : List AV} {x : AV} (h : r.length = 1) : r.set 0 x = [x] := by
  match r, h with
  | [y], _ => rfl

/-! slices.Compact -/
section
variable {j n c : Nat} {zs : List Int} {Q : AV → Heap → Prop} {H0 : Heap}
theorem F42.l1 (hn : zs.length = n) (hnc : n ≤ c) (hb : n ≤ 100000)
    (hQ : ∀ (m : Nat) (H' : Heap) (ys : List (List AV)), Blk H0 H' j 1 ys → ys.length = c → m ≤ n → ys.take m = ints (comp zs) → Q (.hs j 0 m c 1) H') :
    ∀ (post pre : List Int) (p : Int) (W : List Int) (cur : List (List AV)) (k0 k2 : Nat) (H : Heap), zs = pre ++ p :: post → k0 + k2 = pre.length + 1 → 1 ≤ k2 → W.length ≤ pre.length + 1 → (W.length = pre.length + 1 → k0 + k2 = W.length ∧ False) → Blk H0 H j 1 cur → cur.length = c → (∀ r ∈ cur, r.length = 1) →
      cur.take W.length = ints W → (cur.take n).drop pre.length = ints (p :: post) → comp zs = W ++ compT p post → F42h.L1 j n c Q (W.length : Int) j k0 (n - k0) (c - k0) (k2 : Int) H
  | [], pre, p, W, cur, k0, k2, H, hz, hk, hk2, hW, hW', hB, hl, h1, hw, hd, hc => by
    have hlen : pre.length + 1 = n := by rw [← hn, hz]; simp
    have hWn : W.length ≤ n := by omega
    refine F42h.L1_step ?_
    unfold F42h.r1
    rw [hB.get]
    simp only [isRows_rows, xs_rows]
    ((try simp only [G_int, G_bool, G_str, G_sl, G_own, toInt_int, toBool_bool, toStr_str, slXs_sl]); (try simp only [ci_lt, ci_le, ci_eq, ci_eqS, ci_nblt, ci_nble, cond_not, G_lt, G_le, G_eq, G_nble, G_nblt, G_room, G_roomN, cond_true, cond_false, G_true, Nat.add_zero]))
    refine ⟨fun e => absurd e (by omega), fun _ => ?_⟩
    rw [Int.toNat_natCast, hl, Nat.zero_add]
    refine ⟨by omega, by omega, by omega, by omega, by omega, by omega, by omega, by omega, ?_⟩
    simp only [compT, List.append_nil] at hc
    have hs : (splice cur W.length (List.replicate (n - W.length) [AV.int .i64 0])).length = c := by rw [splice_length (by simp; omega), hl]
    refine hQ W.length _ _ hB.set hs hWn ?_
    rw [hc, splice, List.append_assoc, List.take_append_of_le_length (by simp; omega), List.take_take, Nat.min_self]
    exact hw
  | x :: post, pre, p, W, cur, k0, k2, H, hz, hk, hk2, hW, hW', hB, hl, h1, hw, hd, hc => by
    have hlen : pre.length + (post.length + 2) = n := by rw [← hn, hz]; simp
    have gp : cur[pre.length + 0]? = some [.int .i64 p] := td_get hd rfl
    have gx : cur[pre.length + 1]? = some [.int .i64 x] := td_get hd rfl
    have hWp : W.length ≤ pre.length := by
      rcases Nat.lt_or_ge W.length (pre.length + 1) with h | h
      · omega
      · exact (hW' (by omega)).2.elim
    have e1 : cur.getD (k0 + ((k2 : Int)).toNat) [] = [.int .i64 x] := by
      rw [Int.toNat_natCast, List.getD_eq_getElem?_getD, show k0 + k2 = pre.length + 1 by omega, gx]; rfl
    have e2 : cur.getD (k0 + (subW .i64 (k2 : Int) 1).toNat) [] = [.int .i64 p] := by
      rw [subW_eq (by omega) (by omega), List.getD_eq_getElem?_getD, show k0 + ((k2 : Int) - 1).toNat = pre.length + 0 by omega, gp]; rfl
    have hd' : (cur.take n).drop (pre.length + 1) = ints (x :: post) := by
      rw [← List.drop_drop, hd]; simp [ints]
    refine F42h.L1_step ?_
    unfold F42h.r1
    rw [hB.get]
    simp only [isRows_rows, xs_rows, e1, e2, ce_1]
    ((try simp only [G_int, G_bool, G_str, G_sl, G_own, toInt_int, toBool_bool, toStr_str, slXs_sl]); (try simp only [ci_lt, ci_le, ci_eq, ci_eqS, ci_nblt, ci_nble, cond_not, G_lt, G_le, G_eq, G_nble, G_nblt, G_room, G_roomN, cond_true, cond_false, G_true, Nat.add_zero]))
    rw [subW_eq (by omega) (by omega), Int.toNat_natCast, Nat.zero_add]
    have hz' : zs = (pre ++ [p]) ++ x :: post := by rw [hz]; simp
    refine ⟨fun _ => ⟨by omega, by omega, by omega, by omega, fun e => ?_, fun e => ⟨by omega, by omega, by omega, by omega, by omega, ?_⟩⟩, fun e => absurd e (by omega)⟩
    · -- the same number once more
      subst e
      rw [addW_eq (by omega) (by omega)]
      have := F42.l1 hn hnc hb hQ post (pre ++ [x]) x W cur k0 (k2 + 1) H hz' (by simp; omega) (by omega) (by simp; omega) (fun h => by simp at h; omega) hB hl h1 hw (by rw [List.length_append]; exact hd') (by rw [hc]; simp [compT])
      exact this
    · -- another number
      have hrow : (cur.getD W.length []).length = 1 := by
        rw [List.getD_eq_getElem?_getD, List.getElem?_eq_getElem (by omega), Option.getD_some]
        exact h1 _ (List.getElem_mem _)
      rw [set1 hrow, addW_eq (by omega) (by omega), addW_eq (by omega) (by omega)]
      have := F42.l1 hn hnc hb hQ post (pre ++ [p]) x (W ++ [x]) (cur.set W.length [.int .i64 x]) k0 (k2 + 1) (H.set j (.rows 1 (cur.set W.length [.int .i64 x]))) hz' (by simp; omega) (by omega) (by simp; omega) (fun h => by simp at h; omega) hB.set (by simpa using hl)
        (fun r hr => by
          rcases List.mem_or_eq_of_mem_set hr with hr | rfl
          · exact h1 r hr
          · rfl)
        (by
          rw [List.length_append, List.length_singleton]
          have : W.length < cur.length := by omega
          rw [List.take_set, List.take_add_one, List.set_append_right _ _ (by rw [List.length_take]; omega), List.length_take, Nat.min_eq_left (by omega), Nat.sub_self, List.getElem?_eq_getElem this, hw]
          simp [ints])
        (by
          rw [List.length_append, List.length_singleton, List.take_set, List.drop_set_of_lt (by omega)]
          exact hd')
        (by rw [hc]; simp [compT, e])
      rw [List.length_append, List.length_singleton] at this
      exact this
theorem F42.l0 (hn : zs.length = n) (hnc : n ≤ c) (hb : n ≤ 100000) {xs : List (List AV)} {H : Heap} (hB : Blk H0 H j 1 xs) (hl : xs.length = c) (h1 : ∀ r ∈ xs, r.length = 1) (hx : xs.take n = ints zs)
    (hQ : ∀ (m : Nat) (H' : Heap) (ys : List (List AV)), Blk H0 H' j 1 ys → ys.length = c → m ≤ n → ys.take m = ints (comp zs) → Q (.hs j 0 m c 1) H') :
    ∀ (post pre : List Int) (p : Int), zs = pre ++ p :: post → comp zs = (pre ++ [p]) ++ compT p post → F42h.L0 j n c Q (pre.length + 1 : Int) H
  | [], pre, p, hz, hc => by
    have hlen : pre.length + 1 = n := by rw [← hn, hz]; simp
    refine F42h.L0_step ?_
    unfold F42h.r0
    rw [hB.get]
    simp only [isRows_rows, xs_rows]
    ((try simp only [G_int, G_bool, G_str, G_sl, G_own, toInt_int, toBool_bool, toStr_str, slXs_sl]); (try simp only [ci_lt, ci_le, ci_eq, ci_eqS, ci_nblt, ci_nble, cond_not, G_lt, G_le, G_eq, G_nble, G_nblt, G_room, G_roomN, cond_true, cond_false, G_true, Nat.add_zero]))
    refine ⟨fun e => absurd e (by omega), fun _ => hQ n H xs hB hl (Nat.le_refl _) ?_⟩
    rw [hx, hc, hz]
    simp [compT]
  | x :: post, pre, p, hz, hc => by
    have hlen : pre.length + (post.length + 2) = n := by rw [← hn, hz]; simp
    have hd : (xs.take n).drop pre.length = ints (p :: x :: post) := by rw [hx, hz]; simp [ints]
    have gp : xs[pre.length + 0]? = some [.int .i64 p] := td_get hd rfl
    have gx : xs[pre.length + 1]? = some [.int .i64 x] := td_get hd rfl
    have e1 : xs.getD (0 + (pre.length + 1 : Int).toNat) [] = [.int .i64 x] := by
      rw [List.getD_eq_getElem?_getD, show 0 + (pre.length + 1 : Int).toNat = pre.length + 1 by omega, gx]; rfl
    have e2 : xs.getD (0 + (subW .i64 (pre.length + 1 : Int) 1).toNat) [] = [.int .i64 p] := by
      rw [subW_eq (by omega) (by omega), List.getD_eq_getElem?_getD, show 0 + ((pre.length : Int) + 1 - 1).toNat = pre.length + 0 by omega, gp]; rfl
    have hz' : zs = (pre ++ [p]) ++ x :: post := by rw [hz]; simp
    refine F42h.L0_step ?_
    unfold F42h.r0
    rw [hB.get]
    simp only [isRows_rows, xs_rows, e1, e2, ce_1]
    ((try simp only [G_int, G_bool, G_str, G_sl, G_own, toInt_int, toBool_bool, toStr_str, slXs_sl]); (try simp only [ci_lt, ci_le, ci_eq, ci_eqS, ci_nblt, ci_nble, cond_not, G_lt, G_le, G_eq, G_nble, G_nblt, G_room, G_roomN, cond_true, cond_false, G_true, Nat.add_zero]))
    rw [subW_eq (by omega) (by omega)]
    refine ⟨fun _ => ⟨by omega, by omega, by omega, by omega, fun e => ⟨by omega, by omega, by omega, by omega, ?_⟩, fun e => ?_⟩, fun e => absurd e (by omega)⟩
    · subst e
      rw [show 0 + (pre.length + 1 : Int).toNat = pre.length + 1 by omega, show (pre.length + 1 : Int).toNat = pre.length + 1 by omega]
      have := F42.l1 hn hnc hb hQ post (pre ++ [x]) x (pre ++ [x]) xs (pre.length + 1) 1 H hz' (by simp) (by omega) (by simp) (fun h => by simp at h) hB hl h1 (by
        rw [List.length_append, List.length_singleton]
        have : xs.take (pre.length + 1) = (xs.take n).take (pre.length + 1) := by rw [List.take_take, Nat.min_eq_left (by omega)]
        rw [this, hx, hz]
        simp [ints, List.take_append, List.take_of_length_le])
        (by rw [List.length_append, List.length_singleton, ← List.drop_drop, hd]; simp [ints]) (by rw [hc]; simp [compT])
      rw [List.length_append, List.length_singleton] at this
      exact this
    · rw [addW_eq (by omega) (by omega)]
      have := F42.l0 hn hnc hb hB hl h1 hx hQ post (pre ++ [p]) x hz' (by rw [hc]; simp [compT, e])
      rw [List.length_append, List.length_singleton] at this
      exact this
theorem F42.spec (hn : zs.length = n) (hnc : n ≤ c) (hb : n ≤ 100000) {xs : List (List AV)} {H : Heap} (hB : Blk H0 H j 1 xs) (hl : xs.length = c) (h1 : ∀ r ∈ xs, r.length = 1) (hx : xs.take n = ints zs)
    (hQ : ∀ (m : Nat) (H' : Heap) (ys : List (List AV)), Blk H0 H' j 1 ys → ys.length = c → m ≤ n → ys.take m = ints (comp zs) → Q (.hs j 0 m c 1) H') : C 42 [.hs j 0 n c 1] H Q := by
  refine F42h.call ?_
  unfold F42h.t
  ((try simp only [G_int, G_bool, G_str, G_sl, G_own, toInt_int, toBool_bool, toStr_str, slXs_sl]); (try simp only [ci_lt, ci_le, ci_eq, ci_eqS, ci_nblt, ci_nble, cond_not, G_lt, G_le, G_eq, G_nble, G_nblt, G_room, G_roomN, cond_true, cond_false, G_true, Nat.add_zero]))
  refine ⟨fun e => hQ n H xs hB hl (Nat.le_refl _) ?_, fun e => ?_⟩
  · rw [hx]
    match zs, hn with
    | [], _ => rfl
    | [z], _ => rfl
    | _ :: _ :: _, hn => simp at hn; omega
  · match zs, hn with
    | z :: r, hn =>
      have := F42.l0 hn hnc hb hB hl h1 hx hQ r [] z rfl rfl
      simpa using this
    | [], hn => simp at hn; omega
end

/-! slices.Sort, member.unique, and what a caller has of them -/
def sorted (zs : List Int) : List Int := zs.mergeSort fun x y => decide (x ≤ y)
theorem sorted_len (zs : List Int) : (sorted zs).length = zs.length := List.length_mergeSort _
theorem F41.spec {j o n c : Nat} {xs : List (List AV)} {zs : List Int} {H : Heap} {Q : AV → Heap → Prop} (hj : H.get j = .rows 1 xs) (hn : zs.length = n) (hb : n ≤ 100000) (hle : o + n ≤ xs.length) (hz : (xs.drop o).take n = ints zs)
    (hQ : Q (.tup []) (H.set j (.rows 1 (splice xs o (ints (sorted zs)))))) : C 41 [.hs j o n c 1] H Q := by
  refine Call_intro (E := E0) ?_
  show ∃ Q' : AV → Heap → Prop, (∀ v H, Q' v H → Q v H) ∧ E0.leaf 41 [.hs j o n c 1] H Q'
  exact ⟨Q, fun _ _ h => h, rfl, .inl ⟨j, o, n, c, xs, zs, rfl, hj, hn, by omega, hle, hz, hQ⟩⟩
theorem F41.nil {H : Heap} {Q : AV → Heap → Prop} (hQ : Q (.tup []) H) : C 41 [.nilsl] H Q := by
  refine Call_intro (E := E0) ?_
  show ∃ Q' : AV → Heap → Prop, (∀ v H, Q' v H → Q v H) ∧ E0.leaf 41 [.nilsl] H Q'
  exact ⟨Q, fun _ _ h => h, rfl, .inr ⟨rfl, hQ⟩⟩
theorem isHs_hs {j o n c k : Nat} {p : Prop} : G ((AV.hs j o n c k).isHs k) p = p := by simp [AV.isHs, G]
theorem F34.spec {j n c : Nat} {zs : List Int} {xs : List (List AV)} {H0 H : Heap} {Q : AV → Heap → Prop} (hn : zs.length = n) (hnc : n ≤ c) (hb : n ≤ 100000) (hB : Blk H0 H j 1 xs) (hl : xs.length = c) (h1 : ∀ r ∈ xs, r.length = 1) (hx : xs.take n = ints zs)
    (hQ : ∀ (m : Nat) (H' : Heap) (ys : List (List AV)), Blk H0 H' j 1 ys → ys.length = c → m ≤ n → ys.take m = ints (comp (sorted zs)) → Q (.hs j 0 m c 1) H') : C 34 [.hs j 0 n c 1] H Q := by
  refine F34h.call ?_
  unfold F34h.t
  refine F41.spec hB.get hn hb (by omega) (by rw [List.drop_zero]; exact hx) ?_
  have hs : (ints (sorted zs)).length = n := by rw [length_ints, sorted_len, hn]
  refine F42.spec (zs := sorted zs) (by rw [sorted_len]; exact hn) hnc hb (hB.set (ys := splice xs 0 (ints (sorted zs)))) (by rw [splice_length (by omega), hl]) (fun r hr => ?_) ?_ fun m H' ys h1 h2 h3 h4 => ?_
  · simp only [splice, List.take_zero, List.nil_append, List.mem_append] at hr
    rcases hr with hr | hr
    · simp only [ints, List.mem_map] at hr
      obtain ⟨z, _, rfl⟩ := hr
      rfl
    · exact h1 r (List.mem_of_mem_drop hr)
  · simp only [splice, List.take_zero, List.nil_append]
    rw [List.take_append_of_le_length (by omega), List.take_of_length_le (by omega)]
  · rw [isHs_hs]
    exact hQ m H' ys h1 h2 h3 h4

theorem same_of_blk {H H' : Heap} {k : Nat} {xs ys : List (List AV)} (h : Blk (H.push (.rows k xs)) H' H.next k ys) : H.Same H' := fun i hi => by rw [h.ne i (by omega), push_get_ne _ _ (by omega)]
theorem pad1 {m : Nat} {zs : List Int} (hm : zs.length ≤ m) : (pad 1 m (ints zs)).length = m ∧ (∀ r ∈ pad 1 m (ints zs), r.length = 1) ∧ (pad 1 m (ints zs)).take zs.length = ints zs := by
  refine ⟨pad_length (by rw [length_ints]; exact hm), fun r hr => ?_, ?_⟩
  · simp only [pad, List.mem_append, List.mem_replicate] at hr
    rcases hr with hr | ⟨_, rfl⟩
    · simp only [ints, List.mem_map] at hr
      obtain ⟨z, _, rfl⟩ := hr
      rfl
    · rfl
  · obtain ⟨R, hR⟩ : ∃ R, pad 1 m (ints zs) = ints zs ++ R := pad_eq
    rw [hR, take_ab length_ints]
theorem blk_push (H : Heap) (k : Nat) (xs : List (List AV)) : Blk (H.push (.rows k xs)) (H.push (.rows k xs)) H.next k xs := ⟨rfl, fun _ _ => rfl, push_get_self _ _⟩
theorem sort_turn {zs : List Int} (hb : zs.length ≤ 100000) {H : Heap} {K : List (List AV) → Heap → Prop} (h : ∀ H, K (ints (sorted zs)) H) : ioTurn C 41 1 (ints zs) [] H K := by
  refine ⟨fun m hm _ => ?_, fun e => ?_⟩
  · rw [length_ints] at hm ⊢
    obtain ⟨p1, p2, p3⟩ := pad1 hm
    refine F41.spec (push_get_self _ _) rfl hb (by rw [p1]; omega) (by rw [List.drop_zero]; exact p3) ?_
    have hs : (ints (sorted zs)).length = zs.length := by rw [length_ints, sorted_len]
    refine ⟨rfl, same_of_blk ((blk_push H 1 _).set), _, set_get_self _ _ _, by rw [splice_length (by rw [p1]; omega), p1], ?_⟩
    simp only [splice, List.take_zero, List.nil_append]
    rw [List.take_append_of_le_length (by omega), List.take_of_length_le (by omega)]
    exact h _
  · obtain rfl : zs = [] := by cases zs with | nil => rfl | cons z zs => simp [ints] at e
    exact F41.nil ⟨rfl, by have := h H; rwa [show ints (sorted []) = [] by simp [sorted, ints]] at this⟩
/-- The slice that was handed over, or a part of it, is handed back. -/
theorem back_of {f : Nat} {zs rs : List Int} {H : Heap} {K : List (List AV) → Heap → Prop} (h : ∀ H, K (ints rs) H)
    (hc : ∀ {j n c : Nat} {xs : List (List AV)} {H0 H : Heap} {Q : AV → Heap → Prop}, zs.length = n → n ≤ c → Blk H0 H j 1 xs → xs.length = c → (∀ r ∈ xs, r.length = 1) → xs.take n = ints zs →
      (∀ (m : Nat) (H' : Heap) (ys : List (List AV)), Blk H0 H' j 1 ys → ys.length = c → m ≤ n → ys.take m = ints rs → Q (.hs j 0 m c 1) H') → C f [.hs j 0 n c 1] H Q)
    (hnil : zs = [] → ∀ {H : Heap} {Q : AV → Heap → Prop}, Q .nilsl H → C f [.nilsl] H Q) (hz : zs = [] → rs = []) : ioBack C f 1 (ints zs) [] H K := by
  refine ⟨fun m hm _ => ?_, fun e => ?_⟩
  · rw [length_ints] at hm ⊢
    obtain ⟨p1, p2, p3⟩ := pad1 hm
    refine hc rfl hm (blk_push H 1 _) p1 p2 p3 fun q H' ys h1 h2 h3 h4 => ?_
    refine ⟨same_of_blk h1, by rw [h1.get]; simp, ?_⟩
    exact .inl ⟨H.next, q, m, ys, rfl, Nat.le_refl _, h1.get, h2, by omega, by rw [h4]; exact h _⟩
  · obtain rfl : zs = [] := by cases zs with | nil => rfl | cons z zs => simp [ints] at e
    refine hnil rfl ⟨fun _ _ => rfl, .inr ⟨rfl, ?_⟩⟩
    have := h H
    rwa [hz rfl] at this
theorem comp_back {zs : List Int} (hb : zs.length ≤ 100000) {H : Heap} {K : List (List AV) → Heap → Prop} (h : ∀ H, K (ints (comp zs)) H) : ioBack C 42 1 (ints zs) [] H K :=
  back_of h (fun hn hnc hB hl h1 hx hQ => F42.spec hn hnc (by omega) hB hl h1 hx hQ) (fun _ _ _ h => F42n.call h) (fun e => by rw [e]; rfl)
theorem unique_back {zs : List Int} (hb : zs.length ≤ 100000) {H : Heap} {K : List (List AV) → Heap → Prop} (h : ∀ H, K (ints (comp (sorted zs))) H) : ioBack C 34 1 (ints zs) [] H K :=
  back_of h (fun hn hnc hB hl h1 hx hQ => F34.spec hn hnc (by omega) hB hl h1 hx hQ) (fun _ _ _ h => by
    refine F34n.call ?_
    unfold F34n.t
    refine F41.nil ?_
    refine F42n.call ?_
    exact h) (fun e => by rw [e]; simp [sorted, comp])

/-! The same as functions -/
def toInts (xs : List (List AV)) : List Int := xs.map fun r => (r.getD 0 .any).toInt
theorem toInts_ints (zs : List Int) : toInts (ints zs) = zs := by
  unfold toInts ints
  rw [List.map_map]
  exact (List.map_congr_left fun z _ => rfl).trans (List.map_id zs)
namespace SortP
open Classical in
noncomputable def P (k : Nat) (xs : List (List AV)) (args : List AV) : Option (List (List AV)) :=
  if k = 1 ∧ args = [] ∧ xs = ints (toInts xs) ∧ xs.length ≤ 100000 then some (ints (sorted (toInts xs))) else none
theorem of {zs : List Int} (h : zs.length ≤ 100000) : P 1 (ints zs) [] = some (ints (sorted zs)) := by
  unfold P
  rw [toInts_ints, if_pos ⟨rfl, rfl, rfl, by rw [length_ints]; exact h⟩]
theorem ls {k : Nat} {xs : List (List AV)} {args : List AV} {v : AV} {H : Heap} {kk : List (List AV) → Option AV} {K : List (List AV) → Heap → Prop} (h : ∀ y H, kk y = some v → K y H) : (P k xs args).bind kk = some v → ioTurn C 41 k xs args H K := by
  unfold P
  split
  · rename_i hc
    obtain ⟨rfl, rfl, hx, hl⟩ := hc
    intro e
    rw [hx] at hl ⊢
    rw [length_ints] at hl
    exact sort_turn hl fun H => h _ H e
  · exact nofun
end SortP
namespace CompP
open Classical in
noncomputable def P (k : Nat) (xs : List (List AV)) (args : List AV) : Option (List (List AV)) :=
  if k = 1 ∧ args = [] ∧ xs = ints (toInts xs) ∧ xs.length ≤ 100000 then some (ints (comp (toInts xs))) else none
theorem of {zs : List Int} (h : zs.length ≤ 100000) : P 1 (ints zs) [] = some (ints (comp zs)) := by
  unfold P
  rw [toInts_ints, if_pos ⟨rfl, rfl, rfl, by rw [length_ints]; exact h⟩]
theorem ls {k : Nat} {xs : List (List AV)} {args : List AV} {v : AV} {H : Heap} {kk : List (List AV) → Option AV} {K : List (List AV) → Heap → Prop} (h : ∀ y H, kk y = some v → K y H) : (P k xs args).bind kk = some v → ioBack C 42 k xs args H K := by
  unfold P
  split
  · rename_i hc
    obtain ⟨rfl, rfl, hx, hl⟩ := hc
    intro e
    rw [hx] at hl ⊢
    rw [length_ints] at hl
    exact comp_back hl fun H => h _ H e
  · exact nofun
end CompP
namespace UniP
open Classical in
noncomputable def P (k : Nat) (xs : List (List AV)) (args : List AV) : Option (List (List AV)) :=
  if k = 1 ∧ args = [] ∧ xs = ints (toInts xs) ∧ xs.length ≤ 100000 then some (ints (comp (sorted (toInts xs)))) else none
theorem of {zs : List Int} (h : zs.length ≤ 100000) : P 1 (ints zs) [] = some (ints (comp (sorted zs))) := by
  unfold P
  rw [toInts_ints, if_pos ⟨rfl, rfl, rfl, by rw [length_ints]; exact h⟩]
theorem ls {k : Nat} {xs : List (List AV)} {args : List AV} {v : AV} {H : Heap} {kk : List (List AV) → Option AV} {K : List (List AV) → Heap → Prop} (h : ∀ y H, kk y = some v → K y H) : (P k xs args).bind kk = some v → ioBack C 34 k xs args H K := by
  unfold P
  split
  · rename_i hc
    obtain ⟨rfl, rfl, hx, hl⟩ := hc
    intro e
    rw [hx] at hl ⊢
    rw [length_ints] at hl
    exact unique_back hl fun H => h _ H e
  · exact nofun
end UniP
namespace InsP
noncomputable def P (k : Nat) (xs : List (List AV)) : List AV → Option (List (List AV))
  | [.int .i64 i, .sl 0 2 [d]] => if k = 2 ∧ 0 ≤ i ∧ i ≤ xs.length ∧ xs.length ≤ 100000 then some (xs.take i.toNat ++ d :: xs.drop i.toNat) else none
  | _ => none
theorem ls {k : Nat} {xs : List (List AV)} {args : List AV} {v : AV} {H : Heap} {kk : List (List AV) → Option AV} {K : List (List AV) → Heap → Prop} (h : ∀ y H, kk y = some v → K y H) : (P k xs args).bind kk = some v → ioBack C 33 k xs args H K := by
  unfold P
  split
  · rename_i i d
    split
    · rename_i hc
      obtain ⟨rfl, h0, h1, h2⟩ := hc
      intro e
      obtain ⟨q, rfl⟩ : ∃ q : Nat, i = q := ⟨i.toNat, by omega⟩
      exact insert33_spec (by omega) h2 fun H => h _ H (by simpa using e)
    · exact nofun
  · exact nofun
end InsP
end Go.Proofs.Ytdiokakekedaaaa.Ab
