/- slices.Insert of one element, into a slice of the frame's own. -/
import Derived.Test.YtkjmkhgaghighaaHealTwo
import Derived.Test.YtkjmkhgaghighaaAbHeap
namespace Go.Proofs.Ytkjmkhgaghighaa.Ab
open Go
set_option linter.unusedSimpArgs false

section
variable {Z A B R : List (List AV)} {d : List AV}
theorem splice_mid {X A B R Y : List (List AV)} {o : Nat} (h : X = A ++ B ++ R) (ho : A.length = o) (hB : B.length = Y.length) : splice X o Y = A ++ Y ++ R := by
  subst h
  unfold splice
  have e : o + Y.length = (A ++ B).length := by simp [ho, hB]
  rw [e, List.drop_left, List.append_assoc A B R, ← ho, List.take_left]
theorem pad_length {k m : Nat} {xs : List (List AV)} (h : xs.length ≤ m) : (pad k m xs).length = m := by simp [pad]; omega
theorem pad_eq {k m : Nat} {xs : List (List AV)} : ∃ R, pad k m xs = xs ++ R := ⟨_, rfl⟩
theorem take_ab {A B : List (List AV)} {n : Nat} (h : A.length = n) : (A ++ B).take n = A := by subst h; simp
theorem drop_ab {A B : List (List AV)} {n : Nat} (h : A.length = n) : (A ++ B).drop n = B := by subst h; simp
/-- Room: what was behind is laid one further on. -/
theorem ins_here {a b : Nat} (hA : A.length = a) (hB : B.length = b) (hR : 0 < R.length) : (splice (splice (A ++ B ++ R) (a + 1) ((((A ++ B ++ R).drop a).take (a + b + 1 - a)).take (a + b + 1 - (a + 1)))) a ([d].take (a + b + 1 - a))).take (a + b + 1) = A ++ d :: B := by
  have e1 : ((A ++ B ++ R).drop a).take (a + b + 1 - a) = (B ++ R).take (b + 1) := by rw [List.append_assoc, drop_ab hA]; congr 1; omega
  have e2 : ((B ++ R).take (b + 1)).take (a + b + 1 - (a + 1)) = B := by rw [List.take_take, show min (a + b + 1 - (a + 1)) (b + 1) = b by omega, take_ab hB]
  have e3 : [d].take (a + b + 1 - a) = [d] := by rw [show a + b + 1 - a = b + 1 by omega]; simp
  rw [e1, e2, e3]
  -- the first cell behind A
  obtain ⟨x, T, hx⟩ : ∃ x T, B ++ R = x :: T := by
    cases hh : B ++ R with
    | nil => have := congrArg List.length hh; rw [List.length_append, List.length_nil] at this; omega
    | cons x T => exact ⟨x, T, rfl⟩
  have hT : T.length = b + R.length - 1 := by have := congrArg List.length hx; rw [List.length_append, List.length_cons] at this; omega
  have h1 : A ++ B ++ R = (A ++ [x]) ++ T.take b ++ T.drop b := by rw [List.append_assoc, hx, List.append_assoc, List.take_append_drop]; simp
  have s1 := splice_mid (X := A ++ B ++ R) (A := A ++ [x]) (B := T.take b) (R := T.drop b) (Y := B) (o := a + 1) h1 (by simp [hA]) (by simp; omega)
  rw [s1]
  have s2 := splice_mid (X := (A ++ [x]) ++ B ++ T.drop b) (A := A) (B := [x]) (R := B ++ T.drop b) (Y := [d]) (o := a) (by simp) hA rfl
  rw [s2]
  have : A ++ [d] ++ (B ++ T.drop b) = (A ++ d :: B) ++ T.drop b := by simp
  rw [this, take_ab (by simp; omega)]
/-- No room: into another block. -/
theorem ins_there {a b : Nat} {W Z' : List (List AV)} (hA : A.length = a) (hB : B.length = b) (hW : W.length = b + 1) : (splice (splice (A ++ W ++ Z') a ([d].take (a + (b + 1) - a))) (a + 1) ((((A ++ B ++ R).drop a).take (a + b - a)).take (a + (b + 1) - (a + 1)))).take (a + (b + 1)) = A ++ d :: B := by
  have e1 : ((A ++ B ++ R).drop a).take (a + b - a) = B := by rw [List.append_assoc, drop_ab hA, show a + b - a = b by omega, take_ab hB]
  have e2 : B.take (a + (b + 1) - (a + 1)) = B := by rw [show a + (b + 1) - (a + 1) = b by omega, ← hB, List.take_length]
  have e3 : [d].take (a + (b + 1) - a) = [d] := by rw [show a + (b + 1) - a = b + 1 by omega]; simp
  rw [e1, e2, e3]
  obtain ⟨x, T, rfl⟩ : ∃ x T, W = x :: T := by
    cases W with
    | nil => simp at hW
    | cons x T => exact ⟨x, T, rfl⟩
  have s1 := splice_mid (X := A ++ x :: T ++ Z') (A := A) (B := [x]) (R := T ++ Z') (Y := [d]) (o := a) (by simp) hA rfl
  rw [s1]
  have s2 := splice_mid (X := A ++ [d] ++ (T ++ Z')) (A := A ++ [d]) (B := T) (R := Z') (Y := B) (o := a + 1) (by simp) (by simp [hA]) (by simp at hW; omega)
  rw [s2]
  have : A ++ [d] ++ B ++ Z' = (A ++ d :: B) ++ Z' := by simp
  rw [this, take_ab (by simp; omega)]
end

theorem isRows_rows {k : Nat} {xs : List (List AV)} {p : Prop} : G ((HB.rows k xs).isRows k) p = p := by simp [HB.isRows, G]
theorem xs_rows {k : Nat} {xs : List (List AV)} : (HB.rows k xs).xs = xs := rfl
theorem same_push {H : Heap} {x : HB} : H.Same (H.push x) := fun i hi => push_get_ne H x (by omega)
theorem same_set {H H' : Heap} {j : Nat} {x : HB} (h : H.Same H') (hj : H.next ≤ j) : H.Same (H'.set j x) := fun i hi => by rw [set_get_ne _ _ (by omega)]; exact h i hi
theorem same_push' {H H' : Heap} {x : HB} (h : H.Same H') (hn : H.next ≤ H'.next) : H.Same (H'.push x) := fun i hi => by rw [push_get_ne _ _ (by omega)]; exact h i hi

theorem insert_spec {xs : List Cl} {d : Cl} {i : Nat} {H : Heap} {K : List (List AV) → Heap → Prop} (hi : i ≤ xs.length) (hs : xs.length ≤ 100000) (h : ∀ H, K (rows (xs.take i ++ d :: xs.drop i)) H) :
    ioBack C 35 5 (rows xs) [.int .i64 i, .sl 0 5 [d.enc]] H K := by
  have hr : rows (xs.take i ++ d :: xs.drop i) = rows (xs.take i) ++ d.enc :: rows (xs.drop i) := by simp [rows]
  rw [hr] at h
  have hA : (rows (xs.take i)).length = i := by simp [rows]; omega
  have hB : (rows (xs.drop i)).length = xs.length - i := by simp [rows]
  have hAB : rows xs = rows (xs.take i) ++ rows (xs.drop i) := by simp [rows]
  have hn0 : (rows xs).length = xs.length := length_rows
  have l1 : lenI [d.enc] = 1 := rfl
  have hI : addW .i64 (i : Int) 1 = ((i + 1 : Nat) : Int) := by rw [addW_eq (by omega) (by omega)]; rfl
  have hN : addW .i64 (xs.length : Int) 1 = ((xs.length + 1 : Nat) : Int) := by rw [addW_eq (by omega) (by omega)]; rfl
  have hS : subW .i64 ((xs.length + 1 : Nat) : Int) (i : Int) = ((xs.length + 1 - i : Nat) : Int) := by rw [subW_eq (by omega) (by omega)]; omega
  refine ⟨fun m hm hm' => ?_, fun he => ?_⟩
  · refine F35h.call ?_
    unfold F35h.t
    rw [hn0] at hm ⊢
    have hZl : (pad 5 m (rows xs)).length = m := pad_length (by rw [hn0]; exact hm)
    obtain ⟨R, hZ⟩ : ∃ R, pad 5 m (rows xs) = rows xs ++ R := pad_eq
    have hRl : xs.length + R.length = m := by have := congrArg List.length hZ; rw [hZl] at this; simp [hn0] at this; omega
    simp only [l1, hI, hN, hS, Int.toNat_natCast, List.length_replicate, List.length_singleton, push_get_self, isRows_rows, xs_rows, hZl, Nat.zero_add, List.drop_zero]
    ((try simp only [G_int, G_bool, G_str, G_sl, G_own, toInt_int, toBool_bool, toStr_str, slXs_sl, enc_0, enc_1, enc_2, enc_3, enc_4, lenI_rows]); (try simp only [ci_lt, ci_le, ci_eq, ci_eqS, ci_nblt, ci_nble, cond_not, G_lt, G_le, G_eq, G_nble, G_nblt, G_room, G_roomN, cond_true, cond_false, G_true, Nat.add_zero]))
    have ret : ∀ (j n c : Nat) (ys : List (List AV)) (H' : Heap), 0 < c → H.next ≤ j → H.Same H' → H'.get H.next ≠ .dead → H'.get j = .rows 5 ys → ys.length = c → n ≤ c → ys.take n = rows (xs.take i) ++ d.enc :: rows (xs.drop i) → H.Same H' ∧ H'.get H.next ≠ .dead ∧ ioRet 5 H H' (.hs j 0 n c 5) K := by
      intro j n c ys H' h0 hj h1 h2 h3 h4 h5 h6
      exact ⟨h1, h2, .inl ⟨j, n, c, ys, rfl, h0, hj, h3, h4, h5, by rw [h6]; exact h _⟩⟩
    refine ⟨by omega, by omega, by omega, by omega, fun e => absurd e (by omega), fun _ => ⟨fun e => ?_, fun e => ?_⟩⟩
    · -- behind the last
      have ei : i = xs.length := by omega
      have hB0 : rows (xs.drop i) = [] := by simp [rows, ei]
      have hA0 : rows (xs.take i) = rows xs := by rw [ei, List.take_length]
      refine ⟨fun hroom => ⟨hroom, ?_⟩, fun hroom => ?_⟩
      · refine ret _ _ _ _ _ (by omega) (Nat.le_refl _) (same_set same_push (Nat.le_refl _)) (by rw [set_get_self]; simp) (set_get_self _ _ _) (by rw [splice_length (by rw [hZl]; simpa using hroom), hZl]) hroom ?_
        obtain ⟨x, T, rfl⟩ : ∃ x T, R = x :: T := by
          cases R with
          | nil => simp at hRl; omega
          | cons x T => exact ⟨x, T, rfl⟩
        rw [hZ, splice_mid (X := rows xs ++ x :: T) (Y := [d.enc]) (A := rows xs) (B := [x]) (R := T) (by simp) hn0 rfl, hB0, hA0, take_ab (by simp [hn0])]
      · have ht : (pad 5 m (rows xs)).take xs.length = rows xs := by rw [hZ, take_ab hn0]
        rw [ht, hn0]
        refine ⟨by simp only [List.length_singleton]; omega, by omega, fun c hc hc' => ?_⟩
        refine ret _ _ _ _ _ (by omega) (by show H.next ≤ (H.push _).next; simp [Heap.push]) (same_push' same_push (by simp [Heap.push])) (by rw [push_get_ne _ _ (by simp [Heap.push]), push_get_self]; simp) (push_get_self _ _) (pad_length (by simp [hn0]; omega)) hc ?_
        obtain ⟨R2, h2⟩ : ∃ R2, pad 5 c (rows xs ++ [d.enc]) = (rows xs ++ [d.enc]) ++ R2 := pad_eq
        rw [h2, hB0, hA0, take_ab (by simp [hn0])]
    · -- ahead of another
      have hlt : i < xs.length := by omega
      refine ⟨fun hroom => ?_, fun hroom => ?_⟩
      · refine ⟨by omega, by omega, by omega, by omega, by omega, ⟨fun e' => ?_, fun e' => ?_⟩⟩
        · omega
        · have ht : (pad 5 m (rows xs)).take i = rows (xs.take i) := by rw [hZ, hAB, List.append_assoc, take_ab hA]
          rw [ht, hA]
          refine ⟨by simp; omega, by omega, fun c hc hc' => ?_⟩
          have hnx : (H.push (.rows 5 (pad 5 m (rows xs)))).next = H.next + 1 := rfl
          have hne : H.next ≠ (H.push (.rows 5 (pad 5 m (rows xs)))).next := by rw [hnx]; omega
          simp only [push_get_self, set_get_self, set_get_ne _ _ hne, push_get_ne _ _ hne, isRows_rows, xs_rows, hZl]
          obtain ⟨b, hb⟩ : ∃ b, xs.length = i + b := ⟨xs.length - i, by omega⟩
          have hw : xs.length + 1 - i = b + 1 := by omega
          rw [hw] at hc hc' ⊢
          have hB' : (rows (xs.drop i)).length = b := by rw [hB]; omega
          generalize hW : List.replicate (b + 1) [AV.str ⟨#[]⟩, AV.str ⟨#[]⟩, AV.bool false, AV.int .i64 0, AV.int .i64 0] = W
          have hWl : W.length = b + 1 := by rw [← hW]; simp
          have hpl : (pad 5 c (rows (xs.take i) ++ W)).length = c := pad_length (by rw [List.length_append, hA, hWl]; omega)
          have hd1 : ([d.enc].take (i + (b + 1) - i)).length = 1 := by rw [show i + (b + 1) - i = b + 1 by omega]; simp
          have hsl : (splice (pad 5 c (rows (xs.take i) ++ W)) i ([d.enc].take (i + (b + 1) - i))).length = c := by rw [splice_length (by rw [hd1, hpl]; omega), hpl]
          rw [hpl, hsl]
          refine ⟨by omega, by omega, by omega, by omega, by omega, by omega, by omega, by omega, by omega, by omega, by omega, by omega, by omega, by omega, by omega, ?_⟩
          have hold : ((pad 5 m (rows xs)).drop i).take (xs.length - i) = ((rows (xs.take i) ++ rows (xs.drop i) ++ R).drop i).take (i + b - i) := by rw [hZ, hAB, hb]
          have hlen2 : ((((pad 5 m (rows xs)).drop i).take (xs.length - i)).take (i + (b + 1) - (i + 1))).length ≤ b := by rw [List.length_take]; omega
          have hle : H.next ≤ (H.push (.rows 5 (pad 5 m (rows xs)))).next := by rw [hnx]; omega
          refine ⟨same_set (same_set (same_push' same_push hle) hle) hle, by simp, .inl ⟨_, _, _, _, rfl, by omega, hle, set_get_self _ _ _, by rw [splice_length (by rw [hsl]; omega), hsl], hc, ?_⟩⟩
          obtain ⟨R2, h2⟩ : ∃ R2, pad 5 c (rows (xs.take i) ++ W) = (rows (xs.take i) ++ W) ++ R2 := pad_eq
          rw [hold, h2, ins_there hA hB' hWl]
          exact h _
      · simp only [set_get_self, isRows_rows, xs_rows]
        obtain ⟨b, hb⟩ : ∃ b, xs.length = i + b := ⟨xs.length - i, by omega⟩
        rw [hb] at hroom hRl ⊢
        have hB' : (rows (xs.drop i)).length = b := by rw [hB]; omega
        have hlen2 : ((((pad 5 m (rows xs)).drop i).take (i + b + 1 - i)).take (i + b + 1 - (i + 1))).length ≤ b := by rw [List.length_take]; omega
        have hsl : (splice (pad 5 m (rows xs)) (i + 1) ((((pad 5 m (rows xs)).drop i).take (i + b + 1 - i)).take (i + b + 1 - (i + 1)))).length = m := by rw [splice_length (by rw [hZl]; omega), hZl]
        rw [hsl]
        refine ⟨by omega, by omega, by omega, by omega, by omega, by omega, by omega, by omega, by omega, by omega, by omega, by omega, by omega, by omega, by omega, by omega, by omega, by omega, by omega, by omega, by omega, by omega, ?_⟩
        have hd1 : ([d.enc].take (i + b + 1 - i)).length = 1 := by rw [show i + b + 1 - i = b + 1 by omega]; simp
        have hdl : (splice (splice (pad 5 m (rows xs)) (i + 1) ((((pad 5 m (rows xs)).drop i).take (i + b + 1 - i)).take (i + b + 1 - (i + 1)))) i ([d.enc].take (i + b + 1 - i))).length = m := by rw [splice_length (by rw [hsl, hd1]; omega), hsl]
        refine ⟨same_set (same_set same_push (Nat.le_refl _)) (Nat.le_refl _), by (try rw [set_get_self]); simp, .inl ⟨_, _, _, _, rfl, by omega, Nat.le_refl _, set_get_self _ _ _, hdl, by omega, ?_⟩⟩
        rw [hZ, hAB, ins_here hA hB' (by omega)]
        exact h _
  · obtain rfl : xs = [] := by
      cases xs with
      | nil => rfl
      | cons x xs => simp [rows] at he
    obtain rfl : i = 0 := by simpa using hi
    refine F35n.call ?_
    unfold F35n.t
    ((try simp only [G_int, G_bool, G_str, G_sl, G_own, toInt_int, toBool_bool, toStr_str, slXs_sl, enc_0, enc_1, enc_2, enc_3, enc_4, lenI_rows]); (try simp only [ci_lt, ci_le, ci_eq, ci_eqS, ci_nblt, ci_nble, cond_not, G_lt, G_le, G_eq, G_nble, G_nblt, G_room, G_roomN, cond_true, cond_false, G_true, Nat.add_zero]))
    refine ⟨rfl, fun e => absurd e (by simp [lenI]), fun _ => ⟨fun _ => ⟨by simp, (fun _ _ => rfl), .inl (.inr ⟨0, _, rfl, by simpa [rows] using h _⟩)⟩, fun e => absurd rfl e⟩⟩
end Go.Proofs.Ytkjmkhgaghighaa.Ab
