/- slices.Insert of one element, into a slice of the frame's own. -/
import Derived.Test.YtlaieomjooeofaaDoorAbIns
import Derived.Test.YtlaieomjooeofaaDoorTr
namespace Go.Proofs.YtlaieomjooeofaaDoor.Ab
open Go
set_option linter.unusedSimpArgs false

theorem insert57_hs {X A B : List (List AV)} {d : List AV} {i m : Nat} {H : Heap} {Q : AV → Heap → Prop} (hAB : X = A ++ B) (hA : A.length = i) (hs : X.length ≤ 100000) (hm : X.length ≤ m)
    (hQ : ∀ (j n c : Nat) (ys : List (List AV)) (H' : Heap), 0 < c → H.next ≤ j → H.Same H' → H'.get H.next ≠ .dead → H'.get j = .rows 2 ys → ys.length = c → n ≤ c → ys.take n = A ++ d :: B → Q (.hs j 0 n c 2) H') :
    C 57 [.hs H.next 0 X.length m 2, .int .i64 i, .sl 0 2 [d]] (H.push (.rows 2 (pad 2 m X))) Q := by
  have hB : B.length = X.length - i := by rw [hAB, List.length_append]; omega
  have hi : i ≤ X.length := by rw [hAB, List.length_append]; omega
  have hn0 : X.length = X.length := rfl
  have l1 : lenI [d] = 1 := rfl
  have hI : addW .i64 (i : Int) 1 = ((i + 1 : Nat) : Int) := by rw [addW_eq (by omega) (by omega)]; rfl
  have hN : addW .i64 (X.length : Int) 1 = ((X.length + 1 : Nat) : Int) := by rw [addW_eq (by omega) (by omega)]; rfl
  have hS : subW .i64 ((X.length + 1 : Nat) : Int) (i : Int) = ((X.length + 1 - i : Nat) : Int) := by rw [subW_eq (by omega) (by omega)]; omega
  refine F57h.call ?_
  unfold F57h.t
  rw [hn0] at hm ⊢
  have hZl : (pad 2 m X).length = m := pad_length (by rw [hn0]; exact hm)
  obtain ⟨R, hZ⟩ : ∃ R, pad 2 m X = X ++ R := pad_eq
  have hRl : X.length + R.length = m := by have := congrArg List.length hZ; rw [hZl] at this; simp [hn0] at this; omega
  simp only [l1, hI, hN, hS, Int.toNat_natCast, List.length_replicate, List.length_singleton, push_get_self, isRows_rows, xs_rows, hZl, Nat.zero_add, List.drop_zero]
  ((try simp only [G_int, G_bool, G_str, G_sl, G_own, toInt_int, toBool_bool, toStr_str, slXs_sl]); (try simp only [ci_lt, ci_le, ci_eq, ci_eqS, ci_nblt, ci_nble, cond_not, G_lt, G_le, G_eq, G_nble, G_nblt, G_room, G_roomN, cond_true, cond_false, G_true, Nat.add_zero]))
  have ret := hQ
  refine ⟨by omega, by omega, by omega, by omega, fun e => absurd e (by omega), fun _ => ⟨fun e => ?_, fun e => ?_⟩⟩
  · -- behind the last
    have ei : i = X.length := by omega
    have hB0 : B = [] := List.length_eq_zero_iff.1 (by omega)
    have hA0 : A = X := by rw [hAB, hB0, List.append_nil]
    refine ⟨fun hroom => ⟨hroom, ?_⟩, fun hroom => ?_⟩
    · refine ret _ _ _ _ _ (by omega) (Nat.le_refl _) (same_set same_push (Nat.le_refl _)) (by rw [set_get_self]; simp) (set_get_self _ _ _) (by rw [splice_length (by rw [hZl]; simpa using hroom), hZl]) hroom ?_
      obtain ⟨x, T, rfl⟩ : ∃ x T, R = x :: T := by
        cases R with
        | nil => simp at hRl; omega
        | cons x T => exact ⟨x, T, rfl⟩
      rw [hZ, splice_mid (X := X ++ x :: T) (Y := [d]) (A := X) (B := [x]) (R := T) (by simp) hn0 rfl, hB0, hA0, take_ab (by simp [hn0])]
    · have ht : (pad 2 m X).take X.length = X := by rw [hZ, take_ab hn0]
      rw [ht, hn0]
      refine ⟨by simp only [List.length_singleton]; omega, by omega, fun c hc hc' => ?_⟩
      refine ret _ _ _ _ _ (by omega) (by show H.next ≤ (H.push _).next; simp [Heap.push]) (same_push' same_push (by simp [Heap.push])) (by rw [push_get_ne _ _ (by simp [Heap.push]), push_get_self]; simp) (push_get_self _ _) (pad_length (by simp [hn0]; omega)) hc ?_
      obtain ⟨R2, h2⟩ : ∃ R2, pad 2 c (X ++ [d]) = (X ++ [d]) ++ R2 := pad_eq
      rw [h2, hB0, hA0, take_ab (by simp [hn0])]
  · -- ahead of another
    have hlt : i < X.length := by omega
    refine ⟨fun hroom => ?_, fun hroom => ?_⟩
    · refine ⟨by omega, by omega, by omega, by omega, by omega, ⟨fun e' => ?_, fun e' => ?_⟩⟩
      · omega
      · have ht : (pad 2 m X).take i = A := by rw [hZ, hAB, List.append_assoc, take_ab hA]
        rw [ht, hA]
        refine ⟨by simp; omega, by omega, fun c hc hc' => ?_⟩
        have hnx : (H.push (.rows 2 (pad 2 m X))).next = H.next + 1 := rfl
        have hne : H.next ≠ (H.push (.rows 2 (pad 2 m X))).next := by rw [hnx]; omega
        simp only [push_get_self, set_get_self, set_get_ne _ _ hne, push_get_ne _ _ hne, isRows_rows, xs_rows, hZl]
        obtain ⟨b, hb⟩ : ∃ b, X.length = i + b := ⟨X.length - i, by omega⟩
        have hw : X.length + 1 - i = b + 1 := by omega
        rw [hw] at hc hc' ⊢
        have hB' : B.length = b := by rw [hB]; omega
        generalize hW : List.replicate (b + 1) [AV.str ⟨#[]⟩, AV.str ⟨#[]⟩] = W
        have hWl : W.length = b + 1 := by rw [← hW]; simp
        have hpl : (pad 2 c (A ++ W)).length = c := pad_length (by rw [List.length_append, hA, hWl]; omega)
        have hd1 : ([d].take (i + (b + 1) - i)).length = 1 := by rw [show i + (b + 1) - i = b + 1 by omega]; simp
        have hsl : (splice (pad 2 c (A ++ W)) i ([d].take (i + (b + 1) - i))).length = c := by rw [splice_length (by rw [hd1, hpl]; omega), hpl]
        rw [hpl, hsl]
        refine ⟨by omega, by omega, by omega, by omega, by omega, by omega, by omega, by omega, by omega, by omega, by omega, by omega, by omega, by omega, by omega, ?_⟩
        have hold : ((pad 2 m X).drop i).take (X.length - i) = ((A ++ B ++ R).drop i).take (i + b - i) := by rw [hb, hZ, hAB]
        have hlen2 : ((((pad 2 m X).drop i).take (X.length - i)).take (i + (b + 1) - (i + 1))).length ≤ b := by rw [List.length_take]; omega
        have hle : H.next ≤ (H.push (.rows 2 (pad 2 m X))).next := by rw [hnx]; omega
        refine hQ _ _ _ _ _ (by omega) hle (same_set (same_set (same_push' same_push hle) hle) hle) (by rw [set_get_ne _ _ hne, set_get_ne _ _ hne, push_get_ne _ _ hne, push_get_self]; exact HB.noConfusion) (set_get_self _ _ _) (by rw [splice_length (by rw [hsl]; omega), hsl]) hc ?_
        obtain ⟨R2, h2⟩ : ∃ R2, pad 2 c (A ++ W) = (A ++ W) ++ R2 := pad_eq
        rw [hold, h2, ins_there hA hB' hWl]
    · simp only [set_get_self, isRows_rows, xs_rows]
      obtain ⟨b, hb⟩ : ∃ b, X.length = i + b := ⟨X.length - i, by omega⟩
      rw [hb] at hroom hRl ⊢
      have hB' : B.length = b := by rw [hB]; omega
      have hlen2 : ((((pad 2 m X).drop i).take (i + b + 1 - i)).take (i + b + 1 - (i + 1))).length ≤ b := by rw [List.length_take]; omega
      have hsl : (splice (pad 2 m X) (i + 1) ((((pad 2 m X).drop i).take (i + b + 1 - i)).take (i + b + 1 - (i + 1)))).length = m := by rw [splice_length (by rw [hZl]; omega), hZl]
      rw [hsl]
      refine ⟨by omega, by omega, by omega, by omega, by omega, by omega, by omega, by omega, by omega, by omega, by omega, by omega, by omega, by omega, by omega, by omega, by omega, by omega, by omega, by omega, by omega, by omega, ?_⟩
      have hd1 : ([d].take (i + b + 1 - i)).length = 1 := by rw [show i + b + 1 - i = b + 1 by omega]; simp
      have hdl : (splice (splice (pad 2 m X) (i + 1) ((((pad 2 m X).drop i).take (i + b + 1 - i)).take (i + b + 1 - (i + 1)))) i ([d].take (i + b + 1 - i))).length = m := by rw [splice_length (by rw [hsl, hd1]; omega), hsl]
      refine hQ _ _ _ _ _ (by omega) (Nat.le_refl _) (same_set (same_set same_push (Nat.le_refl _)) (Nat.le_refl _)) (by (try rw [set_get_self]); simp) (set_get_self _ _ _) hdl (by omega) ?_
      rw [hZ, hAB, ins_here hA hB' (by omega)]
theorem insert57_raw {X A B : List (List AV)} {d : List AV} {i : Nat} {H : Heap} {K : List (List AV) → Heap → Prop} (hAB : X = A ++ B) (hA : A.length = i) (hs : X.length ≤ 100000) (h : ∀ H, K (A ++ d :: B) H) :
    ioBack C 57 2 X [.int .i64 i, .sl 0 2 [d]] H K := by
  have hB : B.length = X.length - i := by rw [hAB, List.length_append]; omega
  have hi : i ≤ X.length := by rw [hAB, List.length_append]; omega
  have hn0 : X.length = X.length := rfl
  have l1 : lenI [d] = 1 := rfl
  have hI : addW .i64 (i : Int) 1 = ((i + 1 : Nat) : Int) := by rw [addW_eq (by omega) (by omega)]; rfl
  have hN : addW .i64 (X.length : Int) 1 = ((X.length + 1 : Nat) : Int) := by rw [addW_eq (by omega) (by omega)]; rfl
  have hS : subW .i64 ((X.length + 1 : Nat) : Int) (i : Int) = ((X.length + 1 - i : Nat) : Int) := by rw [subW_eq (by omega) (by omega)]; omega
  refine ⟨fun m hm hm' => ?_, fun he => ?_⟩
  · exact insert57_hs hAB hA hs hm fun j n c ys H' h0 hj h1 h2 h3 h4 h5 h6 => ⟨h1, h2, .inl ⟨j, n, c, ys, rfl, hj, h3, h4, h5, by rw [h6]; exact h _⟩⟩
  · subst he
    obtain ⟨rfl, rfl⟩ : A = [] ∧ B = [] := by
      have := congrArg List.length hAB
      rw [List.length_append] at this
      exact ⟨List.length_eq_zero_iff.1 (by simp at this; omega), List.length_eq_zero_iff.1 (by simp at this; omega)⟩
    obtain rfl : 0 = i := hA
    refine F57n.call ?_
    unfold F57n.t
    ((try simp only [G_int, G_bool, G_str, G_sl, G_own, toInt_int, toBool_bool, toStr_str, slXs_sl]); (try simp only [ci_lt, ci_le, ci_eq, ci_eqS, ci_nblt, ci_nble, cond_not, G_lt, G_le, G_eq, G_nble, G_nblt, G_room, G_roomN, cond_true, cond_false, G_true, Nat.add_zero]))
    refine ⟨rfl, fun e => absurd e (by simp [lenI]), fun _ => ⟨fun _ => ⟨by simp, (fun _ _ => rfl), .inl (.inr ⟨0, _, rfl, by simpa using h _⟩)⟩, fun e => absurd rfl e⟩⟩
theorem insert57_spec {xs : List (List AV)} {d : List AV} {i : Nat} {H : Heap} {K : List (List AV) → Heap → Prop} (hi : i ≤ xs.length) (hs : xs.length ≤ 100000) (h : ∀ H, K (xs.take i ++ d :: xs.drop i) H) :
    ioBack C 57 2 xs [.int .i64 i, .sl 0 2 [d]] H K :=
  insert57_raw (A := xs.take i) (B := xs.drop i) (by simp) (by simp; omega) hs h
end Go.Proofs.YtlaieomjooeofaaDoor.Ab
