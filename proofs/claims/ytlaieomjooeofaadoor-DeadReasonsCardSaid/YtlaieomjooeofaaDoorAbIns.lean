/- What slices.Insert does to rows: laws of lists. -/
import Derived.Test.YtlaieomjooeofaaDoorAbLaw
import Derived.Test.YtlaieomjooeofaaDoorAbHeap
namespace Go.Proofs.YtlaieomjooeofaaDoor.Ab
open Go

section
variable {Z A B R : List (List AV)} {d : List AV}
theorem splice_mid {X A B R Y : List (List AV)} {o : Nat} (h : X = A ++ B ++ R) (ho : A.length = o) (hB : B.length = Y.length) : splice X o Y = A ++ Y ++ R := by
  subst h
  unfold splice
  have e : o + Y.length = (A ++ B).length := by simp [ho, hB]
  rw [e, List.drop_left, List.append_assoc A B R, ← ho, List.take_left]
theorem pad_length {k m : Nat} {xs : List (List AV)} (h : xs.length ≤ m) : (pad k m xs).length = m := by simp [pad]; omega
theorem pad_eq {k m : Nat} {xs : List (List AV)} : ∃ R, pad k m xs = xs ++ R := ⟨_, rfl⟩
theorem take_ab {A B : List (List AV)} {n : Nat} (h : A.length = n) : (A ++ B).take n = A := by subst h; simp
theorem drop_ab {A B : List (List AV)} {n : Nat} (h : A.length = n) : (A ++ B).drop n = B := by subst h; simp
/-- Room: what was behind is laid one further on. -/
theorem ins_here {a b : Nat} (hA : A.length = a) (hB : B.length = b) (hR : 0 < R.length) : (splice (splice (A ++ B ++ R) (a + 1) ((((A ++ B ++ R).drop a).take (a + b + 1 - a)).take (a + b + 1 - (a + 1)))) a ([d].take (a + b + 1 - a))).take (a + b + 1) = A ++ d :: B := by
  have e1 : ((A ++ B ++ R).drop a).take (a + b + 1 - a) = (B ++ R).take (b + 1) := by rw [List.append_assoc, drop_ab hA]; congr 1; omega
  have e2 : ((B ++ R).take (b + 1)).take (a + b + 1 - (a + 1)) = B := by rw [List.take_take, show min (a + b + 1 - (a + 1)) (b + 1) = b by omega, take_ab hB]
  have e3 : [d].take (a + b + 1 - a) = [d] := by rw [show a + b + 1 - a = b + 1 by omega]; simp
  rw [e1, e2, e3]
  -- the first cell behind A
  obtain ⟨x, T, hx⟩ : ∃ x T, B ++ R = x :: T := by
    cases hh : B ++ R with
    | nil => have := congrArg List.length hh; rw [List.length_append, List.length_nil] at this; omega
    | cons x T => exact ⟨x, T, rfl⟩
  have hT : T.length = b + R.length - 1 := by have := congrArg List.length hx; rw [List.length_append, List.length_cons] at this; omega
  have h1 : A ++ B ++ R = (A ++ [x]) ++ T.take b ++ T.drop b := by rw [List.append_assoc, hx, List.append_assoc, List.take_append_drop]; simp
  have s1 := splice_mid (X := A ++ B ++ R) (A := A ++ [x]) (B := T.take b) (R := T.drop b) (Y := B) (o := a + 1) h1 (by simp [hA]) (by simp; omega)
  rw [s1]
  have s2 := splice_mid (X := (A ++ [x]) ++ B ++ T.drop b) (A := A) (B := [x]) (R := B ++ T.drop b) (Y := [d]) (o := a) (by simp) hA rfl
  rw [s2]
  have : A ++ [d] ++ (B ++ T.drop b) = (A ++ d :: B) ++ T.drop b := by simp
  rw [this, take_ab (by simp; omega)]
/-- No room: into another block. -/
theorem ins_there {a b : Nat} {W Z' : List (List AV)} (hA : A.length = a) (hB : B.length = b) (hW : W.length = b + 1) : (splice (splice (A ++ W ++ Z') a ([d].take (a + (b + 1) - a))) (a + 1) ((((A ++ B ++ R).drop a).take (a + b - a)).take (a + (b + 1) - (a + 1)))).take (a + (b + 1)) = A ++ d :: B := by
  have e1 : ((A ++ B ++ R).drop a).take (a + b - a) = B := by rw [List.append_assoc, drop_ab hA, show a + b - a = b by omega, take_ab hB]
  have e2 : B.take (a + (b + 1) - (a + 1)) = B := by rw [show a + (b + 1) - (a + 1) = b by omega, ← hB, List.take_length]
  have e3 : [d].take (a + (b + 1) - a) = [d] := by rw [show a + (b + 1) - a = b + 1 by omega]; simp
  rw [e1, e2, e3]
  obtain ⟨x, T, rfl⟩ : ∃ x T, W = x :: T := by
    cases W with
    | nil => simp at hW
    | cons x T => exact ⟨x, T, rfl⟩
  have s1 := splice_mid (X := A ++ x :: T ++ Z') (A := A) (B := [x]) (R := T ++ Z') (Y := [d]) (o := a) (by simp) hA rfl
  rw [s1]
  have s2 := splice_mid (X := A ++ [d] ++ (T ++ Z')) (A := A ++ [d]) (B := T) (R := Z') (Y := B) (o := a + 1) (by simp) (by simp [hA]) (by simp at hW; omega)
  rw [s2]
  have : A ++ [d] ++ B ++ Z' = (A ++ d :: B) ++ Z' := by simp
  rw [this, take_ab (by simp; omega)]
end

theorem isRows_rows {k : Nat} {xs : List (List AV)} {p : Prop} : G ((HB.rows k xs).isRows k) p = p := by simp [HB.isRows, G]
theorem xs_rows {k : Nat} {xs : List (List AV)} : (HB.rows k xs).xs = xs := rfl
theorem same_push {H : Heap} {x : HB} : H.Same (H.push x) := fun i hi => push_get_ne H x (by omega)
theorem same_set {H H' : Heap} {j : Nat} {x : HB} (h : H.Same H') (hj : H.next ≤ j) : H.Same (H'.set j x) := fun i hi => by rw [set_get_ne _ _ (by omega)]; exact h i hi
theorem same_push' {H H' : Heap} {x : HB} (h : H.Same H') (hn : H.next ≤ H'.next) : H.Same (H'.push x) := fun i hi => by rw [push_get_ne _ _ (by omega)]; exact h i hi

end Go.Proofs.YtlaieomjooeofaaDoor.Ab
