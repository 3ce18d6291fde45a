/- Member: the examples of the chapter. -/
import Derived.Test.YtdiokakekedaaaaMemThree
namespace Go.Proofs.Ytdiokakekedaaaa.Ab
open Go
set_option maxRecDepth 100000

theorem ex_far (a : Int) (l : List (List AV)) (v : AV) (h : ∀ m : Nat, (if ltI a 1 then some .nilsl else if ltI 7 a then some .nilsl else F19.PL a l (m + 300) (.l0 0 0 0 0 0 0 0 0)) = some v) : F19.P a l = some v := by
  unfold F19.P
  refine lim_eq ⟨300, fun n hn => ?_⟩
  obtain ⟨m, rfl⟩ : ∃ m, n = m + 300 := ⟨n - 300, by omega⟩
  exact h m
theorem ex_s5 : F19.P 5 [[.int .i64 0, .int .i64 3], [.int .i64 4, .int .i64 3]] = some (.sl 0 1 (grps [[0, 3, 4], [1], [2]])) :=
  ex_far _ _ _ fun m => by kernel_rfl
theorem ex_s4 : F19.P 4 [[.int .i64 0, .int .i64 1], [.int .i64 2, .int .i64 3]] = some (.sl 0 1 (grps [[0, 1], [2, 3]])) :=
  ex_far _ _ _ fun m => by kernel_rfl
theorem asc_ex : Asc [⟨1, 7⟩, ⟨3, 1⟩] := by simp [Asc]
theorem ex_n2 : F11.P [[.int .i64 1, .int .i64 7], [.int .i64 3, .int .i64 1]] 2 5 = some (.sl 0 2 (peers [⟨1, 7⟩, ⟨2, 5⟩, ⟨3, 1⟩])) :=
  (F11.eq (l := [⟨1, 7⟩, ⟨3, 1⟩]) (by simp) asc_ex).trans (by simp [seenL, seenIn])
theorem ex_n1 : F11.P [[.int .i64 1, .int .i64 7], [.int .i64 3, .int .i64 1]] 1 5 = some (.sl 0 2 (peers [⟨1, 7⟩, ⟨3, 1⟩])) :=
  (F11.eq (l := [⟨1, 7⟩, ⟨3, 1⟩]) (by simp) asc_ex).trans (by simp [seenL, seenIn, ltI])
theorem ex_al : F14.P (peers [⟨1, 7⟩, ⟨2, 5⟩, ⟨3, 1⟩]) 8 1 = some (.sl 0 1 (ints [1])) :=
  (F14.eq (by simp)).trans (by
    have : aliveL 8 1 [⟨1, 7⟩, ⟨2, 5⟩, ⟨3, 1⟩] = [1] := by decide +kernel
    rw [this]
    simp [sorted, comp, compT])
theorem sorted_of {l s : List Int} (hp : l.Perm s) (hs : s.Pairwise (· ≤ ·)) : sorted l = s := by
  refine List.Perm.eq_of_pairwise (le := fun a b => a ≤ b) (fun a b _ _ h1 h2 => by omega) ?_ hs ((List.mergeSort_perm l _).trans hp)
  have := List.pairwise_mergeSort (le := fun x y : Int => decide (x ≤ y)) (fun a b c h1 h2 => by simp at *; omega) (fun a b => by simp; omega) l
  exact this.imp fun h => by simpa using h
theorem ex_he : F17.P [[.int .i64 5], [.int .i64 1], [.int .i64 5], [.int .i64 0]] [[.int .i64 1]] = some (.sl 0 1 (ints [0, 5])) :=
  (F17.eq (l := [5, 1, 5, 0]) (lost := [1]) (by simp) (by simp)).trans (by
    have : restL [1] [5, 1, 5, 0] = [5, 5, 0] := by decide +kernel
    rw [this, sorted_of (s := [0, 5, 5]) (by decide +kernel) (by decide +kernel)]
    rfl)
theorem bind_of {α β : Type} {o : Option α} {k : α → Option β} {w : α} {r : Option β} (h : o = some w) (h2 : k w = r) : o.bind k = r := by rw [h]; exact h2
theorem F10.eq : F10.P = some (.bool true) := by
  unfold F10.P
  have m5 := F21.eq (l := [[0, 3, 4], [1], [2]]) (m := 5) (by omega) (by simp) (by simp)
  have m4 := F21.eq (l := [[0, 1], [2, 3]]) (m := 4) (by omega) (by simp) (by simp)
  have q1 : major 5 [[0, 3, 4], [1], [2]] = some [0, 3, 4] := by decide +kernel
  have q2 : major 4 [[0, 1], [2, 3]] = none := by decide +kernel
  rw [q1] at m5
  rw [q2] at m4
  have e1 := F12.eq (a := [⟨1, 7⟩, ⟨2, 5⟩, ⟨3, 1⟩]) (b := [⟨1, 7⟩, ⟨2, 5⟩, ⟨3, 1⟩]) (by simp)
  have e2 := F12.eq (a := [⟨1, 7⟩, ⟨3, 1⟩]) (b := [⟨1, 7⟩, ⟨3, 1⟩]) (by simp)
  have e3 := F16.eq (a := [1]) (b := [1]) (by simp)
  have e4 := F23.eq (a := [[0, 3, 4], [1], [2]]) (b := [[0, 3, 4], [1], [2]]) (by simp) (by simp)
  have e5 := F16.eq (a := [0, 3, 4]) (b := [0, 3, 4]) (by simp)
  have e6 := F16.eq (a := [0, 5]) (b := [0, 5]) (by simp)
  have h1 := F24.eq (n := 2) (m := 3) (by omega)
  have h2 := F24.eq (n := 2) (m := 4) (by omega)
  rw [show quoB 2 3 = true by decide +kernel] at h1
  rw [show quoB 2 4 = false by decide +kernel] at h2
  simp only [decide_true] at e1 e2 e3 e4 e5 e6
  simp only [majV] at m5 m4
  refine bind_of ex_n2 ((if_pos rfl).trans ?_)
  refine bind_of ex_n1 ((if_pos rfl).trans ?_)
  refine bind_of ex_s5 ((if_pos rfl).trans ?_)
  refine bind_of m5 ((if_pos rfl).trans ((if_pos rfl).trans ((if_pos rfl).trans ?_)))
  refine bind_of ex_s4 ((if_pos rfl).trans ?_)
  refine bind_of m4 ((if_pos rfl).trans ((if_pos rfl).trans ((if_pos rfl).trans ?_)))
  refine bind_of e1 ((if_pos rfl).trans ((if_pos rfl).trans ?_))
  refine bind_of e2 ((if_pos rfl).trans ((if_pos rfl).trans ?_))
  refine bind_of ex_al ((if_pos rfl).trans ?_)
  refine bind_of e3 ((if_pos rfl).trans ((if_pos rfl).trans ?_))
  refine bind_of e4 ((if_pos rfl).trans ((if_pos rfl).trans ((if_pos rfl).trans ?_)))
  refine bind_of e5 ((if_pos rfl).trans ((if_pos rfl).trans ((if_pos rfl).trans ?_)))
  refine bind_of ex_he ((if_pos rfl).trans ?_)
  refine bind_of e6 ((if_pos rfl).trans ((if_pos rfl).trans ?_))
  refine bind_of h1 ((if_pos rfl).trans ((if_pos rfl).trans ?_))
  refine bind_of h2 ((if_pos rfl).trans ?_)
  rfl
end Go.Proofs.Ytdiokakekedaaaa.Ab
