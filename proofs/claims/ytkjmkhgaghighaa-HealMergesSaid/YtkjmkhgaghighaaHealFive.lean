/- Heal: what its functions compute, part five: the reference's merging, lists that are small. -/
import Derived.Test.YtkjmkhgaghighaaHealMath
namespace Go.Proofs.Ytkjmkhgaghighaa.Ab
open Go
set_option linter.unusedSimpArgs false

/-! small -/
def mrow (ls : List (List Cl)) : List (List AV) := ls.map fun l => [AV.sl 0 5 (rows l)]
def smallB (ls : List (List Cl)) : Bool := ls.all fun l => decide (l.length ≤ 40) && decide (checkE l = 0)
theorem lenI_mrow {ls : List (List Cl)} : lenI (mrow ls) = (ls.length : Int) := by simp [lenI, mrow]
theorem mrow_mid {ls pre post : List (List Cl)} {l : List Cl} (h : ls = pre ++ l :: post) : (mrow ls).getD (pre.length : Int).toNat [] = [.sl 0 5 (rows l)] := by subst h; simp [mrow]
theorem mcell_0 {x : AV} : [x].getD 0 .any = x := rfl
theorem F12.loop {ls : List (List Cl)} {Q : AV → Heap → Prop} (hs : ls.length ≤ 100) : ∀ (post pre : List (List Cl)) (H : Heap), ls = pre ++ post → (∀ H, Q (.bool (smallB post)) H) → F12.L0 (mrow ls) Q pre.length H
  | [], pre, H, h, hQ => by
    refine F12.L0_step ?_
    unfold F12.r0
    rw [lenI_mrow]
    ((try simp only [G_int, G_bool, G_str, G_sl, G_own, toInt_int, toBool_bool, toStr_str, slXs_sl, enc_0, enc_1, enc_2, enc_3, enc_4, lenI_rows]); (try simp only [ci_lt, ci_le, ci_eq, ci_eqS, ci_nblt, ci_nble, cond_not, G_lt, G_le, G_eq, G_nble, G_nblt, G_room, G_roomN, cond_true, cond_false, G_true, Nat.add_zero]))
    exact ⟨fun e => absurd e (by simp [h]), fun _ => hQ H⟩
  | l :: post, pre, H, h, hQ => by
    have hl := fits_len h
    refine F12.L0_step ?_
    unfold F12.r0
    rw [mrow_mid h, lenI_mrow, mcell_0]
    ((try simp only [G_int, G_bool, G_str, G_sl, G_own, toInt_int, toBool_bool, toStr_str, slXs_sl, enc_0, enc_1, enc_2, enc_3, enc_4, lenI_rows]); (try simp only [ci_lt, ci_le, ci_eq, ci_eqS, ci_nblt, ci_nble, cond_not, G_lt, G_le, G_eq, G_nble, G_nblt, G_room, G_roomN, cond_true, cond_false, G_true, Nat.add_zero]))
    refine ⟨fun _ => ⟨by omega, by omega, fun e => ?_, fun e => ?_⟩, fun e => absurd e (by omega)⟩
    · have := hQ H
      rwa [show smallB (l :: post) = false by simp [smallB, show ¬ l.length ≤ 40 by omega]] at this
    · refine F11.spec (by omega) fun H1 => ?_
      ((try simp only [G_int, G_bool, G_str, G_sl, G_own, toInt_int, toBool_bool, toStr_str, slXs_sl, enc_0, enc_1, enc_2, enc_3, enc_4, lenI_rows]); (try simp only [ci_lt, ci_le, ci_eq, ci_eqS, ci_nblt, ci_nble, cond_not, G_lt, G_le, G_eq, G_nble, G_nblt, G_room, G_roomN, cond_true, cond_false, G_true, Nat.add_zero]))
      refine ⟨fun e1 => ?_, fun e1 => ?_⟩
      · rw [addW_eq (by omega) (by omega)]
        have := F12.loop hs post (pre ++ [l]) (H.past H1) (by rw [h]; simp) (fun H => by
          have := hQ H
          rwa [show smallB (l :: post) = smallB post by simp [smallB, show l.length ≤ 40 by omega, e1]] at this)
        rw [List.length_append, List.length_singleton] at this
        exact this
      · have := hQ (H.past H1)
        rwa [show smallB (l :: post) = false by simp [smallB, e1]] at this
theorem F12.spec {ls : List (List Cl)} {H : Heap} {Q : AV → Heap → Prop} (hs : ls.length ≤ 100) (h : ∀ H, Q (.bool (smallB ls)) H) : C 12 [.sl 0 1 (mrow ls)] H Q :=
  F12.call (F12.loop hs ls [] H rfl h)
theorem small_mem {ls : List (List Cl)} (h : smallB ls = true) {l : List Cl} (hl : l ∈ ls) : l.length ≤ 40 ∧ checkE l = 0 := by
  unfold smallB at h
  rw [List.all_eq_true] at h
  simpa using h l hl

/-! The reference's Merge -/
theorem idx_look (k : ByteArray) (xs : List Cl) : (idx (keyIs k) xs 0 = -1 ∧ look xs k = none) ∨ ∃ pre c post, xs = pre ++ c :: post ∧ idx (keyIs k) xs 0 = (pre.length : Int) ∧ look xs k = some c := by
  rcases idx_cases (keyIs k) xs 0 with ⟨h1, h2⟩ | ⟨pre, c, post, h1, h2, h3, h4⟩
  · exact .inl ⟨h1, by show xs.find? _ = none; simpa using h2⟩
  · refine .inr ⟨pre, c, post, h1, by rw [h2, Nat.zero_add], ?_⟩
    show xs.find? _ = some c
    rw [h1, List.find?_append, List.find?_cons, h3]
    have : pre.find? (keyIs k) = none := by simpa using h4
    rw [this]; rfl
theorem F21.loop {xs ys : List Cl} {Q : AV → Heap → Prop} (hs : ys.length ≤ 100000) : ∀ (post pre out : List Cl) (H : Heap), ys = pre ++ post → out.length + post.length ≤ 100000 → (∀ H, Q (.sl 0 5 (rows (mergeR out post))) H) → F21.L0 (rows xs) (rows ys) Q (rows out) pre.length H
  | [], pre, out, H, h, ho, hQ => by
    refine F21.L0_step ?_
    unfold F21.r0
    ((try simp only [G_int, G_bool, G_str, G_sl, G_own, toInt_int, toBool_bool, toStr_str, slXs_sl, enc_0, enc_1, enc_2, enc_3, enc_4, lenI_rows]); (try simp only [ci_lt, ci_le, ci_eq, ci_eqS, ci_nblt, ci_nble, cond_not, G_lt, G_le, G_eq, G_nble, G_nblt, G_room, G_roomN, cond_true, cond_false, G_true, Nat.add_zero]))
    exact ⟨fun e => absurd e (by simp [h]), fun _ => hQ H⟩
  | c :: post, pre, out, H, h, ho, hQ => by
    have hl := fits_len h
    rw [List.length_cons] at ho
    have next : ∀ H1, F21.L0 (rows xs) (rows ys) Q (rows (addR out c)) (addW .i64 (pre.length : Int) 1) H1 := by
      intro H1
      rw [addW_eq (by omega) (by omega)]
      have := addR_len out c
      have := F21.loop (xs := xs) hs post (pre ++ [c]) (addR out c) H1 (by rw [h]; simp) (by omega) hQ
      rw [List.length_append, List.length_singleton] at this
      exact this
    have put : ∀ H1 : Heap, addR out c = putL out c → C 38 [.sl 0 5 (rows out), .agg c.enc] H1.none fun v H2 => G (v.isSl 5) (F21.L0 (rows xs) (rows ys) Q v.slXs (addW .i64 (pre.length : Int) 1) (H1.past H2)) := by
      intro H1 e
      refine F38.spec (by omega) fun H2 => ?_
      ((try simp only [G_int, G_bool, G_str, G_sl, G_own, toInt_int, toBool_bool, toStr_str, slXs_sl, enc_0, enc_1, enc_2, enc_3, enc_4, lenI_rows]); (try simp only [ci_lt, ci_le, ci_eq, ci_eqS, ci_nblt, ci_nble, cond_not, G_lt, G_le, G_eq, G_nble, G_nblt, G_room, G_roomN, cond_true, cond_false, G_true, Nat.add_zero]))
      rw [← e]
      exact next _
    refine F21.L0_step ?_
    unfold F21.r0
    rw [row_mid h]
    ((try simp only [G_int, G_bool, G_str, G_sl, G_own, toInt_int, toBool_bool, toStr_str, slXs_sl, enc_0, enc_1, enc_2, enc_3, enc_4, lenI_rows]); (try simp only [ci_lt, ci_le, ci_eq, ci_eqS, ci_nblt, ci_nble, cond_not, G_lt, G_le, G_eq, G_nble, G_nblt, G_room, G_roomN, cond_true, cond_false, G_true, Nat.add_zero]))
    refine ⟨fun _ => ⟨by omega, by omega, ?_⟩, fun e => absurd e (by omega)⟩
    refine F36.spec (by omega) fun H1 => ?_
    ((try simp only [G_int, G_bool, G_str, G_sl, G_own, toInt_int, toBool_bool, toStr_str, slXs_sl, enc_0, enc_1, enc_2, enc_3, enc_4, lenI_rows]); (try simp only [ci_lt, ci_le, ci_eq, ci_eqS, ci_nblt, ci_nble, cond_not, G_lt, G_le, G_eq, G_nble, G_nblt, G_room, G_roomN, cond_true, cond_false, G_true, Nat.add_zero]))
    rcases idx_look c.key out with ⟨h1, h2⟩ | ⟨pre', d, post', h1, h2, h3⟩
    · rw [h1]
      refine ⟨fun _ => put _ (by simp only [addR, h2]), fun e => absurd (by omega) e⟩
    · have hl' := fits_len h1
      rw [h2, row_mid h1]
      ((try simp only [G_int, G_bool, G_str, G_sl, G_own, toInt_int, toBool_bool, toStr_str, slXs_sl, enc_0, enc_1, enc_2, enc_3, enc_4, lenI_rows]); (try simp only [ci_lt, ci_le, ci_eq, ci_eqS, ci_nblt, ci_nble, cond_not, G_lt, G_le, G_eq, G_nble, G_nblt, G_room, G_roomN, cond_true, cond_false, G_true, Nat.add_zero]))
      refine ⟨fun e => absurd e (by omega), fun _ => ⟨by omega, by omega, ?_⟩⟩
      refine F28.spec (a := c) (b := d) fun H2 => ?_
      ((try simp only [G_int, G_bool, G_str, G_sl, G_own, toInt_int, toBool_bool, toStr_str, slXs_sl, enc_0, enc_1, enc_2, enc_3, enc_4, lenI_rows]); (try simp only [ci_lt, ci_le, ci_eq, ci_eqS, ci_nblt, ci_nble, cond_not, G_lt, G_le, G_eq, G_nble, G_nblt, G_room, G_roomN, cond_true, cond_false, G_true, Nat.add_zero]))
      cases hp : prevB c d
      · rw [cond_false]
        have := next (H.past H2)
        rwa [show addR out c = out by simp [addR, h3, hp]] at this
      · rw [cond_true]
        exact put _ (by simp [addR, h3, hp])
theorem F21.spec {xs ys : List Cl} {H : Heap} {Q : AV → Heap → Prop} (hs : xs.length + ys.length ≤ 100000) (h : ∀ H, Q (.sl 0 5 (rows (mergeR xs ys))) H) : C 21 [.sl 0 5 (rows xs), .sl 0 5 (rows ys)] H Q := by
  refine F21.call ?_
  unfold F21.t
  refine F26.spec (by omega) fun v H1 hv hx => ?_
  rw [G_own' hv, hx]
  exact F21.loop (by omega) ys [] xs _ rfl hs h

/-! The reference's Diff -/
theorem strs_snoc {xs : List ByteArray} {k : ByteArray} : strs xs ++ [[.str k]] = strs (xs ++ [k]) := by simp [strs, keyOfS]
theorem F24.loop {xs ys ms : List Cl} {Q : AV → Heap → Prop} (hx : xs.length ≤ 100000) (hy : ys.length ≤ 100000) (hs : ms.length ≤ 200000) : ∀ (post pre : List Cl) (out : List ByteArray) (H : Heap), ms = pre ++ post → out.length ≤ pre.length → (∀ H, Q (.sl 0 1 (strs (out ++ post.filterMap (dif xs ys)))) H) → F24.L0 (rows xs) (rows ys) Q (strs out) (rows ms) (ms.length : Int) pre.length H
  | [], pre, out, H, h, ho, hQ => by
    refine F24.L0_step ?_
    unfold F24.r0
    ((try simp only [G_int, G_bool, G_str, G_sl, G_own, toInt_int, toBool_bool, toStr_str, slXs_sl, enc_0, enc_1, enc_2, enc_3, enc_4, lenI_rows]); (try simp only [ci_lt, ci_le, ci_eq, ci_eqS, ci_nblt, ci_nble, cond_not, G_lt, G_le, G_eq, G_nble, G_nblt, G_room, G_roomN, cond_true, cond_false, G_true, Nat.add_zero]))
    exact ⟨fun e => absurd e (by simp [h]), fun _ => by have := hQ H; simpa using this⟩
  | c :: post, pre, out, H, h, ho, hQ => by
    have hl := fits_len h
    have yes : dif xs ys c = some c.key → ∀ H1, ((strs out).length + [[AV.str c.key]].length) * 16 ≤ 140737488355328 ∧ F24.L0 (rows xs) (rows ys) Q (strs out ++ [[.str c.key]]) (rows ms) (ms.length : Int) (addW .i64 (pre.length : Int) 1) H1 := by
      intro e H1
      refine ⟨by rw [length_strs]; simp only [List.length_singleton]; omega, ?_⟩
      rw [addW_eq (by omega) (by omega), strs_snoc]
      have := F24.loop hx hy hs post (pre ++ [c]) (out ++ [c.key]) H1 (by rw [h]; simp) (by simp only [List.length_append, List.length_singleton]; omega) (fun H => by
        have := hQ H
        rw [List.filterMap_cons, e] at this
        simpa only [List.append_assoc, List.singleton_append] using this)
      rw [List.length_append, List.length_singleton] at this
      exact this
    have no : dif xs ys c = none → ∀ H1, F24.L0 (rows xs) (rows ys) Q (strs out) (rows ms) (ms.length : Int) (addW .i64 (pre.length : Int) 1) H1 := by
      intro e H1
      rw [addW_eq (by omega) (by omega)]
      have := F24.loop hx hy hs post (pre ++ [c]) out H1 (by rw [h]; simp) (by simp only [List.length_append, List.length_singleton]; omega) (fun H => by
        have := hQ H
        rwa [List.filterMap_cons, e] at this)
      rw [List.length_append, List.length_singleton] at this
      exact this
    refine F24.L0_step ?_
    unfold F24.r0
    rw [row_mid h]
    ((try simp only [G_int, G_bool, G_str, G_sl, G_own, toInt_int, toBool_bool, toStr_str, slXs_sl, enc_0, enc_1, enc_2, enc_3, enc_4, lenI_rows]); (try simp only [ci_lt, ci_le, ci_eq, ci_eqS, ci_nblt, ci_nble, cond_not, G_lt, G_le, G_eq, G_nble, G_nblt, G_room, G_roomN, cond_true, cond_false, G_true, Nat.add_zero]))
    refine ⟨fun _ => ⟨by omega, by omega, ?_⟩, fun e => absurd e (by omega)⟩
    refine F36.spec (by omega) fun H1 => ?_
    ((try simp only [G_int, G_bool, G_str, G_sl, G_own, toInt_int, toBool_bool, toStr_str, slXs_sl, enc_0, enc_1, enc_2, enc_3, enc_4, lenI_rows]); (try simp only [ci_lt, ci_le, ci_eq, ci_eqS, ci_nblt, ci_nble, cond_not, G_lt, G_le, G_eq, G_nble, G_nblt, G_room, G_roomN, cond_true, cond_false, G_true, Nat.add_zero]))
    refine F36.spec (by omega) fun H2 => ?_
    ((try simp only [G_int, G_bool, G_str, G_sl, G_own, toInt_int, toBool_bool, toStr_str, slXs_sl, enc_0, enc_1, enc_2, enc_3, enc_4, lenI_rows]); (try simp only [ci_lt, ci_le, ci_eq, ci_eqS, ci_nblt, ci_nble, cond_not, G_lt, G_le, G_eq, G_nble, G_nblt, G_room, G_roomN, cond_true, cond_false, G_true, Nat.add_zero]))
    rcases idx_look c.key xs with ⟨h1, h2⟩ | ⟨pre', d, post', h1, h2, h3⟩
    · rw [h1]
      refine ⟨fun _ => yes (by simp only [dif, h2]) _, fun e => absurd (by omega) e⟩
    · have hl' := fits_len h1
      rw [h2, row_mid h1]
      refine ⟨fun e => absurd e (by omega), fun _ => ?_⟩
      rcases idx_look c.key ys with ⟨k1, k2⟩ | ⟨pre'', d', post'', k1, k2, k3⟩
      · rw [k1]
        refine ⟨fun _ => yes (by simp only [dif, h3, k2]) _, fun e => absurd (by omega) e⟩
      · have hl'' := fits_len k1
        rw [k2, row_mid k1]
        ((try simp only [G_int, G_bool, G_str, G_sl, G_own, toInt_int, toBool_bool, toStr_str, slXs_sl, enc_0, enc_1, enc_2, enc_3, enc_4, lenI_rows]); (try simp only [ci_lt, ci_le, ci_eq, ci_eqS, ci_nblt, ci_nble, cond_not, G_lt, G_le, G_eq, G_nble, G_nblt, G_room, G_roomN, cond_true, cond_false, G_true, Nat.add_zero]))
        refine ⟨fun e => absurd e (by omega), fun _ => ⟨by omega, by omega, by omega, by omega, ?_⟩⟩
        rw [cell_eq]
        by_cases e : d = d'
        · rw [decide_eq_true e]
          ((try simp only [G_int, G_bool, G_str, G_sl, G_own, toInt_int, toBool_bool, toStr_str, slXs_sl, enc_0, enc_1, enc_2, enc_3, enc_4, lenI_rows]); (try simp only [ci_lt, ci_le, ci_eq, ci_eqS, ci_nblt, ci_nble, cond_not, G_lt, G_le, G_eq, G_nble, G_nblt, G_room, G_roomN, cond_true, cond_false, G_true, Nat.add_zero]))
          exact no (by simp only [dif, h3, k3, e, if_true]) _
        · rw [decide_eq_false e]
          ((try simp only [G_int, G_bool, G_str, G_sl, G_own, toInt_int, toBool_bool, toStr_str, slXs_sl, enc_0, enc_1, enc_2, enc_3, enc_4, lenI_rows]); (try simp only [ci_lt, ci_le, ci_eq, ci_eqS, ci_nblt, ci_nble, cond_not, G_lt, G_le, G_eq, G_nble, G_nblt, G_room, G_roomN, cond_true, cond_false, G_true, Nat.add_zero]))
          exact yes (by simp only [dif, h3, k3, if_neg e]) _
theorem F24.spec {xs ys : List Cl} {H : Heap} {Q : AV → Heap → Prop} (hs : xs.length + ys.length ≤ 100000) (h : ∀ H, Q (.sl 0 1 (strs (diffR xs ys))) H) : C 24 [.sl 0 5 (rows xs), .sl 0 5 (rows ys)] H Q := by
  refine F24.call ?_
  unfold F24.t
  refine F21.spec hs fun H1 => ?_
  ((try simp only [G_int, G_bool, G_str, G_sl, G_own, toInt_int, toBool_bool, toStr_str, slXs_sl, enc_0, enc_1, enc_2, enc_3, enc_4, lenI_rows]); (try simp only [ci_lt, ci_le, ci_eq, ci_eqS, ci_nblt, ci_nble, cond_not, G_lt, G_le, G_eq, G_nble, G_nblt, G_room, G_roomN, cond_true, cond_false, G_true, Nat.add_zero]))
  have := mergeR_len ys xs
  exact F24.loop (by omega) (by omega) (by omega) (mergeR xs ys) [] [] _ rfl (Nat.le_refl _) h
end Go.Proofs.Ytkjmkhgaghighaa.Ab
