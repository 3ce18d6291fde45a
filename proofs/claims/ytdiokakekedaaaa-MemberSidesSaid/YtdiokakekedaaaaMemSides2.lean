/- Member: both ways to find the sides. -/
import Derived.Test.YtdiokakekedaaaaMemSides
namespace Go.Proofs.Ytdiokakekedaaaa.Ab
open Go

/-! The program's labelling -/
def stepL (n : Nat) (f : Nat → Nat) (p : Int × Int) : Nat → Nat := if okL n p then Gr.relab n (max (f p.1.toNat) (f p.2.toNat)) (min (f p.1.toNat) (f p.2.toNat)) f else f
def labL (n : Nat) (l : List (Int × Int)) : Nat → Nat := l.foldl (stepL n) id
theorem labL_snoc {n : Nat} {l : List (Int × Int)} {p : Int × Int} : labL n (l ++ [p]) = stepL n (labL n l) p := by simp [labL]
theorem labL_low {n : Nat} : ∀ (l post : List (Int × Int)) (f : Nat → Nat), Gr.Low n (val n l) f → Gr.Low n (val n (l ++ post)) (post.foldl (stepL n) f)
  | l, [], f, h => by simpa using h
  | l, p :: post, f, h => by
    have := labL_low (n := n) (l ++ [p]) post (stepL n f p) (by
      rw [val_snoc]
      unfold stepL
      cases ho : okL n p
      · simpa using h
      · simp only [if_true]
        simp [okL] at ho
        exact h.link val_lt (by omega) (by omega))
    simpa using this
theorem lab_low {n : Nat} (l : List (Int × Int)) : Gr.Low n (val n l) (labL n l) := labL_low [] l id (Gr.Low.start n)
theorem cmax {x y : Nat} : cond (ltI (x : Int) (y : Int)) (y : Int) (x : Int) = ((max x y : Nat) : Int) := by
  unfold ltI
  by_cases h : (x : Int) < y
  · rw [decide_eq_true h, cond_true]; omega
  · rw [decide_eq_false h, cond_false]; omega
theorem cmin {x y : Nat} : cond (ltI (y : Int) (x : Int)) (y : Int) (x : Int) = ((min x y : Nat) : Int) := by
  unfold ltI
  by_cases h : (y : Int) < x
  · rw [decide_eq_true h, cond_true]; omega
  · rw [decide_eq_false h, cond_false]; omega
section
variable {n : Nat} {l : List (Int × Int)} {r : AV}
theorem F19.l1 (hn : n ≤ 7) (hls : l.length ≤ 100000) (fin : ∀ F : Nat → Int, (∀ k, k < n → F k = labL n l k) → Ev (fun m => F19.PL (n : Int) (links l) m (.l3 [] 0 (F 0) (F 1) (F 2) (F 3) (F 4) (F 5) (F 6))) r) :
    ∀ (post pre : List (Int × Int)) (F : Nat → Int), l = pre ++ post → (∀ k, k < n → F k = labL n pre k) → Ev (fun m => F19.PL (n : Int) (links l) m (.l1 (pre.length : Int) (F 0) (F 1) (F 2) (F 3) (F 4) (F 5) (F 6))) r
  | [], pre, F, h, hF => by
    have hl := len_end h
    rw [List.append_nil] at h
    subst h
    refine Ev.succ ?_
    simp only [F19.PL, lenI_links]
    refine Ev.neg (by rw [tt_lt]; omega) ?_
    exact fin F hF
  | p :: post, pre, F, h, hF => by
    have hl := len_mid h
    have go : ∀ F' : Nat → Int, (∀ k, k < n → F' k = labL n (pre ++ [p]) k) → Ev (fun m => F19.PL (n : Int) (links l) m (.l1 (addW .i64 (pre.length : Int) 1) (F' 0) (F' 1) (F' 2) (F' 3) (F' 4) (F' 5) (F' 6))) r := fun F' hF' => by
      have := F19.l1 hn hls fin post (pre ++ [p]) F' (by rw [h]; simp) hF'
      rw [add1 (c := p) (by omega)]
      exact this
    have skip : okL n p = false → Ev (fun m => F19.PL (n : Int) (links l) m (.lR13 p.1 p.2 (pre.length : Int) true (F 0) (F 1) (F 2) (F 3) (F 4) (F 5) (F 6) p.1 p.2)) r := fun ho => by
      refine Ev.succ ?_
      simp only [F19.PL]
      refine Ev.pos trivial (go F fun k hk => ?_)
      rw [labL_snoc, stepL, ho]
      exact hF k hk
    refine Ev.succ ?_
    simp only [F19.PL, lenI_links, links_at h, ce_0, ce_s, toInt_int, isInt_i]
    refine Ev.pos (by rw [tt_lt]; omega) (Ev.pos (by rw [tt_le]; omega) (Ev.pos (by rw [tt_lt]; omega) (Ev.pos trivial (Ev.pos trivial ?_))))
    by_cases e1 : p.1 < 0
    · exact Ev.pos (by rw [tt_lt]; exact e1) (skip (by simp [okL]; omega))
    · refine Ev.neg (by rw [tt_lt]; exact e1) ?_
      by_cases e2 : p.2 < 0
      · exact Ev.pos (by rw [tt_lt]; exact e2) (skip (by simp [okL]; omega))
      · refine Ev.neg (by rw [tt_lt]; exact e2) ?_
        by_cases e3 : (n : Int) ≤ p.1
        · exact Ev.pos (by rw [tt_le]; exact e3) (skip (by simp [okL]; omega))
        · refine Ev.neg (by rw [tt_le]; exact e3) ?_
          by_cases e4 : (n : Int) ≤ p.2
          · rw [show leI (n : Int) p.2 = true by rw [tt_le]; exact e4]
            exact skip (by simp [okL]; omega)
          · rw [show leI (n : Int) p.2 = false by rw [ff_le]; exact e4]
            have ho : okL n p = true := by simp [okL]; omega
            have ha : p.1.toNat < n := by omega
            have hb : p.2.toNat < n := by omega
            refine Ev.succ ?_
            simp only [F19.PL, Nat.mul_one, Nat.zero_add, rd7 (F := F) (show p.1.toNat < 7 by omega), rd7 (F := F) (show p.2.toNat < 7 by omega), toInt_int, isInt_i]
            refine Ev.neg (by simp) ?_
            have c1 : leI 0 p.1 = true := by rw [tt_le]; omega
            have c2 : ltI p.1 7 = true := by rw [tt_lt]; omega
            have c3 : leI 0 p.2 = true := by rw [tt_le]; omega
            have c4 : ltI p.2 7 = true := by rw [tt_lt]; omega
            refine Ev.pos c1 (Ev.pos c2 (Ev.pos trivial (Ev.pos c3 (Ev.pos c4 (Ev.pos trivial (Ev.pos c1 (Ev.pos c2 (Ev.pos trivial (Ev.pos c3 (Ev.pos c4 (Ev.pos trivial ?_)))))))))))
            rw [hF _ ha, hF _ hb, cmax, cmin]
            refine F19.l2 hn (f := labL n pre) (fun F' hF' => go F' fun k hk => ?_) n 0 F (by omega) fun k hk => ?_
            · rw [labL_snoc, stepL, ho]
              exact hF' k hk
            · rw [if_neg (by omega)]
              exact hF k hk
theorem F19.l0 (hn : n ≤ 7) (fin : ∀ F : Nat → Int, (∀ k, k < n → F k = k) → Ev (fun m => F19.PL (n : Int) (links l) m (.l1 0 (F 0) (F 1) (F 2) (F 3) (F 4) (F 5) (F 6))) r) :
    ∀ (d i : Nat) (F : Nat → Int), i + d = n → (∀ k, k < i → F k = k) → Ev (fun m => F19.PL (n : Int) (links l) m (.l0 (i : Int) (F 0) (F 1) (F 2) (F 3) (F 4) (F 5) (F 6))) r
  | 0, i, F, hi, hF => by
    refine Ev.succ ?_
    simp only [F19.PL]
    refine Ev.neg (by rw [tt_lt]; omega) ?_
    exact fin F fun k hk => hF k (by omega)
  | d + 1, i, F, hi, hF => by
    refine Ev.succ ?_
    simp only [F19.PL, Nat.mul_one, Nat.zero_add, Int.toNat_natCast]
    refine Ev.pos (by rw [tt_lt]; omega) (Ev.pos (by rw [tt_le]; omega) (Ev.pos (by rw [tt_lt]; omega) (Ev.pos (by rw [tt_nble]; omega) ?_)))
    rw [addW_eq (by omega) (by omega)]
    refine F19.l0 hn fin d (i + 1) (upd F i i) (by omega) fun k hk => ?_
    rw [upd_eq]
    by_cases q : k = i
    · rw [if_pos q, q]
    · rw [if_neg q]; exact hF k (by omega)
theorem F19.eq (h1 : 1 ≤ n) (hn : n ≤ 7) (hls : l.length ≤ 100000) : F19.P (n : Int) (links l) = some (.sl 0 1 (grps (sides (labL n l) n))) := by
  unfold F19.P
  refine lim_eq ?_
  refine Ev.neg (by rw [tt_lt]; omega) (Ev.neg (by rw [tt_lt]; omega) ?_)
  refine F19.l0 hn (fun F hF => ?_) n 0 (fun _ => 0) (by omega) (fun k hk => by omega)
  refine F19.l1 hn hls (fun F' hF' => ?_) l [] F rfl (fun k hk => by rw [hF k hk]; rfl)
  exact F19.l3 hn hF' n 0 [] (by omega) (by simp) rfl

/-! The reference's rounds -/
def lowL (g : Nat → Nat) (n : Nat) : List (List AV) := (List.range n).map fun k => [.int .i64 (g k : Int)]
theorem lenI_lowL {g : Nat → Nat} : lenI (lowL g n) = (n : Int) := by simp [lenI, lowL]
theorem low_get {g : Nat → Nat} {i : Nat} (h : i < n) : ro (lowL g n) i = [.int .i64 (g i : Int)] := by
  unfold ro lowL
  rw [List.getD_eq_getElem?_getD, List.getElem?_map, List.getElem?_range h]
  rfl
theorem low_set {g : Nat → Nat} {i v : Nat} : (lowL g n).set i [.int .i64 (v : Int)] = lowL (fun k => if k = i then v else g k) n := by
  refine List.ext_getElem? fun k => ?_
  rw [List.getElem?_set]
  unfold lowL
  rw [List.length_map, List.length_range, List.getElem?_map, List.getElem?_map]
  by_cases hk : k < n
  · rw [List.getElem?_range hk]
    by_cases e : i = k
    · subst e; simp [hk]
    · simp [e, Ne.symm e]
  · rw [List.getElem?_eq_none (by simpa using hk)]
    by_cases e : i = k
    · subst e; simp [hk]
    · simp [e]
theorem F20.l4 (hn : n ≤ 7) {f : Nat → Nat} {out : List (List Int)} {i : Nat} (ho : out.length ≤ i) (hi : i < n)
    (next : ∀ out', out' = out ++ (if sF f i 0 n = [] then [] else [sF f i 0 n]) → Ev (fun m => F20.PL (n : Int) (links l) m (.l3 (lowL f n) (grps out') ((i : Int) + 1))) r) :
    ∀ (d k : Nat) (side : List Int), k + d = n → side.length ≤ k → side ++ sF f i k d = sF f i 0 n → Ev (fun m => F20.PL (n : Int) (links l) m (.l4 (lowL f n) (grps out) (i : Int) (ints side) (i : Int) (k : Int))) r
  | 0, k, side, hk, hs, he => by
    have hsl := length_ints (l := side)
    have hgl := length_grps (l := out)
    refine Ev.succ ?_
    simp only [F20.PL]
    refine Ev.neg (by rw [tt_lt]; omega) ?_
    simp only [sF, List.append_nil] at he
    subst he
    rw [lenI_ints, addW_eq (by omega) (by omega)]
    by_cases hz : sF f i 0 n = []
    · refine Ev.neg (by rw [tt_lt, hz]; simp) ?_
      exact next _ (by rw [if_pos hz, List.append_nil])
    · have hpos : 0 < (sF f i 0 n).length := List.length_pos_iff.2 hz
      refine Ev.pos (by rw [tt_lt]; omega) ?_
      refine Ev.pos (by rw [tt_room, hgl]; simp only [List.length_singleton]; omega) ?_
      rw [grps_snoc]
      exact next _ (by rw [if_neg hz])
  | d + 1, k, side, hk, hs, he => by
    have hsl := length_ints (l := side)
    refine Ev.succ ?_
    simp only [F20.PL, lenI_lowL, Int.toNat_natCast, low_get (g := f) (show k < n by omega), ce_0, toInt_int, isInt_i]
    refine Ev.pos (by rw [tt_lt]; omega) (Ev.pos (by rw [tt_le]; omega) (Ev.pos (by rw [tt_lt]; omega) (Ev.pos trivial ?_)))
    rw [addW_eq (by omega) (by omega)]
    simp only [sF] at he
    by_cases e : f k = i
    · rw [if_pos e] at he
      refine Ev.pos (by rw [tt_eq, e]) (Ev.pos (by rw [tt_room, hsl]; simp only [List.length_singleton]; omega) ?_)
      rw [ints_snoc]
      exact F20.l4 hn ho hi next d (k + 1) (side ++ [(k : Int)]) (by omega) (by simp; omega) (by rw [← he]; simp)
    · rw [if_neg e] at he
      refine Ev.neg (by rw [tt_eq]; omega) ?_
      exact F20.l4 hn ho hi next d (k + 1) side (by omega) (by omega) he
theorem F20.l3 (hn : n ≤ 7) {f : Nat → Nat} : ∀ (d i : Nat) (out : List (List Int)), i + d = n → out.length ≤ i → r = .sl 0 1 (grps (out ++ gF f n i d)) → Ev (fun m => F20.PL (n : Int) (links l) m (.l3 (lowL f n) (grps out) (i : Int))) r
  | 0, i, out, hi, ho, hr => by
    refine Ev.succ ?_
    simp only [F20.PL]
    refine Ev.neg (by rw [tt_lt]; omega) ?_
    rw [hr]
    simp only [gF, List.append_nil]
    exact Ev.const
  | d + 1, i, out, hi, ho, hr => by
    refine Ev.succ ?_
    simp only [F20.PL]
    refine Ev.pos (by rw [tt_lt]; omega) ?_
    refine F20.l4 hn ho (by omega) (fun out' ho' => ?_) n 0 [] (by omega) (by simp) rfl
    refine F20.l3 hn d (i + 1) out' (by omega) (by rw [ho']; split <;> simp <;> omega) ?_
    rw [hr, ho']
    simp only [gF, List.append_assoc]
end
end Go.Proofs.Ytdiokakekedaaaa.Ab
