/- Member: the sides that links make. -/
import Derived.Test.YtdiokakekedaaaaMemTimes
import Derived.Test.YtdiokakekedaaaaMemGraph
namespace Go.Proofs.Ytdiokakekedaaaa.Ab
open Go

/-! The groups of a labelling -/
def sF (f : Nat → Nat) (i : Nat) : Nat → Nat → List Int
  | _, 0 => []
  | k, d + 1 => if f k = i then (k : Int) :: sF f i (k + 1) d else sF f i (k + 1) d
def gF (f : Nat → Nat) (n : Nat) : Nat → Nat → List (List Int)
  | _, 0 => []
  | i, d + 1 => (if sF f i 0 n = [] then [] else [sF f i 0 n]) ++ gF f n (i + 1) d
def sides (f : Nat → Nat) (n : Nat) : List (List Int) := gF f n 0 n
theorem sF_congr {f g : Nat → Nat} {i : Nat} : ∀ {d k : Nat}, (∀ j, j < k + d → f j = g j) → sF f i k d = sF g i k d
  | 0, _, _ => rfl
  | d + 1, k, h => by
    simp only [sF]
    rw [h k (by omega), sF_congr (d := d) (k := k + 1) fun j hj => h j (by omega)]
theorem gF_congr {f g : Nat → Nat} {n : Nat} (h : ∀ j, j < n → f j = g j) : ∀ d i, gF f n i d = gF g n i d
  | 0, _ => rfl
  | d + 1, i => by
    simp only [gF]
    rw [sF_congr (d := n) (k := 0) fun j hj => h j (by omega), gF_congr h d]
theorem sF_len {f : Nat → Nat} {i : Nat} : ∀ (d k : Nat), (sF f i k d).length ≤ d
  | 0, _ => by simp [sF]
  | d + 1, k => by
    have := sF_len (f := f) (i := i) d (k + 1)
    simp only [sF]
    split <;> simp <;> omega
theorem gF_len {f : Nat → Nat} {n : Nat} : ∀ (d i : Nat), (gF f n i d).length ≤ d
  | 0, _ => by simp [gF]
  | d + 1, i => by
    have := gF_len (f := f) (n := n) d (i + 1)
    simp only [gF]
    split <;> simp <;> omega
theorem gF_mem {f : Nat → Nat} {n : Nat} : ∀ (d i : Nat), ∀ g ∈ gF f n i d, g.length ≤ n
  | 0, _, g, h => by simp [gF] at h
  | d + 1, i, g, h => by
    simp only [gF, List.mem_append] at h
    rcases h with h | h
    · split at h
      · simp at h
      · rw [List.mem_singleton] at h; subst h; exact sF_len n 0
    · exact gF_mem d (i + 1) g h
theorem grps_snoc {l : List (List Int)} {x : List Int} : grps l ++ [[.sl 0 1 (ints x)]] = grps (l ++ [x]) := by simp [grps]
theorem length_grps {l : List (List Int)} : (grps l).length = l.length := by simp [grps]

/-! Links -/
def links (l : List (Int × Int)) : List (List AV) := l.map fun p => [.int .i64 p.1, .int .i64 p.2]
theorem lenI_links {l : List (Int × Int)} : lenI (links l) = (l.length : Int) := lenI_map
theorem links_at {l pre post : List (Int × Int)} {x : Int × Int} (h : l = pre ++ x :: post) : ro (links l) (pre.length : Int).toNat = [.int .i64 x.1, .int .i64 x.2] := ro_at h
def okL (n : Nat) (p : Int × Int) : Bool := decide (0 ≤ p.1) && decide (0 ≤ p.2) && decide (p.1 < n) && decide (p.2 < n)
def val (n : Nat) (l : List (Int × Int)) : List (Nat × Nat) := (l.filter (okL n)).map fun p => (p.1.toNat, p.2.toNat)
theorem val_lt {n : Nat} {l : List (Int × Int)} : ∀ e ∈ val n l, e.1 < n ∧ e.2 < n := by
  intro e he
  obtain ⟨p, hp, rfl⟩ := List.mem_map.1 he
  have := (List.mem_filter.1 hp).2
  simp [okL] at this
  simp only
  omega
theorem val_snoc {n : Nat} {l : List (Int × Int)} {p : Int × Int} : val n (l ++ [p]) = val n l ++ (if okL n p then [(p.1.toNat, p.2.toNat)] else []) := by
  unfold val
  rw [List.filter_append, List.map_append, List.filter_cons, List.filter_nil]
  cases okL n p <;> rfl
theorem rd7 {F : Nat → Int} {i : Nat} (h : i < 7) : ce [.int .i64 (F 0), .int .i64 (F 1), .int .i64 (F 2), .int .i64 (F 3), .int .i64 (F 4), .int .i64 (F 5), .int .i64 (F 6)] i = .int .i64 (F i) := by
  match i, h with
  | 0, _ => rfl
  | 1, _ => rfl
  | 2, _ => rfl
  | 3, _ => rfl
  | 4, _ => rfl
  | 5, _ => rfl
  | 6, _ => rfl
def upd (F : Nat → Int) (i : Nat) (v : Int) (k : Nat) : Int := cond (Nat.beq i k) v (F k)
theorem upd_eq {F : Nat → Int} {i k : Nat} {v : Int} : upd F i v k = if k = i then v else F k := by
  unfold upd
  by_cases h : k = i
  · subst h; simp
  · rw [if_neg h]
    have : Nat.beq i k = false := by
      cases hb : Nat.beq i k with
      | false => rfl
      | true => exact absurd (Nat.eq_of_beq_eq_true hb).symm h
    rw [this]; rfl

section
variable {n : Nat} {l : List (Int × Int)} {r : AV}
theorem F19.l4 (hn : n ≤ 7) {f : Nat → Nat} {F : Nat → Int} (hF : ∀ k, k < n → F k = f k) {out : List (List Int)} {i : Nat} (ho : out.length ≤ i) (hi : i < n)
    (next : ∀ out', out' = out ++ (if sF f i 0 n = [] then [] else [sF f i 0 n]) → Ev (fun m => F19.PL (n : Int) (links l) m (.l3 (grps out') ((i : Int) + 1) (F 0) (F 1) (F 2) (F 3) (F 4) (F 5) (F 6))) r) :
    ∀ (d k : Nat) (side : List Int), k + d = n → side.length ≤ k → side ++ sF f i k d = sF f i 0 n → Ev (fun m => F19.PL (n : Int) (links l) m (.l4 (grps out) (i : Int) (ints side) (i : Int) (k : Int) (F 0) (F 1) (F 2) (F 3) (F 4) (F 5) (F 6))) r
  | 0, k, side, hk, hs, he => by
    have hsl := length_ints (l := side)
    have hgl := length_grps (l := out)
    refine Ev.succ ?_
    simp only [F19.PL]
    refine Ev.neg (by rw [tt_lt]; omega) ?_
    simp only [sF, List.append_nil] at he
    subst he
    rw [lenI_ints, addW_eq (by omega) (by omega)]
    by_cases hz : sF f i 0 n = []
    · refine Ev.neg (by rw [tt_lt, hz]; simp) ?_
      exact next _ (by rw [if_pos hz, List.append_nil])
    · have hpos : 0 < (sF f i 0 n).length := List.length_pos_iff.2 hz
      refine Ev.pos (by rw [tt_lt]; omega) ?_
      refine Ev.pos (by rw [tt_room, hgl]; simp only [List.length_singleton]; omega) ?_
      rw [grps_snoc]
      exact next _ (by rw [if_neg hz])
  | d + 1, k, side, hk, hs, he => by
    have hsl := length_ints (l := side)
    have hFk := hF k (by omega)
    refine Ev.succ ?_
    simp only [F19.PL, Nat.mul_one, Nat.zero_add, Int.toNat_natCast, rd7 (F := F) (show k < 7 by omega), toInt_int, isInt_i]
    refine Ev.pos (by rw [tt_lt]; omega) (Ev.pos (by rw [tt_le]; omega) (Ev.pos (by rw [tt_lt]; omega) (Ev.pos trivial ?_)))
    rw [addW_eq (by omega) (by omega)]
    simp only [sF] at he
    by_cases e : f k = i
    · rw [if_pos e] at he
      refine Ev.pos (by rw [tt_eq, hFk, e]) (Ev.pos (by rw [tt_room, hsl]; simp only [List.length_singleton]; omega) ?_)
      rw [ints_snoc]
      exact F19.l4 hn hF ho hi next d (k + 1) (side ++ [(k : Int)]) (by omega) (by simp; omega) (by rw [← he]; simp)
    · rw [if_neg e] at he
      refine Ev.neg (by rw [tt_eq, hFk]; omega) ?_
      exact F19.l4 hn hF ho hi next d (k + 1) side (by omega) (by omega) he
theorem F19.l3 (hn : n ≤ 7) {f : Nat → Nat} {F : Nat → Int} (hF : ∀ k, k < n → F k = f k) : ∀ (d i : Nat) (out : List (List Int)), i + d = n → out.length ≤ i → r = .sl 0 1 (grps (out ++ gF f n i d)) → Ev (fun m => F19.PL (n : Int) (links l) m (.l3 (grps out) (i : Int) (F 0) (F 1) (F 2) (F 3) (F 4) (F 5) (F 6))) r
  | 0, i, out, hi, ho, hr => by
    refine Ev.succ ?_
    simp only [F19.PL]
    refine Ev.neg (by rw [tt_lt]; omega) ?_
    rw [hr]
    simp only [gF, List.append_nil]
    exact Ev.const
  | d + 1, i, out, hi, ho, hr => by
    refine Ev.succ ?_
    simp only [F19.PL]
    refine Ev.pos (by rw [tt_lt]; omega) ?_
    refine F19.l4 hn hF ho (by omega) (fun out' ho' => ?_) n 0 [] (by omega) (by simp) rfl
    refine F19.l3 hn hF d (i + 1) out' (by omega) (by rw [ho']; split <;> simp <;> omega) ?_
    rw [hr, ho']
    simp only [gF, List.append_assoc]
theorem F19.l2 (hn : n ≤ 7) {f : Nat → Nat} {frm to : Nat} {x34 u w : Int} (next : ∀ F' : Nat → Int, (∀ k, k < n → F' k = Gr.relab n frm to f k) → Ev (fun m => F19.PL (n : Int) (links l) m (.l1 (addW .i64 x34 1) (F' 0) (F' 1) (F' 2) (F' 3) (F' 4) (F' 5) (F' 6))) r) :
    ∀ (d i : Nat) (F : Nat → Int), i + d = n → (∀ k, k < n → F k = if k < i then Gr.relab n frm to f k else f k) → Ev (fun m => F19.PL (n : Int) (links l) m (.l2 (frm : Int) (to : Int) x34 (i : Int) (F 0) (F 1) (F 2) (F 3) (F 4) (F 5) (F 6) u w)) r
  | 0, i, F, hi, hF => by
    refine Ev.succ ?_
    simp only [F19.PL]
    refine Ev.neg (by rw [tt_lt]; omega) ?_
    exact next F fun k hk => by rw [hF k hk, if_pos (by omega)]
  | d + 1, i, F, hi, hF => by
    have hFi := hF i (by omega)
    rw [if_neg (by omega)] at hFi
    refine Ev.succ ?_
    simp only [F19.PL, Nat.mul_one, Nat.zero_add, Int.toNat_natCast, rd7 (F := F) (show i < 7 by omega), toInt_int, isInt_i]
    refine Ev.pos (by rw [tt_lt]; omega) (Ev.pos (by rw [tt_le]; omega) (Ev.pos (by rw [tt_lt]; omega) (Ev.pos trivial ?_)))
    rw [addW_eq (by omega) (by omega)]
    by_cases e : f i = frm
    · refine Ev.pos (by rw [tt_eq, hFi, e]) (Ev.pos (by rw [tt_le]; omega) (Ev.pos (by rw [tt_lt]; omega) (Ev.pos (by rw [tt_nble]; omega) ?_)))
      refine F19.l2 hn next d (i + 1) (upd F i to) (by omega) fun k hk => ?_
      rw [upd_eq]
      by_cases q : k = i
      · subst q
        rw [if_pos rfl, if_pos (by omega), Gr.relab, if_pos ⟨hk, e⟩]
      · rw [if_neg q, hF k hk]
        by_cases q2 : k < i
        · rw [if_pos q2, if_pos (by omega)]
        · rw [if_neg q2, if_neg (by omega)]
    · refine Ev.neg (by rw [tt_eq, hFi]; omega) ?_
      refine F19.l2 hn next d (i + 1) F (by omega) fun k hk => ?_
      rw [hF k hk]
      by_cases q : k = i
      · subst q
        rw [if_neg (by omega), if_pos (by omega), Gr.relab, if_neg (fun h => e h.2)]
      · by_cases q2 : k < i
        · rw [if_pos q2, if_pos (by omega)]
        · rw [if_neg q2, if_neg (by omega)]
end
end Go.Proofs.Ytdiokakekedaaaa.Ab
