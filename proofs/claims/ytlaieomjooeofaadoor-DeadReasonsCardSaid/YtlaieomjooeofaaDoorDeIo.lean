/- Dead: the library's functions, and the functions that turn the slice that they are handed. -/
import Derived.Test.YtlaieomjooeofaaDoorDeIns
import Derived.Test.YtlaieomjooeofaaDoorAbP
import Derived.Test.YtlaieomjooeofaaDoorAbScal
import Derived.Lib.ItoaLen
namespace Go.Proofs.YtlaieomjooeofaaDoor.Ab
open Go
set_option linter.unusedSimpArgs false

/-! The library's functions -/
def I64 (n : Int) : Prop := -9223372036854775808 ≤ n ∧ n ≤ 9223372036854775807
theorem bs_itoa (n : Int) : bs (itoaV n) = Lib.itoa n := by simp [bs, itoaV]
theorem bs_app (a b : ByteArray) : bs (a ++ b) = bs a ++ bs b := by simp [bs]
theorem itoa_len {n : Int} (h : I64 n) : (Lib.itoa n).length ≤ 21 := by
  have := Lib.itoa_length_le n h.1 h.2
  omega
def cmpS (a b : ByteArray) : Int := Lib.compareBytes (bs a) (bs b)
theorem F34.spec {n : Int} (h : I64 n) {Q : AV → Heap → Prop} {H : Heap} (hQ : Q (.str (itoaV n)) H) : C 34 [.int .i64 n] H Q := by
  refine Call_intro (E := E0) ?_
  show ∃ Q' : AV → Heap → Prop, (∀ v H, Q' v H → Q v H) ∧ E0.leaf 34 [.int .i64 n] H Q'
  exact ⟨Q, fun _ _ h => h, .inl ⟨rfl, n, rfl, h, hQ⟩⟩
theorem F54.spec {a b : ByteArray} {Q : AV → Heap → Prop} {H : Heap} (hQ : Q (.int .i64 (cmpS a b)) H) : C 54 [.str a, .str b] H Q := by
  refine Call_intro (E := E0) ?_
  show ∃ Q' : AV → Heap → Prop, (∀ v H, Q' v H → Q v H) ∧ E0.leaf 54 [.str a, .str b] H Q'
  exact ⟨Q, fun _ _ h => h, .inr (.inl ⟨rfl, _, ⟨a, b, rfl, rfl⟩, ⟨rfl, rfl⟩, hQ⟩)⟩
theorem F61.spec {s : ByteArray} {c : UInt8} {Q : AV → Heap → Prop} {H : Heap} (hQ : Q (.int .i64 (Lib.indexByte (bs s) c)) H) : C 61 [.str s, .str ⟨#[c]⟩] H Q := by
  refine Call_intro (E := E0) ?_
  show ∃ Q' : AV → Heap → Prop, (∀ v H, Q' v H → Q v H) ∧ E0.leaf 61 [.str s, .str ⟨#[c]⟩] H Q'
  exact ⟨Q, fun _ _ h => h, .inr (.inr (.inl ⟨rfl, _, ⟨s, c, rfl, rfl⟩, ⟨rfl, rfl⟩, hQ⟩))⟩
theorem F68.spec {x : Int} (hx : 0 ≤ x ∧ x ≤ 18446744073709551615) {Q : AV → Heap → Prop} {H : Heap} (hQ : ∀ n : Int, Q (.int .i64 n) H) : C 68 [.int .u64 x] H Q := by
  refine Call_intro (E := E0) ?_
  show ∃ Q' : AV → Heap → Prop, (∀ v H, Q' v H → Q v H) ∧ E0.leaf 68 [.int .u64 x] H Q'
  exact ⟨Q, fun _ _ h => h, .inr (.inr (.inr ⟨rfl, _, ⟨x, hx, rfl, rfl⟩, ⟨rfl, rfl⟩, hQ _⟩))⟩

/-! Properties -/
structure Pp where
  k : ByteArray
  v : ByteArray
  deriving DecidableEq
def Pp.enc (p : Pp) : List AV := [.str p.k, .str p.v]
def props (l : List Pp) : List (List AV) := l.map Pp.enc
theorem length_props {l : List Pp} : (props l).length = l.length := by simp [props]
theorem enc_eq (p : Pp) : p.enc = [.str p.k, .str p.v] := rfl
theorem F53.spec {p q : Pp} {Q : AV → Heap → Prop} {H : Heap} (hQ : ∀ H, Q (.int .i64 (cmpS p.k q.k)) H) : C 53 [.agg [.str p.k, .str p.v], .agg [.str q.k, .str q.v]] H Q := by
  refine F53.call ?_
  unfold F53.t
  refine F54.spec ?_
  rw [G_int]
  exact hQ _

/-! A heap of which one block is turned -/
structure Blq (H0 H : Heap) (j k : Nat) (xs : List (List AV)) : Prop where
  ne : ∀ i, i ≠ j → H.get i = H0.get i
  get : H.get j = .rows k xs
theorem Blq.set {H0 H : Heap} {j k : Nat} {xs ys : List (List AV)} (h : Blq H0 H j k xs) : Blq H0 (H.set j (.rows k ys)) j k ys :=
  ⟨fun i hi => by rw [set_get_ne _ _ hi]; exact h.ne i hi, set_get_self _ _ _⟩
theorem Blq.past {H0 H : Heap} {j k : Nat} {xs : List (List AV)} (h : Blq H0 H j k xs) (H' : Heap) : Blq H0 (H.past H') j k xs := ⟨h.ne, h.get⟩
theorem past_get (H H' : Heap) : (H.past H').get = H.get := rfl
theorem gd0 {P S : List (List AV)} {a : List AV} {i : Nat} (h : i = P.length) : (P ++ a :: S).getD i [] = a := by subst h; simp
theorem gd1 {P S : List (List AV)} {a b : List AV} {i : Nat} (h : i = P.length + 1) : (P ++ a :: b :: S).getD i [] = b := by subst h; simp [List.getElem?_append_right]
theorem sw0 {P S : List (List AV)} {a a' : List AV} {i : Nat} (h : i = P.length) : (P ++ a :: S).set i a' = P ++ a' :: S := by subst h; simp
theorem sw1 {P S : List (List AV)} {a b b' : List AV} {i : Nat} (h : i = P.length + 1) : (P ++ a :: b :: S).set i b' = P ++ a :: b' :: S := by subst h; simp [List.set_append_right]
theorem se2 {x y a b : AV} : ([x, y].set 0 a).set 1 b = [a, b] := rfl
theorem ce2 {x y : AV} : ce [x, y] 0 = x ∧ ce [x, y] 1 = y := ⟨rfl, rfl⟩

/-! slices.insertionSortCmpFunc -/
def lessP (x y : Pp) : Bool := decide (cmpS x.k y.k < 0)
def insR (x : Pp) : List Pp → List Pp
  | [] => [x]
  | y :: r => if lessP x y then y :: insR x r else x :: y :: r
def isort : List Pp → List Pp → List Pp
  | D, [] => D
  | D, x :: r => isort (insR x D.reverse).reverse r
theorem insR_len (x : Pp) : ∀ l, (insR x l).length = l.length + 1
  | [] => rfl
  | y :: r => by simp only [insR]; split <;> simp [insR_len x r]
theorem isort_len : ∀ (l D : List Pp), (isort D l).length = D.length + l.length
  | [], D => rfl
  | x :: r, D => by simp only [isort]; rw [isort_len r]; simp [insR_len]; omega
section
variable {j n c : Nat} {Q : AV → Heap → Prop} {H0 : Heap}
theorem F84.l1 (hb : n ≤ 100000) {i : Int} {m : Nat} : ∀ (Pr : List Pp) (x : Pp) (S : List (List AV)) (H : Heap), Pr.length < n → Blq H0 H j 2 (props Pr.reverse ++ x.enc :: S) →
      (∀ H', Blq H0 H' j 2 (props (insR x Pr).reverse ++ S) → F84h.L0 j n c 0 m Q (addW .i64 i 1) H') → F84h.L1 j n c 0 m Q i (Pr.length : Int) H
  | [], x, S, H, hn, hB, hQ => by
    refine F84h.L1_step ?_
    unfold F84h.r1
    ((try simp only [G_int, G_bool, G_str, G_sl, G_own, toInt_int, toBool_bool, toStr_str, slXs_sl]); (try simp only [ci_lt, ci_le, ci_eq, ci_eqS, ci_nblt, ci_nble, cond_not, G_lt, G_le, G_eq, G_nble, G_nblt, G_room, G_roomN, cond_true, cond_false, G_true, Nat.add_zero]))
    exact ⟨fun e => absurd e (by simp), fun _ => hQ H (by simpa [insR, props] using hB)⟩
  | y :: r, x, S, H, hn, hB, hQ => by
    have hn' : r.length + 1 < n := by simpa using hn
    have hB' : Blq H0 H j 2 (props r.reverse ++ y.enc :: x.enc :: S) := by
      have e : props (y :: r).reverse ++ x.enc :: S = props r.reverse ++ y.enc :: x.enc :: S := by simp [props]
      rw [← e]; exact hB
    have hlr : (props r.reverse).length = r.length := by simp [props]
    have hlen : ((y :: r).length : Int) = ((r.length + 1 : Nat) : Int) := by simp
    rw [hlen]
    have e0 : subW .i64 ((r.length + 1 : Nat) : Int) 1 = (r.length : Int) := by rw [subW_eq (by omega) (by omega)]; omega
    refine F84h.L1_step ?_
    unfold F84h.r1
    simp only [past_get, hB'.get, isRows_rows, xs_rows, set_get_self, e0, Int.toNat_natCast, Nat.zero_add]
    rw [gd0 hlr.symm, gd1 (by rw [hlr])]
    simp only [enc_eq, ce2.1, ce2.2, toStr_str, G_str]
    ((try simp only [G_int, G_bool, G_str, G_sl, G_own, toInt_int, toBool_bool, toStr_str, slXs_sl]); (try simp only [ci_lt, ci_le, ci_eq, ci_eqS, ci_nblt, ci_nble, cond_not, G_lt, G_le, G_eq, G_nble, G_nblt, G_room, G_roomN, cond_true, cond_false, G_true, Nat.add_zero]))
    refine ⟨fun _ => ⟨by omega, by omega, by omega, by omega, F53.spec (p := x) (q := y) fun H2 => ?_⟩, fun e => absurd e (by omega)⟩
    ((try simp only [G_int, G_bool, G_str, G_sl, G_own, toInt_int, toBool_bool, toStr_str, slXs_sl]); (try simp only [ci_lt, ci_le, ci_eq, ci_eqS, ci_nblt, ci_nble, cond_not, G_lt, G_le, G_eq, G_nble, G_nblt, G_room, G_roomN, cond_true, cond_false, G_true, Nat.add_zero]))
    have s1 : (props r.reverse ++ [AV.str y.k, AV.str y.v] :: [AV.str x.k, AV.str x.v] :: S).set (r.length + 1) [AV.str y.k, AV.str y.v] = props r.reverse ++ [AV.str y.k, AV.str y.v] :: [AV.str y.k, AV.str y.v] :: S := sw1 (by rw [hlr])
    simp only [se2, s1]
    rw [gd0 hlr.symm, sw0 hlr.symm]
    simp only [se2]
    refine ⟨fun e => ⟨by omega, by omega, by omega, by omega, by omega, by omega, by simp [hlr], by omega, by omega, by simp [hlr] <;> omega, ?_⟩, fun e => ?_⟩
    · have hlt : lessP x y = true := by simp [lessP]; exact e
      have hB2 : Blq H0 (((H.past H2).set j (.rows 2 (props r.reverse ++ y.enc :: y.enc :: S))).set j (.rows 2 (props r.reverse ++ x.enc :: y.enc :: S))) j 2 (props r.reverse ++ x.enc :: (y.enc :: S)) :=
        ((hB'.past H2).set (ys := props r.reverse ++ y.enc :: y.enc :: S)).set
      refine F84.l1 hb r x (y.enc :: S) _ (by omega) hB2 fun H' h' => hQ H' ?_
      have e : props (insR x (y :: r)).reverse ++ S = props (insR x r).reverse ++ y.enc :: S := by simp [insR, hlt, props]
      rw [e]; exact h'
    · have hlt : lessP x y = false := by simp [lessP]; omega
      refine hQ _ ?_
      have e : props (insR x (y :: r)).reverse ++ S = props r.reverse ++ y.enc :: x.enc :: S := by simp [insR, hlt, props]
      rw [e]; exact hB'.past H2
theorem F84.l0 (hb : n ≤ 100000) {R : List (List AV)} : ∀ (post D : List Pp) (H : Heap), D.length + post.length = n → Blq H0 H j 2 (props D ++ (props post ++ R)) →
      (∀ H', Blq H0 H' j 2 (props (isort D post) ++ R) → Q (.tup []) H') → F84h.L0 j n c 0 n Q (D.length : Int) H
  | [], D, H, hn, hB, hQ => by
    refine F84h.L0_step ?_
    unfold F84h.r0
    ((try simp only [G_int, G_bool, G_str, G_sl, G_own, toInt_int, toBool_bool, toStr_str, slXs_sl]); (try simp only [ci_lt, ci_le, ci_eq, ci_eqS, ci_nblt, ci_nble, cond_not, G_lt, G_le, G_eq, G_nble, G_nblt, G_room, G_roomN, cond_true, cond_false, G_true, Nat.add_zero]))
    exact ⟨fun e => absurd e (by simp at hn; omega), fun _ => hQ H (by simpa [isort, props] using hB)⟩
  | x :: r, D, H, hn, hB, hQ => by
    have hn' : D.length + (r.length + 1) = n := by simpa using hn
    refine F84h.L0_step ?_
    unfold F84h.r0
    ((try simp only [G_int, G_bool, G_str, G_sl, G_own, toInt_int, toBool_bool, toStr_str, slXs_sl]); (try simp only [ci_lt, ci_le, ci_eq, ci_eqS, ci_nblt, ci_nble, cond_not, G_lt, G_le, G_eq, G_nble, G_nblt, G_room, G_roomN, cond_true, cond_false, G_true, Nat.add_zero]))
    refine ⟨fun _ => ?_, fun e => absurd e (by omega)⟩
    have h1 := F84.l1 (H0 := H0) (j := j) (n := n) (c := c) (Q := Q) (i := (D.length : Int)) (m := n) hb D.reverse x (props r ++ R) H (by simp; omega) (by rw [List.reverse_reverse]; exact hB) fun H' h' => by
      have h2 := F84.l0 hb r (insR x D.reverse).reverse H' (by simp [insR_len]; omega) h' (fun H' h' => hQ H' (by simpa [isort] using h'))
      rw [addW_eq (by omega) (by omega)]
      simpa [insR_len] using h2
    simpa using h1
theorem F84.spec (hb : n ≤ 100000) {zs : List Pp} {R : List (List AV)} {H : Heap} (hn : zs.length = n) (hB : Blq H0 H j 2 (props zs ++ R)) (hQ : ∀ H', Blq H0 H' j 2 (props (isort [] zs) ++ R) → Q (.tup []) H') :
    C 84 [.hs j 0 n c 2, .int .i64 0, .int .i64 n, .fn 53 []] H Q := by
  refine F84h.call ?_
  unfold F84h.t
  rw [addW_eq (by omega) (by omega)]
  cases zs with
  | nil =>
    have : n = 0 := by simpa using hn.symm
    subst this
    refine F84h.L0_step ?_
    unfold F84h.r0
    ((try simp only [G_int, G_bool, G_str, G_sl, G_own, toInt_int, toBool_bool, toStr_str, slXs_sl]); (try simp only [ci_lt, ci_le, ci_eq, ci_eqS, ci_nblt, ci_nble, cond_not, G_lt, G_le, G_eq, G_nble, G_nblt, G_room, G_roomN, cond_true, cond_false, G_true, Nat.add_zero]))
    exact ⟨fun e => absurd e (by simp), fun _ => hQ H hB⟩
  | cons z r =>
    have := F84.l0 (H0 := H0) (j := j) (n := n) (c := c) (Q := Q) hb r [z] H (by simpa [Nat.add_comm] using hn) (by simpa [props] using hB)
      (fun H' h' => hQ H' (by simpa [isort, insR] using h'))
    simpa using this
theorem F67.spec {zs : List Pp} (hb : n ≤ 12) {R : List (List AV)} {lim : Int} {H : Heap} (hn : zs.length = n) (hB : Blq H0 H j 2 (props zs ++ R)) (hQ : ∀ H', Blq H0 H' j 2 (props (isort [] zs) ++ R) → Q (.tup []) H') :
    C 67 [.hs j 0 n c 2, .int .i64 0, .int .i64 n, .int .i64 lim, .fn 53 []] H Q := by
  refine F67h.call ?_
  unfold F67h.t
  refine F67h.L0_step ?_
  unfold F67h.r0
  rw [subW_eq (by omega) (by omega), cond_le, if_pos (by omega)]
  exact F84.spec (by omega) hn hB fun H' h' => hQ H' h'
end
theorem same_of_blq {H H' : Heap} {k : Nat} {xs ys : List (List AV)} (h : Blq (H.push (.rows k xs)) H' H.next k ys) : H.Same H' := fun i hi => by rw [h.ne i (by omega), push_get_ne _ _ (by omega)]
theorem blq_push (H : Heap) (k : Nat) (xs : List (List AV)) : Blq (H.push (.rows k xs)) (H.push (.rows k xs)) H.next k xs := ⟨fun _ _ => rfl, push_get_self _ _⟩
theorem wrap_len {n : Nat} (h : n ≤ 100000) : IntKind.u64.wrap (n : Int) = n := by
  simp [IntKind.wrap, IntKind.signed, IntKind.bits]; omega
theorem sort_turn {zs : List Pp} (hb : zs.length ≤ 12) {H : Heap} {K : List (List AV) → Heap → Prop} (h : ∀ H, K (props (isort [] zs)) H) : ioTurn C 52 2 (props zs) [.fn 53 []] H K := by
  refine ⟨fun m hm _ => ?_, fun e => ?_⟩
  · rw [length_props] at hm ⊢
    obtain ⟨R, hR⟩ : ∃ R, pad 2 m (props zs) = props zs ++ R := pad_eq
    have hl : (pad 2 m (props zs)).length = m := pad_length (by rw [length_props]; exact hm)
    have hRl : zs.length + R.length = m := by rw [hR] at hl; simpa [props] using hl
    refine F52h.call ?_
    unfold F52h.t
    have hb0 := blq_push H 2 (pad 2 m (props zs))
    rw [wrap_len (by omega)]
    refine F68.spec ⟨by omega, by omega⟩ fun q => ?_
    rw [G_int]
    refine F67.spec (H0 := H.push (.rows 2 (pad 2 m (props zs)))) (R := R) hb rfl (Blq.past ⟨hb0.ne, by rw [hb0.get, hR]⟩ _) fun H' h' => ?_
    refine ⟨rfl, same_of_blq h', _, h'.get, ?_, ?_⟩
    · simp [length_props, isort_len] <;> omega
    · rw [take_ab (by rw [length_props, isort_len]; simp)]
      exact h _
  · obtain rfl : zs = [] := by cases zs with | nil => rfl | cons z zs => simp [props] at e
    refine F52n.call ?_
    unfold F52n.t
    refine F68.spec ⟨by omega, by omega⟩ fun q => ?_
    rw [G_int]
    refine F67n.call ?_
    unfold F67n.t
    refine F67n.L0_step ?_
    unfold F67n.r0
    rw [subW_eq (by omega) (by omega), cond_le, if_pos (by omega)]
    refine F84n.call ?_
    unfold F84n.t
    refine F84n.L0_step ?_
    unfold F84n.r0
    rw [addW_eq (by omega) (by omega)]
    ((try simp only [G_int, G_bool, G_str, G_sl, G_own, toInt_int, toBool_bool, toStr_str, slXs_sl]); (try simp only [ci_lt, ci_le, ci_eq, ci_eqS, ci_nblt, ci_nble, cond_not, G_lt, G_le, G_eq, G_nble, G_nblt, G_room, G_roomN, cond_true, cond_false, G_true, Nat.add_zero]))
    exact ⟨fun e => absurd e (by omega), fun _ => ⟨trivial, h _⟩⟩

/-! brokerref28.put -/
def ltS' (a b : ByteArray) : Bool := ltS a b
/-- The place of a key: behind all that are less. -/
def putL (p : Pp) : List Pp → List Pp
  | [] => [p]
  | q :: r => if ltS q.k p.k then q :: putL p r else p :: q :: r
theorem F41.loop {m : Nat} {zs : List Pp} {p : Pp} (hb : zs.length ≤ 100000) (hm : zs.length ≤ m) {H : Heap} {Q : AV → Heap → Prop}
    (hQ : ∀ (j n c : Nat) (ys : List (List AV)) (H' : Heap), 0 < c → H.next ≤ j → H.Same H' → H'.get H.next ≠ .dead → H'.get j = .rows 2 ys → ys.length = c → n ≤ c → ys.take n = props (putL p zs) → Q (.hs j 0 n c 2) H') :
    ∀ (post pre : List Pp), zs = pre ++ post → (∀ post', putL p (pre ++ post') = pre ++ putL p post') → F41h.L0 H.next zs.length m p.k p.v Q (pre.length : Int) (H.push (.rows 2 (pad 2 m (props zs)))) := by
  intro post
  have fin : ∀ (pre post : List Pp), zs = pre ++ post → props (putL p zs) = props pre ++ p.enc :: props post → C 57 [.hs H.next 0 zs.length m 2, .int .i64 (pre.length : Int), .sl 0 2 [[.str p.k, .str p.v]]] (H.push (.rows 2 (pad 2 m (props zs)))) (fun v H2 => G (v.isHs 2) (Q (.hs v.hsJ v.hsO v.hsN v.hsC 2) H2)) := by
    intro pre post h he
    have hl : (props zs).length = zs.length := length_props
    have := insert57_hs (X := props zs) (A := props pre) (B := props post) (d := [.str p.k, .str p.v]) (i := pre.length) (m := m) (H := H) (Q := fun v H2 => G (v.isHs 2) (Q (.hs v.hsJ v.hsO v.hsN v.hsC 2) H2)) (by rw [h]; simp [props]) length_props (by rw [hl]; exact hb) (by rw [hl]; exact hm)
      (fun j n c ys H' h0 h1 h2 h3 h4 h5 h6 h7 => by
        have e : (AV.hs j 0 n c 2).isHs 2 = true := rfl
        rw [e]
        exact hQ j n c ys H' h0 h1 h2 h3 h4 h5 h6 (by rw [h7, he]; rfl))
    rw [hl] at this
    exact this
  induction post with
  | nil =>
    intro pre h hp
    have hl : zs.length = pre.length := by rw [h]; simp
    refine F41h.L0_step ?_
    unfold F41h.r0
    rw [cond_lt, if_neg (by omega)]
    exact fin pre [] h (by rw [h, hp]; simp [putL, props])
  | cons q r ih =>
    intro pre h hp
    have hl : zs.length = pre.length + (r.length + 1) := by rw [h]; simp
    have hlp : (props pre).length = pre.length := length_props
    refine F41h.L0_step ?_
    unfold F41h.r0
    rw [cond_lt, if_pos (by omega)]
    obtain ⟨R, hR⟩ : ∃ R, pad 2 m (props zs) = props zs ++ R := pad_eq
    have hg : (pad 2 m (props zs)).getD (0 + (pre.length : Int).toNat) [] = q.enc := by
      have e : props zs ++ R = props pre ++ q.enc :: (props r ++ R) := by rw [h]; simp [props]
      rw [hR, e, Int.toNat_natCast, Nat.zero_add]
      exact gd0 hlp.symm
    simp only [push_get_self, isRows_rows, xs_rows, hg]
    rw [enc_eq, ce2.1, G_str, toStr_str, G_le, G_lt]
    refine ⟨by omega, by omega, ?_⟩
    cases hlt : ltS q.k p.k with
    | true =>
      rw [cond_true, addW_eq (by omega) (by omega)]
      have := ih (pre ++ [q]) (by rw [h]; simp) (fun post' => by
        have := hp (q :: post')
        simp only [List.append_assoc, List.singleton_append]
        rw [this]
        simp [putL, hlt])
      simpa using this
    | false =>
      rw [cond_false]
      exact fin pre (q :: r) h (by rw [h, hp]; simp [putL, hlt, props])
theorem put_back {zs : List Pp} {p : Pp} (hb : zs.length ≤ 100000) {H : Heap} {K : List (List AV) → Heap → Prop} (h : ∀ H, K (props (putL p zs)) H) : ioBack C 41 2 (props zs) [.agg [.str p.k, .str p.v]] H K := by
  refine ⟨fun m hm _ => ?_, fun e => ?_⟩
  · rw [length_props] at hm ⊢
    refine F41h.call ?_
    unfold F41h.t
    exact F41.loop hb hm (fun j n c ys H' h0 hj h1 h2 h3 h4 h5 h6 => ⟨h1, h2, .inl ⟨j, n, c, ys, rfl, hj, h3, h4, h5, by rw [h6]; exact h _⟩⟩) zs [] rfl (fun _ => rfl)
  · obtain rfl : zs = [] := by cases zs with | nil => rfl | cons z zs => simp [props] at e
    refine F41n.call ?_
    unfold F41n.t
    refine F41n.L0_step ?_
    unfold F41n.r0
    refine F57n.call ?_
    unfold F57n.t
    ((try simp only [G_int, G_bool, G_str, G_sl, G_own, toInt_int, toBool_bool, toStr_str, slXs_sl]); (try simp only [ci_lt, ci_le, ci_eq, ci_eqS, ci_nblt, ci_nble, cond_not, G_lt, G_le, G_eq, G_nble, G_nblt, G_room, G_roomN, cond_true, cond_false, G_true, Nat.add_zero]))
    refine ⟨trivial, fun e => absurd e (by simp [lenI]), fun _ => ⟨fun _ => ⟨by simp, ?_⟩, fun e => absurd trivial e⟩⟩
    exact ⟨fun _ _ => rfl, .inl (.inr ⟨0, _, rfl, h _⟩)⟩

/-! The same as functions -/
def toProps (xs : List (List AV)) : List Pp := xs.map fun r => ⟨(r.getD 0 .any).toStr, (r.getD 1 .any).toStr⟩
theorem toProps_props (zs : List Pp) : toProps (props zs) = zs := by
  unfold toProps props
  rw [List.map_map]
  exact (List.map_congr_left fun z _ => rfl).trans (List.map_id zs)
namespace SoP
open Classical in
noncomputable def P (k : Nat) (xs : List (List AV)) : List AV → Option (List (List AV))
  | [.fn 53 []] => if k = 2 ∧ xs = props (toProps xs) ∧ xs.length ≤ 12 then some (props (isort [] (toProps xs))) else none
  | _ => none
open Classical in
theorem of {zs : List Pp} (h : zs.length ≤ 12) : P 2 (props zs) [.fn 53 []] = some (props (isort [] zs)) := by
  show (if 2 = 2 ∧ props zs = props (toProps (props zs)) ∧ (props zs).length ≤ 12 then some (props (isort [] (toProps (props zs)))) else none) = _
  rw [toProps_props, if_pos ⟨rfl, rfl, by rw [length_props]; exact h⟩]
theorem ls {k : Nat} {xs : List (List AV)} {args : List AV} {v : AV} {H : Heap} {kk : List (List AV) → Option AV} {K : List (List AV) → Heap → Prop} (h : ∀ y H, kk y = some v → K y H) : (P k xs args).bind kk = some v → ioTurn C 52 k xs args H K := by
  unfold P
  split
  · split
    · rename_i hc
      obtain ⟨rfl, hx, hl⟩ := hc
      intro e
      rw [hx] at hl ⊢
      rw [length_props] at hl
      exact sort_turn hl fun H => h _ H e
    · exact nofun
  · exact nofun
end SoP
namespace PutP
open Classical in
noncomputable def P (k : Nat) (xs : List (List AV)) : List AV → Option (List (List AV))
  | [.agg [.str a, .str b]] => if k = 2 ∧ xs = props (toProps xs) ∧ xs.length ≤ 100000 then some (props (putL ⟨a, b⟩ (toProps xs))) else none
  | _ => none
open Classical in
theorem of {zs : List Pp} {a b : ByteArray} (h : zs.length ≤ 100000) : P 2 (props zs) [.agg [.str a, .str b]] = some (props (putL ⟨a, b⟩ zs)) := by
  show (if 2 = 2 ∧ props zs = props (toProps (props zs)) ∧ (props zs).length ≤ 100000 then some (props (putL ⟨a, b⟩ (toProps (props zs)))) else none) = _
  rw [toProps_props, if_pos ⟨rfl, rfl, by rw [length_props]; exact h⟩]
theorem ls {k : Nat} {xs : List (List AV)} {args : List AV} {v : AV} {H : Heap} {kk : List (List AV) → Option AV} {K : List (List AV) → Heap → Prop} (h : ∀ y H, kk y = some v → K y H) : (P k xs args).bind kk = some v → ioBack C 41 k xs args H K := by
  unfold P
  split
  · rename_i a b
    split
    · rename_i hc
      obtain ⟨rfl, hx, hl⟩ := hc
      intro e
      rw [hx] at hl ⊢
      rw [length_props] at hl
      exact put_back (p := ⟨a, b⟩) hl fun H => h _ H e
    · exact nofun
  · exact nofun
end PutP
namespace ItoaP
open Classical in
noncomputable def P : List AV → Option AV
  | [.int .i64 n] => if I64 n then some (.str (itoaV n)) else none
  | _ => none
theorem of {n : Int} (h : I64 n) : P [.int .i64 n] = some (.str (itoaV n)) := if_pos h
theorem ls {args : List AV} {v : AV} {H : Heap} {k : AV → Option AV} {K : AV → Heap → Prop} (h : ∀ w H, k w = some v → K w H) : (P args).bind k = some v → C 34 args H K := by
  unfold P
  split
  · split
    · rename_i hn
      intro e
      exact F34.spec hn (h _ H e)
    · exact nofun
  · exact nofun
end ItoaP
namespace CmpP
def P : List AV → Option AV
  | [.str a, .str b] => some (.int .i64 (cmpS a b))
  | _ => none
theorem ls {args : List AV} {v : AV} {H : Heap} {k : AV → Option AV} {K : AV → Heap → Prop} (h : ∀ w H, k w = some v → K w H) : (P args).bind k = some v → C 54 args H K := by
  unfold P
  split
  · intro e
    exact F54.spec (h _ H e)
  · exact nofun
end CmpP
namespace IdxP
open Classical in
noncomputable def P : List AV → Option AV
  | [.str s, .str t] => if h : ∃ c : UInt8, t = ⟨#[c]⟩ then some (.int .i64 (Lib.indexByte (bs s) (Classical.choose h))) else none
  | _ => none
theorem of {s : ByteArray} {c : UInt8} : P [.str s, .str ⟨#[c]⟩] = some (.int .i64 (Lib.indexByte (bs s) c)) := by
  have hx : ∃ d : UInt8, (⟨#[c]⟩ : ByteArray) = ⟨#[d]⟩ := ⟨c, rfl⟩
  unfold P
  simp only
  rw [dif_pos hx]
  have := Classical.choose_spec hx
  have e : Classical.choose hx = c := by
    have := congrArg (fun b : ByteArray => b.data.toList) this
    simpa using this.symm
  rw [e]
theorem ls {args : List AV} {v : AV} {H : Heap} {k : AV → Option AV} {K : AV → Heap → Prop} (h : ∀ w H, k w = some v → K w H) : (P args).bind k = some v → C 61 args H K := by
  unfold P
  split
  · rename_i s t
    split
    · rename_i hx
      have := Classical.choose_spec hx
      generalize Classical.choose hx = c at this ⊢
      subst this
      intro e
      exact F61.spec (h _ H e)
    · exact nofun
  · exact nofun
end IdxP
namespace Dum59
def P (_ : List AV) : Option AV := none
theorem ls {args : List AV} {v : AV} {H : Heap} {k : AV → Option AV} {K : AV → Heap → Prop} (_ : ∀ w H, k w = some v → K w H) : (P args).bind k = some v → C 59 args H K := nofun
end Dum59
namespace Dum96
def P (_ : List AV) : Option AV := none
theorem ls {args : List AV} {v : AV} {H : Heap} {k : AV → Option AV} {K : AV → Heap → Prop} (_ : ∀ w H, k w = some v → K w H) : (P args).bind k = some v → C 96 args H K := nofun
end Dum96
end Go.Proofs.YtlaieomjooeofaaDoor.Ab
