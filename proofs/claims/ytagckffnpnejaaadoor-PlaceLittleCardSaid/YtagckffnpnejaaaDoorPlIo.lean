/- Place: scores, and the functions that turn the slice that they are handed. -/
import Derived.Test.YtagckffnpnejaaaDoorPlIns
import Derived.Test.YtagckffnpnejaaaDoorAbP
import Derived.Test.YtagckffnpnejaaaDoorAbSort
import Derived.Lib.ItoaLen
namespace Go.Proofs.YtagckffnpnejaaaDoor.Ab
open Go
set_option linter.unusedSimpArgs false

/-! Checksums -/
def sumStep (s : Nat) (c : UInt8) : Nat := ((s ^^^ c.toNat) * 16777619) % 4294967296
def sumL (l : List UInt8) : Nat := l.foldl sumStep 2166136261
theorem sumStep_lt (s : Nat) (c : UInt8) : sumStep s c < 4294967296 := Nat.mod_lt _ (by decide)
theorem fold_lt : ∀ (l : List UInt8) (s : Nat), s < 4294967296 → l.foldl sumStep s < 4294967296
  | [], s, h => h
  | c :: l, s, _ => fold_lt l _ (sumStep_lt s c)
theorem sumL_lt (l : List UInt8) : sumL l < 4294967296 := fold_lt l _ (by decide)
theorem wrap_nat {k : IntKind} {n : Nat} (hk : k.signed = false) (h : n < 2 ^ k.bits) : k.wrap (n : Int) = n := by
  unfold IntKind.wrap
  have h1 : ((n : Int) % (2 ^ k.bits : Int)) = n := by
    have : ((2 : Int) ^ k.bits) = ((2 ^ k.bits : Nat) : Int) := by simp
    rw [this, ← Int.natCast_emod, Nat.mod_eq_of_lt h]
  rw [h1, hk]
  simp
theorem xorW_nat {k : IntKind} {m n : Nat} (hk : k.signed = false) (h1 : m < 2 ^ k.bits) (h2 : n < 2 ^ k.bits) : xorW k (m : Int) (n : Int) = ((m ^^^ n : Nat) : Int) := by
  unfold xorW
  have e : (BitVec.ofInt k.bits (m : Int) ^^^ BitVec.ofInt k.bits (n : Int)).toNat = m ^^^ n := by
    rw [BitVec.toNat_xor, BitVec.ofInt_natCast, BitVec.ofInt_natCast, BitVec.toNat_ofNat, BitVec.toNat_ofNat, Nat.mod_eq_of_lt h1, Nat.mod_eq_of_lt h2]
  rw [e]
  exact wrap_nat hk (Nat.xor_lt_two_pow h1 h2)
theorem u8_lt (c : UInt8) : c.toNat < 256 := c.toNat_lt
theorem step32 {s : Nat} (h : s < 4294967296) (c : UInt8) : mulW .u32 (xorW .u32 (s : Int) (IntKind.u32.wrap (c.toNat : Int))) 16777619 = (sumStep s c : Int) := by
  have hc := u8_lt c
  rw [wrap_nat (k := .u32) rfl (show c.toNat < 2 ^ 32 by omega), xorW_nat (k := .u32) rfl h (show c.toNat < 2 ^ 32 by omega)]
  unfold mulW IntKind.wrap sumStep
  simp only [show IntKind.u32.bits = 32 from rfl, show IntKind.u32.signed = false from rfl, Bool.false_and, Bool.false_eq_true, if_false]
  omega
theorem step64 {s : Nat} (h : s < 4294967296) (c : UInt8) : Int.tmod (mulW .u64 (xorW .u64 (s : Int) (IntKind.u64.wrap (c.toNat : Int))) 16777619) 4294967296 = (sumStep s c : Int) := by
  have hc := u8_lt c
  have hx : s ^^^ c.toNat < 2 ^ 32 := Nat.xor_lt_two_pow (by omega) (by omega)
  rw [wrap_nat (k := .u64) rfl (show c.toNat < 2 ^ 64 by omega), xorW_nat (k := .u64) rfl (show s < 2 ^ 64 by omega) (show c.toNat < 2 ^ 64 by omega)]
  have hm : mulW .u64 ((s ^^^ c.toNat : Nat) : Int) 16777619 = (((s ^^^ c.toNat) * 16777619 : Nat) : Int) := by
    have := wrap_nat (k := .u64) (n := (s ^^^ c.toNat) * 16777619) rfl (show (s ^^^ c.toNat) * 16777619 < 2 ^ 64 by omega)
    unfold mulW
    rw [← this]
    simp
  rw [hm]
  unfold sumStep
  rw [Int.tmod_eq_emod_of_nonneg (by omega)]
  omega
def u8s (l : List UInt8) : List (List AV) := l.map fun b => [.int .u8 (b.toNat : Int)]
theorem bytesAV_u8s (s : ByteArray) : bytesAV s = u8s (bs s) := rfl
theorem lenI_u8s {l : List UInt8} : lenI (u8s l) = (l.length : Int) := by simp [lenI, u8s]
theorem u8s_at {l pre post : List UInt8} {x : UInt8} (h : l = pre ++ x :: post) : ro (u8s l) (pre.length : Int).toNat = [.int .u8 (x.toNat : Int)] := by subst h; simp [ro, u8s]
theorem ce_one {x : AV} : ce [x] 0 = x := rfl
theorem len_cut {α : Type} {xs pre : List α} {c : α} {post : List α} (h : xs = pre ++ c :: post) : xs.length = pre.length + (post.length + 1) := by subst h; simp
theorem F29.loop {l : List UInt8} (hs : l.length ≤ 100000) {Q : AV → Heap → Prop} : ∀ (post pre : List UInt8) (s : Nat) (H : Heap), l = pre ++ post → s < 4294967296 → (∀ H, Q (.int .i64 ((post.foldl sumStep s : Nat) : Int)) H) → F29.L0 (u8s l) Q (s : Int) (pre.length : Int) H
  | [], pre, s, H, h, hlt, hQ => by
    have hl : l.length = pre.length := by rw [h]; simp
    refine F29.L0_step ?_
    unfold F29.r0
    rw [lenI_u8s]
    ((try simp only [G_int, G_bool, G_str, G_sl, G_own, toInt_int, toBool_bool, toStr_str, slXs_sl]); (try simp only [ci_lt, ci_le, ci_eq, ci_eqS, ci_nblt, ci_nble, cond_not, G_lt, G_le, G_eq, G_nble, G_nblt, G_room, G_roomN, cond_true, cond_false, G_true, Nat.add_zero]))
    refine ⟨fun e => absurd e (by omega), fun _ => ?_⟩
    have := hQ H
    rwa [List.foldl_nil, ← wrap_i64 (a := (s : Int)) (by omega) (by omega)] at this
  | c :: post, pre, s, H, h, hlt, hQ => by
    have hl := len_cut h
    refine F29.L0_step ?_
    unfold F29.r0
    rw [lenI_u8s, u8s_at h, ce_one]
    ((try simp only [G_int, G_bool, G_str, G_sl, G_own, toInt_int, toBool_bool, toStr_str, slXs_sl]); (try simp only [ci_lt, ci_le, ci_eq, ci_eqS, ci_nblt, ci_nble, cond_not, G_lt, G_le, G_eq, G_nble, G_nblt, G_room, G_roomN, cond_true, cond_false, G_true, Nat.add_zero]))
    rw [step32 hlt, addW_eq (by omega) (by omega)]
    refine ⟨fun _ => ⟨by omega, by omega, ?_⟩, fun e => absurd e (by omega)⟩
    have := F29.loop hs post (pre ++ [c]) (sumStep s c) H (by rw [h]; simp) (sumStep_lt s c) hQ
    simpa using this
theorem F29.spec {l : List UInt8} (hs : l.length ≤ 100000) {Q : AV → Heap → Prop} {H : Heap} (hQ : ∀ H, Q (.int .i64 (sumL l : Int)) H) : C 29 [.sl 0 1 (u8s l)] H Q := by
  refine F29.call ?_
  unfold F29.t
  exact F29.loop hs l [] 2166136261 H rfl (by decide) hQ

/-! Scores -/
def scoreV (name : ByteArray) (n : Int) : Nat := sumL (bs name ++ [47] ++ Lib.itoa n)
theorem scoreV_lt (name : ByteArray) (n : Int) : scoreV name n < 4294967296 := sumL_lt _
def I64 (n : Int) : Prop := -9223372036854775808 ≤ n ∧ n ≤ 9223372036854775807
theorem bs_app (a b : ByteArray) : bs (a ++ b) = bs a ++ bs b := by simp [bs]
theorem bs_itoa (n : Int) : bs (itoaV n) = Lib.itoa n := by simp [bs, itoaV]
theorem itoa_len {n : Int} (h : I64 n) : (Lib.itoa n).length ≤ 21 := by
  have := Lib.itoa_length_le n h.1 h.2
  omega
theorem F30.spec {n : Int} (h : I64 n) {Q : AV → Heap → Prop} {H : Heap} (hQ : Q (.str (itoaV n)) H) : C 30 [.int .i64 n] H Q := by
  refine Call_intro (E := E0) ?_
  show ∃ Q' : AV → Heap → Prop, (∀ v H, Q' v H → Q v H) ∧ E0.leaf 30 [.int .i64 n] H Q'
  exact ⟨Q, fun _ _ h => h, rfl, n, rfl, h, hQ⟩
theorem slash_size (a : ByteArray) : (a ++ (⟨#[47]⟩ : ByteArray)).size = a.size + 1 := by rw [bs_size, bs_app, bs_size]; simp [bs]
theorem F9.spec {name : ByteArray} {n : Int} (hn : name.size ≤ 50000) (h : I64 n) {Q : AV → Heap → Prop} {H : Heap} (hQ : ∀ H, Q (.int .i64 (scoreV name n : Int)) H) : C 9 [.str name, .int .i64 n] H Q := by
  have hl := itoa_len h
  have hz : (itoaV n).size = (Lib.itoa n).length := by rw [bs_size, bs_itoa]
  refine F9.call ?_
  unfold F9.t
  rw [G_nble]
  refine ⟨by show name.size + 1 ≤ _; omega, F30.spec h ?_⟩
  rw [show (AV.str (itoaV n)).isStr = true from rfl, show (AV.str (itoaV n)).toStr = itoaV n from rfl, G_true, G_nble, G_nble]
  have hb : (name ++ (⟨#[47]⟩ : ByteArray) ++ itoaV n).size = name.size + 1 + (Lib.itoa n).length := by rw [bs_size, bs_app, bs_app, bs_itoa, bs_size]; simp [bs]; omega
  refine ⟨by rw [slash_size]; omega, by rw [hb]; omega, ?_⟩
  rw [bytesAV_u8s, bs_app, bs_app, bs_itoa]
  refine F29.spec (by rw [List.length_append, List.length_append, ← bs_size]; have : (bs (⟨#[47]⟩ : ByteArray)).length = 1 := rfl; omega) fun H => ?_
  rw [G_int]
  exact hQ _
theorem ce_str {s : ByteArray} : ce [AV.str s] 0 = .str s := rfl
/-- What the sort asks: the difference of two scores. -/
theorem F33.spec {name : ByteArray} {a b : Int} (hn : name.size ≤ 50000) (ha : I64 a) (hb : I64 b) {Q : AV → Heap → Prop} {H : Heap} (hQ : ∀ H, Q (.int .i64 ((scoreV name b : Int) - (scoreV name a : Int))) H) : C 33 [.int .i64 a, .int .i64 b, .rp [.str name] 0] H Q := by
  have h1 := scoreV_lt name a
  have h2 := scoreV_lt name b
  refine F33.call ?_
  unfold F33.t
  rw [ce_str, G_str, toStr_str]
  refine F9.spec hn hb fun H => ?_
  rw [G_int, G_str]
  refine F9.spec hn ha fun H => ?_
  rw [G_int, toInt_int, toInt_int, subW_eq (by omega) (by omega)]
  exact hQ _

/-! A heap of which one block is turned -/
structure Blq (H0 H : Heap) (j k : Nat) (xs : List (List AV)) : Prop where
  ne : ∀ i, i ≠ j → H.get i = H0.get i
  get : H.get j = .rows k xs
theorem Blq.set {H0 H : Heap} {j k : Nat} {xs ys : List (List AV)} (h : Blq H0 H j k xs) : Blq H0 (H.set j (.rows k ys)) j k ys :=
  ⟨fun i hi => by rw [set_get_ne _ _ hi]; exact h.ne i hi, set_get_self _ _ _⟩
theorem Blq.past {H0 H : Heap} {j k : Nat} {xs : List (List AV)} (h : Blq H0 H j k xs) (H' : Heap) : Blq H0 (H.past H') j k xs := ⟨h.ne, h.get⟩
theorem past_get (H H' : Heap) : (H.past H').get = H.get := rfl
theorem length_ints {l : List Int} : (ints l).length = l.length := by simp [ints]
theorem gd0 {P S : List (List AV)} {a : List AV} {i : Nat} (h : i = P.length) : (P ++ a :: S).getD i [] = a := by subst h; simp
theorem gd1 {P S : List (List AV)} {a b : List AV} {i : Nat} (h : i = P.length + 1) : (P ++ a :: b :: S).getD i [] = b := by subst h; simp [List.getElem?_append_right]
theorem sw0 {P S : List (List AV)} {a a' : List AV} {i : Nat} (h : i = P.length) : (P ++ a :: S).set i a' = P ++ a' :: S := by subst h; simp
theorem sw1 {P S : List (List AV)} {a b b' : List AV} {i : Nat} (h : i = P.length + 1) : (P ++ a :: b :: S).set i b' = P ++ a :: b' :: S := by subst h; simp [List.set_append_right]
theorem se1 {x y : AV} : [x].set 0 y = [y] := rfl
theorem ints_app {a b : List Int} : ints (a ++ b) = ints a ++ ints b := by simp [ints]
theorem ints_cons {a : Int} {b : List Int} : ints (a :: b) = [.int .i64 a] :: ints b := rfl

/-! slices.insertionSortCmpFunc -/
def insR (sc : Int → Nat) (x : Int) : List Int → List Int
  | [] => [x]
  | y :: r => if sc y < sc x then y :: insR sc x r else x :: y :: r
def isort (sc : Int → Nat) : List Int → List Int → List Int
  | D, [] => D
  | D, x :: r => isort sc (insR sc x D.reverse).reverse r
theorem insR_len (sc : Int → Nat) (x : Int) : ∀ l, (insR sc x l).length = l.length + 1
  | [] => rfl
  | y :: r => by simp only [insR]; split <;> simp [insR_len sc x r]
theorem insR_mem (sc : Int → Nat) (x : Int) : ∀ l z, z ∈ insR sc x l ↔ z = x ∨ z ∈ l
  | [], z => by simp [insR]
  | y :: r, z => by
    simp only [insR]
    split
    · simp only [List.mem_cons, insR_mem sc x r z]
      exact ⟨fun h => h.elim (fun h => .inr (.inl h)) fun h => h.imp id .inr, fun h => h.elim (fun h => .inr (.inl h)) fun h => h.imp id .inr⟩
    · simp
theorem isort_len (sc : Int → Nat) : ∀ (l D : List Int), (isort sc D l).length = D.length + l.length
  | [], D => rfl
  | x :: r, D => by simp only [isort]; rw [isort_len sc r]; simp [insR_len] <;> omega
section
variable {j n c : Nat} {name : ByteArray} {Q : AV → Heap → Prop} {H0 : Heap}
theorem F41.l1 (hname : name.size ≤ 50000) (hb : n ≤ 100000) {i : Int} {m : Nat} : ∀ (Pr : List Int) (x : Int) (S : List (List AV)) (H : Heap), I64 x → (∀ z ∈ Pr, I64 z) → Pr.length < n → Blq H0 H j 1 (ints Pr.reverse ++ [.int .i64 x] :: S) →
      (∀ H', Blq H0 H' j 1 (ints (insR (scoreV name) x Pr).reverse ++ S) → F41h.L0 j n c 0 m [.str name] Q (addW .i64 i 1) H') → F41h.L1 j n c 0 m [.str name] Q i (Pr.length : Int) H
  | [], x, S, H, hx, _, hn, hB, hQ => by
    refine F41h.L1_step ?_
    unfold F41h.r1
    ((try simp only [G_int, G_bool, G_str, G_sl, G_own, toInt_int, toBool_bool, toStr_str, slXs_sl]); (try simp only [ci_lt, ci_le, ci_eq, ci_eqS, ci_nblt, ci_nble, cond_not, G_lt, G_le, G_eq, G_nble, G_nblt, G_room, G_roomN, cond_true, cond_false, G_true, Nat.add_zero]))
    exact ⟨fun e => absurd e (by simp), fun _ => hQ H (by simpa [insR, ints] using hB)⟩
  | y :: r, x, S, H, hx, hr, hn, hB, hQ => by
    have hy := hr y (by simp)
    have hsx := scoreV_lt name x
    have hsy := scoreV_lt name y
    have hn' : r.length + 1 < n := by simpa using hn
    have hB' : Blq H0 H j 1 (ints r.reverse ++ [.int .i64 y] :: [.int .i64 x] :: S) := by
      have e : ints (y :: r).reverse ++ [.int .i64 x] :: S = ints r.reverse ++ [.int .i64 y] :: [.int .i64 x] :: S := by simp [ints]
      rw [← e]; exact hB
    have hlr : (ints r.reverse).length = r.length := by simp [ints]
    have hlen : ((y :: r).length : Int) = ((r.length + 1 : Nat) : Int) := by simp
    rw [hlen]
    have e0 : subW .i64 ((r.length + 1 : Nat) : Int) 1 = (r.length : Int) := by rw [subW_eq (by omega) (by omega)]; omega
    refine F41h.L1_step ?_
    unfold F41h.r1
    simp only [past_get, hB'.get, isRows_rows, xs_rows, set_get_self, e0, Int.toNat_natCast, Nat.zero_add]
    rw [gd0 hlr.symm, gd1 (by rw [hlr]), ce_one, ce_one]
    simp only [toInt_int, G_int]
    ((try simp only [G_int, G_bool, G_str, G_sl, G_own, toInt_int, toBool_bool, toStr_str, slXs_sl]); (try simp only [ci_lt, ci_le, ci_eq, ci_eqS, ci_nblt, ci_nble, cond_not, G_lt, G_le, G_eq, G_nble, G_nblt, G_room, G_roomN, cond_true, cond_false, G_true, Nat.add_zero]))
    refine ⟨fun _ => ⟨by omega, by omega, by omega, by omega, F33.spec hname hx hy fun H2 => ?_⟩, fun e => absurd e (by omega)⟩
    ((try simp only [G_int, G_bool, G_str, G_sl, G_own, toInt_int, toBool_bool, toStr_str, slXs_sl]); (try simp only [ci_lt, ci_le, ci_eq, ci_eqS, ci_nblt, ci_nble, cond_not, G_lt, G_le, G_eq, G_nble, G_nblt, G_room, G_roomN, cond_true, cond_false, G_true, Nat.add_zero]))
    rw [sw1 (by rw [hlr]), gd0 hlr.symm, sw0 hlr.symm]
    simp only [se1]
    refine ⟨fun e => ⟨by omega, by omega, by omega, by omega, by omega, by omega, by simp [hlr], by omega, by omega, by simp [hlr] <;> omega, ?_⟩, fun e => ?_⟩
    · have hlt : scoreV name y < scoreV name x := by omega
      have hB2 : Blq H0 (((H.past H2).set j (.rows 1 (ints r.reverse ++ [.int .i64 y] :: [.int .i64 y] :: S))).set j (.rows 1 (ints r.reverse ++ [.int .i64 x] :: [.int .i64 y] :: S))) j 1 (ints r.reverse ++ [.int .i64 x] :: ([.int .i64 y] :: S)) :=
        ((hB'.past H2).set (ys := ints r.reverse ++ [.int .i64 y] :: [.int .i64 y] :: S)).set
      refine F41.l1 hname hb r x ([.int .i64 y] :: S) _ hx (fun z hz => hr z (by simp [hz])) (by omega) hB2 fun H' h' => hQ H' ?_
      have e : ints (insR (scoreV name) x (y :: r)).reverse ++ S = ints (insR (scoreV name) x r).reverse ++ [.int .i64 y] :: S := by simp [insR, hlt, ints]
      rw [e]; exact h'
    · have hlt : ¬ scoreV name y < scoreV name x := by omega
      refine hQ _ ?_
      have e : ints (insR (scoreV name) x (y :: r)).reverse ++ S = ints r.reverse ++ [.int .i64 y] :: [.int .i64 x] :: S := by simp [insR, hlt, ints]
      rw [e]; exact hB'.past H2
theorem F41.l0 (hname : name.size ≤ 50000) (hb : n ≤ 100000) {R : List (List AV)} : ∀ (post D : List Int) (H : Heap), D.length + post.length = n → (∀ z ∈ D, I64 z) → (∀ z ∈ post, I64 z) → Blq H0 H j 1 (ints D ++ (ints post ++ R)) →
      (∀ H', Blq H0 H' j 1 (ints (isort (scoreV name) D post) ++ R) → Q (.tup []) H') → F41h.L0 j n c 0 n [.str name] Q (D.length : Int) H
  | [], D, H, hn, hD, hp, hB, hQ => by
    refine F41h.L0_step ?_
    unfold F41h.r0
    ((try simp only [G_int, G_bool, G_str, G_sl, G_own, toInt_int, toBool_bool, toStr_str, slXs_sl]); (try simp only [ci_lt, ci_le, ci_eq, ci_eqS, ci_nblt, ci_nble, cond_not, G_lt, G_le, G_eq, G_nble, G_nblt, G_room, G_roomN, cond_true, cond_false, G_true, Nat.add_zero]))
    exact ⟨fun e => absurd e (by simp at hn; omega), fun _ => hQ H (by simpa [isort, ints] using hB)⟩
  | x :: r, D, H, hn, hD, hp, hB, hQ => by
    have hn' : D.length + (r.length + 1) = n := by simpa using hn
    refine F41h.L0_step ?_
    unfold F41h.r0
    ((try simp only [G_int, G_bool, G_str, G_sl, G_own, toInt_int, toBool_bool, toStr_str, slXs_sl]); (try simp only [ci_lt, ci_le, ci_eq, ci_eqS, ci_nblt, ci_nble, cond_not, G_lt, G_le, G_eq, G_nble, G_nblt, G_room, G_roomN, cond_true, cond_false, G_true, Nat.add_zero]))
    refine ⟨fun _ => ?_, fun e => absurd e (by omega)⟩
    have h1 := F41.l1 (H0 := H0) (j := j) (n := n) (c := c) (Q := Q) (i := (D.length : Int)) (m := n) hname hb D.reverse x (ints r ++ R) H (hp x (by simp)) (fun z hz => hD z (by simpa using hz)) (by simp <;> omega) (by rw [List.reverse_reverse]; exact hB) fun H' h' => by
      have h2 := F41.l0 hname hb r (insR (scoreV name) x D.reverse).reverse H' (by simp [insR_len] <;> omega) (fun z hz => by
        rw [List.mem_reverse, insR_mem] at hz
        rcases hz with rfl | hz
        · exact hp z (by simp)
        · exact hD z (by simpa using hz)) (fun z hz => hp z (by simp [hz])) h' (fun H' h' => hQ H' (by simpa [isort] using h'))
      rw [addW_eq (by omega) (by omega)]
      simpa [insR_len] using h2
    simpa using h1
theorem F41.spec (hname : name.size ≤ 50000) (hb : n ≤ 100000) {zs : List Int} {R : List (List AV)} {H : Heap} (hn : zs.length = n) (hz : ∀ z ∈ zs, I64 z) (hB : Blq H0 H j 1 (ints zs ++ R)) (hQ : ∀ H', Blq H0 H' j 1 (ints (isort (scoreV name) [] zs) ++ R) → Q (.tup []) H') :
    C 41 [.hs j 0 n c 1, .int .i64 0, .int .i64 n, .fn 33 [.rp [.str name] 0]] H Q := by
  refine F41h.call ?_
  unfold F41h.t
  rw [addW_eq (by omega) (by omega)]
  cases zs with
  | nil =>
    have : n = 0 := by simpa using hn.symm
    subst this
    refine F41h.L0_step ?_
    unfold F41h.r0
    ((try simp only [G_int, G_bool, G_str, G_sl, G_own, toInt_int, toBool_bool, toStr_str, slXs_sl]); (try simp only [ci_lt, ci_le, ci_eq, ci_eqS, ci_nblt, ci_nble, cond_not, G_lt, G_le, G_eq, G_nble, G_nblt, G_room, G_roomN, cond_true, cond_false, G_true, Nat.add_zero]))
    exact ⟨fun e => absurd e (by simp), fun _ => hQ H hB⟩
  | cons z r =>
    have := F41.l0 (H0 := H0) (j := j) (n := n) (c := c) (Q := Q) hname hb r [z] H (by simpa [Nat.add_comm] using hn) (fun y hy => hz y (by simpa using Or.inl (List.mem_singleton.1 hy))) (fun y hy => hz y (by simp [hy])) (by simpa [ints] using hB)
      (fun H' h' => hQ H' (by simpa [isort, insR] using h'))
    simpa using this
theorem F37.spec (hname : name.size ≤ 50000) {zs : List Int} (hb : n ≤ 19) {R : List (List AV)} {H : Heap} (hn : zs.length = n) (hz : ∀ z ∈ zs, I64 z) (hB : Blq H0 H j 1 (ints zs ++ R)) (hQ : ∀ H', Blq H0 H' j 1 (ints (isort (scoreV name) [] zs) ++ R) → Q (.tup []) H') :
    C 37 [.hs j 0 n c 1, .int .i64 n, .fn 33 [.rp [.str name] 0]] H Q := by
  refine F37h.call ?_
  unfold F37h.t
  refine F37h.L0_step ?_
  unfold F37h.r0
  ((try simp only [G_int, G_bool, G_str, G_sl, G_own, toInt_int, toBool_bool, toStr_str, slXs_sl]); (try simp only [ci_lt, ci_le, ci_eq, ci_eqS, ci_nblt, ci_nble, cond_not, G_lt, G_le, G_eq, G_nble, G_nblt, G_room, G_roomN, cond_true, cond_false, G_true, Nat.add_zero]))
  refine ⟨fun e => absurd e (by omega), fun _ => F41.spec hname (by omega) hn hz hB fun H' h' => ?_⟩
  refine F37h.L1_step ?_
  unfold F37h.r1
  ((try simp only [G_int, G_bool, G_str, G_sl, G_own, toInt_int, toBool_bool, toStr_str, slXs_sl]); (try simp only [ci_lt, ci_le, ci_eq, ci_eqS, ci_nblt, ci_nble, cond_not, G_lt, G_le, G_eq, G_nble, G_nblt, G_room, G_roomN, cond_true, cond_false, G_true, Nat.add_zero]))
  exact ⟨fun e => absurd e (by omega), fun _ => hQ H' h'⟩
end
theorem same_of_blq {H H' : Heap} {k : Nat} {xs ys : List (List AV)} (h : Blq (H.push (.rows k xs)) H' H.next k ys) : H.Same H' := fun i hi => by rw [h.ne i (by omega), push_get_ne _ _ (by omega)]
theorem blq_push (H : Heap) (k : Nat) (xs : List (List AV)) : Blq (H.push (.rows k xs)) (H.push (.rows k xs)) H.next k xs := ⟨fun _ _ => rfl, push_get_self _ _⟩
theorem stable_turn {name : ByteArray} {zs : List Int} (hname : name.size ≤ 50000) (hb : zs.length ≤ 19) (hz : ∀ z ∈ zs, I64 z) {H : Heap} {K : List (List AV) → Heap → Prop} (h : ∀ H, K (ints (isort (scoreV name) [] zs)) H) : ioTurn C 32 1 (ints zs) [.fn 33 [.rp [.str name] 0]] H K := by
  refine ⟨fun m hm _ => ?_, fun e => ?_⟩
  · rw [length_ints] at hm ⊢
    obtain ⟨R, hR⟩ : ∃ R, pad 1 m (ints zs) = ints zs ++ R := pad_eq
    have hl : (pad 1 m (ints zs)).length = m := pad_length (by rw [length_ints]; exact hm)
    have hRl : zs.length + R.length = m := by rw [hR] at hl; simpa [ints] using hl
    refine F32h.call ?_
    unfold F32h.t
    have hb0 := blq_push H 1 (pad 1 m (ints zs))
    refine F37.spec (H0 := H.push (.rows 1 (pad 1 m (ints zs)))) (R := R) hname hb rfl hz ⟨hb0.ne, by rw [hb0.get, hR]⟩ fun H' h' => ?_
    refine ⟨rfl, same_of_blq h', _, h'.get, ?_, ?_⟩
    · simp [length_ints, isort_len] <;> omega
    · rw [take_ab (by rw [length_ints, isort_len]; simp)]
      exact h _
  · obtain rfl : zs = [] := by cases zs with | nil => rfl | cons z zs => simp [ints] at e
    refine F32n.call ?_
    unfold F32n.t
    refine F37n.call ?_
    unfold F37n.t
    refine F37n.L0_step ?_
    unfold F37n.r0
    ((try simp only [G_int, G_bool, G_str, G_sl, G_own, toInt_int, toBool_bool, toStr_str, slXs_sl]); (try simp only [ci_lt, ci_le, ci_eq, ci_eqS, ci_nblt, ci_nble, cond_not, G_lt, G_le, G_eq, G_nble, G_nblt, G_room, G_roomN, cond_true, cond_false, G_true, Nat.add_zero]))
    refine ⟨fun e => absurd e (by omega), fun _ => F41n.call ?_⟩
    unfold F41n.t
    refine F41n.L0_step ?_
    unfold F41n.r0
    rw [addW_eq (by omega) (by omega)]
    ((try simp only [G_int, G_bool, G_str, G_sl, G_own, toInt_int, toBool_bool, toStr_str, slXs_sl]); (try simp only [ci_lt, ci_le, ci_eq, ci_eqS, ci_nblt, ci_nble, cond_not, G_lt, G_le, G_eq, G_nble, G_nblt, G_room, G_roomN, cond_true, cond_false, G_true, Nat.add_zero]))
    refine ⟨fun e => absurd e (by omega), fun _ => ?_⟩
    refine F37n.L1_step ?_
    unfold F37n.r1
    ((try simp only [G_int, G_bool, G_str, G_sl, G_own, toInt_int, toBool_bool, toStr_str, slXs_sl]); (try simp only [ci_lt, ci_le, ci_eq, ci_eqS, ci_nblt, ci_nble, cond_not, G_lt, G_le, G_eq, G_nble, G_nblt, G_room, G_roomN, cond_true, cond_false, G_true, Nat.add_zero]))
    exact ⟨fun e => absurd e (by omega), fun _ => ⟨trivial, h H⟩⟩

/-! slices.Reverse -/
theorem F17.loop {j n c : Nat} {Q : AV → Heap → Prop} {H0 : Heap} (hb : n ≤ 100000) {R : List (List AV)} : ∀ (k : Nat) (M A B : List Int) (H : Heap), M.length ≤ k → A.length + M.length + B.length = n → Blq H0 H j 1 (ints (A ++ M ++ B) ++ R) →
    (∀ H', Blq H0 H' j 1 (ints (A ++ M.reverse ++ B) ++ R) → Q (.tup []) H') → F17h.L0 j n c Q (A.length : Int) ((A.length : Int) + M.length - 1) H := by
  intro k
  induction k with
  | zero =>
    intro M A B H hk hn hB hQ
    obtain rfl : M = [] := List.eq_nil_of_length_eq_zero (by omega)
    refine F17h.L0_step ?_
    unfold F17h.r0
    ((try simp only [G_int, G_bool, G_str, G_sl, G_own, toInt_int, toBool_bool, toStr_str, slXs_sl]); (try simp only [ci_lt, ci_le, ci_eq, ci_eqS, ci_nblt, ci_nble, cond_not, G_lt, G_le, G_eq, G_nble, G_nblt, G_room, G_roomN, cond_true, cond_false, G_true, Nat.add_zero]))
    exact ⟨fun e => absurd e (by simp <;> omega), fun _ => hQ H hB⟩
  | succ k ih =>
    intro M A B H hk hn hB hQ
    match M, hk, hn, hB, hQ with
    | [], hk, hn, hB, hQ =>
      refine F17h.L0_step ?_
      unfold F17h.r0
      ((try simp only [G_int, G_bool, G_str, G_sl, G_own, toInt_int, toBool_bool, toStr_str, slXs_sl]); (try simp only [ci_lt, ci_le, ci_eq, ci_eqS, ci_nblt, ci_nble, cond_not, G_lt, G_le, G_eq, G_nble, G_nblt, G_room, G_roomN, cond_true, cond_false, G_true, Nat.add_zero]))
      exact ⟨fun e => absurd e (by simp <;> omega), fun _ => hQ H hB⟩
    | [x], hk, hn, hB, hQ =>
      refine F17h.L0_step ?_
      unfold F17h.r0
      ((try simp only [G_int, G_bool, G_str, G_sl, G_own, toInt_int, toBool_bool, toStr_str, slXs_sl]); (try simp only [ci_lt, ci_le, ci_eq, ci_eqS, ci_nblt, ci_nble, cond_not, G_lt, G_le, G_eq, G_nble, G_nblt, G_room, G_roomN, cond_true, cond_false, G_true, Nat.add_zero]))
      exact ⟨fun e => absurd e (by simp <;> omega), fun _ => hQ H hB⟩
    | x :: y :: M', hk, hn, hB, hQ =>
      -- the last one
      obtain ⟨M, z, hM⟩ : ∃ M z, y :: M' = M ++ [z] := ⟨(y :: M').dropLast, (y :: M').getLast (by simp), (List.dropLast_concat_getLast (by simp)).symm⟩
      rw [hM] at hk hn hB hQ ⊢
      simp only [List.length_cons, List.length_append, List.length_nil, Nat.zero_add] at hk hn ⊢
      have hA : (ints A).length = A.length := length_ints
      have hAM : (ints A ++ [.int .i64 x] :: ints M).length = A.length + M.length + 1 := by simp [length_ints] <;> omega
      have e1 : ints (A ++ (x :: (M ++ [z])) ++ B) ++ R = ints A ++ [.int .i64 x] :: (ints M ++ [.int .i64 z] :: (ints B ++ R)) := by simp [ints]
      have e1' : ints A ++ [.int .i64 x] :: (ints M ++ [.int .i64 z] :: (ints B ++ R)) = (ints A ++ [.int .i64 x] :: ints M) ++ [.int .i64 z] :: (ints B ++ R) := by simp
      have hB' : Blq H0 H j 1 (ints A ++ [.int .i64 x] :: (ints M ++ [.int .i64 z] :: (ints B ++ R))) := by rw [← e1]; exact hB
      have hj : (A.length : Int) + ((M.length + 1 + 1 : Nat) : Int) - 1 = ((A.length + M.length + 1 : Nat) : Int) := by omega
      rw [hj]
      have s1 : subW .i64 ((A.length + M.length + 1 : Nat) : Int) 1 = ((A ++ [z]).length : Int) + (M.length : Int) - 1 := by rw [subW_eq (by omega) (by omega)]; simp <;> omega
      have s2 : addW .i64 (A.length : Int) 1 = ((A ++ [z]).length : Int) := by rw [addW_eq (by omega) (by omega)]; simp
      refine F17h.L0_step ?_
      unfold F17h.r0
      simp only [hB'.get, isRows_rows, xs_rows, set_get_self, Int.toNat_natCast, Nat.zero_add, s1, s2]
      have g1 : (ints A ++ [.int .i64 x] :: (ints M ++ [.int .i64 z] :: (ints B ++ R))).getD A.length [] = [.int .i64 x] := gd0 hA.symm
      have g2 : (ints A ++ [.int .i64 x] :: (ints M ++ [.int .i64 z] :: (ints B ++ R))).getD (A.length + M.length + 1) [] = [.int .i64 z] := by rw [e1']; exact gd0 hAM.symm
      have g3 : (ints A ++ [.int .i64 x] :: (ints M ++ [.int .i64 z] :: (ints B ++ R))).set A.length [.int .i64 z] = ints A ++ [.int .i64 z] :: (ints M ++ [.int .i64 z] :: (ints B ++ R)) := sw0 hA.symm
      have hAM' : (ints A ++ [.int .i64 z] :: ints M).length = A.length + M.length + 1 := by simp [length_ints] <;> omega
      have e2' : ints A ++ [.int .i64 z] :: (ints M ++ [.int .i64 z] :: (ints B ++ R)) = (ints A ++ [.int .i64 z] :: ints M) ++ [.int .i64 z] :: (ints B ++ R) := by simp
      have g4 : (ints A ++ [.int .i64 z] :: (ints M ++ [.int .i64 z] :: (ints B ++ R))).getD (A.length + M.length + 1) [] = [.int .i64 z] := by rw [e2']; exact gd0 hAM'.symm
      have g5 : (ints A ++ [.int .i64 z] :: (ints M ++ [.int .i64 z] :: (ints B ++ R))).set (A.length + M.length + 1) [.int .i64 x] = ints A ++ [.int .i64 z] :: (ints M ++ [.int .i64 x] :: (ints B ++ R)) := by rw [e2', sw0 hAM'.symm]; simp
      rw [g1, g2]
      simp only [ce_one, toInt_int, G_int, se1, g3, g4, g5]
      ((try simp only [G_int, G_bool, G_str, G_sl, G_own, toInt_int, toBool_bool, toStr_str, slXs_sl]); (try simp only [ci_lt, ci_le, ci_eq, ci_eqS, ci_nblt, ci_nble, cond_not, G_lt, G_le, G_eq, G_nble, G_nblt, G_room, G_roomN, cond_true, cond_false, G_true, Nat.add_zero]))
      refine ⟨fun _ => ⟨by omega, by omega, by omega, by omega, by omega, by omega, by simp [length_ints], by omega, by omega, by simp [length_ints] <;> omega, ?_⟩, fun e => absurd e (by omega)⟩
      refine ih M (A ++ [z]) ([x] ++ B) _ (by omega) (by simp <;> omega) ?_ fun H' h' => hQ H' ?_
      · have e3 : ints ((A ++ [z]) ++ M ++ ([x] ++ B)) ++ R = ints A ++ [.int .i64 z] :: (ints M ++ [.int .i64 x] :: (ints B ++ R)) := by simp [ints]
        rw [e3]
        exact (hB'.set (ys := ints A ++ [.int .i64 z] :: (ints M ++ [.int .i64 z] :: (ints B ++ R)))).set
      · have e4 : A ++ (x :: (M ++ [z])).reverse ++ B = (A ++ [z]) ++ M.reverse ++ ([x] ++ B) := by simp
        rw [e4]; exact h'
theorem reverse_turn {zs : List Int} (hb : zs.length ≤ 100000) {H : Heap} {K : List (List AV) → Heap → Prop} (h : ∀ H, K (ints zs.reverse) H) : ioTurn C 17 1 (ints zs) [] H K := by
  refine ⟨fun m hm _ => ?_, fun e => ?_⟩
  · rw [length_ints] at hm ⊢
    obtain ⟨R, hR⟩ : ∃ R, pad 1 m (ints zs) = ints zs ++ R := pad_eq
    have hl : (pad 1 m (ints zs)).length = m := pad_length (by rw [length_ints]; exact hm)
    have hRl : zs.length + R.length = m := by rw [hR] at hl; simpa [ints] using hl
    refine F17h.call ?_
    unfold F17h.t
    rw [subW_eq (by omega) (by omega)]
    have := F17.loop (j := H.next) (n := zs.length) (c := m) (Q := fun v H' => v = .tup [] ∧ H.Same H' ∧ ∃ ys, H'.get H.next = .rows 1 ys ∧ ys.length = m ∧ K (ys.take zs.length) (H'.set H.next (H.get H.next)))
      (H0 := H.push (.rows 1 (pad 1 m (ints zs)))) hb (R := R) zs.length zs [] [] (H.push (.rows 1 (pad 1 m (ints zs)))) (Nat.le_refl _) (by simp) (by have := blq_push H 1 (pad 1 m (ints zs)); simpa [hR] using this) fun H' h' => by
        simp only [List.nil_append, List.append_nil] at h'
        refine ⟨rfl, same_of_blq h', _, h'.get, ?_, ?_⟩
        · simp [length_ints] <;> omega
        · rw [take_ab (by rw [length_ints]; simp)]
          exact h _
    simpa using this
  · obtain rfl : zs = [] := by cases zs with | nil => rfl | cons z zs => simp [ints] at e
    refine F17n.call ?_
    unfold F17n.t
    refine F17n.L0_step ?_
    unfold F17n.r0
    exact ⟨rfl, h H⟩

/-! The same as functions -/
def toInts (xs : List (List AV)) : List Int := xs.map fun r => (r.getD 0 .any).toInt
theorem toInts_ints (zs : List Int) : toInts (ints zs) = zs := by
  unfold toInts ints
  rw [List.map_map]
  exact (List.map_congr_left fun z _ => rfl).trans (List.map_id zs)
namespace RevP
open Classical in
noncomputable def P (k : Nat) (xs : List (List AV)) (args : List AV) : Option (List (List AV)) :=
  if k = 1 ∧ args = [] ∧ xs = ints (toInts xs) ∧ xs.length ≤ 100000 then some (ints (toInts xs).reverse) else none
theorem of {zs : List Int} (h : zs.length ≤ 100000) : P 1 (ints zs) [] = some (ints zs.reverse) := by
  unfold P
  rw [toInts_ints, if_pos ⟨rfl, rfl, rfl, by rw [length_ints]; exact h⟩]
theorem ls {k : Nat} {xs : List (List AV)} {args : List AV} {v : AV} {H : Heap} {kk : List (List AV) → Option AV} {K : List (List AV) → Heap → Prop} (h : ∀ y H, kk y = some v → K y H) : (P k xs args).bind kk = some v → ioTurn C 17 k xs args H K := by
  unfold P
  split
  · rename_i hc
    obtain ⟨rfl, rfl, hx, hl⟩ := hc
    intro e
    rw [hx] at hl ⊢
    rw [length_ints] at hl
    exact reverse_turn hl fun H => h _ H e
  · exact nofun
end RevP
namespace StabP
open Classical in
noncomputable def P (k : Nat) (xs : List (List AV)) : List AV → Option (List (List AV))
  | [.fn 33 [.rp [.str name] 0]] => if k = 1 ∧ xs = ints (toInts xs) ∧ xs.length ≤ 19 ∧ (∀ z ∈ toInts xs, I64 z) ∧ name.size ≤ 50000 then some (ints (isort (scoreV name) [] (toInts xs))) else none
  | _ => none
open Classical in
theorem of {zs : List Int} {name : ByteArray} (h : zs.length ≤ 19) (hz : ∀ z ∈ zs, I64 z) (hn : name.size ≤ 50000) : P 1 (ints zs) [.fn 33 [.rp [.str name] 0]] = some (ints (isort (scoreV name) [] zs)) := by
  show (if 1 = 1 ∧ ints zs = ints (toInts (ints zs)) ∧ (ints zs).length ≤ 19 ∧ (∀ z ∈ toInts (ints zs), I64 z) ∧ name.size ≤ 50000 then some (ints (isort (scoreV name) [] (toInts (ints zs)))) else none) = _
  rw [toInts_ints, if_pos ⟨rfl, rfl, by rw [length_ints]; exact h, hz, hn⟩]
theorem ls {k : Nat} {xs : List (List AV)} {args : List AV} {v : AV} {H : Heap} {kk : List (List AV) → Option AV} {K : List (List AV) → Heap → Prop} (h : ∀ y H, kk y = some v → K y H) : (P k xs args).bind kk = some v → ioTurn C 32 k xs args H K := by
  unfold P
  split
  · rename_i name
    split
    · rename_i hc
      obtain ⟨rfl, hx, hl, hz, hn⟩ := hc
      intro e
      rw [hx] at hl ⊢
      rw [length_ints] at hl
      exact stable_turn hn hl hz fun H => h _ H e
    · exact nofun
  · exact nofun
end StabP
namespace InsP
noncomputable def P (k : Nat) (xs : List (List AV)) : List AV → Option (List (List AV))
  | [.int .i64 i, .sl 0 1 [d]] => if k = 1 ∧ 0 ≤ i ∧ i ≤ xs.length ∧ xs.length ≤ 100000 then some (xs.take i.toNat ++ d :: xs.drop i.toNat) else none
  | _ => none
theorem of {xs : List (List AV)} {d : List AV} {i : Int} (h0 : 0 ≤ i) (h1 : i ≤ xs.length) (h2 : xs.length ≤ 100000) : P 1 xs [.int .i64 i, .sl 0 1 [d]] = some (xs.take i.toNat ++ d :: xs.drop i.toNat) := by
  unfold P
  exact if_pos ⟨rfl, h0, h1, h2⟩
theorem ls {k : Nat} {xs : List (List AV)} {args : List AV} {v : AV} {H : Heap} {kk : List (List AV) → Option AV} {K : List (List AV) → Heap → Prop} (h : ∀ y H, kk y = some v → K y H) : (P k xs args).bind kk = some v → ioBack C 35 k xs args H K := by
  unfold P
  split
  · rename_i i d
    split
    · rename_i hc
      obtain ⟨rfl, h0, h1, h2⟩ := hc
      intro e
      obtain ⟨q, rfl⟩ : ∃ q : Nat, i = q := ⟨i.toNat, by omega⟩
      exact insert35_spec (by omega) h2 fun H => h _ H e
    · exact nofun
  · exact nofun
end InsP
namespace ItoaP
open Classical in
noncomputable def P : List AV → Option AV
  | [.int .i64 n] => if I64 n then some (.str (itoaV n)) else none
  | _ => none
theorem of {n : Int} (h : I64 n) : P [.int .i64 n] = some (.str (itoaV n)) := if_pos h
theorem ls {args : List AV} {v : AV} {H : Heap} {k : AV → Option AV} {K : AV → Heap → Prop} (h : ∀ w H, k w = some v → K w H) : (P args).bind k = some v → C 30 args H K := by
  unfold P
  split
  · rename_i n
    split
    · rename_i hn
      intro e
      exact F30.spec hn (h _ H e)
    · exact nofun
  · exact nofun
end ItoaP
end Go.Proofs.YtagckffnpnejaaaDoor.Ab
