/- Rules to reckon with pure functions. -/
import Derived.Test.YtbkkhhmjmbbfpaaAbP
namespace Go.Proofs.Ytbkkhhmjmbbfpaa.Ab
open Go
set_option linter.unusedSimpArgs false

section
variable {a b : Int} {s t : ByteArray} {m n : Nat}
theorem tt_lt : (ltI a b = true) = (a < b) := by simp [ltI]
theorem tt_le : (leI a b = true) = (a ≤ b) := by simp [leI]
theorem tt_eq : (eqI a b = true) = (a = b) := by simp [eqI]
theorem tt_eqS : (eqS s t = true) = (s = t) := by simp [eqS]
theorem tt_nblt : (Nat.blt m n = true) = (m < n) := by simp
theorem tt_nble : (Nat.ble m n = true) = (m ≤ n) := by simp
theorem ff_lt : (ltI a b = false) = (¬ a < b) := by simp [ltI]
theorem ff_le : (leI a b = false) = (¬ a ≤ b) := by simp [leI]
theorem ff_eq : (eqI a b = false) = (¬ a = b) := by simp [eqI]
theorem ff_eqS : (eqS s t = false) = (¬ s = t) := by simp [eqS]
theorem tt_not {x : Bool} : ((!x) = true) = (x = false) := by cases x <;> simp
theorem ff_not {x : Bool} : ((!x) = false) = (x = true) := by cases x <;> simp
theorem tt_dec {p : Prop} [Decidable p] : (decide p = true) = p := by simp
theorem ff_dec {p : Prop} [Decidable p] : (decide p = false) = ¬ p := by simp
theorem tt_true : (true = true) = True := by simp
theorem tt_false : (false = true) = False := by simp
theorem ff_true : (true = false) = False := by simp
theorem ff_false : (false = false) = True := by simp
theorem tt_room {xs ys : List (List AV)} {k : Nat} : (room xs ys k = true) = ((xs.length + ys.length) * k ≤ 140737488355328) := by simp [room]
theorem tt_roomN {k : Nat} : (roomN a k = true) = (a * (k : Int) ≤ 140737488355328) := by simp [roomN, leI]
theorem isInt_i {k : IntKind} : (AV.int k a).isInt k = true := by simp [AV.isInt]
theorem isBool_b {x : Bool} : (AV.bool x).isBool = true := rfl
theorem isStr_s : (AV.str s).isStr = true := rfl
theorem isSl_s {k : Nat} {xs : List (List AV)} : (AV.sl 0 k xs).isSl k = true := by simp [AV.isSl]
theorem isSl_n {k : Nat} : AV.nilsl.isSl k = true := rfl
theorem isOwn_s {k t : Nat} {xs : List (List AV)} : (AV.sl (t + 1) k xs).isOwn k = true := by simp [AV.isOwn]
theorem isOwn_1 {k : Nat} {xs : List (List AV)} : (AV.sl 1 k xs).isOwn k = true := by simp [AV.isOwn]
theorem slXs_n : AV.nilsl.slXs = [] := rfl
theorem tup_ok {vs : List AV} {k : Nat} (h : vs.length = k) : ((AV.tup vs).isTup && Nat.beq (AV.tup vs).tupVs.length k) = true := by subst h; simp [AV.isTup, AV.tupVs]
theorem agg_ok {vs : List AV} {k : Nat} (h : vs.length = k) : ((AV.agg vs).isAgg && Nat.beq (AV.agg vs).aggCs.length k) = true := by subst h; simp [AV.isAgg, AV.aggCs]
theorem isTup_t {vs : List AV} : (AV.tup vs).isTup = true := rfl
theorem isAgg_a {vs : List AV} : (AV.agg vs).isAgg = true := rfl
theorem tt_beq : (Nat.beq m n = true) = (m = n) := by simp
theorem tupVs_t {vs : List AV} : (AV.tup vs).tupVs = vs := rfl
theorem aggCs_a {vs : List AV} : (AV.agg vs).aggCs = vs := rfl
theorem headD_c {x d : AV} {r : List AV} : (x :: r).headD d = x := rfl
theorem tail_c {x : AV} {r : List AV} : (x :: r).tail = r := rfl
theorem ce_0 {x : AV} {r : List AV} : ce (x :: r) 0 = x := rfl
theorem ce_s {x : AV} {r : List AV} {n : Nat} : ce (x :: r) (n + 1) = ce r n := rfl
theorem bind_s {α β : Type} {x : α} {f : α → Option β} : (some x).bind f = f x := rfl
theorem ite_t {α : Type} {x y : α} : (if True then x else y) = x := rfl
theorem ite_f {α : Type} {x y : α} : (if False then x else y) = y := rfl
theorem lenI_map {α : Type} {f : α → List AV} {l : List α} : lenI (l.map f) = (l.length : Int) := by simp [lenI]
theorem ro_at {α : Type} {f : α → List AV} {l pre post : List α} {x : α} (h : l = pre ++ x :: post) : ro (l.map f) (pre.length : Int).toNat = f x := by subst h; simp [ro]
theorem ro_get {α : Type} {f : α → List AV} {l : List α} {x : α} {i : Int} {n : Nat} (hi : i = n) (h : l[n]? = some x) : ro (l.map f) i.toNat = f x := by subst hi; simp [ro, h]
theorem len_mid {α : Type} {xs pre : List α} {c : α} {post : List α} (h : xs = pre ++ c :: post) : xs.length = pre.length + (post.length + 1) := by subst h; simp
theorem len_end {α : Type} {xs pre : List α} (h : xs = pre ++ []) : xs.length = pre.length := by subst h; simp
theorem add1 {α : Type} {pre : List α} {c : α} (h : pre.length ≤ 9223372036854775806) : addW .i64 (pre.length : Int) 1 = ((pre ++ [c]).length : Int) := by rw [addW_eq (by omega) (by omega)]; simp
end
/-- The rules together (one name for all). -/
theorem PS : (∀ a b : Int, (ltI a b = true) = (a < b)) ∧ (∀ a b : Int, (leI a b = true) = (a ≤ b)) ∧ (∀ a b : Int, (eqI a b = true) = (a = b)) ∧ (∀ s t : ByteArray, (eqS s t = true) = (s = t)) ∧ (∀ m n : Nat, (Nat.blt m n = true) = (m < n)) ∧ (∀ m n : Nat, (Nat.ble m n = true) = (m ≤ n)) ∧
    (∀ a b : Int, (ltI a b = false) = ¬ a < b) ∧ (∀ a b : Int, (leI a b = false) = ¬ a ≤ b) ∧ (∀ a b : Int, (eqI a b = false) = ¬ a = b) ∧ (∀ s t : ByteArray, (eqS s t = false) = ¬ s = t) ∧ (∀ x : Bool, ((!x) = true) = (x = false)) ∧ (∀ x : Bool, ((!x) = false) = (x = true)) ∧
    (∀ (p : Prop) [Decidable p], (decide p = true) = p) ∧ (∀ (p : Prop) [Decidable p], (decide p = false) = ¬ p) ∧ ((true = true) = True) ∧ ((false = true) = False) ∧ ((true = false) = False) ∧ ((false = false) = True) ∧
    (∀ (xs ys : List (List AV)) (k : Nat), (room xs ys k = true) = ((xs.length + ys.length) * k ≤ 140737488355328)) ∧ (∀ (a : Int) (k : Nat), (roomN a k = true) = (a * (k : Int) ≤ 140737488355328)) ∧ (∀ (k : IntKind) (a : Int), (AV.int k a).isInt k = true) ∧ (∀ x : Bool, (AV.bool x).isBool = true) ∧ (∀ s : ByteArray, (AV.str s).isStr = true) ∧
    (∀ (k : Nat) (xs : List (List AV)), (AV.sl 0 k xs).isSl k = true) ∧ (∀ k : Nat, AV.nilsl.isSl k = true) ∧ (∀ (k t : Nat) (xs : List (List AV)), (AV.sl (t + 1) k xs).isOwn k = true) ∧ (∀ (k : Nat) (xs : List (List AV)), (AV.sl 1 k xs).isOwn k = true) ∧ (AV.nilsl.slXs = []) ∧ (∀ vs : List AV, (AV.tup vs).isTup = true) ∧ (∀ vs : List AV, (AV.agg vs).isAgg = true) ∧ (∀ b : Bool, (true && b) = b) ∧
    (∀ m n : Nat, (Nat.beq m n = true) = (m = n)) ∧ (∀ vs : List AV, (AV.tup vs).tupVs = vs) ∧ (∀ vs : List AV, (AV.agg vs).aggCs = vs) ∧ (∀ (x d : AV) (r : List AV), (x :: r).headD d = x) ∧ (∀ (x : AV) (r : List AV), (x :: r).tail = r) ∧ (∀ (x : AV) (r : List AV), ce (x :: r) 0 = x) ∧ (∀ (x : AV) (r : List AV) (n : Nat), ce (x :: r) (n + 1) = ce r n) ∧
    (∀ (k : IntKind) (a : Int), (AV.int k a).toInt = a) ∧ (∀ x : Bool, (AV.bool x).toBool = x) ∧ (∀ s : ByteArray, (AV.str s).toStr = s) ∧ (∀ (t k : Nat) (xs : List (List AV)), (AV.sl t k xs).slXs = xs) ∧ (∀ n : Nat, n + 0 = n) ∧ (∀ n : Nat, 0 + n = n) :=
  ⟨fun _ _ => tt_lt, fun _ _ => tt_le, fun _ _ => tt_eq, fun _ _ => tt_eqS, fun _ _ => tt_nblt, fun _ _ => tt_nble, fun _ _ => ff_lt, fun _ _ => ff_le, fun _ _ => ff_eq, fun _ _ => ff_eqS, fun _ => tt_not, fun _ => ff_not, fun _ _ => tt_dec, fun _ _ => ff_dec, tt_true, tt_false, ff_true, ff_false,
    fun _ _ _ => tt_room, fun _ _ => tt_roomN, fun _ _ => isInt_i, fun _ => rfl, fun _ => rfl, fun _ _ => isSl_s, fun _ => rfl, fun _ _ _ => isOwn_s, fun _ _ => isOwn_1, rfl, fun _ => rfl, fun _ => rfl, fun b => Bool.true_and b, fun _ _ => tt_beq, fun _ => rfl, fun _ => rfl, fun _ _ _ => rfl, fun _ _ => rfl, fun _ _ => rfl, fun _ _ _ => rfl,
    fun _ _ => rfl, fun _ => rfl, fun _ => rfl, fun _ _ _ => rfl, fun _ => rfl, fun n => Nat.zero_add n⟩

/-- The index of the first that fits, or -1. -/
def idx {α : Type} (p : α → Bool) : List α → Nat → Int
  | [], _ => -1
  | c :: r, n => if p c then n else idx p r (n + 1)
theorem idx_any {α : Type} (p : α → Bool) : ∀ (xs : List α) (n : Nat), (0 ≤ idx p xs n) = (xs.any p = true)
  | [], n => by simp [idx]
  | c :: r, n => by
    simp only [idx, List.any_cons]
    cases h : p c
    · simpa using idx_any p r (n + 1)
    · simp
end Go.Proofs.Ytbkkhhmjmbbfpaa.Ab
