/- Texts of the proof, joined: AbP, AbPs. -/
import Derived.Test.YtgmkkjmdflhbnaaDoorM4
set_option linter.unusedVariables false
set_option linter.unusedSimpArgs false
set_option linter.unnecessarySimpa false
section
namespace Go.Proofs.YtgmkkjmdflhbnaaDoor.Ab
open Go
def Ev {β : Type} (f : Nat → Option β) (v : β) : Prop := ∃ N, ∀ n, N ≤ n → f n = some v
section
variable {β : Type} {f g : Nat → Option β} {v w : β}
theorem Ev.uniq : Ev f v → Ev f w → v = w := fun ⟨a, ha⟩ ⟨b, hb⟩ => Option.some.inj ((ha (a + b) (by omega)).symm.trans (hb (a + b) (by omega)))
theorem Ev.succ : Ev (fun n => f (n + 1)) v → Ev f v := fun ⟨a, ha⟩ => ⟨a + 1, fun n hn => by
  obtain ⟨m, rfl⟩ : ∃ m, n = m + 1 := ⟨n - 1, by omega⟩
  exact ha m (by omega)⟩
theorem Ev.const : Ev (fun _ => some v) v := ⟨0, fun _ _ => rfl⟩
theorem Ev.of {h : β} (e : h = v) : Ev (fun _ => some h) v := e ▸ Ev.const
theorem Ev.neg {c : Prop} [Decidable c] (h : ¬ c) (hg : Ev g v) : Ev (fun n => if c then f n else g n) v := by simpa only [if_neg h] using hg
theorem Ev.pos {c : Prop} [Decidable c] (h : c) (hf : Ev f v) : Ev (fun n => if c then f n else g n) v := by simpa only [if_pos h] using hf
theorem Ev.bind {α : Type} {o : Option α} {w : α} {k : Nat → α → Option β} (h : o = some w) (hk : Ev (fun n => k n w) v) : Ev (fun n => o.bind (k n)) v := by rw [h]; exact hk
open Classical in
noncomputable def lim {β : Type} (f : Nat → Option β) : Option β := if h : ∃ v, Ev f v then some (Classical.choose h) else none
theorem lim_eq (h : Ev f v) : lim f = some v := by
  have hx : ∃ v, Ev f v := ⟨v, h⟩
  unfold lim
  rw [dif_pos hx]
  exact congrArg some ((Classical.choose_spec hx).uniq h)
theorem lim_some (h : lim f = some v) : ∃ n, f n = some v := by
  unfold lim at h
  split at h
  · rename_i hx
    obtain ⟨n, hn⟩ := Classical.choose_spec hx
    cases h
    exact ⟨n, hn n (Nat.le_refl _)⟩
  · cases h
end
noncomputable def anyB {β : Type} (xs : List (List AV)) (k : Bool → Option β) : Option β :=
  match xs with
  | [] => open Classical in if k true = k false then k true else none
  | _ => k false
theorem anyB_cons {β : Type} {x : List AV} {xs : List (List AV)} {k : Bool → Option β} : anyB (x :: xs) k = k false := rfl
theorem anyB_nil {β : Type} {k : Bool → Option β} (h : k true = k false) : anyB [] k = k true := by simp only [anyB, if_pos h]
open Classical in
noncomputable def unbytes (xs : List (List AV)) : Option ByteArray := if h : ∃ s, xs = bytesAV s then some (Classical.choose h) else none
theorem bytesAV_inj {s t : ByteArray} (h : bytesAV s = bytesAV t) : s = t := by
  refine bs_inj ?_
  unfold bytesAV at h
  unfold bs
  refine (List.map_inj_right (f := fun b : UInt8 => [AV.int .u8 (b.toNat : Int)]) fun a b e => ?_).1 h
  simp only [List.cons.injEq, AV.int.injEq, and_true, true_and] at e
  exact UInt8.toNat_inj.1 (by omega)
theorem unbytes_bytes (s : ByteArray) : unbytes (bytesAV s) = some s := by
  have hx : ∃ t, bytesAV s = bytesAV t := ⟨s, rfl⟩
  unfold unbytes
  rw [dif_pos hx]
  exact congrArg some (bytesAV_inj (Classical.choose_spec hx).symm)
theorem unbytes_some {xs : List (List AV)} {s : ByteArray} (h : unbytes xs = some s) : xs = bytesAV s := by
  unfold unbytes at h
  split at h
  · rename_i hx
    cases h
    exact Classical.choose_spec hx
  · cases h
section
variable {v w : AV} {Q K : AV → Heap → Prop} {H : Heap} {b : Bool} {β : Type} {r : β} {o o' : Option β} {p p' : Prop}
theorem lsV (hQ : ∀ H, Q v H) (h : some w = some v) : Q w H := Option.some.inj h ▸ hQ H
theorem lsVn {k : Nat} (hQn : v = .sl 1 k [] → ∀ H, Q .nilsl H) (e : some (AV.sl 1 k []) = some v) : Q .nilsl H := hQn (Option.some.inj e).symm H
theorem impP {R : Oracle} {A : Prop} {f : Nat} {args : List AV} {H : Heap} {K : Qt} (h : A → R f args H.none fun v H' => K v (H.past H')) : A → pastR R f args H K := h
theorem lsF : (none : Option β) = some r → p := nofun
theorem lsW {S : Type} {G : S → Heap → Prop} {g g1 : S} (hQ : ∀ H, G g1 H → Q v H) (hg : G g H) (h : some (w, g) = some (v, g1)) : Q w H := by
  cases h
  exact hQ H hg
theorem lsG (h : o = some r → p) : (if b then o else none) = some r → G b p := by
  cases b
  · exact nofun
  · exact h
theorem lsC (h : o = some r → p) (h' : o' = some r → p') : (if b then o else o') = some r → cond b p p' := by
  cases b
  · exact h'
  · exact h
theorem lsAll {xs : List (List AV)} {k : Bool → Option β} {p : Bool → Prop} (h : ∀ b, k b = some r → p b) : anyB xs k = some r → ∀ b : Bool, (b = true → xs = []) → p b := by
  intro e b hb
  cases xs with
  | cons x xs =>
    cases b
    · exact h _ e
    · cases hb rfl
  | nil =>
    unfold anyB at e
    simp only at e
    split at e
    · rename_i q
      cases b
      · exact h _ (q ▸ e)
      · exact h _ e
    · cases e
theorem lsAnds {sh : Sh} (h : o = some r → p) : o = some r → Ands sh p := fun e => (h e |> Ands.of) sh
theorem lsEx {xs : List (List AV)} {k : ByteArray → Option β} {p : ByteArray → Prop} (h : ∀ s, xs = bytesAV s → k s = some r → p s) : (unbytes xs).bind k = some r → ∃ s : ByteArray, xs = bytesAV s ∧ p s := by
  intro e
  cases hs : unbytes xs with
  | none => rw [hs] at e; cases e
  | some s =>
    rw [hs] at e
    exact ⟨s, unbytes_some hs, h s (unbytes_some hs) e⟩
theorem bind_ls {Cq : (AV → Heap → Prop) → Prop} {ov : Option AV} {k : AV → Option β} (ok : ∀ {v}, ov = some v → ∀ {Q : AV → Heap → Prop}, (∀ H, Q v H) → Cq Q) (h : ∀ w H, k w = some r → K w H) (e : ov.bind k = some r) : Cq K := by
  cases ov with
  | none => cases e
  | some w => exact ok rfl fun H => h w H e
theorem bind_ls2 {Cq : (AV → Heap → Prop) → Prop} {kk : Nat} {ov : Option AV} {k : AV → Option β} (ok : ∀ {v}, ov = some v → ∀ {Q : AV → Heap → Prop}, (∀ H, Q v H) → (v = .sl 1 kk [] → ∀ H, Q .nilsl H) → Cq Q) (h : ∀ w H, k w = some r → K w H) (h2 : ∀ H, k (.sl 1 kk []) = some r → K .nilsl H) (e : ov.bind k = some r) : Cq K := by
  cases ov with
  | none => cases e
  | some w => exact ok rfl (fun H => h w H e) fun hw H => h2 H (by subst hw; exact e)
end
end Go.Proofs.YtgmkkjmdflhbnaaDoor.Ab
end
section
namespace Go.Proofs.YtgmkkjmdflhbnaaDoor.Ab
open Go
section
variable {a b : Int} {s t : ByteArray} {m n : Nat}
theorem tt_lt : (ltI a b = true) = (a < b) := by simp [ltI]
theorem tt_le : (leI a b = true) = (a ≤ b) := by simp [leI]
theorem tt_eq : (eqI a b = true) = (a = b) := by simp [eqI]
theorem tt_eqS : (eqS s t = true) = (s = t) := by simp [eqS]
theorem tt_nblt : (Nat.blt m n = true) = (m < n) := by simp
theorem tt_nble : (Nat.ble m n = true) = (m ≤ n) := by simp
theorem ff_lt : (ltI a b = false) = (¬ a < b) := by simp [ltI]
theorem ff_le : (leI a b = false) = (¬ a ≤ b) := by simp [leI]
theorem ff_eq : (eqI a b = false) = (¬ a = b) := by simp [eqI]
theorem ff_eqS : (eqS s t = false) = (¬ s = t) := by simp [eqS]
theorem tt_not {x : Bool} : ((!x) = true) = (x = false) := by cases x <;> simp
theorem ff_not {x : Bool} : ((!x) = false) = (x = true) := by cases x <;> simp
theorem tt_dec {p : Prop} [Decidable p] : (decide p = true) = p := by simp
theorem ff_dec {p : Prop} [Decidable p] : (decide p = false) = ¬ p := by simp
theorem tt_true : (true = true) = True := by simp
theorem tt_false : (false = true) = False := by simp
theorem ff_true : (true = false) = False := by simp
theorem ff_false : (false = false) = True := by simp
theorem tt_room {xs ys : List (List AV)} {k : Nat} : (room xs ys k = true) = ((xs.length + ys.length) * k ≤ 140737488355328) := by simp [room]
theorem tt_roomN {k : Nat} : (roomN a k = true) = (a * (k : Int) ≤ 140737488355328) := by simp [roomN, leI]
theorem isInt_i {k : IntKind} : (AV.int k a).isInt k = true := by simp [AV.isInt]
theorem isBool_b {x : Bool} : (AV.bool x).isBool = true := rfl
theorem isSl_s {k : Nat} {xs : List (List AV)} : (AV.sl 0 k xs).isSl k = true := by simp [AV.isSl]
theorem isOwn_s {k t : Nat} {xs : List (List AV)} : (AV.sl (t + 1) k xs).isOwn k = true := by simp [AV.isOwn]
theorem isOwn_1 {k : Nat} {xs : List (List AV)} : (AV.sl 1 k xs).isOwn k = true := by simp [AV.isOwn]
theorem slXs_n : AV.nilsl.slXs = [] := rfl
theorem tt_beq : (Nat.beq m n = true) = (m = n) := by simp
theorem ce_0 {x : AV} {r : List AV} : ce (x :: r) 0 = x := rfl
theorem ce_s {x : AV} {r : List AV} {n : Nat} : ce (x :: r) (n + 1) = ce r n := rfl
theorem bind_s {α β : Type} {x : α} {f : α → Option β} : (some x).bind f = f x := rfl
theorem ite_t {α : Type} {x y : α} : (if True then x else y) = x := rfl
theorem ite_f {α : Type} {x y : α} : (if False then x else y) = y := rfl
theorem lenI_map {α : Type} {f : α → List AV} {l : List α} : lenI (l.map f) = (l.length : Int) := by simp [lenI]
theorem ro_at {α : Type} {f : α → List AV} {l pre post : List α} {x : α} (h : l = pre ++ x :: post) : ro (l.map f) (pre.length : Int).toNat = f x := by subst h; simp [ro]
theorem len_mid {α : Type} {xs pre : List α} {c : α} {post : List α} (h : xs = pre ++ c :: post) : xs.length = pre.length + (post.length + 1) := by subst h; simp
theorem len_end {α : Type} {xs pre : List α} (h : xs = pre ++ []) : xs.length = pre.length := by subst h; simp
theorem add1 {α : Type} {pre : List α} {c : α} (h : pre.length ≤ 9223372036854775806) : addW .i64 (pre.length : Int) 1 = ((pre ++ [c]).length : Int) := by rw [addW_eq (by omega) (by omega)]; simp
end
theorem PS : (∀ a b : Int, (ltI a b = true) = (a < b)) ∧ (∀ a b : Int, (leI a b = true) = (a ≤ b)) ∧ (∀ a b : Int, (eqI a b = true) = (a = b)) ∧ (∀ s t : ByteArray, (eqS s t = true) = (s = t)) ∧ (∀ m n : Nat, (Nat.blt m n = true) = (m < n)) ∧ (∀ m n : Nat, (Nat.ble m n = true) = (m ≤ n)) ∧
    (∀ a b : Int, (ltI a b = false) = ¬ a < b) ∧ (∀ a b : Int, (leI a b = false) = ¬ a ≤ b) ∧ (∀ a b : Int, (eqI a b = false) = ¬ a = b) ∧ (∀ s t : ByteArray, (eqS s t = false) = ¬ s = t) ∧ (∀ x : Bool, ((!x) = true) = (x = false)) ∧ (∀ x : Bool, ((!x) = false) = (x = true)) ∧
    (∀ (p : Prop) [Decidable p], (decide p = true) = p) ∧ (∀ (p : Prop) [Decidable p], (decide p = false) = ¬ p) ∧ ((true = true) = True) ∧ ((false = true) = False) ∧ ((true = false) = False) ∧ ((false = false) = True) ∧
    (∀ (xs ys : List (List AV)) (k : Nat), (room xs ys k = true) = ((xs.length + ys.length) * k ≤ 140737488355328)) ∧ (∀ (a : Int) (k : Nat), (roomN a k = true) = (a * (k : Int) ≤ 140737488355328)) ∧ (∀ (k : IntKind) (a : Int), (AV.int k a).isInt k = true) ∧ (∀ x : Bool, (AV.bool x).isBool = true) ∧ (∀ s : ByteArray, (AV.str s).isStr = true) ∧
    (∀ (k : Nat) (xs : List (List AV)), (AV.sl 0 k xs).isSl k = true) ∧ (∀ k : Nat, AV.nilsl.isSl k = true) ∧ (∀ (k t : Nat) (xs : List (List AV)), (AV.sl (t + 1) k xs).isOwn k = true) ∧ (∀ (k : Nat) (xs : List (List AV)), (AV.sl 1 k xs).isOwn k = true) ∧ (AV.nilsl.slXs = []) ∧ (∀ vs : List AV, (AV.tup vs).isTup = true) ∧ (∀ vs : List AV, (AV.agg vs).isAgg = true) ∧ (∀ b : Bool, (true && b) = b) ∧
    (∀ m n : Nat, (Nat.beq m n = true) = (m = n)) ∧ (∀ vs : List AV, (AV.tup vs).tupVs = vs) ∧ (∀ vs : List AV, (AV.agg vs).aggCs = vs) ∧ (∀ (x d : AV) (r : List AV), (x :: r).headD d = x) ∧ (∀ (x : AV) (r : List AV), (x :: r).tail = r) ∧ (∀ (x : AV) (r : List AV), ce (x :: r) 0 = x) ∧ (∀ (x : AV) (r : List AV) (n : Nat), ce (x :: r) (n + 1) = ce r n) ∧
    (∀ (k : IntKind) (a : Int), (AV.int k a).toInt = a) ∧ (∀ x : Bool, (AV.bool x).toBool = x) ∧ (∀ s : ByteArray, (AV.str s).toStr = s) ∧ (∀ (t k : Nat) (xs : List (List AV)), (AV.sl t k xs).slXs = xs) ∧ (∀ n : Nat, n + 0 = n) ∧ (∀ n : Nat, 0 + n = n) :=
  ⟨fun _ _ => tt_lt, fun _ _ => tt_le, fun _ _ => tt_eq, fun _ _ => tt_eqS, fun _ _ => tt_nblt, fun _ _ => tt_nble, fun _ _ => ff_lt, fun _ _ => ff_le, fun _ _ => ff_eq, fun _ _ => ff_eqS, fun _ => tt_not, fun _ => ff_not, fun _ _ => tt_dec, fun _ _ => ff_dec, tt_true, tt_false, ff_true, ff_false,
    fun _ _ _ => tt_room, fun _ _ => tt_roomN, fun _ _ => isInt_i, fun _ => rfl, fun _ => rfl, fun _ _ => isSl_s, fun _ => rfl, fun _ _ _ => isOwn_s, fun _ _ => isOwn_1, rfl, fun _ => rfl, fun _ => rfl, fun b => Bool.true_and b, fun _ _ => tt_beq, fun _ => rfl, fun _ => rfl, fun _ _ _ => rfl, fun _ _ => rfl, fun _ _ => rfl, fun _ _ _ => rfl,
    fun _ _ => rfl, fun _ => rfl, fun _ => rfl, fun _ _ _ => rfl, fun _ => rfl, fun n => Nat.zero_add n⟩
def idx {α : Type} (p : α → Bool) : List α → Nat → Int
  | [], _ => -1
  | c :: r, n => if p c then n else idx p r (n + 1)
end Go.Proofs.YtgmkkjmdflhbnaaDoor.Ab
end
