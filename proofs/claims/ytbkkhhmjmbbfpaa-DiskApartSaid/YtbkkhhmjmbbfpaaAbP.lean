/- Pure functions out of trees. -/
import Derived.Test.YtbkkhhmjmbbfpaaAbLaw
namespace Go.Proofs.Ytbkkhhmjmbbfpaa.Ab
open Go

/-- What holds from some number on. -/
def Ev {β : Type} (f : Nat → Option β) (v : β) : Prop := ∃ N, ∀ n, N ≤ n → f n = some v
section
variable {β : Type} {f g : Nat → Option β} {v w : β}
theorem Ev.uniq : Ev f v → Ev f w → v = w := fun ⟨a, ha⟩ ⟨b, hb⟩ => Option.some.inj ((ha (a + b) (by omega)).symm.trans (hb (a + b) (by omega)))
theorem Ev.succ : Ev (fun n => f (n + 1)) v → Ev f v := fun ⟨a, ha⟩ => ⟨a + 1, fun n hn => by
  obtain ⟨m, rfl⟩ : ∃ m, n = m + 1 := ⟨n - 1, by omega⟩
  exact ha m (by omega)⟩
theorem Ev.const : Ev (fun _ => some v) v := ⟨0, fun _ _ => rfl⟩
theorem Ev.of {h : β} (e : h = v) : Ev (fun _ => some h) v := e ▸ Ev.const
theorem Ev.neg {c : Prop} [Decidable c] (h : ¬ c) (hg : Ev g v) : Ev (fun n => if c then f n else g n) v := by simpa only [if_neg h] using hg
theorem Ev.pos {c : Prop} [Decidable c] (h : c) (hf : Ev f v) : Ev (fun n => if c then f n else g n) v := by simpa only [if_pos h] using hf
theorem Ev.bind {α : Type} {o : Option α} {w : α} {k : Nat → α → Option β} (h : o = some w) (hk : Ev (fun n => k n w) v) : Ev (fun n => o.bind (k n)) v := by rw [h]; exact hk
theorem Ev.of' {o : Option β} (e : o = some v) : Ev (fun _ => o) v := e ▸ Ev.const
open Classical in
noncomputable def lim {β : Type} (f : Nat → Option β) : Option β := if h : ∃ v, Ev f v then some (Classical.choose h) else none
theorem lim_eq (h : Ev f v) : lim f = some v := by
  have hx : ∃ v, Ev f v := ⟨v, h⟩
  unfold lim
  rw [dif_pos hx]
  exact congrArg some ((Classical.choose_spec hx).uniq h)
theorem lim_some (h : lim f = some v) : ∃ n, f n = some v := by
  unfold lim at h
  split at h
  · rename_i hx
    obtain ⟨n, hn⟩ := Classical.choose_spec hx
    cases h
    exact ⟨n, hn n (Nat.le_refl _)⟩
  · cases h
end
/-- A test that may answer either way at a slice of no element. -/
noncomputable def anyB {β : Type} (xs : List (List AV)) (k : Bool → Option β) : Option β :=
  match xs with
  | [] => open Classical in if k true = k false then k true else none
  | _ => k false
theorem anyB_cons {β : Type} {x : List AV} {xs : List (List AV)} {k : Bool → Option β} : anyB (x :: xs) k = k false := rfl
theorem anyB_nil {β : Type} {k : Bool → Option β} (h : k true = k false) : anyB [] k = k true := by simp only [anyB, if_pos h]
open Classical in
/-- Orders that are open: each is to give the same. -/
noncomputable def allB {β : Type} (x y : Option β) : Option β := if x = y then x else none
theorem allB_of {β : Type} {x y : Option β} {r : Option β} (h1 : x = r) (h2 : y = r) : allB x y = r := by rw [h1, h2]; simp only [allB, if_true]
theorem allB_same {β : Type} {x : Option β} : allB x x = x := by simp only [allB, if_true]
open Classical in
noncomputable def unbytes (xs : List (List AV)) : Option ByteArray := if h : ∃ s, xs = bytesAV s then some (Classical.choose h) else none
theorem bytesAV_inj {s t : ByteArray} (h : bytesAV s = bytesAV t) : s = t := by
  refine bs_inj ?_
  unfold bytesAV at h
  unfold bs
  refine (List.map_inj_right (f := fun b : UInt8 => [AV.int .u8 (b.toNat : Int)]) fun a b e => ?_).1 h
  simp only [List.cons.injEq, AV.int.injEq, and_true, true_and] at e
  exact UInt8.toNat_inj.1 (by omega)
theorem unbytes_bytes (s : ByteArray) : unbytes (bytesAV s) = some s := by
  have hx : ∃ t, bytesAV s = bytesAV t := ⟨s, rfl⟩
  unfold unbytes
  rw [dif_pos hx]
  exact congrArg some (bytesAV_inj (Classical.choose_spec hx).symm)
theorem unbytes_some {xs : List (List AV)} {s : ByteArray} (h : unbytes xs = some s) : xs = bytesAV s := by
  unfold unbytes at h
  split at h
  · rename_i hx
    cases h
    exact Classical.choose_spec hx
  · cases h

/-! Step by step: a tree and its pure function. -/
section
variable {v w : AV} {Q K : AV → Heap → Prop} {H : Heap} {b : Bool} {β : Type} {r : β} {o o' : Option β} {p p' : Prop}
theorem lsV (hQ : ∀ H, Q v H) (h : some w = some v) : Q w H := Option.some.inj h ▸ hQ H
theorem lsVn {k : Nat} (hQn : v = .sl 1 k [] → ∀ H, Q .nilsl H) (e : some (AV.sl 1 k []) = some v) : Q .nilsl H := hQn (Option.some.inj e).symm H
theorem impP {R : Oracle} {A : Prop} {f : Nat} {args : List AV} {H : Heap} {K : Qt} (h : A → R f args H.none fun v H' => K v (H.past H')) : A → pastR R f args H K := h
theorem lsF : (none : Option β) = some r → p := nofun
theorem lsW {S : Type} {G : S → Heap → Prop} {g g1 : S} (hQ : ∀ H, G g1 H → Q v H) (hg : G g H) (h : some (w, g) = some (v, g1)) : Q w H := by
  cases h
  exact hQ H hg
theorem lsG (h : o = some r → p) : (if b then o else none) = some r → G b p := by
  cases b
  · exact nofun
  · exact h
theorem lsC (h : o = some r → p) (h' : o' = some r → p') : (if b then o else o') = some r → cond b p p' := by
  cases b
  · exact h'
  · exact h
theorem lsAll {xs : List (List AV)} {k : Bool → Option β} {p : Bool → Prop} (h : ∀ b, k b = some r → p b) : anyB xs k = some r → ∀ b : Bool, (b = true → xs = []) → p b := by
  intro e b hb
  cases xs with
  | cons x xs =>
    cases b
    · exact h _ e
    · cases hb rfl
  | nil =>
    unfold anyB at e
    simp only at e
    split at e
    · rename_i q
      cases b
      · exact h _ (q ▸ e)
      · exact h _ e
    · cases e
theorem lsAnd {q : Prop} (h : o = some r → p) (h' : o' = some r → q) : allB o o' = some r → p ∧ q := by
  unfold allB
  intro e
  split at e
  · rename_i q
    exact ⟨h e, h' (q ▸ e)⟩
  · cases e
theorem lsEx {xs : List (List AV)} {k : ByteArray → Option β} {p : ByteArray → Prop} (h : ∀ s, xs = bytesAV s → k s = some r → p s) : (unbytes xs).bind k = some r → ∃ s : ByteArray, xs = bytesAV s ∧ p s := by
  intro e
  cases hs : unbytes xs with
  | none => rw [hs] at e; cases e
  | some s =>
    rw [hs] at e
    exact ⟨s, unbytes_some hs, h s (unbytes_some hs) e⟩
theorem bind_ls {Cq : (AV → Heap → Prop) → Prop} {ov : Option AV} {k : AV → Option β} (ok : ∀ {v}, ov = some v → ∀ {Q : AV → Heap → Prop}, (∀ H, Q v H) → Cq Q) (h : ∀ w H, k w = some r → K w H) (e : ov.bind k = some r) : Cq K := by
  cases ov with
  | none => cases e
  | some w => exact ok rfl fun H => h w H e
theorem bind_ls2 {Cq : (AV → Heap → Prop) → Prop} {kk : Nat} {ov : Option AV} {k : AV → Option β} (ok : ∀ {v}, ov = some v → ∀ {Q : AV → Heap → Prop}, (∀ H, Q v H) → (v = .sl 1 kk [] → ∀ H, Q .nilsl H) → Cq Q) (h : ∀ w H, k w = some r → K w H) (h2 : ∀ H, k (.sl 1 kk []) = some r → K .nilsl H) (e : ov.bind k = some r) : Cq K := by
  cases ov with
  | none => cases e
  | some w => exact ok rfl (fun H => h w H e) fun hw H => h2 H (by subst hw; exact e)
end
end Go.Proofs.Ytbkkhhmjmbbfpaa.Ab
