/- How the abstract machine's values stand for the model's: the relation, and what keeps it. -/
import Derived.Test.YtbkkhhmjmbbfpaaAb
import Derived.OwnWalk
import Derived.Maps.AppendAt
import Derived.Laws.RangeString
import Derived.Laws.Slices
namespace Go.Proofs.Ytbkkhhmjmbbfpaa.Ab
open Go

theorem G_out {b : Bool} {p : Prop} (h : G b p) : b = true ∧ p := by
  cases b
  · exact h.elim
  · exact ⟨rfl, h⟩
theorem G_in {b : Bool} {p : Prop} (hb : b = true) (h : p) : G b p := by subst hb; exact h

/-- Stable values: what they lead to lies in blocks that nobody turns any more. -/
inductive Rep (w : World) (stb : Nat → Prop) (ob : Nat → Option Nat) : AV → Value → Prop
  | any (v : Value) : Rep w stb ob .any v
  | int (k : IntKind) (n : Int) : Rep w stb ob (.int k n) (.int k n)
  | bool (b : Bool) : Rep w stb ob (.bool b) (.bool b)
  | str (s : ByteArray) : Rep w stb ob (.str s) (.string s)
  | nilp : Rep w stb ob .nilp (.pointer none)
  | rp (b o1 o : Nat) (cs : List AV) (vs : Nat → Value) (hb : stb b) (hc : ∀ i, i < cs.length → w.cell? ⟨b, o1 + i, none⟩ = some (vs i)) (h1 : ∀ i, i < cs.length → (vs i).oneCell' = true)
      (hr : ∀ (i : Nat) (c : AV), cs[i]? = some c → Rep w stb ob c (vs i)) : Rep w stb ob (.rp cs o) (.pointer (some ⟨b, o1 + o, none⟩))
  | nilsl : Rep w stb ob .nilsl (.slice none 0 0)
  | sl0 (A : Option Addr) (c k : Nat) : Rep w stb ob (.sl 0 k []) (.slice A 0 c)
  | sl (b o c k : Nat) (xs : List (List AV)) (vs : Nat → Nat → Value) (hb : stb b) (hn : xs.length ≤ c) (hm : xs.length ≤ maxLen) (hk : ∀ x ∈ xs, x.length = k)
      (hc : ∀ i j, i < xs.length → j < k → w.cell? ⟨b, o + (i * k + j), none⟩ = some (vs i j)) (h1 : ∀ i j, i < xs.length → j < k → (vs i j).oneCell' = true)
      (hr : ∀ (i : Nat) (x : List AV) (j : Nat) (c : AV), xs[i]? = some x → x[j]? = some c → Rep w stb ob c (vs i j)) : Rep w stb ob (.sl 0 k xs) (.slice (some ⟨b, o, none⟩) xs.length c)
  | fn (f : Nat) (cs : List AV) (vs : List Value) (hl : cs.length = vs.length) (hr : ∀ (i : Nat) (c : AV) (v : Value), cs[i]? = some c → vs[i]? = some v → Rep w stb ob c v) : Rep w stb ob (.fn f cs) (.func (.func f) #[] vs.toArray)
  | nilfn : Rep w stb ob .nilfn .nilFunc
  | iface (t : Nat) (a : AV) (v : Value) (h : Rep w stb ob a v) : Rep w stb ob (.iface t a) (.iface t v)
  | niliface : Rep w stb ob .niliface .nilIface
  | agg (cs : List AV) (vs : List Value) (hl : cs.length = vs.length) (hr : ∀ (i : Nat) (c : AV) (v : Value), cs[i]? = some c → vs[i]? = some v → Rep w stb ob c v) : Rep w stb ob (.agg cs) (.agg vs.toArray)
  | tup (cs : List AV) (vs : List Value) (hl : cs.length = vs.length) (hr : ∀ (i : Nat) (c : AV) (v : Value), cs[i]? = some c → vs[i]? = some v → Rep w stb ob c v) : Rep w stb ob (.tup cs) (.tuple vs.toArray)
  | obj (j b o : Nat) (h : ob j = some b) : Rep w stb ob (.obj j o) (.pointer (some ⟨b, o, none⟩))
  | map (j b : Nat) (h : ob j = some b) : Rep w stb ob (.map j) (.map (some b))
  | nilmap : Rep w stb ob .nilmap (.map none)
  | hs (j b o n c k q : Nat) (h : ob j = some b) (hn : n ≤ c) (hm : c ≤ maxLen) (hq : (c = 0 ∧ o ≠ 0) ∨ q = o * k) : Rep w stb ob (.hs j o n c k) (.slice (some ⟨b, q, none⟩) n c)
  | he (j b k i o : Nat) (h : ob j = some b) : Rep w stb ob (.he j k i o) (.pointer (some ⟨b, i * k + o, none⟩))

theorem cell_same {w w' : World} {b o : Nat} (h : w'.heap[b]? = w.heap[b]?) : w'.cell? ⟨b, o, none⟩ = w.cell? ⟨b, o, none⟩ := World.cell?_of_block (a := ⟨b, o, none⟩) h

theorem Rep.mono {w w' : World} {stb stb' : Nat → Prop} {ob ob' : Nat → Option Nat} (hw : ∀ b, stb b → w'.heap[b]? = w.heap[b]?) (hs : ∀ b, stb b → stb' b)
    (ho : ∀ j b, ob j = some b → ob' j = some b) {a : AV} {v : Value} (h : Rep w stb ob a v) : Rep w' stb' ob' a v := by
  induction h with
  | any v => exact .any v
  | int k n => exact .int k n
  | bool b => exact .bool b
  | str s => exact .str s
  | nilp => exact .nilp
  | rp b o1 o cs vs hb hc h1 hr ih => exact .rp b o1 o cs vs (hs b hb) (fun i hi => (cell_same (hw b hb)).trans (hc i hi)) h1 ih
  | nilsl => exact .nilsl
  | sl0 A c k => exact .sl0 A c k
  | sl b o c k xs vs hb hn hm hk hc h1 hr ih => exact .sl b o c k xs vs (hs b hb) hn hm hk (fun i j hi hj => (cell_same (hw b hb)).trans (hc i j hi hj)) h1 ih
  | fn f cs vs hl hr ih => exact .fn f cs vs hl ih
  | nilfn => exact .nilfn
  | iface t a v h ih => exact .iface t a v ih
  | niliface => exact .niliface
  | agg cs vs hl hr ih => exact .agg cs vs hl ih
  | tup cs vs hl hr ih => exact .tup cs vs hl ih
  | obj j b o h => exact .obj j b o (ho j b h)
  | map j b h => exact .map j b (ho j b h)
  | nilmap => exact .nilmap
  | hs j b o n c k q h hn hm hq => exact .hs j b o n c k q (ho j b h) hn hm hq
  | he j b k i o h => exact .he j b k i o (ho j b h)

/-- What all frames share: the stable blocks, the objects' blocks, the blocks that belong to the objects. -/
structure Gs where
  stb : Nat → Prop
  ob : Nat → Option Nat
  foot : Nat → Prop
/-- What one frame knows: where its own blocks lie; by tag: its own slices, what they hold, the size of an element. -/
structure Gl where
  loc : Nat → Nat
  xv : Nat → Value
  xc : Nat → List (List AV)
  xk : Nat → Nat

mutual
def TRep (g : Gs) (l : Gl) (w : World) (n : Nat) : AV → Value → Prop
  | .sl 0 k xs, v => Rep w g.stb g.ob (.sl 0 k xs) v
  | .sl (t + 1) k xs, v => v = l.xv (t + 1) ∧ xs = l.xc (t + 1) ∧ k = l.xk (t + 1)
  | .ep t k i o xs, v => xs = l.xc t ∧ k = l.xk t ∧ t ≠ 0 ∧ i < xs.length ∧ ∃ b m c, l.xv t = .slice (some ⟨b, 0, none⟩) m c ∧ v = .pointer (some ⟨b, i * k + o, none⟩)
  | .ptr j o, v => j < n ∧ v = .pointer (some ⟨l.loc j, o, none⟩)
  | .agg cs, v => ∃ vs : List Value, v = .agg vs.toArray ∧ TReps g l w n cs vs
  | .tup cs, v => ∃ vs : List Value, v = .tuple vs.toArray ∧ TReps g l w n cs vs
  | .iface t a, v => ∃ u, v = .iface t u ∧ TRep g l w n a u
  | .any, _ => True
  | .int k m, v => v = .int k m
  | .bool b, v => v = .bool b
  | .str s, v => v = .string s
  | .nilp, v => v = .pointer none
  | .rp cs o, v => Rep w g.stb g.ob (.rp cs o) v
  | .nilsl, v => v = .slice none 0 0
  | .fn f cap, v => Rep w g.stb g.ob (.fn f cap) v
  | .nilfn, v => v = .nilFunc
  | .niliface, v => v = .nilIface
  | .obj j o, v => Rep w g.stb g.ob (.obj j o) v
  | .map j, v => Rep w g.stb g.ob (.map j) v
  | .nilmap, v => v = .map none
  | .hs j o n c k, v => Rep w g.stb g.ob (.hs j o n c k) v
  | .he j k i o, v => Rep w g.stb g.ob (.he j k i o) v
def TReps (g : Gs) (l : Gl) (w : World) (n : Nat) : List AV → List Value → Prop
  | [], [] => True
  | c :: cs, v :: vs => TRep g l w n c v ∧ TReps g l w n cs vs
  | _, _ => False
end

section
variable {g g' : Gs} {l l' : Gl} {w w' : World} {n n' : Nat}

theorem TReps.length : ∀ {cs : List AV} {vs : List Value}, TReps g l w n cs vs → cs.length = vs.length
  | [], [], _ => rfl
  | _ :: cs, _ :: vs, h => by simp only [TReps] at h; simp [TReps.length h.2]
  | [], _ :: _, h => by simp [TReps] at h
  | _ :: _, [], h => by simp [TReps] at h
theorem TReps.get : ∀ {cs : List AV} {vs : List Value}, TReps g l w n cs vs → ∀ {i : Nat} {c : AV}, cs[i]? = some c → ∃ v, vs[i]? = some v ∧ TRep g l w n c v
  | [], [], _, i, c, h => by simp at h
  | c0 :: cs, v0 :: vs, h, i, c, hc => by
    simp only [TReps] at h
    cases i with
    | zero => simp at hc; subst hc; exact ⟨v0, by simp, h.1⟩
    | succ i => simp at hc ⊢; exact TReps.get h.2 hc
  | [], _ :: _, h, _, _, _ => by simp [TReps] at h
  | _ :: _, [], h, _, _, _ => by simp [TReps] at h
theorem TReps.mk : ∀ {cs : List AV} {vs : List Value}, cs.length = vs.length → (∀ (i : Nat) (c : AV) (v : Value), cs[i]? = some c → vs[i]? = some v → TRep g l w n c v) → TReps g l w n cs vs
  | [], [], _, _ => by simp [TReps]
  | c :: cs, v :: vs, hl, h => by
    simp only [TReps]
    exact ⟨h 0 c v (by simp) (by simp), TReps.mk (by simpa using hl) fun i c' v' hc hv => h (i + 1) c' v' (by simpa using hc) (by simpa using hv)⟩
  | [], _ :: _, hl, _ => by simp at hl
  | _ :: _, [], hl, _ => by simp at hl
theorem TReps.of {cs : List AV} {vs : List Value} (h : TReps g l w n cs vs) : ∀ (i : Nat) (c : AV) (v : Value), cs[i]? = some c → vs[i]? = some v → TRep g l w n c v := by
  intro i c v hc hv
  obtain ⟨v', hv', hr⟩ := h.get hc
  rw [hv] at hv'
  cases hv'
  exact hr
theorem TReps.set {cs : List AV} {vs : List Value} (h : TReps g l w n cs vs) {c : AV} {v : Value} (hr : TRep g l w n c v) (d : Nat) : TReps g l w n (cs.set d c) (vs.set d v) := by
  refine .mk (by simp [h.length]) fun i c' v' hc hv => ?_
  rw [List.getElem?_set] at hc hv
  by_cases e : d = i
  · subst e
    simp only [if_true] at hc hv
    split at hc
    · split at hv
      · cases hc; cases hv; exact hr
      · cases hv
    · cases hc
  · simp only [e, if_false] at hc hv
    exact h.of i c' v' hc hv
theorem TReps.append {cs cs' : List AV} {vs vs' : List Value} (h : TReps g l w n cs vs) (h' : TReps g l w n cs' vs') : TReps g l w n (cs ++ cs') (vs ++ vs') := by
  have hl := h.length
  refine .mk (by simp [hl, h'.length]) fun i c v hc hv => ?_
  rw [List.getElem?_append] at hc hv
  by_cases e : i < cs.length
  · rw [if_pos e] at hc; rw [if_pos (by omega)] at hv; exact h.of i c v hc hv
  · rw [if_neg e] at hc; rw [if_neg (by omega)] at hv; rw [← hl] at hv; exact h'.of _ c v hc hv

/-- A value of no tag and no pointer into the frame's blocks, as a stable one; and back. -/
theorem TRep.of_rep : ∀ {a : AV} {v : Value}, Rep w g.stb g.ob a v → TRep g l w n a v := by
  intro a v h
  induction h with
  | agg cs vs hl hr ih => exact ⟨vs, rfl, .mk hl fun i c v hc hv => ih i c v hc hv⟩
  | tup cs vs hl hr ih => exact ⟨vs, rfl, .mk hl fun i c v hc hv => ih i c v hc hv⟩
  | iface t a v h ih => exact ⟨v, rfl, ih⟩
  | rp b o1 o cs vs hb hc h1 hr => simp only [TRep]; exact .rp b o1 o cs vs hb hc h1 hr
  | sl b o c k xs vs hb hn hm hk hc h1 hr => simp only [TRep]; exact .sl b o c k xs vs hb hn hm hk hc h1 hr
  | sl0 A c k => simp only [TRep]; exact .sl0 A c k
  | fn f cs vs hl hr => simp only [TRep]; exact .fn f cs vs hl hr
  | obj j b o h => simp only [TRep]; exact .obj j b o h
  | map j b h => simp only [TRep]; exact .map j b h
  | hs j b o n c k q h hn hm hq => simp only [TRep]; exact .hs j b o n c k q h hn hm hq
  | he j b k i o h => simp only [TRep]; exact .he j b k i o h
  | _ => simp only [TRep]

mutual
theorem TRep.mono (hw : ∀ b, g.stb b → w'.heap[b]? = w.heap[b]?) (hs : ∀ b, g.stb b → g'.stb b) (ho : ∀ j b, g.ob j = some b → g'.ob j = some b)
    (hloc : ∀ j, j < n → l'.loc j = l.loc j) (hn : n ≤ n') : ∀ (a : AV) (v : Value), (∀ t ∈ tagsOf a, l'.xv t = l.xv t ∧ l'.xc t = l.xc t ∧ l'.xk t = l.xk t) → TRep g l w n a v → TRep g' l' w' n' a v
  | .sl 0 k xs, v, _, h => by simp only [TRep] at h ⊢; exact h.mono hw hs ho
  | .sl (t + 1) k xs, v, ht, h => by
    simp only [TRep] at h ⊢
    obtain ⟨h1, h2, h3⟩ := ht (t + 1) (by simp [tagsOf, Nat.beq])
    rw [h1, h2, h3]
    exact h
  | .ep t k i o xs, v, ht, h => by
    simp only [TRep] at h ⊢
    obtain ⟨h1, h2, h3⟩ := ht t (by simp [tagsOf])
    rw [h1, h2, h3]
    exact h
  | .ptr j o, v, _, h => by
    simp only [TRep] at h ⊢
    rw [hloc j h.1]
    exact ⟨by omega, h.2⟩
  | .agg cs, v, ht, h => by
    simp only [TRep] at h ⊢
    obtain ⟨vs, rfl, h⟩ := h
    exact ⟨vs, rfl, TReps.mono hw hs ho hloc hn cs vs (fun t h => ht t (by simpa [tagsOf] using h)) h⟩
  | .tup cs, v, ht, h => by
    simp only [TRep] at h ⊢
    obtain ⟨vs, rfl, h⟩ := h
    exact ⟨vs, rfl, TReps.mono hw hs ho hloc hn cs vs (fun t h => ht t (by simpa [tagsOf] using h)) h⟩
  | .iface t a, v, ht, h => by
    simp only [TRep] at h ⊢
    obtain ⟨u, rfl, h⟩ := h
    exact ⟨u, rfl, TRep.mono hw hs ho hloc hn a u (fun t h => ht t (by simpa [tagsOf] using h)) h⟩
  | .rp cs o, v, _, h => by simp only [TRep] at h ⊢; exact h.mono hw hs ho
  | .fn f cap, v, _, h => by simp only [TRep] at h ⊢; exact h.mono hw hs ho
  | .obj j o, v, _, h => by simp only [TRep] at h ⊢; exact h.mono hw hs ho
  | .map j, v, _, h => by simp only [TRep] at h ⊢; exact h.mono hw hs ho
  | .any, v, _, h => by simp only [TRep]
  | .int k m, v, _, h => by simp only [TRep] at h ⊢; exact h
  | .bool b, v, _, h => by simp only [TRep] at h ⊢; exact h
  | .str s, v, _, h => by simp only [TRep] at h ⊢; exact h
  | .nilp, v, _, h => by simp only [TRep] at h ⊢; exact h
  | .nilsl, v, _, h => by simp only [TRep] at h ⊢; exact h
  | .nilfn, v, _, h => by simp only [TRep] at h ⊢; exact h
  | .niliface, v, _, h => by simp only [TRep] at h ⊢; exact h
  | .nilmap, v, _, h => by simp only [TRep] at h ⊢; exact h
  | .hs j o n c k, v, _, h => by simp only [TRep] at h ⊢; exact h.mono hw hs ho
  | .he j k i o, v, _, h => by simp only [TRep] at h ⊢; exact h.mono hw hs ho
theorem TReps.mono (hw : ∀ b, g.stb b → w'.heap[b]? = w.heap[b]?) (hs : ∀ b, g.stb b → g'.stb b) (ho : ∀ j b, g.ob j = some b → g'.ob j = some b)
    (hloc : ∀ j, j < n → l'.loc j = l.loc j) (hn : n ≤ n') : ∀ (cs : List AV) (vs : List Value), (∀ t ∈ tagsOfs cs, l'.xv t = l.xv t ∧ l'.xc t = l.xc t ∧ l'.xk t = l.xk t) → TReps g l w n cs vs → TReps g' l' w' n' cs vs
  | [], [], _, _ => by simp [TReps]
  | c :: cs, v :: vs, ht, h => by
    simp only [TReps] at h ⊢
    exact ⟨TRep.mono hw hs ho hloc hn c v (fun t h => ht t (by simp [tagsOfs, h])) h.1, TReps.mono hw hs ho hloc hn cs vs (fun t h => ht t (by simp [tagsOfs, h])) h.2⟩
  | [], _ :: _, _, h => by simp [TReps] at h
  | _ :: _, [], _, h => by simp [TReps] at h
end
end

end Go.Proofs.Ytbkkhhmjmbbfpaa.Ab
