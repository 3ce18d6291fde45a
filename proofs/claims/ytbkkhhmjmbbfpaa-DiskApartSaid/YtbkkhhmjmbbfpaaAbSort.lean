/- The library's sort, told as a leaf: what its contract in the kit says, in the abstract machine's words. -/
import Derived.Test.YtbkkhhmjmbbfpaaAbAwp
import Derived.Sort.Grow
namespace Go.Proofs.Ytbkkhhmjmbbfpaa.Ab
open Go

section
variable {α : Type} {g : Gs} {w : World} {H : Heap}
/-- A row of a block of the heap, of one cell each, is laid anew. -/
theorem row_turn {enc : α → Value} {encA : α → AV} [Inhabited α] (he : ∀ x w stb ob, Rep w stb ob (encA x) (enc x)) (h1 : ∀ x, (enc x).oneCell' = true) (h : HOK g w H) (hst : ∀ b, g.stb b → b < w.heap.size ∧ ¬ g.foot b)
    {j b o q : Nat} (ho : g.ob j = some b) {xs : List (List AV)} (hj : H.get j = .rows 1 xs) {d : List α} (hq : d = [] ∨ q = o) (hl : o + d.length ≤ xs.length) {n : Nat} {os : Array Obj} {w' : World}
    (hw : w' = Go.Sort.grow (Go.Sort.putRow enc (Go.Sort.ahead w n) b q d.toArray) os) :
    HOK g w' (H.set j (.rows 1 (splice xs o (d.map fun x => [encA x])))) ∧ Ext w g w' g := by
  obtain ⟨b', k1, k2, k3, k4⟩ := h.live j (by rw [hj]; exact nofun)
  rw [ho] at k1
  cases k1
  rw [hj] at k4
  obtain ⟨vs, e, r1, r2, r3, r4, r5, r6, r7⟩ := k4
  have hsize : w.heap.size ≤ w'.heap.size := by rw [hw]; simp [Go.Sort.ahead]
  have hold : ∀ c, c ≠ b → c < w.heap.size → w'.heap[c]? = w.heap[c]? := by
    intro c hc hlt
    rw [hw, Go.Sort.heap_grow_old _ _ (by simpa [Go.Sort.ahead] using hlt)]
    simp only [Go.Sort.putRow, Go.Sort.mapBlock, Go.Sort.ahead, Array.getElem?_modify]
    rw [if_neg (Ne.symm hc)]
  have hb : w'.heap[b]? = some (.cells (Go.Sort.putCells enc q d.toArray vs.toArray) e (0, 0)) := by
    rw [hw, Go.Sort.heap_grow_old _ _ (by simpa [Go.Sort.ahead] using k3)]
    simp only [Go.Sort.putRow, Go.Sort.mapBlock, Go.Sort.ahead, Array.getElem?_modify, if_true]
    rw [r1]
    rfl
  have hstb : ∀ c, g.stb c → w'.heap[c]? = w.heap[c]? := fun c hc => hold c (fun e => (hst c hc).2 (e ▸ k2)) (hst c hc).1
  have hlen : (splice xs o (d.map fun x => [encA x])).length = xs.length := by
    simp only [splice, List.length_append, List.length_take, List.length_drop, List.length_map]
    omega
  refine ⟨h.set ho (by rw [hj]; exact nofun) hsize hold hstb nofun ⟨(Go.Sort.putCells enc q d.toArray vs.toArray).toList, e, by rw [hb], ?_, by omega, by rw [hlen]; exact r4, ?_, ?_, ?_⟩, ?_⟩
  · rw [hlen]
    simp only [Go.Sort.putCells, Array.length_toList, Array.size_mapIdx]
    simpa using r2
  · intro x hx
    simp only [splice, List.mem_append, List.mem_map] at hx
    rcases hx with (hx | ⟨a, _, rfl⟩) | hx
    · exact r5 x (List.mem_of_mem_take hx)
    · rfl
    · exact r5 x (List.mem_of_mem_drop hx)
  · intro u hu
    obtain ⟨i, hi⟩ := List.getElem?_of_mem hu
    simp only [Go.Sort.putCells, Array.getElem?_toList, Array.getElem?_mapIdx, List.getElem?_toArray] at hi
    cases hv : vs[i]? with
    | none => rw [hv] at hi; cases hi
    | some v =>
      rw [hv] at hi
      simp only [Option.map_some, Option.some.injEq] at hi
      split at hi
      · rw [← hi]; exact h1 _
      · rw [← hi]; exact r6 v (List.mem_of_getElem? hv)
  · intro i x jj c hx hc
    have hil : i < xs.length := by rw [← hlen]; exact (List.getElem?_eq_some_iff.1 hx).1
    have hxs : ∃ y, xs[i]? = some y := ⟨_, List.getElem?_eq_getElem hil⟩
    obtain ⟨y, hy⟩ := hxs
    have hvi : i < vs.length := by omega
    have hmem : x ∈ splice xs o (d.map fun x => [encA x]) := List.mem_of_getElem? hx
    have hjj : jj = 0 := by
      have : x.length = 1 := by
        simp only [splice, List.mem_append, List.mem_map] at hmem
        rcases hmem with (hm | ⟨a, _, rfl⟩) | hm
        · exact r5 x (List.mem_of_mem_take hm)
        · rfl
        · exact r5 x (List.mem_of_mem_drop hm)
      have := (List.getElem?_eq_some_iff.1 hc).1
      omega
    subst hjj
    simp only [Nat.mul_one, Nat.add_zero, Go.Sort.putCells, Array.getElem?_toList, Array.getElem?_mapIdx, List.getElem?_toArray, List.size_toArray]
    rw [List.getElem?_eq_getElem hvi, Option.map_some]
    simp only [splice] at hx
    by_cases hin : o ≤ i ∧ i < o + d.length
    · have hq : q = o := by
        rcases hq with rfl | hq
        · simp at hin; omega
        · exact hq
      subst hq
      rw [if_pos hin]
      have hd : i - q < d.length := by omega
      rw [List.append_assoc, List.getElem?_append_right (by simp; omega), List.length_take, Nat.min_eq_left (by omega), List.getElem?_append_left (by simpa using hd), List.getElem?_map, List.getElem?_eq_getElem hd] at hx
      simp only [Option.map_some, Option.some.injEq] at hx
      subst hx
      simp only [List.getElem?_cons_zero, Option.some.injEq] at hc
      subst hc
      refine ⟨_, rfl, ?_⟩
      have : d.toArray[i - q]! = d[i - q] := by rw [getElem!_pos _ _ (by simpa using hd)]; simp
      rw [this]
      exact (he _ _ _ _)
    · have hout : ¬ (q ≤ i ∧ i < q + d.length) := by
        rcases hq with rfl | hq
        · simp
        · rw [hq]; exact hin
      rw [if_neg hout]
      have hxy : xs[i]? = some x := by
        by_cases hlt : i < o
        · rw [List.append_assoc, List.getElem?_append_left (by simp; omega), List.getElem?_take, if_pos hlt] at hx
          exact hx
        · rw [List.getElem?_append_right (by simp only [List.length_append, List.length_take, List.length_map]; omega), List.length_append, List.length_take, List.length_map, Nat.min_eq_left (by omega), List.getElem?_drop, show o + d.length + (i - (o + d.length)) = i by omega] at hx
          exact hx
      obtain ⟨v, hv, hr⟩ := r7 i x 0 c hxy hc
      simp only [Nat.mul_one, Nat.add_zero] at hv
      rw [List.getElem?_eq_getElem hvi] at hv
      cases hv
      exact ⟨_, rfl, hr.mono hstb (fun _ h => h) (fun _ _ h => h)⟩
  · exact ⟨by rw [hw]; rfl, by rw [hw]; rfl, by rw [hw]; rfl, hsize, fun c hc hf => hold c (fun e => hf (e ▸ k2)) hc, fun _ h => h, fun _ h => .inl h, fun _ _ h => h, fun _ h => .inl h⟩

def ints (l : List Int) : List (List AV) := l.map fun z => [.int .i64 z]
/-- slices.Sort at []int. -/
def sortLeaf (F : Nat) : Oracle := fun f args H Q => f = F ∧
  ((∃ (j o n c : Nat) (xs : List (List AV)) (zs : List Int), args = [.hs j o n c 1] ∧ H.get j = .rows 1 xs ∧ zs.length = n ∧ n ≤ 140737488355328 ∧ o + n ≤ xs.length ∧ (xs.drop o).take n = ints zs ∧
      Q (.tup []) (H.set j (.rows 1 (splice xs o (ints (zs.mergeSort fun x y => decide (x ≤ y))))))) ∨ (args = [.nilsl] ∧ Q (.tup []) H))
theorem sortLeaf_feas (F : Nat) : Feas (sortLeaf F) := by
  rintro f args H Q ⟨_, ⟨_, _, _, _, _, _, _, _, _, _, _, _, h⟩ | ⟨_, h⟩⟩
  · exact ⟨_, _, h⟩
  · exact ⟨_, _, h⟩
theorem sortLeaf_sound {P : Program} {E : Env} {F : Nat} (hen : Enters P F) (hown : E.own F = false)
    (hc : ∀ (blk off cap : Nat) (zs : List Int) (w : World), Go.Sort.Holds (Value.int .i64) w blk off zs.toArray → blk < w.heap.size → zs.length < 4611686018427387904 →
      Calls P F #[.slice (some ⟨blk, off, none⟩) zs.length cap] w fun e w' => e = .returned (.tuple #[]) ∧ ∃ n os, w' = Go.Sort.grow (Go.Sort.putRow (Value.int .i64) (Go.Sort.ahead w n) blk off (zs.mergeSort fun x y => decide (x ≤ y)).toArray) os)
    (hnil : ∀ (p : Option Addr) (cap : Nat) (w : World), Calls P F #[.slice p 0 cap] w fun e w' => e = .returned (.tuple #[]) ∧ w' = w) : OSound P E (sortLeaf F) := by
  rintro f args H Q ⟨rfl, h⟩
  refine ⟨hen, fun w g vs hs => ?_⟩
  have hres : ∀ {w' : World}, Rep w' g.stb g.ob (.tup []) (.tuple #[]) := fun {w'} => .tup [] [] rfl (by simp)
  have hone : ∀ {a : AV}, args = [a] → ∃ v, vs = [v] ∧ Rep w g.stb g.ob a v := by
    rintro a rfl
    have hl := hs.len
    match vs, hl with
    | [v], _ => exact ⟨v, rfl, hs.rep 0 _ _ rfl rfl⟩
  rcases h with ⟨j, o, n, c, xs, zs, ha, hj, hn, hnm, hle, hz, hQ⟩ | ⟨ha, hQ⟩
  · obtain ⟨v, rfl, hv⟩ := hone ha
    cases hv with
    | hs j b o n c k q hb hnc hcm hq =>
    subst hn
    have hlive := hs.heap.live j (by rw [hj]; exact nofun)
    obtain ⟨b', k1, k2, k3, k4⟩ := hlive
    rw [hb] at k1
    cases k1
    rw [hj] at k4
    obtain ⟨ws, e, r1, r2, r3, r4, r5, r6, r7⟩ := k4
    have hxs : ∀ i (hi : i < zs.length), xs[o + i]? = some [.int .i64 zs[i]] := by
      intro i hi
      have : ((xs.drop o).take zs.length)[i]? = some [.int .i64 zs[i]] := by rw [hz]; simp [ints, hi]
      rwa [List.getElem?_take, if_pos hi, List.getElem?_drop] at this
    have hqo : zs = [] ∨ q = o := by
      rcases hq with hq | hq
      · left; exact List.length_eq_zero_iff.1 (by omega)
      · right; omega
    have hH : Go.Sort.Holds (Value.int .i64) w b q zs.toArray := by
      intro i hi
      have hi' : i < zs.length := by simpa using hi
      have hqo : q = o := by
        rcases hqo with rfl | h
        · simp at hi'
        · exact h
      subst hqo
      obtain ⟨u, hu, hr⟩ := r7 _ _ 0 _ (hxs i hi') rfl
      simp only [Nat.mul_one, Nat.add_zero] at hu
      have : u = .int .i64 zs[i] := by cases hr; rfl
      subst this
      refine ⟨?_, ?_⟩
      · have : zs.toArray[i]! = zs[i] := by rw [getElem!_pos _ _ (by simpa using hi')]; simp
        rw [this]
        simp only [World.cell?, r1]
        simpa using hu
      · simp [World.frozen?, r1]
    have hbig : zs.length < 4611686018427387904 := by omega
    have hcall := hc b q c zs w hH k3 hbig
    refine hcall.mono fun e' w' ⟨he, m, os, hw⟩ => ?_
    have hlen : (zs.mergeSort fun x y => decide (x ≤ y)).length = zs.length := List.length_mergeSort _
    obtain ⟨h1, h2⟩ := row_turn (enc := Value.int .i64) (encA := AV.int .i64) (fun x w stb ob => .int _ _) (fun x => rfl) hs.heap hs.stbLt hb hj (d := zs.mergeSort fun x y => decide (x ≤ y))
      (hqo.imp (fun e => by rw [e]; simp) id) (by rw [hlen]; exact hle) hw
    refine ⟨_, _, _, g, ⟨fun _ => 0, fun _ => .nilFunc, fun _ => [], fun _ => 0⟩, he, hQ, h2, h1, fun c hc => ⟨Nat.lt_of_lt_of_le (hs.stbLt c hc).1 h2.size, (hs.stbLt c hc).2⟩, ?_⟩
    unfold ResOk
    rw [hown]
    exact hres
  · obtain ⟨v, rfl, hv⟩ := hone ha
    cases hv
    refine (hnil none 0 w).mono fun e' w' ⟨he, hw⟩ => ?_
    subst hw
    refine ⟨_, _, _, g, ⟨fun _ => 0, fun _ => .nilFunc, fun _ => [], fun _ => 0⟩, he, hQ, ⟨rfl, rfl, rfl, Nat.le_refl _, fun _ _ _ => rfl, fun _ h => h, fun _ h => .inl h, fun _ _ h => h, fun _ h => .inl h⟩, hs.heap.mono (fun _ _ => rfl) (fun _ _ => rfl) (fun _ h => h) rfl rfl (Nat.le_refl _), hs.stbLt, ?_⟩
    unfold ResOk
    rw [hown]
    exact hres
end
end Go.Proofs.Ytbkkhhmjmbbfpaa.Ab
