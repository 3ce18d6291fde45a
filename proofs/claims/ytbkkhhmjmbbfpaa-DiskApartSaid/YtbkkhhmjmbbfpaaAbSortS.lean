/- The sort of strings, told as a leaf. -/
import Derived.Test.YtbkkhhmjmbbfpaaAbSort
import Derived.Sort.EncStr
namespace Go.Proofs.Ytbkkhhmjmbbfpaa.Ab
open Go

section
def strsL (l : List (List UInt8)) : List (List AV) := l.map fun z => [.str ⟨z.toArray⟩]
/-- slices.Sort at []string. -/
def sortLeafS (F : Nat) : Oracle := fun f args H Q => f = F ∧
  ((∃ (j o n c : Nat) (xs : List (List AV)) (zs : List (List UInt8)), args = [.hs j o n c 1] ∧ H.get j = .rows 1 xs ∧ zs.length = n ∧ n ≤ 140737488355328 ∧ o + n ≤ xs.length ∧ (xs.drop o).take n = strsL zs ∧
      Q (.tup []) (H.set j (.rows 1 (splice xs o (strsL (zs.mergeSort fun x y => decide (x ≤ y))))))) ∨ (args = [.nilsl] ∧ Q (.tup []) H))
theorem sortLeafS_feas (F : Nat) : Feas (sortLeafS F) := by
  rintro f args H Q ⟨_, ⟨_, _, _, _, _, _, _, _, _, _, _, _, h⟩ | ⟨_, h⟩⟩
  · exact ⟨_, _, h⟩
  · exact ⟨_, _, h⟩
theorem sortLeafS_sound {P : Program} {E : Env} {F : Nat} (hen : Enters P F) (hown : E.own F = false)
    (hc : ∀ (blk off cap : Nat) (zs : List (List UInt8)) (w : World), Go.Sort.Holds Go.Proofs.encStr w blk off zs.toArray → blk < w.heap.size → zs.length < 4611686018427387904 →
      Calls P F #[.slice (some ⟨blk, off, none⟩) zs.length cap] w fun e w' => e = .returned (.tuple #[]) ∧ ∃ n os, w' = Go.Sort.grow (Go.Sort.putRow Go.Proofs.encStr (Go.Sort.ahead w n) blk off (zs.mergeSort fun x y => decide (x ≤ y)).toArray) os)
    (hnil : ∀ (p : Option Addr) (cap : Nat) (w : World), Calls P F #[.slice p 0 cap] w fun e w' => e = .returned (.tuple #[]) ∧ w' = w) : OSound P E (sortLeafS F) := by
  rintro f args H Q ⟨rfl, h⟩
  refine ⟨hen, fun w g vs hs => ?_⟩
  have hres : ∀ {w' : World}, Rep w' g.stb g.ob (.tup []) (.tuple #[]) := fun {w'} => .tup [] [] rfl (by simp)
  have hone : ∀ {a : AV}, args = [a] → ∃ v, vs = [v] ∧ Rep w g.stb g.ob a v := by
    rintro a rfl
    have hl := hs.len
    match vs, hl with
    | [v], _ => exact ⟨v, rfl, hs.rep 0 _ _ rfl rfl⟩
  rcases h with ⟨j, o, n, c, xs, zs, ha, hj, hn, hnm, hle, hz, hQ⟩ | ⟨ha, hQ⟩
  · obtain ⟨v, rfl, hv⟩ := hone ha
    cases hv with
    | hs j b o n c k q hb hnc hcm hq =>
    subst hn
    have hlive := hs.heap.live j (by rw [hj]; exact nofun)
    obtain ⟨b', k1, k2, k3, k4⟩ := hlive
    rw [hb] at k1
    cases k1
    rw [hj] at k4
    obtain ⟨ws, e, r1, r2, r3, r4, r5, r6, r7⟩ := k4
    have hxs : ∀ i (hi : i < zs.length), xs[o + i]? = some [.str ⟨zs[i].toArray⟩] := by
      intro i hi
      have : ((xs.drop o).take zs.length)[i]? = some [.str ⟨zs[i].toArray⟩] := by rw [hz]; simp [strsL, hi]
      rwa [List.getElem?_take, if_pos hi, List.getElem?_drop] at this
    have hqo : zs = [] ∨ q = o := by
      rcases hq with hq | hq
      · left; exact List.length_eq_zero_iff.1 (by omega)
      · right; omega
    have hH : Go.Sort.Holds Go.Proofs.encStr w b q zs.toArray := by
      intro i hi
      have hi' : i < zs.length := by simpa using hi
      have hqo : q = o := by
        rcases hqo with rfl | h
        · simp at hi'
        · exact h
      subst hqo
      obtain ⟨u, hu, hr⟩ := r7 _ _ 0 _ (hxs i hi') rfl
      simp only [Nat.mul_one, Nat.add_zero] at hu
      have : u = Go.Proofs.encStr zs[i] := by cases hr; rfl
      subst this
      refine ⟨?_, ?_⟩
      · have : zs.toArray[i]! = zs[i] := by rw [getElem!_pos _ _ (by simpa using hi')]; simp
        rw [this]
        simp only [World.cell?, r1]
        simpa using hu
      · simp [World.frozen?, r1]
    have hbig : zs.length < 4611686018427387904 := by omega
    have hcall := hc b q c zs w hH k3 hbig
    refine hcall.mono fun e' w' ⟨he, m, os, hw⟩ => ?_
    have hlen : (zs.mergeSort fun x y => decide (x ≤ y)).length = zs.length := List.length_mergeSort _
    obtain ⟨h1, h2⟩ := row_turn (enc := Go.Proofs.encStr) (encA := fun z => AV.str ⟨z.toArray⟩) (fun x w stb ob => .str _) (fun x => rfl) hs.heap hs.stbLt hb hj (d := zs.mergeSort fun x y => decide (x ≤ y))
      (hqo.imp (fun e => by rw [e]; simp) id) (by rw [hlen]; exact hle) hw
    refine ⟨_, _, _, g, ⟨fun _ => 0, fun _ => .nilFunc, fun _ => [], fun _ => 0⟩, he, hQ, h2, h1, fun c hc => ⟨Nat.lt_of_lt_of_le (hs.stbLt c hc).1 h2.size, (hs.stbLt c hc).2⟩, ?_⟩
    unfold ResOk
    rw [hown]
    exact hres
  · obtain ⟨v, rfl, hv⟩ := hone ha
    cases hv
    refine (hnil none 0 w).mono fun e' w' ⟨he, hw⟩ => ?_
    subst hw
    refine ⟨_, _, _, g, ⟨fun _ => 0, fun _ => .nilFunc, fun _ => [], fun _ => 0⟩, he, hQ, ⟨rfl, rfl, rfl, Nat.le_refl _, fun _ _ _ => rfl, fun _ h => h, fun _ h => .inl h, fun _ _ h => h, fun _ h => .inl h⟩, hs.heap.mono (fun _ _ => rfl) (fun _ _ => rfl) (fun _ h => h) rfl rfl (Nat.le_refl _), hs.stbLt, ?_⟩
    unfold ResOk
    rw [hown]
    exact hres
end
end Go.Proofs.Ytbkkhhmjmbbfpaa.Ab
