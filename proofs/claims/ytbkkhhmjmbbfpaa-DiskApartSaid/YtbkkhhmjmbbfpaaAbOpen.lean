/- A law's arguments, opened; its row, closed. -/
import Derived.Test.YtbkkhhmjmbbfpaaAbAwp
import Derived.Deep.Slices
import Derived.OpenShut
import Derived.Carry
import Derived.SizedLaws
namespace Go.Proofs.Ytbkkhhmjmbbfpaa.Ab
open Go Go.ChangeShapes Go.WideShapes

/-- Can values of a type be opened: numbers, bools, strings, slices, structs, arrays of such? -/
def tiled (T : List TI) (total : Nat) : Nat → List (Nat × Nat) → Bool
  | off, [] => Nat.beq off total
  | off, p :: r => Nat.beq p.1 off && tiled T total (off + (ti T p.2).size) r
def arrFields (T : List TI) (n e : Nat) : List (Nat × Nat) := (List.range n).map fun i => (i * (ti T e).size, e)
def openT (T : List TI) : Nat → Nat → Bool
  | 0, _ => false
  | d + 1, t => match (ti T t).k with
    | .int _ => true
    | .bool => true
    | .str => true
    | .slice e => Nat.blt 0 (ti T e).size && openT T d e
    | .struct fs => tiled T (ti T t).size 0 fs && fs.all fun p => openT T d p.2
    | .array n e => tiled T (ti T t).size 0 (arrFields T n e) && openT T d e
    | _ => false
/-- The cells of a value of a type, within its bounds. -/
def WTs (W : Nat → List AV → Prop) : List Nat → List AV → Prop
  | [], cs => cs = []
  | t :: ts, cs => ∃ a b, cs = a ++ b ∧ W t a ∧ WTs W ts b
def WT (T : List TI) : Nat → Nat → List AV → Prop
  | 0, _, _ => False
  | d + 1, t, cs => match (ti T t).k with
    | .int k => ∃ n, cs = [.int k n] ∧ k.min ≤ n ∧ n ≤ k.max
    | .bool => ∃ b, cs = [.bool b]
    | .str => ∃ s : ByteArray, cs = [.str s] ∧ s.size ≤ 140737488351232
    | .slice e => ∃ xs : List (List AV), cs = [.sl 0 (ti T e).size xs] ∧ xs.length ≤ maxLen ∧ xs.length * (ti T e).bytes ≤ 140737488351232 ∧ ∀ x ∈ xs, x.length = (ti T e).size ∧ WT T d e x
    | .struct fs => WTs (fun u cs => WT T d u cs) (fs.map (·.2)) cs
    | .array n e => WTs (fun u cs => WT T d u cs) (List.replicate n e) cs
    | _ => False
/-- An argument of a type. -/
def ArgOk (T : List TI) (d t : Nat) (v : AV) : Prop :=
  cond (isAggT T t) (∃ cs, v = .agg cs ∧ WT T d t cs) (WT T d t [v])

section
variable {P : Program} {T : List TI} {H : Type} {enc : TypeId × Value → H} {w : World} {spare : Nat → Bool} {held : Bool} {stb : Nat → Prop} {ob : Nat → Option Nat}

def RepL (w : World) (stb : Nat → Prop) (ob : Nat → Option Nat) (a : List AV) (b : List Value) : Prop := ∀ (i : Nat) (c : AV) (v : Value), a[i]? = some c → b[i]? = some v → Rep w stb ob c v ∧ v.oneCell' = true

theorem fields_open {W : Nat → List AV → Prop} {total : Nat} {cs : List Value} (hcs : cs.length = total) : ∀ (fl : List (Nat × Nat)) (off : Nat), tiled T total off fl = true →
    (∀ p ∈ fl, ∃ a, W p.2 a ∧ a.length = (ti T p.2).size ∧ ((cs.drop p.1).take (ti T p.2).size).length = (ti T p.2).size ∧ RepL w stb ob a ((cs.drop p.1).take (ti T p.2).size)) →
    ∃ acs, WTs W (fl.map (·.2)) acs ∧ acs.length + off = total ∧ RepL w stb ob acs (cs.drop off)
  | [], off, ht, _ => ⟨[], rfl, by simpa [tiled] using Nat.eq_of_beq_eq_true ht, fun i c v h => by simp at h⟩
  | p :: r, off, ht, hf => by
    simp only [tiled, Bool.and_eq_true] at ht
    have ho := Nat.eq_of_beq_eq_true ht.1
    obtain ⟨a, h1, h2, h3, h4⟩ := hf p (by simp)
    obtain ⟨acs, k1, k2, k3⟩ := fields_open hcs r _ ht.2 (fun q hq => hf q (by simp [hq]))
    refine ⟨a ++ acs, ⟨a, acs, rfl, h1, k1⟩, by simp; omega, fun i c v hc hv => ?_⟩
    rw [ho] at h4
    rw [List.getElem?_append] at hc
    by_cases hi : i < a.length
    · rw [if_pos hi] at hc
      refine h4 i c v hc ?_
      rw [List.getElem?_take, if_pos (by omega)]
      exact hv
    · rw [if_neg hi] at hc
      refine k3 (i - a.length) c v hc ?_
      rw [List.getElem?_drop] at hv ⊢
      rw [← hv, ← h2]
      congr 1
      omega

theorem weights_all {e : TypeId} {n : Nat} : ∀ {ds : List (DataW H)}, n ∈ DataW.weightsAll P e ds ↔ ∃ d ∈ ds, n ∈ d.weights P e
  | [] => by simp [DataW.weightsAll]
  | d :: r => by simp [DataW.weightsAll, weights_all (ds := r)]

theorem open_cells (hT : TabOk P T) (hstb : ∀ b, b < w.heap.size → stb b) : ∀ (d t fuel : Nat) (cs : List Value) (x : DataW H × List MemPlace), openT T d t = true → DataW.trod enc P w 0 spare held fuel t cs = some x →
    (∀ n ∈ x.1.weights P t, n ≤ reachBytes) → ∃ acs, WT T d t acs ∧ acs.length = cs.length ∧ cs.length = (ti T t).size ∧ RepL w stb ob acs cs
  | 0, _, _, _, _, h, _, _ => by simp [openT] at h
  | d + 1, t, fuel, cs, x, h, htr, hw => by
    have one : ∀ {c : AV} {v : Value}, Rep w stb ob c v → v.oneCell' = true → RepL w stb ob [c] [v] := by
      intro c v h1 h2 i c' v' hc hv
      cases i with
      | zero => simp at hc hv; subst hc; subst hv; exact ⟨h1, h2⟩
      | succ i => simp at hc
    have hsz1 : ∀ {t : Nat}, (ti T t).k ≠ .other → isAggT T t = false → (∀ ts, (ti T t).k ≠ .tuple ts) → (ti T t).size = 1 := by
      intro t h1 h2 h3
      obtain ⟨i, z, hi, hz, hl1, hl2, hagg, hc⟩ := hT.zero h1 h3
      rw [h2] at hagg
      have hz1 : z.cells = #[z] := by cases z <;> first | rfl | (simp [isAggV] at hagg; done)
      rw [hz1] at hl1
      simp only [List.length_cons, List.length_nil, Nat.zero_add] at hl1
      omega
    simp only [openT] at h
    simp only [WT]
    cases hk : (ti T t).k <;> rw [hk] at h <;> try (simp at h; done)
    case int k =>
      obtain ⟨n, rfl, hx, hwf⟩ := DataW.trod_int (hT.u_int hk) htr
      simp only [Lit.wf, Bool.and_eq_true, decide_eq_true_eq] at hwf
      exact ⟨[.int k n], ⟨n, rfl, hwf⟩, rfl, (hsz1 (by rw [hk]; simp) (by simp [isAggT, hk]) (by rw [hk]; simp)).symm, one (.int _ _) rfl⟩
    case bool =>
      obtain ⟨b, rfl, hx⟩ := DataW.trod_bool (hT.u_bool hk) htr
      exact ⟨[.bool b], ⟨b, rfl⟩, rfl, (hsz1 (by rw [hk]; simp) (by simp [isAggT, hk]) (by rw [hk]; simp)).symm, one (.bool _) rfl⟩
    case str =>
      obtain ⟨s, rfl, hx, hs⟩ := DataW.trod_string (hT.u_str hk) htr
      have := hw s.data.toList.length (by rw [hx]; simp [DataW.weights])
      refine ⟨[.str s], ⟨s, rfl, ?_⟩, rfl, (hsz1 (by rw [hk]; simp) (by simp [isAggT, hk]) (by rw [hk]; simp)).symm, one (.str _) rfl⟩
      rw [Array.length_toList] at this
      exact this
    case slice e =>
      simp only [Bool.and_eq_true] at h
      have hpos : 0 < (ti T e).size := by have := h.1; rwa [Nat.blt_eq] at this
      have hek : (ti T e).k ≠ .other := by
        intro he
        cases d with
        | zero => simp [openT] at h
        | succ d => simp [openT, he] at h
      have hce : P.cellsOf e = (ti T e).size := (hT.size hek).symm
      have hbe : P.bytesOf e = (ti T e).bytes := (hT.bytes hek).symm
      have hsl := hT.u_slice hk
      have hs1 := (hsz1 (t := t) (by rw [hk]; simp) (by simp [isAggT, hk]) (by rw [hk]; simp)).symm
      rcases Go.Deep.open_slice hsl htr with ⟨rfl, hx⟩ | ⟨a, len, cap, m, n, D, Pl, rfl, hb, hl, hm, hmm, rfl, hi⟩
      · exact ⟨[.sl 0 (ti T e).size []], ⟨[], rfl, by simp, by simp, by simp⟩, rfl, hs1, one (.sl0 _ _ _) rfl⟩
      · have hlm : len ≤ m := by rw [hmm]; split <;> omega
        have hwt : (len + (m - len)) * (ti T e).bytes ≤ reachBytes := by
          have := hw ((((List.range len).map D).length + ((List.range (m - len)).map fun j => D (len + j)).length) * P.bytesOf e) (by simp [DataW.weights, hsl])
          simpa [hbe] using this
        have key : ∀ i, i < len → ∃ acs cs', WT T d e acs ∧ acs.length = (ti T e).size ∧ cs'.length = (ti T e).size ∧ (∀ j, j < (ti T e).size → w.cell? ((a.add (i * (ti T e).size)).add j) = cs'[j]?) ∧ RepL w stb ob acs cs' := by
          intro i hil
          obtain ⟨cs', hc, ht'⟩ := hi i (by omega)
          obtain ⟨_, hcl, hat⟩ := World.cells?_some hc
          obtain ⟨acs, h1, h2, h3, h4⟩ := open_cells hT hstb d e n cs' _ h.2 ht' (fun q hq => hw q (by
            simp only [DataW.weights, hsl, List.mem_cons, List.mem_append]
            exact .inr (.inl (weights_all.2 ⟨D i, List.mem_map.2 ⟨i, List.mem_range.2 hil, rfl⟩, hq⟩))))
          rw [hce] at hcl hat
          exact ⟨acs, cs', h1, by omega, hcl, hat, h4⟩
        -- the address is plain as soon as there is a cell
        by_cases hl0 : len = 0
        · subst hl0
          exact ⟨[.sl 0 (ti T e).size []], ⟨[], rfl, by simp, by simp, by simp⟩, rfl, hs1, one (.sl0 _ _ _) rfl⟩
        · have hch : ∃ A : Nat → List AV, ∃ C : Nat → List Value, ∀ i, i < len → WT T d e (A i) ∧ (A i).length = (ti T e).size ∧ (C i).length = (ti T e).size ∧ (∀ j, j < (ti T e).size → w.cell? ((a.add (i * (ti T e).size)).add j) = (C i)[j]?) ∧ RepL w stb ob (A i) (C i) := by
            refine ⟨fun i => if hi : i < len then Classical.choose (key i hi) else [], fun i => if hi : i < len then Classical.choose (Classical.choose_spec (key i hi)) else [], fun i hi => ?_⟩
            simp only [hi, dif_pos]
            exact Classical.choose_spec (Classical.choose_spec (key i hi))
          obtain ⟨A, C, hAC⟩ := hch
          have hspot : a.spot = none ∧ a.block < w.heap.size := by
            obtain ⟨_, _, h3, h4, _⟩ := hAC 0 (by omega)
            have h5 := h4 0 hpos
            rw [List.getElem?_eq_getElem (by omega)] at h5
            unfold World.cell? at h5
            have hblk : ((a.add (0 * (ti T e).size)).add 0).block = a.block := by unfold Addr.add; split <;> split <;> simp_all
            have hspt : ((a.add (0 * (ti T e).size)).add 0).spot = a.spot := by unfold Addr.add; split <;> split <;> simp_all
            rw [hblk, hspt] at h5
            split at h5
            · rename_i hh
              refine ⟨?_, ?_⟩
              · split at h5
                · cases h5
                · rename_i hn; simpa using hn
              · rcases Nat.lt_or_ge a.block w.heap.size with h' | h'
                · exact h'
                · rw [Array.getElem?_eq_none h'] at hh; cases hh
            · cases h5
          obtain ⟨b, o, spt⟩ := a
          obtain ⟨hsp, hbl⟩ := hspot
          simp only at hsp hbl
          subst hsp
          have hadd : ∀ i j : Nat, ((⟨b, o, none⟩ : Addr).add i).add j = ⟨b, o + (i + j), none⟩ := by
            intro i j
            rw [add_plain, add_plain, Nat.add_assoc]
          have hlenA : ((List.range len).map A).length = len := by simp
          have hget : ∀ (i : Nat) (y : List AV), ((List.range len).map A)[i]? = some y → i < len ∧ y = A i := by
            intro i y hy
            simp only [List.getElem?_map, Option.map_eq_some_iff] at hy
            obtain ⟨q, hq, rfl⟩ := hy
            obtain ⟨hlt, rfl⟩ := List.getElem?_eq_some_iff.1 hq
            simp at hlt
            exact ⟨hlt, by simp⟩
          refine ⟨[.sl 0 (ti T e).size ((List.range len).map A)], ⟨_, rfl, by rw [hlenA]; omega, ?_, ?_⟩, rfl, hs1, one ?_ rfl⟩
          · rw [hlenA]
            have : len * (ti T e).bytes ≤ (len + (m - len)) * (ti T e).bytes := Nat.mul_le_mul_right _ (by omega)
            exact Nat.le_trans this hwt
          · intro y hy
            obtain ⟨i, hi, rfl⟩ := List.mem_map.1 hy
            have hi := List.mem_range.1 hi
            exact ⟨(hAC i hi).2.1, (hAC i hi).1⟩
          · have := Rep.sl (w := w) (stb := stb) (ob := ob) b o cap (ti T e).size ((List.range len).map A) (fun i j => ((C i)[j]?).getD undef) (hstb b hbl) (by rw [hlenA]; exact hl) (by rw [hlenA]; omega)
              (fun y hy => by
                obtain ⟨i, hi, rfl⟩ := List.mem_map.1 hy
                exact (hAC i (List.mem_range.1 hi)).2.1)
              (fun i j hi hj => by
                rw [hlenA] at hi
                have h5 := (hAC i hi).2.2.2.1 j hj
                rw [hadd] at h5
                rw [h5, List.getElem?_eq_getElem (by rw [(hAC i hi).2.2.1]; exact hj)]
                rfl)
              (fun i j hi hj => by
                rw [hlenA] at hi
                obtain ⟨h1, h2, h3, h4, h5⟩ := hAC i hi
                have e1 : (A i)[j]? = some ((A i)[j]'(by omega)) := List.getElem?_eq_getElem (by omega)
                have e2 : (C i)[j]? = some ((C i)[j]'(by omega)) := List.getElem?_eq_getElem (by omega)
                simp only [e2, Option.getD_some]
                exact (h5 j _ _ e1 e2).2)
              (fun i y j c hy hc => by
                obtain ⟨hi, rfl⟩ := hget i y hy
                obtain ⟨h1, h2, h3, h4, h5⟩ := hAC i hi
                have hj : j < (A i).length := (List.getElem?_eq_some_iff.1 hc).1
                have e2 : (C i)[j]? = some ((C i)[j]'(by omega)) := List.getElem?_eq_getElem (by omega)
                simp only [e2, Option.getD_some]
                exact (h5 j _ _ hc e2).1)
            rwa [hlenA] at this
    case struct fs =>
      simp only [Bool.and_eq_true, List.all_eq_true] at h
      obtain ⟨fa, hu, rfl⟩ := hT.u_struct hk
      have hts : (ti T t).size = P.cellsOf t := hT.size (by rw [hk]; simp)
      obtain ⟨xs, n, _, rfl, hcl, hxl, hf⟩ := DataW.trod_struct hu htr
      rw [← hts] at hcl
      have hwe : ∀ (tl : List Field) (yl : List (DataW H × List MemPlace)) (i : Nat) (f : Field) (y : DataW H × List MemPlace) (q : Nat), tl[i]? = some f → yl[i]? = some y → q ∈ y.1.weights P f.type → q ∈ DataW.weightsEach P (tl.map (·.type)) (yl.map (·.1)) := by
        intro tl
        induction tl with
        | nil => intro yl i f y q h1; simp at h1
        | cons f0 tl ih =>
          intro yl i f y q h1 h2 hq
          cases yl with
          | nil => simp at h2
          | cons y0 yl =>
            simp only [List.map_cons, DataW.weightsEach, List.mem_append]
            cases i with
            | zero => simp at h1 h2; subst h1; subst h2; exact .inl hq
            | succ i => simp at h1 h2; exact .inr (ih yl i f y q h1 h2 hq)
      obtain ⟨acs, k1, k2, k3⟩ := fields_open (stb := stb) (ob := ob) (w := w) (W := fun u cs => WT T d u cs) hcl _ 0 h.1 (fun p hp => by
        obtain ⟨f, hfm, rfl⟩ := List.mem_map.1 hp
        obtain ⟨i, hfi⟩ := List.mem_iff_getElem?.1 hfm
        have hfi' : fa[i]? = some f := by simpa using hfi
        have hop := h.2 (f.offset, f.type) (List.mem_map.2 ⟨f, hfm, rfl⟩)
        simp only at hop
        have hfk : (ti T f.type).k ≠ .other := by
          intro he
          cases d with
          | zero => simp [openT] at hop
          | succ d => simp [openT, he] at hop
        have hcf : P.cellsOf f.type = (ti T f.type).size := (hT.size hfk).symm
        have htf := hf i f hfi'
        have hil : i < xs.length := by rw [hxl]; exact (Array.getElem?_eq_some_iff.1 hfi').1
        rw [List.getElem?_eq_getElem hil, hcf] at htf
        obtain ⟨a, h1, h2, h3, h4⟩ := open_cells hT hstb d f.type n _ _ hop htf (fun q hq => hw q (by
          simp only [DataW.weights, hu]
          exact hwe fa.toList xs i f _ q hfi (List.getElem?_eq_getElem hil) hq))
        exact ⟨a, h1, h2.trans h3, h3, h4⟩)
      exact ⟨acs, k1, by omega, hcl, by simpa using k3⟩
    case array n e =>
      simp only [Bool.and_eq_true] at h
      have hu := hT.u_array hk
      have hts : (ti T t).size = P.cellsOf t := hT.size (by rw [hk]; simp)
      obtain ⟨xs, m, _, rfl, hcl, hxl, hf⟩ := DataW.trod_array hu htr
      rw [← hts] at hcl
      have hek : (ti T e).k ≠ .other := by
        intro he
        cases d with
        | zero => simp [openT] at h
        | succ d => simp [openT, he] at h
      have hce : P.cellsOf e = (ti T e).size := (hT.size hek).symm
      obtain ⟨acs, k1, k2, k3⟩ := fields_open (stb := stb) (ob := ob) (w := w) (W := fun u cs => WT T d u cs) hcl _ 0 h.1 (fun p hp => by
        unfold arrFields at hp
        obtain ⟨i, hi, rfl⟩ := List.mem_map.1 hp
        have hi := List.mem_range.1 hi
        have htf := hf i hi
        have hil : i < xs.length := by omega
        rw [List.getElem?_eq_getElem hil, hce] at htf
        obtain ⟨a, h1, h2, h3, h4⟩ := open_cells hT hstb d e m _ _ h.2 htf (fun q hq => hw q (by
          simp only [DataW.weights, hu]
          exact weights_all.2 ⟨_, List.mem_map.2 ⟨_, List.getElem_mem hil, rfl⟩, hq⟩))
        exact ⟨a, h1, h2.trans h3, h3, h4⟩)
      have e1 : (arrFields T n e).map (·.2) = List.replicate n e := by
        unfold arrFields
        rw [List.map_map]
        exact List.eq_replicate_iff.2 ⟨by simp, fun b hb => by obtain ⟨i, _, rfl⟩ := List.mem_map.1 hb; rfl⟩
      rw [e1] at k1
      exact ⟨acs, k1, by omega, hcl, by simpa using k3⟩
end
end Go.Proofs.Ytbkkhhmjmbbfpaa.Ab
