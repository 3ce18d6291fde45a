/- Slices cut, strings turned into bytes and back, strings ranged over, slices against nil. -/
import Derived.Test.YtbkkhhmjmbbfpaaAbOps9
import Derived.Laws.IdiomStrings
import Derived.Laws.BytesString
import Derived.Lib.OthersKept
namespace Go.Proofs.Ytbkkhhmjmbbfpaa.Ab
open Go

section
variable {P : Program} {T : List TI} {w0 : World} {g0 g : Gs} {l : Gl} {w : World} {st : St} {a : Act} {o : Oper} {next : Act → World → Prop} {Q : Exit → Act → World → Prop}

theorem slice_stable_sound (hT : TabOk P T) (hI : Inv w0 g0 g l w st a) {t : Nat} {x : Operand} {lo hi mx : Option Operand} {K : St → Prop} (ho : o.op = .slice t x lo hi mx)
    (h : light T o.op (ρ st.tm) st.mem st.H fun v => K (st.put o.dst v)) (hn : Goes w0 g0 K next) : o.wp P a w next Q := by
  rw [ho] at h
  obtain ⟨av, v, hK, hrun, hrep⟩ := slice_sound (P := P) hT (fun y k i hy => by have := (hI.operand (a := a) y).1; rw [hy] at this; exact int_of_rep this) (hI.operand x).1 h
  refine wp_value (w' := w) (v := v) ?_ (hn _ _ _ _ _ (hI.put (TRep.of_rep hrep) (by rw [hrep.tags]; simp) _) hK)
  unfold execOp
  rw [ho]
  exact exec_v hrun

theorem slice_own_sound (hT : TabOk P T) (hI : Inv w0 g0 g l w st a) {t : Nat} {x : Operand} {lo hi mx : Option Operand} {K : St → Prop} (ho : o.op = .slice t x lo hi mx)
    (h : light T o.op (fun y => mapT lendF (ρ st.tm y)) st.mem st.H fun v => K ((st.frzAll (tagsOf (ρ st.tm x))).put o.dst v)) (hn : Goes w0 g0 K next) : o.wp P a w next Q := by
  rw [ho] at h
  obtain ⟨hx, hxt⟩ := hI.operand (a := a) x
  obtain ⟨g', hI', s1, n1, o1, f1, b1, c1⟩ := hI.frzAll (tagsOf (ρ st.tm x)) (fun t ht => tags_pos hI t (hxt t ht))
  have hxr : Rep w g'.stb g'.ob (frzV (ρ st.tm x)) (a.eval x) := by
    rw [o1]
    exact lend_rep (base := w0.heap.size) s1 (S := tagsOf (ρ st.tm x)) (fun t ht => ⟨hI.own t (hxt t ht), b1 t ht (hxt t ht)⟩) _ _ (fun t ht => ht) hx
  obtain ⟨av, v, hK, hrun, hrep⟩ := slice_sound (P := P) (g := g') (l := l) (n := st.mem.length) hT (fun y k i hy => by
    have h1 := (hI.operand (a := a) y).1
    cases hv : ρ st.tm y <;> simp only [hv, mapT, lendF] at hy <;> try (cases hy; done)
    · cases hy
      rw [hv] at h1
      exact int_of_rep h1) (TRep.of_rep hxr) h
  refine wp_value (w' := w) (v := v) ?_ (hn _ _ _ _ _ (hI'.put (TRep.of_rep hrep) (by rw [hrep.tags]; simp) _) hK)
  unfold execOp
  rw [ho]
  exact exec_v hrun

/-- A block that is stable from the start. -/
theorem Inv.newStable (hI : Inv w0 g0 g l w st a) {w' : World} (hos : w'.os = w.os) (htape : w'.tape = w.tape) (hout : w'.output = w.output) (hsize : w'.heap.size = w.heap.size + 1) (hkeep : ∀ b, b < w.heap.size → w'.heap[b]? = w.heap[b]?) :
    Inv w0 g0 { g with stb := fun b => g.stb b ∨ b = w.heap.size } l w' st a :=
  hI.step0 (g' := { g with stb := fun b => g.stb b ∨ b = w.heap.size }) hos htape hout (by omega) (fun b hb _ => hkeep b hb) (fun _ h => Or.inl h) (fun b hb => hb.imp id fun h => by omega) rfl rfl

/-- Rows in a new block that is stable from the start. -/
theorem Inv.newRows (hI : Inv w0 g0 g l w st a) {e k n : Nat} {cs : Array Value} {xs : List (List AV)} (hn : n ≤ maxLen) (hx : xs.length = n) (hR : Rows w g.stb g.ob k xs cs.toList) (d : Option Nat) :
    Inv w0 g0 { g with stb := fun b => g.stb b ∨ b = w.heap.size } l (w.alloc (.cells cs e)) (st.put d (.sl 0 k xs)) (a.put d (.slice (some ⟨w.heap.size, 0, none⟩) n n)) := by
  have h' := hI.newStable (w' := w.alloc (.cells cs e)) rfl rfl rfl (by simp) (fun b hb => heap_alloc_old w _ b hb)
  refine h'.put ?_ (by simp [tagsOf, Nat.beq]) d
  simp only [TRep]
  subst hx
  have hlen := hR.len
  have at' : ∀ i j, i < xs.length → j < k → i * k + j < cs.toList.length := fun i j hi hj => by
    have := row_le (k := k) hi
    rw [hlen]
    omega
  refine Rep.sl w.heap.size 0 xs.length k xs (fun i j => cs.toList.getD (i * k + j) .nilFunc) (.inr rfl) (Nat.le_refl _) hn hR.row (fun i j hi hj => ?_) (fun i j hi hj => ?_) (fun i x j c hi hj => ?_)
  · have hl := at' i j hi hj
    rw [cell_of_row _ w.heap.size _ cs e _ (heap_alloc_new w _)]
    simp only [Nat.zero_add]
    rw [List.getD_eq_getElem?_getD, List.getElem?_eq_getElem hl]
    simp
  · have hl := at' i j hi hj
    rw [List.getD_eq_getElem?_getD, List.getElem?_eq_getElem hl]
    exact hR.one _ (List.getElem_mem hl)
  · obtain ⟨v, hv, hr⟩ := hR.rep i x j c hi hj
    rw [List.getD_eq_getElem?_getD, hv]
    exact hr.mono (fun b hb => heap_alloc_old w _ b (hI.stbLt b hb).1) (fun _ h => .inl h) (fun _ _ h => h)
theorem buildStable_sound (hT : TabOk P T) (hI : Inv w0 g0 g l w st a) {t n : Nat} {ps : Array (Nat × Operand)} {K : St → Prop} (ho : o.op = .buildSlice t n ps) (hts : (tagsOfs (ps.toList.map fun p => ρ st.tm p.2)).isEmpty = true)
    (h : buildL T t n ps (ρ st.tm) fun v => K (st.put o.dst v)) (hn : Goes w0 g0 K next) : o.wp P a w next Q := by
  unfold buildL at h
  cases hk : (ti T t).k <;> rw [hk] at h <;> try exact h.elim
  rename_i e
  simp only at h
  cases h0 : madeT T e <;> rw [h0] at h <;> simp only [G, cond_false, cond_true] at h
  cases h1 : Nat.ble (n * (ti T e).size) 16777216 <;> rw [h1] at h <;> simp only [cond_false, cond_true] at h
  have e1 := Nat.le_of_ble_eq_true h1
  obtain ⟨q1, q2, q3, q4⟩ := madeT_out h0
  have hnle : n ≤ n * (ti T e).size := Nat.le_mul_of_pos_right _ q3
  obtain ⟨i, z, hi, hz, hsz, hby, hzl, _⟩ := zeros_rep (P := P) hT q1 q2
  have hts := List.isEmpty_iff.1 hts
  obtain ⟨g', hI', s1, n1, o1, f1, b1, c1⟩ := hI.frzAll [] (fun t ht => nomatch ht)
  have hI' : Inv w0 g0 g' l w st a := hI'
  obtain ⟨xs', us', hK, hfill, hR, hlen⟩ := rows_out (w := w) (stb := g'.stb) (ob := g'.ob) (vs := (ps.map fun (i, x) => (i, a.eval x)).toList) (by simp) (fun j p v hp hv => by
    simp only [List.getElem?_map, Array.toList_map] at hp hv
    cases hq : ps.toList[j]? with
    | none => rw [hq] at hp; simp at hp
    | some q =>
      rw [hq] at hp hv
      simp only [Option.map_some, Option.some.injEq] at hp hv
      subst hp hv
      refine ⟨rfl, ?_⟩
      obtain ⟨hx, hxt⟩ := hI.operand (a := a) q.2
      rw [o1]
      refine lend_rep (base := w0.heap.size) s1 (S := tagsOf (ρ st.tm q.2)) (fun t ht => ?_) _ _ (fun t ht => ht) hx
      have : t ∈ tagsOfs (ps.toList.map fun p => ρ st.tm p.2) := tagsOfs_get (i := j) (c := ρ st.tm q.2) (by simp [hq]) t ht
      rw [hts] at this
      cases this) (zero_rows hT h0 n hi hz g' w) h
  have hrun : (execOp a.eval o).run P w = .ok (.value (.slice (some ⟨w.heap.size, 0, none⟩) n n)) (w.alloc (.cells us'.toArray e)) := by
    unfold execOp
    rw [ho]
    refine exec_v ?_
    have hu := hT.u_slice hk
    have hse := hT.size_pos (P := P) (t := e) q3 w
    have hfill' : Instr.fill (fun i => some (i * (ti T e).size, (ti T e).size)) (madeCells z.cells (n * (ti T e).size)) (ps.map fun (i, x) => (i, a.eval x)).toList = some us'.toArray := by
      rw [← hfill, Array.toArray_toList]
    have hzv : (zeroValue e).run P w = .ok z w := by simp [zeroValue, typeInfo, hi, hz]
    simp only [Instr.buildSlice, Sem.run_bind, run_underlying hu, Result.andThen_ok, hse]
    rw [if_neg (by omega)]
    simp only [Array.toList_map] at hfill'
    by_cases hz0 : n * (ti T e).size = 0
    · have hr0 : Array.range 0 = #[] := rfl
      rw [hz0] at hfill' ⊢
      simp only [madeCells, hr0, List.map_toArray, List.map_nil] at hfill'
      simp [hr0, hfill', newRow]
    · unfold madeCells at hfill'
      simp [hz0, hzv, hfill', newRow]
  exact wp_value hrun (hn _ _ _ _ _ (hI'.newRows (by simp only [maxLen]; omega) (by rw [hlen]; simp) hR _) hK)

theorem toBytes_sound (hT : TabOk P T) (hI : Inv w0 g0 g l w st a) {src dst e : Nat} {x : Operand} {s : ByteArray} {K : St → Prop} (ho : o.op = .convert src dst x) (h1 : (ti T src).k = .str) (h2 : (ti T dst).k = .slice e) (h3 : (ti T e).k = .int .u8)
    (hx : ρ st.tm x = .str s) (h : G (Nat.ble s.size 9223372036854775807) (K (st.put o.dst (.sl 0 1 (bytesAV s))))) (hn : Goes w0 g0 K next) : o.wp P a w next Q := by
  obtain ⟨hg, h⟩ := G_out h
  have hg : (s.size : Int) ≤ 9223372036854775807 := by have := Nat.le_of_ble_eq_true hg; omega
  have hev := (hI.operand (a := a) x).1
  rw [hx] at hev
  simp only [TRep] at hev
  have hrun := run_bytes_of_string (P := P) w src dst e s (hT.u_str h1) (hT.u_slice h2) (hT.u_int h3)
  generalize hcap : grownCap w s.size 0 e = cap at hrun
  have hcapge : s.size ≤ cap := by rw [← hcap]; exact grownCap_ge w s.size 0 e
  generalize hw' : (w.drew.alloc (.cells (bytesRow s cap) e ((bytesRow s cap).size, (bytesRow s cap).size + 1))) = w' at hrun
  have hkeep : ∀ b, b < w.heap.size → w'.heap[b]? = w.heap[b]? := by
    intro b hb
    rw [← hw']
    exact heap_alloc_old w.drew _ b hb
  have hsize : w'.heap.size = w.heap.size + 1 := by rw [← hw']; simp
  have hI' := hI.newStable (w' := w') (by rw [← hw']; rfl) (by rw [← hw']; rfl) (by rw [← hw']; rfl) hsize hkeep
  have hsz : s.data.toList.length = s.size := by simp
  refine wp_value (w' := w') (v := .slice (some ⟨w.heap.size, 0, none⟩) s.size cap) ?_ (hn _ _ _ _ _ (hI'.put ?_ (by simp [tagsOf, Nat.beq]) _) h)
  · unfold execOp
    rw [ho]
    refine exec_v ?_
    rw [hev]
    exact hrun
  · simp only [TRep]
    have hlen : (bytesAV s).length = s.size := by simp [bytesAV]
    have hr := Rep.sl (w := w') (stb := fun b => g.stb b ∨ b = w.heap.size) (ob := g.ob) w.heap.size 0 cap 1 (bytesAV s) (fun i _ => .int .u8 ((s.data.toList.getD i 0).toNat : Int)) (.inr rfl) (by rw [hlen]; exact hcapge) (by rw [hlen]; simp only [maxLen]; omega)
      (by simp [bytesAV]) (fun i j hi hj => ?_) (fun _ _ _ _ => rfl) (fun i x j c hi hj => ?_)
    · rw [hlen] at hr
      exact hr
    · obtain rfl : j = 0 := by omega
      rw [hlen] at hi
      rw [← hw', cell_of_row _ w.heap.size _ (bytesRow s cap) e _ (heap_alloc_new w.drew _)]
      simp only [bytesRow, Nat.zero_add, Nat.mul_one, Nat.add_zero]
      rw [Array.getElem?_append_left (by simpa using hi)]
      have hi' : i < s.data.size := by simpa using hi
      simp only [Array.getElem?_map, Array.getElem?_eq_getElem hi', Option.map_some, List.getD_eq_getElem?_getD, Array.getElem?_toList, Option.getD_some]
    · simp only [bytesAV, List.getElem?_map, Option.map_eq_some_iff] at hi
      obtain ⟨b, hb, rfl⟩ := hi
      cases j with
      | succ j => simp at hj
      | zero =>
        simp at hj
        subst hj
        rw [List.getD_eq_getElem?_getD, hb]
        exact .int _ _

theorem rep_rows {stb : Nat → Prop} {ob : Nat → Option Nat} {k : Nat} {xs : List (List AV)} {v : Value} (h : Rep w stb ob (.sl 0 k xs) v) : ∀ x ∈ xs, x.length = k := by
  cases h with
  | sl0 A c k => simp
  | sl b o c k xs vs hb hn hm hkk => exact hkk
theorem push_all : ∀ (l : List UInt8) (r : ByteArray), (l.map fun b => (b.toNat : Int)).foldl (fun r n => r.push (UInt8.ofNat n.toNat)) r = ⟨r.data ++ l.toArray⟩
  | [], r => by simp
  | b :: l, r => by
    simp only [List.map_cons, List.foldl_cons]
    rw [push_all l]
    simp [ByteArray.push]
theorem bytes_str (b : ByteArray) : (b.data.toList.map fun b => (b.toNat : Int)).foldl (fun r n => r.push (UInt8.ofNat n.toNat)) ByteArray.empty = b := by
  rw [push_all]
  show (⟨#[] ++ b.data.toList.toArray⟩ : ByteArray) = b
  rw [Array.toArray_toList, Array.empty_append]

theorem fromBytes_run (hT : TabOk P T) {src dst e : Nat} (h1 : (ti T src).k = .slice e) (h2 : (ti T dst).k = .str) (h3 : (ti T e).k = .int .u8) {k : Nat} {v : Value} {b : ByteArray} (hs : Src g w k (bytesAV b) v) (hk : b.data.toList ≠ [] → k = 1) :
    (convert src dst v).run P w = .ok (.string b) w := by
  obtain ⟨A, c, news, rfl, hA, hcells, hR⟩ := hs.out
  rw [run_convert_bytes_string w src dst e A _ c (hT.u_slice h1) (hT.u_int h3) (hT.u_str h2)]
  have hlen : (bytesAV b).length = b.data.toList.length := by simp [bytesAV]
  by_cases he : b.data.toList = []
  · have hb : b = ByteArray.empty := by
      have := bytes_str b
      rw [he] at this
      exact this.symm
    have hl0 : (bytesAV b).length = 0 := by rw [hlen, he]; rfl
    rw [hl0]
    cases A with
    | none => simp [Conv.bytesToString, hb]
    | some ad =>
      rw [run_bytesToString w ad 0 c [] (by simp [loadCells, loadCellsFrom])]
      rw [hb]
      rfl
  · have hk := hk he
    subst hk
    have hn : news = (b.data.toList.map fun b => (b.toNat : Int)).map (Value.int .u8) := by
      apply List.ext_getElem
      · rw [hR.len, hlen]; simp
      · intro i q1 q2
        have hil : i < b.data.toList.length := by simpa using q2
        obtain ⟨v, hv, hr⟩ := hR.rep i [.int .u8 ((b.data.toList[i]).toNat : Int)] 0 (.int .u8 ((b.data.toList[i]).toNat : Int)) (by simp only [bytesAV, List.getElem?_map, List.getElem?_eq_getElem hil, Option.map_some]) rfl
        rw [Nat.mul_one, Nat.add_zero, List.getElem?_eq_getElem q1] at hv
        have hv := Option.some.inj hv
        rw [hv]
        cases hr
        simp
    cases A with
    | none => have := hA rfl; rw [hlen] at this; exact absurd (List.eq_nil_of_length_eq_zero this) he
    | some ad =>
      have hload := run_loadCells_list (P := P) w ad news (hcells ad rfl)
      have hnl : news.length = (bytesAV b).length := by rw [hR.len, Nat.mul_one]
      rw [hnl, hn] at hload
      rw [run_bytesToString w ad _ c _ hload, bytes_str]

theorem fromBytes_sound (hT : TabOk P T) (hI : Inv w0 g0 g l w st a) {src dst e : Nat} {x : Operand} {K : St → Prop} (ho : o.op = .convert src dst x) (h1 : (ti T src).k = .slice e) (h2 : (ti T dst).k = .str) (h3 : (ti T e).k = .int .u8)
    {t k : Nat} {xs : List (List AV)} (hx : ρ st.tm x = .sl t k xs) (h : ∃ b, xs = bytesAV b ∧ K (st.put o.dst (.str b))) (hn : Goes w0 g0 K next) : o.wp P a w next Q := by
  obtain ⟨b, rfl, h⟩ := h
  obtain ⟨hev, hevt⟩ := hI.operand (a := a) x
  rw [hx] at hev hevt
  have hrun : (convert src dst (a.eval x)).run P w = .ok (.string b) w := by
    cases t with
    | zero =>
      simp only [TRep] at hev
      by_cases hk0 : 0 < k
      · refine fromBytes_run hT h1 h2 h3 (rep_src hev hk0) fun hne => ?_
        cases hev' : bytesAV b with
        | nil => simp [bytesAV] at hev'; exact absurd (by simpa using hev') hne
        | cons x r =>
          have hx1 : x.length = 1 := by
            have : x ∈ bytesAV b := by rw [hev']; simp
            simp only [bytesAV, List.mem_map] at this
            obtain ⟨_, _, rfl⟩ := this
            rfl
          rw [hev'] at hev
          rw [← rep_rows hev x (by simp), hx1]
      · obtain rfl : k = 0 := by omega
        have hnil : bytesAV b = [] := by
          cases hev' : bytesAV b with
          | nil => rfl
          | cons x r =>
            have hx1 : x.length = 1 := by
              have : x ∈ bytesAV b := by rw [hev']; simp
              simp only [bytesAV, List.mem_map] at this
              obtain ⟨_, _, rfl⟩ := this
              rfl
            rw [hev'] at hev
            have := rep_rows hev x (by simp)
            omega
        rw [hnil] at hev
        have hsrc : Src g w 1 (bytesAV b) (a.eval x) := by
          rw [hnil]
          generalize a.eval x = v at hev
          cases hev with
          | sl0 A c k => exact ⟨⟨A, c, [], rfl, fun _ => rfl, by simp, rows_nil _⟩⟩
          | sl b o c k xs vs => exact ⟨⟨_, c, [], rfl, fun _ => rfl, by simp, rows_nil _⟩⟩
        exact fromBytes_run hT h1 h2 h3 hsrc fun _ => rfl
    | succ t =>
      simp only [TRep] at hev
      obtain ⟨r1, r2, r3⟩ := hev
      have hO := hI.own (t + 1) (hevt _ (by simp [tagsOf, Nat.beq]))
      rw [r1]
      refine fromBytes_run hT h1 h2 h3 (k := l.xk (t + 1)) (by rw [r2]; exact own_src hO) fun hne => ?_
      cases hev' : bytesAV b with
      | nil => simp [bytesAV] at hev'; exact absurd (by simpa using hev') hne
      | cons x r =>
        have hx0 : x ∈ bytesAV b := by rw [hev']; simp
        have hx1 : x.length = 1 := by
          simp only [bytesAV, List.mem_map] at hx0
          obtain ⟨_, _, rfl⟩ := hx0
          rfl
        rw [← hO.size x (by rw [← r2]; exact hx0), hx1]
  refine wp_value (w' := w) (v := .string b) ?_ (hn _ _ _ _ _ (hI.put (by simp [TRep]) (by simp [tagsOf]) _) h)
  unfold execOp
  rw [ho]
  exact exec_v hrun
theorem fromNil_sound (hT : TabOk P T) (hI : Inv w0 g0 g l w st a) {src dst e : Nat} {x : Operand} {K : St → Prop} (ho : o.op = .convert src dst x) (h1 : (ti T src).k = .slice e) (h2 : (ti T dst).k = .str) (h3 : (ti T e).k = .int .u8)
    (hx : ρ st.tm x = .nilsl) (h : K (st.put o.dst (.str ⟨#[]⟩))) (hn : Goes w0 g0 K next) : o.wp P a w next Q := by
  obtain ⟨hev, hevt⟩ := hI.operand (a := a) x
  rw [hx] at hev
  simp only [TRep] at hev
  refine wp_value (w' := w) (v := .string ⟨#[]⟩) ?_ (hn _ _ _ _ _ (hI.put (by simp [TRep]) (by simp [tagsOf]) _) h)
  unfold execOp
  rw [ho]
  refine exec_v ?_
  rw [hev]
  exact fromBytes_run (g := g) (k := 1) hT h1 h2 h3 ⟨⟨none, 0, [], rfl, fun _ => rfl, by simp, rows_nil _⟩⟩ fun _ => rfl

theorem range_sound (hT : TabOk P T) (hI : Inv w0 g0 g l w st a) {t : Nat} {x : Operand} {s : ByteArray} {K : St → Prop} (ho : o.op = .range t x) (ht : (ti T t).k = .str) (hx : ρ st.tm x = .str s)
    (h : K ({ st with mem := st.mem ++ [MB.siter s 0] }.put o.dst (.ptr st.mem.length 0))) (hn : Goes w0 g0 K next) : o.wp P a w next Q := by
  have hev := (hI.operand (a := a) x).1
  rw [hx] at hev
  simp only [TRep] at hev
  refine wp_value (w' := w.alloc (.stringIter s 0)) (v := .pointer (some ⟨w.heap.size, 0, none⟩)) ?_ (hn _ _ _ _ _ (hI.newBlock _ (MB.siter s 0) rfl (by simp [MB.tags]) (heap_alloc_new w _) _) h)
  unfold execOp
  rw [ho]
  refine exec_v ?_
  rw [hev]
  simp [Instr.range, run_underlying (hT.u_str ht)]

theorem next_sound (hI : Inv w0 g0 g l w st a) {x : Operand} {j : Nat} {s : ByteArray} {pos : Nat} {K : St → Prop} (ho : o.op = .next x true) (hx : ρ st.tm x = .ptr j 0) (hm : st.mem.getD j .dead = .siter s pos)
    (h : cond (Nat.blt pos s.size)
          (K ({ st with mem := st.mem.set j (.siter s (pos + (Utf8.decode s pos).2)) }.put o.dst (.tup [.bool true, .int .i64 (pos : Int), .int .i32 ((Utf8.decode s pos).1 : Int)])))
          (K (st.put o.dst (.tup [.bool false])))) (hn : Goes w0 g0 K next) : o.wp P a w next Q := by
  have hev := (hI.operand (a := a) x).1
  rw [hx] at hev
  simp only [TRep] at hev
  obtain ⟨hj, hev⟩ := hev
  have hjm : st.mem[j]? = some (.siter s pos) := by rw [← hm, List.getD_eq_getElem?_getD, List.getElem?_eq_getElem hj]; rfl
  have hb := hI.mem j _ hjm
  have hb : w.heap[l.loc j]? = some (.stringIter s pos) := hb
  cases hlt : Nat.blt pos s.size <;> rw [hlt] at h <;> simp only [cond_false, cond_true] at h
  · have hn' : ¬ pos < s.size := fun hh => by
      have := Nat.ble_eq_true_of_le hh
      unfold Nat.blt at hlt
      rw [this] at hlt
      cases hlt
    refine wp_value (w' := w) (v := .tuple #[.bool false]) ?_ (hn _ _ _ _ _ (hI.put ?_ (by simp [tagsOf, tagsOfs]) _) h)
    · unfold execOp
      rw [ho]
      refine exec_v ?_
      rw [hev]
      exact Go.Lib.run_next_end_at w _ s pos _ hb hn'
    · simp only [TRep]
      exact ⟨[.bool false], rfl, by simp [TReps, TRep]⟩
  · have hlt' : pos < s.size := Nat.le_of_ble_eq_true hlt
    refine wp_value (w' := w.iterAt (l.loc j) s (pos + (Utf8.decode s pos).2)) (v := .tuple #[.bool true, .int .i64 pos, .int .i32 (Utf8.decode s pos).1]) ?_ (hn _ l _ _ _ ((hI.setMem (w' := w.iterAt (l.loc j) s (pos + (Utf8.decode s pos).2)) hjm rfl (mb' := .siter s (pos + (Utf8.decode s pos).2)) rfl (by simp [MB.tags]) rfl rfl rfl ?_ ?_ ?_).put ?_ (by simp [tagsOf, tagsOfs]) _) h)
    · unfold execOp
      rw [ho]
      refine exec_v ?_
      rw [hev]
      exact Go.Lib.run_next_any_at w _ s pos _ hb hlt'
    · simp [World.iterAt]
    · intro b hb
      simp [World.iterAt, Array.getElem?_setIfInBounds, Ne.symm hb]
    · show (w.iterAt (l.loc j) s (pos + (Utf8.decode s pos).2)).heap[l.loc j]? = _
      have hl := (Array.getElem?_eq_some_iff.1 hb).1
      simp [World.iterAt, Array.getElem?_setIfInBounds, hl]
    · simp only [TRep]
      exact ⟨[.bool true, .int .i64 pos, .int .i32 (Utf8.decode s pos).1], rfl, by simp [TReps, TRep]⟩
end
end Go.Proofs.Ytbkkhhmjmbbfpaa.Ab
