/- The row of a law, out of what 'Call' tells of it. -/
import Derived.Test.YtbkkhhmjmbbfpaaAbOpen
namespace Go.Proofs.Ytbkkhhmjmbbfpaa.Ab
open Go Go.ChangeShapes Go.WideShapes Go.RowKit

def ArgsOk (T : List TI) (d : Nat) : List Nat → List AV → Prop
  | [], [] => True
  | t :: ts, a :: as => ArgOk T d t a ∧ ArgsOk T d ts as
  | _, _ => False
def H0 : Heap := { next := 0, get := fun _ => .dead }

section
variable {P : Program} {T : List TI} {H : Type} {enc : TypeId × Value → H} {W : World} {stb : Nat → Prop} {ob : Nat → Option Nat}

theorem arg_open (hT : TabOk P T) (hstb : ∀ b, b < W.heap.size → stb b) {d t base : Nat} {v : Value} {x : DataW H} {ps : List MemPlace} {spare : Nat → Bool} {held : Bool} (ho : openT T d t = true) (hval : Value.okWide P W .any base t v)
    (h : DataW.Trod enc P W 0 spare held t v x ps) (hw : ∀ n ∈ x.weights P t, n ≤ reachBytes) : ∃ av, ArgOk T d t av ∧ Rep W stb ob av v := by
  obtain ⟨fuel, htr⟩ := h
  have one : isAggT T t = false → v.cells = #[v] → ∃ av, ArgOk T d t av ∧ Rep W stb ob av v := by
    intro ha hc
    rw [hc] at htr
    obtain ⟨acs, h1, h2, h3, h4⟩ := open_cells (stb := stb) (ob := ob) hT hstb d t fuel _ _ ho htr hw
    match acs, h2 with
    | [c], _ =>
      refine ⟨c, ?_, (h4 0 c v rfl rfl).1⟩
      unfold ArgOk
      rw [ha]
      exact h1
  have agg : isAggT T t = true → (∃ cs, v = .agg cs) → ∃ av, ArgOk T d t av ∧ Rep W stb ob av v := by
    rintro ha ⟨cs, rfl⟩
    obtain ⟨acs, h1, h2, h3, h4⟩ := open_cells (stb := stb) (ob := ob) hT hstb d t fuel _ _ ho htr hw
    refine ⟨.agg acs, ?_, ?_⟩
    · unfold ArgOk
      rw [ha]
      exact ⟨acs, rfl, h1⟩
    · have := Rep.agg (w := W) (stb := stb) (ob := ob) acs cs.toList h2 fun i c v hc hv => (h4 i c v hc hv).1
      rwa [Array.toArray_toList] at this
  cases d with
  | zero => simp [openT] at ho
  | succ d =>
    simp only [openT] at ho
    cases hk : (ti T t).k <;> rw [hk] at ho <;> try (simp at ho; done)
    case int k =>
      obtain ⟨n, rfl⟩ := okWide_int (hT.u_int hk) hval
      exact one (by simp [isAggT, hk]) rfl
    case bool =>
      obtain ⟨b, rfl⟩ := okWide_bool (hT.u_bool hk) hval
      exact one (by simp [isAggT, hk]) rfl
    case str =>
      obtain ⟨s, rfl⟩ := okWide_string (hT.u_str hk) hval
      exact one (by simp [isAggT, hk]) rfl
    case slice e =>
      obtain ⟨a, len, cap, rfl⟩ := okWide_slice (hT.u_slice hk) hval
      exact one (by simp [isAggT, hk]) rfl
    case struct fs =>
      obtain ⟨fa, hu, _⟩ := hT.u_struct hk
      simp only [Value.okWide, hu] at hval
      obtain ⟨cs, rfl, _⟩ := hval
      exact agg (by simp [isAggT, hk]) ⟨_, rfl⟩
    case array n e =>
      simp only [Value.okWide, hT.u_array hk] at hval
      obtain ⟨cs, rfl, _⟩ := hval
      exact agg (by simp [isAggT, hk]) ⟨_, rfl⟩

theorem args_open (hT : TabOk P T) (hstb : ∀ b, b < W.heap.size → stb b) {d base : Nat} {spare : Nat → Bool} {held : Bool} : ∀ {ts : List TypeId} {vs : List Value} {ds : List (DataW H)} {ps : List MemPlace}, (∀ t ∈ ts, openT T d t = true) →
    (∀ (j : Nat) t v, ts[j]? = some t → vs[j]? = some v → Value.okWide P W .any base t v) → DataW.TrodAll enc P W 0 spare held ts vs ds ps → (∀ n ∈ DataW.weightsEach P ts ds, n ≤ reachBytes) →
    ∃ avs, ArgsOk T d ts avs ∧ avs.length = vs.length ∧ ∀ (i : Nat) (c : AV) (v : Value), avs[i]? = some c → vs[i]? = some v → Rep W stb ob c v
  | [], [], [], _, _, _, _, _ => ⟨[], trivial, rfl, by simp⟩
  | t :: ts, v :: vs, x :: ds, _, ho, hv, ⟨p, q, h1, h2, _⟩, hw => by
    simp only [DataW.weightsEach, List.mem_append] at hw
    obtain ⟨a, k1, k2⟩ := arg_open (stb := stb) (ob := ob) hT hstb (ho t (by simp)) (hv 0 t v rfl rfl) h1 (fun n hn => hw n (.inl hn))
    obtain ⟨as, m1, m2, m3⟩ := args_open hT hstb (fun u hu => ho u (by simp [hu])) (fun j t v ht hv' => hv (j + 1) t v (by simpa using ht) (by simpa using hv')) h2 (fun n hn => hw n (.inr hn))
    refine ⟨a :: as, ⟨k1, m1⟩, by simp [m2], fun i c v hc hv => ?_⟩
    cases i with
    | zero => simp at hc hv; subst hc; subst hv; exact k2
    | succ i => exact m3 i c v (by simpa using hc) (by simpa using hv)
  | [], _ :: _, _, _, _, _, h, _ => h.elim
  | [], [], _ :: _, _, _, _, h, _ => h.elim
  | _ :: _, [], _, _, _, _, h, _ => h.elim
  | _ :: _, _ :: _, [], _, _, _, h, _ => h.elim

theorem trodAll_below (hl : laidOutB P = true) {W' : World} (bel : Below W.heap.size W W') : ∀ {ts : List TypeId} {vs : List Value} {ds : List (DataW H)} {ps : List MemPlace}, (∀ t ∈ ts, P.readableRec t = true ∧ t < P.types.size) →
    DataW.TrodAll enc P W 0 (fun _ => true) true ts vs ds ps → DataW.TrodAll enc P W' 0 (fun b => decide (b < W.heap.size)) true ts vs ds ps
  | [], [], [], _, _, h => h
  | t :: ts, v :: vs, x :: ds, _, hr, ⟨p, q, h1, h2, e⟩ => by
    refine ⟨p, q, Below.trod hl (hr t (by simp)).1 (hr t (by simp)).2 h1 bel ?_, trodAll_below hl bel (fun u hu => hr u (by simp [hu])) h2, e⟩
    obtain ⟨m, hm⟩ := h1
    exact DataW.trod_lt m _ _ _ hm
  | [], _ :: _, _, _, _, h => h.elim
  | [], [], _ :: _, _, _, h => h.elim
  | _ :: _, [], _, _, _, h => h.elim
  | _ :: _, _ :: _, [], _, _, h => h.elim
theorem trodAll_len {spare : Nat → Bool} {held : Bool} {b : Nat} : ∀ {ts : List TypeId} {vs : List Value} {ds : List (DataW H)} {ps : List MemPlace}, DataW.TrodAll enc P W b spare held ts vs ds ps → vs.length = ts.length ∧ ds.length = ts.length
  | [], [], [], _, _ => ⟨rfl, rfl⟩
  | t :: ts, v :: vs, x :: ds, _, ⟨p, q, h1, h2, e⟩ => by obtain ⟨k1, k2⟩ := trodAll_len h2; simp [k1, k2]
  | [], _ :: _, _, _, h => h.elim
  | [], [], _ :: _, _, h => h.elim
  | _ :: _, [], _, _, h => h.elim
  | _ :: _, _ :: _, [], _, h => h.elim

theorem law_contract {E : Env} (hP : ProgOk P E) (hlaid : laidOutB P = true) {f tb d : Nat} {fn : Func} {s : ChangeSpec} (hvars : s.vars = []) (hres : fn.resultTypes = #[tb]) (htb : P.underlying tb = some .bool)
    (hspec : ∀ (ds : List (DataW H)), ds.length = fn.params.size → s.fn H ds = { results := [.lit (.bool true)], args := ds }) (hpar : ∀ t ∈ fn.params.toList, P.readableRec t = true ∧ t < P.types.size ∧ openT E.T d t = true) (hown : E.own f = false)
    (base : Nat) (args : Array Value) (ds gs : List (DataW H)) (before : List MemPlace)
    (hval : ∀ (j : Nat) t v, fn.params[j]? = some t → args[j]? = some v → Value.okWide P W .any base t v)
    (hW : DataW.Whole enc P fn.params.toList s.vars false W args.toList ds gs before)
    (hsz : (DataW.weightsEach P (fn.params.toList ++ s.plain.varTypes P) (ds ++ gs)).all (· ≤ reachBytes) = true)
    (hfx : ∀ p ∈ fxT, p.1 < W.heap.size ∧ FixAt W p)
    (hlaw : ∀ avs, ArgsOk E.T d fn.params.toList avs → (∀ (i : Nat) (c : AV) (v : Value), avs[i]? = some c → args.toList[i]? = some v → Rep W (fun b => b < W.heap.size) (fun _ => none) c v) → Call E f avs H0 fun v _ => v = .bool true) :
    Calls P f args W fun e W' => ∃ v, e = .returned v ∧ s.post enc P fn false true false false W args v W' := by
  have hW' := hW
  obtain ⟨p, q, hA, hV, rfl, hfz, hnd⟩ := hW
  have hgs : gs = [] ∧ q = [] := by
    rw [hvars] at hV
    cases gs with
    | nil => exact ⟨rfl, hV⟩
    | cons g gs => exact hV.elim
  obtain ⟨rfl, rfl⟩ := hgs
  have hlen := trodAll_len hA
  have hwts : ∀ n ∈ DataW.weightsEach P fn.params.toList ds, n ≤ reachBytes := by
    have hpl : s.plain.varTypes P = [] := by
      unfold ChangeSpec.plain DataSpec.varTypes
      simp [hvars]
    rw [hpl] at hsz
    simp only [List.append_nil, List.all_eq_true, decide_eq_true_eq] at hsz
    exact hsz
  obtain ⟨avs, k1, k2, k3⟩ := args_open (stb := fun b => b < W.heap.size) (ob := fun _ => none) hP.tab (fun _ h => h) (fun t ht => (hpar t ht).2.2) (fun j t v ht hv => hval j t v (by simpa using ht) (by simpa using hv)) hA hwts
  have hc := Call_sound hP f avs H0 _ (hlaw avs k1 k3)
  have hH : HOK { stb := fun b => b < W.heap.size, ob := fun _ => none, foot := fun _ => False } W H0 :=
    ⟨fun _ _ h => (by cases h), fun _ _ => rfl, fun _ h => absurd rfl h, fun _ _ _ h => absurd rfl h, fun _ h => False.elim h, hfx⟩
  have := hc.2 W { stb := fun b => b < W.heap.size, ob := fun _ => none, foot := fun _ => False } args.toList ⟨hH, fun b hb => ⟨hb, fun h => h⟩, k2, k3⟩
  rw [Array.toArray_toList] at this
  refine this.mono fun e W' ⟨r, v, H', g', l', he, hF⟩ => ?_
  have hv : v = .bool true := hF.post
  subst hv
  have hr := hF.res
  unfold ResOk at hr
  rw [hown, cond_false] at hr
  cases hr
  have bel : Below W.heap.size W W' := ⟨hF.ext.os, hF.ext.tape, hF.ext.output, hF.ext.size, fun k hk => hF.ext.keep k hk (fun h => h)⟩
  refine ⟨_, he, ds, [], p ++ [], [], p, [], hW', ?_, ?_, ?_, bel.frame _, fun h => by cases h⟩
  · rw [hspec _ (by simp [hlen.2]), hres]
    exact trodAll_mk1 (shut_bool htb _)
  · rw [hspec _ (by simp [hlen.2])]
    simp only [List.append_nil]
    exact trodAll_below hlaid bel (fun t ht => ⟨(hpar t ht).1, (hpar t ht).2.1⟩) hA
  · rw [hvars, hspec _ (by simp [hlen.2])]
    exact rfl
end
theorem argsOk1 {T : List TI} {d t0 : Nat} {avs : List AV} (h : ArgsOk T d [t0] avs) : ∃ a0, avs = [a0] ∧ ArgOk T d t0 a0 := by
  match avs, h with
  | [a0], h => exact ⟨a0, rfl, h.1⟩
theorem argsOk2 {T : List TI} {d t0 t1 : Nat} {avs : List AV} (h : ArgsOk T d [t0, t1] avs) : ∃ a0 a1, avs = [a0, a1] ∧ ArgOk T d t0 a0 ∧ ArgOk T d t1 a1 := by
  match avs, h with
  | [a0, a1], h => exact ⟨a0, a1, rfl, h.1, h.2.1⟩
theorem argsOk3 {T : List TI} {d t0 t1 t2 : Nat} {avs : List AV} (h : ArgsOk T d [t0, t1, t2] avs) : ∃ a0 a1 a2, avs = [a0, a1, a2] ∧ ArgOk T d t0 a0 ∧ ArgOk T d t1 a1 ∧ ArgOk T d t2 a2 := by
  match avs, h with
  | [a0, a1, a2], h => exact ⟨a0, a1, a2, rfl, h.1, h.2.1, h.2.2.1⟩
theorem argsOk4 {T : List TI} {d t0 t1 t2 t3 : Nat} {avs : List AV} (h : ArgsOk T d [t0, t1, t2, t3] avs) : ∃ a0 a1 a2 a3, avs = [a0, a1, a2, a3] ∧ ArgOk T d t0 a0 ∧ ArgOk T d t1 a1 ∧ ArgOk T d t2 a2 ∧ ArgOk T d t3 a3 := by
  match avs, h with
  | [a0, a1, a2, a3], h => exact ⟨a0, a1, a2, a3, rfl, h.1, h.2.1, h.2.2.1, h.2.2.2.1⟩
theorem argsOk5 {T : List TI} {d t0 t1 t2 t3 t4 : Nat} {avs : List AV} (h : ArgsOk T d [t0, t1, t2, t3, t4] avs) : ∃ a0 a1 a2 a3 a4, avs = [a0, a1, a2, a3, a4] ∧ ArgOk T d t0 a0 ∧ ArgOk T d t1 a1 ∧ ArgOk T d t2 a2 ∧ ArgOk T d t3 a3 ∧ ArgOk T d t4 a4 := by
  match avs, h with
  | [a0, a1, a2, a3, a4], h => exact ⟨a0, a1, a2, a3, a4, rfl, h.1, h.2.1, h.2.2.1, h.2.2.2.1, h.2.2.2.2.1⟩
end Go.Proofs.Ytbkkhhmjmbbfpaa.Ab
