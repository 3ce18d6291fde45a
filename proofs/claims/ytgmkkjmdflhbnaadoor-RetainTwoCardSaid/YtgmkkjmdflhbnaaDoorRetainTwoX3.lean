/- Texts of the proof, joined: RtH, RtK, TrH, RtM, RtProg, TrL, RtL. -/
import Derived.Test.YtgmkkjmdflhbnaaDoorRetainTwoX2
import Derived.Test.YtgmkkjmdflhbnaaDoorM4
import Derived.Test.YtgmkkjmdflhbnaaDoorRetainTwoX1
import Derived.Test.YtgmkkjmdflhbnaaDoorRows
import Derived.LaidHandle
import Derived.LaidLaws
import Derived.Lay
set_option linter.unusedVariables false
set_option linter.unusedSimpArgs false
set_option linter.unnecessarySimpa false
section
namespace Go.Proofs.YtgmkkjmdflhbnaaDoor.Ab
open Go
set_option maxHeartbeats 4000000
abbrev Sg := Nat → Option Rt
def Sg.empty : Sg := fun _ => none
def upd (s : Sg) (j : Nat) (r : Rt) : Sg := fun i => if i = j then some r else s i
def HR (s : Sg) (H : Heap) : Prop := ∃ f : Nat → Nat, (∀ j r, s j = some r → StoreAt H j (f j) r ∧ j < H.next ∧ f j < H.next ∧ j ≠ f j) ∧ ∀ i j, s i ≠ none → s j ≠ none → i ≠ j → i ≠ f j ∧ f i ≠ f j
theorem HR.empty (H : Heap) : HR Sg.empty H := ⟨id, nofun, fun _ _ h => absurd rfl h⟩
theorem HR.sameH {s : Sg} {H H' : Heap} (h : HR s H) (hn : H.next ≤ H'.next) (hk : ∀ i, H'.get i = H.get i) : HR s H' := by
  obtain ⟨f, h1, h2⟩ := h
  exact ⟨f, fun j r hj => let ⟨a, b, c, d⟩ := h1 j r hj; ⟨a.same (hk _) (hk _), by omega, by omega, d⟩, h2⟩
theorem HR.past {s : Sg} {H H' : Heap} (h : HR s H) : HR s (H.past H') := h.sameH (Nat.le_max_left _ _) fun _ => rfl
theorem HR.upd {s : Sg} {H H' : Heap} {f : Nat → Nat} (h1 : ∀ j r, s j = some r → StoreAt H j (f j) r ∧ j < H.next ∧ f j < H.next ∧ j ≠ f j) (h2 : ∀ i j, s i ≠ none → s j ≠ none → i ≠ j → i ≠ f j ∧ f i ≠ f j)
    {j : Nat} {r r' : Rt} (hj : s j = some r) (hn : H.next ≤ H'.next) (hk : ∀ i, i ≠ f j → H'.get i = H.get i) (hs : StoreAt H' j (f j) r') : HR (upd s j r') H' := by
  have hj0 : s j ≠ none := by rw [hj]; nofun
  have hu : ∀ i, Ab.upd s j r' i ≠ none → s i ≠ none := fun i hi => by
    unfold Ab.upd at hi
    split at hi
    · rename_i e; rw [e]; exact hj0
    · exact hi
  refine ⟨f, fun i t hi => ?_, fun i k hi hk' hne => h2 i k (hu i hi) (hu k hk') hne⟩
  unfold Ab.upd at hi
  split at hi
  · rename_i e
    subst e
    cases hi
    obtain ⟨_, b, c, d⟩ := h1 _ _ hj
    exact ⟨hs, by omega, by omega, d⟩
  · rename_i e
    obtain ⟨a, b, c, d⟩ := h1 _ _ hi
    have hi0 : s i ≠ none := by rw [hi]; nofun
    obtain ⟨e1, e2⟩ := h2 i j hi0 hj0 e
    exact ⟨a.same (hk _ e1) (hk _ e2), by omega, by omega, d⟩
theorem HR.new {s : Sg} {H H' : Heap} (h : HR s H) {m j : Nat} {r : Rt} (hm : H.next ≤ m) (hj : H.next ≤ j) (hne : j ≠ m) (hjn : j < H'.next) (hmn : m < H'.next) (hn : H.next ≤ H'.next) (hk : ∀ i, i < H.next → H'.get i = H.get i) (hs : StoreAt H' j m r) : HR (Ab.upd s j r) H' ∧ s j = none := by
  obtain ⟨f, h1, h2⟩ := h
  have hj0 : s j = none := by
    cases e : s j with
    | none => rfl
    | some t => have := (h1 j t e).2.1; omega
  refine ⟨⟨fun i => if i = j then m else f i, fun i t hi => ?_, fun i k hi hk' hn' => ?_⟩, hj0⟩
  · unfold Ab.upd at hi
    split at hi
    · rename_i e
      subst e
      cases hi
      simp only [if_true]
      exact ⟨hs, hjn, hmn, hne⟩
    · rename_i e
      obtain ⟨a, b, c, d⟩ := h1 _ _ hi
      simp only [e, if_false]
      exact ⟨a.same (hk _ b) (hk _ c), by omega, by omega, d⟩
  · unfold Ab.upd at hi hk'
    have lt : ∀ {x : Nat}, s x ≠ none → x < H.next ∧ f x < H.next := fun {x} hx => by
      cases e : s x with
      | none => exact absurd e hx
      | some t => exact ⟨(h1 x t e).2.1, (h1 x t e).2.2.1⟩
    by_cases e1 : i = j <;> by_cases e2 : k = j <;> simp only [e1, e2, if_true, if_false] at hi hk' ⊢
    · omega
    · have := lt hk'
      constructor <;> omega
    · have := lt hi
      constructor <;> omega
    · exact h2 i k hi hk' hn'
open Classical in
noncomputable def anyF {β : Type} (s : Sg) (f : Nat → Option β) : Option β := if h : ∃ r, ∀ j, s j = none → f j = some r then some (Classical.choose h) else none
theorem anyF_some {β : Type} {s : Sg} {f : Nat → Option β} {r : β} (h : anyF s f = some r) {j : Nat} (hj : s j = none) : f j = some r := by
  unfold anyF at h
  split at h
  · rename_i hx
    cases h
    exact Classical.choose_spec hx j hj
  · cases h
theorem anyF_eq {β : Type} {s : Sg} {f : Nat → Option β} {r : β} (h0 : ∃ j, s j = none) (h : ∀ j, s j = none → f j = some r) : anyF s f = some r := by
  have hx : ∃ r, ∀ j, s j = none → f j = some r := ⟨r, h⟩
  unfold anyF
  rw [dif_pos hx]
  obtain ⟨j, hj⟩ := h0
  rw [← h j hj, Classical.choose_spec hx j hj]
noncomputable def unM (cs : List AV) : Option Mg := open Classical in if h : ∃ m : Mg, cs = m.enc then some (Classical.choose h) else none
theorem props_inj {a b : List Pp} (h : props a = props b) : a = b := by
  unfold props at h
  refine (List.map_inj_right (f := Pp.enc) fun x y e => ?_).1 h
  obtain ⟨k, v⟩ := x
  obtain ⟨k', v'⟩ := y
  simp only [Pp.enc, List.cons.injEq, AV.str.injEq, and_true] at e
  rw [e.1, e.2]
theorem enc_inj {a b : Mg} (h : a.enc = b.enc) : a = b := by
  obtain ⟨t, p, lv, rt, pr, ex, fr, sq, ps⟩ := a
  obtain ⟨t', p', lv', rt', pr', ex', fr', sq', ps'⟩ := b
  simp only [Mg.enc, List.cons.injEq, AV.str.injEq, AV.int.injEq, AV.bool.injEq, AV.sl.injEq, and_true, true_and] at h
  obtain ⟨rfl, rfl, rfl, rfl, rfl, rfl, rfl, rfl, h⟩ := h
  rw [props_inj h]
theorem unM_enc (m : Mg) : unM m.enc = some m := by
  have hx : ∃ m' : Mg, m.enc = m'.enc := ⟨m, rfl⟩
  unfold unM
  rw [dif_pos hx]
  exact congrArg some (enc_inj (Classical.choose_spec hx).symm)
theorem unM_some {cs : List AV} {m : Mg} (h : unM cs = some m) : cs = m.enc := by
  unfold unM at h
  split at h
  · rename_i hx
    cases h
    exact Classical.choose_spec hx
  · cases h
theorem HS : (∀ cs, (HB.cells cs).isCells = true) ∧ (∀ cs, (HB.cells cs).cs = cs) ∧ (∀ es c, (HB.map es c).isMap = true) ∧ (∀ es c, (HB.map es c).es = es) ∧ (∀ es c, (HB.map es c).clock = c) ∧
    (∀ j, (AV.map j).isMap = true) ∧ (∀ j, (AV.map j).mapJ = j) ∧ (∀ p q : Prop, cond true p q = p) ∧ (∀ p q : Prop, cond false p q = q) ∧ (∀ p, G true p = p) ∧ (∀ x r, ce (x :: r) 0 = x) ∧ (∀ x r n, ce (x :: r) (n + 1) = ce r n) ∧ (∀ k x, (AV.int k x).toInt = x) ∧ (∀ x, (AV.int .i64 x).isInt .i64 = true) ∧ (∀ b, (AV.bool b).isBool = true) ∧ (∀ b, (AV.bool b).toBool = b) ∧
    (∀ s, (AV.str s).isStr = true) ∧ (∀ s, (AV.str s).toStr = s) ∧ (∀ xs, (AV.sl 0 2 xs).isSl 2 = true) ∧ (∀ t k xs, (AV.sl t k xs).slXs = xs) ∧ (∀ a b c d e f g h i : AV, Nat.beq [a, b, c, d, e, f, g, h, i].length 9 = true) ∧ (∀ cs, (AV.agg cs).isAgg = true) ∧ (∀ cs, (AV.agg cs).aggCs = cs) ∧ (∀ (x d : AV) r, (x :: r).headD d = x) ∧ (∀ (x : AV) r, (x :: r).tail = r) ∧
    ((!true) = false) ∧ ((!false) = true) ∧ (∀ n, Nat.beq n n = true) ∧ (∀ b, (true && b) = b) ∧ (∀ H H' : Heap, (H.past H').get = H.get) :=
  ⟨fun _ => rfl, fun _ => rfl, fun _ _ => rfl, fun _ _ => rfl, fun _ _ => rfl, fun _ => rfl, fun _ => rfl, fun _ _ => rfl, fun _ _ => rfl, fun _ => rfl, fun _ _ => rfl, fun _ _ _ => rfl, fun _ _ => rfl, fun _ => rfl, fun _ => rfl, fun _ => rfl, fun _ => rfl, fun _ => rfl, fun _ => rfl, fun _ _ _ => rfl, fun _ _ _ _ _ _ _ _ _ => rfl, fun _ => rfl, fun _ => rfl, fun _ _ _ => rfl, fun _ _ => rfl, rfl, rfl, fun n => Nat.beq_refl n, fun b => Bool.true_and b, fun _ _ => rfl⟩
theorem F55.eq {l : List Pp} (h : l.length ≤ 100000) : F55.P (props l) = some (.sl 1 2 (props l)) := by
  have hr : room [] (props l) 32 = true := by rw [tt_room, length_props]; simp only [List.length_nil]; omega
  unfold F55.P
  cases l with
  | nil =>
    show anyB [] _ = _
    rw [anyB_nil]
    · rfl
    · simp only [Bool.false_eq_true, if_false, if_true]
      rfl
  | cons p l =>
    show anyB (_ :: _) _ = _
    rw [anyB_cons]
    have hr : room [] (props (p :: l)) 32 = true := hr
    simp only [props, List.map_cons] at hr ⊢
    simp only [hr, Bool.false_eq_true, if_false, if_true]
theorem F34.eq {m : Mg} (h : m.ps.length ≤ 100000) : F34.P m.t m.p m.lv m.rt m.pr m.ex m.fr m.sq (props m.ps) = some (.agg m.enc) := by
  unfold F34.P
  rw [F55.eq h]
  have : (AV.sl 1 2 (props m.ps)).isOwn 2 = true := rfl
  simp [this, Mg.enc, PS]
theorem cp49 {m : Mg} {H : Heap} {K : Qt} (h : ∀ H', K (.int .i64 (chkM m)) (H.past H')) : CP 49 [.agg m.enc] H K := impP (A := True) (fun _ => F49.ok (F49.eq m) (Q := fun v H' => K v (H.past H')) h) trivial
theorem cp32 {m : Mg} {now : Int} {H : Heap} {K : Qt} (h : ∀ H', K (.bool (expd m now)) (H.past H')) : CP 32 [.agg m.enc, .int .i64 now] H K := impP (A := True) (fun _ => F32.ok (F32.eq m now) (Q := fun v H' => K v (H.past H')) h) trivial
theorem cp33 {f n : ByteArray} {H : Heap} {K : Qt} (h : ∀ H', K (.bool (matchB f n)) (H.past H')) : CP 33 [.str f, .str n] H K := impP (A := True) (fun _ => F33.ok (F33.eq f n) (Q := fun v H' => K v (H.past H')) h) trivial
theorem cp34 {m : Mg} (hp : m.ps.length ≤ 100000) {H : Heap} {K : Qt} (h : ∀ H', K (.agg m.enc) (H.past H')) : CP 34 [.agg m.enc] H K := impP (A := True) (fun _ => F34.ok (F34.eq hp) (Q := fun v H' => K v (H.past H')) h) trivial
def newMx (a : Int) : Int := if ltI a 0 then 0 else if ltI 256 a then 256 else a
theorem F11.eq (a : Int) : F11.P a = some (.agg [.int .i64 (newMx a), .nilsl]) := by
  unfold F11.P newMx
  cases ltI a 0 <;> cases ltI 256 a <;> rfl
theorem F30.eq (a : Int) : F30.P a = some (.int .i64 (if ltI a 0 then 0 else a)) := by
  unfold F30.P
  cases ltI a 0 <;> rfl
theorem newMx_le (a : Int) : 0 ≤ newMx a ∧ newMx a ≤ 256 := by
  unfold newMx
  simp only [ltI, decide_eq_true_eq]
  split
  · omega
  · split <;> omega
section
variable {β : Type} {r : β} {j : Nat} {n f : ByteArray} {s : Sg} {H : Heap} {k : AV → Sg → Option β} {K : Qt} {now : Int}
noncomputable def NewR.B (args : List AV) (s : Sg) (k : AV → Sg → Option β) : Option β :=
  match args with
  | [.int .i64 a] => anyF s fun j => k (.obj j 0) (upd s j ⟨newMx a, []⟩)
  | _ => none
theorem new_at {a : Int} (hH : HR s H) (h : ∀ j H1, s j = none → HR (upd s j ⟨newMx a, []⟩) H1 → K (.obj j 0) H1) : C 10 [.int .i64 a] H K := by
  refine F10.call ?_
  unfold F10.t
  refine impP (A := True) (fun _ => F30.ok (F30.eq a) (Q := fun v H' => _) fun H' => ?_) trivial
  simp only [HS]
  have e : cond (ltI 256 (if ltI a 0 = true then 0 else a)) 256 (if ltI a 0 = true then 0 else a) = newMx a := by
    unfold newMx
    cases h1 : ltI a 0
    · simp only [Bool.false_eq_true, if_false]
      cases ltI 256 a <;> rfl
    · rfl
  rw [e]
  have hp : HR s (H.past H') := hH.past
  generalize H.past H' = H0 at hp
  obtain ⟨q1, q2⟩ := hp.new (H' := (H0.push (.map [] 0)).push (.cells [.int .i64 (newMx a), .map H0.next])) (m := H0.next) (j := (H0.push (.map [] 0)).next) (r := ⟨newMx a, []⟩) (Nat.le_refl _) (Nat.le_succ _) (Nat.succ_ne_self _)
    (Nat.lt_succ_self _) (Nat.lt_succ_of_le (Nat.le_succ _)) (Nat.le_succ_of_le (Nat.le_succ _)) (fun i hi => by
      have hn : (H0.push (.map [] 0)).next = H0.next + 1 := rfl
      rw [push_get_ne _ _ (by omega), push_get_ne _ _ (by omega)])
    ⟨0, [], push_get_self _ _, by
      have hn : (H0.push (.map [] 0)).next = H0.next + 1 := rfl
      rw [push_get_ne _ _ (by omega), push_get_self]; rfl, nofun, .nil, .nil, ⟨.nil, nofun, by simpa using (newMx_le a).1, (newMx_le a).2⟩⟩
  exact h _ _ q2 q1
theorem NewR.ls {a : Int} (hH : HR s H) (h : ∀ w s1 H1, HR s1 H1 → k w s1 = some r → K w H1) : NewR.B [.int .i64 a] s k = some r → C 10 [.int .i64 a] H K := fun e =>
  new_at hH fun j H1 hj hr => h _ _ _ hr (anyF_some e hj)
noncomputable def LenR.B (args : List AV) (s : Sg) (k : AV → Sg → Option β) : Option β :=
  match args with
  | [.obj j 0] => match s j with | some t => k (.int .i64 (t.l.length : Int)) s | none => none
  | _ => none
theorem LenR.ls (hH : HR s H) (h : ∀ w s1 H1, HR s1 H1 → k w s1 = some r → K w H1) : LenR.B [.obj j 0] s k = some r → C 14 [.obj j 0] H K := by
  intro e
  simp only [LenR.B] at e
  cases hs : s j with
  | none => rw [hs] at e; cases e
  | some t =>
  rw [hs] at e
  obtain ⟨g, h1, h2⟩ := id hH
  obtain ⟨⟨c, L, hL⟩, hj1, hj2, hj3⟩ := h1 j t hs
  refine F14.call ?_
  unfold F14.t
  simp only [hL.cell, hL.map, HS]
  have : lenI (L.map ent) = (t.l.length : Int) := by
    have := hL.perm.length_eq
    simp only [lenI, List.length_map] at this ⊢
    omega
  rw [this]
  exact h _ _ _ hH e
noncomputable def GetR.B (args : List AV) (s : Sg) (k : AV → Sg → Option β) : Option β :=
  match args with
  | [.obj j 0, .str n, .int .i64 now] => match s j with | some t => k (getR t.l n now) s | none => none
  | _ => none
theorem GetR.ls (hH : HR s H) (h : ∀ w s1 H1, HR s1 H1 → k w s1 = some r → K w H1) : GetR.B [.obj j 0, .str n, .int .i64 now] s k = some r → C 17 [.obj j 0, .str n, .int .i64 now] H K := by
  intro e
  simp only [GetR.B] at e
  cases hs : s j with
  | none => rw [hs] at e; cases e
  | some t =>
  rw [hs] at e
  obtain ⟨g, h1, h2⟩ := id hH
  obtain ⟨⟨c, L, hL⟩, hj1, hj2, hj3⟩ := h1 j t hs
  refine F17.call ?_
  unfold F17.t
  simp only [hL.cell, hL.map, HS, fits_all]
  rcases find_case hL.nnd hL.perm n with ⟨a, b, q⟩ | ⟨A, x, B, rfl, rfl, hx, hg, hh, hm⟩
  · simp only [q, HS]
    simp only [getR, getM, b] at e
    exact h _ _ _ hH e
  · simp only [hh, hm, HS, Mg.enc]
    have hxp := hL.ok.ps x.m ((hL.perm.mem_iff).1 (by simp))
    simp only [getR, getM, hg] at e
    refine cp32 (m := x.m) fun H' => ?_
    cases he : expd x.m now
    · simp only [he, HS] at e ⊢
      refine cp34 (m := x.m) (by omega) fun H'' => ?_
      simp only [HS, Mg.enc]
      exact h _ _ _ hH.past.past e
    · simp only [he, HS] at e ⊢
      exact h _ _ _ hH.past e
def curE (L : List En) (now : Int) (seen : List Nat) : List En := L.filter fun x => !(seen.contains x.b && expd x.m now)
def cntE (L : List En) (now : Int) (seen : List Nat) : Nat := (L.filter fun x => seen.contains x.b && expd x.m now).length
theorem exp_loop {m c : Nat} {L : List En} {H0 : Heap} {mx : Int} (hc0 : H0.get j = .cells [.int .i64 mx, .map m]) (hjm : j ≠ m) (hborn : ∀ e ∈ L, e.b < c) (hbnd : (L.map En.b).Nodup) (hnnd : (L.map fun e => e.m.t).Nodup) (hlen : L.length ≤ 1000)
    (fin : ∀ H1 : Heap, H0.next ≤ H1.next → (∀ i, i ≠ m → H1.get i = H0.get i) → H1.get m = .map ((L.filter fun x => !(expd x.m now)).map ent) c → K (.int .i64 ((L.filter fun x => expd x.m now).length : Int)) H1) :
    ∀ (k : Nat) (seen : List Nat) (b : Nat) (H1 : Heap), (L.filter fun x => !(seen.contains x.b)).length ≤ k → H0.next ≤ H1.next → (∀ i, i ≠ m → H1.get i = H0.get i) → H1.get m = .map ((curE L now seen).map ent) c →
      F25.L0 j now K (cntE L now seen : Int) seen m c b H1 := by
  intro k
  induction k with
  | zero =>
    intro seen b H1 hk hn hi hm
    refine F25.L0_step ?_
    unfold F25.r0
    have hall : (((curE L now seen).map ent).all fun e => Nat.blt e.1 c) = true := by
      simp only [List.all_map, List.all_eq_true, Function.comp]
      intro e he
      have := hborn e (List.mem_filter.1 he).1
      exact Nat.ble_eq_true_of_le this
    have hcc : Nat.ble c c = true := Nat.ble_eq_true_of_le (Nat.le_refl _)
    have h0 : (L.filter fun x => !(seen.contains x.b)) = [] := List.length_eq_zero_iff.1 (by omega)
    have hseen : ∀ x ∈ L, seen.contains x.b = true := fun x hx => by
      cases hs : seen.contains x.b with
      | true => rfl
      | false => have : x ∈ L.filter fun x => !(seen.contains x.b) := List.mem_filter.2 ⟨hx, by rw [hs]; rfl⟩
                 rw [h0] at this; cases this
    have e1 : curE L now seen = L.filter fun x => !(expd x.m now) := List.filter_congr fun x hx => by rw [hseen x hx, Bool.true_and]
    have e2 : cntE L now seen = (L.filter fun x => expd x.m now).length := congrArg List.length (List.filter_congr fun x hx => by rw [hseen x hx, Bool.true_and])
    simp only [hm, HS, hall, hcc, mleft_ent]
    refine ⟨fun _ => ?_, fun e1' he1 => ?_⟩
    · rw [e2]
      rw [e1] at hm
      exact fin H1 hn hi hm
    · obtain ⟨e, he, rfl⟩ := List.mem_map.1 he1
      obtain ⟨q1, q2⟩ := List.mem_filter.1 he
      have := hseen e (List.mem_filter.1 q1).1
      rw [this] at q2
      cases q2
  | succ k ih =>
    intro seen b H1 hk hn hi hm
    refine F25.L0_step ?_
    unfold F25.r0
    have hall : (((curE L now seen).map ent).all fun e => Nat.blt e.1 c) = true := by
      simp only [List.all_map, List.all_eq_true, Function.comp]
      intro e he
      have := hborn e (List.mem_filter.1 he).1
      exact Nat.ble_eq_true_of_le this
    have hcc : Nat.ble c c = true := Nat.ble_eq_true_of_le (Nat.le_refl _)
    simp only [hm, HS, hall, hcc, mleft_ent]
    refine ⟨fun h0 => ?_, fun e1' he1 => ?_⟩
    · have h0 : ((curE L now seen).filter fun e => !(seen.contains e.b)) = [] := List.map_eq_nil_iff.1 h0
      have hseen : ∀ x ∈ L, seen.contains x.b = true := fun x hx => by
        cases hs : seen.contains x.b with
        | true => rfl
        | false => have : x ∈ (curE L now seen).filter fun e => !(seen.contains e.b) := List.mem_filter.2 ⟨List.mem_filter.2 ⟨hx, by rw [hs]; rfl⟩, by rw [hs]; rfl⟩
                   rw [h0] at this; cases this
      have e1 : curE L now seen = L.filter fun x => !(expd x.m now) := List.filter_congr fun x hx => by rw [hseen x hx, Bool.true_and]
      have e2 : cntE L now seen = (L.filter fun x => expd x.m now).length := congrArg List.length (List.filter_congr fun x hx => by rw [hseen x hx, Bool.true_and])
      rw [e2]
      rw [e1] at hm
      exact fin H1 hn hi hm
    · obtain ⟨e, he, rfl⟩ := List.mem_map.1 he1
      obtain ⟨q1, q2⟩ := List.mem_filter.1 he
      have heL : e ∈ L := (List.mem_filter.1 q1).1
      have hs : seen.contains e.b = false := by simpa using q2
      have hlt := unseen_lt heL hs
      have hb := born_at (hbnd.sublist (List.filter_sublist.map En.b)) q1
      have hb : mborn e.b ((curE L now seen).map ent) = some (ent e) := hb
      have hkey : mkeyAt e.b ((curE L now seen).map ent) = .str e.m.t := by simp only [mkeyAt, hb, ent]
      have hval : mvalAt e.b ((curE L now seen).map ent) = .agg e.m.enc := by simp only [mvalAt, hb, ent]
      have e11 : (ent e).1 = e.b := rfl
      simp only [e11, hb, hkey, hval, Option.isSome_some, HS, Mg.enc]
      refine cp32 (m := e.m) fun H' => ?_
      have hpm := seen_perm hbnd heL hs fun x => expd x now
      have hps : (L.filter fun x => !((e.b :: seen).contains x.b && expd x.m now)) = (if expd e.m now then (curE L now seen).filter fun x => !(Nat.beq x.b e.b) else curE L now seen) := by
        have hnb : ∀ x ∈ L, (x.b == e.b) = true → x = e := fun x hx hb' => by
          have h1 := born_at hbnd hx
          have h2 := born_at hbnd heL
          have hbb : x.b = e.b := by simpa using hb'
          obtain ⟨P, S, rfl⟩ := List.append_of_mem heL
          have hne : ∀ y ∈ P ++ S, y.b ≠ e.b := by
            have h2 : (e.b :: (P ++ S).map En.b).Nodup := by
              refine (List.Perm.nodup_iff ?_).1 hbnd
              simp only [List.map_append, List.map_cons]
              exact List.perm_middle
            intro y hy k'
            exact (List.nodup_cons.1 h2).1 (List.mem_map.2 ⟨y, hy, k'⟩)
          simp only [List.mem_append, List.mem_cons] at hx
          rcases hx with hx | hx | hx
          · exact absurd hbb (hne x (by simp [hx]))
          · exact hx
          · exact absurd hbb (hne x (by simp [hx]))
        unfold curE
        split
        · rename_i hx
          rw [List.filter_filter]
          refine List.filter_congr fun x hxL => ?_
          simp only [List.contains_cons]
          cases hbe : (x.b == e.b)
          · have : Nat.beq x.b e.b = false := by
              cases h : Nat.beq x.b e.b with
              | false => rfl
              | true => rw [Nat.eq_of_beq_eq_true h] at hbe; simp at hbe
            simp [this]
          · have hxe := hnb x hxL hbe
            subst hxe
            simp [hx]
        · rename_i hx
          refine List.filter_congr fun x hxL => ?_
          simp only [List.contains_cons]
          cases hbe : (x.b == e.b)
          · simp
          · have hxe := hnb x hxL hbe
            subst hxe
            simp [hx]
      have hcl := hpm.length_eq
      cases hx : expd e.m now
      · simp only [hx, HS]
        rw [hx] at hps hcl
        simp only [Bool.false_eq_true, if_false, List.nil_append] at hps hcl
        have hcn : cntE L now seen = cntE L now (e.b :: seen) := hcl.symm
        rw [hcn]
        refine ih (e.b :: seen) _ _ (by omega) (Nat.le_trans hn (Nat.le_max_left _ _)) hi ?_
        show H1.get m = .map ((L.filter fun x => !((e.b :: seen).contains x.b && expd x.m now)).map ent) c
        rw [hps]
        exact hm
      · have hcj : H1.get j = .cells [.int .i64 mx, .map m] := (hi j hjm).trans hc0
        simp only [hx, HS, hcj, hm, fits_all]
        rw [hx] at hps hcl
        simp only [if_true, List.length_append, List.length_singleton] at hps hcl
        have hcn : addW .i64 (cntE L now seen : Int) 1 = (cntE L now (e.b :: seen) : Int) := by
          have hle : (L.filter fun x => seen.contains x.b && expd x.m now).length ≤ L.length := List.length_filter_le _ _
          unfold cntE
          rw [addW_eq (by omega) (by omega), hcl]
          omega
        rw [hcn]
        obtain ⟨A, B, hAB⟩ := List.append_of_mem q1
        have hnn : ((A ++ e :: B).map fun e => e.m.t).Nodup := hAB ▸ hnnd.sublist (List.filter_sublist.map _)
        have hne := mid_ne hnn
        have hbn : ((A ++ e :: B).map En.b).Nodup := hAB ▸ hbnd.sublist (List.filter_sublist.map _)
        have hdel : mdel (.str e.m.t) ((curE L now seen).map ent) = (A ++ B).map ent := by rw [hAB]; exact del_mid fun x hx => hne x (by simp [hx])
        have hcur : ((curE L now seen).filter fun x => !(Nat.beq x.b e.b)) = A ++ B := by
          rw [hAB, List.filter_append, List.filter_cons]
          have hbe : Nat.beq e.b e.b = true := Nat.beq_refl _
          have hall : ∀ l : List En, (∀ x ∈ l, x ∈ A ++ B) → (l.filter fun x => !(Nat.beq x.b e.b)) = l := fun l hl => List.filter_eq_self.2 fun x hx => by
            have h2 : (e.b :: (A ++ B).map En.b).Nodup := by
              refine (List.Perm.nodup_iff ?_).1 hbn
              simp only [List.map_append, List.map_cons]
              exact List.perm_middle
            cases h : Nat.beq x.b e.b with
            | false => rfl
            | true => exact absurd (List.mem_map.2 ⟨x, hl x hx, Nat.eq_of_beq_eq_true h⟩) (List.nodup_cons.1 h2).1
          simp only [hbe, Bool.not_true, Bool.false_eq_true, if_false]
          rw [hall A fun x h => by simp [h], hall B fun x h => by simp [h]]
        rw [hdel]
        refine ih (e.b :: seen) _ _ (by omega) (Nat.le_trans hn (Nat.le_max_left _ _)) (fun i hne' => ?_) ?_
        · rw [set_get_ne _ _ hne']
          exact hi i hne'
        · rw [set_get_self]
          show _ = HB.map ((L.filter fun x => !((e.b :: seen).contains x.b && expd x.m now)).map ent) c
          rw [hps, hcur]
theorem exp_at {t : Rt} (hH : HR s H) (hs : s j = some t) (h : ∀ H1, HR (upd s j ⟨t.mx, fresh t.l now⟩) H1 → K (.int .i64 ((t.l.length - (fresh t.l now).length : Nat) : Int)) H1) : C 25 [.obj j 0, .int .i64 now] H K := by
  obtain ⟨g, h1, h2⟩ := id hH
  obtain ⟨⟨c, L, hL⟩, hj1, hj2, hj3⟩ := h1 j t hs
  refine F25.call ?_
  unfold F25.t
  simp only [hL.cell, hL.map, HS]
  have hlen : L.length = t.l.length := by rw [← hL.perm.length_eq, List.length_map]
  have hsm := hL.ok.small
  have c0 : curE L now [] = L := List.filter_eq_self.2 fun x _ => rfl
  have n0 : cntE L now [] = 0 := by
    unfold cntE
    rw [List.filter_eq_nil_iff.2 fun x _ => by simp]
    rfl
  have hperm : ((L.filter fun x => !(expd x.m now)).map En.m).Perm (fresh t.l now) := by
    have := hL.perm.filter fun x => !(expd x now)
    rwa [List.filter_map] at this
  have hcount : (L.filter fun x => expd x.m now).length = t.l.length - (fresh t.l now).length := by
    have a1 := hperm.length_eq
    rw [List.length_map] at a1
    have a2 : ∀ l : List En, (l.filter fun x => expd x.m now).length + (l.filter fun x => !(expd x.m now)).length = l.length := by
      intro l
      induction l with
      | nil => rfl
      | cons x l ih =>
        rw [List.filter_cons, List.filter_cons]
        cases expd x.m now <;> simp only [Bool.false_eq_true, Bool.not_false, Bool.not_true, if_true, if_false, List.length_cons] <;> omega
    have a3 := a2 L
    omega
  have := exp_loop (K := K) (now := now) (j := j) (L := L) (H0 := H) (c := c) hL.cell hj3 hL.born hL.bnd hL.nnd (by omega) (fun H1 q1 q2 q3 => by
    rw [hcount]
    exact h H1 (HR.upd h1 h2 hs q1 q2 ⟨c, _, by rw [q2 j hj3]; exact hL.cell, q3, fun e he => hL.born e (List.mem_filter.1 he).1, hL.bnd.sublist (List.filter_sublist.map En.b), hperm, hL.ok.sub⟩)) _ [] c H (Nat.le_refl _) (Nat.le_refl _) (fun _ _ => rfl) (by rw [c0]; exact hL.map)
  rw [n0] at this
  exact this
noncomputable def ExpR.B (args : List AV) (s : Sg) (k : AV → Sg → Option β) : Option β :=
  match args with
  | [.obj j 0, .int .i64 now] => match s j with | some t => k (.int .i64 ((t.l.length - (fresh t.l now).length : Nat) : Int)) (upd s j ⟨t.mx, fresh t.l now⟩) | none => none
  | _ => none
theorem ExpR.ls (hH : HR s H) (h : ∀ w s1 H1, HR s1 H1 → k w s1 = some r → K w H1) : ExpR.B [.obj j 0, .int .i64 now] s k = some r → C 25 [.obj j 0, .int .i64 now] H K := by
  intro e
  simp only [ExpR.B] at e
  cases hs : s j with
  | none => rw [hs] at e; cases e
  | some t =>
  rw [hs] at e
  exact exp_at hH hs fun H1 h1 => h _ _ _ h1 e
end
end Go.Proofs.YtgmkkjmdflhbnaaDoor.Ab
end
section
namespace Go.Proofs.YtgmkkjmdflhbnaaDoor.Ab
open Go
set_option maxHeartbeats 4000000
theorem pad_length {k m : Nat} {xs : List (List AV)} (h : xs.length ≤ m) : (pad k m xs).length = m := by simp [pad]; omega
theorem pad_take {k c : Nat} {ys : List (List AV)} : (pad k c ys).take ys.length = ys := by simp [pad]
theorem sort_spec {j o n c : Nat} {xs ys : List (List AV)} {H : Heap} {Q : Qt} (hj : H.get j = .rows 9 xs) (hy : ys = (xs.drop o).take n) (hle : o + n ≤ xs.length) (hb : n ≤ 100000) (hst : ∀ y ∈ ys, strsB [0] y = true)
    (hQ : ∀ zs : List (List AV), zs.Perm ys → srtA [0] zs → Q (.tup []) (H.set j (.rows 9 (splice xs o zs)))) : C 35 [.hs j o n c 9, .fn 36 []] H Q := by
  refine Call_intro (E := E0) ?_
  show ∃ Q' : AV → Heap → Prop, (∀ v H, Q' v H → Q v H) ∧ E0.leaf 35 [.hs j o n c 9, .fn 36 []] H Q'
  exact ⟨Q, fun _ _ h => h, .inl ⟨rfl, .inl ⟨j, o, n, c, xs, ys, rfl, hj, hy, hle, by omega, hst, hQ⟩⟩⟩
theorem sort_nil {H : Heap} {Q : Qt} (hQ : Q (.tup []) H) : C 35 [.nilsl, .fn 36 []] H Q := by
  refine Call_intro (E := E0) ?_
  show ∃ Q' : AV → Heap → Prop, (∀ v H, Q' v H → Q v H) ∧ E0.leaf 35 [.nilsl, .fn 36 []] H Q'
  exact ⟨Q, fun _ _ h => h, .inl ⟨rfl, .inr ⟨rfl, hQ⟩⟩⟩
theorem strs_msg (m : Mg) : strsB [0] m.enc = true := rfl
theorem key_msg (m : Mg) : keyA [0] m.enc = [bs m.t] := rfl
theorem ltKs_one (a b : List UInt8) : ltKs [a] [b] = decide (a < b) := by
  unfold ltKs cmpKs cmpKs
  rcases cmpB_cases a b with ⟨p, q⟩ | ⟨p, q⟩ | ⟨p, q⟩
  · rw [if_neg (by omega)]; simp [p, q]
  · rw [if_pos p]; subst q; simp [List.lt_irrefl]
  · rw [if_neg (by omega)]
    have h1 : ¬ Lib.compareBytes a b < 0 := by omega
    have h2 : ¬ a < b := List.lt_asymm q
    simp [h1, h2]
theorem sort_uniq {A B : List Mg} (hp : A.Perm B) (hB : Srt B) {zs : List (List AV)} (h1 : zs.Perm (msgs A)) (h2 : srtA [0] zs) : zs = msgs B := by
  have hz : ∀ z ∈ zs, ((unM z).getD zeroM).enc = z := fun z hz => by
    obtain ⟨m, hm, rfl⟩ := List.mem_map.1 ((h1.mem_iff).1 hz)
    rw [unM_enc]
    rfl
  have e1 : zs = msgs (zs.map fun z => (unM z).getD zeroM) := by
    unfold msgs
    rw [List.map_map]
    conv => lhs; rw [← List.map_id zs]
    exact List.map_congr_left fun z h => (hz z h).symm
  have hp2 : (zs.map fun z => (unM z).getD zeroM).Perm B := by
    refine List.Perm.trans ?_ hp
    have := h1.map fun z => (unM z).getD zeroM
    have e : (msgs A).map (fun z => (unM z).getD zeroM) = A := by
      unfold msgs
      rw [List.map_map]
      conv => rhs; rw [← List.map_id A]
      exact List.map_congr_left fun m _ => by show (unM m.enc).getD zeroM = m; rw [unM_enc]; rfl
    rwa [e] at this
  rw [e1]
  congr 1
  refine srt_uniq ?_ hB hp2
  unfold srtA at h2
  rw [e1] at h2
  unfold msgs at h2
  rw [List.pairwise_map] at h2
  refine h2.imp fun {a b} h => ?_
  rw [key_msg, key_msg, ltKs_one] at h
  rw [ltS_eq]
  exact h
theorem sort_turn {A B : List Mg} (hb : A.length ≤ 100000) (hp : A.Perm B) (hB : Srt B) {H : Heap} {K : List (List AV) → Heap → Prop} (h : ∀ H1, H.next ≤ H1.next → (∀ i, H1.get i = H.get i) → K (msgs B) H1) : ioTurn C 35 9 (msgs A) [.fn 36 []] H K := by
  refine ⟨fun m hm _ => ?_, fun e => ?_⟩
  · rw [length_msgs] at hm ⊢
    have hpl : (pad 9 m (msgs A)).length = m := pad_length (by rw [length_msgs]; exact hm)
    have hpt : (pad 9 m (msgs A)).take A.length = msgs A := by rw [← length_msgs]; exact pad_take
    refine sort_spec (push_get_self _ _) (ys := msgs A) (by rw [List.drop_zero]; exact hpt.symm) (by rw [hpl]; omega) hb (fun y hy => by obtain ⟨x, _, rfl⟩ := List.mem_map.1 hy; exact strs_msg x) fun zs h1 h2 => ?_
    rw [sort_uniq hp hB h1 h2]
    have hs : (msgs B).length = A.length := by rw [length_msgs, hp.length_eq]
    refine ⟨rfl, fun i hi => ?_, _, set_get_self _ _ _, by rw [splice_length (by rw [hpl]; omega), hpl], ?_⟩
    · rw [set_get_ne _ _ (by omega), push_get_ne _ _ (by omega)]
    · simp only [splice, List.take_zero, List.nil_append]
      rw [List.take_append_of_le_length (by omega), List.take_of_length_le (by omega)]
      refine h _ (Nat.le_succ _) fun i => ?_
      by_cases e : i = H.next
      · subst e; exact set_get_self _ _ _
      · rw [set_get_ne _ _ e, set_get_ne _ _ e, push_get_ne _ _ e]
  · have : A = [] := by cases A with | nil => rfl | cons z zs => simp [msgs] at e
    subst this
    have hB0 : B = [] := List.length_eq_zero_iff.1 (by rw [← hp.length_eq]; rfl)
    subst hB0
    exact sort_nil ⟨rfl, h H (Nat.le_refl _) fun _ => rfl⟩
section
variable {β : Type} {r : β} {j : Nat} {n f : ByteArray} {s : Sg} {H : Heap} {k : AV → Sg → Option β} {K : Qt} {now : Int}
def matQ (f : ByteArray) (now : Int) (m : Mg) : Bool := !(expd m now) && matchB f m.t
theorem mat_loop {m c : Nat} {L : List En} {H0 : Heap} (hm0 : H0.get m = .map (L.map ent) c) (hborn : ∀ e ∈ L, e.b < c) (hbnd : (L.map En.b).Nodup) (hlen : L.length ≤ 1000) (hps : ∀ e ∈ L, e.m.ps.length ≤ 8)
    (fin : ∀ (A : List Mg) (H1 : Heap), A.Perm ((L.filter fun x => matQ f now x.m).map En.m) → H0.next ≤ H1.next → (∀ i, H1.get i = H0.get i) → ioTurn C 35 9 (msgs A) [.fn 36 []] H1 fun y H2 => K (.sl 0 9 y) H2) :
    ∀ (k : Nat) (seen : List Nat) (A : List Mg) (b : Nat) (H1 : Heap), (L.filter fun x => !(seen.contains x.b)).length ≤ k → A.Perm ((L.filter fun x => seen.contains x.b && matQ f now x.m).map En.m) → H0.next ≤ H1.next → (∀ i, H1.get i = H0.get i) →
      F16.L0 j f now K (msgs A) seen m c b H1 := by
  have hall : ((L.map ent).all fun e => Nat.blt e.1 c) = true := by
    simp only [List.all_map, List.all_eq_true, Function.comp]
    intro e he
    exact Nat.ble_eq_true_of_le (hborn e he)
  have hcc : Nat.ble c c = true := Nat.ble_eq_true_of_le (Nat.le_refl _)
  have hend : ∀ (seen : List Nat) (A : List Mg) (H1 : Heap), (L.filter fun x => !(seen.contains x.b)) = [] → A.Perm ((L.filter fun x => seen.contains x.b && matQ f now x.m).map En.m) → H0.next ≤ H1.next → (∀ i, H1.get i = H0.get i) →
      ioTurn C 35 9 (msgs A) [.fn 36 []] H1 fun y H2 => K (.sl 0 9 y) H2 := by
    intro seen A H1 h0 hA hn hi
    have hseen : ∀ x ∈ L, seen.contains x.b = true := fun x hx => by
      cases hs : seen.contains x.b with
      | true => rfl
      | false => have : x ∈ L.filter fun x => !(seen.contains x.b) := List.mem_filter.2 ⟨hx, by rw [hs]; rfl⟩
                 rw [h0] at this; cases this
    have e1 : (L.filter fun x => seen.contains x.b && matQ f now x.m) = L.filter fun x => matQ f now x.m := List.filter_congr fun x hx => by rw [hseen x hx, Bool.true_and]
    rw [e1] at hA
    exact fin A H1 hA hn hi
  intro k
  induction k with
  | zero =>
    intro seen A b H1 hk hA hn hi
    have h0 : (L.filter fun x => !(seen.contains x.b)) = [] := List.length_eq_zero_iff.1 (by omega)
    refine F16.L0_step ?_
    unfold F16.r0
    simp only [hi m, hm0, HS, hall, hcc, mleft_ent]
    refine ⟨fun _ => hend seen A H1 h0 hA hn hi, fun e1 he1 => ?_⟩
    rw [h0] at he1
    cases he1
  | succ k ih =>
    intro seen A b H1 hk hA hn hi
    refine F16.L0_step ?_
    unfold F16.r0
    simp only [hi m, hm0, HS, hall, hcc, mleft_ent]
    refine ⟨fun h0 => hend seen A H1 (List.map_eq_nil_iff.1 h0) hA hn hi, fun e1 he1 => ?_⟩
    obtain ⟨e, he, rfl⟩ := List.mem_map.1 he1
    obtain ⟨heL, q2⟩ := List.mem_filter.1 he
    have hs : seen.contains e.b = false := by simpa using q2
    have hlt := unseen_lt heL hs
    have hb := born_at hbnd heL
    have hkey : mkeyAt e.b (L.map ent) = .str e.m.t := by simp only [mkeyAt, hb, ent]
    have hval : mvalAt e.b (L.map ent) = .agg e.m.enc := by simp only [mvalAt, hb, ent]
    have e11 : (ent e).1 = e.b := rfl
    have hpm := (seen_perm hbnd heL hs fun x => matQ f now x).map En.m
    have hAl : A.length ≤ 1000 := by
      rw [hA.length_eq, List.length_map]
      exact Nat.le_trans (List.length_filter_le _ _) hlen
    simp only [e11, hb, hkey, hval, Option.isSome_some, HS, Mg.enc]
    refine cp32 (m := e.m) fun H2 => ?_
    have next : ∀ H3 : Heap, matQ f now e.m = false → H0.next ≤ H3.next → (∀ i, H3.get i = H0.get i) → F16.L0 j f now K (msgs A) (e.b :: seen) m c c H3 := fun H3 hq h3 h4 => by
      rw [hq] at hpm
      exact ih _ _ _ _ (by omega) (hA.trans hpm.symm) h3 h4
    cases hx : expd e.m now
    · simp only [HS]
      refine cp33 fun H3 => ?_
      cases hf : matchB f e.m.t
      · simp only [HS]
        exact next _ (by simp [matQ, hx, hf]) (Nat.le_trans hn (Nat.le_trans (Nat.le_max_left _ _) (Nat.le_max_left _ _))) hi
      · simp only [HS]
        have hpe := hps e heL
        refine cp34 (m := e.m) (by omega) fun H4 => ?_
        simp only [HS, Mg.enc, room_msg (show A.length ≤ 10000 by omega)]
        have hq : matQ f now e.m = true := by simp [matQ, hx, hf]
        rw [hq] at hpm
        rw [msgs_snoc]
        refine ih _ _ _ _ (by omega) ?_ (Nat.le_trans hn (Nat.le_trans (Nat.le_max_left _ _) (Nat.le_trans (Nat.le_max_left _ _) (Nat.le_max_left _ _)))) hi
        refine List.Perm.trans ?_ hpm.symm
        refine List.perm_append_comm.trans ?_
        exact List.Perm.append_left [e.m] hA
    · simp only [HS]
      exact next _ (by simp [matQ, hx]) (Nat.le_trans hn (Nat.le_max_left _ _)) hi
noncomputable def MatR.B (args : List AV) (s : Sg) (k : AV → Sg → Option β) : Option β :=
  match args with
  | [.obj j 0, .str f, .int .i64 now] => match s j with | some t => k (.sl 0 9 (msgs (matM t.l f now))) s | none => none
  | _ => none
theorem MatR.ls (hH : HR s H) (h : ∀ w s1 H1, HR s1 H1 → k w s1 = some r → K w H1) : MatR.B [.obj j 0, .str f, .int .i64 now] s k = some r → C 16 [.obj j 0, .str f, .int .i64 now] H K := by
  intro e
  simp only [MatR.B] at e
  cases hs : s j with
  | none => rw [hs] at e; cases e
  | some t =>
  rw [hs] at e
  obtain ⟨g, h1, h2⟩ := id hH
  obtain ⟨⟨c, L, hL⟩, hj1, hj2, hj3⟩ := h1 j t hs
  refine F16.call ?_
  unfold F16.t
  simp only [hL.cell, hL.map, HS]
  have hlen : L.length = t.l.length := by rw [← hL.perm.length_eq, List.length_map]
  have hsm := hL.ok.small
  have hperm : ((L.filter fun x => matQ f now x.m).map En.m).Perm (matM t.l f now) := by
    have := hL.perm.filter fun x => matQ f now x
    rwa [List.filter_map] at this
  have hsrt : Srt (matM t.l f now) := hL.ok.srt.sublist List.filter_sublist
  have := mat_loop (K := K) (f := f) (now := now) (j := j) (L := L) (H0 := H) (c := c) hL.map hL.born hL.bnd (by omega) (fun e he => hL.ok.ps _ ((hL.perm.mem_iff).1 (List.mem_map_of_mem he))) (fun A H1 hA q1 q2 => by
    have hp := hA.trans hperm
    refine sort_turn ?_ hp hsrt fun H2 q3 q4 => h _ _ _ (hH.sameH (Nat.le_trans q1 q3) fun i => (q4 i).trans (q2 i)) e
    rw [hp.length_eq]
    have := List.length_filter_le (fun m => !(expd m now) && matchB f m.t) t.l
    unfold matM
    omega) _ [] [] c H (Nat.le_refl _) (by rw [List.filter_eq_nil_iff.2 fun x _ => by simp]; exact .nil) (Nat.le_refl _) fun _ => rfl
  exact this
theorem ent_snoc {L : List En} {e : En} : (L ++ [e]).map ent = L.map ent ++ [ent e] := by simp
theorem Lay.ins {H H' : Heap} {j m c : Nat} {t : Rt} {L : List En} {x : Mg} (h : Lay H j m c t L) (hnm : ∀ e ∈ L, e.m.t ≠ x.t) (hj : H'.get j = H.get j) (hm : H'.get m = .map ((L ++ [(⟨c, x⟩ : En)]).map ent) (c + 1)) (ok : ROk ⟨t.mx, withM (without t.l x.t) x⟩) (hno : find t.l x.t = none) :
    Lay H' j m (c + 1) ⟨t.mx, withM (without t.l x.t) x⟩ (L ++ [⟨c, x⟩]) where
  cell := by rw [hj]; exact h.cell
  map := hm
  born e he := by
    rcases List.mem_append.1 he with he | he
    · have := h.born e he; omega
    · rw [List.mem_singleton.1 he]; exact Nat.lt_succ_self _
  bnd := by
    rw [List.map_append]
    refine nodup_append' h.bnd (by simp) fun b hb q => ?_
    simp only [List.map_cons, List.map_nil, List.mem_singleton] at hb
    obtain ⟨y, hy, e1⟩ := List.mem_map.1 q
    have := h.born y hy
    omega
  perm := by
    rw [without_no hno, List.map_append]
    refine List.Perm.trans ?_ (withM_perm _ _).symm
    refine List.perm_append_comm.trans ?_
    exact List.Perm.cons x h.perm
  ok := ok
theorem Lay.rep {H H' : Heap} {j m c : Nat} {t : Rt} {A B : List En} {e : En} {x : Mg} (h : Lay H j m c t (A ++ e :: B)) (hx : x.t = e.m.t) (hj : H'.get j = H.get j) (hm : H'.get m = .map ((A ++ ⟨e.b, x⟩ :: B).map ent) c) (ok : ROk ⟨t.mx, withM (without t.l x.t) x⟩) :
    Lay H' j m c ⟨t.mx, withM (without t.l x.t) x⟩ (A ++ ⟨e.b, x⟩ :: B) where
  cell := by rw [hj]; exact h.cell
  map := hm
  born y hy := by
    simp only [List.mem_append, List.mem_cons] at hy
    rcases hy with q | rfl | q
    · exact h.born y (by simp [q])
    · exact h.born e (by simp)
    · exact h.born y (by simp [q])
  bnd := by have := h.bnd; simpa using this
  perm := by
    refine List.Perm.trans (perm_mid (e := ⟨e.b, x⟩)) ?_
    refine List.Perm.trans ?_ (withM_perm _ _).symm
    refine List.Perm.cons x ?_
    rw [hx]
    exact perm_without (mid_ne h.nnd) h.perm
  ok := ok
theorem Lay.del {H H' : Heap} {j m c : Nat} {t : Rt} {A B : List En} {e : En} (h : Lay H j m c t (A ++ e :: B)) (hj : H'.get j = H.get j) (hm : H'.get m = .map ((A ++ B).map ent) c) : Lay H' j m c ⟨t.mx, without t.l e.m.t⟩ (A ++ B) where
  cell := by rw [hj]; exact h.cell
  map := hm
  born y hy := h.born y (by simp only [List.mem_append, List.mem_cons] at hy ⊢; rcases hy with q | q <;> simp [q])
  bnd := h.bnd.sublist (List.Sublist.map _ sub_mid)
  perm := perm_without (mid_ne h.nnd) h.perm
  ok := h.ok.sub
theorem Lay.same {H H' : Heap} {j m c : Nat} {t : Rt} {L : List En} (h : Lay H j m c t L) (hj : H'.get j = H.get j) (hm : H'.get m = H.get m) : Lay H' j m c t L := ⟨by rw [hj]; exact h.cell, by rw [hm]; exact h.map, h.born, h.bnd, h.perm, h.ok⟩
noncomputable def PutR.B (args : List AV) (s : Sg) (k : AV → Sg → Option β) : Option β :=
  match args with
  | [.obj j 0, .agg cs, .int .i64 now] => match s j, unM cs with | some t, some m => k (.int .i64 (putM t.mx t.l m now).2) (upd s j ⟨t.mx, (putM t.mx t.l m now).1⟩) | _, _ => none
  | _ => none
theorem upd_self {j : Nat} {t : Rt} (hs : s j = some t) : upd s j t = s := by
  funext i
  unfold upd
  split
  · rename_i e; rw [e, hs]
  · rfl
theorem del_at {t : Rt} {n : ByteArray} (hH : HR s H) (hs : s j = some t) {v : AV} (h : ∀ H1, HR (upd s j ⟨t.mx, without t.l n⟩) H1 → K v H1) :
    G ((H.get j).isCells) (cond ((ce ((H.get j).cs) 1).isMap)
          (G ((H.get ((ce ((H.get j).cs) 1).mapJ)).isMapOf [.str] false) (K v (H.set ((ce ((H.get j).cs) 1).mapJ) (.map (mdel (.str n) (H.get ((ce ((H.get j).cs) 1).mapJ)).es) (H.get ((ce ((H.get j).cs) 1).mapJ)).clock))))
          (G ((ce ((H.get j).cs) 1).isNilmap) (False))) := by
  obtain ⟨g, h1, h2⟩ := id hH
  obtain ⟨⟨c, L, hL⟩, hj1, hj2, hj3⟩ := h1 j t hs
  simp only [hL.cell, hL.map, HS, fits_all]
  refine h _ ?_
  refine HR.upd h1 h2 hs (Nat.le_refl _) (fun i hi => set_get_ne _ _ hi) ?_
  rcases find_case hL.nnd hL.perm n with ⟨a, b, q⟩ | ⟨A, x, B, rfl, rfl, hx, hg, hh, hm⟩
  · rw [without_no b, del_none a]
    exact ⟨c, L, hL.same (set_get_ne _ _ hj3) ((set_get_self _ _ _).trans hL.map.symm)⟩
  · rw [del_mid fun y hy => hx y (by simp [hy])]
    exact ⟨c, A ++ B, hL.del (set_get_ne _ _ hj3) (set_get_self _ _ _)⟩
theorem put_last {t : Rt} {m : Mg} (hH : HR s H) (hs : s j = some t) (hp : m.ps.length ≤ 8) (ok : ROk ⟨t.mx, withM (without t.l m.t) m⟩) {mm : Nat} (hmm : ∀ c L, ∀ f : Nat → Nat, Lay H j (f j) c t L → HR s H → f j = mm ∨ True) (h : ∀ H1, HR (upd s j ⟨t.mx, withM (without t.l m.t) m⟩) H1 → K (.int .i64 0) H1) :
    ∀ {g : Nat → Nat}, (∀ j r, s j = some r → StoreAt H j (g j) r ∧ j < H.next ∧ g j < H.next ∧ j ≠ g j) → (∀ i j, s i ≠ none → s j ≠ none → i ≠ j → i ≠ g j ∧ g i ≠ g j) →
    ∀ H' : Heap, G (((H.past H').get (g j)).isMapOf [.str] false) (K (.int .i64 0) ((H.past H').set (g j) (.map (mput (.str m.t) (.agg m.enc) ((H.past H').get (g j)).clock ((H.past H').get (g j)).es) (cond (mhas (.str m.t) ((H.past H').get (g j)).es) ((H.past H').get (g j)).clock (((H.past H').get (g j)).clock + 1))))) := by
  intro g h1 h2 H'
  obtain ⟨⟨c, L, hL⟩, hj1, hj2, hj3⟩ := h1 j t hs
  simp only [HS, hL.map, fits_all]
  refine h _ ?_
  have hn : H.next ≤ ((H.past H').set (g j) (.map (mput (.str m.t) (.agg m.enc) c (L.map ent)) (cond (mhas (.str m.t) (L.map ent)) c (c + 1)))).next := Nat.le_max_left _ _
  refine HR.upd h1 h2 hs hn (fun i hi => set_get_ne _ _ hi) ?_
  rcases find_case hL.nnd hL.perm m.t with ⟨a, b, q⟩ | ⟨A, x, B, rfl, hxt, hx, hg, hh, hm⟩
  · refine ⟨c + 1, L ++ [⟨c, m⟩], hL.ins a (show _ = _ from set_get_ne (H.past H') _ hj3) ?_ ok b⟩
    rw [set_get_self, put_none a, q, ent_snoc]
    rfl
  · refine ⟨c, A ++ ⟨x.b, m⟩ :: B, hL.rep hxt.symm (show _ = _ from set_get_ne (H.past H') _ hj3) ?_ ok⟩
    rw [set_get_self, hh]
    have := put_mid (A := A) (B := B) (e := x) (v := .agg m.enc) (c := c) fun y hy => by rw [hxt]; exact hx y (by simp [hy])
    rw [← hxt, this]
    simp [ent, hxt]
theorem put_enc {m : Mg} (hH : HR s H) (h : ∀ w s1 H1, HR s1 H1 → k w s1 = some r → K w H1) : PutR.B [.obj j 0, .agg m.enc, .int .i64 now] s k = some r → C 22 [.obj j 0, .agg m.enc, .int .i64 now] H K := by
  intro e
  simp only [PutR.B, unM_enc] at e
  cases hs : s j with
  | none => rw [hs] at e; cases e
  | some t =>
  rw [hs] at e
  simp only at e
  have hok : ROk t := by
    obtain ⟨g, h1, h2⟩ := hH
    obtain ⟨⟨c, L, hL⟩, _⟩ := h1 j t hs
    exact hL.ok
  have okp := hok.put m now
  refine F22.call ?_
  unfold F22.t
  refine cp49 (m := m) fun H1 => ?_
  have hH1 : HR s (H.past H1) := hH.past
  generalize H.past H1 = Ha at hH1 ⊢
  by_cases hc : chkM m = 0
  case neg =>
    have hr : chkR m = chkM m := by unfold chkR; rw [if_neg hc]
    have : eqI (chkM m) 0 = false := by simp [eqI, hc]
    simp only [HS, this]
    have hput : putM t.mx t.l m now = (t.l, chkM m) := by unfold putM; rw [if_neg (by rw [hr]; exact hc), hr]
    rw [hput] at e
    refine h _ _ _ ?_ e
    rw [upd_self hs]
    exact hH1
  have : eqI (chkM m) 0 = true := by simp [eqI, hc]
  have hps := chkM_ps hc
  simp only [HS, this]
  rcases Bool.eq_false_or_eq_true m.rt with hrt | hrt
  rotate_left
  · have hnb : (!m.rt) = true := by rw [hrt]; rfl
    have hr : chkR m = 28 := by unfold chkR; rw [if_pos hc, hrt]; rfl
    have hput : putM t.mx t.l m now = (t.l, 28) := by unfold putM; rw [if_neg (by rw [hr]; omega), hr]
    rw [hput] at e
    simp only [hnb, HS]
    refine h _ _ _ ?_ e
    rw [upd_self hs]
    exact hH1
  have hnb : (!m.rt) = false := by rw [hrt]; rfl
  have hr : chkR m = 0 := by unfold chkR; rw [if_pos hc, hrt]; rfl
  simp only [hnb, HS]
  cases hpl : eqS m.p ⟨#[]⟩
  rotate_left
  · have hput : putM t.mx t.l m now = (without t.l m.t, 0) := by unfold putM; rw [if_pos hr, hpl]; rfl
    rw [hput] at e
    simp only [HS]
    exact del_at hH1 hs fun H2 h2 => h _ _ _ h2 e
  simp only [HS]
  refine cp32 (m := m) fun H2 => ?_
  have hH2 : HR s (Ha.past H2) := hH1.past
  generalize Ha.past H2 = Hb at hH2 ⊢
  cases hx : expd m now
  rotate_left
  · have hput : putM t.mx t.l m now = (without t.l m.t, 0) := by unfold putM; rw [if_pos hr, hpl, hx]; rfl
    rw [hput] at e
    simp only [HS]
    exact del_at hH2 hs fun H2 h2 => h _ _ _ h2 e
  simp only [HS]
  obtain ⟨g, h1, h2⟩ := id hH2
  obtain ⟨⟨c, L, hL⟩, hj1, hj2, hj3⟩ := h1 j t hs
  simp only [hL.cell, hL.map, HS, fits_all]
  have hcount : lenI (L.map ent) = (t.l.length : Int) := by
    have := hL.perm.length_eq
    simp only [lenI, List.length_map] at this ⊢
    omega
  rw [hcount]
  have lastly : ∀ {sa : Sg} {Hc : Heap} {ta : Rt} {e1 : Int}, HR sa Hc → sa j = some ta → (∀ {r2}, upd sa j r2 = upd s j r2) → ta.mx = t.mx → putM t.mx t.l m now = (withM (without ta.l m.t) m, 0) → ∀ {g' : Nat → Nat}, (∀ j r, sa j = some r → StoreAt Hc j (g' j) r ∧ j < Hc.next ∧ g' j < Hc.next ∧ j ≠ g' j) → (∀ i j, sa i ≠ none → sa j ≠ none → i ≠ j → i ≠ g' j ∧ g' i ≠ g' j) → ∀ H' : Heap,
      G (((Hc.past H').get (g' j)).isMapOf [.str] false) (K (.int .i64 0) ((Hc.past H').set (g' j) (.map (mput (.str m.t) (.agg m.enc) ((Hc.past H').get (g' j)).clock ((Hc.past H').get (g' j)).es) (cond (mhas (.str m.t) ((Hc.past H').get (g' j)).es) ((Hc.past H').get (g' j)).clock (((Hc.past H').get (g' j)).clock + 1))))) := by
    intro sa Hc ta _ hHc hsa hu hmx hput g' h1' h2' H'
    rw [hput] at e okp
    have okp' : ROk ⟨ta.mx, withM (without ta.l m.t) m⟩ := by rw [hmx]; exact okp
    refine put_last (mm := 0) hHc hsa hps okp' (fun _ _ _ _ _ => .inr trivial) (fun H3 h3 => h _ _ _ (by rw [hu] at h3; rw [hmx] at h3; exact h3) e) h1' h2' H'
  rcases find_case hL.nnd hL.perm m.t with ⟨a, b, q⟩ | ⟨A, x, B, rfl, hxt, hx', hg, hh, hm⟩
  · simp only [q, HS]
    cases hle : leI t.mx t.l.length
    · simp only [HS]
      have hput : putM t.mx t.l m now = (withM (without t.l m.t) m, 0) := by unfold putM; rw [if_pos hr, hpl, hx, b]; simp [hle]
      refine cp34 (m := m) (by omega) fun H3 => ?_
      have := lastly (e1 := 0) hH2 hs rfl rfl hput h1 h2 H3
      simp only [HS, hL.map, Mg.enc] at this ⊢
      exact this
    · simp only [HS]
      refine exp_at hH2 hs fun H3 hH3 => ?_
      have hs3 : upd s j ⟨t.mx, fresh t.l now⟩ j = some ⟨t.mx, fresh t.l now⟩ := by unfold upd; rw [if_pos rfl]
      obtain ⟨g3, h13, h23⟩ := id hH3
      obtain ⟨⟨c3, L3, hL3⟩, hj13, hj23, hj33⟩ := h13 j _ hs3
      have hcount3 : lenI (L3.map ent) = ((fresh t.l now).length : Int) := by
        have := hL3.perm.length_eq
        simp only [lenI, List.length_map] at this ⊢
        omega
      simp only [hL3.cell, hL3.map, HS, hcount3]
      cases hle3 : leI t.mx (fresh t.l now).length
      · simp only [HS]
        have hput : putM t.mx t.l m now = (withM (without (fresh t.l now) m.t) m, 0) := by unfold putM; rw [if_pos hr, hpl, hx, b]; simp [hle, hle3]
        refine cp34 (m := m) (by omega) fun H4 => ?_
        have := lastly (e1 := 0) hH3 hs3 (by intro r2; funext i; unfold upd; split <;> rfl) rfl hput h13 h23 H4
        simp only [HS, hL3.map, Mg.enc] at this ⊢
        exact this
      · simp only [HS]
        have hput : putM t.mx t.l m now = (fresh t.l now, 6) := by unfold putM; rw [if_pos hr, hpl, hx, b]; simp [hle, hle3]
        rw [hput] at e
        exact h _ _ _ hH3 e
  · simp only [hh, hm, HS, Mg.enc]
    have hput : putM t.mx t.l m now = (withM (without t.l m.t) m, 0) := by unfold putM; rw [if_pos hr, hpl, hx, hg]; simp
    refine cp34 (m := m) (by omega) fun H3 => ?_
    have := lastly (e1 := 0) hH2 hs rfl rfl hput h1 h2 H3
    simp only [HS, hL.map, Mg.enc] at this ⊢
    exact this
theorem PutR.ls {cs : List AV} (hH : HR s H) (h : ∀ w s1 H1, HR s1 H1 → k w s1 = some r → K w H1) : PutR.B [.obj j 0, .agg cs, .int .i64 now] s k = some r → C 22 [.obj j 0, .agg cs, .int .i64 now] H K := by
  intro e
  cases hu : unM cs with
  | none =>
    simp only [PutR.B, hu] at e
    cases hs : s j <;> rw [hs] at e <;> cases e
  | some m =>
    have := unM_some hu
    subst this
    exact put_enc hH h e
end
end Go.Proofs.YtgmkkjmdflhbnaaDoor.Ab
end
section
namespace Go.Proofs.YtgmkkjmdflhbnaaDoor.Ab
open Go
set_option maxRecDepth 100000
set_option maxHeartbeats 4000000
namespace F12
noncomputable def P  : Option (AV) :=
 NewR.B [.int .i64 1] Sg.empty fun v_1 g_1 =>
 if (v_1).isObj then
 (PutR.B [.obj ((v_1).objJ) 0, .agg [.str (⟨#[97]⟩ : ByteArray), .str (⟨#[120]⟩ : ByteArray), .int .i64 0, .bool true, .int .i64 0, .int .i64 5, .str (⟨#[]⟩ : ByteArray), .int .i64 0, .sl 0 2 []], .int .i64 0] g_1 fun v_3 g_2 =>
 if (v_3).isInt .i64 then (PutR.B [.obj ((v_1).objJ) 0, .agg [.str (⟨#[98]⟩ : ByteArray), .str (⟨#[121]⟩ : ByteArray), .int .i64 0, .bool true, .int .i64 0, .int .i64 0, .str (⟨#[]⟩ : ByteArray), .int .i64 0, .sl 0 2 []], .int .i64 4] g_2 fun v_5 g_3 =>
 if (v_5).isInt .i64 then (GetR.B [.obj ((v_1).objJ) 0, .str (⟨#[97]⟩ : ByteArray), .int .i64 4] g_3 fun v_7 g_4 =>
 if ((v_7).isTup && Nat.beq (v_7).tupVs.length 2) then (if ((((v_7).tupVs).headD .any).isAgg && Nat.beq (((v_7).tupVs).headD .any).aggCs.length 9) then (if (((((v_7).tupVs).headD .any).aggCs).headD .any).isStr then (if ((((((v_7).tupVs).headD .any).aggCs).tail).headD .any).isStr then (if (((((((v_7).tupVs).headD .any).aggCs).tail).tail).headD .any).isInt .i64 then (if ((((((((v_7).tupVs).headD .any).aggCs).tail).tail).tail).headD .any).isBool then (if (((((((((v_7).tupVs).headD .any).aggCs).tail).tail).tail).tail).headD .any).isInt .i64 then (if ((((((((((v_7).tupVs).headD .any).aggCs).tail).tail).tail).tail).tail).headD .any).isInt .i64 then (if (((((((((((v_7).tupVs).headD .any).aggCs).tail).tail).tail).tail).tail).tail).headD .any).isStr then (if ((((((((((((v_7).tupVs).headD .any).aggCs).tail).tail).tail).tail).tail).tail).tail).headD .any).isInt .i64 then (if (((((((((((((v_7).tupVs).headD .any).aggCs).tail).tail).tail).tail).tail).tail).tail).tail).headD .any).isSl 2 then (if ((((v_7).tupVs).tail).headD .any).isBool then (PutR.B [.obj ((v_1).objJ) 0, .agg [.str (⟨#[98]⟩ : ByteArray), .str (⟨#[121]⟩ : ByteArray), .int .i64 0, .bool true, .int .i64 0, .int .i64 0, .str (⟨#[]⟩ : ByteArray), .int .i64 0, .sl 0 2 []], .int .i64 5] g_4 fun v_9 g_5 =>
 if (v_9).isInt .i64 then (MatR.B [.obj ((v_1).objJ) 0, .str (⟨#[35]⟩ : ByteArray), .int .i64 5] g_5 fun v_11 g_6 =>
 if (v_11).isSl 9 then (if eqI ((v_3).toInt) 0 then
 (if eqI ((v_5).toInt) 6 then
 (if ((((v_7).tupVs).tail).headD .any).toBool then
 (if eqS (((((((v_7).tupVs).headD .any).aggCs).tail).headD .any).toStr) (⟨#[120]⟩ : ByteArray) then
 (if eqI ((v_9).toInt) 0 then
 (LenR.B [.obj ((v_1).objJ) 0] g_6 fun v_13 g_7 =>
 if (v_13).isInt .i64 then (if eqI ((v_13).toInt) 1 then
 (if eqI (lenI ((v_11).slXs)) 1 then
 (if ltI 0 (lenI ((v_11).slXs)) then (if (ce (ro ((v_11).slXs) 0) 0).isStr then some (.bool (eqS ((ce (ro ((v_11).slXs) 0) 0).toStr) (⟨#[98]⟩ : ByteArray))) else none) else none)
 else
 (some (.bool false)))
 else
 (some (.bool false))) else none)
 else
 (some (.bool false)))
 else
 (some (.bool false)))
 else
 (some (.bool false)))
 else
 (some (.bool false)))
 else
 (some (.bool false))) else none) else none) else none) else none) else none) else none) else none) else none) else none) else none) else none) else none) else none) else none) else none) else none)
 else
 (if (v_1).isNilp then some (.bool false) else none)
theorem ok  {Q : Qt} {v : AV} (hQ : ∀ H, Q v H) {H : Heap} (h : P  = some v) : C 12 [] H Q := by
  refine call ?_
  unfold t
  unfold P at h
  revert h
  have hH : HR Sg.empty H := HR.empty H
  repeat' first | exact lsV hQ | exact lsF | apply lsG | apply lsC | refine GetR.ls (by first | assumption | (repeat apply HR.past); assumption) fun _ _ _ _ => ?_ | refine LenR.ls (by first | assumption | (repeat apply HR.past); assumption) fun _ _ _ _ => ?_ | refine MatR.ls (by first | assumption | (repeat apply HR.past); assumption) fun _ _ _ _ => ?_ | refine NewR.ls (by first | assumption | (repeat apply HR.past); assumption) fun _ _ _ _ => ?_ | refine PutR.ls (by first | assumption | (repeat apply HR.past); assumption) fun _ _ _ _ => ?_
theorem ls {β : Type} {r : β}  {H : Heap} {k : AV → Option β} {K : Qt} (h : ∀ w H1, HR Sg.empty H1 → k w = some r → K w H1) : (P ).bind k = some r → C 12 [] H K := by
  intro e
  cases hp : P  with
  | none => rw [hp] at e; cases e
  | some w => rw [hp] at e; exact ok (fun H1 => h _ H1 (HR.empty H1) e) hp
end F12
namespace F13
noncomputable def P (a0j : Nat) (a1_0 : Int) (a1_1 : List (List AV)) (a2_0 a2_1 : Int) (a2_2 a2_3 : ByteArray) (a2_4 : Int) (a2_5 : Bool) (a2_6 a2_7 : Int) (a2_8 : ByteArray) (a2_9 : Int) (a2_10 : List (List AV)) (a2_11 : ByteArray) (a3 : Int) (g0 : Sg) : Option (AV × Sg) :=
 if eqI a2_0 0 then
 ((F21.P a1_0 a1_1 a2_2 a2_3 a2_4 a2_5 a2_6 a2_7 a2_8 a2_9 a2_10 a3).bind fun v_1 =>
 if ((v_1).isTup && Nat.beq (v_1).tupVs.length 2) then (if ((((v_1).tupVs).headD .any).isAgg && Nat.beq (((v_1).tupVs).headD .any).aggCs.length 2) then (let q_3 : List AV := (((v_1).tupVs).headD .any).aggCs;
 if (q_3.headD .any).isInt .i64 then (if (q_3.tail.headD .any).isSl 9 then (if ((((v_1).tupVs).tail).headD .any).isInt .i64 then (PutR.B [.obj a0j 0, .agg [.str a2_2, .str a2_3, .int .i64 a2_4, .bool a2_5, .int .i64 a2_6, .int .i64 a2_7, .str a2_8, .int .i64 a2_9, .sl 0 2 a2_10], .int .i64 a3] g0 fun v_4 g_1 =>
 if (v_4).isInt .i64 then some (.tup [.agg [.int .i64 ((q_3.headD .any).toInt), .sl 0 9 ((q_3.tail.headD .any).slXs)], .bool (eqI ((v_4).toInt) (((((v_1).tupVs).tail).headD .any).toInt))], g_1) else none) else none) else none) else none) else none) else none)
 else
 (if eqI a2_0 1 then
 (GetR.B [.obj a0j 0, .str a2_11, .int .i64 a3] g0 fun v_8 g_2 =>
 if ((v_8).isTup && Nat.beq (v_8).tupVs.length 2) then (if ((((v_8).tupVs).headD .any).isAgg && Nat.beq (((v_8).tupVs).headD .any).aggCs.length 9) then (let q_10 : List AV := (((v_8).tupVs).headD .any).aggCs;
 if (q_10.headD .any).isStr then (if (q_10.tail.headD .any).isStr then (if (q_10.tail.tail.headD .any).isInt .i64 then (let q_11 : List AV := q_10.tail.tail.tail;
 if (q_11.headD .any).isBool then (if (q_11.tail.headD .any).isInt .i64 then (if (q_11.tail.tail.headD .any).isInt .i64 then (let q_12 : List AV := q_11.tail.tail.tail;
 if (q_12.headD .any).isStr then (if (q_12.tail.headD .any).isInt .i64 then (if (q_12.tail.tail.headD .any).isSl 2 then (if ((((v_8).tupVs).tail).headD .any).isBool then ((F23.P a1_0 a1_1 a2_11 a3).bind fun v_13 =>
 if ((v_13).isTup && Nat.beq (v_13).tupVs.length 2) then (if ((((v_13).tupVs).headD .any).isAgg && Nat.beq (((v_13).tupVs).headD .any).aggCs.length 9) then (let q_15 : List AV := (((v_13).tupVs).headD .any).aggCs;
 if (q_15.headD .any).isStr then (if (q_15.tail.headD .any).isStr then (if (q_15.tail.tail.headD .any).isInt .i64 then (let q_16 : List AV := q_15.tail.tail.tail;
 if (q_16.headD .any).isBool then (if (q_16.tail.headD .any).isInt .i64 then (if (q_16.tail.tail.headD .any).isInt .i64 then (let q_17 : List AV := q_16.tail.tail.tail;
 if (q_17.headD .any).isStr then (if (q_17.tail.headD .any).isInt .i64 then (if (q_17.tail.tail.headD .any).isSl 2 then (if ((((v_13).tupVs).tail).headD .any).isBool then (if (((((v_8).tupVs).tail).headD .any).toBool) == (((((v_13).tupVs).tail).headD .any).toBool) then
 ((F18.P ((q_10.headD .any).toStr) ((q_10.tail.headD .any).toStr) ((q_10.tail.tail.headD .any).toInt) ((q_11.headD .any).toBool) ((q_11.tail.headD .any).toInt) ((q_11.tail.tail.headD .any).toInt) ((q_12.headD .any).toStr) ((q_12.tail.headD .any).toInt) ((q_12.tail.tail.headD .any).slXs) ((q_15.headD .any).toStr) ((q_15.tail.headD .any).toStr) ((q_15.tail.tail.headD .any).toInt) ((q_16.headD .any).toBool) ((q_16.tail.headD .any).toInt) ((q_16.tail.tail.headD .any).toInt) ((q_17.headD .any).toStr) ((q_17.tail.headD .any).toInt) ((q_17.tail.tail.headD .any).slXs)).bind fun v_18 =>
 if (v_18).isBool then some (.tup [.agg [.int .i64 a1_0, .sl 0 9 a1_1], .bool ((v_18).toBool)], g_2) else none)
 else
 (some (.tup [.agg [.int .i64 a1_0, .sl 0 9 a1_1], .bool false], g_2))) else none) else none) else none) else none) else none) else none) else none) else none) else none) else none) else none) else none) else none) else none) else none) else none) else none) else none) else none) else none) else none) else none) else none) else none)
 else
 (if eqI a2_0 2 then
 (MatR.B [.obj a0j 0, .str a2_11, .int .i64 a3] g0 fun v_20 g_3 =>
 if (v_20).isSl 9 then ((F28.P a1_0 a1_1 a2_11 a3).bind fun v_22 =>
 if (v_22).isSl 9 then ((F26.P ((v_20).slXs) ((v_22).slXs)).bind fun v_24 =>
 if (v_24).isBool then some (.tup [.agg [.int .i64 a1_0, .sl 0 9 a1_1], .bool ((v_24).toBool)], g_3) else none) else none) else none)
 else
 (if eqI a2_0 3 then
 ((F31.P a1_0 a1_1 a3).bind fun v_116 =>
 if ((v_116).isTup && Nat.beq (v_116).tupVs.length 2) then (if ((((v_116).tupVs).headD .any).isAgg && Nat.beq (((v_116).tupVs).headD .any).aggCs.length 2) then (let q_118 : List AV := (((v_116).tupVs).headD .any).aggCs;
 if (q_118.headD .any).isInt .i64 then (if (q_118.tail.headD .any).isSl 9 then (if ((((v_116).tupVs).tail).headD .any).isInt .i64 then (ExpR.B [.obj a0j 0, .int .i64 a3] g0 fun v_119 g_4 =>
 if (v_119).isInt .i64 then some (.tup [.agg [.int .i64 ((q_118.headD .any).toInt), .sl 0 9 ((q_118.tail.headD .any).slXs)], .bool (eqI ((v_119).toInt) (((((v_116).tupVs).tail).headD .any).toInt))], g_4) else none) else none) else none) else none) else none) else none)
 else
 (some (.tup [.agg [.int .i64 a1_0, .sl 0 9 a1_1], .bool true], g0)))))
theorem ok {a0j : Nat} {a1_0 : Int} {a1_1 : List (List AV)} {a2_0 a2_1 : Int} {a2_2 a2_3 : ByteArray} {a2_4 : Int} {a2_5 : Bool} {a2_6 a2_7 : Int} {a2_8 : ByteArray} {a2_9 : Int} {a2_10 : List (List AV)} {a2_11 : ByteArray} {a3 : Int} {g0 : Sg} {Q : Qt} {v : AV} {g1 : Sg} (hQ : ∀ H, HR g1 H → Q v H) {H : Heap} (hH : HR g0 H) (h : P a0j a1_0 a1_1 a2_0 a2_1 a2_2 a2_3 a2_4 a2_5 a2_6 a2_7 a2_8 a2_9 a2_10 a2_11 a3 g0 = some (v, g1)) : C 13 [.obj a0j 0, .agg [.int .i64 a1_0, .sl 0 9 a1_1], .agg [.int .i64 a2_0, .int .u8 a2_1, .str a2_2, .str a2_3, .int .i64 a2_4, .bool a2_5, .int .i64 a2_6, .int .i64 a2_7, .str a2_8, .int .i64 a2_9, .sl 0 2 a2_10, .str a2_11], .int .i64 a3] H Q := by
  refine call ?_
  unfold t
  unfold P at h
  revert h
  repeat' first | exact lsW hQ (by first | assumption | (repeat apply HR.past); assumption) | exact lsF | apply lsG | apply lsC | refine lsAnds ?_ | refine ExpR.ls (by first | assumption | (repeat apply HR.past); assumption) fun _ _ _ _ => ?_ | refine GetR.ls (by first | assumption | (repeat apply HR.past); assumption) fun _ _ _ _ => ?_ | refine MatR.ls (by first | assumption | (repeat apply HR.past); assumption) fun _ _ _ _ => ?_ | refine PutR.ls (by first | assumption | (repeat apply HR.past); assumption) fun _ _ _ _ => ?_ | refine impP (F18.ls fun _ _ => ?_) | refine impP (F21.ls fun _ _ => ?_) | refine impP (F23.ls fun _ _ => ?_) | refine impP (F26.ls fun _ _ => ?_) | refine impP (F28.ls fun _ _ => ?_) | refine impP (F31.ls fun _ _ => ?_)
noncomputable def B {β : Type} (a0j : Nat) (a1_0 : Int) (a1_1 : List (List AV)) (a2_0 a2_1 : Int) (a2_2 a2_3 : ByteArray) (a2_4 : Int) (a2_5 : Bool) (a2_6 a2_7 : Int) (a2_8 : ByteArray) (a2_9 : Int) (a2_10 : List (List AV)) (a2_11 : ByteArray) (a3 : Int) (g0 : Sg) (k : AV → Sg → Option β) : Option β := (P a0j a1_0 a1_1 a2_0 a2_1 a2_2 a2_3 a2_4 a2_5 a2_6 a2_7 a2_8 a2_9 a2_10 a2_11 a3 g0).bind fun r => k r.1 r.2
theorem ls {β : Type} {r : β} {a0j : Nat} {a1_0 : Int} {a1_1 : List (List AV)} {a2_0 a2_1 : Int} {a2_2 a2_3 : ByteArray} {a2_4 : Int} {a2_5 : Bool} {a2_6 a2_7 : Int} {a2_8 : ByteArray} {a2_9 : Int} {a2_10 : List (List AV)} {a2_11 : ByteArray} {a3 : Int} {g0 : Sg} {H : Heap} {k : AV → Sg → Option β} {K : Qt} (hH : HR g0 H) (h : ∀ w g1 H1, HR g1 H1 → k w g1 = some r → K w H1) : B a0j a1_0 a1_1 a2_0 a2_1 a2_2 a2_3 a2_4 a2_5 a2_6 a2_7 a2_8 a2_9 a2_10 a2_11 a3 g0 k = some r → C 13 [.obj a0j 0, .agg [.int .i64 a1_0, .sl 0 9 a1_1], .agg [.int .i64 a2_0, .int .u8 a2_1, .str a2_2, .str a2_3, .int .i64 a2_4, .bool a2_5, .int .i64 a2_6, .int .i64 a2_7, .str a2_8, .int .i64 a2_9, .sl 0 2 a2_10, .str a2_11], .int .i64 a3] H K := by
  intro e
  unfold B at e
  cases hp : P a0j a1_0 a1_1 a2_0 a2_1 a2_2 a2_3 a2_4 a2_5 a2_6 a2_7 a2_8 a2_9 a2_10 a2_11 a3 g0 with
  | none => rw [hp] at e; cases e
  | some w => rw [hp] at e; exact ok (fun H1 h1 => h _ _ H1 h1 e) hH hp
end F13
namespace F15
inductive LS where
  | l0 (x7sj : Nat) (x9now x10i m1_0 : Int) (m1_1 : List (List AV)) (g : Sg)
def LS.gh : LS → Sg
 | .l0 _ _ _ _ _ g => g
noncomputable def PL (a0 : Int) (a1 : List (List AV)) : Nat → LS → Option (AV × Sg)
 | 0, _ => none
 | fu + 1, .l0 x7sj x9now x10i m1_0 m1_1 g =>
 if ltI x10i (lenI a1) then
 (if ltI x10i 60 then
 (if leI 0 x10i then (if ltI x10i (lenI a1) then (if (ce (ro a1 x10i.toNat) 1).isInt .u8 then (if leI 0 x10i then (if ltI x10i (lenI a1) then (if (ce (ro a1 x10i.toNat) 0).isInt .i64 then (if (ce (ro a1 x10i.toNat) 1).isInt .u8 then (if (ce (ro a1 x10i.toNat) 2).isStr then (if (ce (ro a1 x10i.toNat) 3).isStr then (if (ce (ro a1 x10i.toNat) 4).isInt .i64 then (if (ce (ro a1 x10i.toNat) 5).isBool then (if (ce (ro a1 x10i.toNat) 6).isInt .i64 then (if (ce (ro a1 x10i.toNat) 7).isInt .i64 then (if (ce (ro a1 x10i.toNat) 8).isStr then (if (ce (ro a1 x10i.toNat) 9).isInt .i64 then (if (ce (ro a1 x10i.toNat) 10).isSl 2 then (if (ce (ro a1 x10i.toNat) 11).isStr then (F13.B x7sj m1_0 m1_1 ((ce (ro a1 x10i.toNat) 0).toInt) ((ce (ro a1 x10i.toNat) 1).toInt) ((ce (ro a1 x10i.toNat) 2).toStr) ((ce (ro a1 x10i.toNat) 3).toStr) ((ce (ro a1 x10i.toNat) 4).toInt) ((ce (ro a1 x10i.toNat) 5).toBool) ((ce (ro a1 x10i.toNat) 6).toInt) ((ce (ro a1 x10i.toNat) 7).toInt) ((ce (ro a1 x10i.toNat) 8).toStr) ((ce (ro a1 x10i.toNat) 9).toInt) ((ce (ro a1 x10i.toNat) 10).slXs) ((ce (ro a1 x10i.toNat) 11).toStr) (addW .i64 x9now (IntKind.i64.wrap ((ce (ro a1 x10i.toNat) 1).toInt))) g fun v_9 g_1 =>
 if ((v_9).isTup && Nat.beq (v_9).tupVs.length 2) then (if ((((v_9).tupVs).headD .any).isAgg && Nat.beq (((v_9).tupVs).headD .any).aggCs.length 2) then (let q_11 : List AV := (((v_9).tupVs).headD .any).aggCs;
 if (q_11.headD .any).isInt .i64 then (if (q_11.tail.headD .any).isSl 9 then (if ((((v_9).tupVs).tail).headD .any).isBool then (if !(((((v_9).tupVs).tail).headD .any).toBool) then
 (some (.tup [.nilp, .agg [.int .i64 m1_0, .sl 0 9 m1_1], .int .i64 0], g_1))
 else
 (PL a0 a1 fu (.l0 x7sj (addW .i64 x9now (IntKind.i64.wrap ((ce (ro a1 x10i.toNat) 1).toInt))) (addW .i64 x10i 1) ((q_11.headD .any).toInt) ((q_11.tail.headD .any).slXs) g_1))) else none) else none) else none) else none) else none) else none) else none) else none) else none) else none) else none) else none) else none) else none) else none) else none) else none) else none) else none) else none) else none) else none)
 else
 (some (.tup [.obj x7sj 0, .agg [.int .i64 m1_0, .sl 0 9 m1_1], .int .i64 x9now], g)))
 else
 (some (.tup [.obj x7sj 0, .agg [.int .i64 m1_0, .sl 0 9 m1_1], .int .i64 x9now], g))
theorem PL_ok {a0 : Int} {a1 : List (List AV)} {Q : Qt} {v : AV} {g1 : Sg} (hQ : ∀ H, HR g1 H → Q v H) : ∀ (fu : Nat) (s : LS) (H : Heap), HR s.gh H → PL a0 a1 fu s = some (v, g1) → match s with | .l0 x7sj x9now x10i m1_0 m1_1 _ => L0 a0 a1 Q x7sj x9now x10i m1_0 m1_1 H := by
  intro fu
  induction fu with
  | zero => intro s H _ h; exact absurd h (by cases s <;> simp only [PL] <;> exact nofun)
  | succ fu ih =>
    intro s H hH
    cases s with
    | l0 x7sj x9now x10i m1_0 m1_1 g =>
      have hH : HR g H := hH
      show PL a0 a1 (fu + 1) (.l0 x7sj x9now x10i m1_0 m1_1 g) = some (v, g1) → L0 a0 a1 Q x7sj x9now x10i m1_0 m1_1 H
      rw [PL]
      refine fun h => L0_step (?_ : r0 a0 a1 Q x7sj x9now x10i m1_0 m1_1 H)
      revert h
      unfold r0
      repeat' first | exact lsW hQ (by first | assumption | (repeat apply HR.past); assumption) | exact lsF | apply lsG | apply lsC | refine F13.ls (by first | assumption | (repeat apply HR.past); assumption) fun _ _ _ _ => ?_ | exact fun h => ih _ _ (show HR _ _ by first | assumption | (repeat apply HR.past); assumption) h
end F15
end Go.Proofs.YtgmkkjmdflhbnaaDoor.Ab
end
section
namespace Go.Proofs.YtgmkkjmdflhbnaaDoor.Ab
open Go
set_option maxHeartbeats 4000000
section
variable {β : Type} {j : Nat} {s : Sg} {t : Rt} {k : AV → Sg → Option β} {now : Int}
theorem LenR.eq (hs : s j = some t) : LenR.B [.obj j 0] s k = k (.int .i64 (t.l.length : Int)) s := by simp only [LenR.B, hs]
theorem GetR.eq {n : ByteArray} (hs : s j = some t) : GetR.B [.obj j 0, .str n, .int .i64 now] s k = k (getR t.l n now) s := by simp only [GetR.B, hs]
theorem MatR.eq {f : ByteArray} (hs : s j = some t) : MatR.B [.obj j 0, .str f, .int .i64 now] s k = k (.sl 0 9 (msgs (matM t.l f now))) s := by simp only [MatR.B, hs]
theorem ExpR.eq (hs : s j = some t) : ExpR.B [.obj j 0, .int .i64 now] s k = k (.int .i64 ((t.l.length - (fresh t.l now).length : Nat) : Int)) (upd s j ⟨t.mx, fresh t.l now⟩) := by simp only [ExpR.B, hs]
theorem PutR.eq {m : Mg} (hs : s j = some t) : PutR.B [.obj j 0, .agg [.str m.t, .str m.p, .int .i64 m.lv, .bool m.rt, .int .i64 m.pr, .int .i64 m.ex, .str m.fr, .int .i64 m.sq, .sl 0 2 (props m.ps)], .int .i64 now] s k = k (.int .i64 (putM t.mx t.l m now).2) (upd s j ⟨t.mx, (putM t.mx t.l m now).1⟩) := by
  have := unM_enc m
  unfold Mg.enc at this
  simp only [PutR.B, hs, this]
end
theorem upd_upd {s : Sg} {j : Nat} {a b : Rt} : upd (upd s j a) j b = upd s j b := by
  funext i
  unfold upd
  split <;> rfl
theorem upd_at {s : Sg} {j : Nat} {a : Rt} : upd s j a j = some a := by unfold upd; rw [if_pos rfl]
structure Rop where
  kind : Int
  later : Nat
  m : Mg
  name : ByteArray
def Rop.enc (o : Rop) : List AV := [.int .i64 o.kind, .int .u8 (o.later : Int), .str o.m.t, .str o.m.p, .int .i64 o.m.lv, .bool o.m.rt, .int .i64 o.m.pr, .int .i64 o.m.ex, .str o.m.fr, .int .i64 o.m.sq, .sl 0 2 (props o.m.ps), .str o.name]
def ops (l : List Rop) : List (List AV) := l.map Rop.enc
theorem lenI_ops {l : List Rop} : lenI (ops l) = (l.length : Int) := lenI_map
theorem ops_at {l pre post : List Rop} {o : Rop} (h : l = pre ++ o :: post) : ro (ops l) (pre.length : Int).toNat = [.int .i64 o.kind, .int .u8 (o.later : Int), .str o.m.t, .str o.m.p, .int .i64 o.m.lv, .bool o.m.rt, .int .i64 o.m.pr, .int .i64 o.m.ex, .str o.m.fr, .int .i64 o.m.sq, .sl 0 2 (props o.m.ps), .str o.name] := ro_at (f := Rop.enc) h
def opStep (t : Rt) (o : Rop) (now : Int) : Rt :=
  if o.kind = 0 then ⟨t.mx, (putM t.mx t.l o.m now).1⟩ else if o.kind = 3 then ⟨t.mx, fresh t.l now⟩ else t
theorem ROk.step {t : Rt} (h : ROk t) (o : Rop) (now : Int) : ROk (opStep t o now) := by
  unfold opStep
  split
  · exact h.put o.m now
  · split
    · exact h.sub
    · exact h
theorem step_mx (t : Rt) (o : Rop) (now : Int) : (opStep t o now).mx = t.mx := by
  unfold opStep
  split
  · rfl
  · split <;> rfl
theorem zero_same : F18.P ⟨#[]⟩ ⟨#[]⟩ 0 false 0 0 ⟨#[]⟩ 0 [] ⟨#[]⟩ ⟨#[]⟩ 0 false 0 0 ⟨#[]⟩ 0 [] = some (.bool true) := by
  have := F18.eq (a := zeroM) (b := zeroM) (by simp [zeroM])
  simpa [zeroM, props] using this
theorem F13.eq {j : Nat} {s : Sg} {t : Rt} {o : Rop} {now : Int} (hs : s j = some t) (ok : ROk t) :
    F13.P j t.mx (msgs t.l) o.kind (o.later : Int) o.m.t o.m.p o.m.lv o.m.rt o.m.pr o.m.ex o.m.fr o.m.sq (props o.m.ps) o.name now s = some (.tup [.agg [.int .i64 (opStep t o now).mx, .sl 0 9 (msgs (opStep t o now).l)], .bool true], upd s j (opStep t o now)) := by
  have hl : t.l.length ≤ 1000 := by have := ok.small; omega
  have hps : ∀ m ∈ t.l, m.ps.length ≤ 100000 := fun m hm => by have := ok.ps m hm; omega
  unfold F13.P
  by_cases h0 : o.kind = 0
  · have e : opStep t o now = ⟨t.mx, (putM t.mx t.l o.m now).1⟩ := by unfold opStep; rw [if_pos h0]
    have h0' : eqI o.kind 0 = true := by simp [eqI, h0]
    rw [e]
    simp only [h0', if_true, F21.eq hl, PutR.eq hs]
    (simp (disch := first | omega | rfl) only [PS, ite_t, ite_f, ↓bind_s, List.length_cons, List.length_nil, addW_eq, subW_eq, if_pos, if_neg])
    simp [eqI]
  have h0' : eqI o.kind 0 = false := by simp [eqI, h0]
  by_cases h1 : o.kind = 1
  · have e : opStep t o now = t := by unfold opStep; rw [if_neg h0, if_neg (by omega)]
    have h1' : eqI o.kind 1 = true := by simp [eqI, h1]
    rw [e, upd_self hs]
    simp only [h0', h1', if_true, Bool.false_eq_true, if_false, GetR.eq hs, F23.eq hl]
    unfold getR
    cases hg : getM t.l o.name now with
    | none =>
      (simp (disch := first | omega | rfl) only [PS, ite_t, ite_f, ↓bind_s, List.length_cons, List.length_nil, addW_eq, subW_eq, if_pos, if_neg])
      simp only [bind_s, beq_self_eq_true, zero_same] <;> (simp (disch := first | omega | rfl) only [PS, ite_t, ite_f, ↓bind_s, List.length_cons, List.length_nil, addW_eq, subW_eq, if_pos, if_neg]) <;> simp [zero_same]
    | some m =>
      have hm : m.ps.length ≤ 100000 := by
        unfold getM at hg
        cases hf : find t.l o.name with
        | none => rw [hf] at hg; cases hg
        | some x =>
          rw [hf] at hg
          simp only at hg
          split at hg
          · cases hg
          · cases hg
            exact hps _ (List.mem_of_find?_eq_some hf)
      simp only [Mg.enc]
      (simp (disch := first | omega | rfl) only [PS, ite_t, ite_f, ↓bind_s, List.length_cons, List.length_nil, addW_eq, subW_eq, if_pos, if_neg])
      simp only [bind_s, beq_self_eq_true, F18.eq hm] <;> (simp (disch := first | omega | rfl) only [PS, ite_t, ite_f, ↓bind_s, List.length_cons, List.length_nil, addW_eq, subW_eq, if_pos, if_neg]) <;> simp [F18.eq hm]
  have h1' : eqI o.kind 1 = false := by simp [eqI, h1]
  by_cases h2 : o.kind = 2
  · have e : opStep t o now = t := by unfold opStep; rw [if_neg h0, if_neg (by omega)]
    have h2' : eqI o.kind 2 = true := by simp [eqI, h2]
    have hlm : (matM t.l o.name now).length ≤ 1000 := Nat.le_trans (List.length_filter_le _ _) hl
    rw [e, upd_self hs]
    simp only [h0', h1', h2', if_true, Bool.false_eq_true, if_false, MatR.eq hs, F28.eq hl, isSl_s, slXs_sl, bind_s, F26.eq hlm (fun m hm => hps m (List.mem_filter.1 hm).1)]
    (simp (disch := first | omega | rfl) only [PS, ite_t, ite_f, ↓bind_s, List.length_cons, List.length_nil, addW_eq, subW_eq, if_pos, if_neg])
    simp
  have h2' : eqI o.kind 2 = false := by simp [eqI, h2]
  by_cases h3 : o.kind = 3
  · have e : opStep t o now = ⟨t.mx, fresh t.l now⟩ := by unfold opStep; rw [if_neg h0, if_pos h3]
    have h3' : eqI o.kind 3 = true := by simp [eqI, h3]
    rw [e]
    simp only [h0', h1', h2', h3', if_true, Bool.false_eq_true, if_false, F31.eq hl, ExpR.eq hs]
    (simp (disch := first | omega | rfl) only [PS, ite_t, ite_f, ↓bind_s, List.length_cons, List.length_nil, addW_eq, subW_eq, if_pos, if_neg])
    simp [eqI]
  · have e : opStep t o now = t := by unfold opStep; rw [if_neg h0, if_neg h3]
    have h3' : eqI o.kind 3 = false := by simp [eqI, h3]
    rw [e, upd_self hs]
    simp only [h0', h1', h2', h3', Bool.false_eq_true, if_false]
theorem F13.beq {β : Type} {j : Nat} {s : Sg} {t : Rt} {o : Rop} {now : Int} {k : AV → Sg → Option β} (ok : ROk t) :
    F13.B j t.mx (msgs t.l) o.kind (o.later : Int) o.m.t o.m.p o.m.lv o.m.rt o.m.pr o.m.ex o.m.fr o.m.sq (props o.m.ps) o.name now (upd s j t) k = k (.tup [.agg [.int .i64 t.mx, .sl 0 9 (msgs (opStep t o now).l)], .bool true]) (upd s j (opStep t o now)) := by
  unfold F13.B
  rw [F13.eq upd_at ok, upd_upd, step_mx]
  rfl
def runOps : Rt → Int → List Rop → Rt × Int
  | t, now, [] => (t, now)
  | t, now, o :: r => runOps (opStep t o (now + (o.later : Int))) (now + (o.later : Int)) r
theorem ROk.run : ∀ (l : List Rop) {t : Rt} {now : Int}, ROk t → ROk (runOps t now l).1
  | [], _, _, h => h
  | o :: l, _, _, h => ROk.run l (h.step o _)
theorem run_mx : ∀ (l : List Rop) (t : Rt) (now : Int), (runOps t now l).1.mx = t.mx
  | [], _, _ => rfl
  | o :: l, t, now => by rw [runOps, run_mx l, step_mx]
theorem wrap_later {o : Rop} (h : o.later ≤ 255) : IntKind.i64.wrap (o.later : Int) = (o.later : Int) := wrap_i64 (by omega) (by omega)
theorem F15.loop {j : Nat} {s : Sg} {a : Int} {l : List Rop} (hl : ∀ o ∈ l, o.later ≤ 255) (hb : l.length ≤ 1000000000000) : ∀ (n : Nat) (post pre : List Rop) (t : Rt) (now : Int), n + pre.length = 60 → l = pre ++ post → ROk t → 0 ≤ now → now ≤ 255 * pre.length →
    Ev (fun fu => F15.PL a (ops l) fu (.l0 j now (pre.length : Int) t.mx (msgs t.l) (upd s j t))) (.tup [.obj j 0, .agg [.int .i64 t.mx, .sl 0 9 (msgs (runOps t now (post.take n)).1.l)], .int .i64 (runOps t now (post.take n)).2], upd s j (runOps t now (post.take n)).1)
  | 0, post, pre, t, now, hn, h, ok, n0, n1 => by
    refine Ev.succ ?_
    have hp : (pre.length : Int) = 60 := by omega
    simp only [F15.PL, lenI_ops]
    simp only [List.take_zero, runOps]
    by_cases hlt : (pre.length : Int) < l.length
    · (simp (disch := first | omega | rfl) only [PS, ite_t, ite_f, ↓bind_s, List.length_cons, List.length_nil, addW_eq, subW_eq, if_pos, if_neg])
      exact Ev.const
    · (simp (disch := first | omega | rfl) only [PS, ite_t, ite_f, ↓bind_s, List.length_cons, List.length_nil, addW_eq, subW_eq, if_pos, if_neg])
      exact Ev.const
  | n + 1, [], pre, t, now, hn, h, ok, n0, n1 => by
    have hl0 := len_end h
    refine Ev.succ ?_
    simp only [F15.PL, lenI_ops]
    (simp (disch := first | omega | rfl) only [PS, ite_t, ite_f, ↓bind_s, List.length_cons, List.length_nil, addW_eq, subW_eq, if_pos, if_neg])
    simp only [List.take_nil, runOps]
    exact Ev.const
  | n + 1, o :: post, pre, t, now, hn, h, ok, n0, n1 => by
    have hl0 := len_mid h
    have ho : o.later ≤ 255 := hl o (by rw [h]; simp)
    have e1 : addW .i64 (pre.length : Int) 1 = ((pre ++ [o]).length : Int) := add1 (by omega)
    have e2 : addW .i64 now (o.later : Int) = now + (o.later : Int) := addW_eq (by omega) (by omega)
    have ih := F15.loop (j := j) (s := s) (a := a) hl hb n post (pre ++ [o]) (opStep t o (now + (o.later : Int))) (now + (o.later : Int)) (by simp; omega) (by rw [h]; simp) (ok.step o _) (by omega) (by simp; omega)
    rw [step_mx] at ih
    refine Ev.succ ?_
    have u8 : (AV.int .u8 (o.later : Int)).isInt .u8 = true := isInt_i
    simp only [F15.PL, lenI_ops, ops_at h, ce_0, ce_s, toInt_int, toStr_str, toBool_bool, slXs_sl, wrap_later ho, e1, e2, F13.beq ok]
    (simp (disch := first | omega | rfl) only [PS, ite_t, ite_f, ↓bind_s, List.length_cons, List.length_nil, addW_eq, subW_eq, if_pos, if_neg])
    simp only [List.take_succ_cons, runOps]
    simpa using ih
noncomputable def unOps (rows : List (List AV)) : Option (List Rop) := open Classical in if h : ∃ l : List Rop, rows = ops l ∧ (∀ o ∈ l, o.later ≤ 255) ∧ l.length ≤ 1000000000000 then some (Classical.choose h) else none
theorem ops_inj {a b : List Rop} (h : ops a = ops b) : a = b := by
  unfold ops at h
  refine (List.map_inj_right (f := Rop.enc) fun x y e => ?_).1 h
  obtain ⟨k, la, m, n⟩ := x
  obtain ⟨k', la', m', n'⟩ := y
  have hm : m.enc = m'.enc := by
    simp only [Rop.enc, List.cons.injEq] at e
    obtain ⟨_, _, e1, e2, e3, e4, e5, e6, e7, e8, e9, _⟩ := e
    unfold Mg.enc
    rw [e1, e2, e3, e4, e5, e6, e7, e8, e9]
  have := enc_inj hm
  subst this
  simp only [Rop.enc, List.cons.injEq, AV.int.injEq, AV.str.injEq, true_and, and_true] at e
  obtain ⟨rfl, e2, rfl⟩ := e
  have : la = la' := by omega
  rw [this]
theorem unOps_ops {l : List Rop} (h1 : ∀ o ∈ l, o.later ≤ 255) (h2 : l.length ≤ 1000000000000) : unOps (ops l) = some l := by
  have hx : ∃ l' : List Rop, ops l = ops l' ∧ (∀ o ∈ l', o.later ≤ 255) ∧ l'.length ≤ 1000000000000 := ⟨l, rfl, h1, h2⟩
  unfold unOps
  rw [dif_pos hx]
  exact congrArg some (ops_inj (Classical.choose_spec hx).1).symm
theorem unOps_some {rows : List (List AV)} {l : List Rop} (h : unOps rows = some l) : rows = ops l ∧ (∀ o ∈ l, o.later ≤ 255) ∧ l.length ≤ 1000000000000 := by
  unfold unOps at h
  split at h
  · rename_i hx
    cases h
    exact Classical.choose_spec hx
  · cases h
def newRt (a : Int) : Rt := ⟨newMx a, []⟩
theorem newRt_ok (a : Int) : ROk (newRt a) := ⟨.nil, nofun, by simpa [newRt] using (newMx_le a).1, (newMx_le a).2⟩
def mkT (a : Int) (l : List Rop) : Rt := (runOps (newRt a) 0 (l.take 60)).1
def mkN (a : Int) (l : List Rop) : Int := (runOps (newRt a) 0 (l.take 60)).2
section
variable {β : Type} {r : β} {s : Sg} {H : Heap} {k : AV → Sg → Option β} {K : Qt}
noncomputable def MadeR.B (args : List AV) (s : Sg) (k : AV → Sg → Option β) : Option β :=
  match args with
  | [.int .i64 a, .sl 0 12 rows] => match unOps rows with | some l => anyF s fun j => k (.tup [.obj j 0, .agg [.int .i64 (newMx a), .sl 0 9 (msgs (mkT a l).l)], .int .i64 (mkN a l)]) (upd s j (mkT a l)) | none => none
  | _ => none
theorem cp11 {a : Int} {H : Heap} {K : Qt} (h : ∀ H', K (.agg [.int .i64 (newMx a), .nilsl]) (H.past H')) : CP 11 [.int .i64 a] H K := impP (A := True) (fun _ => F11.ok (F11.eq a) (Q := fun v H' => K v (H.past H')) h) trivial
theorem MadeR.ls {a : Int} {rows : List (List AV)} (hH : HR s H) (h : ∀ w s1 H1, HR s1 H1 → k w s1 = some r → K w H1) : MadeR.B [.int .i64 a, .sl 0 12 rows] s k = some r → C 15 [.int .i64 a, .sl 0 12 rows] H K := by
  intro e
  simp only [MadeR.B] at e
  cases hu : unOps rows with
  | none => rw [hu] at e; cases e
  | some l =>
  rw [hu] at e
  simp only at e
  obtain ⟨rfl, hl, hb⟩ := unOps_some hu
  refine F15.call ?_
  unfold F15.t
  refine new_at hH fun j H1 hj hH1 => ?_
  have ej := anyF_some e hj
  simp only [AV.isObj, AV.objJ, cond_true]
  refine cp11 fun H2 => ?_
  have hH2 : HR (upd s j (newRt a)) (H1.past H2) := hH1.past
  have hlp := F15.loop (j := j) (s := s) (a := a) hl hb 60 l [] (newRt a) 0 rfl rfl (newRt_ok a) (Int.le_refl _) (by simp)
  obtain ⟨N, hN⟩ := hlp
  have hP := hN N (Nat.le_refl _)
  have := F15.PL_ok (Q := K) (fun H3 hH3 => h _ _ _ hH3 ej) N (.l0 j 0 0 (newMx a) [] (upd s j (newRt a))) (H1.past H2) hH2 (by simpa [newRt, msgs, mkT, mkN] using hP)
  have e1 : (AV.nilsl).isSl 9 = true := rfl
  have e2 : (AV.nilsl).slXs = [] := rfl
  have e3 : ((AV.agg [.int .i64 (newMx a), .nilsl]).isAgg && Nat.beq (AV.agg [.int .i64 (newMx a), .nilsl]).aggCs.length 2) = true := rfl
  simp only [HS, e1, e2]
  exact this
end
theorem MadeR.eq {β : Type} {s : Sg} {a : Int} {l : List Rop} (h1 : ∀ o ∈ l, o.later ≤ 255) (h2 : l.length ≤ 1000000000000) {k : AV → Sg → Option β} :
    MadeR.B [.int .i64 a, .sl 0 12 (ops l)] s k = anyF s fun j => k (.tup [.obj j 0, .agg [.int .i64 (mkT a l).mx, .sl 0 9 (msgs (mkT a l).l)], .int .i64 (mkN a l)]) (upd s j (mkT a l)) := by
  have : (mkT a l).mx = newMx a := by unfold mkT; rw [run_mx]; rfl
  simp only [MadeR.B, unOps_ops h1 h2, this]
theorem made_ok (a : Int) (l : List Rop) : ROk (mkT a l) := ROk.run _ (newRt_ok a)
end Go.Proofs.YtgmkkjmdflhbnaaDoor.Ab
end
section
namespace Go.Proofs.YtgmkkjmdflhbnaaDoor.Ab
open Go
set_option maxRecDepth 100000
set_option maxHeartbeats 4000000
theorem list9 {α : Type} : ∀ a : List α, a.length = 9 → ∃ x0 x1 x2 x3 x4 x5 x6 x7 x8, a = [x0, x1, x2, x3, x4, x5, x6, x7, x8]
  | [x0, x1, x2, x3, x4, x5, x6, x7, x8], _ => ⟨x0, x1, x2, x3, x4, x5, x6, x7, x8, rfl⟩
theorem key1 (s : ByteArray) (t : ByteArray) : cmpKs [s.data.toList] [t.data.toList] = Lib.compareBytes s.data.toList t.data.toList := by
  unfold cmpKs cmpKs
  split <;> simp_all
theorem cmpOk : CmpOk Tryd.prog 36 9 [0] := by
  intro a b w ha hb pa pb
  obtain ⟨s, hs⟩ := pa 0 (by simp)
  obtain ⟨t, ht⟩ := pb 0 (by simp)
  obtain ⟨x0, x1, x2, x3, x4, x5, x6, x7, x8, rfl⟩ := list9 a ha
  obtain ⟨y0, y1, y2, y3, y4, y5, y6, y7, y8, rfl⟩ := list9 b hb
  simp only [List.getElem?_cons_zero, Option.some.injEq] at hs ht
  subst hs ht
  have hk : cmpKs (keyV [0] [.string s, x1, x2, x3, x4, x5, x6, x7, x8]) (keyV [0] [.string t, y1, y2, y3, y4, y5, y6, y7, y8]) = Lib.compareBytes s.data.toList t.data.toList := key1 s t
  rw [hk]
  have hcon := fun W => Tryd.strings_Compare s t W
  generalize Lib.compareBytes s.data.toList t.data.toList = r at hcon ⊢
  clear hk
  go_enter Tryd.func36, Tryd.ntmps36
  go_wp2_with (go_at_call 37; refine (hcon _).mono ?_; rintro e w' ⟨rfl, rfl⟩)
  go_ret
  exact ⟨rfl, 0, _, by rw [Go.Sort.alloc_eq_grow, Go.Sort.alloc_eq_grow, Go.Sort.grow_grow]; rfl⟩
theorem tabOk : TabOk Tryd.prog tys := ⟨tys_ok, by kernel_rfl⟩
theorem structs_ok : structsB Tryd.prog tys = true := by kernel_rfl
theorem names_ok : (Tryd.prog.funcs.toList.all fun g => !(g.name == "runtime.NumGoroutine")) = true := by kernel_rfl
theorem apartOk : ApartOk Tryd.prog E0 := by
  intro g hg
  cases hg
theorem fsOk (f : Nat) (fn : Func) (h : E0.fs f = some fn) : Tryd.prog.funcs[f]? = some fn ∧ (fn.name == "runtime.NumGoroutine") = false := by
  have h1 : fns.getD f none = some fn := by
    have h : cond (leafL.elem f) none (fns.getD f none) = some fn := h
    cases hl : leafL.elem f <;> rw [hl] at h
    · exact h
    · cases h
  rw [← fns_ok, List.getD_eq_getElem?_getD, List.getElem?_map] at h1
  cases hx : Tryd.prog.funcs.toList[f]? with
  | none => rw [hx] at h1; cases h1
  | some g =>
    rw [hx] at h1
    simp only [Option.map_some, Option.getD_some, Option.some.injEq] at h1
    subst h1
    refine ⟨by simpa using hx, ?_⟩
    have := List.all_eq_true.1 names_ok g (List.mem_of_getElem? hx)
    simpa using this
theorem sortF_ok : OSound Tryd.prog E0 (sortFLeaf 35 36 9 [0]) :=
  sortFLeaf_sound ⟨Tryd.f35, Tryd.func35, by kernel_rfl, by kernel_rfl⟩ rfl cmpOk
    (fun enc hk h1 cf hO blk off cap d w hL hH hblk hsz => AnyQ.slices_SortFunc Tryd.sortM 9 Tryd.isAgg32 Tryd.sizeOf32 enc hk h1 cf hO 36 #[] blk off cap d w (enters_of Tryd.func36 (by kernel_rfl) rfl) hL hH hblk hsz)
    (fun p cap fv w => AnyF.slices_SortFunc_none (P := Tryd.prog) (ρ := Tryd.sortM_ren) { Tryd.sortM with } p cap fv w)
theorem progOk : ProgOk Tryd.prog E0 where
  tab := tabOk
  eq := eqOk tabOk (structsOk_of structs_ok)
  apart := ⟨apartOk, dispOk_none fun _ => rfl⟩
  mix := by kernel_rfl
  fs := fsOk
  leaf := orLeaf_sound sortF_ok
    (orLeaf_sound (scLeaf_sound ⟨Tryd.f92, Tryd.func92, by kernel_rfl, by kernel_rfl⟩ rfl fun args r h w => by obtain ⟨s, c, rfl, rfl⟩ := h; exact Tryd.strings_Count_one s c w)
      (scLeaf_sound ⟨Tryd.f98, Tryd.func98, by kernel_rfl, by kernel_rfl⟩ rfl fun args r h w => by obtain ⟨s, c, rfl, rfl⟩ := h; exact Tryd.stringslite_Index_one s c w))
  leafFeas := orLeaf_feas (sortFLeaf_feas 35 36 9 [0]) (orLeaf_feas (scLeaf_feas 92 relCnt) (scLeaf_feas 98 relIdx))
def laidL : List (String × DataW Unit) := [("unicode/utf8.acceptRanges", Rows.laid_unicode_utf8_acceptRanges), ("unicode/utf8.first", Rows.laid_unicode_utf8_first)]
theorem door_met (os : Os) (args : Array Value) : laidMetH Tryd.prog laidL ((World.laidAll Tryd.prog os laidL).forCall (fun _ _ => 0) ⟨#[], args, []⟩).memory := by
  rw [MakeChecks.laidMetH_plain _ _ _ (by kernel_rfl)]
  exact laidMet_laidAll _ (by kernel_rfl) (by kernel_rfl)
theorem fx_of_laid {W : World} (h : laidMetH Tryd.prog laidL W) : ∀ p ∈ fxT, p.1 < W.heap.size ∧ FixAt W p := fun p hp => by cases hp
theorem k_22 : (ti tys 22).k = .slice 34 := rfl
theorem k_30 : (ti tys 30).k = .slice 86 := rfl
theorem k_32 : (ti tys 32).k = .struct [(0, 9), (1, 9), (2, 3), (3, 4), (4, 3), (5, 3), (6, 9), (7, 3), (8, 30)] := rfl
theorem k_34 : (ti tys 34).k = .struct [(0, 3), (1, 5), (2, 32), (11, 9)] := rfl
theorem k_86 : (ti tys 86).k = .struct [(0, 9), (1, 9)] := rfl
theorem wt_int {d : Nat} {x : List AV} (h : WT tys (d + 1) 3 x) : ∃ n : Int, x = [.int .i64 n] ∧ -9223372036854775808 ≤ n ∧ n ≤ 9223372036854775807 := h
theorem wt_u8 {d : Nat} {x : List AV} (h : WT tys (d + 1) 5 x) : ∃ n : Int, x = [.int .u8 n] ∧ 0 ≤ n ∧ n ≤ 255 := h
theorem wt_bool {d : Nat} {x : List AV} (h : WT tys (d + 1) 4 x) : ∃ b : Bool, x = [.bool b] := h
theorem wt_str {d : Nat} {x : List AV} (h : WT tys (d + 1) 9 x) : ∃ s : ByteArray, x = [.str s] ∧ s.size ≤ 140737488351232 := h
theorem rows_of_wt {α : Type} {f : α → List AV} {p : α → Prop} {q : List AV → Prop} (hq : ∀ x, q x → ∃ a, x = f a ∧ p a) : ∀ xs : List (List AV), (∀ x ∈ xs, q x) → ∃ l : List α, xs = l.map f ∧ ∀ a ∈ l, p a
  | [], _ => ⟨[], rfl, by simp⟩
  | x :: xs, h => by
    obtain ⟨a, rfl, ha⟩ := hq x (h x (by simp))
    obtain ⟨l, rfl, hl⟩ := rows_of_wt hq xs (fun y hy => h y (by simp [hy]))
    exact ⟨a :: l, rfl, fun b hb => (List.mem_cons.1 hb).elim (fun e => e ▸ ha) (hl b)⟩
theorem arg_int {a : AV} (h : ArgOk tys 6 3 a) : ∃ n : Int, a = .int .i64 n ∧ -9223372036854775808 ≤ n ∧ n ≤ 9223372036854775807 := by
  obtain ⟨n, hn, h1, h2⟩ : ∃ n, [a] = [AV.int .i64 n] ∧ IntKind.i64.min ≤ n ∧ n ≤ IntKind.i64.max := h
  cases hn
  exact ⟨n, rfl, h1, h2⟩
theorem wt_prop {d : Nat} {x : List AV} (h : WT tys (d + 2) 86 x) : ∃ p : Pp, x = p.enc := by
  simp only [WT, k_86, List.map_cons, List.map_nil, WTs] at h
  obtain ⟨a, r, rfl, ha, b, r, rfl, hb, rfl⟩ := h
  obtain ⟨s, rfl, _⟩ := wt_str (d := d) ha
  obtain ⟨t, rfl, _⟩ := wt_str (d := d) hb
  exact ⟨⟨s, t⟩, rfl⟩
theorem wt_props {d : Nat} {x : List AV} (h : WT tys (d + 3) 30 x) : ∃ l : List Pp, x = [.sl 0 2 (props l)] := by
  simp only [WT, k_30] at h
  obtain ⟨xs, rfl, _, hb, hr⟩ := h
  obtain ⟨l, rfl, _⟩ := rows_of_wt (f := Pp.enc) (p := fun _ => True) (q := fun x => WT tys (d + 2) 86 x) (fun x hx => by
    obtain ⟨p, rfl⟩ := wt_prop hx
    exact ⟨p, rfl, trivial⟩) xs fun x hx => (hr x hx).2
  exact ⟨l, rfl⟩
theorem wt_msg {d : Nat} {x : List AV} (h : WT tys (d + 4) 32 x) : ∃ m : Mg, x = m.enc := by
  simp only [WT, k_32, List.map_cons, List.map_nil, WTs] at h
  obtain ⟨_, _, rfl, h0, _, _, rfl, h1, _, _, rfl, h2, _, _, rfl, h3, _, _, rfl, h4, _, _, rfl, h5, _, _, rfl, h6, _, _, rfl, h7, _, _, rfl, h8, rfl⟩ := h
  obtain ⟨t, rfl, _⟩ := wt_str (d := d + 2) h0
  obtain ⟨p, rfl, _⟩ := wt_str (d := d + 2) h1
  obtain ⟨lv, rfl, _⟩ := wt_int (d := d + 2) h2
  obtain ⟨re, rfl⟩ := wt_bool (d := d + 2) h3
  obtain ⟨pr, rfl, _⟩ := wt_int (d := d + 2) h4
  obtain ⟨ex, rfl, _⟩ := wt_int (d := d + 2) h5
  obtain ⟨fr, rfl, _⟩ := wt_str (d := d + 2) h6
  obtain ⟨sq, rfl, _⟩ := wt_int (d := d + 2) h7
  obtain ⟨l, rfl⟩ := wt_props (d := d) h8
  exact ⟨⟨t, p, lv, re, pr, ex, fr, sq, l⟩, rfl⟩
theorem arg_ops {a : AV} (h : ArgOk tys 6 22 a) : ∃ l : List Rop, a = .sl 0 12 (ops l) ∧ (∀ o ∈ l, o.later ≤ 255) ∧ l.length ≤ 1000000000000 := by
  have h : WT tys 6 22 [a] := h
  simp only [WT, k_22] at h
  obtain ⟨xs, hx, hm, hb, hr⟩ := h
  simp only [List.cons.injEq, and_true] at hx
  subst hx
  obtain ⟨l, rfl, hl⟩ := rows_of_wt (f := Rop.enc) (p := fun o => o.later ≤ 255) (q := fun x => WT tys 5 34 x) (fun x hx => by
    simp only [WT, k_34, List.map_cons, List.map_nil, WTs] at hx
    obtain ⟨a, r, rfl, ha, b, r, rfl, hb, c, r, rfl, hc, e, r, rfl, he, rfl⟩ := hx
    obtain ⟨n, rfl, _⟩ := wt_int (d := 3) ha
    obtain ⟨k, rfl, k0, k1⟩ := wt_u8 (d := 3) hb
    obtain ⟨m, rfl⟩ := wt_msg (d := 0) hc
    obtain ⟨s, rfl, _⟩ := wt_str (d := 3) he
    refine ⟨⟨n, k.toNat, m, s⟩, ?_, by show k.toNat ≤ 255; omega⟩
    simp only [Rop.enc, Int.toNat_of_nonneg k0]
    rfl) xs fun x hx => (hr x hx).2
  have hz : (ti tys 34).bytes = 144 := rfl
  rw [hz, List.length_map] at hb
  exact ⟨l, rfl, hl, by omega⟩
end Go.Proofs.YtgmkkjmdflhbnaaDoor.Ab
end
section
namespace Go.Proofs.YtgmkkjmdflhbnaaDoor.Ab
open Go
set_option maxRecDepth 100000
set_option maxHeartbeats 4000000
namespace F3
inductive LS where
  | l0 (x5sj : Nat) (x7now x8i m0_0 : Int) (m0_1 : List (List AV)) (g : Sg)
  | lR10 (x5sj : Nat) (x7now x8i : Int) (x59 : Bool) (m0_0 : Int) (m0_1 : List (List AV)) (m1_0 : Int) (m1_1 : List (List AV)) (g : Sg)
def LS.gh : LS → Sg
 | .l0 _ _ _ _ _ g => g
 | .lR10 _ _ _ _ _ _ _ _ g => g
end F3
namespace F4
inductive LS where
  | l0 (x7sj : Nat) (x9now : Int) (x10l : List (List AV)) (x11i m0_0 : Int) (m0_1 : List (List AV)) (g : Sg)
  | lR9 (x7sj : Nat) (x9now : Int) (x10l : List (List AV)) (x11i : Int) (x85 : Bool) (m0_0 : Int) (m0_1 : List (List AV)) (m1_0 m1_1 : ByteArray) (m1_2 : Int) (m1_3 : Bool) (m1_4 m1_5 : Int) (m1_6 : ByteArray) (m1_7 : Int) (m1_8 : List (List AV)) (g : Sg)
  | l1 (x7sj : Nat) (x9now : Int) (x10l : List (List AV)) (x14i m0_0 : Int) (m0_1 : List (List AV)) (g : Sg)
def LS.gh : LS → Sg
 | .l0 _ _ _ _ _ _ g => g
 | .lR9 _ _ _ _ _ _ _ _ _ _ _ _ _ _ _ _ g => g
 | .l1 _ _ _ _ _ _ g => g
end F4
namespace F5
inductive LS where
  | lR9 (x6 : Bool) (m1_0 : Int) (m1_1 : List (List AV)) (m2_0 : Int) (m2_1 : List (List AV)) (m3_0 m3_1 : ByteArray) (m3_2 : Int) (m3_3 : Bool) (m3_4 m3_5 : Int) (m3_6 : ByteArray) (m3_7 : Int) (m3_8 : List (List AV)) (m4_0 m4_1 : ByteArray) (m4_2 : Int) (m4_3 : Bool) (m4_4 m4_5 : Int) (m4_6 : ByteArray) (m4_7 : Int) (m4_8 : List (List AV)) (g : Sg)
  | lR11 (x6 : Bool) (m1_0 : Int) (m1_1 : List (List AV)) (m2_0 : Int) (m2_1 : List (List AV)) (m3_0 m3_1 : ByteArray) (m3_2 : Int) (m3_3 : Bool) (m3_4 m3_5 : Int) (m3_6 : ByteArray) (m3_7 : Int) (m3_8 : List (List AV)) (g : Sg)
def LS.gh : LS → Sg
 | .lR9 _ _ _ _ _ _ _ _ _ _ _ _ _ _ _ _ _ _ _ _ _ _ _ g => g
 | .lR11 _ _ _ _ _ _ _ _ _ _ _ _ _ _ g => g
end F5
namespace F6
inductive LS where
  | l0 (x9sj : Nat) (x11now : Int) (x12before : List (List AV)) (x13i m0_0 : Int) (m0_1 : List (List AV)) (g : Sg)
def LS.gh : LS → Sg
 | .l0 _ _ _ _ _ _ g => g
end F6
namespace F8
inductive LS where
  | l0 (x5sj : Nat) (x6want x7i : Int) (g : Sg)
def LS.gh : LS → Sg
 | .l0 _ _ _ g => g
end F8
namespace F9
noncomputable def P (a0 : Int) (a1 a2 : List (List AV)) : Option (AV) :=
 MadeR.B [.int .i64 a0, .sl 0 12 a1] Sg.empty fun v_1 g_1 =>
 if ((v_1).isTup && Nat.beq (v_1).tupVs.length 3) then (if (((v_1).tupVs).headD .any).isObj then
 (if (((((v_1).tupVs).tail).headD .any).isAgg && Nat.beq ((((v_1).tupVs).tail).headD .any).aggCs.length 2) then (let q_3 : List AV := ((((v_1).tupVs).tail).headD .any).aggCs;
 if (q_3.headD .any).isInt .i64 then (if (q_3.tail.headD .any).isSl 9 then (if (((((v_1).tupVs).tail).tail).headD .any).isInt .i64 then (MadeR.B [.int .i64 a0, .sl 0 12 a2] g_1 fun v_4 g_2 =>
 if ((v_4).isTup && Nat.beq (v_4).tupVs.length 3) then (if (((v_4).tupVs).headD .any).isObj then
 (if (((((v_4).tupVs).tail).headD .any).isAgg && Nat.beq ((((v_4).tupVs).tail).headD .any).aggCs.length 2) then (let q_6 : List AV := ((((v_4).tupVs).tail).headD .any).aggCs;
 if (q_6.headD .any).isInt .i64 then (if (q_6.tail.headD .any).isSl 9 then (if (((((v_4).tupVs).tail).tail).headD .any).isInt .i64 then ((F12.P).bind fun v_7 =>
 if (v_7).isBool then (if (v_7).toBool then
 (MatR.B [.obj ((((v_1).tupVs).headD .any).objJ) 0, .str (⟨#[35]⟩ : ByteArray), .int .i64 ((((((v_1).tupVs).tail).tail).headD .any).toInt)] g_2 fun v_9 g_3 =>
 if (v_9).isSl 9 then ((F28.P ((q_3.headD .any).toInt) ((q_3.tail.headD .any).slXs) (⟨#[35]⟩ : ByteArray) ((((((v_1).tupVs).tail).tail).headD .any).toInt)).bind fun v_11 =>
 if (v_11).isSl 9 then ((F26.P ((v_9).slXs) ((v_11).slXs)).bind fun v_13 =>
 if (v_13).isBool then (if (v_13).toBool then
 (MatR.B [.obj ((((v_4).tupVs).headD .any).objJ) 0, .str (⟨#[35]⟩ : ByteArray), .int .i64 ((((((v_4).tupVs).tail).tail).headD .any).toInt)] g_3 fun v_15 g_4 =>
 if (v_15).isSl 9 then ((F28.P ((q_6.headD .any).toInt) ((q_6.tail.headD .any).slXs) (⟨#[35]⟩ : ByteArray) ((((((v_4).tupVs).tail).tail).headD .any).toInt)).bind fun v_17 =>
 if (v_17).isSl 9 then ((F26.P ((v_15).slXs) ((v_17).slXs)).bind fun v_19 =>
 if (v_19).isBool then (if (v_19).toBool then
 (LenR.B [.obj ((((v_1).tupVs).headD .any).objJ) 0] g_4 fun v_21 g_5 =>
 if (v_21).isInt .i64 then (if eqI ((v_21).toInt) (lenI ((q_3.tail.headD .any).slXs)) then
 (LenR.B [.obj ((((v_4).tupVs).headD .any).objJ) 0] g_5 fun v_23 g_6 =>
 if (v_23).isInt .i64 then some (.bool (eqI ((v_23).toInt) (lenI ((q_6.tail.headD .any).slXs)))) else none)
 else
 (some (.bool false))) else none)
 else
 (some (.bool false))) else none) else none) else none)
 else
 (some (.bool false))) else none) else none) else none)
 else
 (some (.bool false))) else none) else none) else none) else none) else none)
 else
 (if (((v_4).tupVs).headD .any).isNilp then (if (((((v_4).tupVs).tail).headD .any).isAgg && Nat.beq ((((v_4).tupVs).tail).headD .any).aggCs.length 2) then (let q_93 : List AV := ((((v_4).tupVs).tail).headD .any).aggCs;
 if (q_93.headD .any).isInt .i64 then (if (q_93.tail.headD .any).isSl 9 then (if (((((v_4).tupVs).tail).tail).headD .any).isInt .i64 then ((F12.P).bind fun v_94 =>
 if (v_94).isBool then (if (v_94).toBool then
 (some (.bool false))
 else
 (some (.bool false))) else none) else none) else none) else none) else none) else none)) else none) else none) else none) else none) else none)
 else
 (if (((v_1).tupVs).headD .any).isNilp then (if (((((v_1).tupVs).tail).headD .any).isAgg && Nat.beq ((((v_1).tupVs).tail).headD .any).aggCs.length 2) then (let q_96 : List AV := ((((v_1).tupVs).tail).headD .any).aggCs;
 if (q_96.headD .any).isInt .i64 then (if (q_96.tail.headD .any).isSl 9 then (if (((((v_1).tupVs).tail).tail).headD .any).isInt .i64 then some (.bool false) else none) else none) else none) else none) else none)) else none
theorem ok {a0 : Int} {a1 a2 : List (List AV)} {Q : Qt} {v : AV} (hQ : ∀ H, Q v H) {H : Heap} (h : P a0 a1 a2 = some v) : C 9 [.int .i64 a0, .sl 0 12 a1, .sl 0 12 a2] H Q := by
  refine call ?_
  unfold t
  unfold P at h
  revert h
  have hH : HR Sg.empty H := HR.empty H
  repeat' first | exact lsV hQ | exact lsF | apply lsG | apply lsC | refine lsAnds ?_ | refine impP (F12.ls fun _ _ _ => ?_) | refine LenR.ls (by first | assumption | (repeat apply HR.past); assumption) fun _ _ _ _ => ?_ | refine MadeR.ls (by first | assumption | (repeat apply HR.past); assumption) fun _ _ _ _ => ?_ | refine MatR.ls (by first | assumption | (repeat apply HR.past); assumption) fun _ _ _ _ => ?_ | refine impP (F26.ls fun _ _ => ?_) | refine impP (F28.ls fun _ _ => ?_)
end F9
end Go.Proofs.YtgmkkjmdflhbnaaDoor.Ab
end
section
namespace Go.Proofs.YtgmkkjmdflhbnaaDoor.Ab
open Go
set_option maxHeartbeats 4000000
def EvJ {β : Type} (F : Nat → Nat → Option β) (v : β) : Prop := ∃ N, ∀ n, N ≤ n → ∀ j, F n j = some v
section
variable {β : Type} {F : Nat → Nat → Option β} {v : β}
theorem EvJ.succ : EvJ (fun n j => F (n + 1) j) v → EvJ F v := fun ⟨a, ha⟩ => ⟨a + 1, fun n hn j => by
  obtain ⟨m, rfl⟩ : ∃ m, n = m + 1 := ⟨n - 1, by omega⟩
  exact ha m (by omega) j⟩
theorem EvJ.const : EvJ (fun _ _ => some v) v := ⟨0, fun _ _ _ => rfl⟩
theorem EvJ.any {s : Sg} (h : EvJ F v) (h0 : ∃ j, s j = none) : Ev (fun n => anyF s (F n)) v := by
  obtain ⟨N, hN⟩ := h
  exact ⟨N, fun n hn => anyF_eq h0 fun j _ => hN n hn j⟩
end
theorem isObj_o {j : Nat} : (AV.obj j 0).isObj = true := rfl
theorem objJ_o {j : Nat} : (AV.obj j 0).objJ = j := rfl
theorem empty_none : ∃ j, Sg.empty j = none := ⟨0, rfl⟩
theorem upd_none {j : Nat} {t : Rt} : ∃ i, upd Sg.empty j t i = none := ⟨j + 1, by unfold upd; rw [if_neg (by omega)]; rfl⟩
def exM (t p : ByteArray) (ex : Int) : Mg := ⟨t, p, 0, true, 0, ex, ⟨#[]⟩, 0, []⟩
theorem exM_ok {t p : ByteArray} {ex : Int} (ht : topicB t = true) (hp : p.size ≤ 256) (h0 : 0 ≤ ex) (h1 : ex ≤ 1099511627776) : chkR (exM t p ex) = 0 := by
  have a1 : isB 0 2 = true := rfl
  have a2 : isB 0 9 = true := rfl
  have a3 : isB ex 1099511627776 = true := by simp [isB, ltI]; omega
  have a4 : isB 0 1099511627776 = true := rfl
  have a5 : eqS (⟨#[]⟩ : ByteArray) ⟨#[]⟩ = true := by simp [eqS]
  have hc : chkM (exM t p ex) = 0 := by
    unfold chkM exM
    simp only [ht, if_true, if_neg (show ¬ 256 < p.size by omega), a1, a2, a3, a4, a5, Bool.not_true, Bool.false_and, Bool.false_eq_true, if_false, List.length_nil]
    rfl
  unfold chkR
  rw [if_pos hc]
  rfl
abbrev bA : ByteArray := ⟨#[97]⟩
abbrev bB : ByteArray := ⟨#[98]⟩
abbrev bX : ByteArray := ⟨#[120]⟩
abbrev bY : ByteArray := ⟨#[121]⟩
abbrev bH : ByteArray := ⟨#[35]⟩
theorem topA : topicB bA = true := by decide
theorem topB : topicB bB = true := by decide
theorem mat_hash : matchB bH bB = true := by decide
theorem ex1 : putM 1 [] (exM bA bX 5) 0 = ([exM bA bX 5], 0) := by
  unfold putM
  rw [if_pos (exM_ok topA (by decide) (by omega) (by omega))]
  have h1 : (eqS bX ⟨#[]⟩ || expd (exM bA bX 5) 0) = false := by decide
  have h2 : leI 1 (([] : List Mg).length : Int) = false := by decide
  show (if (eqS bX ⟨#[]⟩ || expd (exM bA bX 5) 0) = true then _ else _) = _
  rw [h1, h2]
  rfl
theorem ex2 : putM 1 [exM bA bX 5] (exM bB bY 0) 4 = ([exM bA bX 5], 6) := by
  have h1 : (eqS bY ⟨#[]⟩ || expd (exM bB bY 0) 4) = false := by decide
  have h2 : find [exM bA bX 5] bB = none := by decide
  have h3 : fresh [exM bA bX 5] 4 = [exM bA bX 5] := by decide
  have h4 : leI 1 (([exM bA bX 5] : List Mg).length : Int) = true := by decide
  unfold putM
  rw [if_pos (exM_ok topB (by decide) (by omega) (by omega))]
  show (if (eqS bY ⟨#[]⟩ || expd (exM bB bY 0) 4) = true then _ else if ((find [exM bA bX 5] bB).isNone && leI 1 (([exM bA bX 5] : List Mg).length : Int)) = true then _ else _) = _
  rw [h1, h2, h3, h4]
  rfl
theorem ex3 : getM [exM bA bX 5] bA 4 = some (exM bA bX 5) := by decide
theorem ex4 : putM 1 [exM bA bX 5] (exM bB bY 0) 5 = ([exM bB bY 0], 0) := by
  have h1 : (eqS bY ⟨#[]⟩ || expd (exM bB bY 0) 5) = false := by decide
  have h2 : find [exM bA bX 5] bB = none := by decide
  have h3 : fresh [exM bA bX 5] 5 = [] := by decide
  have h4 : leI 1 (([exM bA bX 5] : List Mg).length : Int) = true := by decide
  have h5 : leI 1 (([] : List Mg).length : Int) = false := by decide
  unfold putM
  rw [if_pos (exM_ok topB (by decide) (by omega) (by omega))]
  show (if (eqS bY ⟨#[]⟩ || expd (exM bB bY 0) 5) = true then _ else if ((find [exM bA bX 5] bB).isNone && leI 1 (([exM bA bX 5] : List Mg).length : Int)) = true then _ else _) = _
  rw [h1, h2, h3, h4, h5]
  rfl
theorem ex5 : matM [exM bB bY 0] bH 5 = [exM bB bY 0] := by
  have h : expd (exM bB bY 0) 5 = false := by decide
  unfold matM
  rw [List.filter_cons]
  show (if (!(expd (exM bB bY 0) 5) && matchB bH bB) = true then _ else _) = _
  rw [h, mat_hash]
  rfl
theorem put_ex {β : Type} {j : Nat} {s : Sg} {t p : ByteArray} {ex now : Int} {r : Rt} {k : AV → Sg → Option β} (hs : s j = some r) :
    PutR.B [.obj j 0, .agg [.str t, .str p, .int .i64 0, .bool true, .int .i64 0, .int .i64 ex, .str ⟨#[]⟩, .int .i64 0, .sl 0 2 []], .int .i64 now] s k = k (.int .i64 (putM r.mx r.l (exM t p ex) now).2) (upd s j ⟨r.mx, (putM r.mx r.l (exM t p ex) now).1⟩) := PutR.eq (m := exM t p ex) hs
theorem ex3R : getR [exM bA bX 5] bA 4 = .tup [.agg [.str bA, .str bX, .int .i64 0, .bool true, .int .i64 0, .int .i64 5, .str ⟨#[]⟩, .int .i64 0, .sl 0 2 []], .bool true] := by
  unfold getR
  rw [ex3]
  rfl
theorem ex5R : msgs [exM bB bY 0] = [[.str bB, .str bY, .int .i64 0, .bool true, .int .i64 0, .int .i64 0, .str ⟨#[]⟩, .int .i64 0, .sl 0 2 []]] := rfl
theorem F12.eq : F12.P = some (.bool true) := by
  unfold F12.P NewR.B
  refine anyF_eq empty_none fun j _ => ?_
  have hm : newMx 1 = 1 := by decide
  simp only [isObj_o, objJ_o, if_true, hm]
  rw [put_ex upd_at]
  simp only [ex1, isInt_i, if_true, upd_upd]
  rw [put_ex upd_at]
  simp only [ex2, isInt_i, if_true, upd_upd]
  rw [GetR.eq upd_at]
  simp only [ex3R, PS, ite_t, List.length_cons, List.length_nil]
  rw [put_ex upd_at]
  simp only [ex4, isInt_i, if_true, upd_upd, PS, ite_t]
  rw [MatR.eq upd_at]
  simp only [ex5, ex5R, PS, ite_t, lenI, List.length_cons, List.length_nil]
  rw [LenR.eq upd_at]
  simp only [PS, ite_t, ite_f, List.length_cons, List.length_nil, ro]
  simp [PS]
theorem F12.bind {β : Type} {k : AV → Option β} : (F12.P).bind k = k (.bool true) := by rw [F12.eq]; rfl
theorem same_refl {l : List Mg} : decide (l = l) = true := by simp
theorem F9.eq (a : Int) (l l2 : List Rop) (h1 : ∀ o ∈ l, o.later ≤ 255) (h2 : l.length ≤ 1000000000000) (h3 : ∀ o ∈ l2, o.later ≤ 255) (h4 : l2.length ≤ 1000000000000) : F9.P a (ops l) (ops l2) = some (.bool true) := by
  unfold F9.P
  rw [MadeR.eq h1 h2]
  refine anyF_eq empty_none fun j _ => ?_
  simp only [PS, ite_t, ite_f, isObj_o, objJ_o, List.length_cons, List.length_nil, bind_s]
  rw [MadeR.eq h3 h4]
  refine anyF_eq upd_none fun i hi => ?_
  have hji : j ≠ i := by
    rintro rfl
    rw [upd_at] at hi
    cases hi
  have ok := made_ok a l
  have ok2 := made_ok a l2
  generalize mkT a l = t at ok ⊢
  generalize mkT a l2 = t2 at ok2 ⊢
  generalize mkN a l = now
  generalize mkN a l2 = now2
  have hl : t.l.length ≤ 1000 := by have := ok.small; omega
  have hl2 : t2.l.length ≤ 1000 := by have := ok2.small; omega
  have hps : ∀ m ∈ matM t.l bH now, m.ps.length ≤ 100000 := fun m hm => by have := ok.ps m (List.mem_filter.1 hm).1; omega
  have hml : (matM t.l bH now).length ≤ 1000 := Nat.le_trans (List.length_filter_le _ _) hl
  have hps2 : ∀ m ∈ matM t2.l bH now2, m.ps.length ≤ 100000 := fun m hm => by have := ok2.ps m (List.mem_filter.1 hm).1; omega
  have hml2 : (matM t2.l bH now2).length ≤ 1000 := Nat.le_trans (List.length_filter_le _ _) hl2
  have hs : upd (upd Sg.empty j t) i t2 j = some t := by
    show (if j = i then some t2 else upd Sg.empty j t j) = some t
    rw [if_neg hji, upd_at]
  simp only [PS, ite_t, ite_f, isObj_o, objJ_o, List.length_cons, List.length_nil, bind_s, F12.bind, MatR.eq hs, MatR.eq (upd_at (s := upd Sg.empty j t) (j := i) (a := t2)), LenR.eq hs, LenR.eq (upd_at (s := upd Sg.empty j t) (j := i) (a := t2)), F28.eq hl, F28.eq hl2, F26.eq hml hps, F26.eq hml2 hps2, same_refl, lenI_msgs]
  simp [eqI]
end Go.Proofs.YtgmkkjmdflhbnaaDoor.Ab
end
