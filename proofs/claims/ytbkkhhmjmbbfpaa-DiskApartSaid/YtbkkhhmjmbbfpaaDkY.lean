/- Disk: laws with operations. -/
import Derived.Test.YtbkkhhmjmbbfpaaDkV
namespace Go.Proofs.Ytbkkhhmjmbbfpaa.Ab
open Go
set_option linter.unusedSimpArgs false
set_option maxHeartbeats 2000000
set_option linter.unusedVariables false
set_option linter.unusedSimpArgs false

theorem anyJ_const {β : Type} {v : β} : (anyJ fun _ => some v) = some v := anyJ_eq fun _ => rfl
theorem F5.loop {l : List Act} (hs : l.length ≤ 40) (hx : ∀ x ∈ l, okA x) : ∀ (post pre : List Act) (d : Dk), l = pre ++ post → Good pre.length d →
    Ev (fun k => anyJ fun j => F5.PL (acts l) k (.l0 j (pre.length : Int) (rws d) (.on j d))) (.bool true)
  | [], pre, d, h, hd => by
    have hl := len_end h
    refine Ev.succ ?_
    simp only [F5.PL, acts_len, F8.bind]
    (simp (disch := first | omega | rfl) only [PS, ite_t, ite_f, ↓bind_s, List.length_cons, List.length_nil, addW_eq, subW_eq, if_pos, if_neg])
    simp only [anyJ_const]
    exact Ev.const
  | x :: post, pre, d, h, hd => by
    have hl := len_mid h
    have e1 : (pre.length : Int) + 1 = ((pre ++ [x]).length : Int) := by simp
    have hg : Good (pre ++ [x]).length (doK d x) := by rw [List.length_append]; exact good_step hd
    have ih := F5.loop hs hx post (pre ++ [x]) (doK d x) (by rw [h]; simp) hg
    have hxx := hx x (by rw [h]; simp)
    have f17 := fun (j : Nat) (k : AV → Sg → Option AV) => F17.same (j := j) (k := k) (hd.le (m := 999) (by omega)) hxx
    have f16 := fun (j : Nat) (k : AV → Sg → Option AV) => F16.same (j := j) (k := k) (hg.le (m := 1000) (by rw [List.length_append]; simp; omega))
    refine Ev.succ ?_
    simp only [F5.PL, acts_len, acts_at h, aenc]
    (simp (disch := first | omega | rfl) only [PS, ite_t, ite_f, ↓bind_s, List.length_cons, List.length_nil, addW_eq, subW_eq, if_pos, if_neg])
    simp only [f17]
    (simp (disch := first | omega | rfl) only [PS, ite_t, ite_f, ↓bind_s, List.length_cons, List.length_nil, addW_eq, subW_eq, if_pos, if_neg])
    simp only [f16]
    (simp (disch := first | omega | rfl) only [PS, ite_t, ite_f, ↓bind_s, List.length_cons, List.length_nil, addW_eq, subW_eq, if_pos, if_neg])
    rw [e1]
    exact ih
theorem good_nil : Good 0 [] := ⟨Nat.le_refl _, .nil, nofun⟩
theorem F5.eq (l : List Act) : F5.P (acts l) = some (.bool true) := by
  obtain ⟨b, hb, hl⟩ := F14.eq l
  refine lim_eq ?_
  simp only [hb, bind_s, F8.bind]
  cases b
  · (simp (disch := first | omega | rfl) only [PS, ite_t, ite_f, ↓bind_s, List.length_cons, List.length_nil, addW_eq, subW_eq, if_pos, if_neg])
    exact Ev.const
  · obtain ⟨h1, h2⟩ := hl rfl
    have f16 := fun (j : Nat) (k : AV → Sg → Option AV) => F16.same (j := j) (k := k) (good_nil.le (m := 1000) (by omega))
    have ih := F5.loop h1 h2 l [] [] rfl good_nil
    have hr : rws [] = [] := rfl
    rw [hr] at f16 ih
    simp only [NewD.B, F15.P]
    (simp (disch := first | omega | rfl) only [PS, ite_t, ite_f, ↓bind_s, List.length_cons, List.length_nil, addW_eq, subW_eq, if_pos, if_neg])
    simp only [HS, PS, ite_t, AV.slXs, f16]
    (simp (disch := first | omega | rfl) only [PS, ite_t, ite_f, ↓bind_s, List.length_cons, List.length_nil, addW_eq, subW_eq, if_pos, if_neg])
    exact ih
theorem crash_nil : ∀ {e : Dk}, (∀ f ∈ e, f.sf = f.dat.size) → crashD e [] = e
  | [], _ => rfl
  | f :: e, h => by
    have hf := h f (by simp)
    have hc : crN f 0 = f.dat.size := by unfold crN; omega
    have h1 : crF f (keepAt []) = f := by
      show crF f 0 = f
      simp only [crF, hc, ByteArray.extract_zero_size]
      rw [← hf]
    simp only [crashD, List.tail_nil, h1]
    rw [crash_nil (e := e) fun g hg => h g (List.mem_cons_of_mem _ hg)]
theorem crash_safe : ∀ {d : Dk} {xs : List (List AV)}, (∀ f ∈ d, f.dat.size ≤ 65536 ∧ f.sf ≤ f.dat.size) → ∀ f ∈ crashD d xs, f.sf = f.dat.size
  | [], _, _, f, hf => by cases hf
  | g :: d, xs, h, f, hf => by
    rcases List.mem_cons.1 hf with rfl | hf
    · exact (crF_size (h g (by simp)).2 (keepAt xs)).symm
    · exact crash_safe (fun x hx => h x (by simp [hx])) f hf
theorem nil_int : ∀ r ∈ ([] : List (List AV)), (ce r 0).isInt .i64 = true := nofun
theorem F6.loop {l : List Act} {kp : List Int} (hs : l.length ≤ 40) (hx : ∀ x ∈ l, okA x) : ∀ (post pre : List Act) (d : Dk), l = pre ++ post → Good pre.length d →
    Ev (fun k => anyJ fun j => F6.PL (acts l) (intR kp) k (.l0 j (pre.length : Int) (rws d) (.on j d))) (.bool true)
  | [], pre, d, h, hd => by
    have hl := len_end h
    have hdl := hd.1
    have hg := good_crash (xs := intR kp) hd
    have hgl := hg.1
    have h2 : crashD (crashD d (intR kp)) [] = crashD d (intR kp) := crash_nil (crash_safe hd.2.2)
    have f16 := fun (j : Nat) (k : AV → Sg → Option AV) => F16.same (j := j) (k := k) (hg.le (m := 1000) (by omega))
    have f18 := F18.eq (intR_int (l := kp)) (hd.small (by omega))
    have c1 := fun (j : Nat) (k : AV → Sg → Option AV) => CrashD.eq (j := j) (k := k) (d := d) (by omega) (intR_int (l := kp))
    have c2 := fun (j : Nat) (k : AV → Sg → Option AV) => CrashD.eq (j := j) (k := k) (d := crashD d (intR kp)) (by omega) nil_int
    rw [h2] at c2
    refine Ev.succ ?_
    simp only [F6.PL, acts_len, F8.bind]
    (simp (disch := first | omega | rfl) only [PS, ite_t, ite_f, ↓bind_s, List.length_cons, List.length_nil, addW_eq, subW_eq, if_pos, if_neg])
    simp only [c1]
    (simp (disch := first | omega | rfl) only [PS, ite_t, ite_f, ↓bind_s, List.length_cons, List.length_nil, addW_eq, subW_eq, if_pos, if_neg])
    simp only [f18]
    (simp (disch := first | omega | rfl) only [PS, ite_t, ite_f, ↓bind_s, List.length_cons, List.length_nil, addW_eq, subW_eq, if_pos, if_neg])
    simp only [f16]
    (simp (disch := first | omega | rfl) only [PS, ite_t, ite_f, ↓bind_s, List.length_cons, List.length_nil, addW_eq, subW_eq, if_pos, if_neg])
    simp only [c2]
    (simp (disch := first | omega | rfl) only [PS, ite_t, ite_f, ↓bind_s, List.length_cons, List.length_nil, addW_eq, subW_eq, if_pos, if_neg])
    simp only [f16]
    (simp (disch := first | omega | rfl) only [PS, ite_t, ite_f, ↓bind_s, List.length_cons, List.length_nil, addW_eq, subW_eq, if_pos, if_neg])
    simp only [anyJ_const]
    exact Ev.const
  | x :: post, pre, d, h, hd => by
    have hl := len_mid h
    have e1 : (pre.length : Int) + 1 = ((pre ++ [x]).length : Int) := by simp
    have hg : Good (pre ++ [x]).length (doK d x) := by rw [List.length_append]; exact good_step hd
    have ih := F6.loop (kp := kp) hs hx post (pre ++ [x]) (doK d x) (by rw [h]; simp) hg
    have hxx := hx x (by rw [h]; simp)
    have f17 := fun (j : Nat) (k : AV → Sg → Option AV) => F17.same (j := j) (k := k) (hd.le (m := 999) (by omega)) hxx
    refine Ev.succ ?_
    simp only [F6.PL, acts_len, acts_at h, aenc]
    (simp (disch := first | omega | rfl) only [PS, ite_t, ite_f, ↓bind_s, List.length_cons, List.length_nil, addW_eq, subW_eq, if_pos, if_neg])
    simp only [f17]
    (simp (disch := first | omega | rfl) only [PS, ite_t, ite_f, ↓bind_s, List.length_cons, List.length_nil, addW_eq, subW_eq, if_pos, if_neg])
    rw [e1]
    exact ih
theorem F6.eq (l : List Act) (kp : List Int) : F6.P (acts l) (intR kp) = some (.bool true) := by
  obtain ⟨b, hb, hl⟩ := F14.eq l
  have hk : lenI (intR kp) = (kp.length : Int) := by simp [intR, lenI]
  refine lim_eq ?_
  simp only [hb, bind_s, F8.bind, hk]
  cases b
  · (simp (disch := first | omega | rfl) only [PS, ite_t, ite_f, ↓bind_s, List.length_cons, List.length_nil, addW_eq, subW_eq, if_pos, if_neg])
    exact Ev.const
  · by_cases hkl : 20 < kp.length
    · (simp (disch := first | omega | rfl) only [PS, ite_t, ite_f, ↓bind_s, List.length_cons, List.length_nil, addW_eq, subW_eq, if_pos, if_neg])
      exact Ev.const
    obtain ⟨h1, h2⟩ := hl rfl
    have ih := F6.loop (kp := kp) h1 h2 l [] [] rfl good_nil
    have hr : rws [] = [] := rfl
    rw [hr] at ih
    simp only [NewD.B, F15.P]
    (simp (disch := first | omega | rfl) only [PS, ite_t, ite_f, ↓bind_s, List.length_cons, List.length_nil, addW_eq, subW_eq, if_pos, if_neg])
    simp only [HS, PS, ite_t, AV.slXs]
    exact ih

/-! DiskApart -/
theorem get_put {d : Dk} {f g : Df} {n : ByteArray} (hs : Srt d) (h : dget d n = some f) (hn : g.nm ≠ n) : dget (dput d g) n = some f := by
  obtain ⟨h1, rfl⟩ := get_mem h
  exact get_of (hs.put g).nodup (mem_put.2 (.inr (mem_without.2 ⟨h1, fun q => hn q.symm⟩)))
theorem get_without {d : Dk} {f : Df} {n m : ByteArray} (hs : Srt d) (h : dget d n = some f) (hn : m ≠ n) : dget (dwithout d m) n = some f := by
  obtain ⟨h1, rfl⟩ := get_mem h
  exact get_of (hs.without m).nodup (mem_without.2 ⟨h1, fun q => hn q.symm⟩)
theorem own_step {d : Dk} {f : Df} {x : Act} {n : ByteArray} (hs : Srt d) (h : dget d n = some f) (h1 : x.nm ≠ n) (h2 : x.to ≠ n) (h3 : x.k % 8 ≠ 7) : dget (doK d x) n = some f := by
  have h8 : x.k % 8 < 8 := Nat.mod_lt _ (by omega)
  unfold doK
  split
  · unfold appD
    split
    · split
      · rename_i g hg
        split
        · exact h
        · exact get_put hs h (by rw [show g.nm = x.nm from (get_mem hg).2]; exact h1)
      · split
        · exact h
        · exact get_put hs h h1
    · exact h
  split
  · unfold synD
    split
    · rename_i g hg
      exact get_put hs h (by rw [show g.nm = x.nm from (get_mem hg).2]; exact h1)
    · exact h
  split
  · unfold renD
    split
    · split
      · exact get_put (hs.without _) (get_without hs h h1) h2
      · exact h
    · exact h
  split
  · unfold remD
    split
    · exact get_without hs h h1
    · exact h
  split
  · exact h
  · omega
theorem F7.loop {l : List Act} {b : ByteArray} (hs : l.length ≤ 40) (hx : ∀ x ∈ l, okA x) : ∀ (post pre : List Act) (d : Dk) (f : Df), l = pre ++ post → Good (pre.length + 1) d → dget d nOwn = some f → f.dat = b →
    Ev (fun k => anyJ fun j => F7.PL (acts l) (bytesAV b) k (.l0 j (pre.length : Int) (.on j d))) (.bool true)
  | [], pre, d, f, h, hd, hg, hf => by
    have hl := len_end h
    subst hf
    refine Ev.succ ?_
    simp only [F7.PL, acts_len, F8.bind]
    (simp (disch := first | omega | rfl) only [PS, ite_t, ite_f, ↓bind_s, List.length_cons, List.length_nil, addW_eq, subW_eq, if_pos, if_neg])
    simp only [ReadD.some hg]
    (simp (disch := first | omega | rfl) only [PS, ite_t, ite_f, ↓bind_s, List.length_cons, List.length_nil, addW_eq, subW_eq, if_pos, if_neg])
    simp only [unbytes_bytes]
    (simp (disch := first | omega | rfl) only [PS, ite_t, ite_f, ↓bind_s, List.length_cons, List.length_nil, addW_eq, subW_eq, if_pos, if_neg])
    simp only [anyJ_const]
    exact Ev.const
  | x :: post, pre, d, f, h, hd, hg, hf => by
    have hl := len_mid h
    have e1 : (pre.length : Int) + 1 = ((pre ++ [x]).length : Int) := by simp
    have hxx := hx x (by rw [h]; simp)
    have ih := fun (d' : Dk) h1 h2 => F7.loop (b := b) hs hx post (pre ++ [x]) d' f (by rw [h]; simp) h1 h2 hf
    have hgood : Good ((pre ++ [x]).length + 1) d := by rw [List.length_append]; exact hd.mono
    have skip : Ev (fun k => anyJ fun j => F7.PL (acts l) (bytesAV b) k (.lR10 j (pre.length : Int) false (x.k : Int) x.nm x.to (bytesAV x.bt) (intR x.kp) (.on j d))) (.bool true) := by
      refine Ev.succ ?_
      simp only [F7.PL]
      (simp (disch := first | omega | rfl) only [PS, ite_t, ite_f, ↓bind_s, List.length_cons, List.length_nil, addW_eq, subW_eq, if_pos, if_neg])
      rw [e1]
      exact ih d hgood hg
    refine Ev.succ ?_
    simp only [F7.PL, acts_len, acts_at h, aenc]
    (simp (disch := first | omega | rfl) only [PS, ite_t, ite_f, ↓bind_s, List.length_cons, List.length_nil, addW_eq, subW_eq, if_pos, if_neg])
    by_cases q1 : x.nm = nOwn
    · simp only [if_neg (show ¬ ¬ x.nm = nOwn from fun q => q q1)]
      exact skip
    simp only [if_pos (show ¬ x.nm = nOwn from q1)]
    by_cases q2 : x.to = nOwn
    · simp only [if_neg (show ¬ ¬ x.to = nOwn from fun q => q q2)]
      exact skip
    simp only [if_pos (show ¬ x.to = nOwn from q2), tmod8]
    by_cases q3 : x.k % 8 = 7
    · have e : (!(eqI ((x.k % 8 : Nat) : Int) 7)) = false := by rw [q3]; rfl
      rw [e]
      exact skip
    have e : (!(eqI ((x.k % 8 : Nat) : Int) 7)) = true := by rw [tt_not, ff_eq]; omega
    rw [e]
    have hnew := own_step (x := x) hd.2.1 hg q1 q2 q3
    have hgn : Good ((pre ++ [x]).length + 1) (doK d x) := by rw [List.length_append]; exact good_step hd
    obtain ⟨bb, w1, _⟩ := F17.eq (hd.le (m := 999) (by omega)) (good_nil.le (m := 999) (by omega)) hxx
    have f17 : ∀ (j : Nat) (k : AV → Sg → Option AV), F17.B j (rws []) (x.k : Int) x.nm x.to (bytesAV x.bt) (intR x.kp) (.on j d) k = k (.tup [.agg [.sl 0 3 (rws (doK [] x))], .bool bb]) (.on j (doK d x)) := by
      intro j k
      have := congrFun w1 j
      simp only [F17.B, this, bind_s]
    rw [show rws [] = [] from rfl] at f17
    refine Ev.succ ?_
    simp only [F7.PL, F15.P]
    (simp (disch := first | omega | rfl) only [PS, ite_t, ite_f, ↓bind_s, List.length_cons, List.length_nil, addW_eq, subW_eq, if_pos, if_neg])
    simp only [AV.slXs, f17]
    (simp (disch := first | omega | rfl) only [PS, ite_t, ite_f, ↓bind_s, List.length_cons, List.length_nil, addW_eq, subW_eq, if_pos, if_neg])
    rw [e1]
    exact ih _ hgn hnew
theorem F7.eq (l : List Act) (b : ByteArray) : F7.P (acts l) (bytesAV b) = some (.bool true) := by
  obtain ⟨v, hv, hl⟩ := F14.eq l
  have hk : lenI (bytesAV b) = (b.size : Int) := by simp only [lenI, bytes_len]
  refine lim_eq ?_
  simp only [hv, bind_s, F8.bind, hk]
  cases v
  · (simp (disch := first | omega | rfl) only [PS, ite_t, ite_f, ↓bind_s, List.length_cons, List.length_nil, addW_eq, subW_eq, if_pos, if_neg])
    exact Ev.const
  · by_cases hkl : 400 < b.size
    · (simp (disch := first | omega | rfl) only [PS, ite_t, ite_f, ↓bind_s, List.length_cons, List.length_nil, addW_eq, subW_eq, if_pos, if_neg])
      exact Ev.const
    obtain ⟨h1, h2⟩ := hl rfl
    have a1 : appD [] nOwn b = ([⟨nOwn, b, 0⟩], 0) := app_nil name_own (by omega)
    have hgd : Good 1 [(⟨nOwn, b, 0⟩ : Df)] := ⟨Nat.le_refl _, by simp [Srt], fun f hf => by rw [List.mem_singleton.1 hf]; exact ⟨by show b.size ≤ 65536; omega, Nat.zero_le _⟩⟩
    have ih := F7.loop (b := b) h1 h2 l [] [⟨nOwn, b, 0⟩] ⟨nOwn, b, 0⟩ rfl hgd (get_one ⟨nOwn, b, 0⟩) rfl
    have ap := fun (j : Nat) (k : AV → Sg → Option AV) => AppD.eq (j := j) (n := nOwn) (d := []) (k := k) (unbytes_bytes b) (by omega)
    rw [a1] at ap
    simp only [NewD.B]
    (simp (disch := first | omega | rfl) only [PS, ite_t, ite_f, ↓bind_s, List.length_cons, List.length_nil, addW_eq, subW_eq, if_pos, if_neg])
    simp only [HS, PS, ite_t, ap]
    exact ih
end Go.Proofs.Ytbkkhhmjmbbfpaa.Ab
