/- Disk: the laws' helpers. -/
import Derived.Test.YtbkkhhmjmbbfpaaDkC
import Derived.Test.YtbkkhhmjmbbfpaaTrH
namespace Go.Proofs.Ytbkkhhmjmbbfpaa.Ab
open Go
set_option linter.unusedSimpArgs false
set_option maxHeartbeats 2000000
set_option linter.unusedVariables false
set_option linter.unusedSimpArgs false

structure Act where
  k : Nat
  nm : ByteArray
  to : ByteArray
  bt : ByteArray
  kp : List Int
def intR (l : List Int) : List (List AV) := l.map fun z => [.int .i64 z]
def aenc (x : Act) : List AV := [.int .u8 (x.k : Int), .str x.nm, .str x.to, .sl 0 1 (bytesAV x.bt), .sl 0 1 (intR x.kp)]
def acts (l : List Act) : List (List AV) := l.map aenc
theorem acts_len (l : List Act) : lenI (acts l) = (l.length : Int) := by simp [acts, lenI]
theorem acts_at {l pre post : List Act} {x : Act} (h : l = pre ++ x :: post) : ro (acts l) (pre.length : Int).toNat = aenc x := ro_at h
theorem intR_int {l : List Int} : ∀ r ∈ intR l, (ce r 0).isInt .i64 = true := by
  intro r hr
  obtain ⟨z, _, rfl⟩ := List.mem_map.1 hr
  rfl
def okA (x : Act) : Prop := x.bt.size ≤ 400
theorem F14.loop {l : List Act} (hs : l.length ≤ 40) : ∀ (post pre : List Act), l = pre ++ post → ∃ b, Ev (fun k => F14.PL (acts l) k (.l0 (pre.length : Int))) (.bool b) ∧ (b = true → ∀ x ∈ post, okA x)
  | [], pre, h => by
    have hl := len_end h
    refine ⟨true, Ev.succ ?_, by simp⟩
    simp only [F14.PL, acts_len]
    (simp (disch := first | omega | rfl) only [PS, ite_t, ite_f, ↓bind_s, List.length_cons, List.length_nil, addW_eq, subW_eq, if_pos, if_neg])
    exact Ev.const
  | x :: post, pre, h => by
    have hl := len_mid h
    obtain ⟨b, ih, hb⟩ := F14.loop hs post (pre ++ [x]) (by rw [h]; simp)
    have e1 : (pre.length : Int) + 1 = ((pre ++ [x]).length : Int) := by simp
    have hlen : ∀ s : ByteArray, lenI (bytesAV s) = (s.size : Int) := fun s => by simp only [lenI, bytes_len]
    have hsz : ∀ s : ByteArray, sizeI s = (s.size : Int) := fun s => rfl
    have tt : Ev (fun k => F14.PL (acts l) k (.lR6 (pre.length : Int) true)) (.bool false) := by
      refine Ev.succ ?_
      simp only [F14.PL]
      (simp (disch := first | omega | rfl) only [PS, ite_t, ite_f, ↓bind_s, List.length_cons, List.length_nil, addW_eq, subW_eq, if_pos, if_neg])
      exact Ev.const
    have ff : Ev (fun k => F14.PL (acts l) k (.lR6 (pre.length : Int) false)) (.bool b) := by
      refine Ev.succ ?_
      simp only [F14.PL]
      (simp (disch := first | omega | rfl) only [PS, ite_t, ite_f, ↓bind_s, List.length_cons, List.length_nil, addW_eq, subW_eq, if_pos, if_neg])
      rw [e1]
      exact ih
    by_cases h1 : 400 < x.bt.size
    · refine ⟨false, Ev.succ ?_, nofun⟩
      simp only [F14.PL, acts_len, acts_at h, aenc]
      (simp (disch := first | omega | rfl) only [PS, ite_t, ite_f, ↓bind_s, List.length_cons, List.length_nil, addW_eq, subW_eq, if_pos, if_neg])
      simp only [hlen]
      (simp (disch := first | omega | rfl) only [PS, ite_t, ite_f, ↓bind_s, List.length_cons, List.length_nil, addW_eq, subW_eq, if_pos, if_neg])
      exact tt
    by_cases h2 : 400 < x.nm.size
    · refine ⟨false, Ev.succ ?_, nofun⟩
      simp only [F14.PL, acts_len, acts_at h, aenc]
      (simp (disch := first | omega | rfl) only [PS, ite_t, ite_f, ↓bind_s, List.length_cons, List.length_nil, addW_eq, subW_eq, if_pos, if_neg])
      simp only [hlen, hsz]
      (simp (disch := first | omega | rfl) only [PS, ite_t, ite_f, ↓bind_s, List.length_cons, List.length_nil, addW_eq, subW_eq, if_pos, if_neg])
      exact tt
    by_cases h3 : 400 < x.to.size
    · refine ⟨false, Ev.succ ?_, nofun⟩
      simp only [F14.PL, acts_len, acts_at h, aenc]
      (simp (disch := first | omega | rfl) only [PS, ite_t, ite_f, ↓bind_s, List.length_cons, List.length_nil, addW_eq, subW_eq, if_pos, if_neg])
      simp only [hlen, hsz]
      (simp (disch := first | omega | rfl) only [PS, ite_t, ite_f, ↓bind_s, List.length_cons, List.length_nil, addW_eq, subW_eq, if_pos, if_neg])
      exact tt
    by_cases h4 : 20 < x.kp.length
    · refine ⟨false, Ev.succ ?_, nofun⟩
      simp only [F14.PL, acts_len, acts_at h, aenc]
      (simp (disch := first | omega | rfl) only [PS, ite_t, ite_f, ↓bind_s, List.length_cons, List.length_nil, addW_eq, subW_eq, if_pos, if_neg])
      simp only [hlen, hsz]
      (simp (disch := first | omega | rfl) only [PS, ite_t, ite_f, ↓bind_s, List.length_cons, List.length_nil, addW_eq, subW_eq, if_pos, if_neg])
      have e : ltI 20 (lenI (intR x.kp)) = true := by rw [tt_lt]; simp only [intR, lenI, List.length_map]; omega
      rw [e]
      exact tt
    · refine ⟨b, Ev.succ ?_, fun q y hy => ?_⟩
      · simp only [F14.PL, acts_len, acts_at h, aenc]
        (simp (disch := first | omega | rfl) only [PS, ite_t, ite_f, ↓bind_s, List.length_cons, List.length_nil, addW_eq, subW_eq, if_pos, if_neg])
        simp only [hlen, hsz]
        (simp (disch := first | omega | rfl) only [PS, ite_t, ite_f, ↓bind_s, List.length_cons, List.length_nil, addW_eq, subW_eq, if_pos, if_neg])
        have e : ltI 20 (lenI (intR x.kp)) = false := by rw [ff_lt]; simp only [intR, lenI, List.length_map]; omega
        rw [e]
        exact ff
      · rcases List.mem_cons.1 hy with rfl | hy
        · unfold okA; omega
        · exact hb q y hy
theorem F14.eq (l : List Act) : ∃ b, F14.P (acts l) = some (.bool b) ∧ (b = true → l.length ≤ 40 ∧ ∀ x ∈ l, okA x) := by
  by_cases h : 40 < l.length
  · refine ⟨false, lim_eq ?_, nofun⟩
    simp only [acts_len]
    (simp (disch := first | omega | rfl) only [PS, ite_t, ite_f, ↓bind_s, List.length_cons, List.length_nil, addW_eq, subW_eq, if_pos, if_neg])
    exact Ev.const
  · obtain ⟨b, h1, h2⟩ := F14.loop (l := l) (by omega) l [] rfl
    refine ⟨b, lim_eq ?_, fun q => ⟨by omega, h2 q⟩⟩
    simp only [acts_len]
    (simp (disch := first | omega | rfl) only [PS, ite_t, ite_f, ↓bind_s, List.length_cons, List.length_nil, addW_eq, subW_eq, if_pos, if_neg])
    exact h1

/-! The ghosts' equations. -/
section
variable {β : Type} {j : Nat} {n to s : ByteArray} {xs : List (List AV)} {d : Dk} {k : AV → Sg → Option β}
theorem AppD.eq (h : unbytes xs = some s) (hs : s.size ≤ 1000000) : AppD.B [.obj j 0, .str n, .sl 0 1 xs] (.on j d) k = k (.int .i64 (appD d n s).2) (.on j (appD d n s).1) := by simp only [AppD.B, if_true, h, bind_s, if_pos hs]
theorem SyncD.eq : SyncD.B [.obj j 0, .str n] (.on j d) k = k (.int .i64 (synD d n).2) (.on j (synD d n).1) := by simp only [SyncD.B, if_true]
theorem RemD.eq : RemD.B [.obj j 0, .str n] (.on j d) k = k (.int .i64 (remD d n).2) (.on j (remD d n).1) := by simp only [RemD.B, if_true]
theorem RenD.eq : RenD.B [.obj j 0, .str n, .str to] (.on j d) k = k (.int .i64 (renD d n to).2) (.on j (renD d n to).1) := by simp only [RenD.B, if_true]
theorem ReadD.some {f : Df} (h : dget d n = some f) : ReadD.B [.obj j 0, .str n] (.on j d) k = k (.tup [.sl 0 1 (bytesAV f.dat), .int .i64 0]) (.on j d) := by simp only [ReadD.B, if_true, h]
theorem ReadD.none (h : dget d n = none) : ReadD.B [.obj j 0, .str n] (.on j d) k = k (.tup [.nilsl, .int .i64 8]) (.on j d) := by simp only [ReadD.B, if_true, h]
theorem NamesD.eq (h : d.length ≤ 100000) : NamesD.B [.obj j 0] (.on j d) k = k (.sl 0 1 (nms d)) (.on j d) := by simp only [NamesD.B, if_true, if_pos h]
theorem CrashD.eq (h : d.length ≤ 100000) (hx : ∀ r ∈ xs, (ce r 0).isInt .i64 = true) : CrashD.B [.obj j 0, .sl 0 1 xs] (.on j d) k = k (.tup []) (.on j (crashD d xs)) := by simp only [CrashD.B, if_true, if_pos (And.intro h hx)]
end
def Good (n : Nat) (d : Dk) : Prop := d.length ≤ n ∧ Srt d ∧ ∀ f ∈ d, f.dat.size ≤ 65536 ∧ f.sf ≤ f.dat.size
theorem Good.small {n : Nat} {d : Dk} (h : Good n d) (hn : n ≤ 1000) : Small d := ⟨by have := h.1; omega, h.2.2⟩
theorem F16.loop {j : Nat} {d : Dk} (hg : Good 1000 d) : ∀ (post pre : Dk), d = pre ++ post → Ev (fun k => F16.PL j (rws d) k (.l0 (pre.length : Int) (.on j d))) (.bool true, .on j d)
  | [], pre, h => by
    have hl := len_end h
    refine Ev.succ ?_
    simp only [F16.PL, rws_len]
    (simp (disch := first | omega | rfl) only [PS, ite_t, ite_f, ↓bind_s, List.length_cons, List.length_nil, addW_eq, subW_eq, if_pos, if_neg])
    exact Ev.const
  | f :: post, pre, h => by
    have hl := len_mid h
    have hlen := hg.1
    have ih := F16.loop (j := j) hg post (pre ++ [f]) (by rw [h]; simp)
    have e1 : (pre.length : Int) + 1 = ((pre ++ [f]).length : Int) := by simp
    have hget : dget d f.nm = some f := get_of hg.2.1.nodup (by rw [h]; simp)
    refine Ev.succ ?_
    simp only [F16.PL, rws_len, rws_at h, frow]
    (simp (disch := first | omega | rfl) only [PS, ite_t, ite_f, ↓bind_s, List.length_cons, List.length_nil, addW_eq, subW_eq, if_pos, if_neg])
    simp only [ReadD.some hget]
    (simp (disch := first | omega | rfl) only [PS, ite_t, ite_f, ↓bind_s, List.length_cons, List.length_nil, addW_eq, subW_eq, if_pos, if_neg])
    simp only [unbytes_bytes, bind_s, not_true_eq_false, ite_f]
    rw [e1]
    exact ih
theorem F16.eq {j : Nat} {d : Dk} (hg : Good 1000 d) : F16.P j (rws d) (.on j d) = some (.bool true, .on j d) := by
  refine lim_eq ?_
  have ih := F16.loop (j := j) hg d [] rfl
  have hlen := hg.1
  simp only [allB_same, NamesD.eq (d := d) (show d.length ≤ 100000 by omega), F22.eq (d := d) (by omega)]
  (simp (disch := first | omega | rfl) only [PS, ite_t, ite_f, ↓bind_s, List.length_cons, List.length_nil, addW_eq, subW_eq, if_pos, if_neg])
  simp only [F21.eq (d := d) (by omega)]
  (simp (disch := first | omega | rfl) only [PS, ite_t, ite_f, ↓bind_s, List.length_cons, List.length_nil, addW_eq, subW_eq, if_pos, if_neg])
  exact ih
theorem good_put {n : Nat} {d : Dk} {f : Df} (h : Good n d) (hf : f.dat.size ≤ 65536 ∧ f.sf ≤ f.dat.size) : Good (n + 1) (dput d f) := by
  refine ⟨?_, h.2.1.put f, fun g hg => ?_⟩
  · rw [(put_perm d f).length_eq, List.length_cons]
    have := dwithout_len d f.nm
    have := h.1
    omega
  · rcases mem_put.1 hg with rfl | hg
    · exact hf
    · exact h.2.2 g (mem_without.1 hg).1
theorem good_without {n : Nat} {d : Dk} {m : ByteArray} (h : Good n d) : Good n (dwithout d m) := ⟨by have := dwithout_len d m; have := h.1; omega, h.2.1.without m, fun g hg => h.2.2 g (mem_without.1 hg).1⟩
theorem get_mem {d : Dk} {n : ByteArray} {f : Df} (h : dget d n = some f) : f ∈ d ∧ f.nm = n := by
  refine ⟨List.mem_of_find?_eq_some h, ?_⟩
  have := List.find?_some h
  simpa [eqS] using this
theorem crash_good : ∀ {d : Dk} {xs : List (List AV)}, (∀ f ∈ d, f.dat.size ≤ 65536 ∧ f.sf ≤ f.dat.size) → ∀ f ∈ crashD d xs, f.dat.size ≤ 65536 ∧ f.sf ≤ f.dat.size
  | [], _, _, f, hf => by cases hf
  | g :: d, xs, h, f, hf => by
    have hg := h g (by simp)
    rcases List.mem_cons.1 hf with rfl | hf
    · have h1 := crF_size hg.2 (keepAt xs)
      have h2 := crN_le hg.2 (keepAt xs)
      refine ⟨by omega, by show crN g _ ≤ _; omega⟩
    · exact crash_good (fun x hx => h x (by simp [hx])) f hf
theorem crash_nms : ∀ {d : Dk} {xs : List (List AV)}, (crashD d xs).map Df.nm = d.map Df.nm
  | [], _ => rfl
  | g :: d, xs => by simp only [crashD, List.map_cons, crash_nms]; rfl
theorem good_crash {n : Nat} {d : Dk} {xs : List (List AV)} (h : Good n d) : Good n (crashD d xs) := by
  have hl : (crashD d xs).length = d.length := by have := congrArg List.length (crash_nms (d := d) (xs := xs)); simpa using this
  exact ⟨by rw [hl]; exact h.1, srt_congr crash_nms.symm h.2.1, crash_good h.2.2⟩
def doK (d : Dk) (x : Act) : Dk :=
  if x.k % 8 ≤ 2 then (appD d x.nm x.bt).1
  else if x.k % 8 = 3 then (synD d x.nm).1
  else if x.k % 8 = 4 then (renD d x.nm x.to).1
  else if x.k % 8 = 5 then (remD d x.nm).1
  else if x.k % 8 = 6 then d
  else crashD d (intR x.kp)
theorem Good.mono {n : Nat} {d : Dk} (h : Good n d) : Good (n + 1) d := ⟨by have := h.1; omega, h.2⟩
theorem good_app {n : Nat} {d : Dk} {m s : ByteArray} (h : Good n d) : Good (n + 1) (appD d m s).1 := by
  unfold appD
  split
  · split
    · rename_i f hf
      split
      · exact h.mono
      · have := h.2.2 f (get_mem hf).1
        have hsz : (f.dat ++ s).size = f.dat.size + s.size := by simp
        exact good_put h ⟨by show (f.dat ++ s).size ≤ 65536; omega, by show f.sf ≤ (f.dat ++ s).size; omega⟩
    · split
      · exact h.mono
      · have hsz : ((⟨#[]⟩ : ByteArray) ++ s).size = 0 + s.size := by rw [ByteArray.size_append]; rfl
        exact good_put h ⟨by show ((⟨#[]⟩ : ByteArray) ++ s).size ≤ 65536; omega, Nat.zero_le _⟩
  · exact h.mono
theorem good_step {n : Nat} {d : Dk} {x : Act} (h : Good n d) : Good (n + 1) (doK d x) := by
  unfold doK
  split
  · exact good_app h
  split
  · unfold synD
    split
    · rename_i f hf
      exact good_put h ⟨(h.2.2 f (get_mem hf).1).1, Nat.le_refl _⟩
    · exact h.mono
  split
  · unfold renD
    split
    · rename_i f hf
      split
      · exact good_put (good_without h) (h.2.2 f (get_mem hf).1)
      · exact h.mono
    · exact h.mono
  split
  · unfold remD
    split
    · exact (good_without h).mono
    · exact h.mono
  split
  · exact h.mono
  · exact (good_crash h).mono
theorem tmod8 (k : Nat) : Int.tmod (k : Int) 8 = ((k % 8 : Nat) : Int) := (Int.ofNat_tmod k 8).symm
/-- An operation on both: a disk and the reference's. -/
theorem F17.eq {d e : Dk} {x : Act} (hd : Good 999 d) (he : Good 999 e) (hx : okA x) :
    ∃ b, (fun j => F17.P j (rws e) (x.k : Int) x.nm x.to (bytesAV x.bt) (intR x.kp) (.on j d)) = (fun j => some (.tup [.agg [.sl 0 3 (rws (doK e x))], .bool b], .on j (doK d x))) ∧ (d = e → b = true) := by
  have hse := he.small (by omega)
  have hsd := hd.small (by omega)
  have hbt : x.bt.size ≤ 1000000 := by unfold okA at hx; omega
  have hl1 := hd.1
  have hl2 := he.1
  have h8 : x.k % 8 < 8 := Nat.mod_lt _ (by omega)
  unfold F17.P
  simp only [tmod8, AppD.eq (unbytes_bytes x.bt) hbt, SyncD.eq, RemD.eq, RenD.eq, F23.eq hse _ hbt, F24.eq hse, F26.eq hse, F28.eq hse, CrashD.eq (d := d) (by omega) (intR_int (l := x.kp)), F18.eq (intR_int (l := x.kp)) hse, F29.eq hse]
  unfold doK
  generalize hk : x.k % 8 = k at h8 ⊢
  match k, h8 with
  | 0, _ => (simp (disch := first | omega | rfl) only [PS, ite_t, ite_f, ↓bind_s, List.length_cons, List.length_nil, addW_eq, subW_eq, if_pos, if_neg]); exact ⟨_, rfl, fun q => by rw [q]; simp [eqI]⟩
  | 1, _ => (simp (disch := first | omega | rfl) only [PS, ite_t, ite_f, ↓bind_s, List.length_cons, List.length_nil, addW_eq, subW_eq, if_pos, if_neg]); exact ⟨_, rfl, fun q => by rw [q]; simp [eqI]⟩
  | 2, _ => (simp (disch := first | omega | rfl) only [PS, ite_t, ite_f, ↓bind_s, List.length_cons, List.length_nil, addW_eq, subW_eq, if_pos, if_neg]); exact ⟨_, rfl, fun q => by rw [q]; simp [eqI]⟩
  | 3, _ => (simp (disch := first | omega | rfl) only [PS, ite_t, ite_f, ↓bind_s, List.length_cons, List.length_nil, addW_eq, subW_eq, if_pos, if_neg]); exact ⟨_, rfl, fun q => by rw [q]; simp [eqI]⟩
  | 4, _ => (simp (disch := first | omega | rfl) only [PS, ite_t, ite_f, ↓bind_s, List.length_cons, List.length_nil, addW_eq, subW_eq, if_pos, if_neg]); exact ⟨_, rfl, fun q => by rw [q]; simp [eqI]⟩
  | 5, _ => (simp (disch := first | omega | rfl) only [PS, ite_t, ite_f, ↓bind_s, List.length_cons, List.length_nil, addW_eq, subW_eq, if_pos, if_neg]); exact ⟨_, rfl, fun q => by rw [q]; simp [eqI]⟩
  | 6, _ =>
    have hu : unbytes [] = some ⟨#[]⟩ := unbytes_bytes ⟨#[]⟩
    cases hgd : dget d x.nm with
    | none =>
      cases hge : dget e x.nm with
      | none =>
        simp only [ReadD.none hgd]
        (simp (disch := first | omega | rfl) only [PS, ite_t, ite_f, ↓bind_s, List.length_cons, List.length_nil, addW_eq, subW_eq, if_pos, if_neg])
        simp only [hu]
        (simp (disch := first | omega | rfl) only [PS, ite_t, ite_f, ↓bind_s, List.length_cons, List.length_nil, addW_eq, subW_eq, if_pos, if_neg])
        exact ⟨_, rfl, fun q => rfl⟩
      | some g =>
        simp only [ReadD.none hgd]
        (simp (disch := first | omega | rfl) only [PS, ite_t, ite_f, ↓bind_s, List.length_cons, List.length_nil, addW_eq, subW_eq, if_pos, if_neg])
        simp only [hu, unbytes_bytes]
        (simp (disch := first | omega | rfl) only [PS, ite_t, ite_f, ↓bind_s, List.length_cons, List.length_nil, addW_eq, subW_eq, if_pos, if_neg])
        by_cases q : (⟨#[]⟩ : ByteArray) = g.dat
        · simp only [if_pos q]
          exact ⟨_, rfl, fun q => by rw [q, hge] at hgd; cases hgd⟩
        · simp only [if_neg q]
          exact ⟨_, rfl, fun q => by rw [q, hge] at hgd; cases hgd⟩
    | some f =>
      cases hge : dget e x.nm with
      | none =>
        simp only [ReadD.some hgd]
        (simp (disch := first | omega | rfl) only [PS, ite_t, ite_f, ↓bind_s, List.length_cons, List.length_nil, addW_eq, subW_eq, if_pos, if_neg])
        simp only [hu, unbytes_bytes]
        (simp (disch := first | omega | rfl) only [PS, ite_t, ite_f, ↓bind_s, List.length_cons, List.length_nil, addW_eq, subW_eq, if_pos, if_neg])
        by_cases q : f.dat = (⟨#[]⟩ : ByteArray)
        · simp only [if_pos q]
          exact ⟨_, rfl, fun q => by rw [q, hge] at hgd; cases hgd⟩
        · simp only [if_neg q]
          exact ⟨_, rfl, fun q => by rw [q, hge] at hgd; cases hgd⟩
      | some g =>
        simp only [ReadD.some hgd]
        (simp (disch := first | omega | rfl) only [PS, ite_t, ite_f, ↓bind_s, List.length_cons, List.length_nil, addW_eq, subW_eq, if_pos, if_neg])
        simp only [unbytes_bytes]
        (simp (disch := first | omega | rfl) only [PS, ite_t, ite_f, ↓bind_s, List.length_cons, List.length_nil, addW_eq, subW_eq, if_pos, if_neg])
        by_cases q : f.dat = g.dat
        · simp only [if_pos q]
          exact ⟨_, rfl, fun _ => rfl⟩
        · simp only [if_neg q]
          exact ⟨_, rfl, fun q2 => by rw [q2, hge] at hgd; exact absurd (congrArg Df.dat (Option.some.inj hgd)).symm q⟩
  | 7, _ => (simp (disch := first | omega | rfl) only [PS, ite_t, ite_f, ↓bind_s, List.length_cons, List.length_nil, addW_eq, subW_eq, if_pos, if_neg]); exact ⟨_, rfl, fun q => rfl⟩
theorem F17.same {β : Type} {j : Nat} {d : Dk} {x : Act} {k : AV → Sg → Option β} (hd : Good 999 d) (hx : okA x) : F17.B j (rws d) (x.k : Int) x.nm x.to (bytesAV x.bt) (intR x.kp) (.on j d) k = k (.tup [.agg [.sl 0 3 (rws (doK d x))], .bool true]) (.on j (doK d x)) := by
  obtain ⟨b, h1, h2⟩ := F17.eq hd hd hx
  rw [h2 rfl] at h1
  have := congrFun h1 j
  simp only [F17.B, this, bind_s]
theorem F16.same {β : Type} {j : Nat} {d : Dk} {k : AV → Sg → Option β} (hg : Good 1000 d) : F16.B j (rws d) (.on j d) k = k (.bool true) (.on j d) := by
  simp only [F16.B, F16.eq hg, bind_s]
theorem Good.le {n m : Nat} {d : Dk} (h : Good n d) (hn : n ≤ m) : Good m d := ⟨by have := h.1; omega, h.2⟩
end Go.Proofs.Ytbkkhhmjmbbfpaa.Ab
