/- Disk: the reference's functions. -/
import Derived.Test.YtbkkhhmjmbbfpaaDkT
namespace Go.Proofs.Ytbkkhhmjmbbfpaa.Ab
open Go
set_option linter.unusedSimpArgs false
set_option maxHeartbeats 2000000

structure Df where
  nm : ByteArray
  dat : ByteArray
  sf : Nat
abbrev Dk := List Df
def frow (f : Df) : List AV := [.str f.nm, .str f.dat, .int .i64 (f.sf : Int)]
def rws (d : Dk) : List (List AV) := d.map frow
def dget (d : Dk) (n : ByteArray) : Option Df := d.find? fun f => eqS f.nm n
def dwithout (d : Dk) (n : ByteArray) : Dk := d.filter fun f => !(eqS f.nm n)
def dput (d : Dk) (f : Df) : Dk := (dwithout d f.nm).filter (fun g => ltS g.nm f.nm) ++ f :: (dwithout d f.nm).filter (fun g => ltS f.nm g.nm)
def Small (d : Dk) : Prop := d.length ≤ 1000 ∧ ∀ f ∈ d, f.dat.size ≤ 65536 ∧ f.sf ≤ f.dat.size

theorem rws_len (d : Dk) : lenI (rws d) = (d.length : Int) := by simp [rws, lenI]
theorem rws_length (d : Dk) : (rws d).length = d.length := by simp [rws]
theorem rws_snoc (d : Dk) (f : Df) : rws d ++ [frow f] = rws (d ++ [f]) := by simp [rws]
theorem rws_at {d pre post : Dk} {f : Df} (h : d = pre ++ f :: post) : ro (rws d) (pre.length : Int).toNat = frow f := ro_at h
theorem dwithout_len (d : Dk) (n : ByteArray) : (dwithout d n).length ≤ d.length := List.length_filter_le _ _
theorem eqS_t {s t : ByteArray} (h : s = t) : eqS s t = true := by simp [eqS, h]
theorem eqS_f {s t : ByteArray} (h : ¬ s = t) : eqS s t = false := by simp [eqS, h]

theorem F32.loop {d : Dk} {n : ByteArray} (hs : d.length ≤ 100000) : ∀ (post pre : Dk), d = pre ++ post → (∀ g ∈ pre, ¬ g.nm = n) →
    (dget d n = none ∧ Ev (fun k => F32.PL (rws d) n k (.l0 (pre.length : Int))) (.int .i64 (-1))) ∨
    (∃ p f q, d = p ++ f :: q ∧ f.nm = n ∧ dget d n = some f ∧ Ev (fun k => F32.PL (rws d) n k (.l0 (pre.length : Int))) (.int .i64 (p.length : Int)))
  | [], pre, h, hp => by
    have hl := len_end h
    refine .inl ⟨?_, ?_⟩
    · subst h
      simp only [dget, List.append_nil, List.find?_eq_none]
      intro g hg
      simp [eqS_f (hp g hg)]
    · refine Ev.succ ?_
      simp only [F32.PL, rws_len]
      (simp (disch := first | omega | rfl) only [PS, ite_t, ite_f, ↓bind_s, List.length_cons, List.length_nil, addW_eq, subW_eq, if_pos, if_neg])
      exact Ev.const
  | f :: post, pre, h, hp => by
    have hl := len_mid h
    have e1 : (pre.length : Int) + 1 = ((pre ++ [f]).length : Int) := by simp
    by_cases e : f.nm = n
    · refine .inr ⟨pre, f, post, h, e, ?_, ?_⟩
      · subst h
        rw [dget, List.find?_append, List.find?_eq_none.2 (fun g hg => by simp [eqS_f (hp g hg)])]
        simp [eqS_t e]
      · refine Ev.succ ?_
        simp only [F32.PL, rws_len, rws_at h, frow, eqS_t e]
        (simp (disch := first | omega | rfl) only [PS, ite_t, ite_f, ↓bind_s, List.length_cons, List.length_nil, addW_eq, subW_eq, if_pos, if_neg])
        exact Ev.const
    · have ih := F32.loop hs post (pre ++ [f]) (by rw [h]; simp) (by
        intro g hg
        rcases List.mem_append.1 hg with hg | hg
        · exact hp g hg
        · rw [List.mem_singleton.1 hg]; exact e)
      have step : ∀ {v : AV}, Ev (fun k => F32.PL (rws d) n k (.l0 ((pre ++ [f]).length : Int))) v → Ev (fun k => F32.PL (rws d) n k (.l0 (pre.length : Int))) v := by
        intro v hv
        refine Ev.succ ?_
        simp only [F32.PL, rws_len, rws_at h, frow, eqS_f e]
        (simp (disch := first | omega | rfl) only [PS, ite_t, ite_f, ↓bind_s, List.length_cons, List.length_nil, addW_eq, subW_eq, if_pos, if_neg])
        rw [e1]
        exact hv
      rcases ih with ⟨a, b⟩ | ⟨p, g, q, a, b, c, k⟩
      · exact .inl ⟨a, step b⟩
      · exact .inr ⟨p, g, q, a, b, c, step k⟩
theorem F32.case {d : Dk} (hs : d.length ≤ 100000) (n : ByteArray) :
    (dget d n = none ∧ F32.P (rws d) n = some (.int .i64 (-1))) ∨
    (∃ p f q, d = p ++ f :: q ∧ f.nm = n ∧ dget d n = some f ∧ F32.P (rws d) n = some (.int .i64 (p.length : Int))) := by
  rcases F32.loop (n := n) hs d [] rfl nofun with ⟨a, b⟩ | ⟨p, g, q, a, b, c, k⟩
  · exact .inl ⟨a, lim_eq b⟩
  · exact .inr ⟨p, g, q, a, b, c, lim_eq k⟩

theorem F34.loop {d : Dk} {n : ByteArray} (hs : d.length ≤ 100000) : ∀ (post pre out : Dk), d = pre ++ post → out.length ≤ pre.length →
    Ev (fun k => F34.PL (rws d) n k (.l0 (rws out) (pre.length : Int))) (.agg [.sl 0 3 (rws (out ++ dwithout post n))])
  | [], pre, out, h, ho => by
    have hl := len_end h
    refine Ev.succ ?_
    simp only [F34.PL, rws_len]
    (simp (disch := first | omega | rfl) only [PS, ite_t, ite_f, ↓bind_s, List.length_cons, List.length_nil, addW_eq, subW_eq, if_pos, if_neg])
    simpa [dwithout] using Ev.const
  | f :: post, pre, out, h, ho => by
    have hl := len_mid h
    have e1 : (pre.length : Int) + 1 = ((pre ++ [f]).length : Int) := by simp
    have e2 : rws out ++ [[.str f.nm, .str f.dat, .int .i64 (f.sf : Int)]] = rws (out ++ [f]) := rws_snoc out f
    refine Ev.succ ?_
    simp only [F34.PL, rws_len, rws_at h, frow]
    by_cases e : f.nm = n
    · have ih := F34.loop (n := n) hs post (pre ++ [f]) out (by rw [h]; simp) (by simp; omega)
      have : dwithout (f :: post) n = dwithout post n := by simp [dwithout, eqS_t e]
      (simp (disch := first | omega | rfl) only [PS, ite_t, ite_f, ↓bind_s, List.length_cons, List.length_nil, addW_eq, subW_eq, if_pos, if_neg])
      refine Ev.neg (fun q => q e) ?_
      rw [e1, this]
      exact ih
    · have ih := F34.loop (n := n) hs post (pre ++ [f]) (out ++ [f]) (by rw [h]; simp) (by simp; omega)
      have : out ++ dwithout (f :: post) n = out ++ [f] ++ dwithout post n := by simp [dwithout, eqS_f e]
      have hr : ((rws out).length + 1) * 40 ≤ 140737488355328 := by rw [rws_length]; omega
      (simp (disch := first | omega | rfl) only [PS, ite_t, ite_f, ↓bind_s, List.length_cons, List.length_nil, addW_eq, subW_eq, if_pos, if_neg])
      rw [e1, e2, this]
      exact ih
theorem F34.eq {d : Dk} (hs : d.length ≤ 100000) (n : ByteArray) : F34.P (rws d) n = some (.agg [.sl 0 3 (rws (dwithout d n))]) := by
  have := F34.loop (n := n) hs d [] [] rfl (Nat.le_refl _)
  exact lim_eq this
theorem F33.loop1 {d : Dk} {f : Df} {a0 : List (List AV)} (hs : d.length ≤ 100000) : ∀ (post pre out : Dk), d = pre ++ post → out.length ≤ 200000 + pre.length →
    Ev (fun k => F33.PL a0 f.nm f.dat (f.sf : Int) k (.l1 (rws d) (rws out) (pre.length : Int))) (.agg [.sl 0 3 (rws (out ++ post.filter fun g => ltS f.nm g.nm))])
  | [], pre, out, h, ho => by
    have hl := len_end h
    refine Ev.succ ?_
    simp only [F33.PL, rws_len]
    (simp (disch := first | omega | rfl) only [PS, ite_t, ite_f, ↓bind_s, List.length_cons, List.length_nil, addW_eq, subW_eq, if_pos, if_neg])
    simpa using Ev.const
  | g :: post, pre, out, h, ho => by
    have hl := len_mid h
    have e1 : (pre.length : Int) + 1 = ((pre ++ [g]).length : Int) := by simp
    have e2 : rws out ++ [[.str g.nm, .str g.dat, .int .i64 (g.sf : Int)]] = rws (out ++ [g]) := rws_snoc out g
    refine Ev.succ ?_
    simp only [F33.PL, rws_len, rws_at h, frow]
    cases e : ltS f.nm g.nm
    · have ih := F33.loop1 (f := f) (a0 := a0) hs post (pre ++ [g]) out (by rw [h]; simp) (by simp; omega)
      (simp (disch := first | omega | rfl) only [PS, ite_t, ite_f, ↓bind_s, List.length_cons, List.length_nil, addW_eq, subW_eq, if_pos, if_neg])
      simp only [List.filter_cons, e]
      (simp (disch := first | omega | rfl) only [PS, ite_t, ite_f, ↓bind_s, List.length_cons, List.length_nil, addW_eq, subW_eq, if_pos, if_neg])
      rw [e1]
      exact ih
    · have ih := F33.loop1 (f := f) (a0 := a0) hs post (pre ++ [g]) (out ++ [g]) (by rw [h]; simp) (by simp; omega)
      have hr : ((rws out).length + 1) * 40 ≤ 140737488355328 := by rw [rws_length]; omega
      (simp (disch := first | omega | rfl) only [PS, ite_t, ite_f, ↓bind_s, List.length_cons, List.length_nil, addW_eq, subW_eq, if_pos, if_neg])
      simp only [List.filter_cons, e]
      (simp (disch := first | omega | rfl) only [PS, ite_t, ite_f, ↓bind_s, List.length_cons, List.length_nil, addW_eq, subW_eq, if_pos, if_neg])
      rw [e1, e2]
      simpa only [List.append_assoc, List.cons_append, List.nil_append] using ih
theorem F33.loop0 {d : Dk} {f : Df} {a0 : List (List AV)} (hs : d.length ≤ 100000) : ∀ (post pre out : Dk), d = pre ++ post → out.length ≤ pre.length →
    Ev (fun k => F33.PL a0 f.nm f.dat (f.sf : Int) k (.l0 (rws d) (rws out) (pre.length : Int))) (.agg [.sl 0 3 (rws (out ++ post.filter (fun g => ltS g.nm f.nm) ++ f :: d.filter (fun g => ltS f.nm g.nm)))])
  | [], pre, out, h, ho => by
    have hl := len_end h
    have e2 : rws out ++ [[.str f.nm, .str f.dat, .int .i64 (f.sf : Int)]] = rws (out ++ [f]) := rws_snoc out f
    have ih := F33.loop1 (f := f) (a0 := a0) hs d [] (out ++ [f]) rfl (by simp; omega)
    have hr : ((rws out).length + 1) * 40 ≤ 140737488355328 := by rw [rws_length]; omega
    refine Ev.succ ?_
    simp only [F33.PL, rws_len]
    (simp (disch := first | omega | rfl) only [PS, ite_t, ite_f, ↓bind_s, List.length_cons, List.length_nil, addW_eq, subW_eq, if_pos, if_neg])
    rw [e2]
    simpa using ih
  | g :: post, pre, out, h, ho => by
    have hl := len_mid h
    have e1 : (pre.length : Int) + 1 = ((pre ++ [g]).length : Int) := by simp
    have e2 : rws out ++ [[.str g.nm, .str g.dat, .int .i64 (g.sf : Int)]] = rws (out ++ [g]) := rws_snoc out g
    refine Ev.succ ?_
    simp only [F33.PL, rws_len, rws_at h, frow]
    cases e : ltS g.nm f.nm
    · have ih := F33.loop0 (f := f) (a0 := a0) hs post (pre ++ [g]) out (by rw [h]; simp) (by simp; omega)
      (simp (disch := first | omega | rfl) only [PS, ite_t, ite_f, ↓bind_s, List.length_cons, List.length_nil, addW_eq, subW_eq, if_pos, if_neg])
      simp only [List.filter_cons, e]
      (simp (disch := first | omega | rfl) only [PS, ite_t, ite_f, ↓bind_s, List.length_cons, List.length_nil, addW_eq, subW_eq, if_pos, if_neg])
      rw [e1]
      exact ih
    · have ih := F33.loop0 (f := f) (a0 := a0) hs post (pre ++ [g]) (out ++ [g]) (by rw [h]; simp) (by simp; omega)
      have hr : ((rws out).length + 1) * 40 ≤ 140737488355328 := by rw [rws_length]; omega
      (simp (disch := first | omega | rfl) only [PS, ite_t, ite_f, ↓bind_s, List.length_cons, List.length_nil, addW_eq, subW_eq, if_pos, if_neg])
      simp only [List.filter_cons, e]
      (simp (disch := first | omega | rfl) only [PS, ite_t, ite_f, ↓bind_s, List.length_cons, List.length_nil, addW_eq, subW_eq, if_pos, if_neg])
      rw [e1, e2]
      simpa only [List.append_assoc, List.cons_append, List.nil_append] using ih
theorem F33.eq {d : Dk} (hs : d.length ≤ 100000) (f : Df) : F33.P (rws d) f.nm f.dat (f.sf : Int) = some (.agg [.sl 0 3 (rws (dput d f))]) := by
  refine lim_eq ?_
  have hw := dwithout_len d f.nm
  have := F33.loop0 (f := f) (a0 := rws d) (d := dwithout d f.nm) (by omega) (dwithout d f.nm) [] [] rfl (Nat.le_refl _)
  rw [F34.eq hs]
  (simp (disch := first | omega | rfl) only [PS, ite_t, ite_f, ↓bind_s, List.length_cons, List.length_nil, addW_eq, subW_eq, if_pos, if_neg])
  simpa [dput, rws] using this

/-! The operations. -/
def appD (d : Dk) (n s : ByteArray) : Dk × Int :=
  if nameB n then
    match dget d n with
    | some f => if 65536 < f.dat.size + s.size then (d, 6) else (dput d ⟨f.nm, f.dat ++ s, f.sf⟩, 0)
    | none => if 65536 < s.size then (d, 6) else (dput d ⟨n, ⟨#[]⟩ ++ s, 0⟩, 0)
  else (d, 11)
def synD (d : Dk) (n : ByteArray) : Dk × Int :=
  match dget d n with
  | some f => (dput d ⟨f.nm, f.dat, f.dat.size⟩, 0)
  | none => (d, 8)
def renD (d : Dk) (a b : ByteArray) : Dk × Int :=
  match dget d a with
  | some f => if nameB b then (dput (dwithout d a) ⟨b, f.dat, f.sf⟩, 0) else (d, 11)
  | none => (d, 8)
def remD (d : Dk) (n : ByteArray) : Dk × Int :=
  match dget d n with
  | some _ => (dwithout d n, 0)
  | none => (d, 8)
theorem bytes_len (s : ByteArray) : (bytesAV s).length = s.size := by simp [bytesAV]
theorem F23.eq {d : Dk} (hs : Small d) (n : ByteArray) {s : ByteArray} (hz : s.size ≤ 1000000) : F23.P (rws d) n (bytesAV s) = some (.tup [.agg [.sl 0 3 (rws (appD d n s).1)], .int .i64 (appD d n s).2]) := by
  obtain ⟨hl, hb⟩ := hs
  have hlen : lenI (bytesAV s) = (s.size : Int) := by simp only [lenI, bytes_len]
  simp only [F23.P, F31.eq, appD]
  cases hn : nameB n
  · rfl
  · rcases F32.case (n := n) (d := d) (by omega) with ⟨a, b⟩ | ⟨p, f, q, a, b, c, k⟩
    · simp only [a, b, hlen, unbytes_bytes]
      (simp (disch := first | omega | rfl) only [PS, ite_t, ite_f, ↓bind_s, List.length_cons, List.length_nil, addW_eq, subW_eq, if_pos, if_neg])
      by_cases h : 65536 < s.size
      · rw [if_pos h, if_pos (by omega)]
      · have e := F33.eq (d := d) (by omega) ⟨n, ⟨#[]⟩ ++ s, 0⟩
        have e0 : ((⟨#[]⟩ : ByteArray).size) = 0 := rfl
        simp only [Int.natCast_zero] at e
        rw [if_neg h, if_neg (by omega)]
        have e9 : (⟨#[]⟩ : ByteArray).size + s.size ≤ 9223372036854775807 := by rw [e0]; omega
        rw [if_pos e9, e]
        (simp (disch := first | omega | rfl) only [PS, ite_t, ite_f, ↓bind_s, List.length_cons, List.length_nil, addW_eq, subW_eq, if_pos, if_neg])
    · have ha := rws_at a
      have hl2 := len_mid a
      obtain ⟨b1, b2⟩ := hb f (by rw [a]; simp)
      have hsz : sizeI f.dat = (f.dat.size : Int) := rfl
      have e := F33.eq (d := d) (by omega) ⟨f.nm, f.dat ++ s, f.sf⟩
      simp only at e
      simp only [c, k, hlen, unbytes_bytes, rws_len]
      (simp (disch := first | omega | rfl) only [PS, ite_t, ite_f, ↓bind_s, List.length_cons, List.length_nil, addW_eq, subW_eq, if_pos, if_neg])
      simp only [ha, frow]
      (simp (disch := first | omega | rfl) only [PS, ite_t, ite_f, ↓bind_s, List.length_cons, List.length_nil, addW_eq, subW_eq, if_pos, if_neg])
      simp only [hsz]
      by_cases h : 65536 < f.dat.size + s.size
      · simp only [if_pos h]; (simp (disch := first | omega | rfl) only [PS, ite_t, ite_f, ↓bind_s, List.length_cons, List.length_nil, addW_eq, subW_eq, if_pos, if_neg])
      · simp only [if_neg h]
        (simp (disch := first | omega | rfl) only [PS, ite_t, ite_f, ↓bind_s, List.length_cons, List.length_nil, addW_eq, subW_eq, if_pos, if_neg])
        simp only [e]
        (simp (disch := first | omega | rfl) only [PS, ite_t, ite_f, ↓bind_s, List.length_cons, List.length_nil, addW_eq, subW_eq, if_pos, if_neg])
theorem F24.eq {d : Dk} (hs : Small d) (n : ByteArray) : F24.P (rws d) n = some (.tup [.agg [.sl 0 3 (rws (synD d n).1)], .int .i64 (synD d n).2]) := by
  obtain ⟨hl, hb⟩ := hs
  simp only [F24.P, synD]
  rcases F32.case (n := n) (d := d) (by omega) with ⟨a, b⟩ | ⟨p, f, q, a, b, c, k⟩
  · simp only [a, b]
    (simp (disch := first | omega | rfl) only [PS, ite_t, ite_f, ↓bind_s, List.length_cons, List.length_nil, addW_eq, subW_eq, if_pos, if_neg])
  · have ha := rws_at a
    have hl2 := len_mid a
    have hsz : sizeI f.dat = (f.dat.size : Int) := rfl
    have e := F33.eq (d := d) (by omega) ⟨f.nm, f.dat, f.dat.size⟩
    simp only at e
    simp only [c, k, rws_len]
    (simp (disch := first | omega | rfl) only [PS, ite_t, ite_f, ↓bind_s, List.length_cons, List.length_nil, addW_eq, subW_eq, if_pos, if_neg])
    simp only [ha, frow]
    (simp (disch := first | omega | rfl) only [PS, ite_t, ite_f, ↓bind_s, List.length_cons, List.length_nil, addW_eq, subW_eq, if_pos, if_neg])
    simp only [hsz, e]
    (simp (disch := first | omega | rfl) only [PS, ite_t, ite_f, ↓bind_s, List.length_cons, List.length_nil, addW_eq, subW_eq, if_pos, if_neg])
theorem F26.eq {d : Dk} (hs : Small d) (n m : ByteArray) : F26.P (rws d) n m = some (.tup [.agg [.sl 0 3 (rws (renD d n m).1)], .int .i64 (renD d n m).2]) := by
  obtain ⟨hl, hb⟩ := hs
  simp only [F26.P, renD, F31.eq]
  rcases F32.case (n := n) (d := d) (by omega) with ⟨a, b⟩ | ⟨p, f, q, a, b, c, k⟩
  · simp only [a, b]
    (simp (disch := first | omega | rfl) only [PS, ite_t, ite_f, ↓bind_s, List.length_cons, List.length_nil, addW_eq, subW_eq, if_pos, if_neg])
  · have ha := rws_at a
    have hl2 := len_mid a
    have hw := dwithout_len d n
    have e := F33.eq (d := dwithout d n) (by omega) ⟨m, f.dat, f.sf⟩
    simp only at e
    simp only [c, k, rws_len, F34.eq (d := d) (n := n) (by omega)]
    (simp (disch := first | omega | rfl) only [PS, ite_t, ite_f, ↓bind_s, List.length_cons, List.length_nil, addW_eq, subW_eq, if_pos, if_neg])
    cases hm : nameB m
    · (simp (disch := first | omega | rfl) only [PS, ite_t, ite_f, ↓bind_s, List.length_cons, List.length_nil, addW_eq, subW_eq, if_pos, if_neg])
    · (simp (disch := first | omega | rfl) only [PS, ite_t, ite_f, ↓bind_s, List.length_cons, List.length_nil, addW_eq, subW_eq, if_pos, if_neg])
      simp only [ha, frow]
      (simp (disch := first | omega | rfl) only [PS, ite_t, ite_f, ↓bind_s, List.length_cons, List.length_nil, addW_eq, subW_eq, if_pos, if_neg])
      simp only [e]
      (simp (disch := first | omega | rfl) only [PS, ite_t, ite_f, ↓bind_s, List.length_cons, List.length_nil, addW_eq, subW_eq, if_pos, if_neg])
theorem F28.eq {d : Dk} (hs : Small d) (n : ByteArray) : F28.P (rws d) n = some (.tup [.agg [.sl 0 3 (rws (remD d n).1)], .int .i64 (remD d n).2]) := by
  obtain ⟨hl, hb⟩ := hs
  simp only [F28.P, remD]
  rcases F32.case (n := n) (d := d) (by omega) with ⟨a, b⟩ | ⟨p, f, q, a, b, c, k⟩
  · simp only [a, b]
    (simp (disch := first | omega | rfl) only [PS, ite_t, ite_f, ↓bind_s, List.length_cons, List.length_nil, addW_eq, subW_eq, if_pos, if_neg])
  · simp only [c, k, F34.eq (d := d) (n := n) (by omega)]
    (simp (disch := first | omega | rfl) only [PS, ite_t, ite_f, ↓bind_s, List.length_cons, List.length_nil, addW_eq, subW_eq, if_pos, if_neg])
theorem F29.eq {d : Dk} (hs : Small d) (n : ByteArray) : F29.P (rws d) n = some (match dget d n with | some f => .tup [.sl 0 1 (bytesAV f.dat), .int .i64 0] | none => .tup [.nilsl, .int .i64 8]) := by
  obtain ⟨hl, hb⟩ := hs
  simp only [F29.P]
  rcases F32.case (n := n) (d := d) (by omega) with ⟨a, b⟩ | ⟨p, f, q, a, b, c, k⟩
  · simp only [a, b]
    (simp (disch := first | omega | rfl) only [PS, ite_t, ite_f, ↓bind_s, List.length_cons, List.length_nil, addW_eq, subW_eq, if_pos, if_neg])
  · have ha := rws_at a
    have hl2 := len_mid a
    obtain ⟨b1, b2⟩ := hb f (by rw [a]; simp)
    simp only [c, k, rws_len]
    (simp (disch := first | omega | rfl) only [PS, ite_t, ite_f, ↓bind_s, List.length_cons, List.length_nil, addW_eq, subW_eq, if_pos, if_neg])
    simp only [ha, frow]
    (simp (disch := first | omega | rfl) only [PS, ite_t, ite_f, ↓bind_s, List.length_cons, List.length_nil, addW_eq, subW_eq, if_pos, if_neg])
def nms (d : Dk) : List (List AV) := d.map fun f => [.str f.nm]
theorem nms_len (d : Dk) : lenI (nms d) = (d.length : Int) := by simp [nms, lenI]
theorem nms_length (d : Dk) : (nms d).length = d.length := by simp [nms]
theorem nms_at {d pre post : Dk} {f : Df} (h : d = pre ++ f :: post) : ro (nms d) (pre.length : Int).toNat = [.str f.nm] := ro_at (f := fun f : Df => [.str f.nm]) h
theorem F22.loop {d : Dk} (hs : d.length ≤ 100000) : ∀ (post pre : Dk), d = pre ++ post →
    Ev (fun k => F22.PL (rws d) k (.l0 (nms pre) (pre.length : Int))) (.sl 0 1 (nms d))
  | [], pre, h => by
    have hl := len_end h
    refine Ev.succ ?_
    simp only [F22.PL, rws_len]
    (simp (disch := first | omega | rfl) only [PS, ite_t, ite_f, ↓bind_s, List.length_cons, List.length_nil, addW_eq, subW_eq, if_pos, if_neg])
    rw [h, List.append_nil]
    exact Ev.const
  | f :: post, pre, h => by
    have hl := len_mid h
    have e1 : (pre.length : Int) + 1 = ((pre ++ [f]).length : Int) := by simp
    have e2 : nms pre ++ [[.str f.nm]] = nms (pre ++ [f]) := by simp [nms]
    have ih := F22.loop hs post (pre ++ [f]) (by rw [h]; simp)
    have hr : ((nms pre).length + 1) * 16 ≤ 140737488355328 := by rw [nms_length]; omega
    refine Ev.succ ?_
    simp only [F22.PL, rws_len, rws_at h, frow]
    (simp (disch := first | omega | rfl) only [PS, ite_t, ite_f, ↓bind_s, List.length_cons, List.length_nil, addW_eq, subW_eq, if_pos, if_neg])
    rw [e1, e2]
    exact ih
theorem F22.eq {d : Dk} (hs : d.length ≤ 100000) : F22.P (rws d) = some (.sl 0 1 (nms d)) := lim_eq (F22.loop hs d [] rfl)
theorem F21.loop {d : Dk} (hs : d.length ≤ 100000) : ∀ (post pre : Dk), d = pre ++ post → Ev (fun k => F21.PL (nms d) (nms d) k (.l0 (pre.length : Int))) (.bool true)
  | [], pre, h => by
    have hl := len_end h
    refine Ev.succ ?_
    simp only [F21.PL, nms_len]
    (simp (disch := first | omega | rfl) only [PS, ite_t, ite_f, ↓bind_s, List.length_cons, List.length_nil, addW_eq, subW_eq, if_pos, if_neg])
    exact Ev.const
  | f :: post, pre, h => by
    have hl := len_mid h
    have e1 : (pre.length : Int) + 1 = ((pre ++ [f]).length : Int) := by simp
    have ih := F21.loop hs post (pre ++ [f]) (by rw [h]; simp)
    refine Ev.succ ?_
    simp only [F21.PL, nms_len, nms_at h, eqS_t]
    (simp (disch := first | omega | rfl) only [PS, ite_t, ite_f, ↓bind_s, List.length_cons, List.length_nil, addW_eq, subW_eq, if_pos, if_neg])
    rw [e1]
    exact ih
theorem F21.eq {d : Dk} (hs : d.length ≤ 100000) : F21.P (nms d) (nms d) = some (.bool true) := by
  refine lim_eq ?_
  have := F21.loop hs d [] rfl
  (simp (disch := first | omega | rfl) only [PS, ite_t, ite_f, ↓bind_s, List.length_cons, List.length_nil, addW_eq, subW_eq, if_pos, if_neg])
  exact this
end Go.Proofs.Ytbkkhhmjmbbfpaa.Ab
