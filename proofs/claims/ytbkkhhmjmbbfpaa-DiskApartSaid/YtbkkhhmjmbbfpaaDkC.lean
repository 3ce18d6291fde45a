/- Disk: the reference's crash, short. -/
import Derived.Test.YtbkkhhmjmbbfpaaDkH
namespace Go.Proofs.Ytbkkhhmjmbbfpaa.Ab
open Go
set_option linter.unusedSimpArgs false
set_option maxHeartbeats 2000000
set_option linter.unusedVariables false

theorem keep_in {a1 : List (List AV)} {n : Nat} (h : n < a1.length) : ro a1 (n : Int).toNat = a1[n] ∧ keepAt (a1.drop n) = (ce a1[n] 0).toInt := by
  refine ⟨by simp [ro, h], ?_⟩
  rw [List.drop_eq_getElem_cons h]
  rfl
theorem F18.loop {a1 : List (List AV)} (ha : ∀ r ∈ a1, (ce r 0).isInt .i64 = true) {d : Dk} (hs : d.length ≤ 1000) : ∀ (post pre out : Dk), d = pre ++ post → (∀ f ∈ post, f.dat.size ≤ 65536 ∧ f.sf ≤ f.dat.size) → out.length = pre.length →
    Ev (fun k => F18.PL (rws d) a1 k (.l0 (rws out) (pre.length : Int))) (.agg [.sl 0 3 (rws (out ++ crashD post (a1.drop pre.length)))])
  | [], pre, out, h, hz, ho => by
    have hl := len_end h
    refine Ev.succ ?_
    simp only [F18.PL, rws_len]
    (simp (disch := first | omega | rfl) only [PS, ite_t, ite_f, ↓bind_s, List.length_cons, List.length_nil, addW_eq, subW_eq, if_pos, if_neg])
    simpa [crashD] using Ev.const
  | f :: post, pre, out, h, hz, ho => by
    have hl := len_mid h
    obtain ⟨z1, z2⟩ := hz f (by simp)
    have e1 : (pre.length : Int) + 1 = ((pre ++ [f]).length : Int) := by simp
    have ih := fun g => F18.loop ha hs post (pre ++ [f]) (out ++ [g]) (by rw [h]; simp) (fun x hx => hz x (by simp [hx])) (by simp; omega)
    have hd : (pre ++ [f]).length = pre.length + 1 := by simp
    have hr : ((rws out).length + 1) * 40 ≤ 140737488355328 := by rw [rws_length]; omega
    have fin : ∀ (n : Nat) (k : Int), crN f k = n → k = keepAt (a1.drop pre.length) →
        Ev (fun fu => F18.PL (rws d) a1 fu (.l0 (rws out ++ [[.str f.nm, .str (f.dat.extract 0 n), .int .i64 (sizeI (f.dat.extract 0 n))]]) ((pre.length : Int) + 1))) (.agg [.sl 0 3 (rws (out ++ crashD (f :: post) (a1.drop pre.length)))]) := by
      intro n k hn hk
      have i1 := ih (crF f k)
      have hle := crN_le z2 k
      have hsz : sizeI (f.dat.extract 0 n) = ((crN f k : Nat) : Int) := by
        have := crF_size z2 k
        rw [← hn]
        exact congrArg Int.ofNat this
      have e2 : rws out ++ [[.str f.nm, .str (f.dat.extract 0 n), .int .i64 (sizeI (f.dat.extract 0 n))]] = rws (out ++ [crF f k]) := by
        rw [hsz, ← hn]
        exact rws_snoc out (crF f k)
      rw [e2, e1]
      have e3 : out ++ [crF f k] ++ crashD post (a1.drop (pre ++ [f]).length) = out ++ crashD (f :: post) (a1.drop pre.length) := by
        rw [hd]
        simp only [crashD, List.tail_drop, ← hk, List.append_assoc, List.cons_append, List.nil_append]
      rw [e3] at i1
      exact i1
    have hsf : sizeI f.dat = (f.dat.size : Int) := rfl
    refine Ev.succ ?_
    simp only [F18.PL, rws_len, rws_at h, frow]
    (simp (disch := first | omega | rfl) only [PS, ite_t, ite_f, ↓bind_s, List.length_cons, List.length_nil, addW_eq, subW_eq, if_pos, if_neg])
    simp only [hsf]
    have hN : ∀ k, crN f k = f.sf + min k.toNat (f.dat.size - f.sf) := fun _ => rfl
    by_cases hk : pre.length < a1.length
    · obtain ⟨k1, k2⟩ := keep_in hk
      have e4 := ha a1[pre.length] (List.getElem_mem hk)
      have hla : lenI a1 = (a1.length : Int) := rfl
      simp only [k1, hla]
      generalize (ce a1[pre.length] 0).toInt = kk at k2 ⊢
      (simp (disch := first | omega | rfl) only [PS, ite_t, ite_f, ↓bind_s, List.length_cons, List.length_nil, addW_eq, subW_eq, if_pos, if_neg])
      by_cases c1 : 0 < kk
      · refine Ev.pos c1 ?_
        by_cases c2 : (f.dat.size : Int) - (f.sf : Int) < kk
        · exact Ev.pos c2 (fin _ kk (by rw [hN]; omega) k2.symm)
        · exact Ev.neg c2 (fin _ kk (by rw [hN]; omega) k2.symm)
      · exact Ev.neg c1 (fin _ kk (by rw [hN]; omega) k2.symm)
    · have e2 : a1.drop pre.length = [] := List.drop_eq_nil_iff.2 (by omega)
      have hla : lenI a1 = (a1.length : Int) := rfl
      simp only [hla]
      (simp (disch := first | omega | rfl) only [PS, ite_t, ite_f, ↓bind_s, List.length_cons, List.length_nil, addW_eq, subW_eq, if_pos, if_neg])
      exact fin _ 0 (by rw [hN]; omega) (by rw [e2]; rfl)
theorem F18.eq {a1 : List (List AV)} (ha : ∀ r ∈ a1, (ce r 0).isInt .i64 = true) {d : Dk} (hs : Small d) : F18.P (rws d) a1 = some (.agg [.sl 0 3 (rws (crashD d a1))]) := by
  have := F18.loop ha hs.1 d [] [] rfl hs.2 rfl
  exact lim_eq (by simpa [rws] using this)
end Go.Proofs.Ytbkkhhmjmbbfpaa.Ab
