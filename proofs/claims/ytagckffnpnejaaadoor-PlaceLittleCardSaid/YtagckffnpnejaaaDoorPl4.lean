/- Place: PlaceLittle. -/
import Derived.Test.YtagckffnpnejaaaDoorPl3
namespace Go.Proofs.YtagckffnpnejaaaDoor.Ab
open Go
set_option maxRecDepth 100000

section
variable {names : List ByteArray} {nodes : List Int} {m x : Int}
theorem mvEmpty (names : List ByteArray) (nodes : List Int) (m : Int) : moves names nodes nodes.reverse m = [] := by
  unfold moves
  rw [List.filter_eq_nil_iff]
  intro s _
  simp only [pl, rk_same (name := s) (a := nodes.reverse) (b := nodes) (fun z => by simp)]
  simp
theorem cnt_sum {l : List Pm} (hl : l.length ≤ 40) : ∀ D : List Int, 0 ≤ sumI (loads l D) ∧ sumI (loads l D) ≤ 40 * (D.length : Int)
  | [] => by simp [loads, sumI]
  | d :: D => by
    have ih := cnt_sum hl D
    have h := cnt_le d l
    simp only [loads, List.map_cons, sumI_cons] at ih ⊢
    simp only [List.length_cons]
    omega
theorem F5.l2 (hn : ∀ s ∈ names, s.size ≤ 200) (hs : nodes.length ≤ 60) (hl : names.length ≤ 40) {D : List Int} (hD : D.length ≤ 1000) (hsum : sumI (loads (plan names nodes m) D) = (names.length : Int) * (min m.toNat D.length : Nat)) :
    ∀ (post pre : List Int), loads (plan names nodes m) D = pre ++ post → (∀ z ∈ pre ++ post, 0 ≤ z ∧ z ≤ 40) → (0 ≤ sumI pre ∧ sumI pre ≤ 40 * (pre.length : Int)) → Ev (fun n => F5.PL (strs names) (ints nodes) m x n (.l2 (ints nodes.reverse) (ints D) (sumI pre) (ints (loads (plan names nodes m) D)) (((loads (plan names nodes m) D).length : Nat) : Int) (pre.length : Int))) (.bool true)
  | [], pre, h, hz, hp => by
    have hl' := len_end h
    have hd : (loads (plan names nodes m) D).length = D.length := by simp [loads]
    have hn' : ∀ s ∈ names, s.size ≤ 50000 := fun s hs => by have := hn s hs; omega
    have e1 := F22.eq (names := names) (a := nodes) (b := nodes.reverse) (m := m) hn' (by omega) (by omega) (by simp; omega)
    rw [mvEmpty] at e1
    rw [h, List.append_nil] at hsum
    have hq : (0 : Int) ≤ (names.length : Int) * ((min m.toNat D.length : Nat) : Int) ∧ (names.length : Int) * ((min m.toNat D.length : Nat) : Int) ≤ 40000 := by
      have : names.length * (min m.toNat D.length) ≤ 40 * 1000 := Nat.mul_le_mul (by omega) (by omega)
      have e : (names.length : Int) * ((min m.toNat D.length : Nat) : Int) = ((names.length * (min m.toNat D.length) : Nat) : Int) := by simp
      omega
    have hm : mulW .i64 (names.length : Int) ((min m.toNat D.length : Nat) : Int) = (names.length : Int) * ((min m.toNat D.length : Nat) : Int) := wrap_i64 (by omega) (by omega)
    refine Ev.succ ?_
    simp only [F5.PL]
    refine Ev.neg (by rw [tt_lt]; omega) ?_
    rw [lenI_ints, lenI_strs, clamp_eq, hm]
    refine Ev.pos (by rw [tt_eq]; exact hsum) (Ev.of' ?_)
    exact bind_of e1 ((if_pos rfl).trans ((if_pos rfl).trans F8.fin))
  | c :: post, pre, h, hz, hp => by
    have hl' := len_mid h
    have hc := hz c (by simp)
    have hd : (loads (plan names nodes m) D).length = D.length := by simp [loads]
    refine Ev.succ ?_
    simp only [F5.PL, lenI_ints, ints_at h]
    refine Ev.pos (by rw [tt_lt]; omega) (Ev.pos (by rw [tt_le]; omega) (Ev.pos (by rw [tt_lt]; omega) (Ev.pos rfl ?_)))
    rw [ce_0, toInt_int, addW_eq (by omega) (by omega), addW_eq (by omega) (by omega)]
    have e : sumI (pre ++ [c]) = sumI pre + c := by unfold sumI; rw [List.foldl_append]; rfl
    have := F5.l2 hn hs hl hD hsum post (pre ++ [c]) (by rw [h]; simp) (by simpa using hz) (by rw [e]; simp; omega)
    rw [e] at this
    simpa using this
theorem F5.end' (hn : ∀ s ∈ names, s.size ≤ 200) (hs : nodes.length ≤ 60) (hl : names.length ≤ 40) : Ev (fun n => F5.PL (strs names) (ints nodes) m x n (.l1 (ints nodes.reverse) (ints (diffs nodes)) (nodes.length : Int))) (.bool true) := by
  have hn' : ∀ s ∈ names, s.size ≤ 50000 := fun s hs => by have := hn s hs; omega
  have hd := diff_len nodes
  have h7 := sel_len nodes
  have hpl : (plan names nodes m).length = names.length := by simp [plan]
  have e1 := F21.eq (names := names) (nodes := nodes) (m := m) hn' (by omega) (by omega)
  have e2 := F12.eq (l := plan names nodes m) (nodes := diffs nodes) (by omega) (fun p hp => by
      simp only [plan, List.mem_map] at hp
      obtain ⟨s, _, rfl⟩ := hp
      have := pl_len s nodes m
      omega) (by omega)
  have hsum : sumI (loads (plan names nodes m) (diffs nodes)) = (names.length : Int) * (min m.toNat (diffs nodes).length : Nat) := by
    rw [sum_loads (show (diffs nodes).Nodup from diff_nodup nodes [] (by simp)) (plan names nodes m) (fun p hp => by
      simp only [plan, List.mem_map] at hp
      obtain ⟨s, _, rfl⟩ := hp
      refine ⟨List.Sublist.nodup (List.take_sublist _ _) (rk_nodup s nodes), fun z hz => ?_⟩
      have := (rk_mem (name := s) (nodes := nodes)).1 (List.mem_of_mem_take hz)
      unfold diffs
      rw [diff_mem]
      exact .inr (sel_mem.1 this)), sum_plan, hd]
  refine Ev.succ ?_
  simp only [F5.PL, lenI_ints]
  refine Ev.neg (by rw [tt_lt]; omega) ?_
  refine Ev.bind e1 (Ev.pos rfl (Ev.bind e2 (Ev.pos rfl ?_)))
  have := F5.l2 (x := x) hn hs hl (D := diffs nodes) (by omega) hsum (loads (plan names nodes m) (diffs nodes)) [] rfl (fun z hz => by
    rw [List.nil_append] at hz
    simp only [loads, List.mem_map] at hz
    obtain ⟨k, _, rfl⟩ := hz
    have := cnt_le k (plan names nodes m)
    omega) (by simp [sumI])
  rw [slXs_sl, lenI_ints]
  exact this
theorem F5.l1 (hn : ∀ s ∈ names, s.size ≤ 200) (hs : nodes.length ≤ 60) (hl : names.length ≤ 40) : ∀ (post pre D : List Int), nodes = pre ++ post → D.length ≤ pre.length → post.foldl diffF D = diffs nodes → Ev (fun n => F5.PL (strs names) (ints nodes) m x n (.l1 (ints nodes.reverse) (ints D) (pre.length : Int))) (.bool true)
  | [], pre, D, h, hD, he => by
    have hl' := len_end h
    have he : D = diffs nodes := he
    rw [he, ← hl']
    exact F5.end' hn hs hl
  | k :: post, pre, D, h, hD, he => by
    have hl' := len_mid h
    have hi := length_ints (l := D)
    have next : ∀ b, b = (decide (0 ≤ k) && (decide (k < 7) && !(has k D))) → Ev (fun n => F5.PL (strs names) (ints nodes) m x n (.lR24 (ints nodes.reverse) (ints D) k (pre.length : Int) b)) (.bool true) := by
      rintro b rfl
      have ih := F5.l1 hn hs hl post (pre ++ [k]) (diffF D k) (by rw [h]; simp) (by unfold diffF; split <;> simp <;> omega) (by rw [← he, List.foldl_cons])
      refine Ev.succ ?_
      simp only [F5.PL]
      unfold diffF at ih
      rw [addW_eq (by omega) (by omega)]
      cases hb : (decide (0 ≤ k) && (decide (k < 7) && !(has k D)))
      · rw [hb] at ih
        refine Ev.neg Bool.false_ne_true ?_
        simpa using ih
      · rw [hb] at ih
        refine Ev.pos rfl (Ev.pos (by rw [tt_room]; simp only [List.length_cons, List.length_nil]; omega) ?_)
        rw [ints_snoc]
        simpa using ih
    refine Ev.succ ?_
    simp only [F5.PL, lenI_ints, ints_at h]
    refine Ev.pos (by rw [tt_lt]; omega) (Ev.pos (by rw [tt_le]; omega) (Ev.pos (by rw [tt_lt]; omega) (Ev.pos rfl ?_)))
    rw [ce_0, toInt_int]
    by_cases c1 : 0 ≤ k
    · refine Ev.pos (by rw [tt_le]; exact c1) ?_
      by_cases c2 : k < 7
      · refine Ev.pos (by rw [tt_lt]; exact c2) (Ev.bind (F20.eq (zs := D) (v := k) (by omega)) (Ev.pos rfl (next _ (by simp [c1, c2, AV.toBool]))))
      · exact Ev.neg (by rw [tt_lt]; exact c2) (next _ (by simp [c2]))
    · exact Ev.neg (by rw [tt_le]; exact c1) (next _ (by simp [c1]))
theorem F5.l0 (hn : ∀ s ∈ names, s.size ≤ 200) (hs : nodes.length ≤ 60) (hl : names.length ≤ 40) : ∀ (post pre : List ByteArray), names = pre ++ post → Ev (fun n => F5.PL (strs names) (ints nodes) m x n (.l0 (ints (nodes ++ [x])) (ints (without x nodes)) (ints nodes.reverse) (pre.length : Int))) (.bool true)
  | [], pre, h => by
    have hl' := len_end h
    refine Ev.succ ?_
    simp only [F5.PL, lenI_strs]
    refine Ev.neg (by rw [tt_lt]; omega) ?_
    exact F5.l1 hn hs hl nodes [] [] rfl (Nat.le_refl _) rfl
  | s :: post, pre, h => by
    have hl' := len_mid h
    have hsz : s.size ≤ 50000 := by have := hn s (by rw [h]; simp); omega
    have hw : (without x nodes).length ≤ nodes.length := List.length_filter_le _ _
    have e1 := F18.eq (name := s) (nodes := without x nodes) (n := m) hsz (by omega)
    have e2 := F18.eq (name := s) (nodes := nodes ++ [x]) (n := m) hsz (by simp; omega)
    have e3 := F19.eq (name := s) (nodes := nodes) hsz (by omega)
    have e4 := F19.eq (name := s) (nodes := nodes.reverse) hsz (by simp; omega)
    rw [rk_same (name := s) (a := nodes.reverse) (b := nodes) (fun z => by simp)] at e4
    have hr := rk_len s nodes
    have h7 := sel_len nodes
    have e5 := F11.eq (a := rk s nodes) (b := rk s nodes) (by omega)
    rw [decide_eq_true rfl] at e5
    have a1 := pl_len s (without x nodes) m
    have a2 := pl_len s (nodes ++ [x]) m
    have e6 := F20.eq (zs := (pl s (nodes ++ [x]) m).nodes) (v := x) (by omega)
    have hfl : (rk s (nodes ++ [x])).filter (fun z => !(decide (z = x))) = rk s (without x nodes) := rk_filter fun z => by simp only [without, List.mem_filter, List.mem_append, List.mem_cons, List.not_mem_nil, or_false, Bool.not_eq_eq_eq_not, Bool.not_true, decide_eq_false_iff_not]; exact ⟨fun ⟨h1, h2⟩ => ⟨.inl h1, h2⟩, fun ⟨h1, h2⟩ => ⟨h1.elim id fun e => absurd e h2, h2⟩⟩
    have hbare : (pl s (without x nodes) m).nodes = ((rk s (nodes ++ [x])).filter fun z => !(decide (z = x))).take m.toNat := by rw [hfl]; rfl
    have hwith : (pl s (nodes ++ [x]) m).nodes = (rk s (nodes ++ [x])).take m.toNat := rfl
    have ih := F5.l0 hn hs hl post (pre ++ [s]) (by rw [h]; simp)
    have ih' : Ev (fun n => F5.PL (strs names) (ints nodes) m x n (.l0 (ints (nodes ++ [x])) (ints (without x nodes)) (ints nodes.reverse) (addW .i64 (pre.length : Int) 1))) (.bool true) := by
      rw [addW_eq (by omega) (by omega)]
      simpa using ih
    refine Ev.succ ?_
    simp only [F5.PL, lenI_strs, strs_at h]
    refine Ev.pos (by rw [tt_lt]; omega) (Ev.pos (by rw [tt_le]; omega) (Ev.pos (by rw [tt_lt]; omega) (Ev.pos rfl ?_)))
    refine Ev.bind e1 (Ev.pos rfl (Ev.pos rfl (Ev.pos rfl (Ev.bind e2 (Ev.pos rfl (Ev.pos rfl (Ev.pos rfl ?_)))))))
    refine Ev.bind e3 (Ev.pos rfl (Ev.bind e4 (Ev.pos rfl (Ev.bind e5 (Ev.pos rfl (Ev.neg Bool.false_ne_true ?_))))))
    refine Ev.bind e6 (Ev.pos rfl ?_)
    cases hx : has x (pl s (nodes ++ [x]) m).nodes
    · have hnx : x ∉ (rk s (nodes ++ [x])).take m.toNat := fun hm => by
        have := has_iff.2 hm
        rw [← hwith, hx] at this
        cases this
      have e7 := F11.eq (a := (pl s (without x nodes) m).nodes) (b := (pl s (nodes ++ [x]) m).nodes) (by omega)
      rw [decide_eq_true (by rw [hbare, hwith]; exact take_lack hnx)] at e7
      exact Ev.pos rfl (Ev.bind e7 (Ev.pos rfl (Ev.neg Bool.false_ne_true ih')))
    · have hmx : x ∈ (rk s (nodes ++ [x])).take m.toNat := has_iff.1 hx
      obtain ⟨t1, t2, t3⟩ := take_rest (m := m.toNat) (rk_nodup s (nodes ++ [x])) hmx
      rw [← hbare] at t2 t3
      rw [← hwith] at t1 t2 t3
      have e8 := F16.eq (l := (pl s (nodes ++ [x]) m).nodes) (x := x) (by omega)
      have hwd : without x (pl s (nodes ++ [x]) m).nodes = (pl s (nodes ++ [x]) m).nodes.filter fun z => !(decide (z = x)) := rfl
      rw [hwd] at e8
      generalize hR : ((pl s (nodes ++ [x]) m).nodes.filter fun z => !(decide (z = x))) = R at e8 t1 t2 t3
      have e9 := F11.eq (a := (pl s (without x nodes) m).nodes.take R.length) (b := R) (by simp; omega)
      rw [decide_eq_true t3] at e9
      have c1 : (!(eqI (lenI (ints R)) (subW .i64 (lenI (ints (pl s (nodes ++ [x]) m).nodes)) 1))) = false := by
        rw [lenI_ints, lenI_ints, subW_eq (by omega) (by omega)]
        simp [eqI]; omega
      refine Ev.neg Bool.false_ne_true (Ev.bind e8 (Ev.pos rfl (Ev.neg (fun h => Bool.false_ne_true (c1.symm.trans h)) (Ev.neg (fun h => ?_) ?_))))
      · have h : ltI (lenI (ints (pl s (without x nodes) m).nodes)) (lenI (ints R)) = true := h
        rw [tt_lt, lenI_ints, lenI_ints] at h
        omega
      · refine Ev.pos ?_ (Ev.pos ?_ (Ev.pos ?_ (Ev.bind (w := .bool true) ?_ (Ev.pos rfl ?_))))
        · show leI 0 (lenI (ints R)) = true
          rw [tt_le, lenI_ints]; omega
        · show leI (lenI (ints R)) (lenI (ints R)) = true
          rw [tt_le]; omega
        · show leI (lenI (ints R)) (lenI (ints (pl s (without x nodes) m).nodes)) = true
          rw [tt_le, lenI_ints, lenI_ints]; omega
        · have : ((ints (pl s (without x nodes) m).nodes).take (lenI (ints R)).toNat).drop 0 = ints ((pl s (without x nodes) m).nodes.take R.length) := by rw [lenI_ints, Int.toNat_natCast, List.drop_zero, take_ints]
          exact (congrArg (fun q => F11.P q (ints R)) this).trans e9
        · refine Ev.succ ?_
          simp only [F5.PL]
          exact Ev.neg Bool.false_ne_true ih'
theorem F5.eq (hn : names.length ≤ 140737488355328) : F5.P (strs names) (ints nodes) m x = some (.bool true) := by
  unfold F5.P
  have e0 := F14.eq (names := names) (ls := [nodes]) hn (by simp)
  refine lim_eq (Ev.bind e0 (Ev.pos rfl ?_))
  cases h : fewB names [nodes]
  · exact Ev.pos rfl (Ev.of' F8.fin)
  · obtain ⟨h1, h2, h3⟩ := few_out h
    have hs := h2 nodes (by simp)
    have e1 := F15.eq (zs := nodes) (by omega)
    have e2 := F16.eq (l := nodes) (x := x) (by omega)
    have e3 := RevP.of (zs := nodes) (by omega)
    have hi := length_ints (l := nodes)
    refine Ev.neg Bool.false_ne_true (Ev.bind e1 (Ev.pos rfl (Ev.pos ?_ (Ev.bind e2 (Ev.pos rfl (Ev.bind e1 (Ev.pos rfl (Ev.bind e3 ?_))))))))
    · show room (ints nodes) [[.int .i64 x]] 8 = true
      rw [tt_room]; simp only [List.length_cons, List.length_nil]; omega
    · have := F5.l0 (m := m) (x := x) h1 hs h3 names [] rfl
      rw [← ints_snoc] at this
      exact this
end
end Go.Proofs.YtagckffnpnejaaaDoor.Ab
