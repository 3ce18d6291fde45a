/- Member: the reference's rounds; P39.4. -/
import Derived.Test.YtdiokakekedaaaaMemSides2
namespace Go.Proofs.Ytdiokakekedaaaa.Ab
open Go

theorem val_cons {n : Nat} {l : List (Int × Int)} {p : Int × Int} : val n (p :: l) = (if okL n p then [(p.1.toNat, p.2.toNat)] else []) ++ val n l := by
  unfold val
  rw [List.filter_cons]
  cases okL n p <;> rfl
theorem cminI {x y : Int} : cond (ltI y x) y x = min x y := by
  unfold ltI
  by_cases h : y < x
  · rw [decide_eq_true h, cond_true]; omega
  · rw [decide_eq_false h, cond_false]; omega
theorem cmaxI {x y : Int} : cond (ltI x y) y x = max x y := by
  unfold ltI
  by_cases h : x < y
  · rw [decide_eq_true h, cond_true]; omega
  · rw [decide_eq_false h, cond_false]; omega
theorem min_nat {x y : Nat} : min (x : Int) (y : Int) = ((min x y : Nat) : Int) := by omega
theorem set_one {x y : AV} : [x].set 0 y = [y] := rfl
theorem relax_eq {a b : Nat} {g : Nat → Nat} : (fun k => if k = b then min (g a) (g b) else if k = a then min (g a) (g b) else g k) = Gr.relax a b g := by
  funext k
  unfold Gr.relax
  by_cases h1 : k = b
  · rw [if_pos h1, if_pos (.inr h1)]
  · by_cases h2 : k = a
    · rw [if_neg h1, if_pos h2, if_pos (.inl h2)]
    · rw [if_neg h1, if_neg h2, if_neg (by omega)]
section
variable {n : Nat} {l : List (Int × Int)} {r : AV}
theorem lowL_congr {f g : Nat → Nat} (h : ∀ k, k < n → f k = g k) : lowL f n = lowL g n := by
  unfold lowL
  refine List.map_congr_left fun k hk => ?_
  rw [h k (List.mem_range.1 hk)]
theorem F20.l2 (hls : l.length ≤ 100000) {rd : Int} {G : Nat → Nat} (next : Ev (fun m => F20.PL (n : Int) (links l) m (.l1 (lowL G n) (addW .i64 rd 1))) r) :
    ∀ (post pre : List (Int × Int)) (g : Nat → Nat), l = pre ++ post → Gr.round (val n post) g = G → Ev (fun m => F20.PL (n : Int) (links l) m (.l2 (lowL g n) rd (pre.length : Int))) r
  | [], pre, g, h, hG => by
    have hl := len_end h
    refine Ev.succ ?_
    simp only [F20.PL, lenI_links]
    refine Ev.neg (by rw [tt_lt]; omega) ?_
    subst hG
    exact next
  | p :: post, pre, g, h, hG => by
    have hl := len_mid h
    rw [val_cons] at hG
    have skip : okL n p = false → Ev (fun m => F20.PL (n : Int) (links l) m (.l2 (lowL g n) rd (addW .i64 (pre.length : Int) 1))) r := fun ho => by
      rw [ho] at hG
      have := F20.l2 hls next post (pre ++ [p]) g (by rw [h]; simp) hG
      rw [add1 (c := p) (by omega)]
      exact this
    refine Ev.succ ?_
    simp only [F20.PL, lenI_links, links_at h, ce_0, ce_s, toInt_int, isInt_i, cminI, cmaxI]
    refine Ev.pos (by rw [tt_lt]; omega) (Ev.pos (by rw [tt_le]; omega) (Ev.pos (by rw [tt_lt]; omega) (Ev.pos trivial (Ev.pos trivial ?_))))
    by_cases e1 : 0 ≤ p.1 ∧ 0 ≤ p.2
    · refine Ev.pos (by rw [tt_le]; omega) ?_
      by_cases e2 : p.1 < n ∧ p.2 < n
      · refine Ev.pos (by rw [tt_lt]; omega) ?_
        have ho : okL n p = true := by simp [okL]; omega
        have ha : p.1.toNat < n := by omega
        have hb : p.2.toNat < n := by omega
        have c1 : leI 0 p.1 = true := by rw [tt_le]; omega
        have c2 : ltI p.1 (n : Int) = true := by rw [tt_lt]; omega
        have c3 : leI 0 p.2 = true := by rw [tt_le]; omega
        have c4 : ltI p.2 (n : Int) = true := by rw [tt_lt]; omega
        simp only [low_get ha, low_get hb, lenI_lowL, ce_0, toInt_int, isInt_i, min_nat, set_one, low_set]
        refine Ev.pos c1 (Ev.pos c2 (Ev.pos trivial (Ev.pos c3 (Ev.pos c4 (Ev.pos trivial (Ev.pos c1 (Ev.pos c2 (Ev.pos c3 (Ev.pos c4 ?_)))))))))
        rw [relax_eq, add1 (c := p) (by omega)]
        rw [ho] at hG
        exact F20.l2 hls next post (pre ++ [p]) (Gr.relax p.1.toNat p.2.toNat g) (by rw [h]; simp) hG
      · refine Ev.neg (by rw [tt_lt]; omega) ?_
        exact skip (by simp [okL]; omega)
    · refine Ev.neg (by rw [tt_le]; omega) ?_
      exact skip (by simp [okL]; omega)
theorem F20.l1 (hn : n ≤ 7) (hls : l.length ≤ 100000) {G : Nat → Nat} (fin : Ev (fun m => F20.PL (n : Int) (links l) m (.l3 (lowL G n) [] 0)) r) :
    ∀ (d i : Nat) (g : Nat → Nat), i + d = n → Gr.rounds (val n l) d g = G → Ev (fun m => F20.PL (n : Int) (links l) m (.l1 (lowL g n) (i : Int))) r
  | 0, i, g, hi, hG => by
    refine Ev.succ ?_
    simp only [F20.PL]
    refine Ev.neg (by rw [tt_lt]; omega) ?_
    subst hG
    exact fin
  | d + 1, i, g, hi, hG => by
    refine Ev.succ ?_
    simp only [F20.PL]
    refine Ev.pos (by rw [tt_lt]; omega) ?_
    refine F20.l2 hls (G := Gr.round (val n l) g) ?_ l [] g rfl rfl
    rw [addW_eq (by omega) (by omega)]
    exact F20.l1 hn hls fin d (i + 1) (Gr.round (val n l) g) (by omega) hG
theorem F20.l0 (hn : n ≤ 7) (fin : Ev (fun m => F20.PL (n : Int) (links l) m (.l1 (lowL id n) 0)) r) :
    ∀ (d i : Nat) (g : Nat → Nat), i + d = n → (∀ k, k < i → g k = k) → Ev (fun m => F20.PL (n : Int) (links l) m (.l0 (lowL g n) (i : Int))) r
  | 0, i, g, hi, hg => by
    refine Ev.succ ?_
    simp only [F20.PL, Int.toNat_natCast]
    refine Ev.neg (by rw [tt_lt]; simp [lenI]; omega) ?_
    rw [lowL_congr (g := id) fun k hk => hg k (by omega)]
    exact fin
  | d + 1, i, g, hi, hg => by
    have hin : i < n := by omega
    refine Ev.succ ?_
    simp only [F20.PL, Int.toNat_natCast, lenI_lowL, low_get (g := g) hin, set_one, low_set]
    refine Ev.pos (by rw [tt_lt]; simp [lenI]; omega) (Ev.pos (by rw [tt_le]; omega) (Ev.pos (by rw [tt_lt]; omega) ?_))
    rw [addW_eq (by omega) (by omega)]
    refine F20.l0 hn fin d (i + 1) (fun k => if k = i then i else g k) (by omega) fun k hk => ?_
    by_cases q : k = i
    · simp only [if_pos q]; exact q.symm
    · simp only [if_neg q]; exact hg k (by omega)
theorem low_rep : List.replicate n ([.int .i64 0] : List AV) = lowL (fun _ => 0) n := by
  refine List.ext_getElem? fun k => ?_
  unfold lowL
  rw [List.getElem?_map]
  by_cases hk : k < n
  · rw [List.getElem?_range hk, List.getElem?_replicate, if_pos hk]; rfl
  · rw [List.getElem?_replicate, if_neg hk, List.getElem?_eq_none (by simpa using hk)]; rfl
theorem F20.eq (h1 : 1 ≤ n) (hn : n ≤ 7) (hls : l.length ≤ 100000) : F20.P (n : Int) (links l) = some (.sl 0 1 (grps (sides (Gr.rounds (val n l) n id) n))) := by
  unfold F20.P
  refine lim_eq ?_
  rw [Int.toNat_natCast, low_rep]
  refine Ev.neg (by rw [tt_lt]; omega) (Ev.neg (by rw [tt_lt]; omega) ?_)
  refine Ev.pos (by rw [tt_le]; omega) (Ev.pos (by rw [tt_eq]) (Ev.pos (by rw [tt_roomN]; omega) ?_))
  refine F20.l0 hn ?_ n 0 _ (by omega) (fun k hk => by omega)
  refine F20.l1 hn hls ?_ n 0 id (by omega) rfl
  exact F20.l3 hn n 0 [] (by omega) (by simp) rfl
theorem sides_same (hn : n ≤ 7) : sides (Gr.rounds (val n l) n id) n = sides (labL n l) n :=
  gF_congr (fun j hj => Gr.rounds_all (lab_low l) val_lt n id (Gr.Way.start (lab_low l)) (by omega) j hj) n 0
end

/-! P39.4 -/
theorem F5.fin {a m : Int} {l : List (Int × Int)} {v : AV} {g : List (List Int)} (ha : a ≤ 9223372036854775807) (hl : l.length ≤ 60) (h1 : F19.P a (links l) = some v) (h2 : F20.P a (links l) = some v) (hi : v.isSl 1 = true) (hx : v.slXs = grps g) (hg : g.length ≤ 100000) (hgs : ∀ x ∈ g, x.length ≤ 100000) : F5.P a (links l) m = some (.bool true) := by
  unfold F5.P
  refine (if_neg (by rw [lenI_links, tt_lt]; omega)).trans ?_
  have e1 := F21.eq ha hg hgs
  have e2 := F22.eq ha hg hgs
  have e3 := F23.eq (b := g) hg hgs
  rw [decide_eq_true rfl] at e3
  have e5 := F24.eq (n := m) ha
  have e6 := F25.eq (n := m) ha
  refine bind_of h1 ((if_pos hi).trans ?_)
  refine bind_of h2 ((if_pos hi).trans ?_)
  rw [hx]
  cases hq : major a g with
  | none =>
    rw [hq] at e1 e2
    refine bind_of e1 ((if_pos rfl).trans ((if_pos rfl).trans ((if_pos rfl).trans ?_)))
    refine bind_of e2 ((if_pos rfl).trans ((if_pos rfl).trans ((if_pos rfl).trans ?_)))
    refine bind_of e3 ((if_pos rfl).trans ((if_pos rfl).trans ?_))
    refine bind_of (F16.eq (a := []) (b := []) (by simp)) ((if_pos rfl).trans ((if_pos rfl).trans ((if_pos rfl).trans ?_)))
    refine bind_of e5 ((if_pos rfl).trans ?_)
    refine bind_of e6 ((if_pos rfl).trans ((if_pos (by simp)).trans ?_))
    exact F10.fin
  | some x =>
    rw [hq] at e1 e2
    have e4 := F16.eq (a := x) (b := x) (hgs x (List.mem_of_find?_eq_some hq))
    rw [decide_eq_true rfl] at e4
    refine bind_of e1 ((if_pos rfl).trans ((if_pos rfl).trans ((if_pos rfl).trans ?_)))
    refine bind_of e2 ((if_pos rfl).trans ((if_pos rfl).trans ((if_pos rfl).trans ?_)))
    refine bind_of e3 ((if_pos rfl).trans ((if_pos rfl).trans ?_))
    refine bind_of e4 ((if_pos rfl).trans ((if_pos rfl).trans ((if_pos rfl).trans ?_)))
    refine bind_of e5 ((if_pos rfl).trans ?_)
    refine bind_of e6 ((if_pos rfl).trans ((if_pos (by simp)).trans ?_))
    exact F10.fin
theorem F5.eq {a m : Int} {l : List (Int × Int)} (ha : a ≤ 9223372036854775807) : F5.P a (links l) m = some (.bool true) := by
  by_cases e : (60 : Int) < l.length
  · unfold F5.P
    exact (if_pos (by rw [lenI_links, tt_lt]; exact e)).trans F10.fin
  · by_cases c : 1 ≤ a ∧ a ≤ 7
    · obtain ⟨n, rfl⟩ : ∃ n : Nat, a = n := ⟨a.toNat, by omega⟩
      have h1 := F19.eq (n := n) (l := l) (by omega) (by omega) (by omega)
      have h2 := F20.eq (n := n) (l := l) (by omega) (by omega) (by omega)
      rw [sides_same (by omega)] at h2
      have q := gF_len (f := labL n l) (n := n) n 0
      refine F5.fin ha (by omega) h1 h2 rfl rfl (by unfold sides; omega) fun x hx => ?_
      have := gF_mem (f := labL n l) (n := n) n 0 x hx
      omega
    · have h1 : F19.P a (links l) = some .nilsl := by
        unfold F19.P
        refine lim_eq ?_
        by_cases c1 : a < 1
        · exact Ev.pos (by rw [tt_lt]; exact c1) Ev.const
        · exact Ev.neg (by rw [tt_lt]; exact c1) (Ev.pos (by rw [tt_lt]; omega) Ev.const)
      have h2 : F20.P a (links l) = some .nilsl := by
        unfold F20.P
        refine lim_eq ?_
        by_cases c1 : a < 1
        · exact Ev.pos (by rw [tt_lt]; exact c1) Ev.const
        · exact Ev.neg (by rw [tt_lt]; exact c1) (Ev.pos (by rw [tt_lt]; omega) Ev.const)
      exact F5.fin (g := []) ha (by omega) h1 h2 rfl rfl (by simp) (by simp)
end Go.Proofs.Ytdiokakekedaaaa.Ab
