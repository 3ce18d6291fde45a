/- The abstract machine is monotone in what follows and in the oracle. -/
import Derived.Test.YtbkkhhmjmbbfpaaAbRep
namespace Go.Proofs.Ytbkkhhmjmbbfpaa.Ab
open Go
/-- What a run must fulfil at its end. -/
abbrev Qt : Type := AV → Heap → Prop

theorem G_mono {b : Bool} {p q : Prop} (h : p → q) : G b p → G b q := by cases b <;> exact fun x => by first | exact x | exact h x
theorem cond_mono {b : Bool} {p q p' q' : Prop} (h : p → p') (h' : q → q') : cond b p q → cond b p' q' := by cases b <;> first | exact h | exact h'

/-- Does the second tell at least what the first tells? -/
def OLe (R R' : Oracle) : Prop := ∀ f args H (Q Q' : AV → Heap → Prop), (∀ v H, Q v H → Q' v H) → R f args H Q → R' f args H Q'

section
variable {α : Type}
theorem norm_mono {c : CK} {x : AV} {K K' : AV → Prop} (hK : ∀ y, K y → K' y) : norm c x K → norm c x K' := by
  cases c <;> simp only [norm] <;> first | exact G_mono (hK _) | exact cond_mono (hK _) (G_mono (hK _)) | exact id
theorem norm1_mono {c : CK} {x : AV} {K K' : AV → Prop} (hK : ∀ y, K y → K' y) : norm1 c x K → norm1 c x K' := by
  cases c <;> simp only [norm1] <;> first | exact G_mono (hK _) | exact norm_mono hK
theorem normO_mono {c : CK} {x : AV} {K K' : AV → Prop} (hK : ∀ y, K y → K' y) : normO c x K → normO c x K' := by
  cases c <;> simp only [normO] <;> first | exact cond_mono (hK _) (G_mono (hK _)) | exact norm_mono hK
theorem normM_mono {c : CK} {x : AV} {K K' : AV → Prop} (hK : ∀ y, K y → K' y) : normM c x K → normM c x K' := by
  cases c <;> simp only [normM] <;> first | exact G_mono (hK _) | exact id
theorem normL_mono {get : Nat → AV} : ∀ {cs : List CK} {o : Nat} {K K' : List AV → Prop}, (∀ y, K y → K' y) → normL get cs o K → normL get cs o K'
  | [], _, _, _, hK, h => hK _ h
  | _ :: _, _, _, _, hK, h => norm_mono (fun _ h => normL_mono (fun _ h => hK _ h) h) h
theorem normOL_mono {get : Nat → AV} : ∀ {cs : List CK} {o : Nat} {K K' : List AV → Prop}, (∀ y, K y → K' y) → normOL get cs o K → normOL get cs o K'
  | [], _, _, _, hK, h => hK _ h
  | _ :: _, _, _, _, hK, h => normO_mono (fun _ h => normOL_mono (fun _ h => hK _ h) h) h
theorem normML_mono {get : Nat → AV} : ∀ {cs : List CK} {o : Nat} {K K' : List AV → Prop}, (∀ y, K y → K' y) → normML get cs o K → normML get cs o K'
  | [], _, _, _, hK, h => hK _ h
  | _ :: _, _, _, _, hK, h => normM_mono (fun _ h => normML_mono (fun _ h => hK _ h) h) h
theorem loadAt_mono {T : List TI} {mem : List MB} {H : Heap} {t : Nat} {p : AV} {K K' : AV → Prop} (hK : ∀ y, K y → K' y) : loadAt T mem H t p K → loadAt T mem H t p K' := by
  unfold loadAt
  split
  · split
    · exact cond_mono (normML_mono fun _ => hK _) (normM_mono hK)
    · exact cond_mono (normL_mono fun _ => hK _) (norm_mono hK)
    · exact id
  · exact cond_mono (normL_mono fun _ => hK _) (norm_mono hK)
  · exact cond_mono (normL_mono fun _ => hK _) (norm_mono hK)
  · exact G_mono (cond_mono (normL_mono fun _ => hK _) (norm_mono hK))
  · exact G_mono (cond_mono (normOL_mono fun _ => hK _) (normO_mono hK))
  · exact id
theorem normE_mono {T : List TI} {t : Nat} {x : AV} {K K' : AV → Prop} (hK : ∀ y, K y → K' y) : normE T t x K → normE T t x K' := by
  unfold normE
  exact cond_mono (G_mono (normL_mono fun _ => hK _)) (norm1_mono hK)
theorem lookAV_mono {T : List TI} {t : Nat} {ok : Bool} {H : Heap} {x k : AV} {K K' : AV → Prop} (hK : ∀ y, K y → K' y) : lookAV T t ok H x k K → lookAV T t ok H x k K' := by
  unfold lookAV
  split
  · exact G_mono (G_mono (G_mono (cond_mono (normE_mono fun _ => hK _) (G_mono (hK _)))))
  · exact id
theorem partAV_mono {T : List TI} {t : Nat} {cs : List AV} {o : Nat} {K K' : AV → Prop} (hK : ∀ y, K y → K' y) : partAV T t cs o K → partAV T t cs o K' := by
  unfold partAV
  exact cond_mono (normML_mono fun _ => hK _) (normM_mono hK)
theorem eqlAV_mono {p : Bool} {z : List CK} {k : TK} {c : Bool} {x y : AV} {K K' : Bool → Prop} (hK : ∀ y, K y → K' y) : eqlAV p z k c x y K → eqlAV p z k c x y K' := by
  unfold eqlAV
  split <;> (try split) <;> first | exact hK _ | exact id | exact G_mono (hK _) | exact G_mono (G_mono (hK _))
theorem binAV_mono {p : Bool} {z : List CK} {k : TK} {c : Bool} {op : BinOp} {x y : AV} {K K' : AV → Prop} (hK : ∀ y, K y → K' y) : binAV p z k c op x y K → binAV p z k c op x y K' := by
  unfold binAV
  split <;> (try split) <;> first | exact hK _ | exact id | exact eqlAV_mono fun _ => hK _ | exact G_mono (hK _) | exact G_mono (G_mono (hK _))
theorem boundI_mono {o : Option Operand} {r : Operand → AV} {d : Int} {K K' : Int → Prop} (hK : ∀ y, K y → K' y) : boundI o r d K → boundI o r d K' := by
  unfold boundI
  split
  · exact hK _
  · split <;> first | exact hK _ | exact id
theorem light_mono {T : List TI} {op : Op} {r : Operand → AV} {mem : List MB} {H : Heap} {K K' : AV → Prop} (hK : ∀ y, K y → K' y) : light T op r mem H K → light T op r mem H K' := by
  unfold light
  split
  all_goals (repeat' split)
  all_goals first
    | exact hK _
    | exact id
    | exact loadAt_mono hK
    | exact lookAV_mono hK
    | exact binAV_mono hK
    | exact cond_mono (hK _) (hK _)
    | exact G_mono (hK _)
    | exact partAV_mono hK
    | exact G_mono (G_mono (hK _))
    | exact G_mono (G_mono (G_mono (hK _)))
    | exact G_mono (G_mono (G_mono (partAV_mono hK)))
    | exact G_mono (G_mono (G_mono (G_mono (hK _))))
    | exact boundI_mono fun _ => boundI_mono fun _ => G_mono (G_mono (G_mono (G_mono (hK _))))
    | exact boundI_mono fun _ => boundI_mono fun _ => boundI_mono fun _ => G_mono (G_mono (G_mono (G_mono (G_mono (G_mono (G_mono (hK _)))))))
    | exact boundI_mono fun _ => boundI_mono fun _ => G_mono (G_mono (G_mono (G_mono (hK _))))
    | exact boundI_mono fun _ => boundI_mono fun _ => boundI_mono fun _ => G_mono (G_mono (G_mono (G_mono (G_mono (hK _)))))
    | skip
end

section
theorem fillAV_mono {place : Nat → Option (Nat × Nat)} : ∀ {ps : List (Nat × AV)} {cs : List AV} {K K' : List AV → Prop}, (∀ y, K y → K' y) → fillAV place cs ps K → fillAV place cs ps K'
  | [], _, _, _, hK => hK _
  | (i, v) :: r, cs, K, K', hK => by
    simp only [fillAV]
    split
    · exact id
    · exact G_mono (G_mono (G_mono (fillAV_mono hK)))
theorem fillRows_mono {k : Nat} : ∀ {ps : List (Nat × AV)} {xs : List (List AV)} {K K' : List (List AV) → Prop}, (∀ y, K y → K' y) → fillRows k xs ps K → fillRows k xs ps K'
  | [], _, _, _, hK => hK _
  | (i, v) :: r, xs, K, K', hK => by
    simp only [fillRows]
    exact G_mono (G_mono (G_mono (fillRows_mono hK)))
theorem normC_mono {own : Bool} {s : Nat} {c : CK} {x : AV} {K K' : Nat → AV → Prop} (hK : ∀ s y, K s y → K' s y) : normC own s c x K → normC own s c x K' := by
  cases c <;> simp only [normC] <;> first | exact G_mono (hK _ _) | exact cond_mono (G_mono (hK _ _)) (G_mono (hK _ _)) | exact cond_mono (G_mono (hK _ _)) (hK _ _) | exact cond_mono (hK _ _) (G_mono (hK _ _))
theorem normCs_mono {own : Bool} : ∀ {cs : List CK} {s : Nat} {xs : List AV} {K K' : Nat → List AV → Prop}, (∀ s y, K s y → K' s y) → normCs own cs s xs K → normCs own cs s xs K'
  | [], _, _, _, _, hK, h => hK _ _ h
  | _ :: _, _, _, _, _, hK, h => normC_mono (fun _ _ h => normCs_mono (fun _ _ h => hK _ _ h) h) h
theorem normT_mono {T : List TI} {own : Bool} {s t : Nat} {v : AV} {K K' : Nat → AV → Prop} (hK : ∀ s y, K s y → K' s y) : normT T own s t v K → normT T own s t v K' := by
  unfold normT
  exact cond_mono (G_mono (normCs_mono fun _ _ => hK _ _)) (normC_mono hK)
theorem normTs_mono {T : List TI} {own : Bool} : ∀ {ts : List Nat} {s : Nat} {xs : List AV} {K K' : Nat → List AV → Prop}, (∀ s y, K s y → K' s y) → normTs T own ts s xs K → normTs T own ts s xs K'
  | [], _, _, _, _, hK, h => hK _ _ h
  | _ :: _, _, _, _, _, hK, h => normT_mono (fun _ _ h => normTs_mono (fun _ _ h => hK _ _ h) h) h
theorem normRes_mono {T : List TI} {own : Bool} {s t : Nat} {v : AV} {K K' : AV → Prop} (hK : ∀ y, K y → K' y) : normRes T own s t v K → normRes T own s t v K' := by
  unfold normRes
  split
  · exact G_mono (normTs_mono fun _ _ => hK _)
  · exact normT_mono fun _ => hK
theorem ioTurn_mono {R R' : Oracle} (hR : OLe R R') {f k : Nat} {xs : List (List AV)} {rest : List AV} {H : Heap} {K K' : List (List AV) → Heap → Prop} (hK : ∀ ys H, K ys H → K' ys H) (h : ioTurn R f k xs rest H K) : ioTurn R' f k xs rest H K' :=
  ⟨fun m h1 h2 => hR _ _ _ _ _ (fun _ _ ⟨e, s, ys, q1, q2, q3⟩ => ⟨e, s, ys, q1, q2, hK _ _ q3⟩) (h.1 m h1 h2), fun e => hR _ _ _ _ _ (fun _ _ ⟨e, q⟩ => ⟨e, hK _ _ q⟩) (h.2 e)⟩
theorem ioRet_mono {k : Nat} {H H' : Heap} {v : AV} {K K' : List (List AV) → Heap → Prop} (hK : ∀ ys H, K ys H → K' ys H) : ioRet k H H' v K → ioRet k H H' v K' := by
  rintro (⟨j, n, c, ys, h1, h2, h3, h4, h5, h6⟩ | ⟨t, ys, h1, h2⟩)
  · exact .inl ⟨j, n, c, ys, h1, h2, h3, h4, h5, hK _ _ h6⟩
  · exact .inr ⟨t, ys, h1, hK _ _ h2⟩
theorem ioBack_mono {R R' : Oracle} (hR : OLe R R') {f k : Nat} {xs : List (List AV)} {rest : List AV} {H : Heap} {K K' : List (List AV) → Heap → Prop} (hK : ∀ ys H, K ys H → K' ys H) (h : ioBack R f k xs rest H K) : ioBack R' f k xs rest H K' :=
  ⟨fun m h1 h2 => hR _ _ _ _ _ (fun _ _ ⟨s, q, r⟩ => ⟨s, q, ioRet_mono hK r⟩) (h.1 m h1 h2), fun e => hR _ _ _ _ _ (fun _ _ ⟨s, q⟩ => ⟨s, q.imp (ioRet_mono hK) fun ⟨e, q⟩ => ⟨e, hK _ _ q⟩⟩) (h.2 e)⟩
theorem hsK_mono {h : Option (Option Nat)} {v : AV} {K K' : AV → Prop} (hK : ∀ v, K v → K' v) : hsK h v K → hsK h v K' := by
  unfold hsK
  split <;> first | exact G_mono (hK _) | exact id
theorem callIO_mono {E : Env} {R R' : Oracle} (hR : OLe R R') {s : St} {f : Nat} {args : List AV} {type : Nat} {K K' : AV → St → Prop} (hK : ∀ v s, K v s → K' v s) : callIO E R s f args type K → callIO E R' s f args type K' := by
  unfold callIO
  split
  · exact G_mono (cond_mono (G_mono (ioTurn_mono hR fun _ _ => hK _ _)) (G_mono (ioBack_mono hR fun _ _ => hK _ _)))
  · exact cond_mono (G_mono (hR _ _ _ _ _ fun _ _ => normRes_mono fun _ => hK _ _)) (G_mono (cond_mono (hR _ _ _ _ _ fun _ _ => normRes_mono fun _ => hK _ _) (hR _ _ _ _ _ fun _ _ => hsK_mono fun _ => hK _ _)))
theorem pastR_mono {R R' : Oracle} (hR : OLe R R') : OLe (pastR R) (pastR R') := fun _ _ _ _ _ hQ h => hR _ _ _ _ _ (fun _ _ h => hQ _ _ h) h
theorem callAV_mono {E : Env} {R R' : Oracle} (hR : OLe R R') {strict : Bool} {s : St} {f : Nat} {args : List AV} {type : Nat} {K K' : AV → St → Prop} (hK : ∀ v s, K v s → K' v s) : callAV E R strict s f args type K → callAV E R' strict s f args type K' := by
  unfold callAV
  have one : ∀ {own : Bool} {n : Nat} {args : List AV} {H : Heap} {g : Heap → St}, R f args H (fun v H => normRes E.T own n type v fun v => K v (g H)) → R' f args H (fun v H => normRes E.T own n type v fun v => K' v (g H)) := hR _ _ _ _ _ fun _ _ => normRes_mono fun _ => hK _ _
  have onep : ∀ {own : Bool} {n : Nat} {args : List AV} {H : Heap} {g : Heap → St}, pastR R f args H (fun v H => normRes E.T own n type v fun v => K v (g H)) → pastR R' f args H (fun v H => normRes E.T own n type v fun v => K' v (g H)) := pastR_mono hR _ _ _ _ _ fun _ _ => normRes_mono fun _ => hK _ _
  exact cond_mono (G_mono (callIO_mono hR hK)) (cond_mono (cond_mono (G_mono (G_mono onep)) (cond_mono (G_mono (G_mono onep)) onep)) (G_mono one))
theorem capAll_mono : ∀ {xs : List AV} {s : St} {K K' : List AV → St → Prop}, (∀ v s, K v s → K' v s) → capAll s xs K → capAll s xs K'
  | [], _, _, _, hK => hK _ _
  | x :: r, s, K, K', hK => by
    cases x <;> simp only [capAll] <;> try exact capAll_mono fun _ _ => hK _ _
    split
    · exact capAll_mono fun _ _ => hK _ _
    · exact capAll_mono fun _ _ => hK _ _
    · exact id
theorem rowOf_mono {k : Nat} {H : Heap} {v : AV} {K K' : List (List AV) → Prop} (hK : ∀ y, K y → K' y) : rowOf k H v K → rowOf k H v K' := by
  unfold rowOf
  split <;> first | exact G_mono (hK _) | exact hK _ | exact id | exact G_mono (G_mono (G_mono (hK _)))
theorem apartK_mono {H : Heap} {x y : AV} {K K' : Bool → Prop} (hK : ∀ b, K b → K' b) : apartK H x y K → apartK H x y K' := by
  unfold apartK
  split <;> first | exact hK _ | exact G_mono (hK _) | exact id
theorem zerosOf_mono {T : List TI} {e : Nat} {c : Go.Call} {v : AV} {K K' : List (List AV) → Prop} (hK : ∀ y, K y → K' y) : zerosOf T e c v K → zerosOf T e c v K' := by
  unfold zerosOf
  split
  · split <;> first | exact G_mono (G_mono (hK _)) | exact id
  · exact id
theorem buildL_mono {T : List TI} {t n : Nat} {ps : Array (Nat × Operand)} {r : Operand → AV} {K K' : AV → Prop} (hK : ∀ v, K v → K' v) : buildL T t n ps r K → buildL T t n ps r K' := by
  unfold buildL
  split
  · exact G_mono (G_mono (fillRows_mono fun _ => hK _))
  · exact id
theorem buildO_mono {T : List TI} {t n : Nat} {ps : Array (Nat × Operand)} {r : Operand → AV} {s : St} {K K' : St → AV → Prop} (hK : ∀ s v, K s v → K' s v) : buildO T t n ps r s K → buildO T t n ps r s K' := by
  unfold buildO
  split
  · exact G_mono (G_mono (fillRows_mono fun _ => hK _ _))
  · exact id
theorem invAV_mono {E : Env} {R R' : Oracle} (hR : OLe R R') {strict : Bool} {s : St} {args : List AV} {type t : Nat} {v : AV} {K K' : AV → St → Prop} (hK : ∀ v s, K v s → K' v s) : ∀ {l : List (Nat × Nat)}, invAV E R strict s args type t v K l → invAV E R' strict s args type t v K' l
  | [] => id
  | _ :: _ => cond_mono (G_mono (normE_mono fun _ => callAV_mono hR hK)) (invAV_mono hR hK)
theorem aop_mono {E : Env} {R R' : Oracle} (hR : OLe R R') {strict : Bool} {o : Oper} {s : St} {K K' : St → Prop} (hK : ∀ s, K s → K' s) : aop E R strict o s K → aop E R' strict o s K' := by
  simp only [aop]
  split
  all_goals (repeat' split)
  all_goals first
    | exact light_mono fun _ => hK _
    | exact hK _
    | exact id
    | exact fun ⟨b, h1, h2⟩ => ⟨b, h1, hK _ h2⟩
    | exact fun h b hb => hK _ (h b hb)
    | exact capAll_mono fun _ _ => hK _
    | exact cond_mono (G_mono (apartK_mono fun _ => hK _)) (callAV_mono hR fun _ _ => hK _)
    | exact cond_mono (hK _) (hK _)
    | exact G_mono (cond_mono (hK _) (hK _))
    | exact G_mono (G_mono (G_mono (G_mono fun h => ⟨fun m h1 h2 => hK _ (h.1 m h1 h2), fun e => hK _ (h.2 e)⟩)))
    | exact G_mono fun h => ⟨fun e => hK _ (h.1 e), fun e he => hK _ (h.2 e he)⟩
    | exact G_mono (G_mono (normE_mono fun _ => normE_mono fun _ => hK _))
    | exact G_mono (invAV_mono hR fun _ _ => hK _)
    | exact G_mono (G_mono (G_mono (cond_mono (rowOf_mono fun _ => cond_mono (G_mono (hK _)) (G_mono (G_mono fun h m h1 h2 => hK _ (h m h1 h2)))) (zerosOf_mono fun _ => cond_mono (G_mono (hK _)) (G_mono (G_mono fun h m h1 h2 => hK _ (h m h1 h2)))))))
    | (repeat' (first | refine G_mono ?_ | refine fillAV_mono fun _ => ?_ | refine fillRows_mono fun _ => ?_ | refine rowOf_mono fun _ => ?_ | refine light_mono fun _ => ?_)
       all_goals first | exact hK _ | exact id)
    | (refine cond_mono (G_mono ?_) ?_ ; (exact buildL_mono fun v => hK (s.put o.dst v)) ; (exact buildO_mono fun s v => hK (s.put o.dst v)))
    | skip
end

section
theorem astep_mono {E : Env} {R R' : Oracle} (hR : OLe R R') {strict : Bool} {ops : List Oper} {o : Oper} {s : St} {K K' : St → Prop} (hK : ∀ s, K s → K' s) : astep E R strict ops o s K → astep E R' strict ops o s K' := by
  unfold astep
  split
  · exact aop_mono hR hK
  · split
    · exact id
    · split
      · exact cond_mono (cond_mono (aop_mono hR hK) (hK _)) (cond_mono (hK _) (aop_mono hR hK))
      · exact hK _
      · exact id
theorem aops_mono {E : Env} {R R' : Oracle} (hR : OLe R R') {ops : List Oper} {strict : Nat → Bool} : ∀ {l : List Oper} {i : Nat} {s : St} {K K' : St → Prop}, (∀ s, K s → K' s) → aops E R ops strict l i s K → aops E R' ops strict l i s K'
  | [], _, _, _, _, hK, h => hK _ h
  | _ :: _, _, _, _, _, hK, h => astep_mono hR (fun _ h => aops_mono hR hK h) h
theorem conjL_mono {f g : Nat → Prop} (h : ∀ i, f i → g i) : ∀ {l : List Nat}, conjL l f → conjL l g
  | [], h' => h'
  | [i], h' => h i h'
  | i :: _ :: _, h' => ⟨h i h'.1, conjL_mono h h'.2⟩
theorem stepD_mono {E : Env} {R R' : Oracle} (hR : OLe R R') {ops : List Oper} {i : Nat} {s : St} {K K' : St → Prop} (hK : ∀ s, K s → K' s) : stepD E R ops i s K → stepD E R' ops i s K' := by
  unfold stepD
  split
  · exact astep_mono hR hK
  · exact id
theorem aopsD_mono {E : Env} {R R' : Oracle} (hR : OLe R R') {ops : List Oper} : ∀ {n : Nat} {l : List Nat} {s : St} {K K' : St → Prop}, (∀ s, K s → K' s) → aopsD E R ops n l s K → aopsD E R' ops n l s K'
  | 0, _, _, _, _, _, h => h
  | _ + 1, [], _, _, _, hK, h => hK _ h
  | n + 1, r :: rs, s, K, K', hK, h => by
    simp only [aopsD] at h ⊢
    split at h
    · exact stepD_mono hR (fun _ h => aopsD_mono hR hK h) h
    · exact conjL_mono (fun i h => stepD_mono hR (fun _ h => aopsD_mono hR hK h) h) h
theorem ALoop_mono {body body' : (Ex → St → Prop) → St → Prop} {cl : St → St} (hb : ∀ (K K' : Ex → St → Prop) s, (∀ e s, K e s → K' e s) → body K s → body' K' s) {K K' : Ex → St → Prop} (hK : ∀ e s, K e s → K' e s) {s : St} (h : ALoop body cl K s) : ALoop body' cl K' s := by
  intro I hI
  refine h I fun s hs => hI s (hb _ _ s (fun e s h => ?_) hs)
  cases e <;> first | exact h | exact hK _ _ h
theorem awp_mono {E : Env} {R R' : Oracle} (hR : OLe R R') {L : Live} : ∀ (c : Code) (i : Nat) (s : St) {K K' : Ex → St → Prop}, (∀ e s, K e s → K' e s) → awp E R L c i s K → awp E R' L c i s K'
  | .skip, _, _, _, _, hK => by simp only [awp]; exact hK _ _
  | .region _ ops draw, _, _, _, _, hK => by
    simp only [awp, joinK_eq]
    exact cond_mono (cond_mono (aops_mono hR fun _ => hK _ _) (G_mono (aopsD_mono hR fun _ => hK _ _))) (aops_mono hR fun _ => hK _ _)
  | .seq a b, i, s, K, K', hK => by
    simp only [awp]
    refine awp_mono hR a i s fun e s => ?_
    cases e <;> first | exact awp_mono hR b _ _ hK | exact hK _ _
  | .cond c a b, i, s, K, K', hK => by
    simp only [awp]
    split
    · exact cond_mono (awp_mono hR a _ _ hK) (awp_mono hR b _ _ hK)
    · exact id
  | .block id c, i, s, K, K', hK => by
    simp only [awp, joinK_eq]
    refine awp_mono hR c i s fun e s => ?_
    cases e <;> first | exact cond_mono (hK _ _) (hK _ _) | exact hK _ _
  | .loop c, i, s, K, K', hK => by
    simp only [awp]
    exact ALoop_mono (fun K K' s hK => awp_mono hR c _ s hK) hK
  | .exit id, _, _, _, _, hK => by simp only [awp]; exact hK _ _
  | .ret, _, _, _, _, hK => by simp only [awp]; exact hK _ _
  | .label _, _, _, _, _, _ => by simp [awp]
  | .goto _, _, _, _, _, _ => by simp [awp]
  | .scope _, _, _, _, _, _ => by simp [awp]
  | .rangeFunc _ _ _ _, _, _, _, _, _ => by simp [awp]
  | .refuse _, _, _, _, _, _ => by simp [awp]
theorem resAV_mono {T : List TI} {s : St} : ∀ (rs : List ResultVar) {K K' : List AV → Prop}, (∀ l, K l → K' l) → resAV T s rs K → resAV T s rs K'
  | [], _, _, hK => hK _
  | .tmp t :: r, K, K', hK => by
    simp only [resAV]
    exact resAV_mono r fun _ => hK _
  | .cell a t :: r, K, K', hK => by
    simp only [resAV]
    exact loadAt_mono fun _ => resAV_mono r fun _ => hK _
theorem finK_mono {E : Env} {f : Nat} {Q Q' : AV → Heap → Prop} (hQ : ∀ v H, Q v H → Q' v H) {e : Ex} {s : St} : finK E f Q e s → finK E f Q' e s := by
  cases e <;> simp only [finK] <;> first | exact id | exact resAV_mono _ fun _ => cond_mono (G_mono (hQ _ _)) (hQ _ _)
theorem aBody_mono {E : Env} {R R' : Oracle} (hR : OLe R R') {f : Nat} {args : List AV} {H : Heap} {Q Q' : AV → Heap → Prop} (hQ : ∀ v H, Q v H → Q' v H) : aBody E R f args H Q → aBody E R' f args H Q' := by
  unfold aBody
  split
  · exact fun ⟨Q0, h1, h2⟩ => ⟨Q0, fun v H h => hQ v H (h1 v H h), h2⟩
  · split
    · exact id
    · exact awp_mono hR _ _ _ fun _ _ => finK_mono hQ
/-- What a body tells, its call tells. -/
theorem Call_mono {E : Env} : OLe (Call E) (Call E) := by
  intro f args H Q Q' hQ h R hR
  have := h (fun f args H Q => ∀ Q', (∀ v H, Q v H → Q' v H) → R f args H Q') fun f args H Q hb Q' hQ => hR f args H Q' (aBody_mono (fun f args H Q Q' hQ h => h Q' hQ) hQ hb)
  exact this Q' hQ
theorem Call_intro {E : Env} {f : Nat} {args : List AV} {H : Heap} {Q : AV → Heap → Prop} (h : aBody E (Call E) f args H Q) : Call E f args H Q := by
  intro R hR
  -- a monotone oracle under R
  let R1 : Oracle := fun f args H Q => ∀ Q', (∀ v H, Q v H → Q' v H) → R f args H Q'
  have h1 : ∀ f args H Q, aBody E R1 f args H Q → R1 f args H Q := fun f args H Q hb Q' hQ => hR f args H Q' (aBody_mono (fun f args H Q Q' hQ h => h Q' hQ) hQ hb)
  refine hR f args H Q (aBody_mono (R := Call E) (fun f args H Q Q' hQ hc => ?_) (fun _ _ h => h) h)
  exact hc R1 h1 Q' hQ
/-- What follows a round. -/
def ALoopK (body : (Ex → St → Prop) → St → Prop) (cl : St → St) (K : Ex → St → Prop) : Ex → St → Prop := fun e s' => match e with | .normal => ALoop body cl K (cl s') | e => K e s'
theorem Call_told {E : Env} {f : Nat} {args : List AV} {H : Heap} {Q : AV → Heap → Prop} {R : Prop} (e : aBody E (Call E) f args H Q = R) (h : R) : Call E f args H Q := Call_intro (Eq.mpr e h)
theorem AJoin_told {K : Ex → St → Prop} {s : St} {R : Prop} (e : K .normal s = R) (h : R) : AJoin K s := ⟨Eq.mpr e h⟩
theorem ALoop_unfold' {body : (Ex → St → Prop) → St → Prop} {cl : St → St} (hb : ∀ (K K' : Ex → St → Prop) s, (∀ e s, K e s → K' e s) → body K s → body K' s) {K : Ex → St → Prop} {s : St}
    (h : body (ALoopK body cl K) s) : ALoop body cl K s := by
  intro I hI
  refine hI s (hb _ _ s (fun e s' h => ?_) h)
  cases e <;> first | exact h I hI | exact h
theorem ALoop_unfold {E : Env} {L : Live} {c : Code} {i : Nat} {cl : St → St} {K : Ex → St → Prop} {s : St}
    (h : awp E (Call E) L c i s (ALoopK (fun K s => awp E (Call E) L c i s K) cl K)) : ALoop (fun K s => awp E (Call E) L c i s K) cl K s :=
  ALoop_unfold' (fun _ _ s hK => awp_mono Call_mono c i s hK) h
theorem ALoop_told {E : Env} {L : Live} {c : Code} {i : Nat} {cl : St → St} {K : Ex → St → Prop} {s : St} {R : Prop}
    (e : (fun K s => awp E (Call E) L c i s K) (ALoopK (fun K s => awp E (Call E) L c i s K) cl K) s = R) (h : R) : ALoop (fun K s => awp E (Call E) L c i s K) cl K s :=
  ALoop_unfold (Eq.mpr e h)
end
end Go.Proofs.Ytbkkhhmjmbbfpaa.Ab
