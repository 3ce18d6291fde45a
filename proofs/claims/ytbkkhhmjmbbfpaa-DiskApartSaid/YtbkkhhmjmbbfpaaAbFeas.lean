/- What is told of an operation holds of some outcome: no miracles. -/
import Derived.Test.YtbkkhhmjmbbfpaaAbMono
namespace Go.Proofs.Ytbkkhhmjmbbfpaa.Ab
open Go

def Feas (R : Oracle) : Prop := ∀ f args H Q, R f args H Q → ∃ v H', Q v H'
theorem G_feas {b : Bool} {p q : Prop} (h : p → q) : G b p → q := by cases b <;> exact fun x => by first | exact x.elim | exact h x
theorem cond_feas {b : Bool} {p q r : Prop} (h : p → r) (h' : q → r) : cond b p q → r := by cases b <;> first | exact h | exact h'

section
theorem norm_feas {c : CK} {x : AV} {K : AV → Prop} : norm c x K → ∃ y, K y := by
  cases c <;> simp only [norm] <;> first | exact G_feas fun h => ⟨_, h⟩ | exact cond_feas (fun h => ⟨_, h⟩) (G_feas fun h => ⟨_, h⟩) | exact False.elim
theorem norm1_feas {c : CK} {x : AV} {K : AV → Prop} : norm1 c x K → ∃ y, K y := by
  cases c <;> simp only [norm1] <;> first | exact G_feas (fun h => ⟨_, h⟩) | exact norm_feas
theorem normO_feas {c : CK} {x : AV} {K : AV → Prop} : normO c x K → ∃ y, K y := by
  cases c <;> simp only [normO] <;> first | exact cond_feas (fun h => ⟨_, h⟩) (G_feas fun h => ⟨_, h⟩) | exact norm_feas
theorem normM_feas {c : CK} {x : AV} {K : AV → Prop} : normM c x K → ∃ y, K y := by
  cases c <;> simp only [normM] <;> first | exact G_feas fun h => ⟨_, h⟩ | exact False.elim
theorem normL_feas {get : Nat → AV} : ∀ {cs : List CK} {o : Nat} {K : List AV → Prop}, normL get cs o K → ∃ y, K y
  | [], _, _, h => ⟨_, h⟩
  | _ :: _, _, _, h => by obtain ⟨_, h⟩ := norm_feas h; obtain ⟨_, h⟩ := normL_feas h; exact ⟨_, h⟩
theorem normOL_feas {get : Nat → AV} : ∀ {cs : List CK} {o : Nat} {K : List AV → Prop}, normOL get cs o K → ∃ y, K y
  | [], _, _, h => ⟨_, h⟩
  | _ :: _, _, _, h => by obtain ⟨_, h⟩ := normO_feas h; obtain ⟨_, h⟩ := normOL_feas h; exact ⟨_, h⟩
theorem normML_feas {get : Nat → AV} : ∀ {cs : List CK} {o : Nat} {K : List AV → Prop}, normML get cs o K → ∃ y, K y
  | [], _, _, h => ⟨_, h⟩
  | _ :: _, _, _, h => by obtain ⟨_, h⟩ := normM_feas h; obtain ⟨_, h⟩ := normML_feas h; exact ⟨_, h⟩
theorem ex_of {α β : Type} {K : β → Prop} {f : α → β} : (∃ x, K (f x)) → ∃ y, K y := fun ⟨x, h⟩ => ⟨f x, h⟩
theorem loadAt_feas {T : List TI} {mem : List MB} {H : Heap} {t : Nat} {p : AV} {K : AV → Prop} : loadAt T mem H t p K → ∃ y, K y := by
  unfold loadAt
  split
  · split
    · exact cond_feas (fun h => ex_of (normML_feas h)) normM_feas
    · exact cond_feas (fun h => ex_of (normL_feas h)) norm_feas
    · exact False.elim
  · exact cond_feas (fun h => ex_of (normL_feas h)) norm_feas
  · exact cond_feas (fun h => ex_of (normL_feas h)) norm_feas
  · exact G_feas (cond_feas (fun h => ex_of (normL_feas h)) norm_feas)
  · exact G_feas (cond_feas (fun h => ex_of (normOL_feas h)) normO_feas)
  · exact False.elim
theorem normE_feas {T : List TI} {t : Nat} {x : AV} {K : AV → Prop} : normE T t x K → ∃ y, K y := by
  unfold normE
  exact cond_feas (G_feas fun h => ex_of (normL_feas h)) norm1_feas
theorem lookAV_feas {T : List TI} {t : Nat} {ok : Bool} {H : Heap} {x k : AV} {K : AV → Prop} : lookAV T t ok H x k K → ∃ y, K y := by
  unfold lookAV
  split
  · exact G_feas (G_feas (G_feas (cond_feas (fun h => ex_of (normE_feas h)) (G_feas fun h => ⟨_, h⟩))))
  · exact False.elim
theorem partAV_feas {T : List TI} {t : Nat} {cs : List AV} {o : Nat} {K : AV → Prop} : partAV T t cs o K → ∃ y, K y := by
  unfold partAV
  exact cond_feas (fun h => ex_of (normML_feas h)) normM_feas
theorem eqlAV_feas {p : Bool} {z : List CK} {k : TK} {c : Bool} {x y : AV} {K : Bool → Prop} : eqlAV p z k c x y K → ∃ y, K y := by
  unfold eqlAV
  split <;> (try split) <;> first | exact fun h => ⟨_, h⟩ | exact False.elim | exact G_feas fun h => ⟨_, h⟩ | exact G_feas (G_feas fun h => ⟨_, h⟩) | exact G_feas (G_feas False.elim)
theorem binAV_feas {p : Bool} {z : List CK} {k : TK} {c : Bool} {op : BinOp} {x y : AV} {K : AV → Prop} : binAV p z k c op x y K → ∃ y, K y := by
  unfold binAV
  split <;> (try split) <;> first | exact False.elim | exact fun h => ex_of (eqlAV_feas h) | exact G_feas (G_feas fun h => ⟨_, h⟩) | exact G_feas fun h => ⟨_, h⟩ | exact fun h => ⟨_, h⟩
theorem boundI_feas {o : Option Operand} {r : Operand → AV} {d : Int} {K : Int → Prop} : boundI o r d K → ∃ y, K y := by
  unfold boundI
  split
  · exact fun h => ⟨_, h⟩
  · split <;> first | exact fun h => ⟨_, h⟩ | exact False.elim
theorem light_feas {T : List TI} {op : Op} {r : Operand → AV} {mem : List MB} {H : Heap} {K : AV → Prop} : light T op r mem H K → ∃ y, K y := by
  unfold light
  split
  all_goals (repeat' split)
  all_goals first
    | exact False.elim
    | exact G_feas False.elim
    | exact loadAt_feas
    | exact lookAV_feas
    | exact binAV_feas
    | exact partAV_feas
    | exact G_feas (G_feas (G_feas partAV_feas))
    | exact cond_feas (fun h => ⟨_, h⟩) (fun h => ⟨_, h⟩)
    | exact G_feas (G_feas (G_feas (G_feas fun h => ⟨_, h⟩)))
    | exact G_feas (G_feas (G_feas fun h => ⟨_, h⟩))
    | exact G_feas (G_feas fun h => ⟨_, h⟩)
    | exact G_feas fun h => ⟨_, h⟩
    | exact fun h => ⟨_, h⟩
    | exact fun h => by
        obtain ⟨_, h⟩ := boundI_feas h
        obtain ⟨_, h⟩ := boundI_feas h
        exact G_feas (G_feas (G_feas (G_feas fun h => ⟨_, h⟩))) h
    | exact fun h => by
        obtain ⟨_, h⟩ := boundI_feas h
        obtain ⟨_, h⟩ := boundI_feas h
        obtain ⟨_, h⟩ := boundI_feas h
        exact G_feas (G_feas (G_feas (G_feas (G_feas (G_feas (G_feas fun h => ⟨_, h⟩)))))) h
    | exact fun h => by
        obtain ⟨_, h⟩ := boundI_feas h
        obtain ⟨_, h⟩ := boundI_feas h
        obtain ⟨_, h⟩ := boundI_feas h
        exact G_feas (G_feas (G_feas (G_feas (G_feas fun h => ⟨_, h⟩)))) h
    | exact fun h => by
        obtain ⟨_, h⟩ := boundI_feas h
        obtain ⟨_, h⟩ := boundI_feas h
        exact G_feas (G_feas (G_feas (G_feas fun h => ⟨_, h⟩))) h
    | skip
theorem fillAV_feas {place : Nat → Option (Nat × Nat)} : ∀ {ps : List (Nat × AV)} {cs : List AV} {K : List AV → Prop}, fillAV place cs ps K → ∃ y, K y
  | [], _, _, h => ⟨_, h⟩
  | (i, v) :: r, cs, K, h => by
    revert h
    simp only [fillAV]
    split
    · exact False.elim
    · exact G_feas (G_feas (G_feas fillAV_feas))
theorem fillRows_feas {k : Nat} : ∀ {ps : List (Nat × AV)} {xs : List (List AV)} {K : List (List AV) → Prop}, fillRows k xs ps K → ∃ y, K y
  | [], _, _, h => ⟨_, h⟩
  | (i, v) :: r, xs, K, h => by
    revert h
    simp only [fillRows]
    exact G_feas (G_feas (G_feas fillRows_feas))
theorem normC_feas {own : Bool} {s : Nat} {c : CK} {x : AV} {K : Nat → AV → Prop} : normC own s c x K → ∃ s y, K s y := by
  cases c <;> simp only [normC] <;> first | exact G_feas fun h => ⟨_, _, h⟩ | exact cond_feas (G_feas fun h => ⟨_, _, h⟩) (G_feas fun h => ⟨_, _, h⟩) | exact cond_feas (G_feas fun h => ⟨_, _, h⟩) (fun h => ⟨_, _, h⟩) | exact cond_feas (fun h => ⟨_, _, h⟩) (G_feas fun h => ⟨_, _, h⟩)
theorem normCs_feas {own : Bool} : ∀ {cs : List CK} {s : Nat} {xs : List AV} {K : Nat → List AV → Prop}, normCs own cs s xs K → ∃ s y, K s y
  | [], _, _, _, h => ⟨_, _, h⟩
  | _ :: _, _, _, _, h => by obtain ⟨_, _, h⟩ := normC_feas h; obtain ⟨_, _, h⟩ := normCs_feas h; exact ⟨_, _, h⟩
theorem normT_feas {T : List TI} {own : Bool} {s t : Nat} {v : AV} {K : Nat → AV → Prop} : normT T own s t v K → ∃ s y, K s y := by
  unfold normT
  exact cond_feas (G_feas fun h => by obtain ⟨_, _, h⟩ := normCs_feas h; exact ⟨_, _, h⟩) normC_feas
theorem normTs_feas {T : List TI} {own : Bool} : ∀ {ts : List Nat} {s : Nat} {xs : List AV} {K : Nat → List AV → Prop}, normTs T own ts s xs K → ∃ s y, K s y
  | [], _, _, _, h => ⟨_, _, h⟩
  | _ :: _, _, _, _, h => by obtain ⟨_, _, h⟩ := normT_feas h; obtain ⟨_, _, h⟩ := normTs_feas h; exact ⟨_, _, h⟩
theorem normRes_feas {T : List TI} {own : Bool} {s t : Nat} {v : AV} {K : AV → Prop} : normRes T own s t v K → ∃ y, K y := by
  unfold normRes
  split
  · exact G_feas fun h => by obtain ⟨_, _, h⟩ := normTs_feas h; exact ⟨_, h⟩
  · exact fun h => by obtain ⟨_, _, h⟩ := normT_feas h; exact ⟨_, h⟩
theorem ioTurn_feas {R : Oracle} (hR : Feas R) {f k : Nat} {xs : List (List AV)} {rest : List AV} {H : Heap} {K : List (List AV) → Heap → Prop} (h : ioTurn R f k xs rest H K) : ∃ ys H, K ys H := by
  obtain ⟨v, H', _, _, ys, _, _, h⟩ := hR _ _ _ _ (h.1 xs.length (Nat.le_refl _) fun h => by omega)
  exact ⟨_, _, h⟩
theorem ioRet_feas {k : Nat} {H H' : Heap} {v : AV} {K : List (List AV) → Heap → Prop} : ioRet k H H' v K → ∃ ys H, K ys H := by
  rintro (⟨j, n, c, ys, h1, h2, h3, h4, h5, h6⟩ | ⟨t, ys, h1, h2⟩)
  · exact ⟨_, _, h6⟩
  · exact ⟨_, _, h2⟩
theorem ioBack_feas {R : Oracle} (hR : Feas R) {f k : Nat} {xs : List (List AV)} {rest : List AV} {H : Heap} {K : List (List AV) → Heap → Prop} (h : ioBack R f k xs rest H K) : ∃ ys H, K ys H := by
  obtain ⟨v, H', _, _, h⟩ := hR _ _ _ _ (h.1 xs.length (Nat.le_refl _) fun h => by omega)
  exact ioRet_feas h
theorem callAV_feas {E : Env} {R : Oracle} (hR : Feas R) {strict : Bool} {s : St} {f : Nat} {args : List AV} {type : Nat} {K : AV → St → Prop} : callAV E R strict s f args type K → ∃ v s, K v s := by
  have one : ∀ {own : Bool} {n : Nat} {args : List AV} {H : Heap} {g : Heap → St}, R f args H (fun v H => normRes E.T own n type v fun v => K v (g H)) → ∃ v s, K v s := fun h => by
    obtain ⟨v, H, h⟩ := hR _ _ _ _ h
    obtain ⟨v, h⟩ := normRes_feas h
    exact ⟨_, _, h⟩
  have onep : ∀ {own : Bool} {n : Nat} {args : List AV} {H : Heap} {g : Heap → St}, pastR R f args H (fun v H => normRes E.T own n type v fun v => K v (g H)) → ∃ v s, K v s := fun h => by
    obtain ⟨v, H, h⟩ := hR _ _ _ _ h
    obtain ⟨v, h⟩ := normRes_feas h
    exact ⟨_, _, h⟩
  have io : callIO E R s f args type K → ∃ v s, K v s := by
    unfold callIO
    split
    · exact G_feas (cond_feas (G_feas fun h => by obtain ⟨_, _, h⟩ := ioTurn_feas hR h; exact ⟨_, _, h⟩) (G_feas fun h => by obtain ⟨_, _, h⟩ := ioBack_feas hR h; exact ⟨_, _, h⟩))
    · exact cond_feas (G_feas one) (G_feas (cond_feas one fun h => by
        obtain ⟨v, H, h⟩ := hR _ _ _ _ h
        unfold hsK at h
        split at h
        · exact G_feas (fun h => ⟨_, _, h⟩) h
        · exact G_feas (fun h => ⟨_, _, h⟩) h
        · exact h.elim))
  unfold callAV
  exact cond_feas (G_feas io) (cond_feas (cond_feas (G_feas (G_feas onep)) (cond_feas (G_feas (G_feas onep)) onep)) (G_feas one))
theorem capAll_feas : ∀ {xs : List AV} {s : St} {K : List AV → St → Prop}, capAll s xs K → ∃ v s, K v s
  | [], _, _, h => ⟨_, _, h⟩
  | x :: r, s, K, h => by
    have go : ∀ {s : St} {y : AV}, capAll s r (fun vs s => K (y :: vs) s) → ∃ v s, K v s := fun h => by obtain ⟨_, _, h⟩ := capAll_feas h; exact ⟨_, _, h⟩
    revert h
    cases x <;> simp only [capAll] <;> try exact go
    split
    · exact go
    · exact go
    · exact False.elim
theorem rowOf_feas {k : Nat} {H : Heap} {v : AV} {K : List (List AV) → Prop} : rowOf k H v K → ∃ y, K y := by
  unfold rowOf
  split <;> first | exact G_feas fun h => ⟨_, h⟩ | exact fun h => ⟨_, h⟩ | exact False.elim | exact G_feas (G_feas (G_feas fun h => ⟨_, h⟩))
theorem apartK_feas {H : Heap} {x y : AV} {K : Bool → Prop} : apartK H x y K → ∃ b, K b := by
  unfold apartK
  split <;> first | exact fun h => ⟨_, h⟩ | exact G_feas fun h => ⟨_, h⟩ | exact False.elim
theorem zerosOf_feas {T : List TI} {e : Nat} {c : Go.Call} {v : AV} {K : List (List AV) → Prop} : zerosOf T e c v K → ∃ y, K y := by
  unfold zerosOf
  split
  · split <;> first | exact G_feas (G_feas fun h => ⟨_, h⟩) | exact False.elim
  · exact False.elim
theorem buildL_feas {T : List TI} {t n : Nat} {ps : Array (Nat × Operand)} {r : Operand → AV} {K : AV → Prop} : buildL T t n ps r K → ∃ v, K v := by
  unfold buildL
  split
  · exact G_feas (G_feas fun h => by obtain ⟨_, h⟩ := fillRows_feas h; exact ⟨_, h⟩)
  · exact False.elim
theorem buildO_feas {T : List TI} {t n : Nat} {ps : Array (Nat × Operand)} {r : Operand → AV} {s : St} {K : St → AV → Prop} : buildO T t n ps r s K → ∃ s v, K s v := by
  unfold buildO
  split
  · exact G_feas (G_feas fun h => by obtain ⟨_, h⟩ := fillRows_feas h; exact ⟨_, _, h⟩)
  · exact False.elim
theorem invAV_feas {E : Env} {R : Oracle} (hR : Feas R) {strict : Bool} {s : St} {args : List AV} {type t : Nat} {v : AV} {K : AV → St → Prop} : ∀ {l : List (Nat × Nat)}, invAV E R strict s args type t v K l → ∃ v s, K v s
  | [] => False.elim
  | _ :: _ => cond_feas (G_feas fun h => by obtain ⟨_, h⟩ := normE_feas h; exact callAV_feas hR h) (invAV_feas hR)
theorem all_feas {α : Type} {b : Bool} {l : List α} {p q : Prop} {F : α → Prop} (hp : p → q) (hF : ∀ e, F e → q) (h : G b ((l = [] → p) ∧ ∀ e, e ∈ l → F e)) : q := by
  obtain ⟨_, h1, h2⟩ := G_out h
  cases l with
  | nil => exact hp (h1 rfl)
  | cons e r => exact hF e (h2 e (by simp))
theorem aop_feas {E : Env} {R : Oracle} (hR : Feas R) {strict : Bool} {o : Oper} {s : St} {K : St → Prop} : aop E R strict o s K → ∃ s, K s := by
  have grow : ∀ {b c : Bool} {n : Nat} {f : Nat → St}, G b (G c (∀ m', n ≤ m' → (n ≤ 140737488355328 → m' ≤ 9223372036854775807) → K (f m'))) → ∃ s, K s := fun h => by
    obtain ⟨_, h⟩ := G_out h
    obtain ⟨_, h⟩ := G_out h
    exact ⟨_, h _ (Nat.le_refl _) fun h => by omega⟩
  simp only [aop]
  split
  all_goals (repeat' split)
  all_goals first
    | exact fun h => ex_of (light_feas h)
    | exact False.elim
    | exact fun h => ⟨_, h⟩
    | exact fun ⟨b, h1, h2⟩ => ⟨_, h2⟩
    | exact fun h => ⟨_, h false (by simp)⟩
    | exact cond_feas (fun h => ⟨_, h⟩) (fun h => ⟨_, h⟩)
    | exact G_feas (cond_feas (fun h => ⟨_, h⟩) (fun h => ⟨_, h⟩))
    | exact G_feas (G_feas (G_feas (G_feas fun h => ⟨_, h.1 _ (Nat.le_refl _) fun h => by omega⟩)))
    | exact all_feas (fun h => ⟨_, h⟩) fun e h => ⟨_, h⟩
    | exact G_feas (G_feas fun h => by
        obtain ⟨_, h⟩ := normE_feas h
        obtain ⟨_, h⟩ := normE_feas h
        exact ⟨_, h⟩)
    | exact G_feas fun h => by obtain ⟨_, _, h⟩ := invAV_feas hR h; exact ⟨_, h⟩
    | exact cond_feas (G_feas fun h => ex_of (buildL_feas h)) fun h => by obtain ⟨_, _, h⟩ := buildO_feas h; exact ⟨_, h⟩
    | exact fun h => by obtain ⟨_, _, h⟩ := capAll_feas h; exact ⟨_, h⟩
    | exact cond_feas (G_feas fun h => ex_of (apartK_feas h)) fun h => by obtain ⟨_, _, h⟩ := callAV_feas hR h; exact ⟨_, h⟩
    | exact G_feas (G_feas (G_feas (cond_feas (fun h => by obtain ⟨_, h⟩ := rowOf_feas h; exact cond_feas (G_feas fun h => ⟨_, h⟩) grow h) (fun h => by obtain ⟨_, h⟩ := zerosOf_feas h; exact cond_feas (G_feas fun h => ⟨_, h⟩) grow h))))
    | (repeat' (first | refine G_feas ?_ | refine fun h => Exists.elim (fillAV_feas h) fun _ => ?_ | refine fun h => Exists.elim (fillRows_feas h) fun _ => ?_ | refine fun h => Exists.elim (rowOf_feas h) fun _ => ?_ | refine fun h => Exists.elim (light_feas h) fun _ => ?_)
       all_goals first | exact False.elim | exact fun h => ⟨_, h⟩)
    | skip
theorem astep_feas {E : Env} {R : Oracle} (hR : Feas R) {strict : Bool} {ops : List Oper} {o : Oper} {s : St} {K : St → Prop} : astep E R strict ops o s K → ∃ s, K s := by
  unfold astep
  split
  · exact aop_feas hR
  · split
    · exact False.elim
    · split
      · exact cond_feas (cond_feas (aop_feas hR) fun h => ⟨_, h⟩) (cond_feas (fun h => ⟨_, h⟩) (aop_feas hR))
      · exact fun h => ⟨_, h⟩
      · exact False.elim
theorem aops_feas {E : Env} {R : Oracle} (hR : Feas R) {ops : List Oper} {strict : Nat → Bool} : ∀ {l : List Oper} {i : Nat} {s : St} {K : St → Prop}, aops E R ops strict l i s K → ∃ s, K s
  | [], _, _, _, h => ⟨_, h⟩
  | _ :: _, _, _, _, h => by obtain ⟨_, h⟩ := astep_feas hR h; exact aops_feas hR h
theorem stepD_feas {E : Env} {R : Oracle} (hR : Feas R) {ops : List Oper} {i : Nat} {s : St} {K : St → Prop} : stepD E R ops i s K → ∃ s, K s := by
  unfold stepD
  split
  · exact astep_feas hR
  · exact False.elim
theorem conjL_one {f : Nat → Prop} : ∀ {l : List Nat}, conjL l f → ∃ i, f i
  | [], h => h.elim
  | [i], h => ⟨i, h⟩
  | i :: _ :: _, h => ⟨i, h.1⟩
theorem aopsD_feas {E : Env} {R : Oracle} (hR : Feas R) {ops : List Oper} : ∀ {n : Nat} {l : List Nat} {s : St} {K : St → Prop}, aopsD E R ops n l s K → ∃ s, K s
  | 0, _, _, _, h => h.elim
  | _ + 1, [], _, _, h => ⟨_, h⟩
  | n + 1, r :: rs, s, K, h => by
    simp only [aopsD] at h
    split at h
    · obtain ⟨_, h⟩ := stepD_feas hR h; exact aopsD_feas hR h
    · obtain ⟨_, h⟩ := conjL_one h
      obtain ⟨_, h⟩ := stepD_feas hR h; exact aopsD_feas hR h
theorem awp_feas {E : Env} {R : Oracle} (hR : Feas R) {L : Live} : ∀ (c : Code) (i : Nat) (s : St) {K : Ex → St → Prop}, awp E R L c i s K → ∃ e s, K e s
  | .skip, _, _, _ => by simp only [awp]; exact fun h => ⟨_, _, h⟩
  | .region _ ops draw, _, _, _ => by
    simp only [awp, joinK_eq]
    exact cond_feas (cond_feas (fun h => by obtain ⟨_, h⟩ := aops_feas hR h; exact ⟨_, _, h⟩) (G_feas fun h => by obtain ⟨_, h⟩ := aopsD_feas hR h; exact ⟨_, _, h⟩)) fun h => by obtain ⟨_, h⟩ := aops_feas hR h; exact ⟨_, _, h⟩
  | .seq a b, i, s, K => by
    simp only [awp]
    intro h
    obtain ⟨e, s', h⟩ := awp_feas hR a i s h
    cases e with
    | normal => exact awp_feas hR b _ _ h
    | exit id => exact ⟨_, _, h⟩
    | ret => exact ⟨_, _, h⟩
  | .cond c a b, i, s, K => by
    simp only [awp]
    split
    · exact cond_feas (awp_feas hR a _ _) (awp_feas hR b _ _)
    · exact False.elim
  | .block id c, i, s, K => by
    simp only [awp, joinK_eq]
    intro h
    obtain ⟨e, s', h⟩ := awp_feas hR c i s h
    cases e with
    | normal => exact ⟨_, _, h⟩
    | exit id => exact cond_feas (fun h => ⟨_, _, h⟩) (fun h => ⟨_, _, h⟩) h
    | ret => exact ⟨_, _, h⟩
  | .loop c, i, s, K => by
    simp only [awp]
    intro h
    refine h (fun _ => ∃ e s, K e s) fun s hs => ?_
    obtain ⟨e, s', h⟩ := awp_feas hR c _ _ hs
    cases e with
    | normal => exact h
    | exit id => exact ⟨_, _, h⟩
    | ret => exact ⟨_, _, h⟩
  | .exit id, _, _, _ => by simp only [awp]; exact fun h => ⟨_, _, h⟩
  | .ret, _, _, _ => by simp only [awp]; exact fun h => ⟨_, _, h⟩
  | .label _, _, _, _ => by simp [awp]
  | .goto _, _, _, _ => by simp [awp]
  | .scope _, _, _, _ => by simp [awp]
  | .rangeFunc _ _ _ _, _, _, _ => by simp [awp]
  | .refuse _, _, _, _ => by simp [awp]
theorem resAV_feas {T : List TI} {s : St} : ∀ (rs : List ResultVar) {K : List AV → Prop}, resAV T s rs K → ∃ l, K l
  | [], _, h => ⟨_, h⟩
  | .tmp t :: r, K, h => by
    simp only [resAV] at h
    obtain ⟨_, h⟩ := resAV_feas r h
    exact ⟨_, h⟩
  | .cell a t :: r, K, h => by
    simp only [resAV] at h
    obtain ⟨_, h⟩ := loadAt_feas h
    obtain ⟨_, h⟩ := resAV_feas r h
    exact ⟨_, h⟩
theorem aBody_feas {E : Env} {R : Oracle} (hR : Feas R) (hL : Feas E.leaf) {f : Nat} {args : List AV} {H : Heap} {Q : AV → Heap → Prop} : aBody E R f args H Q → ∃ v H', Q v H' := by
  unfold aBody
  split
  · exact fun ⟨Q0, h1, h2⟩ => let ⟨v, H', h⟩ := hL _ _ _ _ h2; ⟨v, H', h1 _ _ h⟩
  · split
    · exact False.elim
    · intro h
      obtain ⟨e, s, h⟩ := awp_feas hR _ _ _ h
      have fin : ∀ {rs : List ResultVar}, resAV E.T s rs (fun l =>
          cond (E.own f) (G (nodupB (tagsOfs l)) (Q (retOwn l) s.H)) (Q (retStb l) s.H)) → ∃ v H', Q v H' := fun h => by
        obtain ⟨_, h⟩ := resAV_feas _ h
        exact cond_feas (G_feas fun h => ⟨_, _, h⟩) (fun h => ⟨_, _, h⟩) h
      cases e with
      | exit id => exact h.elim
      | normal => exact fin h
      | ret => exact fin h
end
end Go.Proofs.Ytbkkhhmjmbbfpaa.Ab
