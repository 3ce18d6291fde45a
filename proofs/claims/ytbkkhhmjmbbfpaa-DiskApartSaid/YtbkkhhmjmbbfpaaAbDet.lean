/- A quiet operation has one outcome at most. -/
import Derived.Test.YtbkkhhmjmbbfpaaAbMono
namespace Go.Proofs.Ytbkkhhmjmbbfpaa.Ab
open Go

def Det {α : Type} (F : (α → Prop) → Prop) : Prop := ∃ o : Option α, ∀ K, F K ↔ ∃ x, o = some x ∧ K x
section
variable {α β : Type}
theorem det_at (x : α) : Det fun K : α → Prop => K x := ⟨some x, fun K => ⟨fun h => ⟨x, rfl, h⟩, fun ⟨y, e, h⟩ => by cases e; exact h⟩⟩
theorem det_no : Det fun _ : α → Prop => False := ⟨none, fun K => ⟨False.elim, fun ⟨y, e, _⟩ => by cases e⟩⟩
theorem det_G {b : Bool} {F : (α → Prop) → Prop} (h : Det F) : Det fun K => G b (F K) := by
  cases b
  · exact det_no
  · exact h
theorem det_cond {b : Bool} {F F' : (α → Prop) → Prop} (h : Det F) (h' : Det F') : Det fun K => cond b (F K) (F' K) := by
  cases b
  · exact h'
  · exact h
theorem det_bind {F : (α → Prop) → Prop} {f : α → (β → Prop) → Prop} (h : Det F) (hf : ∀ x, Det (f x)) : Det fun K => F fun x => f x K := by
  obtain ⟨o, ho⟩ := h
  cases o with
  | none => exact ⟨none, fun K => by simp [ho]⟩
  | some x =>
    obtain ⟨o', ho'⟩ := hf x
    exact ⟨o', fun K => by simp [ho, ho']⟩
theorem det_map {F : (α → Prop) → Prop} {f : α → β} (h : Det F) : Det fun K : β → Prop => F fun x => K (f x) := det_bind (f := fun x K => K (f x)) h fun x => det_at (f x)
end
theorem norm_det {c : CK} {x : AV} : Det (norm c x) := by
  unfold norm
  split <;> first | exact det_G (det_at _) | exact det_cond (det_at _) (det_G (det_at _)) | exact det_no
theorem norm1_det {c : CK} {x : AV} : Det (norm1 c x) := by
  unfold norm1
  split <;> first | exact det_G (det_at _) | exact norm_det
theorem normO_det {c : CK} {x : AV} : Det (normO c x) := by
  unfold normO
  split <;> first | exact det_cond (det_at _) (det_G (det_at _)) | exact norm_det
theorem normM_det {c : CK} {x : AV} : Det (normM c x) := by
  unfold normM
  split <;> first | exact det_G (det_at _) | exact det_no
theorem normL_det {get : Nat → AV} : ∀ {cs : List CK} {o : Nat}, Det (normL get cs o)
  | [], _ => det_at _
  | c :: cs, o => by
    show Det fun K => norm c (get o) fun x => normL get cs (o + 1) fun r => K (x :: r)
    exact det_bind (f := fun x K => normL get cs (o + 1) fun r => K (x :: r)) norm_det fun x => det_map (f := fun r => x :: r) normL_det
theorem normOL_det {get : Nat → AV} : ∀ {cs : List CK} {o : Nat}, Det (normOL get cs o)
  | [], _ => det_at _
  | c :: cs, o => by
    show Det fun K => normO c (get o) fun x => normOL get cs (o + 1) fun r => K (x :: r)
    exact det_bind (f := fun x K => normOL get cs (o + 1) fun r => K (x :: r)) normO_det fun x => det_map (f := fun r => x :: r) normOL_det
theorem normML_det {get : Nat → AV} : ∀ {cs : List CK} {o : Nat}, Det (normML get cs o)
  | [], _ => det_at _
  | c :: cs, o => by
    show Det fun K => normM c (get o) fun x => normML get cs (o + 1) fun r => K (x :: r)
    exact det_bind (f := fun x K => normML get cs (o + 1) fun r => K (x :: r)) normM_det fun x => det_map (f := fun r => x :: r) normML_det
theorem loadAt_det {T : List TI} {mem : List MB} {H : Heap} {t : Nat} {p : AV} : Det (loadAt T mem H t p) := by
  unfold loadAt
  split
  · split
    · exact det_cond (det_map normML_det) normM_det
    · exact det_cond (det_map normL_det) norm_det
    · exact det_no
  · exact det_cond (det_map normL_det) norm_det
  · exact det_cond (det_map normL_det) norm_det
  · exact det_G (det_cond (det_map normL_det) norm_det)
  · exact det_G (det_cond (det_map normOL_det) normO_det)
  · exact det_no
theorem normE_det {T : List TI} {t : Nat} {x : AV} : Det (normE T t x) := det_cond (det_G (det_map normL_det)) norm1_det
theorem lookAV_det {T : List TI} {t : Nat} {ok : Bool} {H : Heap} {x k : AV} : Det (lookAV T t ok H x k) := by
  unfold lookAV
  split
  · exact det_G (det_G (det_G (det_cond (det_map normE_det) (det_G (det_at _)))))
  · exact det_no
theorem partAV_det {T : List TI} {t : Nat} {cs : List AV} {o : Nat} : Det (partAV T t cs o) := det_cond (det_map normML_det) normM_det
theorem eqlAV_det {p : Bool} {z : List CK} {k : TK} {c : Bool} {x y : AV} : Det (eqlAV p z k c x y) := by
  unfold eqlAV
  split <;> (try split) <;> first | exact det_at _ | exact det_no | exact det_G (det_at _) | exact det_G (det_G (det_at _)) | exact det_G (det_G det_no)
theorem binAV_det {p : Bool} {z : List CK} {k : TK} {c : Bool} {op : BinOp} {x y : AV} : Det (binAV p z k c op x y) := by
  unfold binAV
  split <;> (try split) <;> first | exact det_no | exact det_map eqlAV_det | exact det_at _ | exact det_G (det_at _) | exact det_G (det_G (det_at _))
theorem boundI_det {o : Option Operand} {r : Operand → AV} {d : Int} : Det (boundI o r d) := by
  unfold boundI
  split
  · exact det_at _
  · split <;> first | exact det_at _ | exact det_no
theorem bytesAV_one {s t : ByteArray} (h : bytesAV s = bytesAV t) : s = t := by
  have h1 : s.data.toList = t.data.toList := by
    unfold bytesAV at h
    refine (List.map_inj_right (f := fun b : UInt8 => [AV.int .u8 (b.toNat : Int)]) fun a b e => ?_).1 h
    simp only [List.cons.injEq, AV.int.injEq, and_true, true_and] at e
    exact UInt8.toNat_inj.1 (by omega)
  cases s; cases t
  congr 1
  exact Array.toList_inj.1 h1
theorem convK_det {T : List TI} {src dst : Nat} {v : AV} : Det (convK T src dst v) := by
  unfold convK
  split <;> try exact det_no
  all_goals
    split <;> first
      | exact det_no
      | exact det_at _
      | exact det_G (det_at _)
      | skip
  rename_i xs _ _ _ _
  by_cases hx : ∃ b, xs = bytesAV b
  · obtain ⟨b, rfl⟩ := hx
    exact ⟨some b |>.map AV.str, fun K => ⟨fun ⟨c, hc, h⟩ => ⟨_, rfl, by rw [bytesAV_one hc]; exact h⟩, fun ⟨y, e, h⟩ => by cases e; exact ⟨b, rfl, h⟩⟩⟩
  · exact ⟨none, fun K => ⟨fun ⟨c, hc, h⟩ => (hx ⟨c, hc⟩).elim, fun ⟨y, e, _⟩ => by cases e⟩⟩
theorem light_det {T : List TI} {op : Op} {r : Operand → AV} {mem : List MB} {H : Heap} : Det (light T op r mem H) := by
  unfold light
  split
  all_goals (repeat' split)
  all_goals first
    | exact det_no
    | exact det_at _
    | exact loadAt_det
    | exact lookAV_det
    | exact binAV_det
    | exact partAV_det
    | exact det_cond (det_at _) (det_at _)
    | exact det_G det_no
    | exact det_G (det_at _)
    | exact det_G (det_G (det_at _))
    | exact det_G (det_G (det_G (det_at _)))
    | exact det_G (det_G (det_G (det_G (det_at _))))
    | exact det_G (det_G (det_G partAV_det))
    | exact det_bind boundI_det fun _ => det_bind boundI_det fun _ => det_G (det_G (det_G (det_G (det_at _))))
    | exact det_bind boundI_det fun _ => det_bind boundI_det fun _ => det_bind boundI_det fun _ => det_G (det_G (det_G (det_G (det_G (det_at _)))))
    | exact det_bind boundI_det fun _ => det_bind boundI_det fun _ => det_bind boundI_det fun _ => det_G (det_G (det_G (det_G (det_G (det_G (det_G (det_at _)))))))
    | skip
end Go.Proofs.Ytbkkhhmjmbbfpaa.Ab
