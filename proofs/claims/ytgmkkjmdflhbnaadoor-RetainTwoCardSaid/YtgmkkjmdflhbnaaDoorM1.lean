/- Texts of the proof, joined: Fix, Ab, AbRep, AbInv, AbInv2, AbInv3, AbOps1, AbOps2, AbMap. -/
import Derived.Calls
import Derived.KernelRfl
import Derived.OwnWalk
import Derived.Maps.AppendAt
import Derived.Laws.RangeString
import Derived.Laws.Slices
import Derived.Laws.Cells
import Derived.MapKept
import Derived.WideKeyRuns
set_option linter.unusedVariables false
set_option linter.unusedSimpArgs false
set_option linter.unnecessarySimpa false
section
namespace Go.Proofs.YtgmkkjmdflhbnaaDoor.Ab
open Go
def fxT : List (Nat × IntKind × List Int) := []
end Go.Proofs.YtgmkkjmdflhbnaaDoor.Ab
end
section
namespace Go.Proofs.YtgmkkjmdflhbnaaDoor.Ab
open Go
inductive CK where
  | int (k : IntKind) | bool | str | ptr | slice (k : Nat) | map | func | iface | other
  deriving DecidableEq, Repr, Inhabited
inductive TK where
  | int (k : IntKind) | bool | str | ptr (e : Nat) | slice (e : Nat) | struct (fs : List (Nat × Nat)) | array (n e : Nat) | map (k e : Nat) | func | iface | tuple (ts : List Nat) | other
  deriving DecidableEq, Repr, Inhabited
structure TI where
  k : TK
  size : Nat
  bytes : Nat
  shape : List CK
  deriving DecidableEq, Repr, Inhabited
inductive AV where
  | any
  | int (k : IntKind) (n : Int)
  | bool (b : Bool)
  | str (s : ByteArray)
  | nilp
  | ptr (j o : Nat)
  | rp (cs : List AV) (o : Nat)
  | ep (t k i o : Nat) (xs : List (List AV))
  | nilsl
  | sl (t k : Nat) (xs : List (List AV))
  | fn (f : Nat) (cap : List AV)
  | nilfn
  | iface (t : Nat) (v : AV)
  | niliface
  | agg (cs : List AV)
  | tup (vs : List AV)
  | obj (j o : Nat)
  | map (j : Nat)
  | nilmap
  | hs (j o n c k : Nat)
  | he (j k i o : Nat)
  deriving Inhabited
namespace AV
def toInt : AV → Int | .int _ n => n | _ => 0
def toBool : AV → Bool | .bool b => b | _ => false
def toStr : AV → ByteArray | .str s => s | _ => ⟨#[]⟩
def slXs : AV → List (List AV) | .sl _ _ xs => xs | _ => []
def isInt (k : IntKind) : AV → Bool | .int k' _ => decide (k = k') | _ => false
def isBool : AV → Bool | .bool _ => true | _ => false
def isStr : AV → Bool | .str _ => true | _ => false
def notAny : AV → Bool | .any => false | _ => true
def isSl (k : Nat) : AV → Bool | .sl 0 k' _ => Nat.beq k k' | .nilsl => true | _ => false
def isObj : AV → Bool | .obj _ 0 => true | _ => false
def objJ : AV → Nat | .obj j _ => j | _ => 0
def isNilp : AV → Bool | .nilp => true | _ => false
def isMap : AV → Bool | .map _ => true | _ => false
def mapJ : AV → Nat | .map j => j | _ => 0
def isNilmap : AV → Bool | .nilmap => true | _ => false
def isIf : AV → Bool | .iface _ _ => true | _ => false
def ifT : AV → Nat | .iface t _ => t | _ => 0
def ifV : AV → AV | .iface _ v => v | _ => .any
def isNilif : AV → Bool | .niliface => true | _ => false
def isHs (k : Nat) : AV → Bool | .hs _ _ _ _ k' => Nat.beq k' k | _ => false
def isNilsl : AV → Bool | .nilsl => true | _ => false
def hsJ : AV → Nat | .hs j _ _ _ _ => j | _ => 0
def hsO : AV → Nat | .hs _ o _ _ _ => o | _ => 0
def hsN : AV → Nat | .hs _ _ n _ _ => n | _ => 0
def hsC : AV → Nat | .hs _ _ _ c _ => c | _ => 0
def isAgg : AV → Bool | .agg _ => true | _ => false
def aggCs : AV → List AV | .agg cs => cs | _ => []
end AV
def G (b : Bool) (p : Prop) : Prop := cond b p False
def CK.zero : CK → AV
  | .int k => .int k 0 | .bool => .bool false | .str => .str ⟨#[]⟩ | .ptr => .nilp | .slice _ => .nilsl | .map => .nilmap | .func => .nilfn | .iface => .niliface | .other => .any
def norm (c : CK) (x : AV) (K : AV → Prop) : Prop :=
  match c with
  | .int k => G (x.isInt k) (K (.int k x.toInt))
  | .bool => G x.isBool (K (.bool x.toBool))
  | .str => G x.isStr (K (.str x.toStr))
  | .slice k => G (x.isSl k) (K (.sl 0 k x.slXs))
  | .ptr => cond x.isObj (K (.obj x.objJ 0)) (G x.isNilp (K .nilp))
  | .map => cond x.isMap (K (.map x.mapJ)) (G x.isNilmap (K .nilmap))
  | .iface => cond x.isIf (K (.iface x.ifT x.ifV)) (G x.isNilif (K .niliface))
  | .other => False
  | _ => G x.notAny (K x)
def norm1 (c : CK) (x : AV) (K : AV → Prop) : Prop :=
  match c with
  | .ptr => G x.isObj (K (.obj x.objJ 0))
  | .map => G x.isMap (K (.map x.mapJ))
  | c => norm c x K
def normO (c : CK) (x : AV) (K : AV → Prop) : Prop :=
  match c with
  | .slice k => cond (x.isHs k) (K (.hs x.hsJ x.hsO x.hsN x.hsC k)) (G x.isNilsl (K .nilsl))
  | c => norm c x K
def normOL (get : Nat → AV) : List CK → Nat → (List AV → Prop) → Prop
  | [], _, K => K []
  | c :: cs, o, K => normO c (get o) fun x => normOL get cs (o + 1) fun r => K (x :: r)
def normL (get : Nat → AV) : List CK → Nat → (List AV → Prop) → Prop
  | [], _, K => K []
  | c :: cs, o, K => norm c (get o) fun x => normL get cs (o + 1) fun r => K (x :: r)
def normM (c : CK) (x : AV) (K : AV → Prop) : Prop :=
  match c with
  | .int k => G (x.isInt k) (K (.int k x.toInt))
  | .bool => G x.isBool (K (.bool x.toBool))
  | .str => G x.isStr (K (.str x.toStr))
  | .other => False
  | _ => G x.notAny (K x)
def normML (get : Nat → AV) : List CK → Nat → (List AV → Prop) → Prop
  | [], _, K => K []
  | c :: cs, o, K => normM c (get o) fun x => normML get cs (o + 1) fun r => K (x :: r)
inductive MB where
  | cells (cs : List AV)
  | frz (cs : List AV)
  | siter (s : ByteArray) (pos : Nat)
  | miter (j kt vt since stepped : Nat) (seen : List Nat)
  | dead
  deriving Inhabited
inductive HB where
  | dead
  | cells (cs : List AV)
  | rows (k : Nat) (xs : List (List AV))
  | map (es : List (Nat × AV × AV)) (clock : Nat)
  deriving Inhabited
structure Heap where
  next : Nat
  get : Nat → HB
namespace HB
def isRows (k : Nat) : HB → Bool | .rows k' _ => Nat.beq k' k | _ => false
def xs : HB → List (List AV) | .rows _ xs => xs | _ => []
def isCells : HB → Bool | .cells _ => true | _ => false
def cs : HB → List AV | .cells cs => cs | _ => []
def isMap : HB → Bool | .map _ _ => true | _ => false
def es : HB → List (Nat × AV × AV) | .map es _ => es | _ => []
def clock : HB → Nat | .map _ c => c | _ => 0
end HB
namespace Heap
def set (H : Heap) (j : Nat) (b : HB) : Heap := { H with get := fun i => cond (Nat.beq i j) b (H.get i) }
def push (H : Heap) (b : HB) : Heap := { next := H.next + 1, get := fun i => cond (Nat.beq i H.next) b (H.get i) }
def none (H : Heap) : Heap := { next := H.next, get := fun _ => .dead }
def past (H : Heap) (H' : Heap) : Heap := { next := Nat.max H.next H'.next, get := H.get }
end Heap
structure St where
  tm : List AV
  mem : List MB
  H : Heap
def St.put (s : St) (d : Option Nat) (v : AV) : St :=
  match d with
  | some d => { s with tm := s.tm.set d v }
  | none => s
mutual
def mapT (f : AV → AV) : AV → AV
  | .agg cs => .agg (mapTs f cs)
  | .tup cs => .tup (mapTs f cs)
  | .iface t v => .iface t (mapT f v)
  | v => f v
def mapTs (f : AV → AV) : List AV → List AV
  | [] => []
  | x :: r => mapT f x :: mapTs f r
end
def killF (t : Nat) : AV → AV
  | .sl t' k xs => cond (Nat.beq t' t) .any (.sl t' k xs)
  | .ep t' k i o xs => cond (Nat.beq t' t) .any (.ep t' k i o xs)
  | v => v
def frzF (t : Nat) : AV → AV
  | .sl t' k xs => cond (Nat.beq t' t) (.sl 0 k xs) (.sl t' k xs)
  | .ep t' k i o xs => cond (Nat.beq t' t) (.rp (xs.getD i []) o) (.ep t' k i o xs)
  | v => v
def updF (t : Nat) (ys : List (List AV)) : AV → AV
  | .sl t' k xs => cond (Nat.beq t' t) (.sl t' k ys) (.sl t' k xs)
  | .ep t' k i o xs => cond (Nat.beq t' t) (.ep t' k i o ys) (.ep t' k i o xs)
  | v => v
def lendF : AV → AV
  | .sl _ k xs => .sl 0 k xs
  | .ep _ _ i o xs => .rp (xs.getD i []) o
  | .ptr _ _ => .any
  | v => v
mutual
def tagsOf : AV → List Nat
  | .sl t _ _ => cond (Nat.beq t 0) [] [t]
  | .ep t _ _ _ _ => [t]
  | .agg cs => tagsOfs cs
  | .tup cs => tagsOfs cs
  | .iface _ v => tagsOf v
  | _ => []
def tagsOfs : List AV → List Nat
  | [] => []
  | x :: r => tagsOf x ++ tagsOfs r
end
def MB.mapM (f : AV → AV) : MB → MB
  | .cells cs => .cells (mapTs f cs)
  | b => b
def St.mapS (f : AV → AV) (s : St) : St := { s with tm := mapTs f s.tm, mem := s.mem.map (MB.mapM f) }
def MB.tags : MB → List Nat
  | .cells cs => tagsOfs cs
  | _ => []
def St.tags (s : St) : List Nat := tagsOfs s.tm ++ s.mem.flatMap MB.tags
def St.fresh (s : St) : Nat := s.tags.foldl Nat.max 0 + 1
def St.frzAll (s : St) : List Nat → St
  | [] => s
  | t :: ts => (s.mapS (frzF t)).frzAll ts
def frzV (v : AV) : AV := mapT lendF v
def frzVs (l : List AV) : List AV := mapTs lendF l
def gl (g : Nat) : List AV := match fxT.lookup g with | some p => p.2.map (AV.int p.1) | none => []
def constAV : Value → AV
  | .bool b => .bool b
  | .int k n => .int k n
  | .string s => .str s
  | .pointer none => .nilp
  | .slice none 0 0 => .nilsl
  | .map none => .nilmap
  | .nilFunc => .nilfn
  | .nilIface => .niliface
  | .agg cs => .agg (cs.toList.map fun | .bool b => .bool b | .int k n => .int k n | .string s => .str s | .pointer none => .nilp | .slice none 0 0 => .nilsl | .map none => .nilmap | .nilFunc => .nilfn | .nilIface => .niliface | _ => .any)
  | _ => .any
def ρ (tm : List AV) : Operand → AV
  | .tmp t => tm.getD t .any
  | .const v => constAV v
  | .global g => cond (fxT.lookup g).isSome (.rp (gl g) 0) .any
  | .func f => .fn f []
def ti (T : List TI) (t : Nat) : TI := T.getD t { k := .other, size := 0, bytes := 0, shape := [] }
def isAggT (T : List TI) (t : Nat) : Bool := match (ti T t).k with | .struct _ => true | .array _ _ => true | _ => false
def zeroT (T : List TI) (t : Nat) : AV := cond (isAggT T t) (.agg ((ti T t).shape.map CK.zero)) (((ti T t).shape.map CK.zero).headD .any)
def cellsOf : AV → List AV
  | .agg cs => cs
  | v => [v]
def setRange (cs : List AV) (o : Nat) : List AV → List AV
  | [] => cs
  | v :: r => setRange (cs.set o v) (o + 1) r
def selAV (b : Bool) : AV → AV → AV
  | .int k x, .int k' y => cond (decide (k = k')) (.int k (cond b x y)) (cond b (.int k x) (.int k' y))
  | .bool x, .bool y => .bool (cond b x y)
  | .str x, .str y => .str (cond b x y)
  | x, y => cond b x y
def setAtI : List AV → Nat → Nat → AV → List AV
  | [], _, _, _ => []
  | c :: cs, i, o, v => selAV (Nat.beq o i) v c :: setAtI cs (i + 1) o v
def setRangeX (cs : List AV) (o : Nat) : List AV → List AV
  | [] => cs
  | v :: r => setRangeX (setAtI cs 0 o v) (o + 1) r
theorem selAV_eq (b : Bool) (x y : AV) : selAV b x y = cond b x y := by
  cases x <;> cases y <;> first | rfl | (cases b <;> rfl) | skip
  rename_i k x k' y
  simp only [selAV]
  by_cases h : k = k'
  · subst h
    simp only [decide_true, cond_true]
    cases b <;> rfl
  · rw [decide_eq_false h]
    rfl
theorem setAtI_eq : ∀ (cs : List AV) (i o : Nat) (v : AV), i ≤ o → setAtI cs i o v = cs.set (o - i) v
  | [], i, o, v, h => rfl
  | c :: cs, i, o, v, h => by
    simp only [setAtI]
    rw [selAV_eq]
    by_cases e : o = i
    · subst e
      have h2 : ∀ (cs : List AV) (j : Nat), o < j → setAtI cs j o v = cs := by
        intro cs
        induction cs with
        | nil => intro j _; rfl
        | cons d cs ih =>
          intro j hj
          simp only [setAtI]
          rw [selAV_eq, ih _ (by omega)]
          have : Nat.beq o j = false := by
            cases hb : Nat.beq o j with
            | false => rfl
            | true => have := Nat.eq_of_beq_eq_true hb; omega
          rw [this]
          rfl
      rw [h2 cs _ (by omega), Nat.beq_refl, cond_true, Nat.sub_self, List.set_cons_zero]
    · have hb : Nat.beq o i = false := by
        cases hb : Nat.beq o i with
        | false => rfl
        | true => exact absurd (Nat.eq_of_beq_eq_true hb) e
      rw [hb, cond_false, setAtI_eq cs _ _ _ (by omega), show o - i = (o - (i + 1)) + 1 by omega, List.set_cons_succ]
theorem setRangeX_eq : ∀ (vs cs : List AV) (o : Nat), setRangeX cs o vs = setRange cs o vs
  | [], _, _ => rfl
  | v :: r, cs, o => by
    simp only [setRangeX, setRange]
    rw [setAtI_eq _ _ _ _ (Nat.zero_le _), Nat.sub_zero]
    exact setRangeX_eq r _ _
def scalarAV : AV → Bool | .any => false | .tup _ => false | .agg _ => false | _ => true
def boxable : AV → Bool | .agg cs => cs.all scalarAV | x => scalarAV x
def fillAV (place : Nat → Option (Nat × Nat)) : List AV → List (Nat × AV) → (List AV → Prop) → Prop
  | cs, [], K => K cs
  | cs, (i, v) :: r, K => match place i with
    | none => False
    | some (off, size) => G (boxable v) (G (Nat.beq (cellsOf v).length size) (G (Nat.ble (off + size) cs.length) (fillAV place (setRange cs off (cellsOf v)) r K)))
def fillRows (k : Nat) : List (List AV) → List (Nat × AV) → (List (List AV) → Prop) → Prop
  | xs, [], K => K xs
  | xs, (i, v) :: r, K => G (boxable v) (G (Nat.beq (cellsOf v).length k) (G (Nat.blt i xs.length) (fillRows k (xs.set i (cellsOf v)) r K)))
def scalarT (T : List TI) (t : Nat) : Bool :=
  match (ti T t).k with
  | .int _ => true | .bool => true | .str => true
  | .tuple ts => ts.all fun u => match (ti T u).k with | .int _ => true | .bool => true | .str => true | _ => false
  | _ => false
def bt (s : ByteArray) (i : Int) : Int := ((s.data.toList.getD i.toNat 0).toNat : Int)
def bytesAV (s : ByteArray) : List (List AV) := s.data.toList.map fun b => [.int .u8 (b.toNat : Int)]
def ltI (a b : Int) : Bool := decide (a < b)
def leI (a b : Int) : Bool := decide (a ≤ b)
def eqI (a b : Int) : Bool := decide (a = b)
def eqS (a b : ByteArray) : Bool := decide (a = b)
def ltS (a b : ByteArray) : Bool := Op.bytesLess a.toList b.toList
def lenI {α : Type} (l : List α) : Int := (l.length : Int)
def sizeI (s : ByteArray) : Int := (s.size : Int)
def addW (k : IntKind) (a b : Int) : Int := k.wrap (a + b)
def subW (k : IntKind) (a b : Int) : Int := k.wrap (a - b)
def mulW (k : IntKind) (a b : Int) : Int := k.wrap (a * b)
def andW (k : IntKind) (a b : Int) : Int := k.wrap (BitVec.ofInt k.bits a &&& BitVec.ofInt k.bits b).toNat
def orW (k : IntKind) (a b : Int) : Int := k.wrap (BitVec.ofInt k.bits a ||| BitVec.ofInt k.bits b).toNat
def xorW (k : IntKind) (a b : Int) : Int := k.wrap (BitVec.ofInt k.bits a ^^^ BitVec.ofInt k.bits b).toNat
def andNotW (k : IntKind) (a b : Int) : Int := k.wrap (BitVec.ofInt k.bits a &&& ~~~ BitVec.ofInt k.bits b).toNat
def shlW (k : IntKind) (a b : Int) : Int := k.wrap (a * 2 ^ min b.toNat k.bits)
def shrW (k : IntKind) (a b : Int) : Int := a.fdiv (2 ^ min b.toNat k.bits)
def tkOf (P : Program) (t : Nat) : TK :=
  match P.underlying t with
  | some (.int k) => .int k
  | some .bool => .bool
  | some .string => .str
  | some (.pointer e) => .ptr e
  | some (.slice e) => .slice e
  | some (.struct fs) => .struct (fs.toList.map fun f => (f.offset, f.type))
  | some (.array n e) => .array n e
  | some (.map k e) => .map k e
  | some (.func ..) => .func
  | some (.interface _) => .iface
  | some (.tuple es) => .tuple es.toList
  | _ => .other
def shapeOf (P : Program) : Nat → Nat → List CK
  | 0, _ => []
  | d + 1, t =>
    match P.underlying t with
    | some (.int k) => [.int k]
    | some .bool => [.bool]
    | some .string => [.str]
    | some (.pointer _) => [.ptr]
    | some (.slice e) => [.slice (P.cellsOf e)]
    | some (.struct fs) => fs.toList.flatMap fun f => shapeOf P d f.type
    | some (.array n e) => (List.replicate n (shapeOf P d e)).flatten
    | some (.map ..) => [.map]
    | some (.func ..) => [.func]
    | some (.interface _) => [.iface]
    | _ => [.other]
def tyOf (P : Program) (t : Nat) : TI := { k := tkOf P t, size := P.cellsOf t, bytes := P.bytesOf t, shape := shapeOf P 20 t }
def tysOf (P : Program) : List TI := (List.range P.types.size).map (tyOf P)
def loadAt (T : List TI) (mem : List MB) (H : Heap) (t : Nat) (p : AV) (K : AV → Prop) : Prop :=
  match p with
  | .ptr j o =>
    match mem.getD j .dead with
    | .cells cs => cond (isAggT T t) (normML (fun i => cs.getD i .any) (ti T t).shape o fun l => K (.agg l)) (normM ((ti T t).shape.headD .other) (cs.getD o .any) K)
    | .frz cs => cond (isAggT T t) (normL (fun i => cs.getD i .any) (ti T t).shape o fun l => K (.agg l)) (norm ((ti T t).shape.headD .other) (cs.getD o .any) K)
    | _ => False
  | .rp cs o => cond (isAggT T t) (normL (fun i => cs.getD i .any) (ti T t).shape o fun l => K (.agg l)) (norm ((ti T t).shape.headD .other) (cs.getD o .any) K)
  | .ep _ _ i o xs => cond (isAggT T t) (normL (fun j => (xs.getD i []).getD j .any) (ti T t).shape o fun l => K (.agg l)) (norm ((ti T t).shape.headD .other) ((xs.getD i []).getD o .any) K)
  | .he j k i o => G ((H.get j).isRows k) (cond (isAggT T t) (normL (fun q => ((H.get j).xs.getD i []).getD q .any) (ti T t).shape o fun l => K (.agg l)) (norm ((ti T t).shape.headD .other) (((H.get j).xs.getD i []).getD o .any) K))
  | .obj j o => G ((H.get j).isCells) (cond (isAggT T t) (normOL (fun q => (H.get j).cs.getD q .any) (ti T t).shape o fun l => K (.agg l)) (normO ((ti T t).shape.headD .other) ((H.get j).cs.getD o .any) K))
  | _ => False
def partAV (T : List TI) (t : Nat) (cs : List AV) (o : Nat) (K : AV → Prop) : Prop := cond (isAggT T t) (normML (fun i => cs.getD i .any) (ti T t).shape o fun l => K (.agg l)) (normM ((ti T t).shape.headD .other) (cs.getD o .any) K)
def eqCells : List AV → List AV → Option Bool
  | [], [] => some true
  | .int k a :: r, .int k' b :: s => cond (decide (k = k')) ((eqCells r s).map fun q => (eqI a b && q)) none
  | .bool a :: r, .bool b :: s => (eqCells r s).map fun q => ((a == b) && q)
  | .str a :: r, .str b :: s => (eqCells r s).map fun q => (eqS a b && q)
  | _, _ => none
def eqTile (T : List TI) (total : Nat) : Nat → List (Nat × Nat) → Bool
  | off, [] => Nat.beq off total
  | off, p :: r => Nat.beq p.1 off && eqTile T total (off + (ti T p.2).size) r
def eqT (T : List TI) : Nat → Nat → Bool
  | 0, _ => false
  | d + 1, t => match (ti T t).k with
    | .int k => Nat.beq (ti T t).size 1 && (match k with | .u64 => false | _ => true)
    | .bool => Nat.beq (ti T t).size 1
    | .str => Nat.beq (ti T t).size 1
    | .struct fs => eqTile T (ti T t).size 0 fs && fs.all fun p => eqT T d p.2
    | _ => false
def kindsT (T : List TI) : Nat → Nat → List CK
  | 0, _ => []
  | d + 1, t => match (ti T t).k with
    | .int k => [.int k]
    | .bool => [.bool]
    | .str => [.str]
    | .struct fs => fs.flatMap fun p => kindsT T d p.2
    | _ => []
def plainK (T : List TI) (t : Nat) : List CK := kindsT T 8 t
def cellsFit : List CK → List AV → Bool
  | [], [] => true
  | .int k :: r, .int k' _ :: s => decide (k = k') && cellsFit r s
  | .bool :: r, .bool _ :: s => cellsFit r s
  | .str :: r, .str _ :: s => cellsFit r s
  | _, _ => false
def plainT (T : List TI) (t : Nat) : Bool := (match (ti T t).k with | .struct _ => true | _ => false) && eqT T 8 t
def eqlAV (p : Bool) (z : List CK) (k : TK) (c : Bool) (x y : AV) (K : Bool → Prop) : Prop :=
  match x, y with
  | .int k a, .int k' b => G (decide (k = k')) (K (eqI a b))
  | .str a, .str b => K (eqS a b)
  | .bool a, .bool b => match k with | .bool => K (a == b) | _ => False
  | .agg xs, .agg ys => G p (G (cellsFit z xs && cellsFit z ys) (match eqCells xs ys with | some b => K b | none => False))
  | .nilp, .nilp => match k with | .ptr _ => K true | _ => False
  | .ptr _ _, .nilp => match k with | .ptr _ => K false | _ => False
  | .rp _ _, .nilp => match k with | .ptr _ => K false | _ => False
  | .obj _ _, .nilp => match k with | .ptr _ => K false | _ => False
  | .he _ _ _ _, .nilp => match k with | .ptr _ => K false | _ => False
  | .nilp, .obj _ _ => match k with | .ptr _ => K false | _ => False
  | .nilmap, .nilmap => match k with | .map _ _ => K true | _ => False
  | .map _, .nilmap => match k with | .map _ _ => K false | _ => False
  | .nilfn, .nilfn => match k with | .func => K true | _ => False
  | .fn _ _, .nilfn => match k with | .func => K false | _ => False
  | .niliface, .niliface => match k with | .iface => G c (K true) | _ => False
  | .iface _ _, .niliface => match k with | .iface => K false | _ => False
  | _, _ => False
def binAV (p : Bool) (z : List CK) (k : TK) (c : Bool) (op : BinOp) (x y : AV) (K : AV → Prop) : Prop :=
  match op with
  | .eql => eqlAV p z k c x y fun b => K (.bool b)
  | .neq => eqlAV p z k c x y fun b => K (.bool (!b))
  | .add => match x, y with
    | .int k a, .int k' b => G (decide (k = k')) (K (.int k (addW k a b)))
    | .str a, .str b => G (Nat.ble (a.size + b.size) 9223372036854775807) (K (.str (a ++ b)))
    | _, _ => False
  | .sub => match x, y with | .int k a, .int k' b => G (decide (k = k')) (K (.int k (subW k a b))) | _, _ => False
  | .mul => match x, y with | .int k a, .int k' b => G (decide (k = k')) (K (.int k (mulW k a b))) | _, _ => False
  | .quo => match x, y with | .int k a, .int k' b => G (decide (k = k')) (G (!(eqI b 0)) (K (.int k (k.wrap (a.tdiv b))))) | _, _ => False
  | .rem => match x, y with | .int k a, .int k' b => G (decide (k = k')) (G (!(eqI b 0)) (K (.int k (a.tmod b)))) | _, _ => False
  | .and => match x, y with | .int k a, .int k' b => G (decide (k = k')) (K (.int k (andW k a b))) | _, _ => False
  | .or => match x, y with | .int k a, .int k' b => G (decide (k = k')) (K (.int k (orW k a b))) | _, _ => False
  | .xor => match x, y with | .int k a, .int k' b => G (decide (k = k')) (K (.int k (xorW k a b))) | _, _ => False
  | .andNot => match x, y with | .int k a, .int k' b => G (decide (k = k')) (K (.int k (andNotW k a b))) | _, _ => False
  | .shl => match x, y with | .int k a, .int _ b => G (leI 0 b) (K (.int k (shlW k a b))) | _, _ => False
  | .shr => match x, y with | .int k a, .int _ b => G (leI 0 b) (K (.int k (shrW k a b))) | _, _ => False
  | .lss => match x, y with | .int k a, .int k' b => G (decide (k = k')) (K (.bool (ltI a b))) | .str a, .str b => K (.bool (ltS a b)) | _, _ => False
  | .leq => match x, y with | .int k a, .int k' b => G (decide (k = k')) (K (.bool (leI a b))) | .str a, .str b => K (.bool (!(ltS b a))) | _, _ => False
  | .gtr => match x, y with | .int k a, .int k' b => G (decide (k = k')) (K (.bool (ltI b a))) | .str a, .str b => K (.bool (ltS b a)) | _, _ => False
  | .geq => match x, y with | .int k a, .int k' b => G (decide (k = k')) (K (.bool (leI b a))) | .str a, .str b => K (.bool (!(ltS a b))) | _, _ => False
def isConstO : Operand → Bool | .const _ => true | _ => false
def boundI (o : Option Operand) (r : Operand → AV) (d : Int) (K : Int → Prop) : Prop :=
  match o with
  | none => K d
  | some x => match r x with | .int _ n => K n | _ => False
def keyEq (x y : AV) : Bool := match eqCells (cellsOf x) (cellsOf y) with | some b => b | none => false
def mfind (k : AV) : List (Nat × AV × AV) → Option AV
  | [] => none
  | e :: r => cond (keyEq k e.2.1) (some e.2.2) (mfind k r)
def mhas (k : AV) (es : List (Nat × AV × AV)) : Bool := (mfind k es).isSome
def mget (k : AV) (es : List (Nat × AV × AV)) : AV := (mfind k es).getD .any
def mput (k v : AV) (c : Nat) : List (Nat × AV × AV) → List (Nat × AV × AV)
  | [] => [(c, k, v)]
  | e :: r => cond (keyEq k e.2.1) ((e.1, k, v) :: r) (e :: mput k v c r)
def mdel (k : AV) : List (Nat × AV × AV) → List (Nat × AV × AV)
  | [] => []
  | e :: r => cond (keyEq k e.2.1) r (e :: mdel k r)
def mleft (seen : List Nat) (es : List (Nat × AV × AV)) : List (Nat × AV × AV) := es.filter fun e => !(seen.contains e.1)
def mborn (n : Nat) (es : List (Nat × AV × AV)) : Option (Nat × AV × AV) := es.find? fun e => Nat.beq e.1 n
def mkeyAt (n : Nat) (es : List (Nat × AV × AV)) : AV := match mborn n es with | some e => e.2.1 | none => .any
def mvalAt (n : Nat) (es : List (Nat × AV × AV)) : AV := match mborn n es with | some e => e.2.2 | none => .any
def keyFits (ks : List CK) (a : Bool) (x : AV) : Bool := match x with | .agg cs => a && cellsFit ks cs | x => !a && cellsFit ks [x]
def keyT (T : List TI) (t : Nat) : List CK := cond (isAggT T t) (plainK T t) (kindsT T 1 t)
def keyOkT (T : List TI) (t : Nat) : Bool := cond (isAggT T t) (plainT T t) (eqT T 1 t)
def HB.isMapOf (b : HB) (ks : List CK) (a : Bool) : Bool := b.isMap && b.es.all fun e => keyFits ks a e.2.1
def normE (T : List TI) (t : Nat) (x : AV) (K : AV → Prop) : Prop := cond (isAggT T t) (G (x.isAgg && Nat.beq x.aggCs.length (ti T t).shape.length) (normL (fun i => x.aggCs.getD i .any) (ti T t).shape 0 fun l => K (.agg l))) (norm1 ((ti T t).shape.headD .other) x K)
def lookAV (T : List TI) (t : Nat) (ok : Bool) (H : Heap) (x k : AV) (K : AV → Prop) : Prop :=
  match (ti T t).k, x with
  | .map kt vt, .map j => G (keyOkT T kt) (G (keyFits (keyT T kt) (isAggT T kt) k) (G ((H.get j).isMapOf (keyT T kt) (isAggT T kt))
      (cond (mhas k (H.get j).es) (normE T vt (mget k (H.get j).es) fun v => K (cond ok (.tup [v, .bool true]) v)) (G (match (ti T vt).k with | .other => false | .tuple _ => false | _ => true) (K (cond ok (.tup [zeroT T vt, .bool false]) (zeroT T vt)))))))
  | _, _ => False
def light (T : List TI) (op : Op) (r : Operand → AV) (mem : List MB) (H : Heap) (K : AV → Prop) : Prop :=
  match op with
  | .move x | .assign x => K (r x)
  | .pick c a b => match r c with | .bool t => cond t (K (r a)) (K (r b)) | _ => False
  | .load t a => loadAt T mem H t (r a) K
  | .binOp op t x y _ => binAV (plainT T t) (plainK T t) (ti T t).k (isConstO x || isConstO y) op (r x) (r y) K
  | .unOp op _ x => match op, r x with
    | .not, .bool b => K (.bool (!b))
    | .neg, .int k n => K (.int k (subW k 0 n))
    | _, _ => False
  | .convert src dst x => match (ti T src).k, (ti T dst).k, r x with
    | .int _, .int k, .int _ n => K (.int k (k.wrap n))
    | .str, .str, .str s => K (.str s)
    | _, _, _ => False
  | .fieldAddr s x f => match (ti T s).k with
    | .struct fs => match fs[f]? with
      | some (off, ft) => G (Nat.blt 0 (ti T ft).size) (match r x with
        | .ptr j o => K (.ptr j (o + off))
        | .rp cs o => K (.rp cs (o + off))
        | .ep t k i o xs => K (.ep t k i (o + off) xs)
        | .obj j o => K (.obj j (o + off))
        | .he j k i o => K (.he j k i (o + off))
        | _ => False)
      | none => False
    | _ => False
  | .field s x f => match (ti T s).k, r x with
    | .struct fs, .agg cs => match fs[f]? with
      | some (off, ft) => partAV T ft cs off K
      | none => False
    | _, _ => False
  | .indexAddr t x ix => match r ix with
    | .int _ i => match (ti T t).k, r x with
      | .slice e, .hs j o n _ k => G (Nat.beq k (ti T e).size) (G (Nat.blt 0 k) (G (leI 0 i) (G (ltI i n) (K (.he j k (o + i.toNat) 0)))))
      | .slice e, .sl tg k xs => G (Nat.beq k (ti T e).size) (G (Nat.blt 0 k) (G (leI 0 i) (G (ltI i (lenI xs)) (match tg with | 0 => K (.rp (xs.getD i.toNat []) 0) | tg + 1 => K (.ep (tg + 1) k i.toNat 0 xs)))))
      | .array n e, .ptr j o => G (Nat.blt 0 (ti T e).size) (G (leI 0 i) (G (ltI i n) (K (.ptr j (o + i.toNat * (ti T e).size)))))
      | .array n e, .rp cs o => G (Nat.blt 0 (ti T e).size) (G (leI 0 i) (G (ltI i n) (K (.rp cs (o + i.toNat * (ti T e).size)))))
      | .array n e, .ep tg k q o xs => G (Nat.blt 0 (ti T e).size) (G (leI 0 i) (G (ltI i n) (K (.ep tg k q (o + i.toNat * (ti T e).size) xs))))
      | .array n e, .obj j o => G (Nat.blt 0 (ti T e).size) (G (leI 0 i) (G (ltI i n) (K (.obj j (o + i.toNat * (ti T e).size)))))
      | .array n e, .he j k q o => G (Nat.blt 0 (ti T e).size) (G (leI 0 i) (G (ltI i n) (K (.he j k q (o + i.toNat * (ti T e).size)))))
      | _, _ => False
    | _ => False
  | .index t x ix => match r ix with
    | .int _ i => match (ti T t).k, r x with
      | .str, .str s => G (leI 0 i) (G (ltI i (sizeI s)) (K (.int .u8 (bt s i))))
      | .array n e, .agg cs => G (Nat.blt 0 (ti T e).size) (G (leI 0 i) (G (ltI i n) (partAV T e cs (i.toNat * (ti T e).size) K)))
      | _, _ => False
    | _ => False
  | .slice t x lo hi mx => match (ti T t).k, r x with
    | .str, .str s => boundI lo r 0 fun l => boundI hi r (sizeI s) fun h => G mx.isNone (G (leI 0 l) (G (leI l h) (G (leI h (sizeI s)) (K (.str (s.extract l.toNat h.toNat))))))
    | .slice e, .sl 0 k xs => boundI lo r 0 fun l => boundI hi r (lenI xs) fun h => boundI mx r h fun m => G (Nat.beq k (ti T e).size) (G (Nat.blt 0 k) (G (!mx.isSome || hi.isSome) (G (leI 0 l) (G (leI l h) (G (leI h m) (G (leI m (lenI xs)) (K (.sl 0 k ((xs.take h.toNat).drop l.toNat)))))))))
    | .slice e, .hs j o n c k => boundI lo r 0 fun l => boundI hi r n fun h => boundI mx r c fun m => G (Nat.beq k (ti T e).size) (G (Nat.blt 0 k) (G (!mx.isSome || hi.isSome) (G (leI 0 l) (G (leI l h) (G (leI h m) (G (leI m c) (K (.hs j (o + l.toNat) (h.toNat - l.toNat) (m.toNat - l.toNat) k))))))))
    | .slice e, .nilsl => boundI lo r 0 fun l => boundI hi r 0 fun h => boundI mx r 0 fun m => G (!mx.isSome || hi.isSome) (G (Nat.blt 0 (ti T e).size) (G (eqI l 0) (G (eqI h 0) (G (eqI m 0) (K .nilsl)))))
    | _, _ => False
  | .extract t i => match r t with | .tup vs => (match vs[i]? with | some v => K v | none => False) | _ => False
  | .makeFunc fn first cap => match fn, first.toList, cap.toList with
    | .func f, [], [] => K (.fn f [])
    | _, _, _ => False
  | .lookup t x k ok => lookAV T t ok H (r x) (r k) K
  | .makeInterface t x => match (ti T t).k with
    | .iface => False
    | .other => False
    | _ => K (.iface t (r x))
  | .nilCheck x => match r x with
    | .ptr j o => K (.ptr j o)
    | .rp cs o => K (.rp cs o)
    | .obj j o => K (.obj j o)
    | .he j k i o => K (.he j k i o)
    | .fn f c => K (.fn f c)
    | _ => False
  | .call c => match c.callee with
    | .builtin .len => match c.args.toList, c.argTypes.toList with
      | [x], [t] => match (ti T t).k, r x with
        | .str, .str s => K (.int .i64 (sizeI s))
        | .slice _, .sl _ _ xs => K (.int .i64 (lenI xs))
        | .slice _, .nilsl => K (.int .i64 0)
        | .slice _, .hs _ _ n _ _ => K (.int .i64 n)
        | .array n _, _ => K (.int .i64 n)
        | .map _ _, .map j => G (H.get j).isMap (K (.int .i64 (lenI (H.get j).es)))
        | _, _ => False
      | _, _ => False
    | .builtin .cap => match c.args.toList, c.argTypes.toList with
      | [x], [t] => match (ti T t).k, r x with
        | .slice _, .hs _ _ _ m _ => K (.int .i64 m)
        | .slice _, .nilsl => K (.int .i64 0)
        | _, _ => False
      | _, _ => False
    | .builtin .max => match c.args.toList.map r with
      | [.int k a, .int k' b] => G (decide (k = k')) (K (.int k (cond (ltI a b) b a)))
      | _ => False
    | .builtin .min => match c.args.toList.map r with
      | [.int k a, .int k' b] => G (decide (k = k')) (K (.int k (cond (ltI b a) b a)))
      | _ => False
    | _ => False
  | _ => False
def Oracle := Nat → List AV → Heap → (AV → Heap → Prop) → Prop
namespace AV
def isTup : AV → Bool | .tup _ => true | _ => false
def tupVs : AV → List AV | .tup vs => vs | _ => []
def isOwn (k : Nat) : AV → Bool | .sl (_ + 1) k' _ => Nat.beq k k' | .nilsl => Nat.blt 0 k | _ => false
def noTag (x : AV) : Bool := (tagsOf x).isEmpty
end AV
def normC (own : Bool) (s : Nat) (c : CK) (x : AV) (K : Nat → AV → Prop) : Prop :=
  match c with
  | .int k => G (x.isInt k) (K s (.int k x.toInt))
  | .bool => G x.isBool (K s (.bool x.toBool))
  | .str => G x.isStr (K s (.str x.toStr))
  | .slice k => cond own (G (x.isOwn k) (K (s + 1) (.sl s k x.slXs))) (G (x.isSl k) (K s (.sl 0 k x.slXs)))
  | .ptr => cond x.isObj (K s (.obj x.objJ 0)) (G x.isNilp (K s .nilp))
  | .map => cond x.isMap (K s (.map x.mapJ)) (G x.isNilmap (K s .nilmap))
  | .iface => cond x.isIf (G x.noTag (K s (.iface x.ifT x.ifV))) (G x.isNilif (K s .niliface))
  | _ => cond own (G x.noTag (K s x)) (K s x)
def normCs (own : Bool) : List CK → Nat → List AV → (Nat → List AV → Prop) → Prop
  | [], s, _, K => K s []
  | c :: cs, s, xs, K => normC own s c (xs.headD .any) fun s x => normCs own cs s xs.tail fun s r => K s (x :: r)
def normT (T : List TI) (own : Bool) (s : Nat) (t : Nat) (v : AV) (K : Nat → AV → Prop) : Prop :=
  cond (isAggT T t) (G (v.isAgg && Nat.beq v.aggCs.length (ti T t).shape.length) (normCs own (ti T t).shape s v.aggCs fun s l => K s (.agg l))) (normC own s ((ti T t).shape.headD .other) v K)
def normTs (T : List TI) (own : Bool) : List Nat → Nat → List AV → (Nat → List AV → Prop) → Prop
  | [], s, _, K => K s []
  | t :: ts, s, xs, K => normT T own s t (xs.headD .any) fun s x => normTs T own ts s xs.tail fun s r => K s (x :: r)
def normRes (T : List TI) (own : Bool) (s : Nat) (t : Nat) (v : AV) (K : AV → Prop) : Prop :=
  match (ti T t).k with
  | .tuple ts => G (v.isTup && Nat.beq v.tupVs.length ts.length) (normTs T own ts s v.tupVs fun _ l => K (.tup l))
  | _ => normT T own s t v fun _ v => K v
structure Env where
  T : List TI
  fs : Nat → Option Func
  L : Nat → List (List (Nat × Nat)) × List (Nat × List (Nat × Nat))
  own : Nat → Bool
  leaf : Oracle
  io : Nat → Bool
  pur : Nat → Bool
  apart : Nat → Bool
  hp : Nat → Bool
  disp : String → List (Nat × Nat)
def lendH (H : Heap) : AV → AV
  | .hs j o n _ k => .sl 0 k (((H.get j).xs.drop o).take n)
  | v => lendF v
def hsOk (H : Heap) : AV → Bool
  | .hs j o n _ k => (H.get j).isRows k && Nat.ble (o + n) (H.get j).xs.length
  | .agg cs => cs.all fun | .hs _ _ _ _ _ => false | .agg _ => false | .tup _ => false | .iface _ _ => false | _ => true
  | .tup _ => false
  | .iface _ _ => false
  | _ => true
def pad (k m : Nat) (xs : List (List AV)) : List (List AV) := xs ++ List.replicate (m - xs.length) (List.replicate k .any)
def Heap.Same (H H' : Heap) : Prop := ∀ i, i < H.next → H'.get i = H.get i
def ioTurn (R : Oracle) (f k : Nat) (xs : List (List AV)) (rest : List AV) (H : Heap) (K : List (List AV) → Heap → Prop) : Prop :=
  (∀ m, xs.length ≤ m → (xs.length ≤ 140737488355328 → m ≤ 9223372036854775807) → R f (.hs H.next 0 xs.length m k :: rest) (H.push (.rows k (pad k m xs))) fun v H' =>
    v = .tup [] ∧ H.Same H' ∧ ∃ ys, H'.get H.next = .rows k ys ∧ ys.length = m ∧ K (ys.take xs.length) (H'.set H.next (H.get H.next))) ∧
  (xs = [] → R f (.nilsl :: rest) H fun v H' => v = .tup [] ∧ K [] H')
def ioRet (k : Nat) (H H' : Heap) (v : AV) (K : List (List AV) → Heap → Prop) : Prop :=
  (∃ j n c ys, v = .hs j 0 n c k ∧ H.next ≤ j ∧ H'.get j = .rows k ys ∧ ys.length = c ∧ n ≤ c ∧ K (ys.take n) ((H'.set j (H.get j)).set H.next (H.get H.next))) ∨
  (∃ t ys, v = .sl (t + 1) k ys ∧ K ys (H'.set H.next (H.get H.next)))
def ioBack (R : Oracle) (f k : Nat) (xs : List (List AV)) (rest : List AV) (H : Heap) (K : List (List AV) → Heap → Prop) : Prop :=
  (∀ m, xs.length ≤ m → (xs.length ≤ 140737488355328 → m ≤ 9223372036854775807) → R f (.hs H.next 0 xs.length m k :: rest) (H.push (.rows k (pad k m xs))) fun v H' => H.Same H' ∧ H'.get H.next ≠ .dead ∧ ioRet k H H' v K) ∧
  (xs = [] → R f (.nilsl :: rest) H fun v H' => H.Same H' ∧ (ioRet k H H' v K ∨ (v = .nilsl ∧ K [] H')))
def isSliceT (T : List TI) (t : Nat) : Bool := match (ti T t).k with | .slice _ => true | _ => false
def isUnitT (T : List TI) (t : Nat) : Bool := match (ti T t).k with | .tuple [] => true | _ => false
def hdHs : List AV → Option (Option Nat)
  | .hs _ _ _ _ k :: _ => some (some k)
  | .nilsl :: _ => some none
  | _ => none
def isNilHd : List AV → Bool
  | .nilsl :: _ => true
  | _ => false
def hsK (h : Option (Option Nat)) (v : AV) (K : AV → Prop) : Prop :=
  match h with
  | some (some k) => G (v.isHs k) (K (.hs v.hsJ v.hsO v.hsN v.hsC k))
  | some none => G v.isNilsl (K .nilsl)
  | none => False
def callIO (E : Env) (R : Oracle) (s : St) (f : Nat) (args : List AV) (type : Nat) (K : AV → St → Prop) : Prop :=
  match args with
  | .sl (t + 1) k xs :: rest =>
    G (!((tagsOfs rest).contains (t + 1)) && Nat.blt 0 k)
      (let s' := s.frzAll (tagsOfs rest)
       cond (isUnitT E.T type)
        (G (!(E.own f)) (ioTurn R f k xs (frzVs rest) s.H fun ys H => K (.tup []) { s'.mapS (updF (t + 1) ys) with H := H }))
        (G (E.own f && isSliceT E.T type) (ioBack R f k xs (frzVs rest) s.H fun ys H => K (.sl (s'.mapS (killF (t + 1))).fresh k ys) { s'.mapS (killF (t + 1)) with H := H })))
  | args =>
    let s' := s.frzAll (tagsOfs args)
    cond (scalarT E.T type) (G (!(E.own f)) (R f (frzVs args) s.H fun v H => normRes E.T false 0 type v fun v => K v { s' with H := H }))
      (G (E.own f && isSliceT E.T type) (cond (isNilHd args) (R f (frzVs args) s.H fun v H => normRes E.T (E.own f) s'.fresh type v fun v => K v { s' with H := H }) (R f (frzVs args) s.H fun v H => hsK (hdHs args) v fun v => K v { s' with H := H })))
def pastR (R : Oracle) : Oracle := fun f args H Q => R f args H.none fun v H' => Q v (H.past H')
def callAV (E : Env) (R : Oracle) (strict : Bool) (s : St) (f : Nat) (args : List AV) (type : Nat) (K : AV → St → Prop) : Prop :=
  cond (E.io f) (G (!strict) (callIO E R s f args type K))
  (cond (E.pur f)
    (cond (scalarT E.T type)
      (G (!(E.own f)) (G (args.all (hsOk s.H)) (pastR R f (mapTs (lendH s.H) args) s.H fun v H => normRes E.T false 0 type v fun v => K v { s with H := H })))
      (cond strict
        (G (tagsOfs args).isEmpty (G (!(E.own f)) (pastR R f (frzVs args) s.H fun v H => normRes E.T false 0 type v fun v => K v { s with H := H })))
        (let s' := s.frzAll (tagsOfs args); pastR R f (frzVs args) s.H fun v H => normRes E.T (E.own f) s'.fresh type v fun v => K v { s' with H := H })))
    (cond strict
      (G (tagsOfs args).isEmpty (G (!(E.own f)) (R f (frzVs args) s.H fun v H => normRes E.T false 0 type v fun v => K v { s with H := H })))
      (let s' := s.frzAll (tagsOfs args); R f (frzVs args) s.H fun v H => normRes E.T (E.own f) s'.fresh type v fun v => K v { s' with H := H })))
def apartK (H : Heap) (x y : AV) (K : Bool → Prop) : Prop :=
  match x, y with
  | .nilsl, .nilsl => K false
  | .nilsl, .hs _ _ _ _ _ => K false
  | .nilsl, .sl _ (_ + 1) _ => K false
  | .hs _ _ _ _ _, .nilsl => K false
  | .sl _ (_ + 1) _, .nilsl => K false
  | .hs j _ _ _ (k + 1), .sl _ (_ + 1) _ => G ((H.get j).isRows (k + 1)) (K false)
  | .sl _ (_ + 1) _, .hs j _ _ _ (k + 1) => G ((H.get j).isRows (k + 1)) (K false)
  | _, _ => False
def madeT (T : List TI) (e : Nat) : Bool := (match (ti T e).k with | .other => false | .tuple _ => false | _ => true) && (Nat.blt 0 (ti T e).size && Nat.blt 0 (ti T e).bytes)
def room (xs ys : List (List AV)) (b : Nat) : Bool := Nat.ble ((xs.length + ys.length) * b) 140737488355328
def roomN (n : Int) (b : Nat) : Bool := leI (n * (b : Int)) 140737488355328
def capAll : St → List AV → (List AV → St → Prop) → Prop
  | s, [], K => K [] s
  | s, .ptr j o :: r, K => match s.mem.getD j .dead with
    | .cells cs => let s' := s.frzAll (tagsOfs cs); capAll { s' with mem := s'.mem.set j (.frz (frzVs cs)) } r fun vs s => K (.rp (frzVs cs) o :: vs) s
    | .frz cs => capAll s r fun vs s => K (.rp cs o :: vs) s
    | _ => False
  | s, v :: r, K => let s' := s.frzAll (tagsOf v); capAll s' r fun vs s => K (frzV v :: vs) s
def nilA : CK → AV → AV
  | .slice k, .nilsl => .sl 0 k []
  | _, x => x
def nilAs : List CK → List AV → List AV
  | c :: cs, x :: xs => nilA c x :: nilAs cs xs
  | _, xs => xs
def argN (T : List TI) (t : Nat) (v : AV) : AV :=
  match v with
  | .agg cs => .agg (nilAs (ti T t).shape cs)
  | v => nilA ((ti T t).shape.headD .other) v
def argNs (T : List TI) : List Nat → List AV → List AV
  | t :: ts, v :: vs => argN T t v :: argNs T ts vs
  | _, vs => vs
def twoSame (c : Go.Call) : Bool := match c.args.toList, c.argTypes.toList with | [_, _], [t, u] => Nat.beq t u | _, _ => false
def rowOf (k : Nat) (H : Heap) (v : AV) (K : List (List AV) → Prop) : Prop :=
  match v with
  | .sl _ k' ys => G (Nat.beq k' k) (K ys)
  | .nilsl => K []
  | .hs j o n _ k' => G (Nat.beq k' k) (G ((H.get j).isRows k) (G (Nat.ble (o + n) (H.get j).xs.length) (K (((H.get j).xs.drop o).take n))))
  | _ => False
def zerosOf (T : List TI) (e : Nat) (c : Go.Call) (v : AV) (K : List (List AV) → Prop) : Prop :=
  match c.args.toList, c.argTypes.toList with
  | [_, _], [_, u] => match (ti T u).k, v with
    | .int .i64, .int .i64 n => G (leI 0 n) (G (roomN n (ti T e).bytes) (K (List.replicate n.toNat ((ti T e).shape.map CK.zero))))
    | _, _ => False
  | _, _ => False
def splice (xs : List (List AV)) (o : Nat) (ys : List (List AV)) : List (List AV) := xs.take o ++ ys ++ xs.drop (o + ys.length)
def buildL (T : List TI) (t n : Nat) (ps : Array (Nat × Operand)) (r : Operand → AV) (K : AV → Prop) : Prop :=
  match (ti T t).k with
  | .slice e => G (madeT T e) (G (Nat.ble (n * (ti T e).size) 16777216) (fillRows (ti T e).size (List.replicate n ((ti T e).shape.map CK.zero)) (ps.toList.map fun p => (p.1, frzV (r p.2))) fun xs => K (.sl 0 (ti T e).size xs)))
  | _ => False
def buildO (T : List TI) (t n : Nat) (ps : Array (Nat × Operand)) (r : Operand → AV) (s : St) (K : St → AV → Prop) : Prop :=
  match (ti T t).k with
  | .slice e =>
    let s' := s.frzAll (tagsOfs (ps.toList.map fun p => r p.2))
    G (madeT T e) (G (Nat.ble (n * (ti T e).size) 16777216) (fillRows (ti T e).size (List.replicate n ((ti T e).shape.map CK.zero)) (ps.toList.map fun p => (p.1, frzV (r p.2))) fun xs =>
      K s' (.sl s'.fresh (ti T e).size xs)))
  | _ => False
def isFnO : Operand → Bool | .func _ => true | _ => false
def invAV (E : Env) (R : Oracle) (strict : Bool) (s : St) (args : List AV) (type : Nat) (t : Nat) (v : AV) (K : AV → St → Prop) : List (Nat × Nat) → Prop
  | [] => False
  | p :: r => cond (Nat.beq t p.1) (G (!(E.io p.2)) (normE E.T p.1 v fun x => callAV E R strict s p.2 (x :: args) type K)) (invAV E R strict s args type t v K r)
def aop (E : Env) (R : Oracle) (strict : Bool) (o : Oper) (s : St) (K : St → Prop) : Prop :=
  let T := E.T
  let r := ρ s.tm
  match o.op with
  | .alloc e => G (match (ti T e).k with | .other => false | .tuple _ => false | _ => true)
      (cond (E.hp e) (K ({ s with H := s.H.push (.cells (cellsOf (zeroT T e))) }.put o.dst (.obj s.H.next 0))) (K ({ s with mem := s.mem ++ [MB.cells (cellsOf (zeroT T e))] }.put o.dst (.ptr s.mem.length 0))))
  | .box e x => G (boxable (r x))
      (cond (E.hp e) (let s' := s.frzAll (tagsOf (r x)); K ({ s' with H := s.H.push (.cells (frzVs (cellsOf (r x)))) }.put o.dst (.obj s.H.next 0))) (K ({ s with mem := s.mem ++ [MB.cells (cellsOf (r x))] }.put o.dst (.ptr s.mem.length 0))))
  | .makeMap t none => G (match (ti T t).k with | .map _ _ => true | _ => false) (K ({ s with H := s.H.push (.map [] 0) }.put o.dst (.map s.H.next)))
  | .mapUpdate t m k v => match (ti T t).k, r m with
    | .map kt _, .map j => G (!strict) (G (keyOkT T kt) (G (keyFits (keyT T kt) (isAggT T kt) (r k)) (G ((s.H.get j).isMapOf (keyT T kt) (isAggT T kt))
        (let s' := s.frzAll (tagsOf (r v)); K ({ s' with H := s.H.set j (.map (mput (r k) (frzV (r v)) (s.H.get j).clock (s.H.get j).es) (cond (mhas (r k) (s.H.get j).es) (s.H.get j).clock ((s.H.get j).clock + 1))) }.put o.dst (.tup []))))))
    | _, _ => False
  | .build t ps =>
    match (ti T t).k with
    | .struct fs => G (fs.all fun p => Nat.blt 0 (ti T p.2).size) (fillAV (fun i => (fs[i]?).map fun p => (p.1, (ti T p.2).size)) ((ti T t).shape.map CK.zero) (ps.toList.map fun p => (p.1, r p.2)) fun cs => K (s.put o.dst (.agg cs)))
    | .array _ e => G (Nat.blt 0 (ti T e).size) (fillAV (fun i => some (i * (ti T e).size, (ti T e).size)) ((ti T t).shape.map CK.zero) (ps.toList.map fun p => (p.1, r p.2)) fun cs => K (s.put o.dst (.agg cs)))
    | _ => False
  | .buildSlice t n ps =>
    cond strict (G (tagsOfs (ps.toList.map fun p => r p.2)).isEmpty (buildL T t n ps r fun v => K (s.put o.dst v))) (buildO T t n ps r s fun s v => K (s.put o.dst v))
  | .store t a x =>
    match r a with
    | .ptr j o' => match s.mem.getD j .dead with
      | .cells cs => G (Nat.blt 0 (ti T t).size) (G (boxable (r x)) (G (Nat.ble (o' + (cellsOf (r x)).length) cs.length) (G (Nat.beq (cellsOf (r x)).length (ti T t).size) (K ({ s with mem := s.mem.set j (.cells (setRangeX cs o' (cellsOf (r x)))) }.put o.dst (.tup []))))))
      | _ => False
    | .ep tg k i o' xs => G (!strict) <| G (Nat.blt 0 (ti T t).size) (G (boxable (r x)) (G (Nat.ble (o' + (cellsOf (r x)).length) k) (G (Nat.beq (cellsOf (r x)).length (ti T t).size) (G (!((tagsOf (r x)).contains tg)) (let s' := s.frzAll (tagsOf (r x)); K ((s'.mapS (updF tg (xs.set i (setRange (xs.getD i []) o' (frzVs (cellsOf (r x))))))).put o.dst (.tup [])))))))
    | .he j k i o' => G (!strict || (tagsOf (r x)).isEmpty) <| G ((s.H.get j).isRows k) (G (Nat.blt 0 (ti T t).size) (G (boxable (r x)) (G (Nat.ble (o' + (cellsOf (r x)).length) k) (G (Nat.beq (cellsOf (r x)).length (ti T t).size) (G (Nat.blt i (s.H.get j).xs.length)
      (let s' := s.frzAll (tagsOf (r x)); K ({ s' with H := s.H.set j (.rows k ((s.H.get j).xs.set i (setRange ((s.H.get j).xs.getD i []) o' (frzVs (cellsOf (r x)))))) }.put o.dst (.tup []))))))))
    | .obj j o' => match r x with
      | .sl (tg + 1) k xs => G (!strict) (G ((s.H.get j).isCells) (G (Nat.beq (ti T t).size 1) (G (Nat.blt o' (s.H.get j).cs.length)
          ((∀ m, xs.length ≤ m → (xs.length ≤ 140737488355328 → m ≤ 9223372036854775807) → K ({ s.mapS (killF (tg + 1)) with H := (s.H.push (.rows k (pad k m xs))).set j (.cells ((s.H.get j).cs.set o' (.hs s.H.next 0 xs.length m k))) }.put o.dst (.tup []))) ∧
           (xs = [] → K ({ s.mapS (killF (tg + 1)) with H := s.H.set j (.cells ((s.H.get j).cs.set o' .nilsl)) }.put o.dst (.tup [])))))))
      | _ => G (!strict || (tagsOf (r x)).isEmpty) <| G ((s.H.get j).isCells) (G (Nat.blt 0 (ti T t).size) (G (boxable (r x)) (G (Nat.ble (o' + (cellsOf (r x)).length) (s.H.get j).cs.length) (G (Nat.beq (cellsOf (r x)).length (ti T t).size)
      (let s' := s.frzAll (tagsOf (r x)); K ({ s' with H := s.H.set j (.cells (setRange (s.H.get j).cs o' (frzVs (cellsOf (r x))))) }.put o.dst (.tup [])))))))
    | _ => False
  | .makeSlice t l c =>
    match (ti T t).k, r l, r c with
    | .slice e, .int _ n, .int _ m => G (madeT T e) (G (leI 0 n) (G (eqI n m) (G (roomN n (ti T e).bytes) (K (s.put o.dst (.sl s.fresh (ti T e).size (List.replicate n.toNat ((ti T e).shape.map CK.zero))))))))
    | _, _, _ => False
  | .slice _ x _ _ _ => match r x with
    | .sl (_ + 1) _ _ => G (!strict) (let s' := s.frzAll (tagsOf (r x)); light T o.op (fun y => mapT lendF (r y)) s.mem s.H fun v => K (s'.put o.dst v))
    | _ => light T o.op r s.mem s.H fun v => K (s.put o.dst v)
  | .convert src dst x => match (ti T src).k, (ti T dst).k, r x with
    | .str, .slice e, .str b => match (ti T e).k with | .int .u8 => G (Nat.ble b.size 9223372036854775807) (K (s.put o.dst (.sl 0 1 (bytesAV b)))) | _ => False
    | .slice e, .str, .sl _ _ xs => match (ti T e).k with | .int .u8 => ∃ b, xs = bytesAV b ∧ K (s.put o.dst (.str b)) | _ => False
    | .slice e, .str, .nilsl => match (ti T e).k with | .int .u8 => K (s.put o.dst (.str ⟨#[]⟩)) | _ => False
    | .slice _, .slice e, .sl (t + 1) k xs => match (ti T e).k with | .int .u8 => G (!strict) (G (Nat.beq src dst) (G (!(xs.isEmpty)) (K ((s.mapS (killF (t + 1))).put o.dst (.sl 0 k xs))))) | _ => False
    | _, _, _ => light T o.op r s.mem s.H fun v => K (s.put o.dst v)
  | .binOp op t x y _ => match (ti T t).k with
    | .slice _ => match op, r x, r y with
      | .eql, .sl _ _ xs, .nilsl => ∀ b : Bool, (b = true → xs = []) → K (s.put o.dst (.bool b))
      | .neq, .sl _ _ xs, .nilsl => ∀ b : Bool, (b = true → xs = []) → K (s.put o.dst (.bool (!b)))
      | .eql, .nilsl, .nilsl => K (s.put o.dst (.bool true))
      | .neq, .nilsl, .nilsl => K (s.put o.dst (.bool false))
      | .eql, .hs _ _ _ _ _, .nilsl => K (s.put o.dst (.bool false))
      | .neq, .hs _ _ _ _ _, .nilsl => K (s.put o.dst (.bool true))
      | _, _, _ => False
    | _ => light T o.op r s.mem s.H fun v => K (s.put o.dst v)
  | .range t x => match (ti T t).k, r x with
    | .str, .str b => K ({ s with mem := s.mem ++ [MB.siter b 0] }.put o.dst (.ptr s.mem.length 0))
    | .map kt vt, .map j => G (s.H.get j).isMap (K ({ s with mem := s.mem ++ [MB.miter j kt vt (s.H.get j).clock (s.H.get j).clock []] }.put o.dst (.ptr s.mem.length 0)))
    | _, _ => False
  | .next it false => match r it with
    | .ptr j 0 => match s.mem.getD j .dead with
      | .miter m kt vt since _ seen => G ((s.H.get m).isMap && (Nat.ble since (s.H.get m).clock && (s.H.get m).es.all fun e => Nat.blt e.1 since))
          ((mleft seen (s.H.get m).es = [] → K (s.put o.dst (.tup [.bool false]))) ∧
           ∀ e, e ∈ mleft seen (s.H.get m).es → K ({ s with mem := s.mem.set j (.miter m kt vt since (s.H.get m).clock (e.1 :: seen)) }.put o.dst (.tup [.bool true, .any, .any])))
      | _ => False
    | _ => False
  | .entry it => match r it with
    | .ptr j 0 => match s.mem.getD j .dead with
      | .miter m kt vt _ stepped (n :: _) => G ((s.H.get m).isMap && Nat.beq (s.H.get m).clock stepped) (G (mborn n (s.H.get m).es).isSome
          (normE T kt (mkeyAt n (s.H.get m).es) fun k => normE T vt (mvalAt n (s.H.get m).es) fun v => K (s.put o.dst (.tup [k, v]))))
      | _ => False
    | _ => False
  | .next it true => match r it with
    | .ptr j 0 => match s.mem.getD j .dead with
      | .siter b pos => cond (Nat.blt pos b.size)
          (K ({ s with mem := s.mem.set j (.siter b (pos + (Utf8.decode b pos).2)) }.put o.dst (.tup [.bool true, .int .i64 (pos : Int), .int .i32 ((Utf8.decode b pos).1 : Int)])))
          (K (s.put o.dst (.tup [.bool false])))
      | _ => False
    | _ => False
  | .makeFunc fn first cap => match fn, first.toList with
    | .func f, [] => capAll s (cap.toList.map r) fun vs s' => K (s'.put o.dst (.fn f vs))
    | _, _ => False
  | .call c =>
    match c.callee with
    | .value f => match r f with
      | .fn g cap => cond (E.apart g)
          (G (Nat.beq c.args.size 2 && cap.isEmpty) (apartK s.H (r (c.args.getD 0 (.const (.bool false)))) (r (c.args.getD 1 (.const (.bool false)))) fun b => K (s.put o.dst (.bool b))))
          (G (!strict || (E.pur g || (E.io g || isFnO f))) (callAV E R strict s g (cond (E.io g) (c.args.toList.map r) (argNs T c.argTypes.toList (c.args.toList.map r)) ++ cap) o.type fun v s' => K (s'.put o.dst v)))
      | _ => False
    | .builtin .append =>
      match (ti T (c.argTypes.getD 0 0)).k with
      | .slice e => G (madeT T e)
        (let app (s : St) (xs ys : List (List AV)) : Prop :=
          G (room xs ys (ti T e).bytes) (K (s.put o.dst (.sl s.fresh (ti T e).size (xs ++ ys))))
         let src (K : List (List AV) → Prop) : Prop := cond (twoSame c) (rowOf (ti T e).size s.H (r (c.args.getD 1 (.const (.bool false)))) K) (zerosOf T e c (r (c.args.getD 1 (.const (.bool false)))) K)
        match r (c.args.getD 0 (.const (.bool false))) with
        | .nilsl => G (twoSame c) (rowOf (ti T e).size s.H (r (c.args.getD 1 (.const (.bool false)))) fun ys => app s [] ys)
        | .sl (t + 1) k xs => G (twoSame c) (G (Nat.beq k (ti T e).size) (rowOf (ti T e).size s.H (r (c.args.getD 1 (.const (.bool false)))) fun ys => app (s.mapS (killF (t + 1))) xs ys))
        | .hs j o' n m k => G (Nat.beq k (ti T e).size) (G ((s.H.get j).isRows k) (src fun ys =>
            cond (Nat.ble (n + ys.length) m)
              (G (Nat.ble (o' + n + ys.length) (s.H.get j).xs.length) (K ({ s with H := s.H.set j (.rows k (splice (s.H.get j).xs (o' + n) ys)) }.put o.dst (.hs j o' (n + ys.length) m k))))
              (G (room (((s.H.get j).xs.drop o').take n) ys (ti T e).bytes) (G (Nat.ble (o' + n) (s.H.get j).xs.length) (∀ m', n + ys.length ≤ m' → (n + ys.length ≤ 140737488355328 → m' ≤ 9223372036854775807) →
                K ({ s with H := s.H.push (.rows k (pad k m' (((s.H.get j).xs.drop o').take n ++ ys))) }.put o.dst (.hs s.H.next 0 (n + ys.length) m' k)))))))
        | _ => False)
      | _ => False
    | .builtin .copy =>
      match (ti T (c.argTypes.getD 0 0)).k, r (c.args.getD 0 (.const (.bool false))) with
      | .slice e, .hs j o' n _ k => G (Nat.beq k (ti T e).size && Nat.blt 0 k && Nat.beq c.args.size 2 && Nat.beq c.argTypes.size 2) (G ((s.H.get j).isRows k) (G (Nat.ble (o' + n) (s.H.get j).xs.length)
          (rowOf k s.H (r (c.args.getD 1 (.const (.bool false)))) fun ys =>
            K ({ s with H := s.H.set j (.rows k (splice (s.H.get j).xs o' (ys.take n))) }.put o.dst (.int .i64 ((Nat.min ys.length n : Nat) : Int))))))
      | .slice e, .nilsl => G (Nat.blt 0 (ti T e).size && Nat.beq c.args.size 2 && Nat.beq c.argTypes.size 2) (rowOf (ti T e).size s.H (r (c.args.getD 1 (.const (.bool false)))) fun _ => K (s.put o.dst (.int .i64 0)))
      | _, _ => False
    | .invoke rv name => match r rv with
      | .iface t v => G v.noTag (invAV E R strict s (argNs T c.argTypes.toList (c.args.toList.map r)) o.type t (frzV v) (fun v s' => K (s'.put o.dst v)) (E.disp name))
      | _ => False
    | .builtin .delete =>
      match (ti T (c.argTypes.getD 0 0)).k, r (c.args.getD 0 (.const (.bool false))) with
      | .map kt _, .map j => G (!strict && Nat.beq c.args.size 2 && Nat.beq c.argTypes.size 2) (G (keyOkT T kt) (G (keyFits (keyT T kt) (isAggT T kt) (r (c.args.getD 1 (.const (.bool false))))) (G ((s.H.get j).isMapOf (keyT T kt) (isAggT T kt))
          (K ({ s with H := s.H.set j (.map (mdel (r (c.args.getD 1 (.const (.bool false)))) (s.H.get j).es) (s.H.get j).clock) }.put o.dst (.tup []))))))
      | _, _ => False
    | .builtin .clear =>
      match (ti T (c.argTypes.getD 0 0)).k, r (c.args.getD 0 (.const (.bool false))) with
      | .slice e, .hs j o' n _ k => G (madeT T e && Nat.beq k (ti T e).size && Nat.beq c.args.size 1 && Nat.beq c.argTypes.size 1) (G ((s.H.get j).isRows k) (G (Nat.ble (o' + n) (s.H.get j).xs.length)
          (K ({ s with H := s.H.set j (.rows k (splice (s.H.get j).xs o' (List.replicate n ((ti T e).shape.map CK.zero)))) }.put o.dst (.tup [])))))
      | .slice _, .nilsl => G (Nat.beq c.args.size 1 && Nat.beq c.argTypes.size 1) (K (s.put o.dst (.tup [])))
      | _, _ => False
    | _ => light T o.op r s.mem s.H fun v => K (s.put o.dst v)
  | _ => light T o.op r s.mem s.H fun v => K (s.put o.dst v)
def isLight (T : List TI) (o : Oper) : Bool :=
  match o.op with
  | .move _ | .assign _ | .pick .. | .load .. | .unOp .. | .fieldAddr .. | .field .. | .indexAddr .. | .index .. | .extract .. | .nilCheck _ | .lookup .. | .makeInterface .. => true
  | .binOp _ t _ _ _ => match (ti T t).k with | .slice _ => false | _ => true
  | .convert src dst _ => match (ti T src).k, (ti T dst).k with | .int _, .int _ => true | _, _ => false
  | .makeFunc _ f c => match f.toList, c.toList with | [], [] => true | _, _ => false
  | .slice _ _ _ _ _ => true
  | .call c => match c.callee with | .builtin .len => true | .builtin .cap => true | .builtin .max => true | .builtin .min => true | _ => false
  | _ => false
def isCall (E : Env) (o : Oper) : Bool :=
  match o.op with
  | .call c => match c.callee with | .value (.func f) => !(E.own f) && (E.pur f || E.apart f) | .value _ => true | _ => false
  | _ => false
def isCallI (E : Env) (o : Oper) : Bool :=
  match o.op with
  | .call c => match c.callee with | .value (.func f) => !(E.own f) && (!(E.io f) && (!(E.pur f) && !(E.apart f))) | _ => false
  | _ => false
def isAllocL (E : Env) (o : Oper) : Bool := o.guard.isNone && (match o.op with | .alloc e => !(E.hp e) | _ => false)
def isCallA (E : Env) (o : Oper) : Bool :=
  match o.op with
  | .call c => match c.callee with | .value (.func f) => !(E.own f) && (!(E.io f) && !(E.apart f)) | _ => false
  | _ => false
def isLightN (T : List TI) (o : Oper) : Bool := isLight T o && (match o.op with | .slice .. => false | _ => true)
def anc (ops : List Oper) : Nat → Nat → Nat → Bool
  | 0, _, _ => false
  | n + 1, i, x => match ops[i]? with
    | some o => o.after.toList.any fun e => Region.binds .any e && (Nat.beq e.on x || anc ops n e.on x)
    | none => false
def looks (ops : List Oper) (o : Oper) : List Nat :=
  (o.op.operands.toList.filterMap fun | .tmp t => some t | _ => none) ++
  (match o.guard with | some (g, _) => ((ops[g]?).bind (·.dst)).toList | none => [])
def apartB (ops : List Oper) (x y : Oper) : Bool :=
  (match x.dst with | some d => !(looks ops y).contains d && !(y.dst == some d) | none => true) &&
  (match y.dst with | some d => !(looks ops x).contains d | none => true)
def isBuild (T : List TI) (o : Oper) : Bool := match o.op with | .buildSlice t _ _ => (match (ti T t).k with | .slice e => (match (ti T e).k with | .int .u8 => false | _ => true) | _ => true) | _ => false
def isForm (T : List TI) (o : Oper) : Bool := match o.op with | .build .. => true | .convert src dst _ => (match (ti T src).k, (ti T dst).k with | .slice _, .str => true | .str, .slice _ => true | _, _ => false) | _ => false
def convK (T : List TI) (src dst : Nat) (v : AV) (K : AV → Prop) : Prop :=
  match (ti T src).k, (ti T dst).k, v with
  | .str, .slice e, .str b => match (ti T e).k with | .int .u8 => G (Nat.ble b.size 9223372036854775807) (K (.sl 0 1 (bytesAV b))) | _ => False
  | .slice e, .str, .sl _ _ xs => match (ti T e).k with | .int .u8 => ∃ b, xs = bytesAV b ∧ K (.str b) | _ => False
  | .slice e, .str, .nilsl => match (ti T e).k with | .int .u8 => K (.str ⟨#[]⟩) | _ => False
  | _, _, _ => False
def isQuiet (T : List TI) (o : Oper) : Bool := isLight T o || (isBuild T o || isForm T o)
def isStore (o : Oper) : Bool := match o.op with | .store .. => true | _ => false
def dryOp (T : List TI) (op : Op) : Bool := match op with | .load .. => false | .lookup .. => false | .call c => (match c.callee with | .builtin .len => (match (ti T (c.argTypes.toList.headD 0)).k with | .map _ _ => false | _ => true) | _ => true) | _ => true
def isDry (T : List TI) (o : Oper) : Bool := isLight T o && dryOp T o.op
def fits (E : Env) (ops : List Oper) (x y : Oper) : Bool :=
  apartB ops x y && (((isQuiet E.T x || isQuiet E.T y) && (isQuiet E.T x || isCall E x) && (isQuiet E.T y || isCall E y)) || (((isDry E.T x && isStore y) || (isStore x && isDry E.T y)) || ((isDry E.T x && isCallI E y) || (isCallI E x && isDry E.T y))))
def fitsA (E : Env) (ops : List Oper) (x y : Oper) : Bool := apartB ops x y && (isAllocL E y && (isLightN E.T x || (isForm E.T x || (isStore x || isCallA E x))))
def pairOk (E : Env) (ops : List Oper) (i j : Nat) : Bool :=
  anc ops ops.length j i || (match ops[i]?, ops[j]? with | some x, some y => fits E ops x y | _, _ => false)
def drawOk (E : Env) (ops : List Oper) : Bool :=
  (List.range ops.length).all fun j => ((List.range j).all fun i => pairOk E ops i j) && (match ops[j]? with | some o => o.after.toList.all (fun e => !Region.binds .any e || Nat.blt e.on j) | none => true)
def openAt (ops : List Oper) (i : Nat) : Bool :=
  (List.range ops.length).any fun j => (Nat.blt i j && !(anc ops ops.length j i)) || (Nat.blt j i && !(anc ops ops.length i j))
def astep (E : Env) (R : Oracle) (strict : Bool) (ops : List Oper) (o : Oper) (s : St) (K : St → Prop) : Prop :=
  match o.guard with
  | none => aop E R strict o s K
  | some (j, want) =>
    match (ops[j]?).bind (·.dst) with
    | none => False
    | some d =>
      match s.tm.getD d .any with
      | .bool b =>
        cond b
          (cond want (aop E R strict o { s with tm := s.tm.set d (.bool true) } K) (K ({ s with tm := s.tm.set d (.bool true) }.put o.dst (.tup []))))
          (cond want (K ({ s with tm := s.tm.set d (.bool false) }.put o.dst (.tup []))) (aop E R strict o { s with tm := s.tm.set d (.bool false) } K))
      | .tup [] => K (s.put o.dst (.tup []))
      | _ => False
def aops (E : Env) (R : Oracle) (ops : List Oper) (strict : Nat → Bool) : List Oper → Nat → St → (St → Prop) → Prop
  | [], _, s, K => K s
  | o :: rest, i, s, K => astep E R (strict i) ops o s fun s => aops E R ops strict rest (i + 1) s K
def drawAft (ops : List Oper) : Bool := (List.range ops.length).all fun j => (match ops[j]? with | some o => o.after.toList.all (fun e => !Region.binds .any e || Nat.blt e.on j) | none => true)
def fitsAt (E : Env) (ops : List Oper) (i j : Nat) : Bool := match ops[i]?, ops[j]? with | some x, some y => fits E ops x y | _, _ => false
def fitsAAt (E : Env) (ops : List Oper) (i j : Nat) : Bool := match ops[i]?, ops[j]? with | some x, some y => fitsA E ops x y | _, _ => false
def minAt (ops : List Oper) (rem : List Nat) (i : Nat) : Bool := rem.all fun j => !(anc ops ops.length i j)
def commAt (E : Env) (ops : List Oper) (rem : List Nat) (i : Nat) : Bool := rem.all fun j => Nat.beq j i || anc ops ops.length j i || (fitsAt E ops i j || fitsAAt E ops i j)
def stD (E : Env) (ops : List Oper) (i : Nat) : Bool :=
  (List.range ops.length).any fun j => !(Nat.beq j i) && (!(anc ops ops.length i j) && (!(anc ops ops.length j i) && (fitsAt E ops i j || fitsAt E ops j i)))
def rmD (i : Nat) (rem : List Nat) : List Nat := rem.filter fun j => !(Nat.beq j i)
def pickD (E : Env) (ops : List Oper) (rem : List Nat) : Option Nat := rem.find? fun i => minAt ops rem i && commAt E ops rem i
def conjL : List Nat → (Nat → Prop) → Prop
  | [], _ => False
  | [i], f => f i
  | i :: j :: r, f => f i ∧ conjL (j :: r) f
inductive Sh where
  | l
  | n (a b : Sh)
def Ands : Sh → Prop → Prop
  | .l, p => p
  | .n a b, p => Ands a p ∧ Ands b p
theorem Ands.of {p : Prop} (h : p) : ∀ s : Sh, Ands s p
  | .l => h
  | .n a b => ⟨Ands.of h a, Ands.of h b⟩
def stepD (E : Env) (R : Oracle) (ops : List Oper) (i : Nat) (s : St) (K : St → Prop) : Prop := match ops[i]? with | some o => astep E R (stD E ops i) ops o s K | none => False
def aopsD (E : Env) (R : Oracle) (ops : List Oper) : Nat → List Nat → St → (St → Prop) → Prop
  | 0, _, _, _ => False
  | _ + 1, [], s, K => K s
  | n + 1, r :: rs, s, K => match pickD E ops (r :: rs) with
    | some i => stepD E R ops i s fun s => aopsD E R ops n (rmD i (r :: rs)) s K
    | none => conjL ((r :: rs).filter (minAt ops (r :: rs))) fun i => stepD E R ops i s fun s => aopsD E R ops n (rmD i (r :: rs)) s K
abbrev Live := List (List (Nat × Nat)) × List (Nat × List (Nat × Nat))
def nilF (how fresh : Nat) : AV → AV
  | .nilsl => match how with
    | 0 => .nilsl
    | 1 => .sl 0 0 []
    | k + 2 => cond (Nat.blt 0 k) (.sl fresh k []) .any
  | v => v
def keep (live : List (Nat × Nat)) : Nat → Nat → List AV → List AV
  | _, _, [] => []
  | fresh, i, x :: r => match live.lookup i with
    | some how => nilF how fresh x :: keep live (fresh + 1) (i + 1) r
    | none => .any :: keep live fresh (i + 1) r
def reF (m : Nat) (ts : List Nat) : AV → AV
  | .sl t k xs => cond (Nat.beq t 0) (.sl 0 k xs) (.sl (ts.idxOf t + 1) k xs)
  | .ep t k i o xs => .ep (ts.idxOf t + 1) k i o xs
  | .ptr j o => cond (Nat.blt j m) (.ptr j o) .any
  | v => v
def uniq : List Nat → List Nat → List Nat
  | acc, [] => acc
  | acc, t :: r => cond (acc.elem t) (uniq acc r) (uniq (acc ++ [t]) r)
def stableTags (live : List (Nat × Nat)) : Nat → List AV → List Nat
  | _, [] => []
  | i, x :: r => match live.lookup i with
    | some 1 => tagsOf x ++ stableTags live (i + 1) r
    | _ => stableTags live (i + 1) r
def memNil1 (j i k : Nat) (s : St) : St :=
  match s.mem.getD j .dead with
  | .cells cs => match cs.getD i .any with
    | .nilsl => cond (Nat.blt 0 k) { s with mem := s.mem.set j (.cells (cs.set i (.sl s.fresh k []))) } s
    | _ => s
  | _ => s
def memNil : List (Nat × Nat) → St → St
  | [], s => s
  | (key, how) :: r, s => memNil r (cond (Nat.ble 1000000 key) (memNil1 ((key - 1000000) / 1000) ((key - 1000000) % 1000) (how - 2) s) s)
def clean (live : List (Nat × Nat)) (m : Nat) (s' : St) : St :=
  let s := memNil live s'
  let s0 := s.frzAll (stableTags live 0 s.tm)
  let s1 : St := { s0 with tm := keep live s0.fresh 0 s0.tm, mem := s0.mem.take m }
  s1.mapS (reF m (uniq [] (tagsOfs s1.tm ++ s1.mem.flatMap MB.tags)))
inductive Ex where
  | normal | exit (id : Nat) | ret
  deriving DecidableEq
def joinAt (L : Live) (key m : Nat) (s : St) : St := match L.2.lookup key with | some live => clean live m s | none => s
structure AJoin (K : Ex → St → Prop) (s : St) : Prop where
  out : K .normal s
def joinK (L : Live) (key m : Nat) (K : Ex → St → Prop) (s : St) : Prop := match L.2.lookup key with | some live => AJoin K (clean live m s) | none => K .normal s
theorem joinK_eq {L : Live} {key m : Nat} {K : Ex → St → Prop} {s : St} : joinK L key m K s = K .normal (joinAt L key m s) := by
  unfold joinK joinAt
  split
  · exact propext ⟨fun h => h.out, fun h => ⟨h⟩⟩
  · rfl
def loopsIn : Code → Nat
  | .seq a b => loopsIn a + loopsIn b
  | .cond _ a b => loopsIn a + loopsIn b
  | .block _ c => loopsIn c
  | .loop c => loopsIn c + 1
  | .scope c => loopsIn c
  | _ => 0
def ALoop (body : (Ex → St → Prop) → St → Prop) (cl : St → St) (K : Ex → St → Prop) (s : St) : Prop :=
  ∀ I : St → Prop, (∀ s, body (fun e s' => match e with | .normal => I (cl s') | e => K e s') s → I s) → I s
def awp (E : Env) (R : Oracle) (L : Live) : Code → Nat → St → (Ex → St → Prop) → Prop
  | .skip, _, s, K => K .normal s
  | .region id ops draw, _, s, K => cond draw (cond (drawOk E ops.toList) (aops E R ops.toList (openAt ops.toList) ops.toList 0 s fun s => joinK L (2 * id + 1) s.mem.length K s) (G (drawAft ops.toList) (aopsD E R ops.toList (ops.toList.length + 1) (List.range ops.toList.length) s fun s => joinK L (2 * id + 1) s.mem.length K s))) (aops E R ops.toList (fun _ => false) ops.toList 0 s fun s => joinK L (2 * id + 1) s.mem.length K s)
  | .seq a b, i, s, K => awp E R L a i s fun e s' => match e with
    | .normal => awp E R L b (i + loopsIn a) s' K
    | e => K e s'
  | .cond c a b, i, s, K => match ρ s.tm c with
    | .bool t => cond t (awp E R L a i s K) (awp E R L b (i + loopsIn a) s K)
    | _ => False
  | .block id c, i, s, K => awp E R L c i s fun e s' => match e with
    | .exit id' => cond (Nat.beq id' id) (joinK L (2 * id) s.mem.length K s') (K (.exit id') s')
    | .normal => joinK L (2 * id) s.mem.length K s'
    | .ret => K .ret s'
  | .loop c, i, s, K => ALoop (fun K s => awp E R L c (i + 1) s K) (clean (L.1.getD i []) s.mem.length) K (clean (L.1.getD i []) s.mem.length s)
  | .exit id, _, s, K => K (.exit id) s
  | .ret, _, s, K => K .ret s
  | .label _, _, s, K => K .normal s
  | .scope c, i, s, K => awp E R L c i s K
  | _, _, _, _ => False
def ro (xs : List (List AV)) (i : Nat) : List AV := xs.getD i []
def ce (r : List AV) (o : Nat) : AV := r.getD o .any
def stt (n : Nat) (l : List (Nat × AV)) : List AV := (List.range n).map fun i => (l.lookup i).getD .any
inductive Ctx where
  | seq (b : Code) (i : Nat)
  | block (id m : Nat)
  | loop (c : Code) (i : Nat) (live : List (Nat × Nat)) (m : Nat)
def contK (E : Env) (R : Oracle) (L : Live) : List Ctx → (Ex → St → Prop) → Ex → St → Prop
  | [], K => K
  | .seq b i :: r, K => fun e s' => match e with
    | .normal => awp E R L b i s' (contK E R L r K)
    | e => contK E R L r K e s'
  | .block id m :: r, K => fun e s' => match e with
    | .exit id' => cond (Nat.beq id' id) (joinK L (2 * id) m (contK E R L r K) s') (contK E R L r K (.exit id') s')
    | .normal => joinK L (2 * id) m (contK E R L r K) s'
    | .ret => contK E R L r K .ret s'
  | .loop c i live m :: r, K => fun e s' => match e with
    | .normal => ALoop (fun K s => awp E R L c i s K) (clean live m) (contK E R L r K) (clean live m s')
    | e => contK E R L r K e s'
def codeAt : Code → List Nat → Code
  | c, [] => c
  | .seq a _, 0 :: p => codeAt a p
  | .seq _ b, 1 :: p => codeAt b p
  | .cond _ a _, 0 :: p => codeAt a p
  | .cond _ _ b, 1 :: p => codeAt b p
  | .block _ c, _ :: p => codeAt c p
  | .loop c, _ :: p => codeAt c p
  | .scope c, _ :: p => codeAt c p
  | c, _ => c
def bodyOf (E : Env) (f : Nat) : Code := match E.fs f with | some fn => fn.body.getD .skip | none => .skip
def resAV (T : List TI) (s : St) : List ResultVar → (List AV → Prop) → Prop
  | [], K => K []
  | .tmp t :: r, K => resAV T s r fun l => K (s.tm.getD t .any :: l)
  | .cell a t :: r, K => loadAt T s.mem s.H t (s.tm.getD a .any) fun v => resAV T s r fun l => K (v :: l)
def nodupB : List Nat → Bool
  | [] => true
  | x :: r => !(r.elem x) && nodupB r
def renum (ts : List Nat) : AV → AV
  | .sl t k xs => cond (Nat.beq t 0) (.sl 0 k xs) (.sl (ts.idxOf t + 1) k xs)
  | .ep _ _ _ _ _ => .any
  | .ptr _ _ => .any
  | v => v
def retOwn : List AV → AV
  | [v] => mapT (renum (tagsOf v)) v
  | l => .tup (mapTs (renum (tagsOfs l)) l)
def retStb : List AV → AV
  | [v] => frzV v
  | l => .tup (frzVs l)
def finK (E : Env) (f : Nat) (Q : AV → Heap → Prop) : Ex → St → Prop := fun e s => match e with
  | .exit _ => False
  | _ => resAV E.T s (match E.fs f with | some fn => fn.results.toList | none => []) fun l =>
    cond (E.own f) (G (nodupB (tagsOfs l)) (Q (retOwn l) s.H)) (Q (retStb l) s.H)
def aBody (E : Env) (R : Oracle) (f : Nat) (args : List AV) (H : Heap) (Q : AV → Heap → Prop) : Prop :=
  match E.fs f with
  | none => ∃ Q' : AV → Heap → Prop, (∀ v H, Q' v H → Q v H) ∧ E.leaf f args H Q'
  | some fn => match fn.body with
    | none => False
    | some c => awp E R (E.L f) c 0 ⟨args ++ List.replicate (fn.ntmps - args.length) .any, [], H⟩ (finK E f Q)
def Call (E : Env) : Oracle := fun f args H Q =>
  ∀ R : Oracle, (∀ f args H Q, aBody E R f args H Q → R f args H Q) → R f args H Q
end Go.Proofs.YtgmkkjmdflhbnaaDoor.Ab
end
section
namespace Go.Proofs.YtgmkkjmdflhbnaaDoor.Ab
open Go
theorem G_out {b : Bool} {p : Prop} (h : G b p) : b = true ∧ p := by
  cases b
  · exact h.elim
  · exact ⟨rfl, h⟩
theorem G_in {b : Bool} {p : Prop} (hb : b = true) (h : p) : G b p := by subst hb; exact h
inductive Rep (w : World) (stb : Nat → Prop) (ob : Nat → Option Nat) : AV → Value → Prop
  | any (v : Value) : Rep w stb ob .any v
  | int (k : IntKind) (n : Int) : Rep w stb ob (.int k n) (.int k n)
  | bool (b : Bool) : Rep w stb ob (.bool b) (.bool b)
  | str (s : ByteArray) : Rep w stb ob (.str s) (.string s)
  | nilp : Rep w stb ob .nilp (.pointer none)
  | rp (b o1 o : Nat) (cs : List AV) (vs : Nat → Value) (hb : stb b) (hc : ∀ i, i < cs.length → w.cell? ⟨b, o1 + i, none⟩ = some (vs i)) (h1 : ∀ i, i < cs.length → (vs i).oneCell' = true)
      (hr : ∀ (i : Nat) (c : AV), cs[i]? = some c → Rep w stb ob c (vs i)) : Rep w stb ob (.rp cs o) (.pointer (some ⟨b, o1 + o, none⟩))
  | nilsl : Rep w stb ob .nilsl (.slice none 0 0)
  | sl0 (A : Option Addr) (c k : Nat) : Rep w stb ob (.sl 0 k []) (.slice A 0 c)
  | sl (b o c k : Nat) (xs : List (List AV)) (vs : Nat → Nat → Value) (hb : stb b) (hn : xs.length ≤ c) (hm : xs.length ≤ maxLen) (hk : ∀ x ∈ xs, x.length = k)
      (hc : ∀ i j, i < xs.length → j < k → w.cell? ⟨b, o + (i * k + j), none⟩ = some (vs i j)) (h1 : ∀ i j, i < xs.length → j < k → (vs i j).oneCell' = true)
      (hr : ∀ (i : Nat) (x : List AV) (j : Nat) (c : AV), xs[i]? = some x → x[j]? = some c → Rep w stb ob c (vs i j)) : Rep w stb ob (.sl 0 k xs) (.slice (some ⟨b, o, none⟩) xs.length c)
  | fn (f : Nat) (cs : List AV) (vs : List Value) (hl : cs.length = vs.length) (hr : ∀ (i : Nat) (c : AV) (v : Value), cs[i]? = some c → vs[i]? = some v → Rep w stb ob c v) : Rep w stb ob (.fn f cs) (.func (.func f) #[] vs.toArray)
  | nilfn : Rep w stb ob .nilfn .nilFunc
  | iface (t : Nat) (a : AV) (v : Value) (h : Rep w stb ob a v) : Rep w stb ob (.iface t a) (.iface t v)
  | niliface : Rep w stb ob .niliface .nilIface
  | agg (cs : List AV) (vs : List Value) (hl : cs.length = vs.length) (hr : ∀ (i : Nat) (c : AV) (v : Value), cs[i]? = some c → vs[i]? = some v → Rep w stb ob c v) : Rep w stb ob (.agg cs) (.agg vs.toArray)
  | tup (cs : List AV) (vs : List Value) (hl : cs.length = vs.length) (hr : ∀ (i : Nat) (c : AV) (v : Value), cs[i]? = some c → vs[i]? = some v → Rep w stb ob c v) : Rep w stb ob (.tup cs) (.tuple vs.toArray)
  | obj (j b o : Nat) (h : ob j = some b) : Rep w stb ob (.obj j o) (.pointer (some ⟨b, o, none⟩))
  | map (j b : Nat) (h : ob j = some b) : Rep w stb ob (.map j) (.map (some b))
  | nilmap : Rep w stb ob .nilmap (.map none)
  | hs (j b o n c k q : Nat) (h : ob j = some b) (hn : n ≤ c) (hm : c ≤ maxLen) (hq : (c = 0 ∧ o ≠ 0) ∨ q = o * k) : Rep w stb ob (.hs j o n c k) (.slice (some ⟨b, q, none⟩) n c)
  | he (j b k i o : Nat) (h : ob j = some b) : Rep w stb ob (.he j k i o) (.pointer (some ⟨b, i * k + o, none⟩))
theorem cell_same {w w' : World} {b o : Nat} (h : w'.heap[b]? = w.heap[b]?) : w'.cell? ⟨b, o, none⟩ = w.cell? ⟨b, o, none⟩ := World.cell?_of_block (a := ⟨b, o, none⟩) h
theorem Rep.mono {w w' : World} {stb stb' : Nat → Prop} {ob ob' : Nat → Option Nat} (hw : ∀ b, stb b → w'.heap[b]? = w.heap[b]?) (hs : ∀ b, stb b → stb' b)
    (ho : ∀ j b, ob j = some b → ob' j = some b) {a : AV} {v : Value} (h : Rep w stb ob a v) : Rep w' stb' ob' a v := by
  induction h with
  | any v => exact .any v
  | int k n => exact .int k n
  | bool b => exact .bool b
  | str s => exact .str s
  | nilp => exact .nilp
  | rp b o1 o cs vs hb hc h1 hr ih => exact .rp b o1 o cs vs (hs b hb) (fun i hi => (cell_same (hw b hb)).trans (hc i hi)) h1 ih
  | nilsl => exact .nilsl
  | sl0 A c k => exact .sl0 A c k
  | sl b o c k xs vs hb hn hm hk hc h1 hr ih => exact .sl b o c k xs vs (hs b hb) hn hm hk (fun i j hi hj => (cell_same (hw b hb)).trans (hc i j hi hj)) h1 ih
  | fn f cs vs hl hr ih => exact .fn f cs vs hl ih
  | nilfn => exact .nilfn
  | iface t a v h ih => exact .iface t a v ih
  | niliface => exact .niliface
  | agg cs vs hl hr ih => exact .agg cs vs hl ih
  | tup cs vs hl hr ih => exact .tup cs vs hl ih
  | obj j b o h => exact .obj j b o (ho j b h)
  | map j b h => exact .map j b (ho j b h)
  | nilmap => exact .nilmap
  | hs j b o n c k q h hn hm hq => exact .hs j b o n c k q (ho j b h) hn hm hq
  | he j b k i o h => exact .he j b k i o (ho j b h)
structure Gs where
  stb : Nat → Prop
  ob : Nat → Option Nat
  foot : Nat → Prop
structure Gl where
  loc : Nat → Nat
  xv : Nat → Value
  xc : Nat → List (List AV)
  xk : Nat → Nat
mutual
def TRep (g : Gs) (l : Gl) (w : World) (n : Nat) : AV → Value → Prop
  | .sl 0 k xs, v => Rep w g.stb g.ob (.sl 0 k xs) v
  | .sl (t + 1) k xs, v => v = l.xv (t + 1) ∧ xs = l.xc (t + 1) ∧ k = l.xk (t + 1)
  | .ep t k i o xs, v => xs = l.xc t ∧ k = l.xk t ∧ t ≠ 0 ∧ i < xs.length ∧ ∃ b m c, l.xv t = .slice (some ⟨b, 0, none⟩) m c ∧ v = .pointer (some ⟨b, i * k + o, none⟩)
  | .ptr j o, v => j < n ∧ v = .pointer (some ⟨l.loc j, o, none⟩)
  | .agg cs, v => ∃ vs : List Value, v = .agg vs.toArray ∧ TReps g l w n cs vs
  | .tup cs, v => ∃ vs : List Value, v = .tuple vs.toArray ∧ TReps g l w n cs vs
  | .iface t a, v => ∃ u, v = .iface t u ∧ TRep g l w n a u
  | .any, _ => True
  | .int k m, v => v = .int k m
  | .bool b, v => v = .bool b
  | .str s, v => v = .string s
  | .nilp, v => v = .pointer none
  | .rp cs o, v => Rep w g.stb g.ob (.rp cs o) v
  | .nilsl, v => v = .slice none 0 0
  | .fn f cap, v => Rep w g.stb g.ob (.fn f cap) v
  | .nilfn, v => v = .nilFunc
  | .niliface, v => v = .nilIface
  | .obj j o, v => Rep w g.stb g.ob (.obj j o) v
  | .map j, v => Rep w g.stb g.ob (.map j) v
  | .nilmap, v => v = .map none
  | .hs j o n c k, v => Rep w g.stb g.ob (.hs j o n c k) v
  | .he j k i o, v => Rep w g.stb g.ob (.he j k i o) v
def TReps (g : Gs) (l : Gl) (w : World) (n : Nat) : List AV → List Value → Prop
  | [], [] => True
  | c :: cs, v :: vs => TRep g l w n c v ∧ TReps g l w n cs vs
  | _, _ => False
end
section
variable {g g' : Gs} {l l' : Gl} {w w' : World} {n n' : Nat}
theorem TReps.length : ∀ {cs : List AV} {vs : List Value}, TReps g l w n cs vs → cs.length = vs.length
  | [], [], _ => rfl
  | _ :: cs, _ :: vs, h => by simp only [TReps] at h; simp [TReps.length h.2]
  | [], _ :: _, h => by simp [TReps] at h
  | _ :: _, [], h => by simp [TReps] at h
theorem TReps.get : ∀ {cs : List AV} {vs : List Value}, TReps g l w n cs vs → ∀ {i : Nat} {c : AV}, cs[i]? = some c → ∃ v, vs[i]? = some v ∧ TRep g l w n c v
  | [], [], _, i, c, h => by simp at h
  | c0 :: cs, v0 :: vs, h, i, c, hc => by
    simp only [TReps] at h
    cases i with
    | zero => simp at hc; subst hc; exact ⟨v0, by simp, h.1⟩
    | succ i => simp at hc ⊢; exact TReps.get h.2 hc
  | [], _ :: _, h, _, _, _ => by simp [TReps] at h
  | _ :: _, [], h, _, _, _ => by simp [TReps] at h
theorem TReps.mk : ∀ {cs : List AV} {vs : List Value}, cs.length = vs.length → (∀ (i : Nat) (c : AV) (v : Value), cs[i]? = some c → vs[i]? = some v → TRep g l w n c v) → TReps g l w n cs vs
  | [], [], _, _ => by simp [TReps]
  | c :: cs, v :: vs, hl, h => by
    simp only [TReps]
    exact ⟨h 0 c v (by simp) (by simp), TReps.mk (by simpa using hl) fun i c' v' hc hv => h (i + 1) c' v' (by simpa using hc) (by simpa using hv)⟩
  | [], _ :: _, hl, _ => by simp at hl
  | _ :: _, [], hl, _ => by simp at hl
theorem TReps.of {cs : List AV} {vs : List Value} (h : TReps g l w n cs vs) : ∀ (i : Nat) (c : AV) (v : Value), cs[i]? = some c → vs[i]? = some v → TRep g l w n c v := by
  intro i c v hc hv
  obtain ⟨v', hv', hr⟩ := h.get hc
  rw [hv] at hv'
  cases hv'
  exact hr
theorem TReps.set {cs : List AV} {vs : List Value} (h : TReps g l w n cs vs) {c : AV} {v : Value} (hr : TRep g l w n c v) (d : Nat) : TReps g l w n (cs.set d c) (vs.set d v) := by
  refine .mk (by simp [h.length]) fun i c' v' hc hv => ?_
  rw [List.getElem?_set] at hc hv
  by_cases e : d = i
  · subst e
    simp only [if_true] at hc hv
    split at hc
    · split at hv
      · cases hc; cases hv; exact hr
      · cases hv
    · cases hc
  · simp only [e, if_false] at hc hv
    exact h.of i c' v' hc hv
theorem TReps.append {cs cs' : List AV} {vs vs' : List Value} (h : TReps g l w n cs vs) (h' : TReps g l w n cs' vs') : TReps g l w n (cs ++ cs') (vs ++ vs') := by
  have hl := h.length
  refine .mk (by simp [hl, h'.length]) fun i c v hc hv => ?_
  rw [List.getElem?_append] at hc hv
  by_cases e : i < cs.length
  · rw [if_pos e] at hc; rw [if_pos (by omega)] at hv; exact h.of i c v hc hv
  · rw [if_neg e] at hc; rw [if_neg (by omega)] at hv; rw [← hl] at hv; exact h'.of _ c v hc hv
theorem TRep.of_rep : ∀ {a : AV} {v : Value}, Rep w g.stb g.ob a v → TRep g l w n a v := by
  intro a v h
  induction h with
  | agg cs vs hl hr ih => exact ⟨vs, rfl, .mk hl fun i c v hc hv => ih i c v hc hv⟩
  | tup cs vs hl hr ih => exact ⟨vs, rfl, .mk hl fun i c v hc hv => ih i c v hc hv⟩
  | iface t a v h ih => exact ⟨v, rfl, ih⟩
  | rp b o1 o cs vs hb hc h1 hr => simp only [TRep]; exact .rp b o1 o cs vs hb hc h1 hr
  | sl b o c k xs vs hb hn hm hk hc h1 hr => simp only [TRep]; exact .sl b o c k xs vs hb hn hm hk hc h1 hr
  | sl0 A c k => simp only [TRep]; exact .sl0 A c k
  | fn f cs vs hl hr => simp only [TRep]; exact .fn f cs vs hl hr
  | obj j b o h => simp only [TRep]; exact .obj j b o h
  | map j b h => simp only [TRep]; exact .map j b h
  | hs j b o n c k q h hn hm hq => simp only [TRep]; exact .hs j b o n c k q h hn hm hq
  | he j b k i o h => simp only [TRep]; exact .he j b k i o h
  | _ => simp only [TRep]
mutual
theorem TRep.mono (hw : ∀ b, g.stb b → w'.heap[b]? = w.heap[b]?) (hs : ∀ b, g.stb b → g'.stb b) (ho : ∀ j b, g.ob j = some b → g'.ob j = some b)
    (hloc : ∀ j, j < n → l'.loc j = l.loc j) (hn : n ≤ n') : ∀ (a : AV) (v : Value), (∀ t ∈ tagsOf a, l'.xv t = l.xv t ∧ l'.xc t = l.xc t ∧ l'.xk t = l.xk t) → TRep g l w n a v → TRep g' l' w' n' a v
  | .sl 0 k xs, v, _, h => by simp only [TRep] at h ⊢; exact h.mono hw hs ho
  | .sl (t + 1) k xs, v, ht, h => by
    simp only [TRep] at h ⊢
    obtain ⟨h1, h2, h3⟩ := ht (t + 1) (by simp [tagsOf, Nat.beq])
    rw [h1, h2, h3]
    exact h
  | .ep t k i o xs, v, ht, h => by
    simp only [TRep] at h ⊢
    obtain ⟨h1, h2, h3⟩ := ht t (by simp [tagsOf])
    rw [h1, h2, h3]
    exact h
  | .ptr j o, v, _, h => by
    simp only [TRep] at h ⊢
    rw [hloc j h.1]
    exact ⟨by omega, h.2⟩
  | .agg cs, v, ht, h => by
    simp only [TRep] at h ⊢
    obtain ⟨vs, rfl, h⟩ := h
    exact ⟨vs, rfl, TReps.mono hw hs ho hloc hn cs vs (fun t h => ht t (by simpa [tagsOf] using h)) h⟩
  | .tup cs, v, ht, h => by
    simp only [TRep] at h ⊢
    obtain ⟨vs, rfl, h⟩ := h
    exact ⟨vs, rfl, TReps.mono hw hs ho hloc hn cs vs (fun t h => ht t (by simpa [tagsOf] using h)) h⟩
  | .iface t a, v, ht, h => by
    simp only [TRep] at h ⊢
    obtain ⟨u, rfl, h⟩ := h
    exact ⟨u, rfl, TRep.mono hw hs ho hloc hn a u (fun t h => ht t (by simpa [tagsOf] using h)) h⟩
  | .rp cs o, v, _, h => by simp only [TRep] at h ⊢; exact h.mono hw hs ho
  | .fn f cap, v, _, h => by simp only [TRep] at h ⊢; exact h.mono hw hs ho
  | .obj j o, v, _, h => by simp only [TRep] at h ⊢; exact h.mono hw hs ho
  | .map j, v, _, h => by simp only [TRep] at h ⊢; exact h.mono hw hs ho
  | .any, v, _, h => by simp only [TRep]
  | .int k m, v, _, h => by simp only [TRep] at h ⊢; exact h
  | .bool b, v, _, h => by simp only [TRep] at h ⊢; exact h
  | .str s, v, _, h => by simp only [TRep] at h ⊢; exact h
  | .nilp, v, _, h => by simp only [TRep] at h ⊢; exact h
  | .nilsl, v, _, h => by simp only [TRep] at h ⊢; exact h
  | .nilfn, v, _, h => by simp only [TRep] at h ⊢; exact h
  | .niliface, v, _, h => by simp only [TRep] at h ⊢; exact h
  | .nilmap, v, _, h => by simp only [TRep] at h ⊢; exact h
  | .hs j o n c k, v, _, h => by simp only [TRep] at h ⊢; exact h.mono hw hs ho
  | .he j k i o, v, _, h => by simp only [TRep] at h ⊢; exact h.mono hw hs ho
theorem TReps.mono (hw : ∀ b, g.stb b → w'.heap[b]? = w.heap[b]?) (hs : ∀ b, g.stb b → g'.stb b) (ho : ∀ j b, g.ob j = some b → g'.ob j = some b)
    (hloc : ∀ j, j < n → l'.loc j = l.loc j) (hn : n ≤ n') : ∀ (cs : List AV) (vs : List Value), (∀ t ∈ tagsOfs cs, l'.xv t = l.xv t ∧ l'.xc t = l.xc t ∧ l'.xk t = l.xk t) → TReps g l w n cs vs → TReps g' l' w' n' cs vs
  | [], [], _, _ => by simp [TReps]
  | c :: cs, v :: vs, ht, h => by
    simp only [TReps] at h ⊢
    exact ⟨TRep.mono hw hs ho hloc hn c v (fun t h => ht t (by simp [tagsOfs, h])) h.1, TReps.mono hw hs ho hloc hn cs vs (fun t h => ht t (by simp [tagsOfs, h])) h.2⟩
  | [], _ :: _, _, h => by simp [TReps] at h
  | _ :: _, [], _, h => by simp [TReps] at h
end
end
end Go.Proofs.YtgmkkjmdflhbnaaDoor.Ab
end
section
namespace Go.Proofs.YtgmkkjmdflhbnaaDoor.Ab
open Go
structure Ext (w0 : World) (g0 : Gs) (w : World) (g : Gs) : Prop where
  os : w.os = w0.os
  tape : w.tape = w0.tape
  output : w.output = w0.output
  size : w0.heap.size ≤ w.heap.size
  keep : ∀ b, b < w0.heap.size → ¬ g0.foot b → w.heap[b]? = w0.heap[b]?
  stb : ∀ b, g0.stb b → g.stb b
  stbNew : ∀ b, g.stb b → g0.stb b ∨ w0.heap.size ≤ b ∨ g0.foot b
  ob : ∀ j b, g0.ob j = some b → g.ob j = some b
  footNew : ∀ b, g.foot b → g0.foot b ∨ w0.heap.size ≤ b
theorem Ext.refl (w : World) (g : Gs) : Ext w g w g := ⟨rfl, rfl, rfl, Nat.le_refl _, fun _ _ _ => rfl, fun _ h => h, fun _ h => .inl h, fun _ _ h => h, fun _ h => .inl h⟩
theorem Ext.trans {w0 w1 w2 : World} {g0 g1 g2 : Gs} (h : Ext w0 g0 w1 g1) (k : Ext w1 g1 w2 g2) : Ext w0 g0 w2 g2 where
  os := k.os.trans h.os
  tape := k.tape.trans h.tape
  output := k.output.trans h.output
  size := Nat.le_trans h.size k.size
  keep b hb hf := by
    have h1 : ¬ g1.foot b := fun h1 => by rcases h.footNew b h1 with h2 | h2; · exact hf h2
                                          · omega
    exact (k.keep b (Nat.lt_of_lt_of_le hb h.size) h1).trans (h.keep b hb hf)
  stb b hb := k.stb b (h.stb b hb)
  stbNew b hb := by
    rcases k.stbNew b hb with h1 | h1 | h1
    · exact h.stbNew b h1
    · exact .inr (.inl (Nat.le_trans h.size h1))
    · rcases h.footNew b h1 with h2 | h2
      · exact .inr (.inr h2)
      · exact .inr (.inl h2)
  ob j b hb := k.ob j b (h.ob j b hb)
  footNew b hb := by
    rcases k.footNew b hb with h1 | h1
    · exact h.footNew b h1
    · exact .inr (Nat.le_trans h.size h1)
def HRep (g : Gs) (w : World) (b : Nat) : HB → Prop
  | .dead => True
  | .cells cs => ∃ vs e, w.heap[b]? = some (.cells (List.toArray vs) e (0, 0)) ∧ vs.length = cs.length ∧ (∀ u ∈ vs, u.oneCell' = true) ∧
      ∀ (i : Nat) (c : AV) (v : Value), cs[i]? = some c → vs[i]? = some v → Rep w g.stb g.ob c v
  | .map es c => ∃ vs : List MapEntry, w.heap[b]? = some (.map vs.toArray c) ∧ vs.length = es.length ∧ ∀ (i : Nat) (a : Nat × AV × AV) (v : MapEntry), es[i]? = some a → vs[i]? = some v → v.born = a.1 ∧ Rep w g.stb g.ob a.2.1 v.key ∧ Rep w g.stb g.ob a.2.2 v.val
  | .rows k xs => ∃ vs e, w.heap[b]? = some (.cells (List.toArray vs) e (0, 0)) ∧ vs.length = xs.length * k ∧ 0 < k ∧ xs.length ≤ maxLen ∧ (∀ x ∈ xs, x.length = k) ∧ (∀ u ∈ vs, u.oneCell' = true) ∧
      ∀ (i : Nat) (x : List AV) (j : Nat) (c : AV), xs[i]? = some x → x[j]? = some c → ∃ v, vs[i * k + j]? = some v ∧ Rep w g.stb g.ob c v
def FixAt (w : World) (p : Nat × IntKind × List Int) : Prop := ∃ e fr, w.heap[p.1]? = some (.cells (p.2.2.map fun n => Value.int p.2.1 n).toArray e fr)
theorem FixAt.mono {w w' : World} {p : Nat × IntKind × List Int} (h : FixAt w p) (hw : w'.heap[p.1]? = w.heap[p.1]?) : FixAt w' p := let ⟨e, fr, q⟩ := h; ⟨e, fr, hw.trans q⟩
theorem FixAt.cell {w : World} {p : Nat × IntKind × List Int} (h : FixAt w p) {i : Nat} {n : Int} (hi : p.2.2[i]? = some n) : w.cell? ⟨p.1, i, none⟩ = some (.int p.2.1 n) := by
  obtain ⟨e, fr, q⟩ := h
  simp [World.cell?, q, hi]
structure HOK (g : Gs) (w : World) (H : Heap) : Prop where
  lt : ∀ j b, g.ob j = some b → j < H.next
  top : ∀ j, H.next ≤ j → H.get j = .dead
  live : ∀ j, H.get j ≠ .dead → ∃ b, g.ob j = some b ∧ g.foot b ∧ b < w.heap.size ∧ HRep g w b (H.get j)
  inj : ∀ i j b, H.get i ≠ .dead → H.get j ≠ .dead → g.ob i = some b → g.ob j = some b → i = j
  foot : ∀ b, g.foot b → ∃ j, H.get j ≠ .dead ∧ g.ob j = some b
  fx : ∀ p ∈ fxT, g.stb p.1 ∧ FixAt w p
theorem HRep.mono {g g' : Gs} {w w' : World} {b : Nat} {x : HB} (h : HRep g w b x) (hb : w'.heap[b]? = w.heap[b]?) (hw : ∀ b, g.stb b → w'.heap[b]? = w.heap[b]?) (hs : ∀ b, g.stb b → g'.stb b) (ho : ∀ j b, g.ob j = some b → g'.ob j = some b) : HRep g' w' b x := by
  cases x with
  | dead => trivial
  | cells cs =>
    obtain ⟨vs, e, h1, h2, h3, h4⟩ := h
    exact ⟨vs, e, hb.trans h1, h2, h3, fun i c v hc hv => (h4 i c v hc hv).mono hw hs ho⟩
  | map es c =>
    obtain ⟨vs, h1, h2, h3⟩ := h
    exact ⟨vs, hb.trans h1, h2, fun i a v ha hv => ⟨(h3 i a v ha hv).1, (h3 i a v ha hv).2.1.mono hw hs ho, (h3 i a v ha hv).2.2.mono hw hs ho⟩⟩
  | rows k xs =>
    obtain ⟨vs, e, h1, h2, h3, h4, h5, h6, h7⟩ := h
    exact ⟨vs, e, hb.trans h1, h2, h3, h4, h5, h6, fun i x j c hx hc => let ⟨v, hv, hr⟩ := h7 i x j c hx hc; ⟨v, hv, hr.mono hw hs ho⟩⟩
theorem HOK.foot_lt {g : Gs} {w : World} {H : Heap} (h : HOK g w H) {b : Nat} (hb : g.foot b) : b < w.heap.size := by
  obtain ⟨j, hj, ho⟩ := h.foot b hb
  obtain ⟨b', ho', _, hlt, _⟩ := h.live j hj
  rw [ho] at ho'
  cases ho'
  exact hlt
theorem HOK.mono {g g' : Gs} {w w' : World} {H : Heap} (h : HOK g w H) (hk : ∀ b, g.foot b → w'.heap[b]? = w.heap[b]?) (hw : ∀ b, g.stb b → w'.heap[b]? = w.heap[b]?) (hs : ∀ b, g.stb b → g'.stb b)
    (ho : g'.ob = g.ob) (hf : g'.foot = g.foot) (hsize : w.heap.size ≤ w'.heap.size) : HOK g' w' H where
  lt j b hj := h.lt j b (by rw [← ho]; exact hj)
  top := h.top
  live j hj := by
    obtain ⟨b, h1, h2, h3, h4⟩ := h.live j hj
    exact ⟨b, by rw [ho]; exact h1, by rw [hf]; exact h2, by omega, h4.mono (hk b h2) hw hs (fun j b h => by rw [ho]; exact h)⟩
  inj i j b hi hj h1 h2 := h.inj i j b hi hj (by rw [← ho]; exact h1) (by rw [← ho]; exact h2)
  foot b hb := by
    obtain ⟨j, h1, h2⟩ := h.foot b (by rw [← hf]; exact hb)
    exact ⟨j, h1, by rw [ho]; exact h2⟩
  fx p hp := ⟨hs _ (h.fx p hp).1, (h.fx p hp).2.mono (hw _ (h.fx p hp).1)⟩
def AllOne (w : World) (v : Value) : Prop := ∀ b cs e fr, v.ownBlock = some b → w.heap[b]? = some (.cells cs e fr) → ∀ u ∈ cs.toList, u.oneCell' = true
def OwnT (base : Nat) (g : Gs) (l : Gl) (w : World) (t : Nat) : Prop :=
  ∃ e fl, w.ownsRow base e (l.xk t) (l.xv t) (l.xc t).length fl ∧ (0 < l.xk t ∧ AllOne w (l.xv t)) ∧ (∀ x ∈ l.xc t, x.length = l.xk t) ∧ (∀ u ∈ fl, u.oneCell' = true) ∧
    ∀ (i : Nat) (x : List AV) (j : Nat) (c : AV), (l.xc t)[i]? = some x → x[j]? = some c → ∃ v, fl[i * l.xk t + j]? = some v ∧ Rep w g.stb g.ob c v
def BRep (g : Gs) (l : Gl) (w : World) (n b : Nat) : MB → Prop
  | .cells cs => ∃ vs e, w.heap[b]? = some (.cells (List.toArray vs) e (0, 0)) ∧ TReps g l w n cs vs ∧ ∀ u ∈ vs, u.oneCell' = true
  | .frz cs => g.stb b ∧ ∃ vs : Nat → Value, (∀ i, i < cs.length → w.cell? ⟨b, i, none⟩ = some (vs i)) ∧ (∀ i, i < cs.length → (vs i).oneCell' = true) ∧ ∀ (i : Nat) (c : AV), cs[i]? = some c → Rep w g.stb g.ob c (vs i)
  | .siter s pos => w.heap[b]? = some (.stringIter s pos)
  | .miter j _ _ since stepped seen => ∃ b', w.heap[b]? = some (.mapIter (some b') since (List.toArray seen.reverse) stepped) ∧ g.ob j = some b' ∧ since ≤ stepped
  | .dead => False
def MB.mine : MB → Bool | .frz _ => false | .dead => false | _ => true
structure Inv (w0 : World) (g0 : Gs) (g : Gs) (l : Gl) (w : World) (st : St) (a : Act) : Prop where
  defers : a.defers = []
  tm : TReps g l w st.mem.length st.tm a.tmps.toList
  mem : ∀ (j : Nat) (mb : MB), st.mem[j]? = some mb → BRep g l w st.mem.length (l.loc j) mb
  own : ∀ t ∈ st.tags, OwnT w0.heap.size g l w t
  priv : ∀ (j : Nat) (mb : MB), st.mem[j]? = some mb → mb.mine = true → w0.heap.size ≤ l.loc j ∧ l.loc j < w.heap.size ∧ ¬ g.stb (l.loc j) ∧ ¬ g.foot (l.loc j)
  inj : ∀ (i j : Nat) (mb : MB), st.mem[i]? = some mb → mb.mine = true → j < st.mem.length → l.loc i = l.loc j → i = j
  ownPriv : ∀ t ∈ st.tags, ∀ b, (l.xv t).ownBlock = some b → ¬ g.stb b ∧ ¬ g.foot b ∧ ∀ j, j < st.mem.length → l.loc j ≠ b
  ownInj : ∀ t ∈ st.tags, ∀ u ∈ st.tags, ∀ b, (l.xv t).ownBlock = some b → (l.xv u).ownBlock = some b → t = u
  heap : HOK g w st.H
  ext : Ext w0 g0 w g
  stbLt : ∀ b, g.stb b → b < w.heap.size ∧ ¬ g.foot b
def leaf : AV → Bool
  | .agg _ => false
  | .tup _ => false
  | .iface _ _ => false
  | _ => true
section
variable {f : AV → AV} {p : Nat → Prop}
mutual
theorem mapT_tags (hf : ∀ c, leaf c = true → ∀ u ∈ tagsOf (f c), u ∈ tagsOf c ∧ p u) : ∀ a : AV, ∀ u ∈ tagsOf (mapT f a), u ∈ tagsOf a ∧ p u
  | .agg cs, u, h => by simp only [mapT, tagsOf] at h ⊢; exact mapTs_tags hf cs u h
  | .tup cs, u, h => by simp only [mapT, tagsOf] at h ⊢; exact mapTs_tags hf cs u h
  | .iface _ v, u, h => by simp only [mapT, tagsOf] at h ⊢; exact mapT_tags hf v u h
  | .sl t k xs, u, h => hf _ rfl u h
  | .ep t k i o xs, u, h => hf _ rfl u h
  | .any, u, h => hf _ rfl u h
  | .int k m, u, h => hf _ rfl u h
  | .bool b, u, h => hf _ rfl u h
  | .str s, u, h => hf _ rfl u h
  | .nilp, u, h => hf _ rfl u h
  | .ptr j o, u, h => hf _ rfl u h
  | .rp cs o, u, h => hf _ rfl u h
  | .nilsl, u, h => hf _ rfl u h
  | .fn f c, u, h => hf _ rfl u h
  | .nilfn, u, h => hf _ rfl u h
  | .niliface, u, h => hf _ rfl u h
  | .obj j o, u, h => hf _ rfl u h
  | .map j, u, h => hf _ rfl u h
  | .nilmap, u, h => hf _ rfl u h
  | .hs _ _ _ _ _, u, h => hf _ rfl u h
  | .he _ _ _ _, u, h => hf _ rfl u h
theorem mapTs_tags (hf : ∀ c, leaf c = true → ∀ u ∈ tagsOf (f c), u ∈ tagsOf c ∧ p u) : ∀ cs : List AV, ∀ u ∈ tagsOfs (mapTs f cs), u ∈ tagsOfs cs ∧ p u
  | [], u, h => by simp [mapTs, tagsOfs] at h
  | c :: cs, u, h => by
    simp only [mapTs, tagsOfs, List.mem_append] at h ⊢
    rcases h with h | h
    · exact ⟨.inl (mapT_tags hf c u h).1, (mapT_tags hf c u h).2⟩
    · exact ⟨.inr (mapTs_tags hf cs u h).1, (mapTs_tags hf cs u h).2⟩
end
variable {g g' : Gs} {l l' : Gl} {w w' : World} {n n' : Nat} {S : List Nat}
mutual
theorem mapT_rep (hf : ∀ c v, leaf c = true → (∀ t ∈ tagsOf c, t ∈ S) → TRep g l w n c v → TRep g' l' w' n' (f c) v) : ∀ (a : AV) (v : Value), (∀ t ∈ tagsOf a, t ∈ S) → TRep g l w n a v → TRep g' l' w' n' (mapT f a) v
  | .agg cs, v, ht, h => by
    simp only [mapT, TRep] at h ⊢
    obtain ⟨vs, rfl, h⟩ := h
    exact ⟨vs, rfl, mapTs_rep hf cs vs (fun t h => ht t (by simpa [tagsOf] using h)) h⟩
  | .tup cs, v, ht, h => by
    simp only [mapT, TRep] at h ⊢
    obtain ⟨vs, rfl, h⟩ := h
    exact ⟨vs, rfl, mapTs_rep hf cs vs (fun t h => ht t (by simpa [tagsOf] using h)) h⟩
  | .iface _ b, v, ht, h => by
    simp only [mapT, TRep] at h ⊢
    obtain ⟨u, rfl, h⟩ := h
    exact ⟨u, rfl, mapT_rep hf b u (fun t h => ht t (by simpa [tagsOf] using h)) h⟩
  | .sl t k xs, v, ht, h => hf _ v rfl ht h
  | .ep t k i o xs, v, ht, h => hf _ v rfl ht h
  | .any, v, ht, h => hf _ v rfl ht h
  | .int k m, v, ht, h => hf _ v rfl ht h
  | .bool b, v, ht, h => hf _ v rfl ht h
  | .str s, v, ht, h => hf _ v rfl ht h
  | .nilp, v, ht, h => hf _ v rfl ht h
  | .ptr j o, v, ht, h => hf _ v rfl ht h
  | .rp cs o, v, ht, h => hf _ v rfl ht h
  | .nilsl, v, ht, h => hf _ v rfl ht h
  | .fn f c, v, ht, h => hf _ v rfl ht h
  | .nilfn, v, ht, h => hf _ v rfl ht h
  | .niliface, v, ht, h => hf _ v rfl ht h
  | .obj j o, v, ht, h => hf _ v rfl ht h
  | .map j, v, ht, h => hf _ v rfl ht h
  | .nilmap, v, ht, h => hf _ v rfl ht h
  | .hs _ _ _ _ _, v, ht, h => hf _ v rfl ht h
  | .he _ _ _ _, v, ht, h => hf _ v rfl ht h
theorem mapTs_rep (hf : ∀ c v, leaf c = true → (∀ t ∈ tagsOf c, t ∈ S) → TRep g l w n c v → TRep g' l' w' n' (f c) v) : ∀ (cs : List AV) (vs : List Value), (∀ t ∈ tagsOfs cs, t ∈ S) → TReps g l w n cs vs → TReps g' l' w' n' (mapTs f cs) vs
  | [], [], _, _ => by simp [mapTs, TReps]
  | c :: cs, v :: vs, ht, h => by
    simp only [mapTs, TReps] at h ⊢
    exact ⟨mapT_rep hf c v (fun t h => ht t (by simp [tagsOfs, h])) h.1, mapTs_rep hf cs vs (fun t h => ht t (by simp [tagsOfs, h])) h.2⟩
  | [], _ :: _, _, h => by simp [TReps] at h
  | _ :: _, [], _, h => by simp [TReps] at h
end
end
theorem mapTs_length (f : AV → AV) : ∀ cs : List AV, (mapTs f cs).length = cs.length
  | [] => rfl
  | _ :: cs => by simp [mapTs, mapTs_length f cs]
theorem mapTs_get (f : AV → AV) : ∀ (cs : List AV) (i : Nat), (mapTs f cs)[i]? = (cs[i]?).map (mapT f)
  | [], i => by simp [mapTs]
  | c :: cs, 0 => by simp [mapTs]
  | c :: cs, i + 1 => by simp [mapTs, mapTs_get f cs i]
theorem killF_tags (t : Nat) : ∀ c, leaf c = true → ∀ u ∈ tagsOf (killF t c), u ∈ tagsOf c ∧ u ≠ t := by
  intro c hc u h
  cases c <;> try (simp only [killF] at h; simp [tagsOf] at h; done)
  case sl t' k xs =>
    simp only [killF] at h
    cases e : Nat.beq t' t <;> rw [e] at h
    · refine ⟨h, fun hh => ?_⟩
      subst hh
      simp only [cond_false, tagsOf] at h
      cases e0 : Nat.beq t' 0 <;> rw [e0] at h <;> simp at h
      subst h
      simp at e
    · simp [tagsOf] at h
  case ep t' k i o xs =>
    simp only [killF] at h
    cases e : Nat.beq t' t <;> rw [e] at h
    · refine ⟨h, fun hh => ?_⟩
      subst hh
      simp only [cond_false, tagsOf, List.mem_singleton] at h
      subst h
      simp at e
    · simp [tagsOf] at h
  all_goals simp_all [leaf]
theorem mem_foldl_max : ∀ (ts : List Nat) (m : Nat), m ≤ ts.foldl Nat.max m ∧ ∀ t ∈ ts, t ≤ ts.foldl Nat.max m
  | [], m => by simp
  | t :: ts, m => by
    have h := mem_foldl_max ts (Nat.max m t)
    simp only [List.foldl_cons, List.mem_cons, forall_eq_or_imp]
    have h1 : m ≤ Nat.max m t := Nat.le_max_left m t
    have h2 : t ≤ Nat.max m t := Nat.le_max_right m t
    exact ⟨Nat.le_trans h1 h.1, Nat.le_trans h2 h.1, h.2⟩
theorem fresh_not (s : St) (k : Nat) : s.fresh + k ∉ s.tags := by
  intro h
  have := (mem_foldl_max s.tags 0).2 _ h
  unfold St.fresh at this
  omega
theorem fresh_pos (s : St) : 0 < s.fresh := by unfold St.fresh; omega
theorem tags_tm {s : St} {t : Nat} (h : t ∈ tagsOfs s.tm) : t ∈ s.tags := by simp [St.tags, h]
theorem tags_mem {s : St} {t j : Nat} {mb : MB} (h : s.mem[j]? = some mb) (ht : t ∈ mb.tags) : t ∈ s.tags := by
  simp only [St.tags, List.mem_append, List.mem_flatMap]
  exact .inr ⟨mb, List.mem_of_getElem? h, ht⟩
theorem tagsOfs_get : ∀ {cs : List AV} {i : Nat} {c : AV}, cs[i]? = some c → ∀ t ∈ tagsOf c, t ∈ tagsOfs cs
  | [], i, c, h => by simp at h
  | c0 :: cs, 0, c, h => by simp at h; subst h; intro t ht; simp [tagsOfs, ht]
  | c0 :: cs, i + 1, c, h => by
    intro t ht
    simp only [tagsOfs, List.mem_append]
    exact .inr (tagsOfs_get (by simpa using h) t ht)
theorem tagsOfs_iff : ∀ {cs : List AV} {t : Nat}, t ∈ tagsOfs cs → ∃ (i : Nat) (c : AV), cs[i]? = some c ∧ t ∈ tagsOf c
  | [], t, h => by simp [tagsOfs] at h
  | c :: cs, t, h => by
    simp only [tagsOfs, List.mem_append] at h
    rcases h with h | h
    · exact ⟨0, c, by simp, h⟩
    · obtain ⟨i, c', hc, ht⟩ := tagsOfs_iff h
      exact ⟨i + 1, c', by simpa using hc, ht⟩
theorem tagsOfs_set {cs : List AV} {d : Nat} {c : AV} {t : Nat} (h : t ∈ tagsOfs (cs.set d c)) : t ∈ tagsOfs cs ∨ t ∈ tagsOf c := by
  obtain ⟨i, c', hc, ht⟩ := tagsOfs_iff h
  rw [List.getElem?_set] at hc
  split at hc
  · split at hc
    · cases hc; exact .inr ht
    · cases hc
  · exact .inl (tagsOfs_get hc t ht)
def Leans (g : Gs) (l : Gl) (st : St) (b : Nat) : Prop :=
  g.stb b ∨ (∃ (j : Nat) (mb : MB), st.mem[j]? = some mb ∧ mb.mine = true ∧ l.loc j = b) ∨ ∃ t ∈ st.tags, (l.xv t).ownBlock = some b
section
variable {w0 : World} {g0 g g' : Gs} {l l' : Gl} {w w' : World} {st st' : St} {a a' : Act} {base : Nat}
theorem OwnT.mono {t : Nat} (h : OwnT base g l w t) (ht : l'.xv t = l.xv t ∧ l'.xc t = l.xc t ∧ l'.xk t = l.xk t) (hb : ∀ b, (l.xv t).ownBlock = some b → w'.heap[b]? = w.heap[b]?)
    (hw : ∀ b, g.stb b → w'.heap[b]? = w.heap[b]?) (hs : ∀ b, g.stb b → g'.stb b) (ho : ∀ j b, g.ob j = some b → g'.ob j = some b) : OwnT base g' l' w' t := by
  obtain ⟨e, fl, hown, hk, hx, h1, hr⟩ := h
  obtain ⟨e1, e2, e3⟩ := ht
  refine ⟨e, fl, ?_, ?_, ?_, h1, ?_⟩
  · rw [e1, e2, e3]
    refine ⟨hown.1, ?_⟩
    rcases hown.2 with h | ⟨b, cap, cur, hv, hbb, hh, rest⟩
    · exact .inl h
    · refine .inr ⟨b, cap, cur, hv, hbb, ?_, rest⟩
      rw [hb b (by rw [hv]; rfl)]
      exact hh
  · rw [e3, e1]; exact ⟨hk.1, fun b cs e fr h1 h2 => hk.2 b cs e fr h1 (by rw [← hb b h1]; exact h2)⟩
  · rw [e2, e3]; exact hx
  · rw [e2, e3]
    intro i x j c hi hj
    obtain ⟨v, hv, hrep⟩ := hr i x j c hi hj
    exact ⟨v, hv, hrep.mono hw hs ho⟩
theorem BRep.mono {n n' b : Nat} {mb : MB} (h : BRep g l w n b mb) (hb : mb.mine = true → w'.heap[b]? = w.heap[b]?)
    (ht : ∀ t ∈ mb.tags, l'.xv t = l.xv t ∧ l'.xc t = l.xc t ∧ l'.xk t = l.xk t) (hloc : ∀ j, j < n → l'.loc j = l.loc j) (hn : n ≤ n')
    (hw : ∀ b, g.stb b → w'.heap[b]? = w.heap[b]?) (hs : ∀ b, g.stb b → g'.stb b) (ho : ∀ j b, g.ob j = some b → g'.ob j = some b) : BRep g' l' w' n' b mb := by
  cases mb with
  | cells cs =>
    obtain ⟨vs, e, hh, hr, h1⟩ := h
    exact ⟨vs, e, (hb rfl).trans hh, TReps.mono hw hs ho hloc hn cs vs ht hr, h1⟩
  | frz cs =>
    obtain ⟨hst, vs, hc, h1, hr⟩ := h
    exact ⟨hs b hst, vs, fun i hi => (cell_same (hw b hst)).trans (hc i hi), h1, fun i c hi => (hr i c hi).mono hw hs ho⟩
  | siter s pos => exact (hb rfl).trans h
  | miter j kt vt since stepped seen => obtain ⟨b', h1, h2, h3⟩ := h; exact ⟨b', (hb rfl).trans h1, ho _ _ h2, h3⟩
  | dead => exact h.elim
theorem Inv.step (h : Inv w0 g0 g l w st a) (hos : w'.os = w.os) (htape : w'.tape = w.tape) (hout : w'.output = w.output) (hsize : w.heap.size ≤ w'.heap.size)
    (hkeep : ∀ b, b < w.heap.size → (Leans g l st b ∨ (b < w0.heap.size ∧ ¬ g.foot b)) → w'.heap[b]? = w.heap[b]?)
    (hs : ∀ b, g.stb b → g'.stb b) (hsn : ∀ b, g'.stb b → g.stb b ∨ w.heap.size ≤ b ∨ g.foot b) (ho : ∀ j b, g.ob j = some b → g'.ob j = some b) (hf : ∀ b, g'.foot b → g.foot b ∨ w.heap.size ≤ b)
    (hlt : ∀ b, g'.stb b → b < w'.heap.size ∧ ¬ g'.foot b) {H' : Heap} (hH : HOK g' w' H') :
    Inv w0 g0 g' l w' { st with H := H' } a := by
  have hst : ∀ b, g.stb b → w'.heap[b]? = w.heap[b]? := fun b hb => hkeep b (h.stbLt b hb).1 (.inl (.inl hb))
  refine ⟨h.defers, TReps.mono hst hs ho (fun _ _ => rfl) (Nat.le_refl _) _ _ (fun _ _ => ⟨rfl, rfl, rfl⟩) h.tm, ?_, ?_, ?_, h.inj, ?_, h.ownInj, hH, ?_, hlt⟩
  · intro j mb hj
    refine (h.mem j mb hj).mono (fun hm => ?_) (fun _ _ => ⟨rfl, rfl, rfl⟩) (fun _ _ => rfl) (Nat.le_refl _) hst hs ho
    exact hkeep _ (h.priv j mb hj hm).2.1 (.inl (.inr (.inl ⟨j, mb, hj, hm, rfl⟩)))
  · intro t ht
    refine (h.own t ht).mono ⟨rfl, rfl, rfl⟩ (fun b hb => ?_) hst hs ho
    obtain ⟨e, fl, hown, _⟩ := h.own t ht
    exact hkeep b (hown.lt b hb).2 (.inl (.inr (.inr ⟨t, ht, hb⟩)))
  · intro j mb hj hm
    obtain ⟨h1, h2, h3, h4⟩ := h.priv j mb hj hm
    refine ⟨h1, by omega, fun h' => ?_, fun h' => ?_⟩
    · rcases hsn _ h' with h' | h' | h'
      · exact h3 h'
      · omega
      · exact h4 h'
    · rcases hf _ h' with h' | h'
      · exact h4 h'
      · omega
  · intro t ht b hb
    obtain ⟨h1, h2, h3⟩ := h.ownPriv t ht b hb
    obtain ⟨e, fl, hown, _⟩ := h.own t ht
    have := (hown.lt b hb).2
    refine ⟨fun h' => ?_, fun h' => ?_, h3⟩
    · rcases hsn _ h' with h' | h' | h'
      · exact h1 h'
      · omega
      · exact h2 h'
    · rcases hf _ h' with h' | h'
      · exact h2 h'
      · omega
  · refine ⟨hos.trans h.ext.os, htape.trans h.ext.tape, hout.trans h.ext.output, Nat.le_trans h.ext.size hsize, fun b hb hf0 => ?_, fun b hb => hs b (h.ext.stb b hb), fun b hb => ?_, fun j b hb => ho j b (h.ext.ob j b hb), fun b hb => ?_⟩
    · have hf1 : ¬ g.foot b := fun h1 => by
        rcases h.ext.footNew b h1 with h2 | h2
        · exact hf0 h2
        · omega
      exact (hkeep b (Nat.lt_of_lt_of_le hb h.ext.size) (.inr ⟨hb, hf1⟩)).trans (h.ext.keep b hb hf0)
    · rcases hsn b hb with h1 | h1 | h1
      · exact h.ext.stbNew b h1
      · exact .inr (.inl (Nat.le_trans h.ext.size h1))
      · rcases h.ext.footNew b h1 with h2 | h2
        · exact .inr (.inr h2)
        · exact .inr (.inl h2)
    · rcases hf b hb with h1 | h1
      · exact h.ext.footNew b h1
      · exact .inr (Nat.le_trans h.ext.size h1)
theorem Inv.step0 (h : Inv w0 g0 g l w st a) (hos : w'.os = w.os) (htape : w'.tape = w.tape) (hout : w'.output = w.output) (hsize : w.heap.size ≤ w'.heap.size)
    (hkeep : ∀ b, b < w.heap.size → (Leans g l st b ∨ g.foot b ∨ b < w0.heap.size) → w'.heap[b]? = w.heap[b]?)
    (hs : ∀ b, g.stb b → g'.stb b) (hsn : ∀ b, g'.stb b → g.stb b ∨ w.heap.size ≤ b ∧ b < w'.heap.size) (ho : g'.ob = g.ob) (hf : g'.foot = g.foot) :
    Inv w0 g0 g' l w' st a := by
  have hH : HOK g' w' st.H := h.heap.mono (fun b hb => hkeep b (h.heap.foot_lt hb) (.inr (.inl hb))) (fun b hb => hkeep b (h.stbLt b hb).1 (.inl (.inl hb))) hs ho hf hsize
  refine h.step hos htape hout hsize (fun b hb hl => hkeep b hb ?_) hs (fun b hb => ?_) (fun j b hb => by rw [ho]; exact hb) (fun b hb => .inl (by rw [← hf]; exact hb)) (fun b hb => ?_) hH
  · rcases hl with hl | hl
    · exact .inl hl
    · exact .inr (.inr hl.1)
  · rcases hsn b hb with h1 | h1
    · exact .inl h1
    · exact .inr (.inl h1.1)
  · rw [hf]
    rcases hsn b hb with h1 | h1
    · have := h.stbLt b h1
      exact ⟨by omega, this.2⟩
    · exact ⟨h1.2, fun h2 => by have := h.heap.foot_lt h2; omega⟩
theorem Inv.grow (h : Inv w0 g0 g l w st a) (hos : w'.os = w.os) (htape : w'.tape = w.tape) (hout : w'.output = w.output) (hsize : w.heap.size ≤ w'.heap.size)
    (hkeep : ∀ b, b < w.heap.size → w'.heap[b]? = w.heap[b]?) : Inv w0 g0 g l w' st a :=
  h.step0 hos htape hout hsize (fun b hb _ => hkeep b hb) (fun _ h => h) (fun _ h => .inl h) rfl rfl
theorem MB.mem_tags_map {f : AV → AV} {p : Nat → Prop} (ht : ∀ c, leaf c = true → ∀ u ∈ tagsOf (f c), u ∈ tagsOf c ∧ p u) (mb : MB) : ∀ u ∈ (mb.mapM f).tags, u ∈ mb.tags ∧ p u := by
  intro u hu
  cases mb with
  | cells cs => exact mapTs_tags ht cs u hu
  | frz cs => simp [MB.mapM, MB.tags] at hu
  | siter s p => simp [MB.mapM, MB.tags] at hu
  | miter _ _ _ _ _ _ => simp [MB.mapM, MB.tags] at hu
  | dead => simp [MB.mapM, MB.tags] at hu
theorem tags_mapS {f : AV → AV} {p : Nat → Prop} (ht : ∀ c, leaf c = true → ∀ u ∈ tagsOf (f c), u ∈ tagsOf c ∧ p u) (s : St) : ∀ u ∈ (s.mapS f).tags, u ∈ s.tags ∧ p u := by
  intro u hu
  simp only [St.tags, St.mapS, List.mem_append, List.mem_flatMap, List.mem_map] at hu
  rcases hu with hu | ⟨mb', ⟨mb, hm, rfl⟩, hu⟩
  · obtain ⟨h1, h2⟩ := mapTs_tags ht s.tm u hu
    exact ⟨tags_tm h1, h2⟩
  · obtain ⟨h1, h2⟩ := mb.mem_tags_map ht u hu
    obtain ⟨j, hj⟩ := List.mem_iff_getElem?.1 hm
    exact ⟨tags_mem hj h1, h2⟩
theorem MB.mine_map (f : AV → AV) (mb : MB) : (mb.mapM f).mine = mb.mine := by cases mb <;> rfl
theorem Inv.map {f : AV → AV} {p : Nat → Prop} (h : Inv w0 g0 g l w st a)
    (hf : ∀ c v, leaf c = true → (∀ t ∈ tagsOf c, t ∈ st.tags) → TRep g l w st.mem.length c v → TRep g l' w st.mem.length (f c) v)
    (ht : ∀ c, leaf c = true → ∀ u ∈ tagsOf (f c), u ∈ tagsOf c ∧ p u) (hl : ∀ u ∈ st.tags, p u → l'.xv u = l.xv u ∧ l'.xc u = l.xc u ∧ l'.xk u = l.xk u) (hloc : l'.loc = l.loc) :
    Inv w0 g0 g l' w (st.mapS f) a := by
  have hmem : ∀ (j : Nat) (mb : MB), (st.mapS f).mem[j]? = some mb → ∃ mb0, st.mem[j]? = some mb0 ∧ mb = mb0.mapM f := by
    intro j mb hj
    simp only [St.mapS, List.getElem?_map, Option.map_eq_some_iff] at hj
    obtain ⟨mb0, h1, h2⟩ := hj
    exact ⟨mb0, h1, h2.symm⟩
  have hlen : (st.mapS f).mem.length = st.mem.length := by simp [St.mapS]
  have htg := tags_mapS ht st
  refine ⟨h.defers, ?_, ?_, ?_, ?_, ?_, ?_, ?_, h.heap, h.ext, h.stbLt⟩
  · rw [hlen]
    exact mapTs_rep hf _ _ (fun t h => tags_tm h) h.tm
  · intro j mb hj
    obtain ⟨mb0, h0, rfl⟩ := hmem j mb hj
    have hb := h.mem j mb0 h0
    rw [hlen, hloc]
    cases mb0 with
    | cells cs =>
      obtain ⟨vs, e, hh, hr, h1⟩ := hb
      exact ⟨vs, e, hh, mapTs_rep hf cs vs (fun t ht => tags_mem h0 ht) hr, h1⟩
    | frz cs => exact hb
    | siter s p => exact hb
    | miter _ _ _ _ _ _ => exact hb
    | dead => exact hb
  · intro t ht'
    obtain ⟨h1, h2⟩ := htg t ht'
    exact (h.own t h1).mono (hl t h1 h2) (fun _ _ => rfl) (fun _ _ => rfl) (fun _ h => h) (fun _ _ h => h)
  · intro j mb hj hm
    obtain ⟨mb0, h0, rfl⟩ := hmem j mb hj
    rw [hloc]
    rw [MB.mine_map] at hm
    exact h.priv j mb0 h0 hm
  · intro i j mb hi hm hj he
    obtain ⟨mb0, h0, rfl⟩ := hmem i mb hi
    rw [hloc] at he
    rw [hlen] at hj
    rw [MB.mine_map] at hm
    exact h.inj i j mb0 h0 hm hj he
  · intro t ht' b hb
    obtain ⟨h1, h2⟩ := htg t ht'
    rw [(hl t h1 h2).1] at hb
    rw [hlen, hloc]
    exact h.ownPriv t h1 b hb
  · intro t ht' u hu b hb hb'
    obtain ⟨h1, h2⟩ := htg t ht'
    obtain ⟨k1, k2⟩ := htg u hu
    rw [(hl t h1 h2).1] at hb
    rw [(hl u k1 k2).1] at hb'
    exact h.ownInj t h1 u k1 b hb hb'
theorem Inv.kill (h : Inv w0 g0 g l w st a) (t : Nat) : Inv w0 g0 g l w (st.mapS (killF t)) a := by
  refine h.map (p := fun u => u ≠ t) (fun c v hc ht hr => ?_) (killF_tags t) (fun _ _ _ => ⟨rfl, rfl, rfl⟩) rfl
  cases c <;> try exact hr
  case sl t' k xs =>
    simp only [killF]
    cases Nat.beq t' t
    · exact hr
    · simp [TRep]
  case ep t' k i o xs =>
    simp only [killF]
    cases Nat.beq t' t
    · exact hr
    · simp [TRep]
theorem put_tags {s : St} {d : Option Nat} {v : AV} {t : Nat} (h : t ∈ (s.put d v).tags) : t ∈ s.tags ∨ t ∈ tagsOf v := by
  cases d with
  | none => exact .inl h
  | some d =>
    simp only [St.put, St.tags, List.mem_append] at h ⊢
    rcases h with h | h
    · rcases tagsOfs_set h with h | h
      · exact .inl (.inl h)
      · exact .inr h
    · exact .inl (.inr h)
theorem put_mem (s : St) (d : Option Nat) (v : AV) : (s.put d v).mem = s.mem := by cases d <;> rfl
theorem put_H (s : St) (d : Option Nat) (v : AV) : (s.put d v).H = s.H := by cases d <;> rfl
theorem Inv.put (h : Inv w0 g0 g l w st a) {av : AV} {v : Value} (hr : TRep g l w st.mem.length av v) (ht : ∀ t ∈ tagsOf av, t ∈ st.tags) (d : Option Nat) :
    Inv w0 g0 g l w (st.put d av) (a.put d v) := by
  have htg : ∀ t ∈ (st.put d av).tags, t ∈ st.tags := fun t h' => (put_tags h').elim id (ht t)
  have hdef : (a.put d v).defers = [] := by cases d <;> exact h.defers
  refine ⟨hdef, ?_, ?_, fun t h' => h.own t (htg t h'), ?_, ?_, fun t h' => ?_, fun t h' u hu => h.ownInj t (htg t h') u (htg u hu), ?_, h.ext, h.stbLt⟩
  · rw [put_mem]
    cases d with
    | none => exact h.tm
    | some d =>
      simp only [St.put, Act.put, Array.toList_setIfInBounds]
      exact h.tm.set hr d
  · rw [put_mem]; exact h.mem
  · rw [put_mem]; exact h.priv
  · rw [put_mem]; exact h.inj
  · rw [put_mem]; exact h.ownPriv t (htg t h')
  · rw [put_H]; exact h.heap
theorem add_plain (b o j : Nat) : (⟨b, o, none⟩ : Addr).add j = ⟨b, o + j, none⟩ := by unfold Addr.add; split <;> simp_all
theorem OwnT.parts {t : Nat} (h : OwnT base g l w t) :
    (l.xv t = .slice none 0 0 ∧ l.xc t = []) ∨ ∃ b c, ∃ vs : Nat → Nat → Value, l.xv t = .slice (some ⟨b, 0, none⟩) (l.xc t).length c ∧ base ≤ b ∧ b < w.heap.size ∧ (l.xc t).length ≤ c ∧ c ≤ maxLen ∧
      (∀ i j, i < (l.xc t).length → j < l.xk t → w.cell? ⟨b, 0 + (i * l.xk t + j), none⟩ = some (vs i j)) ∧ (∀ i j, i < (l.xc t).length → j < l.xk t → (vs i j).oneCell' = true) ∧
      ∀ (i : Nat) (x : List AV) (j : Nat) (c : AV), (l.xc t)[i]? = some x → x[j]? = some c → Rep w g.stb g.ob c (vs i j) := by
  obtain ⟨e, fl, hown, hk, hx, h1, hr⟩ := h
  rcases hown.2 with ⟨h2, h3⟩ | ⟨b, cap, cur, hv, hbb, hh, hn, hm, hcs, htk⟩
  · exact .inl ⟨h2, List.eq_nil_of_length_eq_zero h3⟩
  · refine .inr ⟨b, cap, fun i j => fl.getD (i * l.xk t + j) undef, hv, hbb, (hown.lt b (by rw [hv]; rfl)).2, hn, hm, ?_, ?_, ?_⟩
    · intro i j hi hj
      have hlt : i * l.xk t + j < fl.length := by
        rw [hown.1]
        calc i * l.xk t + j < i * l.xk t + l.xk t := by omega
          _ = (i + 1) * l.xk t := by rw [Nat.add_mul, Nat.one_mul]
          _ ≤ _ := Nat.mul_le_mul_right _ hi
      have hc := hown.cells (g := b) (by rw [hv]; rfl) (i * l.xk t + j) (fl.getD (i * l.xk t + j) undef) (by simp [List.getD_eq_getElem?_getD, List.getElem?_eq_getElem hlt])
      rw [add_plain] at hc
      exact hc
    · intro i j hi hj
      have hlt : i * l.xk t + j < fl.length := by
        rw [hown.1]
        calc i * l.xk t + j < i * l.xk t + l.xk t := by omega
          _ = (i + 1) * l.xk t := by rw [Nat.add_mul, Nat.one_mul]
          _ ≤ _ := Nat.mul_le_mul_right _ hi
      refine h1 _ ?_
      simp [List.getD_eq_getElem?_getD, List.getElem?_eq_getElem hlt]
    · intro i x j c hi hj
      obtain ⟨v, hv', hrep⟩ := hr i x j c hi hj
      simpa [List.getD_eq_getElem?_getD, hv'] using hrep
theorem OwnT.size {t : Nat} (h : OwnT base g l w t) : ∀ x ∈ l.xc t, x.length = l.xk t := by obtain ⟨e, fl, hown, hk, hx, h1, hr⟩ := h; exact hx
theorem OwnT.rep {t : Nat} (h : OwnT base g l w t) {stb : Nat → Prop} (hs : ∀ b, g.stb b → stb b) (hb : ∀ b, (l.xv t).ownBlock = some b → stb b) : Rep w stb g.ob (.sl 0 (l.xk t) (l.xc t)) (l.xv t) := by
  rcases h.parts with ⟨h1, h2⟩ | ⟨b, c, vs, hv, _, hlt, hn, hm, hc, h1, hr⟩
  · rw [h1, h2]; exact .sl0 _ _ _
  · rw [hv]
    exact .sl b 0 c _ _ vs (hb b (by rw [hv]; rfl)) hn (Nat.le_trans hn hm) h.size hc h1 fun i x j c hi hj => (hr i x j c hi hj).mono (fun _ _ => rfl) hs (fun _ _ h => h)
theorem OwnT.rep_ep {t i o : Nat} (h : OwnT base g l w t) {stb : Nat → Prop} (hs : ∀ b, g.stb b → stb b) (hb : ∀ b, (l.xv t).ownBlock = some b → stb b) (hi : i < (l.xc t).length) {b m c : Nat} (hv : l.xv t = .slice (some ⟨b, 0, none⟩) m c) :
    Rep w stb g.ob (.rp ((l.xc t).getD i []) o) (.pointer (some ⟨b, i * l.xk t + o, none⟩)) := by
  rcases h.parts with ⟨h1, h2⟩ | ⟨b', c', vs, hv', _, hlt, hn, hm, hc, h1, hr⟩
  · rw [h2] at hi; simp at hi
  · rw [hv] at hv'
    simp only [Value.slice.injEq, Option.some.injEq, Addr.mk.injEq] at hv'
    obtain ⟨⟨rfl, _⟩, _⟩ := hv'
    have hx : ((l.xc t).getD i []).length = l.xk t := h.size _ (by rw [List.getD_eq_getElem?_getD, List.getElem?_eq_getElem hi]; exact List.getElem_mem hi)
    refine .rp b (i * l.xk t) o _ (vs i) (hb b (by rw [hv]; rfl)) (fun j hj => ?_) (fun j hj => h1 i j hi (by omega)) fun j c hj => ?_
    · have := hc i j hi (by omega)
      rwa [Nat.zero_add] at this
    · refine (hr i ((l.xc t).getD i []) j c ?_ hj).mono (fun _ _ => rfl) hs (fun _ _ h => h)
      rw [List.getD_eq_getElem?_getD, List.getElem?_eq_getElem hi]; rfl
theorem frzF_tags (t : Nat) (ht0 : t ≠ 0) : ∀ c, leaf c = true → ∀ u ∈ tagsOf (frzF t c), u ∈ tagsOf c ∧ u ≠ t := by
  intro c hc u h
  cases c <;> try (simp only [frzF] at h; simp [tagsOf] at h; done)
  case sl t' k xs =>
    simp only [frzF] at h
    cases e : Nat.beq t' t <;> rw [e] at h
    · refine ⟨h, fun hh => ?_⟩
      subst hh
      simp only [cond_false, tagsOf] at h
      cases e0 : Nat.beq t' 0 <;> rw [e0] at h <;> simp at h
      subst h
      simp at e
    · simp [tagsOf] at h
  case ep t' k i o xs =>
    simp only [frzF] at h
    cases e : Nat.beq t' t <;> rw [e] at h
    · refine ⟨h, fun hh => ?_⟩
      subst hh
      simp only [cond_false, tagsOf, List.mem_singleton] at h
      subst h
      simp at e
    · simp [tagsOf] at h
  all_goals simp_all [leaf]
theorem Inv.frz (h : Inv w0 g0 g l w st a) (t : Nat) (ht0 : t ≠ 0) :
    ∃ g', Inv w0 g0 g' l w (st.mapS (frzF t)) a ∧ (∀ b, g.stb b → g'.stb b) ∧ (∀ b, g'.stb b → g.stb b ∨ t ∈ st.tags ∧ (l.xv t).ownBlock = some b) ∧ g'.ob = g.ob ∧ g'.foot = g.foot ∧ (t ∈ st.tags → ∀ b, (l.xv t).ownBlock = some b → g'.stb b) := by
  by_cases hin : t ∈ st.tags
  · let g' : Gs := { g with stb := fun b => g.stb b ∨ (l.xv t).ownBlock = some b }
    have hT := h.own t hin
    have h1 : Inv w0 g0 g l w (st.mapS (killF t)) a := h.kill t
    refine ⟨g', ?_, fun b hb => .inl hb, fun b hb => hb.imp id fun h => ⟨hin, h⟩, rfl, rfl, fun _ b hb => .inr hb⟩
    have hlt : ∀ b, (l.xv t).ownBlock = some b → w0.heap.size ≤ b ∧ b < w.heap.size := by obtain ⟨e, fl, hown, _⟩ := hT; exact hown.lt
    have hmem : ∀ (j : Nat) (mb : MB), (st.mapS (frzF t)).mem[j]? = some mb → ∃ mb0, st.mem[j]? = some mb0 ∧ mb = mb0.mapM (frzF t) := by
      intro j mb hj
      simp only [St.mapS, List.getElem?_map, Option.map_eq_some_iff] at hj
      obtain ⟨mb0, h1, h2⟩ := hj
      exact ⟨mb0, h1, h2.symm⟩
    have hlen : (st.mapS (frzF t)).mem.length = st.mem.length := by simp [St.mapS]
    have htg := tags_mapS (frzF_tags t ht0) st
    have hf : ∀ c v, leaf c = true → (∀ t ∈ tagsOf c, t ∈ st.tags) → TRep g l w st.mem.length c v → TRep g' l w st.mem.length (frzF t c) v := by
      intro c v hc hts hr
      have keep : TRep g' l w st.mem.length c v := TRep.mono (g' := g') (fun _ _ => rfl) (fun b hb => Or.inl hb) (fun _ _ h => h) (fun _ _ => rfl) (Nat.le_refl _) c v (fun _ _ => ⟨rfl, rfl, rfl⟩) hr
      cases c <;> try exact keep
      case sl t' k xs =>
        simp only [frzF]
        cases e : Nat.beq t' t
        · exact keep
        · obtain rfl : t' = t := Nat.eq_of_beq_eq_true e
          obtain ⟨m, rfl⟩ : ∃ m, t' = m + 1 := ⟨t' - 1, by omega⟩
          simp only [TRep] at hr
          obtain ⟨rfl, rfl, rfl⟩ := hr
          simp only [cond_true, TRep]
          exact hT.rep (fun b hb => .inl hb) (fun b hb => .inr hb)
      case ep t' k i o xs =>
        simp only [frzF]
        cases e : Nat.beq t' t
        · exact keep
        · obtain rfl : t' = t := Nat.eq_of_beq_eq_true e
          simp only [TRep] at hr
          obtain ⟨rfl, rfl, _, hi, b, m, c, hv, rfl⟩ := hr
          simp only [cond_true, TRep]
          exact hT.rep_ep (fun b hb => .inl hb) (fun b hb => .inr hb) hi hv
    refine ⟨h.defers, ?_, ?_, ?_, ?_, ?_, ?_, ?_, HOK.mono (g' := g') h.heap (fun _ _ => rfl) (fun _ _ => rfl) (fun b hb => Or.inl hb) rfl rfl (Nat.le_refl _), ?_, ?_⟩
    · rw [hlen]; exact mapTs_rep hf _ _ (fun t h => tags_tm h) h.tm
    · intro j mb hj
      obtain ⟨mb0, h0, rfl⟩ := hmem j mb hj
      have hb := h.mem j mb0 h0
      rw [hlen]
      cases mb0 with
      | cells cs =>
        obtain ⟨vs, e, hh, hr, h1⟩ := hb
        exact ⟨vs, e, hh, mapTs_rep hf cs vs (fun t ht => tags_mem h0 ht) hr, h1⟩
      | frz cs => exact BRep.mono (g' := g') hb (fun hm => rfl) (fun _ _ => ⟨rfl, rfl, rfl⟩) (fun _ _ => rfl) (Nat.le_refl _) (fun _ _ => rfl) (fun b hb => Or.inl hb) (fun _ _ h => h)
      | siter s p => exact hb
      | miter _ _ _ _ _ _ => exact hb
      | dead => exact hb
    · intro u hu
      obtain ⟨k1, k2⟩ := htg u hu
      exact OwnT.mono (g' := g') (h.own u k1) ⟨rfl, rfl, rfl⟩ (fun _ _ => rfl) (fun _ _ => rfl) (fun b hb => Or.inl hb) (fun _ _ h => h)
    · intro j mb hj hm
      obtain ⟨mb0, h0, rfl⟩ := hmem j mb hj
      rw [MB.mine_map] at hm
      obtain ⟨p1, p2, p3, p4⟩ := h.priv j mb0 h0 hm
      refine ⟨p1, p2, fun hb => ?_, p4⟩
      rcases hb with hb | hb
      · exact p3 hb
      · exact (h.ownPriv t hin _ hb).2.2 j (List.getElem?_eq_some_iff.1 h0).1 rfl
    · intro i j mb hi hm hj he
      obtain ⟨mb0, h0, rfl⟩ := hmem i mb hi
      rw [MB.mine_map] at hm
      exact h.inj i j mb0 h0 hm (by rwa [hlen] at hj) he
    · intro u hu b hb
      obtain ⟨k1, k2⟩ := htg u hu
      obtain ⟨q1, q2, q3⟩ := h.ownPriv u k1 b hb
      rw [hlen]
      refine ⟨fun hb' => ?_, q2, q3⟩
      rcases hb' with hb' | hb'
      · exact q1 hb'
      · exact k2 (h.ownInj u k1 t hin b hb hb')
    · intro u hu v hv b hb hb'
      exact h.ownInj u (htg u hu).1 v (htg v hv).1 b hb hb'
    · exact ⟨h.ext.os, h.ext.tape, h.ext.output, h.ext.size, h.ext.keep, fun b hb => .inl (h.ext.stb b hb), fun b hb => by
        rcases hb with hb | hb
        · exact h.ext.stbNew b hb
        · exact .inr (.inl (hlt b hb).1), h.ext.ob, h.ext.footNew⟩
    · intro b hb
      rcases hb with hb | hb
      · exact h.stbLt b hb
      · exact ⟨(hlt b hb).2, (h.ownPriv t hin b hb).2.1⟩
  · refine ⟨g, ?_, fun _ h => h, fun _ h => .inl h, rfl, rfl, fun h => absurd h hin⟩
    refine h.map (p := fun u => u ≠ t) (fun c v hc hts hr => ?_) (frzF_tags t ht0) (fun _ _ _ => ⟨rfl, rfl, rfl⟩) rfl
    cases c <;> try exact hr
    case sl t' k xs =>
      simp only [frzF]
      cases e : Nat.beq t' t
      · exact hr
      · obtain rfl : t' = t := Nat.eq_of_beq_eq_true e
        obtain ⟨m, rfl⟩ : ∃ m, t' = m + 1 := ⟨t' - 1, by omega⟩
        exact absurd (hts _ (by simp [tagsOf, Nat.beq])) hin
    case ep t' k i o xs =>
      simp only [frzF]
      cases e : Nat.beq t' t
      · exact hr
      · obtain rfl : t' = t := Nat.eq_of_beq_eq_true e
        exact absurd (hts t' (by simp [tagsOf])) hin
end
end Go.Proofs.YtgmkkjmdflhbnaaDoor.Ab
end
section
namespace Go.Proofs.YtgmkkjmdflhbnaaDoor.Ab
open Go
section
variable {f : AV → AV} {u : Nat}
mutual
theorem mapT_tags_of (hf : ∀ c, leaf c = true → u ∈ tagsOf c → u ∈ tagsOf (f c)) : ∀ a : AV, u ∈ tagsOf a → u ∈ tagsOf (mapT f a)
  | .agg cs, h => by simp only [mapT, tagsOf] at h ⊢; exact mapTs_tags_of hf cs h
  | .tup cs, h => by simp only [mapT, tagsOf] at h ⊢; exact mapTs_tags_of hf cs h
  | .iface _ v, h => by simp only [mapT, tagsOf] at h ⊢; exact mapT_tags_of hf v h
  | .sl t k xs, h => hf _ rfl h
  | .ep t k i o xs, h => hf _ rfl h
  | .any, h => hf _ rfl h
  | .int k m, h => hf _ rfl h
  | .bool b, h => hf _ rfl h
  | .str s, h => hf _ rfl h
  | .nilp, h => hf _ rfl h
  | .ptr j o, h => hf _ rfl h
  | .rp cs o, h => hf _ rfl h
  | .nilsl, h => hf _ rfl h
  | .fn f c, h => hf _ rfl h
  | .nilfn, h => hf _ rfl h
  | .niliface, h => hf _ rfl h
  | .obj j o, h => hf _ rfl h
  | .map j, h => hf _ rfl h
  | .nilmap, h => hf _ rfl h
  | .hs _ _ _ _ _, h => hf _ rfl h
  | .he _ _ _ _, h => hf _ rfl h
theorem mapTs_tags_of (hf : ∀ c, leaf c = true → u ∈ tagsOf c → u ∈ tagsOf (f c)) : ∀ cs : List AV, u ∈ tagsOfs cs → u ∈ tagsOfs (mapTs f cs)
  | [], h => by simp [tagsOfs] at h
  | c :: cs, h => by
    simp only [mapTs, tagsOfs, List.mem_append] at h ⊢
    rcases h with h | h
    · exact .inl (mapT_tags_of hf c h)
    · exact .inr (mapTs_tags_of hf cs h)
end
theorem tags_mapS_of (hf : ∀ c, leaf c = true → u ∈ tagsOf c → u ∈ tagsOf (f c)) (s : St) (h : u ∈ s.tags) : u ∈ (s.mapS f).tags := by
  simp only [St.tags, St.mapS, List.mem_append, List.mem_flatMap, List.mem_map] at h ⊢
  rcases h with h | ⟨mb, hm, h⟩
  · exact .inl (mapTs_tags_of hf _ h)
  · refine .inr ⟨_, ⟨mb, hm, rfl⟩, ?_⟩
    cases mb with
    | cells cs => exact mapTs_tags_of hf cs h
    | _ => exact h
end
theorem frzF_tags_of {t u : Nat} (hne : u ≠ t) : ∀ c, leaf c = true → u ∈ tagsOf c → u ∈ tagsOf (frzF t c) := by
  intro c hc h
  cases c <;> try exact h
  case sl t' k xs =>
    simp only [frzF]
    cases e : Nat.beq t' t
    · exact h
    · obtain rfl : t' = t := Nat.eq_of_beq_eq_true e
      simp only [tagsOf] at h
      cases e0 : Nat.beq t' 0 <;> rw [e0] at h <;> simp at h
      exact absurd h hne
  case ep t' k i o xs =>
    simp only [frzF]
    cases e : Nat.beq t' t
    · exact h
    · obtain rfl : t' = t := Nat.eq_of_beq_eq_true e
      simp only [tagsOf, List.mem_singleton] at h
      exact absurd h hne
theorem mapS_H (f : AV → AV) (s : St) : (s.mapS f).H = s.H := rfl
theorem mapS_memlen (f : AV → AV) (s : St) : (s.mapS f).mem.length = s.mem.length := by simp [St.mapS]
section
variable {w0 : World} {g0 g g' : Gs} {l l' : Gl} {w w' : World} {st st' : St} {a a' : Act} {base : Nat}
theorem tags_pos (h : Inv w0 g0 g l w st a) : ∀ t ∈ st.tags, t ≠ 0 := by
  have leafs : ∀ (c : AV) (v : Value), TRep g l w st.mem.length c v → ∀ t ∈ tagsOf c, t ≠ 0 := by
    have key : ∀ (n : Nat) (c : AV) (v : Value), SizeOf.sizeOf c ≤ n → TRep g l w st.mem.length c v → ∀ t ∈ tagsOf c, t ≠ 0 := by
      intro n
      induction n with
      | zero => intro c v hs; cases c <;> simp at hs
      | succ n ih =>
        intro c v hs hr t ht
        have many : ∀ (cs : List AV) (vs : List Value), SizeOf.sizeOf cs ≤ n → TReps g l w st.mem.length cs vs → ∀ t ∈ tagsOfs cs, t ≠ 0 := by
          intro cs vs hs hr t ht
          obtain ⟨i, c, hc, ht⟩ := tagsOfs_iff ht
          obtain ⟨v, _, hv⟩ := hr.get hc
          have := List.sizeOf_lt_of_mem (List.mem_of_getElem? hc)
          exact ih c v (by omega) hv t ht
        cases c <;> try (simp [tagsOf] at ht; done)
        case sl t' k xs =>
          simp only [tagsOf] at ht
          cases e0 : Nat.beq t' 0 <;> rw [e0] at ht <;> simp at ht
          subst ht
          intro h0
          subst h0
          simp at e0
        case ep t' k i o xs =>
          simp only [TRep] at hr
          simp only [tagsOf, List.mem_singleton] at ht
          subst ht
          exact hr.2.2.1
        case agg cs =>
          simp only [TRep] at hr
          obtain ⟨vs, _, hr⟩ := hr
          simp only [tagsOf] at ht
          simp only [AV.agg.sizeOf_spec] at hs
          exact many cs vs (by omega) hr t ht
        case tup cs =>
          simp only [TRep] at hr
          obtain ⟨vs, _, hr⟩ := hr
          simp only [tagsOf] at ht
          simp only [AV.tup.sizeOf_spec] at hs
          exact many cs vs (by omega) hr t ht
        case iface q b =>
          simp only [TRep] at hr
          obtain ⟨u, _, hr⟩ := hr
          simp only [tagsOf] at ht
          simp only [AV.iface.sizeOf_spec] at hs
          exact ih b u (by omega) hr t ht
    exact fun c v => key (SizeOf.sizeOf c) c v (Nat.le_refl _)
  intro t ht
  simp only [St.tags, List.mem_append, List.mem_flatMap] at ht
  rcases ht with ht | ⟨mb, hm, ht⟩
  · obtain ⟨i, c, hc, ht⟩ := tagsOfs_iff ht
    obtain ⟨v, _, hv⟩ := h.tm.get hc
    exact leafs c v hv t ht
  · obtain ⟨j, hj⟩ := List.mem_iff_getElem?.1 hm
    cases mb with
    | cells cs =>
      obtain ⟨vs, e, _, hr, _⟩ := h.mem j _ hj
      obtain ⟨i, c, hc, ht⟩ := tagsOfs_iff ht
      obtain ⟨v, _, hv⟩ := hr.get hc
      exact leafs c v hv t ht
    | _ => simp [MB.tags] at ht
theorem Inv.frzAll : ∀ (ts : List Nat) {g : Gs} {st : St}, Inv w0 g0 g l w st a → (∀ t ∈ ts, t ≠ 0) →
    ∃ g', Inv w0 g0 g' l w (st.frzAll ts) a ∧ (∀ b, g.stb b → g'.stb b) ∧ (∀ b, g'.stb b → g.stb b ∨ ∃ t ∈ st.tags, (l.xv t).ownBlock = some b) ∧ g'.ob = g.ob ∧ g'.foot = g.foot ∧
      (∀ t ∈ ts, t ∈ st.tags → ∀ b, (l.xv t).ownBlock = some b → g'.stb b) ∧ (∀ t ∈ (st.frzAll ts).tags, t ∈ st.tags)
  | [], g, st, h, _ => ⟨g, h, fun _ h => h, fun _ h => .inl h, rfl, rfl, by simp, fun _ h => h⟩
  | t :: ts, g, st, h, h0 => by
    obtain ⟨g1, h1, s1, n1, o1, f1, b1⟩ := h.frz t (h0 t (by simp))
    obtain ⟨g2, h2, s2, n2, o2, f2, b2, c2⟩ := h1.frzAll ts (fun u hu => h0 u (by simp [hu]))
    have hsub := tags_mapS (frzF_tags t (h0 t (by simp))) st
    refine ⟨g2, h2, fun b hb => s2 b (s1 b hb), fun b hb => ?_, o2.trans o1, f2.trans f1, fun u hu hin b hb => ?_, fun u hu => (hsub u (c2 u hu)).1⟩
    · rcases n2 b hb with hb | ⟨u, hu, hb⟩
      · rcases n1 b hb with hb | ⟨hin, hb⟩
        · exact .inl hb
        · exact .inr ⟨t, hin, hb⟩
      · exact .inr ⟨u, (hsub u hu).1, hb⟩
    · by_cases e : u = t
      · subst e; exact s2 b (b1 hin b hb)
      · rcases List.mem_cons.1 hu with hu | hu
        · exact absurd hu e
        · exact b2 u hu (tags_mapS_of (frzF_tags_of e) st hin) b hb
theorem frzAll_H : ∀ (ts : List Nat) (s : St), (s.frzAll ts).H = s.H
  | [], _ => rfl
  | t :: ts, s => by simp only [St.frzAll]; rw [frzAll_H ts]; rfl
theorem frzAll_memlen : ∀ (ts : List Nat) (s : St), (s.frzAll ts).mem.length = s.mem.length
  | [], _ => rfl
  | t :: ts, s => by simp only [St.frzAll]; rw [frzAll_memlen ts, mapS_memlen]
theorem lend_rep {stb : Nat → Prop} {n : Nat} (hs : ∀ b, g.stb b → stb b) {S : List Nat} (hS : ∀ t ∈ S, OwnT base g l w t ∧ ∀ b, (l.xv t).ownBlock = some b → stb b) :
    ∀ (a : AV) (v : Value), (∀ t ∈ tagsOf a, t ∈ S) → TRep g l w n a v → Rep w stb g.ob (frzV a) v := by
  have key : ∀ (m : Nat) (a : AV) (v : Value), SizeOf.sizeOf a ≤ m → (∀ t ∈ tagsOf a, t ∈ S) → TRep g l w n a v → Rep w stb g.ob (frzV a) v := by
    intro m
    induction m with
    | zero => intro a v h; cases a <;> simp at h
    | succ m ih =>
      intro a v hm ht h
      have many : ∀ (cs : List AV) (vs : List Value), SizeOf.sizeOf cs ≤ m → (∀ t ∈ tagsOfs cs, t ∈ S) → TReps g l w n cs vs → (mapTs lendF cs).length = vs.length ∧
          ∀ (i : Nat) (c : AV) (v : Value), (mapTs lendF cs)[i]? = some c → vs[i]? = some v → Rep w stb g.ob c v := by
        intro cs vs hs ht hr
        refine ⟨by rw [mapTs_length, hr.length], fun i c v hc hv => ?_⟩
        rw [mapTs_get, Option.map_eq_some_iff] at hc
        obtain ⟨c0, hc0, rfl⟩ := hc
        have := List.sizeOf_lt_of_mem (List.mem_of_getElem? hc0)
        exact ih c0 v (by omega) (fun t h => ht t (tagsOfs_get hc0 t h)) (hr.of i c0 v hc0 hv)
      cases a
      case sl t k xs =>
        cases t with
        | zero => simp only [TRep] at h; exact h.mono (fun _ _ => rfl) hs (fun _ _ h => h)
        | succ t =>
          simp only [TRep] at h
          obtain ⟨rfl, rfl, rfl⟩ := h
          obtain ⟨h1, h2⟩ := hS (t + 1) (ht _ (by simp [tagsOf, Nat.beq]))
          exact h1.rep hs h2
      case ep t k i o xs =>
        simp only [TRep] at h
        obtain ⟨rfl, rfl, _, hi, b, m', c, hv, rfl⟩ := h
        obtain ⟨h1, h2⟩ := hS t (ht _ (by simp [tagsOf]))
        exact h1.rep_ep hs h2 hi hv
      case agg cs =>
        simp only [TRep] at h
        obtain ⟨vs, rfl, h⟩ := h
        simp only [AV.agg.sizeOf_spec] at hm
        obtain ⟨h1, h2⟩ := many cs vs (by omega) (fun t h => ht t (by simpa [tagsOf] using h)) h
        exact .agg _ vs h1 h2
      case tup cs =>
        simp only [TRep] at h
        obtain ⟨vs, rfl, h⟩ := h
        simp only [AV.tup.sizeOf_spec] at hm
        obtain ⟨h1, h2⟩ := many cs vs (by omega) (fun t h => ht t (by simpa [tagsOf] using h)) h
        exact .tup _ vs h1 h2
      case iface q b =>
        simp only [TRep] at h
        obtain ⟨u, rfl, h⟩ := h
        simp only [AV.iface.sizeOf_spec] at hm
        exact .iface q _ u (ih b u (by omega) (fun t h => ht t (by simpa [tagsOf] using h)) h)
      case ptr j o => exact .any v
      case any => exact .any v
      case int k q => simp only [TRep] at h; subst h; exact .int k q
      case bool b => simp only [TRep] at h; subst h; exact .bool b
      case str s => simp only [TRep] at h; subst h; exact .str s
      case nilp => simp only [TRep] at h; subst h; exact .nilp
      case nilsl => simp only [TRep] at h; subst h; exact .nilsl
      case nilfn => simp only [TRep] at h; subst h; exact .nilfn
      case niliface => simp only [TRep] at h; subst h; exact .niliface
      case nilmap => simp only [TRep] at h; subst h; exact .nilmap
      case hs j o n c k => simp only [TRep] at h; exact h.mono (fun _ _ => rfl) hs (fun _ _ h => h)
      case he j k i o => simp only [TRep] at h; exact h.mono (fun _ _ => rfl) hs (fun _ _ h => h)
      case rp cs o => simp only [TRep] at h; exact h.mono (fun _ _ => rfl) hs (fun _ _ h => h)
      case fn f c => simp only [TRep] at h; exact h.mono (fun _ _ => rfl) hs (fun _ _ h => h)
      case obj j o => simp only [TRep] at h; exact h.mono (fun _ _ => rfl) hs (fun _ _ h => h)
      case map j => simp only [TRep] at h; exact h.mono (fun _ _ => rfl) hs (fun _ _ h => h)
  exact fun a v => key (SizeOf.sizeOf a) a v (Nat.le_refl _)
end
end Go.Proofs.YtgmkkjmdflhbnaaDoor.Ab
end
section
namespace Go.Proofs.YtgmkkjmdflhbnaaDoor.Ab
open Go
section
variable {w0 : World} {g0 g g' : Gs} {l l' : Gl} {w w' : World} {st st' : St} {a a' : Act} {base : Nat}
def Gl.own (l : Gl) (t : Nat) (v : Value) (k : Nat) (xs : List (List AV)) : Gl :=
  { l with xv := fun u => if u = t then v else l.xv u, xc := fun u => if u = t then xs else l.xc u, xk := fun u => if u = t then k else l.xk u }
theorem Inv.newTag (h : Inv w0 g0 g l w st a) {t k : Nat} {v : Value} {xs : List (List AV)} (ht0 : t ≠ 0) (ht : t ∉ st.tags)
    (hT : OwnT w0.heap.size g (l.own t v k xs) w t) (hp : ∀ b, v.ownBlock = some b → ¬ g.stb b ∧ (∀ j, j < st.mem.length → l.loc j ≠ b) ∧ (∀ u ∈ st.tags, (l.xv u).ownBlock ≠ some b) ∧ ¬ g.foot b) (d : Option Nat) :
    Inv w0 g0 g (l.own t v k xs) w (st.put d (.sl t k xs)) (a.put d v) := by
  obtain ⟨m, rfl⟩ : ∃ m, t = m + 1 := ⟨t - 1, by omega⟩
  have hne : ∀ u ∈ st.tags, u ≠ m + 1 := fun u hu e => ht (e ▸ hu)
  have hsame : ∀ u ∈ st.tags, (l.own (m + 1) v k xs).xv u = l.xv u ∧ (l.own (m + 1) v k xs).xc u = l.xc u ∧ (l.own (m + 1) v k xs).xk u = l.xk u := by
    intro u hu
    simp [Gl.own, hne u hu]
  have hloc : (l.own (m + 1) v k xs).loc = l.loc := rfl
  have htg : ∀ u ∈ (st.put d (.sl (m + 1) k xs)).tags, u ∈ st.tags ∨ u = m + 1 := by
    intro u hu
    rcases put_tags hu with hu | hu
    · exact .inl hu
    · simp [tagsOf, Nat.beq] at hu; exact .inr hu
  have hxv : (l.own (m + 1) v k xs).xv (m + 1) = v := by simp [Gl.own]
  have hdef : (a.put d v).defers = [] := by cases d <;> exact h.defers
  have htm : TReps g (l.own (m + 1) v k xs) w st.mem.length st.tm a.tmps.toList := TReps.mono (l := l) (l' := l.own (m + 1) v k xs) (fun _ _ => rfl) (fun _ h => h) (fun _ _ h => h) (fun _ _ => rfl) (Nat.le_refl _) _ _ (fun u hu => hsame u (tags_tm hu)) h.tm
  refine ⟨hdef, ?_, ?_, ?_, ?_, ?_, ?_, ?_, ?_, h.ext, h.stbLt⟩
  · rw [put_mem]
    cases d with
    | none => exact htm
    | some d =>
      simp only [St.put, Act.put, Array.toList_setIfInBounds]
      refine htm.set ?_ d
      simp only [TRep, Gl.own, if_true, and_self]
  · rw [put_mem, hloc]
    intro j mb hj
    exact (h.mem j mb hj).mono (fun _ => rfl) (fun u hu => hsame u (tags_mem hj hu)) (fun _ _ => rfl) (Nat.le_refl _) (fun _ _ => rfl) (fun _ h => h) (fun _ _ h => h)
  · intro u hu
    rcases htg u hu with hu | rfl
    · exact (h.own u hu).mono (hsame u hu) (fun _ _ => rfl) (fun _ _ => rfl) (fun _ h => h) (fun _ _ h => h)
    · exact hT
  · rw [put_mem]; exact h.priv
  · rw [put_mem]; exact h.inj
  · intro u hu b hb
    rw [put_mem]
    rcases htg u hu with hu | rfl
    · rw [(hsame u hu).1] at hb
      exact h.ownPriv u hu b hb
    · rw [hxv] at hb
      exact ⟨(hp b hb).1, (hp b hb).2.2.2, (hp b hb).2.1⟩
  · intro u hu u' hu' b hb hb'
    rcases htg u hu with hu | rfl <;> rcases htg u' hu' with hu' | rfl
    · rw [(hsame u hu).1] at hb
      rw [(hsame u' hu').1] at hb'
      exact h.ownInj u hu u' hu' b hb hb'
    · rw [(hsame u hu).1] at hb
      rw [hxv] at hb'
      exact absurd hb ((hp b hb').2.2.1 u hu)
    · rw [(hsame u' hu').1] at hb'
      rw [hxv] at hb
      exact absurd hb' ((hp b hb).2.2.1 u' hu')
    · rfl
  · rw [put_H]; exact h.heap
theorem heap_alloc (w : World) (o : Go.Obj) (b : Nat) (h : b < w.heap.size) : (w.alloc o).heap[b]? = w.heap[b]? := heap_alloc_old w o b h
theorem Inv.alloc (h : Inv w0 g0 g l w st a) (o : Go.Obj) : Inv w0 g0 g l (w.alloc o) st a :=
  h.grow rfl rfl rfl (by simp) (fun b hb => heap_alloc w o b hb)
def Gl.block (l : Gl) (n b : Nat) : Gl := { l with loc := fun j => if j = n then b else l.loc j }
theorem Inv.newBlock (h : Inv w0 g0 g l w st a) (o : Go.Obj) (mb : MB) (hm : mb.mine = true) (ht : ∀ t ∈ mb.tags, t ∈ st.tags)
    (hb : BRep g (l.block st.mem.length w.heap.size) (w.alloc o) (st.mem.length + 1) w.heap.size mb) (d : Option Nat) :
    Inv w0 g0 g (l.block st.mem.length w.heap.size) (w.alloc o) ({ st with mem := st.mem ++ [mb] }.put d (.ptr st.mem.length 0)) (a.put d (.pointer (some ⟨w.heap.size, 0, none⟩))) := by
  have h' := h.alloc o
  have hlen : (st.mem ++ [mb]).length = st.mem.length + 1 := by simp
  have hloc : ∀ j, j < st.mem.length → (l.block st.mem.length w.heap.size).loc j = l.loc j := fun j hj => by simp [Gl.block, Nat.ne_of_lt hj]
  have hnew : (l.block st.mem.length w.heap.size).loc st.mem.length = w.heap.size := by simp [Gl.block]
  have htg : ∀ t ∈ ({ st with mem := st.mem ++ [mb] } : St).tags, t ∈ st.tags := by
    intro t ht'
    simp only [St.tags, List.mem_append, List.flatMap_append, List.flatMap_cons, List.flatMap_nil, List.append_nil] at ht' ⊢
    rcases ht' with ht' | ht' | ht'
    · exact .inl ht'
    · exact .inr ht'
    · have := ht t ht'
      simpa only [St.tags, List.mem_append] using this
  have hget : ∀ (j : Nat) (x : MB), (st.mem ++ [mb])[j]? = some x → (j < st.mem.length ∧ st.mem[j]? = some x) ∨ (j = st.mem.length ∧ x = mb) := by
    intro j x hj
    rw [List.getElem?_append] at hj
    split at hj
    · exact .inl ⟨by assumption, hj⟩
    · rename_i hge
      have hj' : j - st.mem.length = 0 := by
        rcases Nat.eq_zero_or_pos (j - st.mem.length) with h | h
        · exact h
        · rw [List.getElem?_singleton, if_neg (by omega)] at hj; cases hj
      rw [hj'] at hj
      simp at hj
      exact .inr ⟨by omega, hj.symm⟩
  have hI : Inv w0 g0 g (l.block st.mem.length w.heap.size) (w.alloc o) { st with mem := st.mem ++ [mb] } a := by
    refine ⟨h.defers, ?_, ?_, ?_, ?_, ?_, ?_, ?_, h'.heap, h'.ext, h'.stbLt⟩
    · show TReps _ _ _ (st.mem ++ [mb]).length _ _
      rw [hlen]
      exact TReps.mono (fun _ _ => rfl) (fun _ h => h) (fun _ _ h => h) hloc (by omega) _ _ (fun _ _ => ⟨rfl, rfl, rfl⟩) h'.tm
    · intro j x hj
      show BRep _ _ _ (st.mem ++ [mb]).length _ _
      rw [hlen]
      rcases hget j x hj with ⟨hj1, hj2⟩ | ⟨rfl, rfl⟩
      · rw [hloc j hj1]
        exact (h'.mem j x hj2).mono (fun _ => rfl) (fun _ _ => ⟨rfl, rfl, rfl⟩) hloc (by omega) (fun _ _ => rfl) (fun _ h => h) (fun _ _ h => h)
      · rw [hnew]; exact hb
    · intro t ht'
      exact (h'.own t (htg t ht')).mono ⟨rfl, rfl, rfl⟩ (fun _ _ => rfl) (fun _ _ => rfl) (fun _ h => h) (fun _ _ h => h)
    · intro j x hj hmine
      rcases hget j x hj with ⟨hj1, hj2⟩ | ⟨rfl, rfl⟩
      · rw [hloc j hj1]; exact h'.priv j x hj2 hmine
      · rw [hnew]
        refine ⟨h.ext.size, by simp, fun hs => ?_, fun hs => by have := h.heap.foot_lt hs; omega⟩
        have := (h.stbLt _ hs).1
        omega
    · intro i j x hi hmine hj he
      have hj' : j < st.mem.length + 1 := by rw [← hlen]; exact hj
      rcases hget i x hi with ⟨hi1, hi2⟩ | ⟨rfl, rfl⟩
      · rw [hloc i hi1] at he
        by_cases hjl : j < st.mem.length
        · rw [hloc j hjl] at he
          exact h.inj i j x hi2 hmine hjl he
        · obtain rfl : j = st.mem.length := by omega
          rw [hnew] at he
          have := (h.priv i x hi2 hmine).2.1
          omega
      · rw [hnew] at he
        by_cases hjl : j < st.mem.length
        · rw [hloc j hjl] at he
          cases hx : st.mem[j]? with
          | none => rw [List.getElem?_eq_none_iff] at hx; omega
          | some y =>
            cases hy : y.mine with
            | true =>
              have := (h.priv j y hx hy).2.1
              omega
            | false =>
              exfalso
              cases y with
              | frz cs =>
                have hb := (h.mem j _ hx).1
                have := (h.stbLt _ hb).1
                omega
              | dead => exact (h.mem j _ hx).elim
              | cells cs => simp [MB.mine] at hy
              | siter s p => simp [MB.mine] at hy
              | miter _ _ _ _ _ _ => simp [MB.mine] at hy
        · omega
    · intro t ht' b hb'
      obtain ⟨h1, h2, h3⟩ := h'.ownPriv t (htg t ht') b hb'
      refine ⟨h1, h2, fun j hj => ?_⟩
      have hj' : j < st.mem.length + 1 := by rw [← hlen]; exact hj
      by_cases hjl : j < st.mem.length
      · rw [hloc j hjl]; exact h3 j hjl
      · obtain rfl : j = st.mem.length := by omega
        rw [hnew]
        intro e
        subst e
        obtain ⟨e, fl, hown, _⟩ := h.own t (htg t ht')
        have := (hown.lt _ hb').2
        omega
    · intro t ht' u hu b hb1 hb2
      exact h'.ownInj t (htg t ht') u (htg u hu) b hb1 hb2
  refine hI.put ?_ (by simp [tagsOf]) d
  show TRep _ _ _ (st.mem ++ [mb]).length _ _
  rw [hlen]
  simp only [TRep, hnew]
  exact ⟨by omega, trivial⟩
theorem Inv.setMem (h : Inv w0 g0 g l w st a) {j : Nat} {mb mb' : MB} (hj : st.mem[j]? = some mb) (hm : mb.mine = true) (hm' : mb'.mine = true) (ht : ∀ t ∈ mb'.tags, t ∈ st.tags)
    (hos : w'.os = w.os) (htape : w'.tape = w.tape) (hout : w'.output = w.output) (hsize : w'.heap.size = w.heap.size) (hkeep : ∀ b, b ≠ l.loc j → w'.heap[b]? = w.heap[b]?)
    (hb : BRep g l w' st.mem.length (l.loc j) mb') : Inv w0 g0 g l w' { st with mem := st.mem.set j mb' } a := by
  have hjl : j < st.mem.length := (List.getElem?_eq_some_iff.1 hj).1
  obtain ⟨p1, p2, p3, p4⟩ := h.priv j mb hj hm
  have hst : ∀ b, g.stb b → w'.heap[b]? = w.heap[b]? := fun b hb => hkeep b fun e => p3 (e ▸ hb)
  have hlen : (st.mem.set j mb').length = st.mem.length := by simp
  have htg : ∀ t ∈ ({ st with mem := st.mem.set j mb' } : St).tags, t ∈ st.tags := by
    intro t ht'
    simp only [St.tags, List.mem_append, List.mem_flatMap] at ht'
    rcases ht' with ht' | ⟨x, hx, ht'⟩
    · exact tags_tm ht'
    · rcases List.mem_or_eq_of_mem_set hx with hx | rfl
      · obtain ⟨i, hi⟩ := List.mem_iff_getElem?.1 hx
        exact tags_mem hi ht'
      · exact ht t ht'
  have hget : ∀ (i : Nat) (x : MB), (st.mem.set j mb')[i]? = some x → (i = j ∧ x = mb') ∨ (i ≠ j ∧ st.mem[i]? = some x) := by
    intro i x hi
    rw [List.getElem?_set] at hi
    by_cases e : j = i
    · subst e
      simp only [if_true] at hi
      rw [if_pos hjl] at hi
      cases hi
      exact .inl ⟨rfl, rfl⟩
    · simp only [e, if_false] at hi
      exact .inr ⟨fun e' => e e'.symm, hi⟩
  refine ⟨h.defers, ?_, ?_, ?_, ?_, ?_, ?_, fun t ht' u hu b h1 h2 => h.ownInj t (htg t ht') u (htg u hu) b h1 h2, h.heap.mono (fun b hb => hkeep b fun e => p4 (e ▸ hb)) hst (fun _ h => h) rfl rfl (by omega), ?_, fun b hb => by rw [hsize]; exact h.stbLt b hb⟩
  · show TReps _ _ _ (st.mem.set j mb').length _ _
    rw [hlen]
    exact TReps.mono hst (fun _ h => h) (fun _ _ h => h) (fun _ _ => rfl) (Nat.le_refl _) _ _ (fun _ _ => ⟨rfl, rfl, rfl⟩) h.tm
  · intro i x hi
    show BRep _ _ _ (st.mem.set j mb').length _ _
    rw [hlen]
    rcases hget i x hi with ⟨rfl, rfl⟩ | ⟨hne, hi⟩
    · exact hb
    · refine (h.mem i x hi).mono (fun hmine => hkeep _ fun e => hne (h.inj i j x hi hmine hjl e)) (fun _ _ => ⟨rfl, rfl, rfl⟩) (fun _ _ => rfl) (Nat.le_refl _) hst (fun _ h => h) (fun _ _ h => h)
  · intro t ht'
    refine (h.own t (htg t ht')).mono ⟨rfl, rfl, rfl⟩ (fun b hb' => hkeep b fun e => ?_) hst (fun _ h => h) (fun _ _ h => h)
    exact (h.ownPriv t (htg t ht') b hb').2.2 j hjl e.symm
  · intro i x hi hmine
    rw [hsize]
    rcases hget i x hi with ⟨rfl, rfl⟩ | ⟨_, hi⟩
    · exact ⟨p1, p2, p3, p4⟩
    · exact h.priv i x hi hmine
  · intro i q x hi hmine hq he
    have hq' : q < st.mem.length := by rw [← hlen]; exact hq
    rcases hget i x hi with ⟨rfl, rfl⟩ | ⟨_, hi⟩
    · exact h.inj i q mb hj hm hq' he
    · exact h.inj i q x hi hmine hq' he
  · intro t ht' b hb'
    obtain ⟨q1, q2, q3⟩ := h.ownPriv t (htg t ht') b hb'
    exact ⟨q1, q2, fun i hi => q3 i (by rw [← hlen]; exact hi)⟩
  · refine ⟨hos.trans h.ext.os, htape.trans h.ext.tape, hout.trans h.ext.output, by rw [hsize]; exact h.ext.size, fun b hb hf0 => ?_, h.ext.stb, h.ext.stbNew, h.ext.ob, h.ext.footNew⟩
    exact (hkeep b (by omega)).trans (h.ext.keep b hb hf0)
theorem updF_tags (t : Nat) (ys : List (List AV)) : ∀ c, leaf c = true → ∀ u ∈ tagsOf (updF t ys c), u ∈ tagsOf c ∧ True := by
  intro c hc u h
  refine ⟨?_, trivial⟩
  cases c <;> try exact h
  case sl t' k xs =>
    simp only [updF] at h
    cases e : Nat.beq t' t <;> rw [e] at h <;> exact h
  case ep t' k i o xs =>
    simp only [updF] at h
    cases e : Nat.beq t' t <;> rw [e] at h <;> exact h
theorem Inv.upd (h : Inv w0 g0 g l w st a) {t : Nat} (hin : t ∈ st.tags) {ys : List (List AV)} (hlen' : ys.length = (l.xc t).length)
    (hos : w'.os = w.os) (htape : w'.tape = w.tape) (hout : w'.output = w.output) (hsize : w'.heap.size = w.heap.size) (hkeep : ∀ b, (l.xv t).ownBlock ≠ some b → w'.heap[b]? = w.heap[b]?)
    (hT : OwnT w0.heap.size g (l.own t (l.xv t) (l.xk t) ys) w' t) : Inv w0 g0 g (l.own t (l.xv t) (l.xk t) ys) w' (st.mapS (updF t ys)) a := by
  have hne : ∀ b, g.stb b → (l.xv t).ownBlock ≠ some b := fun b hb e => (h.ownPriv t hin b e).1 hb
  have hst : ∀ b, g.stb b → w'.heap[b]? = w.heap[b]? := fun b hb => hkeep b (hne b hb)
  have hl : ∀ u, u ≠ t → (l.own t (l.xv t) (l.xk t) ys).xv u = l.xv u ∧ (l.own t (l.xv t) (l.xk t) ys).xc u = l.xc u ∧ (l.own t (l.xv t) (l.xk t) ys).xk u = l.xk u := fun u hu => by simp [Gl.own, hu]
  have hxv : ∀ u, (l.own t (l.xv t) (l.xk t) ys).xv u = l.xv u := fun u => by
    by_cases e : u = t
    · subst e; simp [Gl.own]
    · exact (hl u e).1
  have hbase : ∀ b, (l.xv t).ownBlock = some b → w0.heap.size ≤ b := fun b hb => by obtain ⟨e, fl, hown, _⟩ := h.own t hin; exact (hown.lt b hb).1
  have hmem : ∀ (j : Nat) (mb : MB), (st.mapS (updF t ys)).mem[j]? = some mb → ∃ mb0, st.mem[j]? = some mb0 ∧ mb = mb0.mapM (updF t ys) := by
    intro j mb hj
    simp only [St.mapS, List.getElem?_map, Option.map_eq_some_iff] at hj
    obtain ⟨mb0, h1, h2⟩ := hj
    exact ⟨mb0, h1, h2.symm⟩
  have hlen : (st.mapS (updF t ys)).mem.length = st.mem.length := by simp [St.mapS]
  have htg := tags_mapS (updF_tags t ys) st
  have hf : ∀ c v, leaf c = true → (∀ t ∈ tagsOf c, t ∈ st.tags) → TRep g l w st.mem.length c v → TRep g (l.own t (l.xv t) (l.xk t) ys) w' st.mem.length (updF t ys c) v := by
    intro c v hc hts hr
    have keep : (∀ u ∈ tagsOf c, u ≠ t) → TRep g (l.own t (l.xv t) (l.xk t) ys) w' st.mem.length c v := fun hu => TRep.mono (l := l) (l' := l.own t (l.xv t) (l.xk t) ys) hst (fun _ h => h) (fun _ _ h => h) (fun _ _ => rfl) (Nat.le_refl _) c v (fun u h => hl u (hu u h)) hr
    cases c
    case agg cs => simp [leaf] at hc
    case tup cs => simp [leaf] at hc
    case iface q b => simp [leaf] at hc
    case sl t' k xs =>
      simp only [updF]
      cases e : Nat.beq t' t
      · refine keep fun u hu e' => ?_
        subst e'
        simp only [tagsOf] at hu
        cases e0 : Nat.beq t' 0 <;> rw [e0] at hu <;> simp at hu
        subst hu
        simp at e
      · obtain rfl : t' = t := Nat.eq_of_beq_eq_true e
        have ht0 := tags_pos h t' hin
        obtain ⟨m, rfl⟩ : ∃ m, t' = m + 1 := ⟨t' - 1, by omega⟩
        simp only [TRep] at hr
        obtain ⟨rfl, rfl, rfl⟩ := hr
        simp [TRep, Gl.own]
    case ep t' k i o xs =>
      simp only [updF]
      cases e : Nat.beq t' t
      · refine keep fun u hu e' => ?_
        subst e'
        simp only [tagsOf, List.mem_singleton] at hu
        subst hu
        simp at e
      · obtain rfl : t' = t := Nat.eq_of_beq_eq_true e
        simp only [TRep] at hr
        obtain ⟨rfl, rfl, h0, hi, b, m, c, hv, rfl⟩ := hr
        simp only [cond_true, TRep, hxv]
        refine ⟨by simp [Gl.own], by simp [Gl.own], h0, by omega, b, m, c, hv, rfl⟩
    all_goals exact keep (by simp [tagsOf])
  refine ⟨h.defers, ?_, ?_, ?_, ?_, ?_, ?_, ?_, h.heap.mono (fun b hb => hkeep b fun e => (h.ownPriv t hin b e).2.1 hb) hst (fun _ h => h) rfl rfl (by omega), ?_, fun b hb => by rw [hsize]; exact h.stbLt b hb⟩
  · rw [hlen]; exact mapTs_rep hf _ _ (fun t h => tags_tm h) h.tm
  · intro j mb hj
    obtain ⟨mb0, h0, rfl⟩ := hmem j mb hj
    have hb := h.mem j mb0 h0
    have hjl : j < st.mem.length := (List.getElem?_eq_some_iff.1 h0).1
    have hsame : mb0.mine = true → w'.heap[l.loc j]? = w.heap[l.loc j]? := fun _ => hkeep _ fun e => (h.ownPriv t hin _ e).2.2 j hjl rfl
    rw [hlen]
    show BRep g _ w' st.mem.length (l.loc j) _
    cases mb0 with
    | cells cs =>
      obtain ⟨vs, e, hh, hr, h1⟩ := hb
      exact ⟨vs, e, (hsame rfl).trans hh, mapTs_rep hf cs vs (fun t ht => tags_mem h0 ht) hr, h1⟩
    | frz cs => exact BRep.mono (l' := l) hb (fun hm => by simp [MB.mine] at hm) (fun _ _ => ⟨rfl, rfl, rfl⟩) (fun _ _ => rfl) (Nat.le_refl _) hst (fun _ h => h) (fun _ _ h => h)
    | siter s p => exact (hsame rfl).trans hb
    | miter _ _ _ _ _ _ => obtain ⟨b', h1, h2, h3⟩ := hb; exact ⟨b', (hsame rfl).trans h1, h2, h3⟩
    | dead => exact hb
  · intro u hu
    by_cases e : u = t
    · subst e; exact hT
    · refine (h.own u (htg u hu).1).mono (hl u e) (fun b hb => hkeep b fun e' => e (h.ownInj u (htg u hu).1 t hin b hb e')) hst (fun _ h => h) (fun _ _ h => h)
  · intro j mb hj hm
    obtain ⟨mb0, h0, rfl⟩ := hmem j mb hj
    rw [MB.mine_map] at hm
    rw [hsize]
    exact h.priv j mb0 h0 hm
  · intro i j mb hi hm hj he
    obtain ⟨mb0, h0, rfl⟩ := hmem i mb hi
    rw [MB.mine_map] at hm
    exact h.inj i j mb0 h0 hm (by rwa [hlen] at hj) he
  · intro u hu b hb
    rw [hxv] at hb
    rw [hlen]
    exact h.ownPriv u (htg u hu).1 b hb
  · intro u hu v hv b hb hb'
    rw [hxv] at hb hb'
    exact h.ownInj u (htg u hu).1 v (htg v hv).1 b hb hb'
  · refine ⟨hos.trans h.ext.os, htape.trans h.ext.tape, hout.trans h.ext.output, by rw [hsize]; exact h.ext.size, fun b hb hf0 => ?_, h.ext.stb, h.ext.stbNew, h.ext.ob, h.ext.footNew⟩
    exact (hkeep b fun e => by have := hbase b e; omega).trans (h.ext.keep b hb hf0)
theorem Inv.killed (h : Inv w0 g0 g l w st a) {t : Nat} (hin : t ∈ st.tags) (hg : w.grownBy w' (l.xv t).ownBlock) : Inv w0 g0 g l w' (st.mapS (killF t)) a := by
  have h1 := h.kill t
  have htg := tags_mapS (killF_tags t) st
  refine h1.step0 hg.os hg.tape hg.output hg.size (fun b hb hl => hg.block b hb fun e => ?_) (fun _ h => h) (fun _ h => .inl h) rfl rfl
  have e' := e.symm
  obtain ⟨q1, q2, q3⟩ := h.ownPriv t hin b e'
  rcases hl with (hl | ⟨j, mb, hj, hm, hl⟩ | ⟨u, hu, hl⟩) | hl | hl
  · exact q1 hl
  · refine q3 j ?_ hl
    have := (List.getElem?_eq_some_iff.1 hj).1
    rwa [mapS_memlen] at this
  · exact (htg u hu).2 (h.ownInj u (htg u hu).1 t hin b hl e')
  · exact q2 hl
  · obtain ⟨e, fl, hown, _⟩ := h.own t hin
    have := (hown.lt b e').1
    omega
end
end Go.Proofs.YtgmkkjmdflhbnaaDoor.Ab
end
section
namespace Go.Proofs.YtgmkkjmdflhbnaaDoor.Ab
open Go
def zeroCell : Value → CK → Bool
  | .int k m, .int k' => decide (k = k') && decide (m = 0)
  | .bool b, .bool => !b
  | .string s, .str => decide (s = ⟨#[]⟩)
  | .pointer none, .ptr => true
  | .slice none 0 0, .slice _ => true
  | .map none, .map => true
  | .nilFunc, .func => true
  | .nilIface, .iface => true
  | v, .other => v.oneCell'
  | _, _ => false
def zeroCells : List Value → List CK → Bool
  | [], [] => true
  | v :: vs, c :: cs => zeroCell v c && zeroCells vs cs
  | _, _ => false
def isAggV : Value → Bool | .agg _ => true | _ => false
def zeroOk (P : Program) (T : List TI) (t : Nat) : Bool :=
  match (ti T t).k with
  | .other => true
  | .tuple _ => true
  | _ => match P.info? t with
    | some i => match i.zero with
      | some z => zeroCells z.cells.toList (ti T t).shape && (Nat.beq (ti T t).shape.length (ti T t).size && (isAggT T t == isAggV z))
      | none => false
    | none => true
structure TabOk (P : Program) (T : List TI) : Prop where
  tys : tysOf P = T
  zeros : (List.range T.length).all (zeroOk P T) = true
section
variable {P : Program} {T : List TI}
theorem TabOk.get (h : TabOk P T) {t : Nat} (ht : (ti T t).k ≠ .other) : t < T.length ∧ ti T t = tyOf P t := by
  have hl : T.length = P.types.size := by rw [← h.tys]; simp [tysOf]
  by_cases hlt : t < T.length
  · refine ⟨hlt, ?_⟩
    have : T[t]? = some (tyOf P t) := by rw [← h.tys]; simp [tysOf, List.getElem?_range (by omega : t < P.types.size)]
    simp [ti, List.getD_eq_getElem?_getD, this]
  · exact absurd (by simp [ti, List.getD_eq_getElem?_getD, List.getElem?_eq_none (Nat.le_of_not_lt hlt)]) ht
theorem TabOk.k (h : TabOk P T) {t : Nat} (ht : (ti T t).k ≠ .other) : (ti T t).k = tkOf P t := by rw [(h.get ht).2]; rfl
theorem TabOk.size (h : TabOk P T) {t : Nat} (ht : (ti T t).k ≠ .other) : (ti T t).size = P.cellsOf t := by rw [(h.get ht).2]; rfl
theorem TabOk.bytes (h : TabOk P T) {t : Nat} (ht : (ti T t).k ≠ .other) : (ti T t).bytes = P.bytesOf t := by rw [(h.get ht).2]; rfl
theorem TabOk.shape (h : TabOk P T) {t : Nat} (ht : (ti T t).k ≠ .other) : (ti T t).shape = shapeOf P 20 t := by rw [(h.get ht).2]; rfl
theorem TabOk.info (h : TabOk P T) {t : Nat} (ht : (ti T t).k ≠ .other) : ∃ i, P.info? t = some i ∧ i.size = (ti T t).size ∧ i.bytes = (ti T t).bytes := by
  have hk := h.k ht
  cases hi : P.info? t with
  | none =>
    exfalso
    apply ht
    rw [hk]
    simp [tkOf, Program.underlying, hi]
  | some i => exact ⟨i, rfl, by rw [h.size ht]; simp [Program.cellsOf, hi], by rw [h.bytes ht]; simp [Program.bytesOf, hi]⟩
theorem TabOk.run_size (h : TabOk P T) {t : Nat} (ht : (ti T t).k ≠ .other) (w : World) : (sizeOf t).run P w = .ok (ti T t).size w := by
  obtain ⟨i, hi, hs, _⟩ := h.info ht
  simp [sizeOf, typeInfo, hi, hs]
theorem TabOk.under (h : TabOk P T) {t : Nat} (ht : (ti T t).k ≠ .other) : ∃ d, P.underlying t = some d ∧ (ti T t).k = (match d with
    | .int k => .int k | .bool => .bool | .string => .str | .pointer e => .ptr e | .slice e => .slice e | .struct fs => .struct (fs.toList.map fun f => (f.offset, f.type))
    | .array n e => .array n e | .map k e => .map k e | .func .. => .func | .interface _ => .iface | .tuple es => .tuple es.toList | _ => TK.other) := by
  have hk := h.k ht
  cases hu : P.underlying t with
  | none => exfalso; apply ht; rw [hk]; simp [tkOf, hu]
  | some d =>
    refine ⟨d, rfl, ?_⟩
    rw [hk]
    simp only [tkOf, hu]
    cases d <;> rfl
theorem TabOk.u_int (h : TabOk P T) {t : Nat} {k : IntKind} (ht : (ti T t).k = .int k) : P.underlying t = some (.int k) := by
  obtain ⟨d, hd, hk⟩ := h.under (t := t) (by rw [ht]; simp)
  rw [ht] at hk
  cases d <;> simp_all
theorem TabOk.u_str (h : TabOk P T) {t : Nat} (ht : (ti T t).k = .str) : P.underlying t = some .string := by
  obtain ⟨d, hd, hk⟩ := h.under (t := t) (by rw [ht]; simp)
  rw [ht] at hk
  cases d <;> first | exact hd | (simp at hk; done)
theorem TabOk.u_slice (h : TabOk P T) {t e : Nat} (ht : (ti T t).k = .slice e) : P.underlying t = some (.slice e) := by
  obtain ⟨d, hd, hk⟩ := h.under (t := t) (by rw [ht]; simp)
  rw [ht] at hk
  cases d <;> simp_all
theorem TabOk.u_array (h : TabOk P T) {t n e : Nat} (ht : (ti T t).k = .array n e) : P.underlying t = some (.array n e) := by
  obtain ⟨d, hd, hk⟩ := h.under (t := t) (by rw [ht]; simp)
  rw [ht] at hk
  cases d <;> simp_all
theorem TabOk.u_struct (h : TabOk P T) {t : Nat} {fs : List (Nat × Nat)} (ht : (ti T t).k = .struct fs) : ∃ fa : Array Field, P.underlying t = some (.struct fa) ∧ fs = fa.toList.map fun f => (f.offset, f.type) := by
  obtain ⟨d, hd, hk⟩ := h.under (t := t) (by rw [ht]; simp)
  rw [ht] at hk
  cases d with
  | struct fa => exact ⟨fa, hd, by simpa using hk⟩
  | _ => simp at hk
theorem TabOk.run_isAgg (h : TabOk P T) {t : Nat} (ht : (ti T t).k ≠ .other) (w : World) : (isAgg t).run P w = .ok (isAggT T t) w := by
  obtain ⟨d, hd, hk⟩ := h.under ht
  have : (underlying t).run P w = .ok d w := by simp [Go.underlying, hd]
  simp only [isAgg, Sem.run_bind, this, Result.andThen, isAggT, hk]
  cases d <;> rfl
end
section
variable {P : Program} {w0 : World} {g0 g : Gs} {l : Gl} {w : World} {st : St} {a : Act}
theorem constAV_rep (n : Nat) (v : Value) : TRep g l w n (constAV v) v := by
  cases v
  case pointer p => cases p <;> simp [constAV, TRep]
  case map p => cases p <;> simp [constAV, TRep]
  case slice p m c =>
    cases p with
    | some p => simp [constAV, TRep]
    | none => cases m <;> cases c <;> simp [constAV, TRep]
  case agg cs =>
    simp only [constAV, TRep]
    refine ⟨cs.toList, by simp, TReps.mk (by simp) fun i c v hc hv => ?_⟩
    simp only [List.getElem?_map, Option.map_eq_some_iff] at hc
    obtain ⟨v', hv', rfl⟩ := hc
    rw [hv] at hv'
    cases hv'
    cases v
    case pointer p => cases p <;> simp [TRep]
    case map p => cases p <;> simp [TRep]
    case slice p m c =>
      cases p with
      | some p => simp [TRep]
      | none => cases m <;> cases c <;> simp [TRep]
    all_goals simp [TRep]
  all_goals simp [constAV, TRep]
theorem constAV_tags (v : Value) : tagsOf (constAV v) = [] := by
  cases v
  case pointer p => cases p <;> simp [constAV, tagsOf]
  case map p => cases p <;> simp [constAV, tagsOf]
  case slice p m c =>
    cases p with
    | some p => simp [constAV, tagsOf]
    | none => cases m <;> cases c <;> simp [constAV, tagsOf]
  case agg cs =>
    simp only [constAV, tagsOf]
    refine List.eq_nil_iff_forall_not_mem.2 fun t ht => ?_
    · obtain ⟨i, c, hc, ht⟩ := tagsOfs_iff ht
      simp only [List.getElem?_map, Option.map_eq_some_iff] at hc
      obtain ⟨v, hv, rfl⟩ := hc
      cases v
      case pointer p => cases p <;> simp [tagsOf] at ht
      case map p => cases p <;> simp [tagsOf] at ht
      case slice p m c =>
        cases p with
        | some p => simp [tagsOf] at ht
        | none => cases m <;> cases c <;> simp [tagsOf] at ht
      all_goals simp [tagsOf] at ht
  all_goals simp [constAV, tagsOf]
theorem lookup_mem {α : Type} {g : Nat} {p : α} : ∀ {l : List (Nat × α)}, l.lookup g = some p → (g, p) ∈ l
  | [], h => by cases h
  | (a, b) :: r, h => by
    rw [List.lookup_cons] at h
    by_cases e : g = a
    · subst e
      simp only [BEq.rfl] at h
      cases h
      simp
    · have : (g == a) = false := by simpa using e
      rw [this] at h
      exact List.mem_cons_of_mem _ (lookup_mem h)
theorem Inv.operand (h : Inv w0 g0 g l w st a) (x : Operand) : TRep g l w st.mem.length (ρ st.tm x) (a.eval x) ∧ ∀ t ∈ tagsOf (ρ st.tm x), t ∈ st.tags := by
  cases x with
  | tmp t =>
    simp only [ρ, Act.eval]
    cases hc : st.tm[t]? with
    | none =>
      simp only [List.getD_eq_getElem?_getD, hc, Option.getD_none]
      exact ⟨by simp [TRep], by simp [tagsOf]⟩
    | some c =>
      obtain ⟨v, hv, hr⟩ := h.tm.get hc
      have hv' : a.tmps[t]? = some v := by simpa using hv
      simp only [List.getD_eq_getElem?_getD, hc, Option.getD_some, Array.getD_eq_getD_getElem?, hv']
      exact ⟨hr, fun u hu => tags_tm (tagsOfs_get hc u hu)⟩
  | const v => exact ⟨constAV_rep _ v, by simp [ρ, constAV_tags]⟩
  | global g =>
    simp only [ρ]
    cases hl : fxT.lookup g with
    | none => exact ⟨by simp [TRep], by simp [tagsOf]⟩
    | some p =>
      have hm : (g, p) ∈ fxT := lookup_mem hl
      obtain ⟨h1, h2⟩ := h.heap.fx _ hm
      simp only [Option.isSome_some, cond_true]
      refine ⟨?_, by simp [tagsOf]⟩
      simp only [TRep, Act.eval]
      have hg : gl g = p.2.map (AV.int p.1) := by simp only [gl, hl]
      rw [hg]
      refine .rp g 0 0 _ (fun i => .int p.1 (p.2.getD i 0)) h1 (fun i hi => ?_) (fun i hi => rfl) (fun i c hc => ?_)
      · rw [List.length_map] at hi
        rw [Nat.zero_add]
        exact h2.cell (by simp [List.getD_eq_getElem?_getD, List.getElem?_eq_getElem hi])
      · rw [List.getElem?_map] at hc
        cases hp : p.2[i]? with
        | none => rw [hp] at hc; cases hc
        | some n =>
          rw [hp] at hc
          simp only [Option.map_some, Option.some.injEq] at hc
          subst hc
          simp only [List.getD_eq_getElem?_getD, hp, Option.getD_some]
          exact .int _ _
  | func f => exact ⟨by simp only [ρ, TRep, Act.eval]; exact .fn f [] [] rfl (by simp), by simp [ρ, tagsOf]⟩
end
theorem Rep.tags {w : World} {stb : Nat → Prop} {ob : Nat → Option Nat} {x : AV} {v : Value} (h : Rep w stb ob x v) : tagsOf x = [] := by
  have many : ∀ (cs : List AV) (vs : List Value), cs.length = vs.length → (∀ (i : Nat) (c : AV) (v : Value), cs[i]? = some c → vs[i]? = some v → tagsOf c = []) → tagsOfs cs = [] := by
    intro cs vs hl hr
    refine List.eq_nil_iff_forall_not_mem.2 fun t ht => ?_
    obtain ⟨i, c, hc, ht⟩ := tagsOfs_iff ht
    have hi : i < vs.length := by rw [← hl]; exact (List.getElem?_eq_some_iff.1 hc).1
    rw [hr i c vs[i] hc (List.getElem?_eq_getElem hi)] at ht
    simp at ht
  induction h with
  | agg cs vs hl hr ih => exact many cs vs hl ih
  | tup cs vs hl hr ih => exact many cs vs hl ih
  | iface t a v h ih => exact ih
  | _ => rfl
def NormRel (x y : AV) : Prop := x.notAny = true ∧ ∀ (w : World) (stb : Nat → Prop) (ob : Nat → Option Nat) (v : Value), Rep w stb ob x v → Rep w stb ob y v
theorem norm_out {c : CK} {x : AV} {K : AV → Prop} (h : norm c x K) : ∃ y, K y ∧ NormRel x y ∧ ∀ K' : AV → Prop, K' y → norm c x K' := by
  cases c <;> simp only [norm] at h ⊢
  case int k =>
    cases x <;> simp only [AV.isInt, G, cond_false] at h
    rename_i k' n
    cases hk : decide (k = k') <;> rw [hk] at h <;> simp only [cond_false, cond_true] at h
    have hk' := of_decide_eq_true hk
    subst hk'
    exact ⟨_, h, ⟨rfl, fun _ _ _ _ h => h⟩, fun K' h => by simpa [G, AV.isInt] using h⟩
  case bool =>
    cases x <;> simp only [AV.isBool, G, cond_false] at h
    exact ⟨_, h, ⟨rfl, fun _ _ _ _ h => h⟩, fun K' h => by simpa [G, AV.isBool] using h⟩
  case str =>
    cases x <;> simp only [AV.isStr, G, cond_false] at h
    exact ⟨_, h, ⟨rfl, fun _ _ _ _ h => h⟩, fun K' h => by simpa [G, AV.isStr] using h⟩
  case slice k =>
    cases x <;> simp only [AV.isSl, G, cond_false, cond_true] at h
    case nilsl =>
      refine ⟨_, h, ⟨rfl, fun w stb ob v hv => ?_⟩, fun K' h => by simpa [G, AV.isSl] using h⟩
      cases hv
      exact .sl0 _ _ _
    case sl t k' xs =>
      cases t with
      | succ t => simp only [cond_false] at h
      | zero =>
        simp only at h
        cases hk : Nat.beq k k' <;> rw [hk] at h <;> simp only [cond_false, cond_true] at h
        have hk' := Nat.eq_of_beq_eq_true hk
        subst hk'
        exact ⟨_, h, ⟨rfl, fun _ _ _ _ h => h⟩, fun K' h => by simpa [G, AV.isSl] using h⟩
  case ptr =>
    cases x <;> simp only [AV.isObj, AV.isNilp, AV.objJ, G, cond_false, cond_true] at h
    case nilp => exact ⟨_, h, ⟨rfl, fun _ _ _ _ h => h⟩, fun K' h => by simpa [G, AV.isObj, AV.isNilp] using h⟩
    case obj j o =>
      cases o with
      | zero => exact ⟨_, h, ⟨rfl, fun _ _ _ _ h => h⟩, fun K' h => by simpa [G, AV.isObj, AV.objJ] using h⟩
      | succ o => exact h.elim
  case map =>
    cases x <;> simp only [AV.isMap, AV.isNilmap, AV.mapJ, G, cond_false, cond_true] at h
    · exact ⟨_, h, ⟨rfl, fun _ _ _ _ h => h⟩, fun K' h => by simpa [G, AV.isMap, AV.mapJ] using h⟩
    · exact ⟨_, h, ⟨rfl, fun _ _ _ _ h => h⟩, fun K' h => by simpa [G, AV.isMap, AV.isNilmap] using h⟩
  case iface =>
    cases x <;> simp only [AV.isIf, AV.isNilif, AV.ifT, AV.ifV, G, cond_false, cond_true] at h
    · exact ⟨_, h, ⟨rfl, fun _ _ _ _ h => h⟩, fun K' h => by simpa [G, AV.isIf, AV.ifT, AV.ifV] using h⟩
    · exact ⟨_, h, ⟨rfl, fun _ _ _ _ h => h⟩, fun K' h => by simpa [G, AV.isIf, AV.isNilif] using h⟩
  all_goals
    cases hx : x.notAny <;> rw [hx] at h <;> simp only [G, cond_false, cond_true] at h
    exact ⟨x, h, ⟨hx, fun _ _ _ _ h => h⟩, fun K' h => by simpa [G] using h⟩
theorem norm1_out {c : CK} {x : AV} {K : AV → Prop} (h : norm1 c x K) : ∃ y, K y ∧ NormRel x y ∧ ∀ K' : AV → Prop, K' y → norm1 c x K' := by
  cases c <;> simp only [norm1] at h ⊢ <;> try exact norm_out h
  case ptr =>
    cases x <;> simp only [AV.isObj, AV.objJ, G, cond_false, cond_true] at h
    rename_i j o
    cases o with
    | zero => exact ⟨_, h, ⟨rfl, fun _ _ _ _ h => h⟩, fun K' h => by simpa [G, AV.isObj, AV.objJ] using h⟩
    | succ o => exact h.elim
  case map =>
    cases x <;> simp only [AV.isMap, AV.mapJ, G, cond_false, cond_true] at h
    exact ⟨_, h, ⟨rfl, fun _ _ _ _ h => h⟩, fun K' h => by simpa [G, AV.isMap, AV.mapJ] using h⟩
theorem normO_out {c : CK} {x : AV} {K : AV → Prop} (h : normO c x K) : ∃ y, K y ∧ NormRel x y ∧ ∀ K' : AV → Prop, K' y → normO c x K' := by
  cases c <;> simp only [normO] at h ⊢ <;> try exact norm_out h
  case slice k =>
    cases x <;> simp only [AV.isHs, AV.isNilsl, AV.hsJ, AV.hsO, AV.hsN, AV.hsC, G, cond_false, cond_true] at h
    case nilsl => exact ⟨_, h, ⟨rfl, fun _ _ _ _ h => h⟩, fun K' h => by simpa [G, AV.isHs, AV.isNilsl] using h⟩
    case hs j o n c k' =>
      cases hk : Nat.beq k' k <;> rw [hk] at h <;> simp only [cond_false, cond_true] at h
      have := Nat.eq_of_beq_eq_true hk
      subst this
      exact ⟨_, h, ⟨rfl, fun _ _ _ _ h => h⟩, fun K' h => by simpa [G, AV.isHs, AV.hsJ, AV.hsO, AV.hsN, AV.hsC] using h⟩
theorem normM_out {c : CK} {x : AV} {K : AV → Prop} (h : normM c x K) : K x ∧ x.notAny = true ∧ ∀ K' : AV → Prop, K' x → normM c x K' := by
  cases c <;> simp only [normM] at h ⊢
  case int k =>
    cases x <;> simp only [AV.isInt, G, cond_false] at h
    rename_i k' n
    cases hk : decide (k = k') <;> rw [hk] at h <;> simp only [cond_false, cond_true] at h
    have hk' := of_decide_eq_true hk
    subst hk'
    exact ⟨h, rfl, fun K' h => by simpa [G, AV.isInt, AV.toInt] using h⟩
  case bool =>
    cases x <;> simp only [AV.isBool, G, cond_false] at h
    exact ⟨h, rfl, fun K' h => by simpa [G, AV.isBool, AV.toBool] using h⟩
  case str =>
    cases x <;> simp only [AV.isStr, G, cond_false] at h
    exact ⟨h, rfl, fun K' h => by simpa [G, AV.isStr, AV.toStr] using h⟩
  all_goals
    cases hx : x.notAny <;> rw [hx] at h <;> simp only [G, cond_false, cond_true] at h
    exact ⟨h, rfl, fun K' h => by simpa [G] using h⟩
theorem normL_out {get : Nat → AV} : ∀ {cs : List CK} {o : Nat} {K : List AV → Prop}, normL get cs o K →
    ∃ ys, K ys ∧ ys.length = cs.length ∧ (∀ (i : Nat) (y : AV), ys[i]? = some y → NormRel (get (o + i)) y) ∧ ∀ K' : List AV → Prop, K' ys → normL get cs o K'
  | [], o, K, h => ⟨[], h, rfl, by simp, fun K' h => h⟩
  | c :: cs, o, K, h => by
    simp only [normL] at h ⊢
    obtain ⟨y, h, hr, hd⟩ := norm_out h
    obtain ⟨ys, h, hl, hrs, hds⟩ := normL_out h
    refine ⟨y :: ys, h, by simp [hl], fun i z hz => ?_, fun K' hK => hd _ (hds _ hK)⟩
    cases i with
    | zero => simp at hz; subst hz; exact hr
    | succ i =>
      have := hrs i z (by simpa using hz)
      rwa [show o + 1 + i = o + (i + 1) by omega] at this
theorem normOL_out {get : Nat → AV} : ∀ {cs : List CK} {o : Nat} {K : List AV → Prop}, normOL get cs o K →
    ∃ ys, K ys ∧ ys.length = cs.length ∧ (∀ (i : Nat) (y : AV), ys[i]? = some y → NormRel (get (o + i)) y) ∧ ∀ K' : List AV → Prop, K' ys → normOL get cs o K'
  | [], o, K, h => ⟨[], h, rfl, by simp, fun K' h => h⟩
  | c :: cs, o, K, h => by
    simp only [normOL] at h ⊢
    obtain ⟨y, h, hr, hd⟩ := normO_out h
    obtain ⟨ys, h, hl, hrs, hds⟩ := normOL_out h
    refine ⟨y :: ys, h, by simp [hl], fun i z hz => ?_, fun K' hK => hd _ (hds _ hK)⟩
    cases i with
    | zero => simp at hz; subst hz; exact hr
    | succ i =>
      have := hrs i z (by simpa using hz)
      rwa [show o + 1 + i = o + (i + 1) by omega] at this
theorem normML_out {get : Nat → AV} : ∀ {cs : List CK} {o : Nat} {K : List AV → Prop}, normML get cs o K →
    ∃ ys, K ys ∧ ys.length = cs.length ∧ (∀ (i : Nat) (y : AV), ys[i]? = some y → y = get (o + i) ∧ y.notAny = true) ∧ ∀ K' : List AV → Prop, K' ys → normML get cs o K'
  | [], o, K, h => ⟨[], h, rfl, by simp, fun K' h => h⟩
  | c :: cs, o, K, h => by
    simp only [normML] at h ⊢
    obtain ⟨h, hr, hd⟩ := normM_out h
    obtain ⟨ys, h, hl, hrs, hds⟩ := normML_out h
    refine ⟨get o :: ys, h, by simp [hl], fun i z hz => ?_, fun K' hK => hd _ (hds _ hK)⟩
    cases i with
    | zero => simp at hz; subst hz; exact ⟨rfl, hr⟩
    | succ i =>
      have := hrs i z (by simpa using hz)
      rwa [show o + 1 + i = o + (i + 1) by omega] at this
theorem getD_notAny {cs : List AV} {i : Nat} (h : (cs.getD i .any).notAny = true) : ∃ c, cs[i]? = some c ∧ cs.getD i .any = c := by
  rw [List.getD_eq_getElem?_getD] at h ⊢
  cases hc : cs[i]? with
  | none => rw [hc] at h; simp [AV.notAny] at h
  | some c => exact ⟨c, rfl, rfl⟩
end Go.Proofs.YtgmkkjmdflhbnaaDoor.Ab
end
section
namespace Go.Proofs.YtgmkkjmdflhbnaaDoor.Ab
open Go
section
variable {P : Program} {T : List TI}
theorem TabOk.shape_other (h : TabOk P T) {t : Nat} (ht : (ti T t).k = .other) : (ti T t).shape.headD .other = .other := by
  have hl : T.length = P.types.size := by rw [← h.tys]; simp [tysOf]
  by_cases hlt : t < T.length
  · have : T[t]? = some (tyOf P t) := by rw [← h.tys]; simp [tysOf, List.getElem?_range (by omega : t < P.types.size)]
    have e : ti T t = tyOf P t := by simp [ti, List.getD_eq_getElem?_getD, this]
    rw [e] at ht ⊢
    have h1 : tkOf P t = .other := ht
    show (shapeOf P (19 + 1) t).headD .other = .other
    unfold tkOf at h1
    unfold shapeOf
    generalize (19 : Nat) = m
    cases hu : P.underlying t with
    | none => rfl
    | some d => rw [hu] at h1; cases d <;> first | rfl | (simp at h1; done)
  · simp [ti, List.getD_eq_getElem?_getD, List.getElem?_eq_none (Nat.le_of_not_lt hlt)]
theorem zeroCell_out {x : Value} {c : CK} (h : zeroCell x c = true) : (∀ (g : Gs) (l : Gl) (w : World) (n : Nat), TRep g l w n c.zero x ∧ Rep w g.stb g.ob c.zero x) ∧ x.oneCell' = true := by
  cases c
  case int k =>
    cases x <;> simp only [zeroCell, Bool.false_eq_true, Bool.and_eq_true, decide_eq_true_eq] at h
    obtain ⟨rfl, rfl⟩ := h
    exact ⟨fun _ _ _ _ => ⟨by simp [CK.zero, TRep], .int _ _⟩, rfl⟩
  case bool =>
    cases x <;> simp only [zeroCell, Bool.false_eq_true, Bool.not_eq_true'] at h
    subst h
    exact ⟨fun _ _ _ _ => ⟨by simp [CK.zero, TRep], .bool _⟩, rfl⟩
  case str =>
    cases x <;> simp only [zeroCell, Bool.false_eq_true, decide_eq_true_eq] at h
    subst h
    exact ⟨fun _ _ _ _ => ⟨by simp [CK.zero, TRep], .str _⟩, rfl⟩
  case ptr =>
    cases x <;> try (simp [zeroCell] at h; done)
    case pointer p => cases p with
      | none => exact ⟨fun _ _ _ _ => ⟨by simp [CK.zero, TRep], .nilp⟩, rfl⟩
      | some a => simp [zeroCell] at h
  case slice k =>
    cases x <;> try (simp [zeroCell] at h; done)
    case slice p n m => cases p with
      | none => cases n with
        | zero => cases m with
          | zero => exact ⟨fun _ _ _ _ => ⟨by simp [CK.zero, TRep], .nilsl⟩, rfl⟩
          | succ m => simp [zeroCell] at h
        | succ n => simp [zeroCell] at h
      | some a => simp [zeroCell] at h
  case map =>
    cases x <;> try (simp [zeroCell] at h; done)
    case map p => cases p with
      | none => exact ⟨fun _ _ _ _ => ⟨by simp [CK.zero, TRep], .nilmap⟩, rfl⟩
      | some a => simp [zeroCell] at h
  case func =>
    cases x <;> try (simp [zeroCell] at h; done)
    exact ⟨fun _ _ _ _ => ⟨by simp [CK.zero, TRep], .nilfn⟩, rfl⟩
  case iface =>
    cases x <;> try (simp [zeroCell] at h; done)
    exact ⟨fun _ _ _ _ => ⟨by simp [CK.zero, TRep], .niliface⟩, rfl⟩
  case other =>
    refine ⟨fun _ _ _ _ => ⟨by simp [CK.zero, TRep], .any _⟩, ?_⟩
    cases x <;> first | exact h | rfl
theorem zeroCells_out : ∀ {vs : List Value} {cs : List CK}, zeroCells vs cs = true → vs.length = cs.length ∧ ∀ (j : Nat) (x : Value) (c : CK), vs[j]? = some x → cs[j]? = some c → zeroCell x c = true
  | [], [], _ => ⟨rfl, by simp⟩
  | v :: vs, c :: cs, h => by
    simp only [zeroCells, Bool.and_eq_true] at h
    obtain ⟨h1, h2⟩ := zeroCells_out h.2
    refine ⟨by simp [h1], fun j x c hx hc => ?_⟩
    cases j with
    | zero => simp at hx hc; subst hx; subst hc; exact h.1
    | succ j => exact h2 j x c (by simpa using hx) (by simpa using hc)
  | [], _ :: _, h => by simp [zeroCells] at h
  | _ :: _, [], h => by simp [zeroCells] at h
theorem TabOk.zero (h : TabOk P T) {t : Nat} (ht : (ti T t).k ≠ .other) (htup : ∀ ts, (ti T t).k ≠ .tuple ts) : ∃ i z, P.info? t = some i ∧ i.zero = some z ∧ z.cells.toList.length = (ti T t).shape.length ∧ (ti T t).shape.length = (ti T t).size ∧
    (isAggT T t = isAggV z) ∧ ∀ (j : Nat) (x : Value) (c : CK), z.cells.toList[j]? = some x → (ti T t).shape[j]? = some c → (∀ (g : Gs) (l : Gl) (w : World) (n : Nat), TRep g l w n c.zero x ∧ Rep w g.stb g.ob c.zero x) ∧ x.oneCell' = true := by
  obtain ⟨i, hi, hsz, _⟩ := h.info ht
  have hz := (List.all_eq_true.1 h.zeros) t (List.mem_range.2 (h.get ht).1)
  unfold zeroOk at hz
  have hz' : (match P.info? t with
    | some i => match i.zero with
      | some z => zeroCells z.cells.toList (ti T t).shape && (Nat.beq (ti T t).shape.length (ti T t).size && (isAggT T t == isAggV z))
      | none => false
    | none => true) = true := by
    cases hk : (ti T t).k <;> first | exact absurd hk ht | exact absurd hk (htup _) | (rw [hk] at hz; exact hz)
  rw [hi] at hz'
  cases hzz : i.zero with
  | none => simp [hzz] at hz'
  | some z =>
    simp only [hzz, Bool.and_eq_true, beq_iff_eq] at hz'
    obtain ⟨h1, h2, h3⟩ := hz'
    obtain ⟨k1, k2⟩ := zeroCells_out h1
    exact ⟨i, z, hi, hzz, k1, Nat.eq_of_beq_eq_true h2, h3, fun j x c hx hc => zeroCell_out (k2 j x c hx hc)⟩
theorem agg_kind {t : Nat} (h : isAggT T t = true) : (ti T t).k ≠ .other ∧ ∀ ts, (ti T t).k ≠ .tuple ts := by
  unfold isAggT at h
  cases hk : (ti T t).k <;> rw [hk] at h <;> simp at h ⊢
theorem run_loadVar_agg (h : TabOk P T) {t : Nat} (ht : isAggT T t = true) {w : World} {b o : Nat} {vs : Nat → Value} (hc : ∀ i, i < (ti T t).size → w.cell? ⟨b, o + i, none⟩ = some (vs i)) :
    (loadVar t ⟨b, o, none⟩).run P w = .ok (.agg ((List.range (ti T t).size).map vs).toArray) w := by
  have hk := (agg_kind ht).1
  simp only [loadVar, Sem.run_bind, h.run_isAgg hk, Result.andThen, ht, if_true, h.run_size hk]
  rw [run_loadCells w ⟨b, o, none⟩ (ti T t).size vs (fun j hj => by rw [add_plain]; exact hc j hj)]
  simp
theorem run_loadVar_one (h : TabOk P T) {t : Nat} (hk : (ti T t).k ≠ .other) (ht : isAggT T t = false) {w : World} {b o : Nat} {v : Value} (hc : w.cell? ⟨b, o, none⟩ = some v) :
    (loadVar t ⟨b, o, none⟩).run P w = .ok v w := by
  simp only [loadVar, Sem.run_bind, h.run_isAgg hk, Result.andThen, ht, Bool.false_eq_true, if_false, run_load, hc]
end
section
variable {P : Program} {T : List TI} {w0 : World} {g0 g : Gs} {l : Gl} {w : World} {st : St} {a : Act} {t : Nat} {K : AV → Prop}
theorem head_kind (hT : TabOk P T) {x : AV} (h : norm ((ti T t).shape.headD .other) x K) : (ti T t).k ≠ .other := by
  intro he
  rw [hT.shape_other he] at h
  exact h
theorem headM_kind (hT : TabOk P T) {x : AV} (h : normM ((ti T t).shape.headD .other) x K) : (ti T t).k ≠ .other := by
  intro he
  rw [hT.shape_other he] at h
  exact h
theorem headO_kind (hT : TabOk P T) {x : AV} (h : normO ((ti T t).shape.headD .other) x K) : (ti T t).k ≠ .other := by
  intro he
  rw [hT.shape_other he] at h
  exact h
theorem load_stable (hT : TabOk P T) {cs : List AV} {o b o1 : Nat} {vs : Nat → Value} (hc : ∀ i, i < cs.length → w.cell? ⟨b, o1 + i, none⟩ = some (vs i)) (hr : ∀ (i : Nat) (c : AV), cs[i]? = some c → Rep w g.stb g.ob c (vs i))
    (h : cond (isAggT T t) (normL (fun i => cs.getD i .any) (ti T t).shape o fun l => K (.agg l)) (norm ((ti T t).shape.headD .other) (cs.getD o .any) K)) :
    ∃ av u, K av ∧ (loadVar t ⟨b, o1 + o, none⟩).run P w = .ok u w ∧ Rep w g.stb g.ob av u ∧
      ∀ K' : AV → Prop, K' av → cond (isAggT T t) (normL (fun i => cs.getD i .any) (ti T t).shape o fun l => K' (.agg l)) (norm ((ti T t).shape.headD .other) (cs.getD o .any) K') := by
  cases hagg : isAggT T t
  · rw [hagg] at h
    simp only [cond_false] at h ⊢
    have hk := head_kind hT h
    obtain ⟨y, hy, hrel, hd⟩ := norm_out h
    obtain ⟨c, hcs, he⟩ := getD_notAny hrel.1
    rw [he] at hrel
    have hlt := (List.getElem?_eq_some_iff.1 hcs).1
    exact ⟨y, vs o, hy, run_loadVar_one hT hk hagg (hc o hlt), hrel.2 _ _ _ _ (hr o c hcs), hd⟩
  · rw [hagg] at h
    simp only [cond_true] at h ⊢
    obtain ⟨ys, hy, hlen, hrel, hd⟩ := normL_out h
    obtain ⟨hk, htup⟩ := agg_kind hagg
    obtain ⟨_, _, _, _, _, hsz, _⟩ := hT.zero hk htup
    have hin : ∀ i, i < (ti T t).size → ∃ c, cs[o + i]? = some c ∧ ∀ y, ys[i]? = some y → Rep w g.stb g.ob y (vs (o + i)) := by
      intro i hi
      have hi' : i < ys.length := by omega
      have h1 := hrel i ys[i] (List.getElem?_eq_getElem hi')
      obtain ⟨c, hcs, he⟩ := getD_notAny h1.1
      refine ⟨c, hcs, fun y hy => ?_⟩
      have h2 := hrel i y hy
      rw [he] at h2
      exact h2.2 _ _ _ _ (hr _ c hcs)
    refine ⟨.agg ys, .agg ((List.range (ti T t).size).map fun i => vs (o + i)).toArray, hy, ?_, ?_, fun K' hK => hd _ hK⟩
    · refine run_loadVar_agg hT hagg fun i hi => ?_
      obtain ⟨c, hcs, _⟩ := hin i hi
      have := hc (o + i) (List.getElem?_eq_some_iff.1 hcs).1
      rwa [show o1 + o + i = o1 + (o + i) by omega]
    · refine .agg ys _ (by simp [hlen, hsz]) fun i y v hy hv => ?_
      have hi : i < (ti T t).size := by have := (List.getElem?_eq_some_iff.1 hy).1; omega
      obtain ⟨c, _, hrep⟩ := hin i hi
      rw [List.getElem?_map, List.getElem?_range hi] at hv
      simp only [Option.map_some, Option.some.injEq] at hv
      subst hv
      exact hrep y hy
theorem load_stableO (hT : TabOk P T) {cs : List AV} {o b o1 : Nat} {vs : Nat → Value} (hc : ∀ i, i < cs.length → w.cell? ⟨b, o1 + i, none⟩ = some (vs i)) (hr : ∀ (i : Nat) (c : AV), cs[i]? = some c → Rep w g.stb g.ob c (vs i))
    (h : cond (isAggT T t) (normOL (fun i => cs.getD i .any) (ti T t).shape o fun l => K (.agg l)) (normO ((ti T t).shape.headD .other) (cs.getD o .any) K)) :
    ∃ av u, K av ∧ (loadVar t ⟨b, o1 + o, none⟩).run P w = .ok u w ∧ Rep w g.stb g.ob av u ∧
      ∀ K' : AV → Prop, K' av → cond (isAggT T t) (normOL (fun i => cs.getD i .any) (ti T t).shape o fun l => K' (.agg l)) (normO ((ti T t).shape.headD .other) (cs.getD o .any) K') := by
  cases hagg : isAggT T t
  · rw [hagg] at h
    simp only [cond_false] at h ⊢
    have hk := headO_kind hT h
    obtain ⟨y, hy, hrel, hd⟩ := normO_out h
    obtain ⟨c, hcs, he⟩ := getD_notAny hrel.1
    rw [he] at hrel
    have hlt := (List.getElem?_eq_some_iff.1 hcs).1
    exact ⟨y, vs o, hy, run_loadVar_one hT hk hagg (hc o hlt), hrel.2 _ _ _ _ (hr o c hcs), hd⟩
  · rw [hagg] at h
    simp only [cond_true] at h ⊢
    obtain ⟨ys, hy, hlen, hrel, hd⟩ := normOL_out h
    obtain ⟨hk, htup⟩ := agg_kind hagg
    obtain ⟨_, _, _, _, _, hsz, _⟩ := hT.zero hk htup
    have hin : ∀ i, i < (ti T t).size → ∃ c, cs[o + i]? = some c ∧ ∀ y, ys[i]? = some y → Rep w g.stb g.ob y (vs (o + i)) := by
      intro i hi
      have hi' : i < ys.length := by omega
      have h1 := hrel i ys[i] (List.getElem?_eq_getElem hi')
      obtain ⟨c, hcs, he⟩ := getD_notAny h1.1
      refine ⟨c, hcs, fun y hy => ?_⟩
      have h2 := hrel i y hy
      rw [he] at h2
      exact h2.2 _ _ _ _ (hr _ c hcs)
    refine ⟨.agg ys, .agg ((List.range (ti T t).size).map fun i => vs (o + i)).toArray, hy, ?_, ?_, fun K' hK => hd _ hK⟩
    · refine run_loadVar_agg hT hagg fun i hi => ?_
      obtain ⟨c, hcs, _⟩ := hin i hi
      have := hc (o + i) (List.getElem?_eq_some_iff.1 hcs).1
      rwa [show o1 + o + i = o1 + (o + i) by omega]
    · refine .agg ys _ (by simp [hlen, hsz]) fun i y v hy hv => ?_
      have hi : i < (ti T t).size := by have := (List.getElem?_eq_some_iff.1 hy).1; omega
      obtain ⟨c, _, hrep⟩ := hin i hi
      rw [List.getElem?_map, List.getElem?_range hi] at hv
      simp only [Option.map_some, Option.some.injEq] at hv
      subst hv
      exact hrep y hy
theorem load_mine (hT : TabOk P T) {cs : List AV} {o b n : Nat} {vs : List Value} {e : TypeId} (hh : w.heap[b]? = some (.cells vs.toArray e (0, 0))) (hr : TReps g l w n cs vs)
    (h : cond (isAggT T t) (normML (fun i => cs.getD i .any) (ti T t).shape o fun l => K (.agg l)) (normM ((ti T t).shape.headD .other) (cs.getD o .any) K)) :
    ∃ av u, K av ∧ (loadVar t ⟨b, o, none⟩).run P w = .ok u w ∧ TRep g l w n av u ∧ (∀ t ∈ tagsOf av, t ∈ tagsOfs cs) ∧
      ∀ K' : AV → Prop, K' av → cond (isAggT T t) (normML (fun i => cs.getD i .any) (ti T t).shape o fun l => K' (.agg l)) (normM ((ti T t).shape.headD .other) (cs.getD o .any) K') := by
  have hcell : ∀ (i : Nat) (v : Value), vs[i]? = some v → w.cell? ⟨b, i, none⟩ = some v := by
    intro i v hv
    simp [World.cell?, hh, hv]
  cases hagg : isAggT T t
  · rw [hagg] at h
    simp only [cond_false] at h ⊢
    have hk := headM_kind hT h
    obtain ⟨hy, hrel, hd⟩ := normM_out h
    obtain ⟨c, hcs, he⟩ := getD_notAny hrel
    obtain ⟨v, hv, hrv⟩ := hr.get hcs
    rw [he] at hy hd
    refine ⟨c, v, hy, run_loadVar_one hT hk hagg (hcell o v hv), hrv, tagsOfs_get hcs, ?_⟩
    rw [he]
    exact hd
  · rw [hagg] at h
    simp only [cond_true] at h ⊢
    obtain ⟨ys, hy, hlen, hrel, hd⟩ := normML_out h
    obtain ⟨hk, htup⟩ := agg_kind hagg
    obtain ⟨_, _, _, _, _, hsz, _⟩ := hT.zero hk htup
    have hin : ∀ (i : Nat) (y : AV), ys[i]? = some y → cs[o + i]? = some y := by
      intro i y hy
      obtain ⟨h1, h2⟩ := hrel i y hy
      rw [h1] at h2
      obtain ⟨c, hcs, he⟩ := getD_notAny h2
      rw [h1, he]
      exact hcs
    refine ⟨.agg ys, .agg ((List.range (ti T t).size).map fun i => vs.getD (o + i) undef).toArray, hy, ?_, ?_, ?_, fun K' hK => hd _ hK⟩
    · refine run_loadVar_agg hT hagg fun i hi => ?_
      have hi' : i < ys.length := by omega
      obtain ⟨v, hv, _⟩ := hr.get (hin i ys[i] (List.getElem?_eq_getElem hi'))
      rw [hcell _ v hv, List.getD_eq_getElem?_getD, hv]; rfl
    · refine ⟨_, rfl, TReps.mk (by simp [hlen, hsz]) fun i y v hy hv => ?_⟩
      have hi : i < (ti T t).size := by have := (List.getElem?_eq_some_iff.1 hy).1; omega
      rw [List.getElem?_map, List.getElem?_range hi] at hv
      simp only [Option.map_some, Option.some.injEq] at hv
      obtain ⟨v', hv', hrv⟩ := hr.get (hin i y hy)
      rw [List.getD_eq_getElem?_getD, hv'] at hv
      simp at hv
      subst hv
      exact hrv
    · intro u hu
      simp only [tagsOf] at hu
      obtain ⟨i, y, hy, hu⟩ := tagsOfs_iff hu
      exact tagsOfs_get (hin i y hy) u hu
theorem isRows_eq {x : HB} {k : Nat} (h : x.isRows k = true) : ∃ xs, x = .rows k xs := by
  cases x with
  | rows k' xs => exact ⟨xs, by rw [Nat.eq_of_beq_eq_true h]⟩
  | _ => simp [HB.isRows] at h
theorem isCells_eq {x : HB} (h : x.isCells = true) : ∃ cs, x = .cells cs := by
  cases x with
  | cells cs => exact ⟨cs, rfl⟩
  | _ => simp [HB.isCells] at h
theorem HOK.rows {H : Heap} (h : HOK g w H) {j b k : Nat} (ho : g.ob j = some b) {xs : List (List AV)} (hj : H.get j = .rows k xs) :
    g.foot b ∧ ∃ vs e, w.heap[b]? = some (.cells (List.toArray vs) e (0, 0)) ∧ vs.length = xs.length * k ∧ 0 < k ∧ xs.length ≤ maxLen ∧ (∀ x ∈ xs, x.length = k) ∧ (∀ u ∈ vs, u.oneCell' = true) ∧
      ∀ (i : Nat) (x : List AV) (j : Nat) (c : AV), xs[i]? = some x → x[j]? = some c → ∃ v, vs[i * k + j]? = some v ∧ Rep w g.stb g.ob c v := by
  obtain ⟨b', h1, h2, h3, h4⟩ := h.live j (by rw [hj]; simp)
  rw [ho] at h1
  cases h1
  rw [hj] at h4
  exact ⟨h2, h4⟩
theorem isMap_eq {x : HB} (h : x.isMap = true) : ∃ es c, x = .map es c := by
  cases x with
  | map es c => exact ⟨es, c, rfl⟩
  | _ => simp [HB.isMap] at h
theorem HOK.map {H : Heap} (h : HOK g w H) {j b c : Nat} (ho : g.ob j = some b) {es : List (Nat × AV × AV)} (hj : H.get j = .map es c) :
    g.foot b ∧ ∃ vs : List MapEntry, w.heap[b]? = some (.map vs.toArray c) ∧ vs.length = es.length ∧ ∀ (i : Nat) (a : Nat × AV × AV) (v : MapEntry), es[i]? = some a → vs[i]? = some v → v.born = a.1 ∧ Rep w g.stb g.ob a.2.1 v.key ∧ Rep w g.stb g.ob a.2.2 v.val := by
  obtain ⟨b', h1, h2, h3, h4⟩ := h.live j (by rw [hj]; simp)
  rw [ho] at h1
  cases h1
  rw [hj] at h4
  exact ⟨h2, h4⟩
theorem HOK.cells {H : Heap} (h : HOK g w H) {j b : Nat} (ho : g.ob j = some b) {cs : List AV} (hj : H.get j = .cells cs) :
    g.foot b ∧ ∃ vs e, w.heap[b]? = some (.cells (List.toArray vs) e (0, 0)) ∧ vs.length = cs.length ∧ (∀ u ∈ vs, u.oneCell' = true) ∧
      ∀ (i : Nat) (c : AV) (v : Value), cs[i]? = some c → vs[i]? = some v → Rep w g.stb g.ob c v := by
  obtain ⟨b', h1, h2, h3, h4⟩ := h.live j (by rw [hj]; simp)
  rw [ho] at h1
  cases h1
  rw [hj] at h4
  exact ⟨h2, h4⟩
theorem cell_of_list {vs : List Value} {e : TypeId} {b i : Nat} {v : Value} (hh : w.heap[b]? = some (.cells vs.toArray e (0, 0))) (hv : vs[i]? = some v) : w.cell? ⟨b, i, none⟩ = some v := by
  simp [World.cell?, hh, hv]
theorem loadAt_sound (hT : TabOk P T) (hI : Inv w0 g0 g l w st a) {p : AV} {v : Value} (hp : TRep g l w st.mem.length p v) (hpt : ∀ t ∈ tagsOf p, t ∈ st.tags) (h : loadAt T st.mem st.H t p K) :
    ∃ av u, K av ∧ (Instr.loadAt t v).run P w = .ok u w ∧ TRep g l w st.mem.length av u ∧ (∀ t ∈ tagsOf av, t ∈ st.tags) ∧ ∀ K' : AV → Prop, K' av → loadAt T st.mem st.H t p K' := by
  have run : ∀ b o, (Instr.loadAt t (.pointer (some ⟨b, o, none⟩))).run P w = (loadVar t ⟨b, o, none⟩).run P w := fun b o => by simp [Instr.loadAt, Instr.sureAddr]
  cases p <;> simp only [loadAt] at h ⊢
  case ptr j o =>
    simp only [TRep] at hp
    obtain ⟨hj, rfl⟩ := hp
    have hjm : st.mem[j]? = some (st.mem.getD j .dead) := by rw [List.getD_eq_getElem?_getD, List.getElem?_eq_getElem hj]; rfl
    rw [run]
    cases hmb : st.mem.getD j .dead <;> rw [hmb] at h hjm <;> simp only at h ⊢
    case cells cs =>
      obtain ⟨vs, e, hh, hr, h1⟩ := hI.mem j _ hjm
      obtain ⟨av, u, k1, k2, k3, k4, k5⟩ := load_mine hT hh hr h
      exact ⟨av, u, k1, k2, k3, fun t ht => tags_mem hjm (k4 t ht), k5⟩
    case frz cs =>
      obtain ⟨hst, vs, hc, h1, hr⟩ := hI.mem j _ hjm
      obtain ⟨av, u, k1, k2, k3, k5⟩ := load_stable (g := g) (b := l.loc j) (o1 := 0) hT (fun i hi => by rw [Nat.zero_add]; exact hc i hi) hr h
      rw [Nat.zero_add] at k2
      exact ⟨av, u, k1, k2, TRep.of_rep k3, by rw [k3.tags]; simp, k5⟩
  case rp cs o =>
    simp only [TRep] at hp
    cases hp with
    | rp b o1 o cs vs hb hc h1 hr =>
      rw [run]
      obtain ⟨av, u, k1, k2, k3, k5⟩ := load_stable (g := g) hT hc hr h
      exact ⟨av, u, k1, k2, TRep.of_rep k3, by rw [k3.tags]; simp, k5⟩
  case ep tg k i o xs =>
    simp only [TRep] at hp
    obtain ⟨rfl, rfl, h0, hi, b, m, c, hv, rfl⟩ := hp
    have hin := hpt tg (by simp [tagsOf])
    rcases (hI.own tg hin).parts with ⟨h1, h2⟩ | ⟨b', c', vs, hv', _, hlt, hn, hm, hc, h1, hr⟩
    · rw [h2] at hi; simp at hi
    · rw [hv] at hv'
      simp only [Value.slice.injEq, Option.some.injEq, Addr.mk.injEq] at hv'
      obtain ⟨⟨rfl, _⟩, _⟩ := hv'
      have hget : (l.xc tg)[i]? = some ((l.xc tg).getD i []) := by rw [List.getD_eq_getElem?_getD, List.getElem?_eq_getElem hi]; rfl
      have hx : ((l.xc tg).getD i []).length = l.xk tg := (hI.own tg hin).size _ (List.mem_of_getElem? hget)
      rw [run]
      obtain ⟨av, u, k1, k2, k3, k5⟩ := load_stable (g := g) (b := b) (o1 := i * l.xk tg) (vs := vs i) hT (fun j hj => by
        have := hc i j hi (by omega)
        rwa [Nat.zero_add] at this) (fun j c hj => hr i _ j c hget hj) h
      exact ⟨av, u, k1, k2, TRep.of_rep k3, by rw [k3.tags]; simp, k5⟩
  case he j k i o =>
    obtain ⟨hr, h⟩ := G_out h
    obtain ⟨xs, hx⟩ := isRows_eq hr
    rw [hx] at h ⊢
    simp only [HB.xs, TRep] at h hp ⊢
    cases hp with
    | he _ b _ _ _ ho =>
      obtain ⟨_, vs, e, hh, hl, hk, hm, hxl, h1, hrep⟩ := hI.heap.rows ho hx
      rw [run]
      have hrow : ∀ (q : Nat) (c : AV), (xs.getD i [])[q]? = some c → ∃ v, vs[i * k + q]? = some v ∧ Rep w g.stb g.ob c v := by
        intro q c hc
        rw [List.getD_eq_getElem?_getD] at hc
        cases hxi : xs[i]? with
        | none => rw [hxi] at hc; simp at hc
        | some y => rw [hxi] at hc; exact hrep i y q c hxi hc
      obtain ⟨av, u, k1, k2, k3, k5⟩ := load_stable (g := g) (b := b) (o1 := i * k) (vs := fun q => (vs[i * k + q]?).getD undef) hT (fun q hq => by
        obtain ⟨v, hv, _⟩ := hrow q _ (List.getElem?_eq_getElem hq)
        rw [cell_of_list hh hv, hv]; rfl) (fun q c hq => by
        obtain ⟨v, hv, hr⟩ := hrow q c hq
        rw [hv]; exact hr) h
      exact ⟨av, u, k1, k2, TRep.of_rep k3, by rw [k3.tags]; simp, fun K' hK => G_in (by simp [HB.isRows]) (k5 K' hK)⟩
  case obj j o =>
    obtain ⟨hr, h⟩ := G_out h
    obtain ⟨cs, hx⟩ := isCells_eq hr
    rw [hx] at h ⊢
    simp only [HB.cs, TRep] at h hp ⊢
    cases hp with
    | obj _ b _ ho =>
      obtain ⟨_, vs, e, hh, hl, h1, hrep⟩ := hI.heap.cells ho hx
      rw [run]
      have hcell : ∀ (q : Nat) (c : AV), cs[q]? = some c → ∃ v, vs[q]? = some v ∧ Rep w g.stb g.ob c v := by
        intro q c hc
        have hq : q < vs.length := by rw [hl]; exact (List.getElem?_eq_some_iff.1 hc).1
        exact ⟨_, List.getElem?_eq_getElem hq, hrep q c _ hc (List.getElem?_eq_getElem hq)⟩
      obtain ⟨av, u, k1, k2, k3, k5⟩ := load_stableO (g := g) (b := b) (o1 := 0) (vs := fun q => (vs[q]?).getD undef) hT (fun q hq => by
        obtain ⟨v, hv, _⟩ := hcell q _ (List.getElem?_eq_getElem hq)
        rw [Nat.zero_add, cell_of_list hh hv, hv]; rfl) (fun q c hq => by
        obtain ⟨v, hv, hr⟩ := hcell q c hq
        rw [hv]; exact hr) h
      rw [Nat.zero_add] at k2
      exact ⟨av, u, k1, k2, TRep.of_rep k3, by rw [k3.tags]; simp, fun K' hK => G_in (by simp [HB.isCells]) (k5 K' hK)⟩
end
end Go.Proofs.YtgmkkjmdflhbnaaDoor.Ab
end
section
namespace Go.Proofs.YtgmkkjmdflhbnaaDoor.Ab
open Go
theorem const_int {v : Value} {k : IntKind} {n : Int} (h : constAV v = .int k n) : v = .int k n := by
  unfold constAV at h
  split at h <;> first | (simp at h; done) | (simp at h; obtain ⟨rfl, rfl⟩ := h; rfl)
theorem const_bool {v : Value} {b : Bool} (h : constAV v = .bool b) : v = .bool b := by
  unfold constAV at h
  split at h <;> first | (simp at h; done) | (simp at h; subst h; rfl)
theorem const_str {v : Value} {s : ByteArray} (h : constAV v = .str s) : v = .string s := by
  unfold constAV at h
  split at h <;> first | (simp at h; done) | (simp at h; subst h; rfl)
def EqOk (P : Program) (T : List TI) : Prop := (∀ (t : Nat) (x y : Operand) (cs ds : List AV) (vs us : List Value) (b : Bool) (w : World), plainT T t = true → eqCells cs ds = some b → cellsFit (plainK T t) cs = true → cellsFit (plainK T t) ds = true →
  vs.map constAV = cs → us.map constAV = ds →
  (eqGuard .eql t x y (.agg vs.toArray) (.agg us.toArray)).run P w = .ok () w ∧ (eqGuard .neq t x y (.agg vs.toArray) (.agg us.toArray)).run P w = .ok () w ∧
  (Op.equal t (.agg vs.toArray) (.agg us.toArray)).run P w = .ok b w) ∧
  ∀ (t : Nat) (cs : List AV) (vs : List Value) (em : Bool) (w : World), plainT T t = true → cellsFit (plainK T t) cs = true → vs.map constAV = cs → (Instr.checkKey em 10000 t (.agg vs.toArray)).run P w = .ok () w
theorem eqCells_true : ∀ {cs ds : List AV}, eqCells cs ds = some true → cs = ds
  | [], [], _ => rfl
  | c :: cs, d :: ds, h => by
    cases c <;> cases d <;> simp only [eqCells] at h <;> try (simp at h; done)
    case int.int k a k' b =>
      cases hk : decide (k = k') <;> rw [hk] at h <;> simp only [cond_false, cond_true] at h
      · cases h
      · obtain ⟨q, hq, e⟩ := Option.map_eq_some_iff.1 h
        simp only [Bool.and_eq_true, eqI, decide_eq_true_eq] at e
        obtain ⟨rfl, rfl⟩ := e
        rw [of_decide_eq_true hk, eqCells_true hq]
    case bool.bool a b =>
      obtain ⟨q, hq, e⟩ := Option.map_eq_some_iff.1 h
      simp only [Bool.and_eq_true, beq_iff_eq] at e
      obtain ⟨rfl, rfl⟩ := e
      rw [eqCells_true hq]
    case str.str a b =>
      obtain ⟨q, hq, e⟩ := Option.map_eq_some_iff.1 h
      simp only [Bool.and_eq_true, eqS, decide_eq_true_eq] at e
      obtain ⟨rfl, rfl⟩ := e
      rw [eqCells_true hq]
  | [], _ :: _, h => by simp [eqCells] at h
  | _ :: _, [], h => by simp [eqCells] at h
theorem eqCells_fit : ∀ {ks : List CK} {cs ds : List AV}, cellsFit ks cs = true → cellsFit ks ds = true → ∃ b, eqCells cs ds = some b
  | [], [], [], _, _ => ⟨true, rfl⟩
  | k :: ks, [], _, h, _ => by cases k <;> simp [cellsFit] at h
  | k :: ks, _ :: _, [], _, h => by cases k <;> simp [cellsFit] at h
  | [], _ :: _, _, h, _ => by simp [cellsFit] at h
  | [], [], _ :: _, _, h => by simp [cellsFit] at h
  | k :: ks, c :: cs, d :: ds, h, h' => by
    cases k <;> cases c <;> simp only [cellsFit, Bool.and_eq_true] at h <;> try (simp at h; done)
    case int.int k k' n =>
      cases d <;> simp only [cellsFit, Bool.and_eq_true] at h' <;> try (simp at h'; done)
      obtain ⟨b, hb⟩ := eqCells_fit h.2 h'.2
      have e1 := of_decide_eq_true h.1
      have e2 := of_decide_eq_true h'.1
      subst e1
      subst e2
      exact ⟨_, by simp only [eqCells, decide_true, cond_true, hb, Option.map_some]; rfl⟩
    case bool.bool a =>
      cases d <;> simp only [cellsFit] at h' <;> try (simp at h'; done)
      obtain ⟨b, hb⟩ := eqCells_fit h h'
      exact ⟨_, by simp only [eqCells, hb, Option.map_some]; rfl⟩
    case str.str a =>
      cases d <;> simp only [cellsFit] at h' <;> try (simp at h'; done)
      obtain ⟨b, hb⟩ := eqCells_fit h h'
      exact ⟨_, by simp only [eqCells, hb, Option.map_some]; rfl⟩
theorem cellsFit_plain : ∀ {ks : List CK} {cs : List AV}, cellsFit ks cs = true → ∀ c ∈ cs, (∃ k n, c = .int k n) ∨ (∃ b, c = .bool b) ∨ ∃ s, c = .str s
  | [], [], _, c, hc => by cases hc
  | [], _ :: _, h, _, _ => by simp [cellsFit] at h
  | k :: ks, [], h, _, _ => by cases k <;> simp [cellsFit] at h
  | k :: ks, d :: cs, h, c, hc => by
    cases k <;> cases d <;> simp only [cellsFit, Bool.and_eq_true] at h <;> try (simp at h; done)
    case int.int k' n => cases hc with | head => exact .inl ⟨_, _, rfl⟩ | tail _ hc => exact cellsFit_plain h.2 c hc
    case bool.bool b => cases hc with | head => exact .inr (.inl ⟨_, rfl⟩) | tail _ hc => exact cellsFit_plain h c hc
    case str.str s => cases hc with | head => exact .inr (.inr ⟨_, rfl⟩) | tail _ hc => exact cellsFit_plain h c hc
theorem const_inj {u v : Value} (h : constAV u = constAV v) (hp : (∃ k n, constAV u = .int k n) ∨ (∃ b, constAV u = .bool b) ∨ ∃ s, constAV u = .str s) : u = v := by
  rcases hp with ⟨k, n, e⟩ | ⟨b, e⟩ | ⟨s, e⟩
  · exact (const_int e).trans (const_int (h.symm.trans e)).symm
  · exact (const_bool e).trans (const_bool (h.symm.trans e)).symm
  · exact (const_str e).trans (const_str (h.symm.trans e)).symm
theorem const_rep {w : World} {stb : Nat → Prop} {ob : Nat → Option Nat} {c : AV} {v : Value} (h : Rep w stb ob c v) (hp : (∃ k n, c = .int k n) ∨ (∃ b, c = .bool b) ∨ ∃ s, c = .str s) : constAV v = c := by
  rcases hp with ⟨k, n, rfl⟩ | ⟨b, rfl⟩ | ⟨s, rfl⟩ <;> cases h <;> rfl
section
variable {P : Program} {T : List TI}
theorem TabOk.u_bool (h : TabOk P T) {t : Nat} (ht : (ti T t).k = .bool) : P.underlying t = some .bool := by
  obtain ⟨d, hd, hk⟩ := h.under (t := t) (by rw [ht]; simp)
  rw [ht] at hk
  cases d <;> first | exact hd | (simp at hk; done)
theorem TabOk.u_ptr (h : TabOk P T) {t e : Nat} (ht : (ti T t).k = .ptr e) : P.underlying t = some (.pointer e) := by
  obtain ⟨d, hd, hk⟩ := h.under (t := t) (by rw [ht]; simp)
  rw [ht] at hk
  cases d <;> simp_all
theorem TabOk.u_map (h : TabOk P T) {t k e : Nat} (ht : (ti T t).k = .map k e) : P.underlying t = some (.map k e) := by
  obtain ⟨d, hd, hk⟩ := h.under (t := t) (by rw [ht]; simp)
  rw [ht] at hk
  cases d <;> simp_all
theorem TabOk.u_func (h : TabOk P T) {t : Nat} (ht : (ti T t).k = .func) : ∃ a b c, P.underlying t = some (.func a b c) := by
  obtain ⟨d, hd, hk⟩ := h.under (t := t) (by rw [ht]; simp)
  rw [ht] at hk
  cases d <;> first | exact ⟨_, _, _, hd⟩ | (simp at hk; done)
theorem TabOk.u_iface (h : TabOk P T) {t : Nat} (ht : (ti T t).k = .iface) : ∃ a, P.underlying t = some (.interface a) := by
  obtain ⟨d, hd, hk⟩ := h.under (t := t) (by rw [ht]; simp)
  rw [ht] at hk
  cases d <;> first | exact ⟨_, hd⟩ | (simp at hk; done)
end
structure IsK (T : List TI) (kt : Nat) (k : AV) (v : Value) : Prop where
  fits : keyFits (keyT T kt) (isAggT T kt) k = true
  val : (isAggT T kt = true ∧ ∃ vs : List Value, v = .agg vs.toArray ∧ k = .agg (vs.map constAV)) ∨ (isAggT T kt = false ∧ constAV v = k)
section
variable {P : Program} {T : List TI} {w : World} {stb : Nat → Prop} {ob : Nat → Option Nat} {kt : Nat} {k k' : AV} {v v' : Value}
theorem isK_of (h : keyFits (keyT T kt) (isAggT T kt) k = true) (hr : Rep w stb ob k v) : IsK T kt k v := by
  refine ⟨h, ?_⟩
  unfold keyFits at h
  split at h
  · rename_i cs
    simp only [Bool.and_eq_true] at h
    refine .inl ⟨h.1, ?_⟩
    cases hr with
    | agg _ vs hl hr =>
      refine ⟨vs, rfl, ?_⟩
      congr 1
      apply List.ext_getElem?
      intro i
      rw [List.getElem?_map]
      cases hc : cs[i]? with
      | none => rw [List.getElem?_eq_none_iff] at hc; rw [List.getElem?_eq_none (by rw [← hl]; exact hc)]; rfl
      | some c =>
        have hi : i < vs.length := by rw [← hl]; exact (List.getElem?_eq_some_iff.1 hc).1
        rw [List.getElem?_eq_getElem hi, Option.map_some]
        rw [const_rep (hr i c _ hc (List.getElem?_eq_getElem hi)) (cellsFit_plain h.2 c (List.mem_of_getElem? hc))]
  · simp only [Bool.and_eq_true, Bool.not_eq_true'] at h
    exact .inr ⟨h.1, const_rep hr (cellsFit_plain h.2 _ (by simp))⟩
theorem IsK.inj (h : IsK T kt k v) (h' : IsK T kt k' v') (e : keyEq k k' = true) : v = v' := by
  unfold keyEq at e
  split at e <;> try (cases e; done)
  rename_i b hb
  subst e
  have hc := eqCells_true hb
  have f1 := h.fits
  rcases h.val with ⟨a, vs, rfl, rfl⟩ | ⟨a, rfl⟩ <;> rcases h'.val with ⟨a', us, rfl, rfl⟩ | ⟨a', rfl⟩ <;> try (rw [a] at a'; cases a'; done)
  · simp only [cellsOf] at hc
    simp only [keyFits, Bool.and_eq_true] at f1
    have : vs = us := by
      apply List.ext_getElem?
      intro i
      have hi := congrArg (·[i]?) hc
      simp only [List.getElem?_map] at hi
      cases hv : vs[i]? with
      | none => rw [hv] at hi; simpa using hi.symm
      | some x =>
        rw [hv] at hi
        obtain ⟨y, hy, e⟩ := Option.map_eq_some_iff.1 hi.symm
        rw [hy]
        congr 1
        exact (const_inj e.symm (cellsFit_plain f1.2 _ (by simp only [List.mem_map]; exact ⟨x, List.mem_of_getElem? hv, rfl⟩)))
    rw [this]
  · have hn : ∀ v : Value, keyFits (keyT T kt) (isAggT T kt) (constAV v) = true → cellsOf (constAV v) = [constAV v] ∧ cellsFit (keyT T kt) [constAV v] = true := fun v h => by
      rw [a] at h
      unfold keyFits at h
      split at h
      · simp at h
      · rename_i x hx
        simp only [Bool.not_false, Bool.true_and] at h
        refine ⟨?_, h⟩
        cases hh : constAV v <;> first | rfl | exact absurd hh (hx _)
    obtain ⟨c1, c2⟩ := hn _ f1
    obtain ⟨c3, c4⟩ := hn _ h'.fits
    rw [c1, c3] at hc
    simp only [List.cons.injEq, and_true] at hc
    exact const_inj hc (cellsFit_plain c2 _ (by simp))
def midx (k : AV) : List (Nat × AV × AV) → Option Nat
  | [] => none
  | e :: r => cond (keyEq k e.2.1) (some 0) ((midx k r).map (· + 1))
theorem mfind_idx (k : AV) : ∀ es : List (Nat × AV × AV), mfind k es = (midx k es).bind fun i => (es[i]?).map fun e => e.2.2
  | [] => rfl
  | e :: r => by
    simp only [mfind, midx]
    cases keyEq k e.2.1
    · simp only [cond_false, mfind_idx k r]
      cases midx k r <;> simp
    · simp
theorem midx_get {k : AV} : ∀ {es : List (Nat × AV × AV)} {i : Nat}, midx k es = some i → ∃ e, es[i]? = some e ∧ keyEq k e.2.1 = true
  | e :: r, i, h => by
    simp only [midx] at h
    cases hk : keyEq k e.2.1 <;> rw [hk] at h <;> simp only [cond_false, cond_true] at h
    · obtain ⟨j, hj, rfl⟩ := Option.map_eq_some_iff.1 h
      obtain ⟨e', h1, h2⟩ := midx_get hj
      exact ⟨e', by simpa using h1, h2⟩
    · cases h
      exact ⟨e, rfl, hk⟩
theorem mput_idx (k v : AV) (c : Nat) : ∀ es : List (Nat × AV × AV), mput k v c es = match midx k es with | some i => (es.set i (((es[i]?).map (·.1)).getD 0, k, v)) | none => es ++ [(c, k, v)]
  | [] => rfl
  | e :: r => by
    simp only [mput, midx, mput_idx k v c r]
    cases keyEq k e.2.1
    · cases midx k r <;> simp
    · simp
theorem mdel_idx (k : AV) : ∀ es : List (Nat × AV × AV), mdel k es = match midx k es with | some i => es.eraseIdx i | none => es
  | [] => rfl
  | e :: r => by
    simp only [mdel, midx, mdel_idx k r]
    cases keyEq k e.2.1
    · cases midx k r <;> simp
    · simp
theorem run_find (hT : TabOk P T) (hE : EqOk P T) (hk : keyOkT T kt = true) {es : List (Nat × AV × AV)} {vs : List MapEntry} (hv : IsK T kt k v) (hl : vs.length = es.length) (hes : ∀ (i : Nat) (a : Nat × AV × AV) (e : MapEntry), es[i]? = some a → vs[i]? = some e → IsK T kt a.2.1 e.key) :
    (Instr.findKey kt v vs).run P w = .ok ((midx k es).bind fun i => (vs[i]?).map fun e => (i, e.val)) w := by
  have fits_cells : ∀ {k : AV}, keyFits (keyT T kt) (isAggT T kt) k = true → cellsFit (keyT T kt) (cellsOf k) = true := fun {k} h => by
    unfold keyFits at h
    split at h
    · simp only [Bool.and_eq_true] at h; exact h.2
    · rename_i hx
      simp only [Bool.and_eq_true] at h
      have : cellsOf k = [k] := by cases k <;> first | rfl | exact (hx _ rfl).elim
      rw [this]; exact h.2
  have eqSome : ∀ {k k' : AV} {v v' : Value}, IsK T kt k v → IsK T kt k' v' → eqCells (cellsOf k) (cellsOf k') = some (keyEq k k') := fun h h' => by
    obtain ⟨b, hb⟩ := eqCells_fit (fits_cells h.fits) (fits_cells h'.fits)
    unfold keyEq
    rw [hb]
  unfold keyOkT at hk
  cases hagg : isAggT T kt
  · rw [hagg] at hk
    simp only [cond_false] at hk
    have h0 : ∀ {k : AV} {v : Value}, IsK T kt k v → constAV v = k := fun h => by
      rcases h.val with ⟨a, _⟩ | ⟨_, e⟩
      · rw [hagg] at a; cases a
      · exact e
    obtain ⟨d, hd, hs⟩ : ∃ d, P.underlying kt = some d ∧ ∀ {k k' : AV} {v v' : Value}, IsK T kt k v → IsK T kt k' v' → Instr.sameNow d v v' = some (keyEq k k') := by
      simp only [eqT] at hk
      have shape1 : ∀ {k : AV} {v : Value}, IsK T kt k v → cellsFit (kindsT T 1 kt) (cellsOf k) = true := fun h => by
        have := fits_cells h.fits
        unfold keyT at this
        rwa [hagg, cond_false] at this
      cases hkk : (ti T kt).k <;> rw [hkk] at hk <;> try (simp at hk; done)
      case int ik =>
        refine ⟨_, hT.u_int hkk, fun {k k' v v'} h h' => ?_⟩
        have e1 := eqSome h h'
        have f1 := shape1 h
        have f2 := shape1 h'
        simp only [kindsT, hkk] at f1 f2
        have c1 := h0 h
        have c2 := h0 h'
        subst c1
        subst c2
        cases hc : constAV v <;> rw [hc] at f1 e1 <;> simp only [cellsOf, cellsFit, Bool.and_eq_true] at f1 <;> try (simp at f1; done)
        · cases hc' : constAV v' <;> rw [hc'] at f2 e1 <;> simp only [cellsOf, cellsFit, Bool.and_eq_true] at f2 <;> try (simp at f2; done)
          · rw [const_int hc, const_int hc']
            have g1 := of_decide_eq_true f1.1
            have g2 := of_decide_eq_true f2.1
            subst g1
            rw [← g2] at e1 ⊢
            simp only [cellsOf, eqCells, decide_true, cond_true, Option.map_some, Bool.and_true] at e1
            simp only [Instr.sameNow, if_true]
            rw [← e1, eqI]
            congr 1
          · exact absurd (hc' ▸ h'.fits) (by rw [hagg]; simp [keyFits])
        · exact absurd (hc ▸ h.fits) (by rw [hagg]; simp [keyFits])
      case bool =>
        refine ⟨_, hT.u_bool hkk, fun {k k' v v'} h h' => ?_⟩
        have e1 := eqSome h h'
        have f1 := shape1 h
        have f2 := shape1 h'
        simp only [kindsT, hkk] at f1 f2
        have c1 := h0 h
        have c2 := h0 h'
        subst c1
        subst c2
        cases hc : constAV v <;> rw [hc] at f1 e1 <;> simp only [cellsOf, cellsFit] at f1 <;> try (simp at f1; done)
        · cases hc' : constAV v' <;> rw [hc'] at f2 e1 <;> simp only [cellsOf, cellsFit] at f2 <;> try (simp at f2; done)
          · rw [const_bool hc, const_bool hc']
            simp only [cellsOf, eqCells, Option.map_some, Bool.and_true] at e1
            simp only [Instr.sameNow]
            rw [← e1]
          · exact absurd (hc' ▸ h'.fits) (by rw [hagg]; simp [keyFits])
        · exact absurd (hc ▸ h.fits) (by rw [hagg]; simp [keyFits])
      case str =>
        refine ⟨_, hT.u_str hkk, fun {k k' v v'} h h' => ?_⟩
        have e1 := eqSome h h'
        have f1 := shape1 h
        have f2 := shape1 h'
        simp only [kindsT, hkk] at f1 f2
        have c1 := h0 h
        have c2 := h0 h'
        subst c1
        subst c2
        cases hc : constAV v <;> rw [hc] at f1 e1 <;> simp only [cellsOf, cellsFit] at f1 <;> try (simp at f1; done)
        · cases hc' : constAV v' <;> rw [hc'] at f2 e1 <;> simp only [cellsOf, cellsFit] at f2 <;> try (simp at f2; done)
          · rw [const_str hc, const_str hc']
            simp only [cellsOf, eqCells, Option.map_some, Bool.and_true] at e1
            simp only [Instr.sameNow]
            rw [← e1]
            congr 1
            rw [Bool.eq_iff_iff, MapKept.bytes_beq, eqS, decide_eq_true_eq]
          · exact absurd (hc' ▸ h'.fits) (by rw [hagg]; simp [keyFits])
        · exact absurd (hc ▸ h.fits) (by rw [hagg]; simp [keyFits])
      case struct fs => simp [isAggT, hkk] at hagg
    refine MapKept.run_findKey hd ?_
    have key : ∀ (es : List (Nat × AV × AV)) (vs : List MapEntry) (i : Nat), vs.length = es.length → (∀ (i : Nat) (a : Nat × AV × AV) (e : MapEntry), es[i]? = some a → vs[i]? = some e → IsK T kt a.2.1 e.key) →
        Instr.findNow d v vs i = some ((midx k es).bind fun j => (vs[j]?).map fun e => (i + j, e.val)) := by
      intro es
      induction es with
      | nil => intro vs i hl _; cases vs with | nil => rfl | cons _ _ => simp at hl
      | cons a es ih =>
        intro vs i hl hes
        cases vs with
        | nil => simp at hl
        | cons e vs =>
          have h1 := hs hv (hes 0 a e rfl rfl)
          simp only [Instr.findNow, h1, midx]
          cases keyEq k a.2.1
          · simp only [cond_false]
            rw [ih vs (i + 1) (by simpa using hl) fun i a e ha he => hes (i + 1) a e (by simpa using ha) (by simpa using he)]
            cases midx k es with
            | none => rfl
            | some j => simp; congr 1; funext e; congr 1; omega
          · simp
    have := key es vs 0 hl hes
    simpa using this
  · rw [hagg] at hk
    simp only [cond_true] at hk
    have hkind : (match P.underlying kt with | some (.array _ _) | some (.struct _) => true | _ => false) = true := by
      unfold plainT at hk
      cases hkk : (ti T kt).k <;> rw [hkk] at hk <;> try (simp at hk; done)
      obtain ⟨fa, hfa, _⟩ := hT.u_struct hkk
      rw [hfa]
    rw [run_findKey_eq w hkind]
    have h0 : ∀ {k : AV} {v : Value}, IsK T kt k v → ∃ vs : List Value, v = .agg vs.toArray ∧ k = .agg (vs.map constAV) ∧ cellsFit (plainK T kt) (vs.map constAV) = true := fun {k v} h => by
      rcases h.val with ⟨_, vs, e1, e2⟩ | ⟨a, _⟩
      · refine ⟨vs, e1, e2, ?_⟩
        have := fits_cells h.fits
        unfold keyT at this
        rw [hagg, cond_true, e2] at this
        exact this
      · rw [hagg] at a; cases a
    have heq : ∀ {k k' : AV} {v v' : Value} (w : World), IsK T kt k v → IsK T kt k' v' → (Op.equal kt v v').run P w = .ok (keyEq k k') w := fun {k k' v v'} w h h' => by
      have e1 := eqSome h h'
      obtain ⟨vs, rfl, rfl, f1⟩ := h0 h
      obtain ⟨us, rfl, rfl, f2⟩ := h0 h'
      exact (hE.1 kt (.const (.bool true)) (.const (.bool true)) _ _ vs us _ w hk e1 f1 f2 rfl rfl).2.2
    have key : ∀ (es : List (Nat × AV × AV)) (vs : List MapEntry) (i : Nat), vs.length = es.length → (∀ (i : Nat) (a : Nat × AV × AV) (e : MapEntry), es[i]? = some a → vs[i]? = some e → IsK T kt a.2.1 e.key) →
        (Instr.findAsking kt v vs i).run P w = .ok ((midx k es).bind fun j => (vs[j]?).map fun e => (i + j, e.val)) w := by
      intro es
      induction es with
      | nil => intro vs i hl _; cases vs with | nil => rfl | cons _ _ => simp at hl
      | cons a es ih =>
        intro vs i hl hes
        cases vs with
        | nil => simp at hl
        | cons e vs =>
          have h1 := heq w hv (hes 0 a e rfl rfl)
          simp only [Instr.findAsking, Sem.run_bind, h1, midx, Result.andThen_ok]
          cases keyEq k a.2.1
          · simp only [cond_false, Bool.false_eq_true, if_false]
            rw [ih vs (i + 1) (by simpa using hl) fun i a e ha he => hes (i + 1) a e (by simpa using ha) (by simpa using he)]
            cases midx k es with
            | none => rfl
            | some j => simp; congr 1; funext e; congr 1; omega
          · simp
    have := key es vs 0 hl hes
    simpa using this
theorem run_check (hT : TabOk P T) (hE : EqOk P T) (hk : keyOkT T kt = true) (hv : IsK T kt k v) (em : Bool) : (Instr.checkKey em 10000 kt v).run P w = .ok () w := by
  unfold keyOkT at hk
  have f := hv.fits
  rcases hv.val with ⟨a, vs, rfl, rfl⟩ | ⟨a, rfl⟩
  · rw [a] at hk f
    simp only [cond_true] at hk
    simp only [keyFits, keyT, a, Bool.true_and, cond_true] at f
    exact hE.2 kt _ vs em w hk f rfl
  · rw [a] at hk f
    simp only [cond_false] at hk
    simp only [eqT] at hk
    have f' : cellsFit (kindsT T 1 kt) [constAV v] = true := by
      unfold keyFits at f
      split at f
      · simp at f
      · simp only [keyT, a, cond_false, Bool.not_false, Bool.true_and] at f; exact f
    cases hkk : (ti T kt).k <;> rw [hkk] at hk <;> try (simp at hk; done)
    case int ik =>
      simp only [kindsT, hkk] at f'
      refine MapKept.run_checkKey (d := .int ik) (hT.u_int hkk) ?_ em 9999
      cases hc : constAV v <;> rw [hc] at f' <;> simp only [cellsFit, Bool.and_eq_true] at f' <;> try (simp at f'; done)
      rw [const_int hc]
      exact (of_decide_eq_true f'.1).symm
    case bool =>
      simp only [kindsT, hkk] at f'
      refine MapKept.run_checkKey (d := .bool) (hT.u_bool hkk) ?_ em 9999
      cases hc : constAV v <;> rw [hc] at f' <;> simp only [cellsFit] at f' <;> try (simp at f'; done)
      rw [const_bool hc]
      trivial
    case str =>
      simp only [kindsT, hkk] at f'
      refine MapKept.run_checkKey (d := .string) (hT.u_str hkk) ?_ em 9999
      cases hc : constAV v <;> rw [hc] at f' <;> simp only [cellsFit] at f' <;> try (simp at f'; done)
      rw [const_str hc]
      trivial
    case struct fs => simp [isAggT, hkk] at a
theorem sameBits_const {v : Value} (hp : (∃ k n, constAV v = .int k n) ∨ (∃ b, constAV v = .bool b) ∨ ∃ s, constAV v = .str s) (n : Nat) : Instr.sameBits n v v = true := by
  rcases hp with ⟨k, m, e⟩ | ⟨b, e⟩ | ⟨s, e⟩
  · rw [const_int e]; simp [Instr.sameBits]
  · rw [const_bool e]; simp [Instr.sameBits]
  · rw [const_str e]; simp [Instr.sameBits, MapKept.bytes_beq]
theorem IsK.same (hv : IsK T kt k v) (n : Nat) : Instr.sameBits (n + 1) v v = true := by
  have f := hv.fits
  rcases hv.val with ⟨a, vs, rfl, rfl⟩ | ⟨a, rfl⟩
  · simp only [keyFits, Bool.and_eq_true] at f
    simp only [Instr.sameBits, beq_self_eq_true, Bool.true_and, List.all_eq_true]
    rintro ⟨x, y⟩ hxy
    have : x = y ∧ x ∈ vs := by
      have hz : (vs.toArray.toList.zip vs.toArray.toList) = vs.map fun x => (x, x) := by
        show vs.zip vs = _
        clear hxy hv f
        induction vs with
        | nil => rfl
        | cons x r ih => simp [ih]
      rw [hz] at hxy
      obtain ⟨z, hz, e⟩ := List.mem_map.1 hxy
      cases e
      exact ⟨rfl, hz⟩
    obtain ⟨rfl, hx⟩ := this
    exact sameBits_const (cellsFit_plain f.2 _ (List.mem_map_of_mem hx)) n
  · rw [a] at f
    unfold keyFits at f
    split at f
    · simp at f
    · simp only [Bool.not_false, Bool.true_and] at f
      exact sameBits_const (cellsFit_plain f _ (by simp)) _
end
section
variable {P : Program} {T : List TI}
theorem isAgg_cells {z : Value} (h : isAggV z = true) : ∃ vs, z = .agg vs := by
  cases z <;> simp [isAggV] at h
  exact ⟨_, rfl⟩
theorem zeros_rep (hT : TabOk P T) {t : Nat} (ht : (ti T t).k ≠ .other) (htup : ∀ ts, (ti T t).k ≠ .tuple ts) : ∃ i z, P.info? t = some i ∧ i.zero = some z ∧ i.size = (ti T t).size ∧ i.bytes = (ti T t).bytes ∧ z.cells.toList.length = (ti T t).size ∧ (ti T t).shape.length = (ti T t).size ∧
    (∀ (g : Gs) (l : Gl) (w : World) (n : Nat), TReps g l w n ((ti T t).shape.map CK.zero) z.cells.toList) ∧ tagsOfs ((ti T t).shape.map CK.zero) = [] ∧ (∀ u ∈ z.cells.toList, u.oneCell' = true) ∧
    (∀ (g : Gs) (w : World) (j : Nat) (c : AV), ((ti T t).shape.map CK.zero)[j]? = some c → ∃ v, z.cells.toList[j]? = some v ∧ Rep w g.stb g.ob c v) := by
  obtain ⟨i, z, hi, hz, hl1, hl2, hagg, hc⟩ := hT.zero ht htup
  obtain ⟨i', hi', hsz, hby⟩ := hT.info ht
  rw [hi] at hi'
  cases hi'
  refine ⟨i, z, hi, hz, hsz, hby, by omega, hl2, ?_, ?_, ?_, ?_⟩
  · intro g l w n
    refine TReps.mk (by simp [hl1]) fun j c v hc' hv => ?_
    simp only [List.getElem?_map, Option.map_eq_some_iff] at hc'
    obtain ⟨ck, hck, rfl⟩ := hc'
    exact ((hc j v ck hv hck).1 _ _ _ _).1
  · refine List.eq_nil_iff_forall_not_mem.2 fun t ht => ?_
    obtain ⟨j, c, hc', ht⟩ := tagsOfs_iff ht
    simp only [List.getElem?_map, Option.map_eq_some_iff] at hc'
    obtain ⟨ck, _, rfl⟩ := hc'
    cases ck <;> simp [CK.zero, tagsOf] at ht
  · intro u hu
    obtain ⟨j, hj⟩ := List.mem_iff_getElem?.1 hu
    have hjl : j < (ti T t).shape.length := by rw [← hl1]; exact (List.getElem?_eq_some_iff.1 hj).1
    exact (hc j u _ hj (List.getElem?_eq_getElem hjl)).2
  · intro g w j c hj
    simp only [List.getElem?_map, Option.map_eq_some_iff] at hj
    obtain ⟨ck, hck, rfl⟩ := hj
    have hjl : j < z.cells.toList.length := by rw [hl1]; exact (List.getElem?_eq_some_iff.1 hck).1
    refine ⟨_, List.getElem?_eq_getElem hjl, ((hc j _ ck (List.getElem?_eq_getElem hjl) hck).1 g ⟨fun _ => 0, fun _ => undef, fun _ => [], fun _ => 0⟩ w 0).2⟩
theorem zeroT_rep (hT : TabOk P T) {t : Nat} (ht : (ti T t).k ≠ .other) (htup : ∀ ts, (ti T t).k ≠ .tuple ts) (g : Gs) (w : World) : ∃ z, (zeroValue t).run P w = .ok z w ∧ Rep w g.stb g.ob (zeroT T t) z := by
  obtain ⟨i, z, hi, hz, hsz, hby, hzl, hl2, _, _, _, hr⟩ := zeros_rep (P := P) hT ht htup
  obtain ⟨i', z', hi', hz', hl1, _, hagg, _⟩ := hT.zero (P := P) ht htup
  rw [hi] at hi'
  cases hi'
  rw [hz] at hz'
  cases hz'
  refine ⟨z, by simp [zeroValue, typeInfo, hi, hz], ?_⟩
  unfold zeroT
  cases ha : isAggT T t
  · rw [ha] at hagg
    have hz1 : z.cells = #[z] := by cases z <;> first | rfl | (simp [isAggV] at hagg; done)
    rw [hz1] at hl1
    simp only [List.length_cons, List.length_nil, Nat.zero_add] at hl1
    obtain ⟨c, hsc⟩ : ∃ c, (ti T t).shape = [c] := by
      cases hs : (ti T t).shape with
      | nil => rw [hs] at hl1; simp at hl1
      | cons c r => cases r with
        | nil => exact ⟨c, rfl⟩
        | cons d r => rw [hs] at hl1; simp at hl1
    rw [hsc] at hr ⊢
    obtain ⟨v, hv, hrv⟩ := hr g w 0 c.zero rfl
    rw [hz1] at hv
    simp only [List.getElem?_cons_zero, Option.some.injEq] at hv
    subst hv
    exact hrv
  · rw [ha] at hagg
    obtain ⟨vs, rfl⟩ := isAgg_cells hagg.symm
    simp only [cond_true]
    have h1 : vs = vs.toList.toArray := by simp
    rw [h1]
    refine .agg _ _ (by have h2 := hl1.symm; simp only [Value.cells] at h2; simpa using h2) fun j c v hc hv => ?_
    obtain ⟨v', hv', hrv⟩ := hr g w j c hc
    have : v' = v := by
      have h2 : vs.toList[j]? = some v' := hv'
      rw [h2] at hv
      exact Option.some.inj hv
    exact this ▸ hrv
end
section
variable {P : Program} {T : List TI} {w0 : World} {g0 g : Gs} {l : Gl} {w : World} {st : St} {a : Act} {n : Nat}
theorem normE_out {t : Nat} {x : AV} {K : AV → Prop} (h : normE T t x K) : ∃ y, K y ∧ NormRel x y ∧ ∀ K' : AV → Prop, K' y → normE T t x K' := by
  unfold normE at h ⊢
  cases ha : isAggT T t <;> rw [ha] at h <;> simp only [cond_false, cond_true] at h ⊢
  · exact norm1_out h
  · have h' := G_out h
    clear h
    obtain ⟨h1, h⟩ := h'
    simp only [Bool.and_eq_true] at h1
    obtain ⟨ys, hy, hl, hr, hd⟩ := normL_out h
    clear h
    obtain ⟨cs, rfl⟩ : ∃ cs, x = .agg cs := by cases x <;> first | exact ⟨_, rfl⟩ | (simp [AV.isAgg] at h1; done)
    simp only [AV.aggCs] at h1 hr hd
    have hlen := Nat.eq_of_beq_eq_true h1.2
    refine ⟨_, hy, ⟨rfl, fun w stb ob v hv => ?_⟩, fun K' hK => G_in (by simp [AV.isAgg, AV.aggCs, hlen]) (hd _ hK)⟩
    cases hv with
    | agg _ vs hl' hr' =>
      refine .agg ys vs (by omega) fun i c v hc hv => ?_
      have h2 := hr i c hc
      have hi : i < cs.length := by have := (List.getElem?_eq_some_iff.1 hc).1; omega
      rw [Nat.zero_add, List.getD_eq_getElem?_getD, List.getElem?_eq_getElem hi, Option.getD_some] at h2
      exact h2.2 _ _ _ _ (hr' i _ v (List.getElem?_eq_getElem hi) hv)
theorem key_rep {ks : List CK} {b : Bool} {k : AV} {v : Value} (hf : keyFits ks b k = true) (h : TRep g l w n k v) : Rep w g.stb g.ob k v := by
  have one : ∀ {c : AV} {u : Value}, ((∃ k n, c = .int k n) ∨ (∃ b, c = .bool b) ∨ ∃ s, c = .str s) → TRep g l w n c u → Rep w g.stb g.ob c u := fun hp h => by
    rcases hp with ⟨k, m, rfl⟩ | ⟨b, rfl⟩ | ⟨s, rfl⟩ <;> simp only [TRep] at h <;> subst h
    · exact .int _ _
    · exact .bool _
    · exact .str _
  unfold keyFits at hf
  split at hf
  · simp only [Bool.and_eq_true] at hf
    simp only [TRep] at h
    obtain ⟨vs, rfl, h⟩ := h
    exact .agg _ vs h.length fun i c v hc hv => one (cellsFit_plain hf.2 c (List.mem_of_getElem? hc)) (h.of i c v hc hv)
  · simp only [Bool.and_eq_true] at hf
    exact one (cellsFit_plain hf.2 _ (by simp)) h
theorem map_out {H : Heap} (hH : HOK g w H) {j b : Nat} (ho : g.ob j = some b) {kt : Nat} (hm : (H.get j).isMapOf (keyT T kt) (isAggT T kt) = true) :
    ∃ es c vs, H.get j = .map es c ∧ g.foot b ∧ w.heap[b]? = some (.map (List.toArray vs) c) ∧ vs.length = es.length ∧
      (∀ (i : Nat) (a : Nat × AV × AV) (v : MapEntry), es[i]? = some a → vs[i]? = some v → v.born = a.1 ∧ Rep w g.stb g.ob a.2.1 v.key ∧ Rep w g.stb g.ob a.2.2 v.val) ∧
      ∀ (i : Nat) (a : Nat × AV × AV) (v : MapEntry), es[i]? = some a → vs[i]? = some v → IsK T kt a.2.1 v.key := by
  unfold HB.isMapOf at hm
  simp only [Bool.and_eq_true, List.all_eq_true] at hm
  obtain ⟨es, c, he⟩ := isMap_eq hm.1
  obtain ⟨hf, vs, hh, hl, hr⟩ := hH.map ho he
  rw [he] at hm
  exact ⟨es, c, vs, he, hf, hh, hl, hr, fun i a v ha hv => isK_of (hm.2 a (List.mem_of_getElem? ha)) (hr i a v ha hv).2.1⟩
theorem lookAV_sound (hT : TabOk P T) (hE : EqOk P T) (hI : Inv w0 g0 g l w st a) {t : Nat} {ok : Bool} {xa ka : AV} {xv kv : Value} {K : AV → Prop} (hx : TRep g l w n xa xv) (hk : TRep g l w n ka kv) (h : lookAV T t ok st.H xa ka K) :
    ∃ av v, K av ∧ (Instr.lookup t xv kv ok).run P w = .ok v w ∧ TRep g l w n av v ∧ (∀ t ∈ tagsOf av, t ∈ st.tags) ∧ ∀ K' : AV → Prop, K' av → lookAV T t ok st.H xa ka K' := by
  unfold lookAV at h ⊢
  cases hkk : (ti T t).k <;> rw [hkk] at h <;> try exact h.elim
  rename_i kt vt
  cases xa <;> try exact h.elim
  rename_i j
  simp only at h ⊢
  obtain ⟨q1, h⟩ := G_out h
  obtain ⟨q2, h⟩ := G_out h
  obtain ⟨q3, h⟩ := G_out h
  simp only [TRep] at hx
  cases hx with
  | map _ b ho =>
    obtain ⟨es, c, vs, he, hf, hh, hl, hr, hks⟩ := map_out hI.heap ho q3
    have hkr := key_rep q2 hk
    have hK := isK_of q2 hkr
    have hfind := run_find (P := P) (w := w) hT hE q1 hK hl hks
    have hchk := run_check (P := P) (w := w) hT hE q1 hK vs.toArray.isEmpty
    have hu := run_underlying (w := w) (hT.u_map hkk)
    have hget := MapKept.run_getObj_map (P := P) hh
    rw [he] at h
    simp only [HB.es, mhas, mget, mfind_idx] at h
    have hfin : ∀ {av : AV} {v : Value}, Rep w g.stb g.ob av v → (∀ t ∈ tagsOf (cond ok (.tup [av, .bool true]) av), t ∈ st.tags) ∧ (∀ t ∈ tagsOf (cond ok (.tup [av, .bool false]) av), t ∈ st.tags) ∧
        (∀ b, TRep g l w n (cond ok (.tup [av, .bool b]) av) (if ok then .tuple #[v, .bool b] else v)) := fun {av v} hrep => by
      have htags := hrep.tags
      have htr : TRep g l w n av v := TRep.of_rep hrep
      refine ⟨?_, ?_, fun b => ?_⟩
      · cases ok <;> simp [tagsOf, tagsOfs, htags]
      · cases ok <;> simp [tagsOf, tagsOfs, htags]
      · cases ok
        · exact htr
        · simp only [cond_true, if_true, TRep]
          exact ⟨[v, .bool b], rfl, by simp only [TReps, and_true, TRep]; exact htr⟩
    cases hm : midx ka es with
    | none =>
      rw [hm] at h hfind
      simp only [Option.bind_none, Option.isSome_none, cond_false] at h hfind
      obtain ⟨q4, h⟩ := G_out h
      have hk1 : (ti T vt).k ≠ .other := fun e => by rw [e] at q4; simp at q4
      have hk2 : ∀ ts, (ti T vt).k ≠ .tuple ts := fun ts e => by rw [e] at q4; simp at q4
      obtain ⟨z, hz, hzr⟩ := zeroT_rep (P := P) hT hk1 hk2 g w
      refine ⟨_, if ok then .tuple #[z, .bool false] else z, h, ?_, (hfin hzr).2.2 false, (hfin hzr).2.1, fun K' hK' => ?_⟩
      · unfold Instr.lookup
        simp only [Sem.run_bind, hu, Result.andThen_ok, hget, Sem.run_pure, hchk, hfind, hz]
      · refine G_in q1 (G_in q2 (G_in q3 ?_))
        rw [he]
        simp only [HB.es, mhas, mget, mfind_idx, hm, Option.bind_none, Option.isSome_none, cond_false]
        exact G_in (by first | rfl | exact q4) hK'
    | some i =>
      obtain ⟨e, hei, _⟩ := midx_get hm
      obtain ⟨u, hui⟩ : ∃ u, vs[i]? = some u := ⟨_, List.getElem?_eq_getElem (by rw [hl]; exact (List.getElem?_eq_some_iff.1 hei).1)⟩
      rw [hm] at h hfind
      simp only [Option.bind_some, hei, hui, Option.map_some, Option.isSome_some, cond_true, Option.getD_some] at h hfind
      obtain ⟨y, hy, hrel, hd⟩ := normE_out h
      have hyr := hrel.2 _ _ _ _ (hr i e u hei hui).2.2
      refine ⟨_, if ok then .tuple #[u.val, .bool true] else u.val, hy, ?_, (hfin hyr).2.2 true, (hfin hyr).1, fun K' hK' => ?_⟩
      · unfold Instr.lookup
        simp only [Sem.run_bind, hu, Result.andThen_ok, hget, Sem.run_pure, hchk, hfind]
      · refine G_in q1 (G_in q2 (G_in q3 ?_))
        rw [he]
        simp only [HB.es, mhas, mget, mfind_idx, hm, Option.bind_some, hei, Option.map_some, Option.isSome_some, cond_true, Option.getD_some]
        exact hd _ hK'
end
end Go.Proofs.YtgmkkjmdflhbnaaDoor.Ab
end
