/- The abstract machine: values, states, and what each operation needs. -/
import Derived.Calls
import Derived.KernelRfl
import Derived.Test.YtbkkhhmjmbbfpaaFix
namespace Go.Proofs.Ytbkkhhmjmbbfpaa.Ab
open Go

/-- The kind of one cell. -/
inductive CK where
  | int (k : IntKind) | bool | str | ptr | slice (k : Nat) | map | func | iface | other
  deriving DecidableEq, Repr, Inhabited
/-- The kind of a type. -/
inductive TK where
  | int (k : IntKind) | bool | str | ptr (e : Nat) | slice (e : Nat) | struct (fs : List (Nat × Nat)) | array (n e : Nat) | map (k e : Nat) | func | iface | tuple (ts : List Nat) | other
  deriving DecidableEq, Repr, Inhabited
structure TI where
  k : TK
  size : Nat
  bytes : Nat
  shape : List CK
  deriving DecidableEq, Repr, Inhabited

inductive AV where
  | any
  | int (k : IntKind) (n : Int)
  | bool (b : Bool)
  | str (s : ByteArray)
  | nilp
  | ptr (j o : Nat)
  | rp (cs : List AV) (o : Nat)
  | ep (t k i o : Nat) (xs : List (List AV))
  | nilsl
  | sl (t k : Nat) (xs : List (List AV))
  | fn (f : Nat) (cap : List AV)
  | nilfn
  | iface (t : Nat) (v : AV)
  | niliface
  | agg (cs : List AV)
  | tup (vs : List AV)
  | obj (j o : Nat)
  | map (j : Nat)
  | nilmap
  | hs (j o n c k : Nat)     -- a slice of rows of a block of the heap: from row o on, n of them, c with the spare ones, k cells each
  | he (j k i o : Nat)       -- a pointer to cell o of row i of such a block
  deriving Inhabited

namespace AV
def toInt : AV → Int | .int _ n => n | _ => 0
def toBool : AV → Bool | .bool b => b | _ => false
def toStr : AV → ByteArray | .str s => s | _ => ⟨#[]⟩
def slXs : AV → List (List AV) | .sl _ _ xs => xs | _ => []
def slK : AV → Nat | .sl _ k _ => k | _ => 0
def isInt (k : IntKind) : AV → Bool | .int k' _ => decide (k = k') | _ => false
def isBool : AV → Bool | .bool _ => true | _ => false
def isStr : AV → Bool | .str _ => true | _ => false
def notAny : AV → Bool | .any => false | _ => true
def isSl (k : Nat) : AV → Bool | .sl 0 k' _ => Nat.beq k k' | .nilsl => true | _ => false
def isObj : AV → Bool | .obj _ 0 => true | _ => false
def objJ : AV → Nat | .obj j _ => j | _ => 0
def isNilp : AV → Bool | .nilp => true | _ => false
def isMap : AV → Bool | .map _ => true | _ => false
def mapJ : AV → Nat | .map j => j | _ => 0
def isNilmap : AV → Bool | .nilmap => true | _ => false
def isIf : AV → Bool | .iface _ _ => true | _ => false
def ifT : AV → Nat | .iface t _ => t | _ => 0
def ifV : AV → AV | .iface _ v => v | _ => .any
def isNilif : AV → Bool | .niliface => true | _ => false
def isHs (k : Nat) : AV → Bool | .hs _ _ _ _ k' => Nat.beq k' k | _ => false
def isNilsl : AV → Bool | .nilsl => true | _ => false
def hsJ : AV → Nat | .hs j _ _ _ _ => j | _ => 0
def hsO : AV → Nat | .hs _ o _ _ _ => o | _ => 0
def hsN : AV → Nat | .hs _ _ n _ _ => n | _ => 0
def hsC : AV → Nat | .hs _ _ _ c _ => c | _ => 0
def isAgg : AV → Bool | .agg _ => true | _ => false
def aggCs : AV → List AV | .agg cs => cs | _ => []
end AV

/-- A condition ahead of what follows. -/
def G (b : Bool) (p : Prop) : Prop := cond b p False

def CK.zero : CK → AV
  | .int k => .int k 0 | .bool => .bool false | .str => .str ⟨#[]⟩ | .ptr => .nilp | .slice _ => .nilsl | .map => .nilmap | .func => .nilfn | .iface => .niliface | .other => .any

/-- A cell out of stable memory, in the form that its kind tells. -/
def norm (c : CK) (x : AV) (K : AV → Prop) : Prop :=
  match c with
  | .int k => G (x.isInt k) (K (.int k x.toInt))
  | .bool => G x.isBool (K (.bool x.toBool))
  | .str => G x.isStr (K (.str x.toStr))
  | .slice k => G (x.isSl k) (K (.sl 0 k x.slXs))
  | .ptr => cond x.isObj (K (.obj x.objJ 0)) (G x.isNilp (K .nilp))
  | .map => cond x.isMap (K (.map x.mapJ)) (G x.isNilmap (K .nilmap))
  | .iface => cond x.isIf (K (.iface x.ifT x.ifV)) (G x.isNilif (K .niliface))
  | .other => False
  | _ => G x.notAny (K x)
/-- A value out of a map: its pointers are not nil. -/
def norm1 (c : CK) (x : AV) (K : AV → Prop) : Prop :=
  match c with
  | .ptr => G x.isObj (K (.obj x.objJ 0))
  | .map => G x.isMap (K (.map x.mapJ))
  | c => norm c x K
/-- A cell of an object: its slices are slices of the heap. -/
def normO (c : CK) (x : AV) (K : AV → Prop) : Prop :=
  match c with
  | .slice k => cond (x.isHs k) (K (.hs x.hsJ x.hsO x.hsN x.hsC k)) (G x.isNilsl (K .nilsl))
  | c => norm c x K
def normOL (get : Nat → AV) : List CK → Nat → (List AV → Prop) → Prop
  | [], _, K => K []
  | c :: cs, o, K => normO c (get o) fun x => normOL get cs (o + 1) fun r => K (x :: r)
def normL (get : Nat → AV) : List CK → Nat → (List AV → Prop) → Prop
  | [], _, K => K []
  | c :: cs, o, K => norm c (get o) fun x => normL get cs (o + 1) fun r => K (x :: r)
/-- A cell out of local memory: as it stands, but for numbers, bools and strings, which may stand in a list that is not known cell by cell. -/
def normM (c : CK) (x : AV) (K : AV → Prop) : Prop :=
  match c with
  | .int k => G (x.isInt k) (K (.int k x.toInt))
  | .bool => G x.isBool (K (.bool x.toBool))
  | .str => G x.isStr (K (.str x.toStr))
  | .other => False
  | _ => G x.notAny (K x)
def normML (get : Nat → AV) : List CK → Nat → (List AV → Prop) → Prop
  | [], _, K => K []
  | c :: cs, o, K => normM c (get o) fun x => normML get cs (o + 1) fun r => K (x :: r)

/-- A block of local memory. -/
inductive MB where
  | cells (cs : List AV)
  | frz (cs : List AV)
  | siter (s : ByteArray) (pos : Nat)
  | miter (j kt vt since stepped : Nat) (seen : List Nat)     -- a range over a map: the last first
  | dead
  deriving Inhabited

/-- A block of the heap. -/
inductive HB where
  | dead
  | cells (cs : List AV)
  | rows (k : Nat) (xs : List (List AV))
  | map (es : List (Nat × AV × AV)) (clock : Nat)
  deriving Inhabited
structure Heap where
  next : Nat
  get : Nat → HB
namespace HB
def isRows (k : Nat) : HB → Bool | .rows k' _ => Nat.beq k' k | _ => false
def xs : HB → List (List AV) | .rows _ xs => xs | _ => []
def isCells : HB → Bool | .cells _ => true | _ => false
def cs : HB → List AV | .cells cs => cs | _ => []
def isMap : HB → Bool | .map _ _ => true | _ => false
def es : HB → List (Nat × AV × AV) | .map es _ => es | _ => []
def clock : HB → Nat | .map _ c => c | _ => 0
end HB
namespace Heap
def set (H : Heap) (j : Nat) (b : HB) : Heap := { H with get := fun i => cond (Nat.beq i j) b (H.get i) }
def push (H : Heap) (b : HB) : Heap := { next := H.next + 1, get := fun i => cond (Nat.beq i H.next) b (H.get i) }
/-- No object at all. -/
def none (H : Heap) : Heap := { next := H.next, get := fun _ => .dead }
/-- The objects as they stood, behind a call that had none. -/
def past (H : Heap) (H' : Heap) : Heap := { next := Nat.max H.next H'.next, get := H.get }
end Heap

structure St where
  tm : List AV
  mem : List MB
  H : Heap

def St.put (s : St) (d : Option Nat) (v : AV) : St :=
  match d with
  | some d => { s with tm := s.tm.set d v }
  | none => s

/-! Tags: which slices are the frame's own. -/
mutual
def mapT (f : AV → AV) : AV → AV
  | .agg cs => .agg (mapTs f cs)
  | .tup cs => .tup (mapTs f cs)
  | .iface t v => .iface t (mapT f v)
  | v => f v
def mapTs (f : AV → AV) : List AV → List AV
  | [] => []
  | x :: r => mapT f x :: mapTs f r
end
def killF (t : Nat) : AV → AV
  | .sl t' k xs => cond (Nat.beq t' t) .any (.sl t' k xs)
  | .ep t' k i o xs => cond (Nat.beq t' t) .any (.ep t' k i o xs)
  | v => v
def frzF (t : Nat) : AV → AV
  | .sl t' k xs => cond (Nat.beq t' t) (.sl 0 k xs) (.sl t' k xs)
  | .ep t' k i o xs => cond (Nat.beq t' t) (.rp (xs.getD i []) o) (.ep t' k i o xs)
  | v => v
def updF (t : Nat) (ys : List (List AV)) : AV → AV
  | .sl t' k xs => cond (Nat.beq t' t) (.sl t' k ys) (.sl t' k xs)
  | .ep t' k i o xs => cond (Nat.beq t' t) (.ep t' k i o ys) (.ep t' k i o xs)
  | v => v
/-- The tag in a value's stead: what is handed to a call that gives no memory back. -/
def lendF : AV → AV
  | .sl _ k xs => .sl 0 k xs
  | .ep _ _ i o xs => .rp (xs.getD i []) o
  | .ptr _ _ => .any
  | v => v
mutual
def tagsOf : AV → List Nat
  | .sl t _ _ => cond (Nat.beq t 0) [] [t]
  | .ep t _ _ _ _ => [t]
  | .agg cs => tagsOfs cs
  | .tup cs => tagsOfs cs
  | .iface _ v => tagsOf v
  | _ => []
def tagsOfs : List AV → List Nat
  | [] => []
  | x :: r => tagsOf x ++ tagsOfs r
end
def MB.mapM (f : AV → AV) : MB → MB
  | .cells cs => .cells (mapTs f cs)
  | b => b
def St.mapS (f : AV → AV) (s : St) : St := { s with tm := mapTs f s.tm, mem := s.mem.map (MB.mapM f) }
def MB.tags : MB → List Nat
  | .cells cs => tagsOfs cs
  | _ => []
def St.tags (s : St) : List Nat := tagsOfs s.tm ++ s.mem.flatMap MB.tags
def St.fresh (s : St) : Nat := s.tags.foldl Nat.max 0 + 1
def St.frzAll (s : St) : List Nat → St
  | [] => s
  | t :: ts => (s.mapS (frzF t)).frzAll ts
def frzV (v : AV) : AV := mapT lendF v
def frzVs (l : List AV) : List AV := mapTs lendF l

/-! Operands. -/
/-- The cells of a package-level variable that stays as it is. -/
def gl (g : Nat) : List AV := match fxT.lookup g with | some p => p.2.map (AV.int p.1) | none => []
def constAV : Value → AV
  | .bool b => .bool b
  | .int k n => .int k n
  | .string s => .str s
  | .pointer none => .nilp
  | .slice none 0 0 => .nilsl
  | .map none => .nilmap
  | .nilFunc => .nilfn
  | .nilIface => .niliface
  | .agg cs => .agg (cs.toList.map fun | .bool b => .bool b | .int k n => .int k n | .string s => .str s | .pointer none => .nilp | .slice none 0 0 => .nilsl | .map none => .nilmap | .nilFunc => .nilfn | .nilIface => .niliface | _ => .any)
  | _ => .any
def ρ (tm : List AV) : Operand → AV
  | .tmp t => tm.getD t .any
  | .const v => constAV v
  | .global g => cond (fxT.lookup g).isSome (.rp (gl g) 0) .any
  | .func f => .fn f []

/-! Types. -/
def ti (T : List TI) (t : Nat) : TI := T.getD t { k := .other, size := 0, bytes := 0, shape := [] }
def isAggT (T : List TI) (t : Nat) : Bool := match (ti T t).k with | .struct _ => true | .array _ _ => true | _ => false
def zeroT (T : List TI) (t : Nat) : AV := cond (isAggT T t) (.agg ((ti T t).shape.map CK.zero)) (((ti T t).shape.map CK.zero).headD .any)
def cellsOf : AV → List AV
  | .agg cs => cs
  | v => [v]
def setRange (cs : List AV) (o : Nat) : List AV → List AV
  | [] => cs
  | v :: r => setRange (cs.set o v) (o + 1) r
/-- The same, cell by cell: each is told apart, wherever the place may be. -/
def selAV (b : Bool) : AV → AV → AV
  | .int k x, .int k' y => cond (decide (k = k')) (.int k (cond b x y)) (cond b (.int k x) (.int k' y))
  | .bool x, .bool y => .bool (cond b x y)
  | .str x, .str y => .str (cond b x y)
  | x, y => cond b x y
def setAtI : List AV → Nat → Nat → AV → List AV
  | [], _, _, _ => []
  | c :: cs, i, o, v => selAV (Nat.beq o i) v c :: setAtI cs (i + 1) o v
def setRangeX (cs : List AV) (o : Nat) : List AV → List AV
  | [] => cs
  | v :: r => setRangeX (setAtI cs 0 o v) (o + 1) r
theorem selAV_eq (b : Bool) (x y : AV) : selAV b x y = cond b x y := by
  cases x <;> cases y <;> first | rfl | (cases b <;> rfl) | skip
  rename_i k x k' y
  simp only [selAV]
  by_cases h : k = k'
  · subst h
    simp only [decide_true, cond_true]
    cases b <;> rfl
  · rw [decide_eq_false h]
    rfl
theorem setAtI_eq : ∀ (cs : List AV) (i o : Nat) (v : AV), i ≤ o → setAtI cs i o v = cs.set (o - i) v
  | [], i, o, v, h => rfl
  | c :: cs, i, o, v, h => by
    simp only [setAtI]
    rw [selAV_eq]
    by_cases e : o = i
    · subst e
      have h2 : ∀ (cs : List AV) (j : Nat), o < j → setAtI cs j o v = cs := by
        intro cs
        induction cs with
        | nil => intro j _; rfl
        | cons d cs ih =>
          intro j hj
          simp only [setAtI]
          rw [selAV_eq, ih _ (by omega)]
          have : Nat.beq o j = false := by
            cases hb : Nat.beq o j with
            | false => rfl
            | true => have := Nat.eq_of_beq_eq_true hb; omega
          rw [this]
          rfl
      rw [h2 cs _ (by omega), Nat.beq_refl, cond_true, Nat.sub_self, List.set_cons_zero]
    · have hb : Nat.beq o i = false := by
        cases hb : Nat.beq o i with
        | false => rfl
        | true => exact absurd (Nat.eq_of_beq_eq_true hb) e
      rw [hb, cond_false, setAtI_eq cs _ _ _ (by omega), show o - i = (o - (i + 1)) + 1 by omega, List.set_cons_succ]
theorem setRangeX_eq : ∀ (vs cs : List AV) (o : Nat), setRangeX cs o vs = setRange cs o vs
  | [], _, _ => rfl
  | v :: r, cs, o => by
    simp only [setRangeX, setRange]
    rw [setAtI_eq _ _ _ _ (Nat.zero_le _), Nat.sub_zero]
    exact setRangeX_eq r _ _
/-- Does a value take up one cell for sure? -/
def scalarAV : AV → Bool | .any => false | .tup _ => false | .agg _ => false | _ => true
def boxable : AV → Bool | .agg cs => cs.all scalarAV | x => scalarAV x
/-- Parts are laid into their places. -/
def fillAV (place : Nat → Option (Nat × Nat)) : List AV → List (Nat × AV) → (List AV → Prop) → Prop
  | cs, [], K => K cs
  | cs, (i, v) :: r, K => match place i with
    | none => False
    | some (off, size) => G (boxable v) (G (Nat.beq (cellsOf v).length size) (G (Nat.ble (off + size) cs.length) (fillAV place (setRange cs off (cellsOf v)) r K)))
def fillRows (k : Nat) : List (List AV) → List (Nat × AV) → (List (List AV) → Prop) → Prop
  | xs, [], K => K xs
  | xs, (i, v) :: r, K => G (boxable v) (G (Nat.beq (cellsOf v).length k) (G (Nat.blt i xs.length) (fillRows k (xs.set i (cellsOf v)) r K)))
def scalarT (T : List TI) (t : Nat) : Bool :=
  match (ti T t).k with
  | .int _ => true | .bool => true | .str => true
  | .tuple ts => ts.all fun u => match (ti T u).k with | .int _ => true | .bool => true | .str => true | _ => false
  | _ => false

def bt (s : ByteArray) (i : Int) : Int := ((s.data.toList.getD i.toNat 0).toNat : Int)
def bytesAV (s : ByteArray) : List (List AV) := s.data.toList.map fun b => [.int .u8 (b.toNat : Int)]
def ltI (a b : Int) : Bool := decide (a < b)
def leI (a b : Int) : Bool := decide (a ≤ b)
def eqI (a b : Int) : Bool := decide (a = b)
def eqS (a b : ByteArray) : Bool := decide (a = b)
def ltS (a b : ByteArray) : Bool := Op.bytesLess a.toList b.toList
def lenI {α : Type} (l : List α) : Int := (l.length : Int)
def sizeI (s : ByteArray) : Int := (s.size : Int)
def addW (k : IntKind) (a b : Int) : Int := k.wrap (a + b)
def subW (k : IntKind) (a b : Int) : Int := k.wrap (a - b)
def mulW (k : IntKind) (a b : Int) : Int := k.wrap (a * b)
def andW (k : IntKind) (a b : Int) : Int := k.wrap (BitVec.ofInt k.bits a &&& BitVec.ofInt k.bits b).toNat
def orW (k : IntKind) (a b : Int) : Int := k.wrap (BitVec.ofInt k.bits a ||| BitVec.ofInt k.bits b).toNat
def xorW (k : IntKind) (a b : Int) : Int := k.wrap (BitVec.ofInt k.bits a ^^^ BitVec.ofInt k.bits b).toNat
def andNotW (k : IntKind) (a b : Int) : Int := k.wrap (BitVec.ofInt k.bits a &&& ~~~ BitVec.ofInt k.bits b).toNat
def shlW (k : IntKind) (a b : Int) : Int := k.wrap (a * 2 ^ min b.toNat k.bits)
def shrW (k : IntKind) (a b : Int) : Int := a.fdiv (2 ^ min b.toNat k.bits)

/-- The table of a program's types. -/
def tkOf (P : Program) (t : Nat) : TK :=
  match P.underlying t with
  | some (.int k) => .int k
  | some .bool => .bool
  | some .string => .str
  | some (.pointer e) => .ptr e
  | some (.slice e) => .slice e
  | some (.struct fs) => .struct (fs.toList.map fun f => (f.offset, f.type))
  | some (.array n e) => .array n e
  | some (.map k e) => .map k e
  | some (.func ..) => .func
  | some (.interface _) => .iface
  | some (.tuple es) => .tuple es.toList
  | _ => .other
def shapeOf (P : Program) : Nat → Nat → List CK
  | 0, _ => []
  | d + 1, t =>
    match P.underlying t with
    | some (.int k) => [.int k]
    | some .bool => [.bool]
    | some .string => [.str]
    | some (.pointer _) => [.ptr]
    | some (.slice e) => [.slice (P.cellsOf e)]
    | some (.struct fs) => fs.toList.flatMap fun f => shapeOf P d f.type
    | some (.array n e) => (List.replicate n (shapeOf P d e)).flatten
    | some (.map ..) => [.map]
    | some (.func ..) => [.func]
    | some (.interface _) => [.iface]
    | _ => [.other]
def tyOf (P : Program) (t : Nat) : TI := { k := tkOf P t, size := P.cellsOf t, bytes := P.bytesOf t, shape := shapeOf P 20 t }
def tysOf (P : Program) : List TI := (List.range P.types.size).map (tyOf P)

/-! What an operation gives that turns nothing. -/
def loadAt (T : List TI) (mem : List MB) (H : Heap) (t : Nat) (p : AV) (K : AV → Prop) : Prop :=
  match p with
  | .ptr j o =>
    match mem.getD j .dead with
    | .cells cs => cond (isAggT T t) (normML (fun i => cs.getD i .any) (ti T t).shape o fun l => K (.agg l)) (normM ((ti T t).shape.headD .other) (cs.getD o .any) K)
    | .frz cs => cond (isAggT T t) (normL (fun i => cs.getD i .any) (ti T t).shape o fun l => K (.agg l)) (norm ((ti T t).shape.headD .other) (cs.getD o .any) K)
    | _ => False
  | .rp cs o => cond (isAggT T t) (normL (fun i => cs.getD i .any) (ti T t).shape o fun l => K (.agg l)) (norm ((ti T t).shape.headD .other) (cs.getD o .any) K)
  | .ep _ _ i o xs => cond (isAggT T t) (normL (fun j => (xs.getD i []).getD j .any) (ti T t).shape o fun l => K (.agg l)) (norm ((ti T t).shape.headD .other) ((xs.getD i []).getD o .any) K)
  | .he j k i o => G ((H.get j).isRows k) (cond (isAggT T t) (normL (fun q => ((H.get j).xs.getD i []).getD q .any) (ti T t).shape o fun l => K (.agg l)) (norm ((ti T t).shape.headD .other) (((H.get j).xs.getD i []).getD o .any) K))
  | .obj j o => G ((H.get j).isCells) (cond (isAggT T t) (normOL (fun q => (H.get j).cs.getD q .any) (ti T t).shape o fun l => K (.agg l)) (normO ((ti T t).shape.headD .other) ((H.get j).cs.getD o .any) K))
  | _ => False

def partAV (T : List TI) (t : Nat) (cs : List AV) (o : Nat) (K : AV → Prop) : Prop := cond (isAggT T t) (normML (fun i => cs.getD i .any) (ti T t).shape o fun l => K (.agg l)) (normM ((ti T t).shape.headD .other) (cs.getD o .any) K)

def eqCells : List AV → List AV → Option Bool
  | [], [] => some true
  | .int k a :: r, .int k' b :: s => cond (decide (k = k')) ((eqCells r s).map fun q => (eqI a b && q)) none
  | .bool a :: r, .bool b :: s => (eqCells r s).map fun q => ((a == b) && q)
  | .str a :: r, .str b :: s => (eqCells r s).map fun q => (eqS a b && q)
  | _, _ => none

/-- Is a struct made of numbers, bools, strings and such structs alone, its parts one behind the other? -/
def eqTile (T : List TI) (total : Nat) : Nat → List (Nat × Nat) → Bool
  | off, [] => Nat.beq off total
  | off, p :: r => Nat.beq p.1 off && eqTile T total (off + (ti T p.2).size) r
def eqT (T : List TI) : Nat → Nat → Bool
  | 0, _ => false
  | d + 1, t => match (ti T t).k with
    | .int k => Nat.beq (ti T t).size 1 && (match k with | .u64 => false | _ => true)
    | .bool => Nat.beq (ti T t).size 1
    | .str => Nat.beq (ti T t).size 1
    | .struct fs => eqTile T (ti T t).size 0 fs && fs.all fun p => eqT T d p.2
    | _ => false
/-- The kinds of its cells. -/
def kindsT (T : List TI) : Nat → Nat → List CK
  | 0, _ => []
  | d + 1, t => match (ti T t).k with
    | .int k => [.int k]
    | .bool => [.bool]
    | .str => [.str]
    | .struct fs => fs.flatMap fun p => kindsT T d p.2
    | _ => []
def plainK (T : List TI) (t : Nat) : List CK := kindsT T 8 t
def cellsFit : List CK → List AV → Bool
  | [], [] => true
  | .int k :: r, .int k' _ :: s => decide (k = k') && cellsFit r s
  | .bool :: r, .bool _ :: s => cellsFit r s
  | .str :: r, .str _ :: s => cellsFit r s
  | _, _ => false
def plainT (T : List TI) (t : Nat) : Bool := (match (ti T t).k with | .struct _ => true | _ => false) && eqT T 8 t
/-- k: the operands' kind; c: one of the operands is a constant; p, z: the type is plain, its size. -/
def eqlAV (p : Bool) (z : List CK) (k : TK) (c : Bool) (x y : AV) (K : Bool → Prop) : Prop :=
  match x, y with
  | .int k a, .int k' b => G (decide (k = k')) (K (eqI a b))
  | .str a, .str b => K (eqS a b)
  | .bool a, .bool b => match k with | .bool => K (a == b) | _ => False
  | .agg xs, .agg ys => G p (G (cellsFit z xs && cellsFit z ys) (match eqCells xs ys with | some b => K b | none => False))
  | .nilp, .nilp => match k with | .ptr _ => K true | _ => False
  | .ptr _ _, .nilp => match k with | .ptr _ => K false | _ => False
  | .rp _ _, .nilp => match k with | .ptr _ => K false | _ => False
  | .obj _ _, .nilp => match k with | .ptr _ => K false | _ => False
  | .he _ _ _ _, .nilp => match k with | .ptr _ => K false | _ => False
  | .nilp, .obj _ _ => match k with | .ptr _ => K false | _ => False
  | .nilmap, .nilmap => match k with | .map _ _ => K true | _ => False
  | .map _, .nilmap => match k with | .map _ _ => K false | _ => False
  | .nilfn, .nilfn => match k with | .func => K true | _ => False
  | .fn _ _, .nilfn => match k with | .func => K false | _ => False
  | .niliface, .niliface => match k with | .iface => G c (K true) | _ => False
  | .iface _ _, .niliface => match k with | .iface => K false | _ => False
  | _, _ => False

def binAV (p : Bool) (z : List CK) (k : TK) (c : Bool) (op : BinOp) (x y : AV) (K : AV → Prop) : Prop :=
  match op with
  | .eql => eqlAV p z k c x y fun b => K (.bool b)
  | .neq => eqlAV p z k c x y fun b => K (.bool (!b))
  | .add => match x, y with
    | .int k a, .int k' b => G (decide (k = k')) (K (.int k (addW k a b)))
    | .str a, .str b => G (Nat.ble (a.size + b.size) 9223372036854775807) (K (.str (a ++ b)))
    | _, _ => False
  | .sub => match x, y with | .int k a, .int k' b => G (decide (k = k')) (K (.int k (subW k a b))) | _, _ => False
  | .mul => match x, y with | .int k a, .int k' b => G (decide (k = k')) (K (.int k (mulW k a b))) | _, _ => False
  | .quo => match x, y with | .int k a, .int k' b => G (decide (k = k')) (G (!(eqI b 0)) (K (.int k (k.wrap (a.tdiv b))))) | _, _ => False
  | .rem => match x, y with | .int k a, .int k' b => G (decide (k = k')) (G (!(eqI b 0)) (K (.int k (a.tmod b)))) | _, _ => False
  | .and => match x, y with | .int k a, .int k' b => G (decide (k = k')) (K (.int k (andW k a b))) | _, _ => False
  | .or => match x, y with | .int k a, .int k' b => G (decide (k = k')) (K (.int k (orW k a b))) | _, _ => False
  | .xor => match x, y with | .int k a, .int k' b => G (decide (k = k')) (K (.int k (xorW k a b))) | _, _ => False
  | .andNot => match x, y with | .int k a, .int k' b => G (decide (k = k')) (K (.int k (andNotW k a b))) | _, _ => False
  | .shl => match x, y with | .int k a, .int _ b => G (leI 0 b) (K (.int k (shlW k a b))) | _, _ => False
  | .shr => match x, y with | .int k a, .int _ b => G (leI 0 b) (K (.int k (shrW k a b))) | _, _ => False
  | .lss => match x, y with | .int k a, .int k' b => G (decide (k = k')) (K (.bool (ltI a b))) | .str a, .str b => K (.bool (ltS a b)) | _, _ => False
  | .leq => match x, y with | .int k a, .int k' b => G (decide (k = k')) (K (.bool (leI a b))) | .str a, .str b => K (.bool (!(ltS b a))) | _, _ => False
  | .gtr => match x, y with | .int k a, .int k' b => G (decide (k = k')) (K (.bool (ltI b a))) | .str a, .str b => K (.bool (ltS b a)) | _, _ => False
  | .geq => match x, y with | .int k a, .int k' b => G (decide (k = k')) (K (.bool (leI b a))) | .str a, .str b => K (.bool (!(ltS a b))) | _, _ => False
def isConstO : Operand → Bool | .const _ => true | _ => false

def boundI (o : Option Operand) (r : Operand → AV) (d : Int) (K : Int → Prop) : Prop :=
  match o with
  | none => K d
  | some x => match r x with | .int _ n => K n | _ => False

/-! Maps: entries, each with the time at which it was made. -/
def keyEq (x y : AV) : Bool := match eqCells (cellsOf x) (cellsOf y) with | some b => b | none => false
def mfind (k : AV) : List (Nat × AV × AV) → Option AV
  | [] => none
  | e :: r => cond (keyEq k e.2.1) (some e.2.2) (mfind k r)
def mhas (k : AV) (es : List (Nat × AV × AV)) : Bool := (mfind k es).isSome
def mget (k : AV) (es : List (Nat × AV × AV)) : AV := (mfind k es).getD .any
def mput (k v : AV) (c : Nat) : List (Nat × AV × AV) → List (Nat × AV × AV)
  | [] => [(c, k, v)]
  | e :: r => cond (keyEq k e.2.1) ((e.1, k, v) :: r) (e :: mput k v c r)
def mdel (k : AV) : List (Nat × AV × AV) → List (Nat × AV × AV)
  | [] => []
  | e :: r => cond (keyEq k e.2.1) r (e :: mdel k r)
def mleft (seen : List Nat) (es : List (Nat × AV × AV)) : List (Nat × AV × AV) := es.filter fun e => !(seen.contains e.1)
def mborn (n : Nat) (es : List (Nat × AV × AV)) : Option (Nat × AV × AV) := es.find? fun e => Nat.beq e.1 n
def mkeyAt (n : Nat) (es : List (Nat × AV × AV)) : AV := match mborn n es with | some e => e.2.1 | none => .any
def mvalAt (n : Nat) (es : List (Nat × AV × AV)) : AV := match mborn n es with | some e => e.2.2 | none => .any
def keyFits (ks : List CK) (a : Bool) (x : AV) : Bool := match x with | .agg cs => a && cellsFit ks cs | x => !a && cellsFit ks [x]
def keyT (T : List TI) (t : Nat) : List CK := cond (isAggT T t) (plainK T t) (kindsT T 1 t)
/-- A type of keys: numbers, bools, strings, structs of these. -/
def keyOkT (T : List TI) (t : Nat) : Bool := cond (isAggT T t) (plainT T t) (eqT T 1 t)
/-- A block that is a map whose keys are of a type. -/
def HB.isMapOf (b : HB) (ks : List CK) (a : Bool) : Bool := b.isMap && b.es.all fun e => keyFits ks a e.2.1
/-- A value out of a map, in the form that its type tells. -/
def normE (T : List TI) (t : Nat) (x : AV) (K : AV → Prop) : Prop := cond (isAggT T t) (G (x.isAgg && Nat.beq x.aggCs.length (ti T t).shape.length) (normL (fun i => x.aggCs.getD i .any) (ti T t).shape 0 fun l => K (.agg l))) (norm1 ((ti T t).shape.headD .other) x K)
def lookAV (T : List TI) (t : Nat) (ok : Bool) (H : Heap) (x k : AV) (K : AV → Prop) : Prop :=
  match (ti T t).k, x with
  | .map kt vt, .map j => G (keyOkT T kt) (G (keyFits (keyT T kt) (isAggT T kt) k) (G ((H.get j).isMapOf (keyT T kt) (isAggT T kt))
      (cond (mhas k (H.get j).es) (normE T vt (mget k (H.get j).es) fun v => K (cond ok (.tup [v, .bool true]) v)) (G (match (ti T vt).k with | .other => false | .tuple _ => false | _ => true) (K (cond ok (.tup [zeroT T vt, .bool false]) (zeroT T vt)))))))
  | _, _ => False

/-- The value of an operation that turns nothing; 'False' for the others. -/
def light (T : List TI) (op : Op) (r : Operand → AV) (mem : List MB) (H : Heap) (K : AV → Prop) : Prop :=
  match op with
  | .move x | .assign x => K (r x)
  | .pick c a b => match r c with | .bool t => cond t (K (r a)) (K (r b)) | _ => False
  | .load t a => loadAt T mem H t (r a) K
  | .binOp op t x y _ => binAV (plainT T t) (plainK T t) (ti T t).k (isConstO x || isConstO y) op (r x) (r y) K
  | .unOp op _ x => match op, r x with
    | .not, .bool b => K (.bool (!b))
    | .neg, .int k n => K (.int k (subW k 0 n))
    | _, _ => False
  | .convert src dst x => match (ti T src).k, (ti T dst).k, r x with
    | .int _, .int k, .int _ n => K (.int k (k.wrap n))
    | .str, .str, .str s => K (.str s)
    | _, _, _ => False
  | .fieldAddr s x f => match (ti T s).k with
    | .struct fs => match fs[f]? with
      | some (off, ft) => G (Nat.blt 0 (ti T ft).size) (match r x with
        | .ptr j o => K (.ptr j (o + off))
        | .rp cs o => K (.rp cs (o + off))
        | .ep t k i o xs => K (.ep t k i (o + off) xs)
        | .obj j o => K (.obj j (o + off))
        | .he j k i o => K (.he j k i (o + off))
        | _ => False)
      | none => False
    | _ => False
  | .field s x f => match (ti T s).k, r x with
    | .struct fs, .agg cs => match fs[f]? with
      | some (off, ft) => partAV T ft cs off K
      | none => False
    | _, _ => False
  | .indexAddr t x ix => match r ix with
    | .int _ i => match (ti T t).k, r x with
      | .slice e, .hs j o n _ k => G (Nat.beq k (ti T e).size) (G (Nat.blt 0 k) (G (leI 0 i) (G (ltI i n) (K (.he j k (o + i.toNat) 0)))))
      | .slice e, .sl tg k xs => G (Nat.beq k (ti T e).size) (G (Nat.blt 0 k) (G (leI 0 i) (G (ltI i (lenI xs)) (match tg with | 0 => K (.rp (xs.getD i.toNat []) 0) | tg + 1 => K (.ep (tg + 1) k i.toNat 0 xs)))))
      | .array n e, .ptr j o => G (Nat.blt 0 (ti T e).size) (G (leI 0 i) (G (ltI i n) (K (.ptr j (o + i.toNat * (ti T e).size)))))
      | .array n e, .rp cs o => G (Nat.blt 0 (ti T e).size) (G (leI 0 i) (G (ltI i n) (K (.rp cs (o + i.toNat * (ti T e).size)))))
      | .array n e, .ep tg k q o xs => G (Nat.blt 0 (ti T e).size) (G (leI 0 i) (G (ltI i n) (K (.ep tg k q (o + i.toNat * (ti T e).size) xs))))
      | .array n e, .obj j o => G (Nat.blt 0 (ti T e).size) (G (leI 0 i) (G (ltI i n) (K (.obj j (o + i.toNat * (ti T e).size)))))
      | .array n e, .he j k q o => G (Nat.blt 0 (ti T e).size) (G (leI 0 i) (G (ltI i n) (K (.he j k q (o + i.toNat * (ti T e).size)))))
      | _, _ => False
    | _ => False
  | .index t x ix => match r ix with
    | .int _ i => match (ti T t).k, r x with
      | .str, .str s => G (leI 0 i) (G (ltI i (sizeI s)) (K (.int .u8 (bt s i))))
      | .array n e, .agg cs => G (Nat.blt 0 (ti T e).size) (G (leI 0 i) (G (ltI i n) (partAV T e cs (i.toNat * (ti T e).size) K)))
      | _, _ => False
    | _ => False
  | .slice t x lo hi mx => match (ti T t).k, r x with
    | .str, .str s => boundI lo r 0 fun l => boundI hi r (sizeI s) fun h => G mx.isNone (G (leI 0 l) (G (leI l h) (G (leI h (sizeI s)) (K (.str (s.extract l.toNat h.toNat))))))
    | .slice e, .sl 0 k xs => boundI lo r 0 fun l => boundI hi r (lenI xs) fun h => boundI mx r h fun m => G (Nat.beq k (ti T e).size) (G (Nat.blt 0 k) (G (!mx.isSome || hi.isSome) (G (leI 0 l) (G (leI l h) (G (leI h m) (G (leI m (lenI xs)) (K (.sl 0 k ((xs.take h.toNat).drop l.toNat)))))))))
    | .slice e, .hs j o n c k => boundI lo r 0 fun l => boundI hi r n fun h => boundI mx r c fun m => G (Nat.beq k (ti T e).size) (G (Nat.blt 0 k) (G (!mx.isSome || hi.isSome) (G (leI 0 l) (G (leI l h) (G (leI h m) (G (leI m c) (K (.hs j (o + l.toNat) (h.toNat - l.toNat) (m.toNat - l.toNat) k))))))))
    | .slice e, .nilsl => boundI lo r 0 fun l => boundI hi r 0 fun h => boundI mx r 0 fun m => G (!mx.isSome || hi.isSome) (G (Nat.blt 0 (ti T e).size) (G (eqI l 0) (G (eqI h 0) (G (eqI m 0) (K .nilsl)))))
    | _, _ => False
  | .extract t i => match r t with | .tup vs => (match vs[i]? with | some v => K v | none => False) | _ => False
  | .makeFunc fn first cap => match fn, first.toList, cap.toList with
    | .func f, [], [] => K (.fn f [])
    | _, _, _ => False
  | .lookup t x k ok => lookAV T t ok H (r x) (r k) K
  | .makeInterface t x => match (ti T t).k with
    | .iface => False
    | .other => False
    | _ => K (.iface t (r x))
  | .nilCheck x => match r x with
    | .ptr j o => K (.ptr j o)
    | .rp cs o => K (.rp cs o)
    | .obj j o => K (.obj j o)
    | .he j k i o => K (.he j k i o)
    | .fn f c => K (.fn f c)
    | _ => False
  | .call c => match c.callee with
    | .builtin .len => match c.args.toList, c.argTypes.toList with
      | [x], [t] => match (ti T t).k, r x with
        | .str, .str s => K (.int .i64 (sizeI s))
        | .slice _, .sl _ _ xs => K (.int .i64 (lenI xs))
        | .slice _, .nilsl => K (.int .i64 0)
        | .slice _, .hs _ _ n _ _ => K (.int .i64 n)
        | .array n _, _ => K (.int .i64 n)
        | .map _ _, .map j => G (H.get j).isMap (K (.int .i64 (lenI (H.get j).es)))
        | _, _ => False
      | _, _ => False
    | .builtin .cap => match c.args.toList, c.argTypes.toList with
      | [x], [t] => match (ti T t).k, r x with
        | .slice _, .hs _ _ _ m _ => K (.int .i64 m)
        | .slice _, .nilsl => K (.int .i64 0)
        | _, _ => False
      | _, _ => False
    | .builtin .max => match c.args.toList.map r with
      | [.int k a, .int k' b] => G (decide (k = k')) (K (.int k (cond (ltI a b) b a)))
      | _ => False
    | .builtin .min => match c.args.toList.map r with
      | [.int k a, .int k' b] => G (decide (k = k')) (K (.int k (cond (ltI b a) b a)))
      | _ => False
    | _ => False
  | _ => False

def Oracle := Nat → List AV → Heap → (AV → Heap → Prop) → Prop

namespace AV
def isTup : AV → Bool | .tup _ => true | _ => false
def tupVs : AV → List AV | .tup vs => vs | _ => []
def isOwn (k : Nat) : AV → Bool | .sl (_ + 1) k' _ => Nat.beq k k' | .nilsl => Nat.blt 0 k | _ => false
def noTag (x : AV) : Bool := (tagsOf x).isEmpty
end AV
/-- A call's result, cell by cell, in the form that its type tells; s: the first tag that is free; own: its slices are the caller's own from here on. -/
def normC (own : Bool) (s : Nat) (c : CK) (x : AV) (K : Nat → AV → Prop) : Prop :=
  match c with
  | .int k => G (x.isInt k) (K s (.int k x.toInt))
  | .bool => G x.isBool (K s (.bool x.toBool))
  | .str => G x.isStr (K s (.str x.toStr))
  | .slice k => cond own (G (x.isOwn k) (K (s + 1) (.sl s k x.slXs))) (G (x.isSl k) (K s (.sl 0 k x.slXs)))
  | .ptr => cond x.isObj (K s (.obj x.objJ 0)) (G x.isNilp (K s .nilp))
  | .map => cond x.isMap (K s (.map x.mapJ)) (G x.isNilmap (K s .nilmap))
  | .iface => cond x.isIf (G x.noTag (K s (.iface x.ifT x.ifV))) (G x.isNilif (K s .niliface))
  | _ => cond own (G x.noTag (K s x)) (K s x)
def normCs (own : Bool) : List CK → Nat → List AV → (Nat → List AV → Prop) → Prop
  | [], s, _, K => K s []
  | c :: cs, s, xs, K => normC own s c (xs.headD .any) fun s x => normCs own cs s xs.tail fun s r => K s (x :: r)
def normT (T : List TI) (own : Bool) (s : Nat) (t : Nat) (v : AV) (K : Nat → AV → Prop) : Prop :=
  cond (isAggT T t) (G (v.isAgg && Nat.beq v.aggCs.length (ti T t).shape.length) (normCs own (ti T t).shape s v.aggCs fun s l => K s (.agg l))) (normC own s ((ti T t).shape.headD .other) v K)
def normTs (T : List TI) (own : Bool) : List Nat → Nat → List AV → (Nat → List AV → Prop) → Prop
  | [], s, _, K => K s []
  | t :: ts, s, xs, K => normT T own s t (xs.headD .any) fun s x => normTs T own ts s xs.tail fun s r => K s (x :: r)
def normRes (T : List TI) (own : Bool) (s : Nat) (t : Nat) (v : AV) (K : AV → Prop) : Prop :=
  match (ti T t).k with
  | .tuple ts => G (v.isTup && Nat.beq v.tupVs.length ts.length) (normTs T own ts s v.tupVs fun _ l => K (.tup l))
  | _ => normT T own s t v fun _ v => K v

/-- What a program's functions are told to be: the tables. -/
structure Env where
  T : List TI
  fs : Nat → Option Func
  L : Nat → List (List (Nat × Nat)) × List (Nat × List (Nat × Nat))     -- the live slots at the heads of a function's loops; behind blocks (2 * id) and regions (2 * id + 1) where paths meet
  own : Nat → Bool              -- the slices in a function's result are the caller's own
  leaf : Oracle                 -- what is told of the functions that are not walked
  io : Nat → Bool               -- the functions that turn the slice that they are handed first
  pur : Nat → Bool              -- the functions that need no object
  apart : Nat → Bool            -- slices.overlaps
  hp : Nat → Bool               -- the types whose variables are objects: they lie in the heap
  disp : String → List (Nat × Nat)     -- an interface's method: by the dynamic type, the function

/-- What is lent to a call that gives no memory back: slices of the heap's blocks, too. -/
def lendH (H : Heap) : AV → AV
  | .hs j o n _ k => .sl 0 k (((H.get j).xs.drop o).take n)
  | v => lendF v
def hsOk (H : Heap) : AV → Bool
  | .hs j o n _ k => (H.get j).isRows k && Nat.ble (o + n) (H.get j).xs.length
  | .agg cs => cs.all fun | .hs _ _ _ _ _ => false | .agg _ => false | .tup _ => false | .iface _ _ => false | _ => true
  | .tup _ => false
  | .iface _ _ => false
  | _ => true
/-- Rows of whose cells nothing is known. -/
def pad (k m : Nat) (xs : List (List AV)) : List (List AV) := xs ++ List.replicate (m - xs.length) (List.replicate k .any)
/-- Has a call left the blocks that lay there? -/
def Heap.Same (H H' : Heap) : Prop := ∀ i, i < H.next → H'.get i = H.get i
/-- A call that turns the slice that it is handed, one of the frame's own; K: what it holds behind the call. -/
def ioTurn (R : Oracle) (f k : Nat) (xs : List (List AV)) (rest : List AV) (H : Heap) (K : List (List AV) → Heap → Prop) : Prop :=
  (∀ m, xs.length ≤ m → (xs.length ≤ 140737488355328 → m ≤ 9223372036854775807) → R f (.hs H.next 0 xs.length m k :: rest) (H.push (.rows k (pad k m xs))) fun v H' =>
    v = .tup [] ∧ H.Same H' ∧ ∃ ys, H'.get H.next = .rows k ys ∧ ys.length = m ∧ K (ys.take xs.length) (H'.set H.next (H.get H.next))) ∧
  (xs = [] → R f (.nilsl :: rest) H fun v H' => v = .tup [] ∧ K [] H')
/-- What became of the slice that was handed over: it stands in a block of the heap that is taken back, or is the caller's own. -/
def ioRet (k : Nat) (H H' : Heap) (v : AV) (K : List (List AV) → Heap → Prop) : Prop :=
  (∃ j n c ys, v = .hs j 0 n c k ∧ H.next ≤ j ∧ H'.get j = .rows k ys ∧ ys.length = c ∧ n ≤ c ∧ K (ys.take n) ((H'.set j (H.get j)).set H.next (H.get H.next))) ∨
  (∃ t ys, v = .sl (t + 1) k ys ∧ K ys (H'.set H.next (H.get H.next)))
/-- A call that hands back what became of the slice that it was handed; K: what it holds. -/
def ioBack (R : Oracle) (f k : Nat) (xs : List (List AV)) (rest : List AV) (H : Heap) (K : List (List AV) → Heap → Prop) : Prop :=
  (∀ m, xs.length ≤ m → (xs.length ≤ 140737488355328 → m ≤ 9223372036854775807) → R f (.hs H.next 0 xs.length m k :: rest) (H.push (.rows k (pad k m xs))) fun v H' => H.Same H' ∧ H'.get H.next ≠ .dead ∧ ioRet k H H' v K) ∧
  (xs = [] → R f (.nilsl :: rest) H fun v H' => H.Same H' ∧ (ioRet k H H' v K ∨ (v = .nilsl ∧ K [] H')))
def isSliceT (T : List TI) (t : Nat) : Bool := match (ti T t).k with | .slice _ => true | _ => false
def isUnitT (T : List TI) (t : Nat) : Bool := match (ti T t).k with | .tuple [] => true | _ => false
/-- What of the heap a call was handed first: a slice's size of an element, or nil. -/
def hdHs : List AV → Option (Option Nat)
  | .hs _ _ _ _ k :: _ => some (some k)
  | .nilsl :: _ => some none
  | _ => none
def isNilHd : List AV → Bool
  | .nilsl :: _ => true
  | _ => false
/-- The slice of the heap that a call hands back: the kind of the one that it was handed. -/
def hsK (h : Option (Option Nat)) (v : AV) (K : AV → Prop) : Prop :=
  match h with
  | some (some k) => G (v.isHs k) (K (.hs v.hsJ v.hsO v.hsN v.hsC k))
  | some none => G v.isNilsl (K .nilsl)
  | none => False
def callIO (E : Env) (R : Oracle) (s : St) (f : Nat) (args : List AV) (type : Nat) (K : AV → St → Prop) : Prop :=
  match args with
  | .sl (t + 1) k xs :: rest =>
    G (!((tagsOfs rest).contains (t + 1)) && Nat.blt 0 k)
      (let s' := s.frzAll (tagsOfs rest)
       cond (isUnitT E.T type)
        (G (!(E.own f)) (ioTurn R f k xs (frzVs rest) s.H fun ys H => K (.tup []) { s'.mapS (updF (t + 1) ys) with H := H }))
        (G (E.own f && isSliceT E.T type) (ioBack R f k xs (frzVs rest) s.H fun ys H => K (.sl (s'.mapS (killF (t + 1))).fresh k ys) { s'.mapS (killF (t + 1)) with H := H })))
  | args =>
    let s' := s.frzAll (tagsOfs args)
    cond (scalarT E.T type) (G (!(E.own f)) (R f (frzVs args) s.H fun v H => normRes E.T false 0 type v fun v => K v { s' with H := H }))
      (G (E.own f && isSliceT E.T type) (cond (isNilHd args) (R f (frzVs args) s.H fun v H => normRes E.T (E.own f) s'.fresh type v fun v => K v { s' with H := H }) (R f (frzVs args) s.H fun v H => hsK (hdHs args) v fun v => K v { s' with H := H })))

/-- A call of a function that needs no object: the objects stand behind it as they stood. -/
def pastR (R : Oracle) : Oracle := fun f args H Q => R f args H.none fun v H' => Q v (H.past H')
def callAV (E : Env) (R : Oracle) (strict : Bool) (s : St) (f : Nat) (args : List AV) (type : Nat) (K : AV → St → Prop) : Prop :=
  cond (E.io f) (G (!strict) (callIO E R s f args type K))
  (cond (E.pur f)
    (cond (scalarT E.T type)
      (G (!(E.own f)) (G (args.all (hsOk s.H)) (pastR R f (mapTs (lendH s.H) args) s.H fun v H => normRes E.T false 0 type v fun v => K v { s with H := H })))
      (cond strict
        (G (tagsOfs args).isEmpty (G (!(E.own f)) (pastR R f (frzVs args) s.H fun v H => normRes E.T false 0 type v fun v => K v { s with H := H })))
        (let s' := s.frzAll (tagsOfs args); pastR R f (frzVs args) s.H fun v H => normRes E.T (E.own f) s'.fresh type v fun v => K v { s' with H := H })))
    (G (!strict) (let s' := s.frzAll (tagsOfs args); R f (frzVs args) s.H fun v H => normRes E.T (E.own f) s'.fresh type v fun v => K v { s' with H := H })))
/-- slices.overlaps: of slices in several blocks, or of no element. -/
def apartK (H : Heap) (x y : AV) (K : Bool → Prop) : Prop :=
  match x, y with
  | .nilsl, .nilsl => K false
  | .nilsl, .hs _ _ _ _ _ => K false
  | .nilsl, .sl _ (_ + 1) _ => K false
  | .hs _ _ _ _ _, .nilsl => K false
  | .sl _ (_ + 1) _, .nilsl => K false
  | .hs j _ _ _ (k + 1), .sl _ (_ + 1) _ => G ((H.get j).isRows (k + 1)) (K false)
  | .sl _ (_ + 1) _, .hs j _ _ _ (k + 1) => G ((H.get j).isRows (k + 1)) (K false)
  | _, _ => False

/-- A type of which rows are made. -/
def madeT (T : List TI) (e : Nat) : Bool := (match (ti T e).k with | .other => false | .tuple _ => false | _ => true) && (Nat.blt 0 (ti T e).size && Nat.blt 0 (ti T e).bytes)
/-- There is room for both. -/
def room (xs ys : List (List AV)) (b : Nat) : Bool := Nat.ble ((xs.length + ys.length) * b) 140737488355328
def roomN (n : Int) (b : Nat) : Bool := leI (n * (b : Int)) 140737488355328

/-- Captured values: a pointer into the frame's memory is told as what lies there, which nobody may turn from here on. -/
def capAll : St → List AV → (List AV → St → Prop) → Prop
  | s, [], K => K [] s
  | s, .ptr j o :: r, K => match s.mem.getD j .dead with
    | .cells cs => let s' := s.frzAll (tagsOfs cs); capAll { s' with mem := s'.mem.set j (.frz (frzVs cs)) } r fun vs s => K (.rp (frzVs cs) o :: vs) s
    | .frz cs => capAll s r fun vs s => K (.rp cs o :: vs) s
    | _ => False
  | s, v :: r, K => let s' := s.frzAll (tagsOf v); capAll s' r fun vs s => K (frzV v :: vs) s

/-- A nil slice that is handed to a function, as one of no element. -/
def nilA : CK → AV → AV
  | .slice k, .nilsl => .sl 0 k []
  | _, x => x
def nilAs : List CK → List AV → List AV
  | c :: cs, x :: xs => nilA c x :: nilAs cs xs
  | _, xs => xs
def argN (T : List TI) (t : Nat) (v : AV) : AV :=
  match v with
  | .agg cs => .agg (nilAs (ti T t).shape cs)
  | v => nilA ((ti T t).shape.headD .other) v
def argNs (T : List TI) : List Nat → List AV → List AV
  | t :: ts, v :: vs => argN T t v :: argNs T ts vs
  | _, vs => vs
def twoSame (c : Go.Call) : Bool := match c.args.toList, c.argTypes.toList with | [_, _], [t, u] => Nat.beq t u | _, _ => false
def rowOf (k : Nat) (H : Heap) (v : AV) (K : List (List AV) → Prop) : Prop :=
  match v with
  | .sl _ k' ys => G (Nat.beq k' k) (K ys)
  | .nilsl => K []
  | .hs j o n _ k' => G (Nat.beq k' k) (G ((H.get j).isRows k) (G (Nat.ble (o + n) (H.get j).xs.length) (K (((H.get j).xs.drop o).take n))))
  | _ => False
/-- append(s, make([]T, n)...): the second operand is a number. -/
def zerosOf (T : List TI) (e : Nat) (c : Go.Call) (v : AV) (K : List (List AV) → Prop) : Prop :=
  match c.args.toList, c.argTypes.toList with
  | [_, _], [_, u] => match (ti T u).k, v with
    | .int .i64, .int .i64 n => G (leI 0 n) (G (roomN n (ti T e).bytes) (K (List.replicate n.toNat ((ti T e).shape.map CK.zero))))
    | _, _ => False
  | _, _ => False
def splice (xs : List (List AV)) (o : Nat) (ys : List (List AV)) : List (List AV) := xs.take o ++ ys ++ xs.drop (o + ys.length)
/-- A slice of these, of which nobody turns anything. -/
def buildL (T : List TI) (t n : Nat) (ps : Array (Nat × Operand)) (r : Operand → AV) (K : AV → Prop) : Prop :=
  match (ti T t).k with
  | .slice e => G (madeT T e) (G (Nat.ble (n * (ti T e).size) 16777216) (fillRows (ti T e).size (List.replicate n ((ti T e).shape.map CK.zero)) (ps.toList.map fun p => (p.1, frzV (r p.2))) fun xs => K (.sl 0 (ti T e).size xs)))
  | _ => False
/-- A slice of these, the frame's own. -/
def buildO (T : List TI) (t n : Nat) (ps : Array (Nat × Operand)) (r : Operand → AV) (s : St) (K : St → AV → Prop) : Prop :=
  match (ti T t).k with
  | .slice e =>
    let s' := s.frzAll (tagsOfs (ps.toList.map fun p => r p.2))
    G (madeT T e) (G (Nat.ble (n * (ti T e).size) 16777216) (fillRows (ti T e).size (List.replicate n ((ti T e).shape.map CK.zero)) (ps.toList.map fun p => (p.1, frzV (r p.2))) fun xs =>
      K s' (.sl s'.fresh (ti T e).size xs)))
  | _ => False
/-- A method's call, by the receiver's dynamic type. -/
def invAV (E : Env) (R : Oracle) (strict : Bool) (s : St) (args : List AV) (type : Nat) (t : Nat) (v : AV) (K : AV → St → Prop) : List (Nat × Nat) → Prop
  | [] => False
  | p :: r => cond (Nat.beq t p.1) (G (!(E.io p.2)) (normE E.T p.1 v fun x => callAV E R strict s p.2 (x :: args) type K)) (invAV E R strict s args type t v K r)
def aop (E : Env) (R : Oracle) (strict : Bool) (o : Oper) (s : St) (K : St → Prop) : Prop :=
  let T := E.T
  let r := ρ s.tm
  match o.op with
  | .alloc e => G (match (ti T e).k with | .other => false | .tuple _ => false | _ => true)
      (cond (E.hp e) (K ({ s with H := s.H.push (.cells (cellsOf (zeroT T e))) }.put o.dst (.obj s.H.next 0))) (K ({ s with mem := s.mem ++ [MB.cells (cellsOf (zeroT T e))] }.put o.dst (.ptr s.mem.length 0))))
  | .box e x => G (boxable (r x))
      (cond (E.hp e) (let s' := s.frzAll (tagsOf (r x)); K ({ s' with H := s.H.push (.cells (frzVs (cellsOf (r x)))) }.put o.dst (.obj s.H.next 0))) (K ({ s with mem := s.mem ++ [MB.cells (cellsOf (r x))] }.put o.dst (.ptr s.mem.length 0))))
  | .makeMap t none => G (match (ti T t).k with | .map _ _ => true | _ => false) (K ({ s with H := s.H.push (.map [] 0) }.put o.dst (.map s.H.next)))
  | .mapUpdate t m k v => match (ti T t).k, r m with
    | .map kt _, .map j => G (!strict) (G (keyOkT T kt) (G (keyFits (keyT T kt) (isAggT T kt) (r k)) (G ((s.H.get j).isMapOf (keyT T kt) (isAggT T kt))
        (let s' := s.frzAll (tagsOf (r v)); K ({ s' with H := s.H.set j (.map (mput (r k) (frzV (r v)) (s.H.get j).clock (s.H.get j).es) (cond (mhas (r k) (s.H.get j).es) (s.H.get j).clock ((s.H.get j).clock + 1))) }.put o.dst (.tup []))))))
    | _, _ => False
  | .build t ps =>
    match (ti T t).k with
    | .struct fs => G (fs.all fun p => Nat.blt 0 (ti T p.2).size) (fillAV (fun i => (fs[i]?).map fun p => (p.1, (ti T p.2).size)) ((ti T t).shape.map CK.zero) (ps.toList.map fun p => (p.1, r p.2)) fun cs => K (s.put o.dst (.agg cs)))
    | .array _ e => G (Nat.blt 0 (ti T e).size) (fillAV (fun i => some (i * (ti T e).size, (ti T e).size)) ((ti T t).shape.map CK.zero) (ps.toList.map fun p => (p.1, r p.2)) fun cs => K (s.put o.dst (.agg cs)))
    | _ => False
  | .buildSlice t n ps =>
    cond strict (G (tagsOfs (ps.toList.map fun p => r p.2)).isEmpty (buildL T t n ps r fun v => K (s.put o.dst v))) (buildO T t n ps r s fun s v => K (s.put o.dst v))
  | .store t a x =>
    match r a with
    | .ptr j o' => match s.mem.getD j .dead with
      | .cells cs => G (Nat.blt 0 (ti T t).size) (G (boxable (r x)) (G (Nat.ble (o' + (cellsOf (r x)).length) cs.length) (G (Nat.beq (cellsOf (r x)).length (ti T t).size) (K ({ s with mem := s.mem.set j (.cells (setRangeX cs o' (cellsOf (r x)))) }.put o.dst (.tup []))))))
      | _ => False
    | .ep tg k i o' xs => G (!strict) <| G (Nat.blt 0 (ti T t).size) (G (boxable (r x)) (G (Nat.ble (o' + (cellsOf (r x)).length) k) (G (Nat.beq (cellsOf (r x)).length (ti T t).size) (G (!((tagsOf (r x)).contains tg)) (let s' := s.frzAll (tagsOf (r x)); K ((s'.mapS (updF tg (xs.set i (setRange (xs.getD i []) o' (frzVs (cellsOf (r x))))))).put o.dst (.tup [])))))))
    | .he j k i o' => G (!strict || (tagsOf (r x)).isEmpty) <| G ((s.H.get j).isRows k) (G (Nat.blt 0 (ti T t).size) (G (boxable (r x)) (G (Nat.ble (o' + (cellsOf (r x)).length) k) (G (Nat.beq (cellsOf (r x)).length (ti T t).size) (G (Nat.blt i (s.H.get j).xs.length)
      (let s' := s.frzAll (tagsOf (r x)); K ({ s' with H := s.H.set j (.rows k ((s.H.get j).xs.set i (setRange ((s.H.get j).xs.getD i []) o' (frzVs (cellsOf (r x)))))) }.put o.dst (.tup []))))))))
    | .obj j o' => match r x with
      | .sl (tg + 1) k xs => G (!strict) (G ((s.H.get j).isCells) (G (Nat.beq (ti T t).size 1) (G (Nat.blt o' (s.H.get j).cs.length)
          ((∀ m, xs.length ≤ m → (xs.length ≤ 140737488355328 → m ≤ 9223372036854775807) → K ({ s.mapS (killF (tg + 1)) with H := (s.H.push (.rows k (pad k m xs))).set j (.cells ((s.H.get j).cs.set o' (.hs s.H.next 0 xs.length m k))) }.put o.dst (.tup []))) ∧
           (xs = [] → K ({ s.mapS (killF (tg + 1)) with H := s.H.set j (.cells ((s.H.get j).cs.set o' .nilsl)) }.put o.dst (.tup [])))))))
      | _ => G (!strict || (tagsOf (r x)).isEmpty) <| G ((s.H.get j).isCells) (G (Nat.blt 0 (ti T t).size) (G (boxable (r x)) (G (Nat.ble (o' + (cellsOf (r x)).length) (s.H.get j).cs.length) (G (Nat.beq (cellsOf (r x)).length (ti T t).size)
      (let s' := s.frzAll (tagsOf (r x)); K ({ s' with H := s.H.set j (.cells (setRange (s.H.get j).cs o' (frzVs (cellsOf (r x))))) }.put o.dst (.tup [])))))))
    | _ => False
  | .makeSlice t l c =>
    match (ti T t).k, r l, r c with
    | .slice e, .int _ n, .int _ m => G (madeT T e) (G (leI 0 n) (G (eqI n m) (G (roomN n (ti T e).bytes) (K (s.put o.dst (.sl s.fresh (ti T e).size (List.replicate n.toNat ((ti T e).shape.map CK.zero))))))))
    | _, _, _ => False
  | .slice _ x _ _ _ => match r x with
    | .sl (_ + 1) _ _ => G (!strict) (let s' := s.frzAll (tagsOf (r x)); light T o.op (fun y => mapT lendF (r y)) s.mem s.H fun v => K (s'.put o.dst v))
    | _ => light T o.op r s.mem s.H fun v => K (s.put o.dst v)
  | .convert src dst x => match (ti T src).k, (ti T dst).k, r x with
    | .str, .slice e, .str b => match (ti T e).k with | .int .u8 => G (Nat.ble b.size 9223372036854775807) (K (s.put o.dst (.sl 0 1 (bytesAV b)))) | _ => False
    | .slice e, .str, .sl _ _ xs => match (ti T e).k with | .int .u8 => ∃ b, xs = bytesAV b ∧ K (s.put o.dst (.str b)) | _ => False
    | .slice e, .str, .nilsl => match (ti T e).k with | .int .u8 => K (s.put o.dst (.str ⟨#[]⟩)) | _ => False
    | .slice _, .slice e, .sl (t + 1) k xs => match (ti T e).k with | .int .u8 => G (!strict) (G (Nat.beq src dst) (G (!(xs.isEmpty)) (K ((s.mapS (killF (t + 1))).put o.dst (.sl 0 k xs))))) | _ => False
    | _, _, _ => light T o.op r s.mem s.H fun v => K (s.put o.dst v)
  | .binOp op t x y _ => match (ti T t).k with
    | .slice _ => match op, r x, r y with
      | .eql, .sl _ _ xs, .nilsl => ∀ b : Bool, (b = true → xs = []) → K (s.put o.dst (.bool b))
      | .neq, .sl _ _ xs, .nilsl => ∀ b : Bool, (b = true → xs = []) → K (s.put o.dst (.bool (!b)))
      | .eql, .nilsl, .nilsl => K (s.put o.dst (.bool true))
      | .neq, .nilsl, .nilsl => K (s.put o.dst (.bool false))
      | .eql, .hs _ _ _ _ _, .nilsl => K (s.put o.dst (.bool false))
      | .neq, .hs _ _ _ _ _, .nilsl => K (s.put o.dst (.bool true))
      | _, _, _ => False
    | _ => light T o.op r s.mem s.H fun v => K (s.put o.dst v)
  | .range t x => match (ti T t).k, r x with
    | .str, .str b => K ({ s with mem := s.mem ++ [MB.siter b 0] }.put o.dst (.ptr s.mem.length 0))
    | .map kt vt, .map j => G (s.H.get j).isMap (K ({ s with mem := s.mem ++ [MB.miter j kt vt (s.H.get j).clock (s.H.get j).clock []] }.put o.dst (.ptr s.mem.length 0)))
    | _, _ => False
  | .next it false => match r it with
    | .ptr j 0 => match s.mem.getD j .dead with
      | .miter m kt vt since _ seen => G ((s.H.get m).isMap && (Nat.ble since (s.H.get m).clock && (s.H.get m).es.all fun e => Nat.blt e.1 since))
          ((mleft seen (s.H.get m).es = [] → K (s.put o.dst (.tup [.bool false]))) ∧
           ∀ e, e ∈ mleft seen (s.H.get m).es → K ({ s with mem := s.mem.set j (.miter m kt vt since (s.H.get m).clock (e.1 :: seen)) }.put o.dst (.tup [.bool true, .any, .any])))
      | _ => False
    | _ => False
  | .entry it => match r it with
    | .ptr j 0 => match s.mem.getD j .dead with
      | .miter m kt vt _ stepped (n :: _) => G ((s.H.get m).isMap && Nat.beq (s.H.get m).clock stepped) (G (mborn n (s.H.get m).es).isSome
          (normE T kt (mkeyAt n (s.H.get m).es) fun k => normE T vt (mvalAt n (s.H.get m).es) fun v => K (s.put o.dst (.tup [k, v]))))
      | _ => False
    | _ => False
  | .next it true => match r it with
    | .ptr j 0 => match s.mem.getD j .dead with
      | .siter b pos => cond (Nat.blt pos b.size)
          (K ({ s with mem := s.mem.set j (.siter b (pos + (Utf8.decode b pos).2)) }.put o.dst (.tup [.bool true, .int .i64 (pos : Int), .int .i32 ((Utf8.decode b pos).1 : Int)])))
          (K (s.put o.dst (.tup [.bool false])))
      | _ => False
    | _ => False
  | .makeFunc fn first cap => match fn, first.toList with
    | .func f, [] => capAll s (cap.toList.map r) fun vs s' => K (s'.put o.dst (.fn f vs))
    | _, _ => False
  | .call c =>
    match c.callee with
    | .value f => match r f with
      | .fn g cap => cond (E.apart g)
          (G (Nat.beq c.args.size 2 && cap.isEmpty) (apartK s.H (r (c.args.getD 0 (.const (.bool false)))) (r (c.args.getD 1 (.const (.bool false)))) fun b => K (s.put o.dst (.bool b))))
          (callAV E R strict s g (cond (E.io g) (c.args.toList.map r) (argNs T c.argTypes.toList (c.args.toList.map r)) ++ cap) o.type fun v s' => K (s'.put o.dst v))
      | _ => False
    | .builtin .append =>
      match (ti T (c.argTypes.getD 0 0)).k with
      | .slice e => G (madeT T e)
        (let app (s : St) (xs ys : List (List AV)) : Prop :=
          G (room xs ys (ti T e).bytes) (K (s.put o.dst (.sl s.fresh (ti T e).size (xs ++ ys))))
         let src (K : List (List AV) → Prop) : Prop := cond (twoSame c) (rowOf (ti T e).size s.H (r (c.args.getD 1 (.const (.bool false)))) K) (zerosOf T e c (r (c.args.getD 1 (.const (.bool false)))) K)
        match r (c.args.getD 0 (.const (.bool false))) with
        | .nilsl => G (twoSame c) (rowOf (ti T e).size s.H (r (c.args.getD 1 (.const (.bool false)))) fun ys => app s [] ys)
        | .sl (t + 1) k xs => G (twoSame c) (G (Nat.beq k (ti T e).size) (rowOf (ti T e).size s.H (r (c.args.getD 1 (.const (.bool false)))) fun ys => app (s.mapS (killF (t + 1))) xs ys))
        | .hs j o' n m k => G (Nat.beq k (ti T e).size) (G ((s.H.get j).isRows k) (src fun ys =>
            cond (Nat.ble (n + ys.length) m)
              (G (Nat.ble (o' + n + ys.length) (s.H.get j).xs.length) (K ({ s with H := s.H.set j (.rows k (splice (s.H.get j).xs (o' + n) ys)) }.put o.dst (.hs j o' (n + ys.length) m k))))
              (G (room (((s.H.get j).xs.drop o').take n) ys (ti T e).bytes) (G (Nat.ble (o' + n) (s.H.get j).xs.length) (∀ m', n + ys.length ≤ m' → (n + ys.length ≤ 140737488355328 → m' ≤ 9223372036854775807) →
                K ({ s with H := s.H.push (.rows k (pad k m' (((s.H.get j).xs.drop o').take n ++ ys))) }.put o.dst (.hs s.H.next 0 (n + ys.length) m' k)))))))
        | _ => False)
      | _ => False
    | .builtin .copy =>
      match (ti T (c.argTypes.getD 0 0)).k, r (c.args.getD 0 (.const (.bool false))) with
      | .slice e, .hs j o' n _ k => G (Nat.beq k (ti T e).size && Nat.blt 0 k && Nat.beq c.args.size 2 && Nat.beq c.argTypes.size 2) (G ((s.H.get j).isRows k) (G (Nat.ble (o' + n) (s.H.get j).xs.length)
          (rowOf k s.H (r (c.args.getD 1 (.const (.bool false)))) fun ys =>
            K ({ s with H := s.H.set j (.rows k (splice (s.H.get j).xs o' (ys.take n))) }.put o.dst (.int .i64 ((Nat.min ys.length n : Nat) : Int))))))
      | .slice e, .nilsl => G (Nat.blt 0 (ti T e).size && Nat.beq c.args.size 2 && Nat.beq c.argTypes.size 2) (rowOf (ti T e).size s.H (r (c.args.getD 1 (.const (.bool false)))) fun _ => K (s.put o.dst (.int .i64 0)))
      | _, _ => False
    | .invoke rv name => match r rv with
      | .iface t v => G v.noTag (invAV E R strict s (argNs T c.argTypes.toList (c.args.toList.map r)) o.type t (frzV v) (fun v s' => K (s'.put o.dst v)) (E.disp name))
      | _ => False
    | .builtin .delete =>
      match (ti T (c.argTypes.getD 0 0)).k, r (c.args.getD 0 (.const (.bool false))) with
      | .map kt _, .map j => G (!strict && Nat.beq c.args.size 2 && Nat.beq c.argTypes.size 2) (G (keyOkT T kt) (G (keyFits (keyT T kt) (isAggT T kt) (r (c.args.getD 1 (.const (.bool false))))) (G ((s.H.get j).isMapOf (keyT T kt) (isAggT T kt))
          (K ({ s with H := s.H.set j (.map (mdel (r (c.args.getD 1 (.const (.bool false)))) (s.H.get j).es) (s.H.get j).clock) }.put o.dst (.tup []))))))
      | _, _ => False
    | .builtin .clear =>
      match (ti T (c.argTypes.getD 0 0)).k, r (c.args.getD 0 (.const (.bool false))) with
      | .slice e, .hs j o' n _ k => G (madeT T e && Nat.beq k (ti T e).size && Nat.beq c.args.size 1 && Nat.beq c.argTypes.size 1) (G ((s.H.get j).isRows k) (G (Nat.ble (o' + n) (s.H.get j).xs.length)
          (K ({ s with H := s.H.set j (.rows k (splice (s.H.get j).xs o' (List.replicate n ((ti T e).shape.map CK.zero)))) }.put o.dst (.tup [])))))
      | .slice _, .nilsl => G (Nat.beq c.args.size 1 && Nat.beq c.argTypes.size 1) (K (s.put o.dst (.tup [])))
      | _, _ => False
    | _ => light T o.op r s.mem s.H fun v => K (s.put o.dst v)
  | _ => light T o.op r s.mem s.H fun v => K (s.put o.dst v)

/-- Is an operation of a kind that turns nothing, whatever its operands are? -/
def isLight (T : List TI) (o : Oper) : Bool :=
  match o.op with
  | .move _ | .assign _ | .pick .. | .load .. | .unOp .. | .fieldAddr .. | .field .. | .indexAddr .. | .index .. | .extract .. | .nilCheck _ | .lookup .. | .makeInterface .. => true
  | .binOp _ t _ _ _ => match (ti T t).k with | .slice _ => false | _ => true
  | .convert src dst _ => match (ti T src).k, (ti T dst).k with | .int _, .int _ => true | _, _ => false
  | .makeFunc _ f c => match f.toList, c.toList with | [], [] => true | _, _ => false
  | .slice _ _ _ _ _ => true
  | .call c => match c.callee with | .builtin .len => true | .builtin .cap => true | .builtin .max => true | .builtin .min => true | _ => false
  | _ => false
/-- (Not of a function that is known to hand back what is the caller's own.) -/
def isCall (E : Env) (o : Oper) : Bool :=
  match o.op with
  | .call c => match c.callee with | .value (.func f) => !(E.own f) && (E.pur f || E.apart f) | .value _ => true | _ => false
  | _ => false
/-- A variable of the frame's own is made. -/
def isAllocL (E : Env) (o : Oper) : Bool := o.guard.isNone && (match o.op with | .alloc e => !(E.hp e) | _ => false)
def isCallA (E : Env) (o : Oper) : Bool :=
  match o.op with
  | .call c => match c.callee with | .value (.func f) => !(E.own f) && (!(E.io f) && !(E.apart f)) | _ => false
  | _ => false
def isLightN (T : List TI) (o : Oper) : Bool := isLight T o && (match o.op with | .slice .. => false | _ => true)
/-- Does operation i, in a number of steps, hang on x? -/
def anc (ops : List Oper) : Nat → Nat → Nat → Bool
  | 0, _, _ => false
  | n + 1, i, x => match ops[i]? with
    | some o => o.after.toList.any fun e => Region.binds .any e && (Nat.beq e.on x || anc ops n e.on x)
    | none => false
def looks (ops : List Oper) (o : Oper) : List Nat :=
  (o.op.operands.toList.filterMap fun | .tmp t => some t | _ => none) ++
  (match o.guard with | some (g, _) => ((ops[g]?).bind (·.dst)).toList | none => [])
def apartB (ops : List Oper) (x y : Oper) : Bool :=
  (match x.dst with | some d => !(looks ops y).contains d && !(y.dst == some d) | none => true) &&
  (match y.dst with | some d => !(looks ops x).contains d | none => true)
/-- (Not of bytes: they may be a constant string's, of which the frame's own are wanted.) -/
def isBuild (T : List TI) (o : Oper) : Bool := match o.op with | .buildSlice t _ _ => (match (ti T t).k with | .slice e => (match (ti T e).k with | .int .u8 => false | _ => true) | _ => true) | _ => false
def isForm (T : List TI) (o : Oper) : Bool := match o.op with | .build .. => true | .convert src dst _ => (match (ti T src).k, (ti T dst).k with | .slice _, .str => true | .str, .slice _ => true | _, _ => false) | _ => false
/-- A string of bytes, bytes of a string. -/
def convK (T : List TI) (src dst : Nat) (v : AV) (K : AV → Prop) : Prop :=
  match (ti T src).k, (ti T dst).k, v with
  | .str, .slice e, .str b => match (ti T e).k with | .int .u8 => G (Nat.ble b.size 9223372036854775807) (K (.sl 0 1 (bytesAV b))) | _ => False
  | .slice e, .str, .sl _ _ xs => match (ti T e).k with | .int .u8 => ∃ b, xs = bytesAV b ∧ K (.str b) | _ => False
  | .slice e, .str, .nilsl => match (ti T e).k with | .int .u8 => K (.str ⟨#[]⟩) | _ => False
  | _, _, _ => False
def isQuiet (T : List TI) (o : Oper) : Bool := isLight T o || (isBuild T o || isForm T o)
def isStore (o : Oper) : Bool := match o.op with | .store .. => true | _ => false
/-- It looks at no memory. -/
def dryOp (T : List TI) (op : Op) : Bool := match op with | .load .. => false | .lookup .. => false | .call c => (match c.callee with | .builtin .len => (match (ti T (c.argTypes.toList.headD 0)).k with | .map _ _ => false | _ => true) | _ => true) | _ => true
def isDry (T : List TI) (o : Oper) : Bool := isLight T o && dryOp T o.op
/-- May two operations whose order is open change places? -/
def fits (E : Env) (ops : List Oper) (x y : Oper) : Bool :=
  apartB ops x y && (((isQuiet E.T x || isQuiet E.T y) && (isQuiet E.T x || isCall E x) && (isQuiet E.T y || isCall E y)) || ((isDry E.T x && isStore y) || (isStore x && isDry E.T y)))
/-- What stands ahead of the making of a variable may stand behind it. -/
def fitsA (E : Env) (ops : List Oper) (x y : Oper) : Bool := apartB ops x y && (isAllocL E y && (isLightN E.T x || (isForm E.T x || (isStore x || isCallA E x))))
def pairOk (E : Env) (ops : List Oper) (i j : Nat) : Bool :=
  anc ops ops.length j i || (match ops[i]?, ops[j]? with | some x, some y => fits E ops x y | _, _ => false)
def drawOk (E : Env) (ops : List Oper) : Bool :=
  (List.range ops.length).all fun j => ((List.range j).all fun i => pairOk E ops i j) && (match ops[j]? with | some o => o.after.toList.all (fun e => !Region.binds .any e || Nat.blt e.on j) | none => true)
/-- Is some operation's order with this one open? -/
def openAt (ops : List Oper) (i : Nat) : Bool :=
  (List.range ops.length).any fun j => (Nat.blt i j && !(anc ops ops.length j i)) || (Nat.blt j i && !(anc ops ops.length i j))

/-- One operation, if its guard lets it. -/
def astep (E : Env) (R : Oracle) (strict : Bool) (ops : List Oper) (o : Oper) (s : St) (K : St → Prop) : Prop :=
  match o.guard with
  | none => aop E R strict o s K
  | some (j, want) =>
    match (ops[j]?).bind (·.dst) with
    | none => False
    | some d =>
      match s.tm.getD d .any with
      | .bool b =>
        cond b
          (cond want (aop E R strict o { s with tm := s.tm.set d (.bool true) } K) (K ({ s with tm := s.tm.set d (.bool true) }.put o.dst (.tup []))))
          (cond want (K ({ s with tm := s.tm.set d (.bool false) }.put o.dst (.tup []))) (aop E R strict o { s with tm := s.tm.set d (.bool false) } K))
      | .tup [] => K (s.put o.dst (.tup []))
      | _ => False

/-- The operations of a region, in the text's order; strict: whether a call may not turn the frame's own tags. -/
def aops (E : Env) (R : Oracle) (ops : List Oper) (strict : Nat → Bool) : List Oper → Nat → St → (St → Prop) → Prop
  | [], _, s, K => K s
  | o :: rest, i, s, K => astep E R (strict i) ops o s fun s => aops E R ops strict rest (i + 1) s K


/-! Orders that are open, told one by one where two operations may not change places. -/
def drawAft (ops : List Oper) : Bool := (List.range ops.length).all fun j => (match ops[j]? with | some o => o.after.toList.all (fun e => !Region.binds .any e || Nat.blt e.on j) | none => true)
def fitsAt (E : Env) (ops : List Oper) (i j : Nat) : Bool := match ops[i]?, ops[j]? with | some x, some y => fits E ops x y | _, _ => false
def fitsAAt (E : Env) (ops : List Oper) (i j : Nat) : Bool := match ops[i]?, ops[j]? with | some x, some y => fitsA E ops x y | _, _ => false
/-- No operation that is left stands ahead of it. -/
def minAt (ops : List Oper) (rem : List Nat) (i : Nat) : Bool := rem.all fun j => !(anc ops ops.length i j)
/-- It may change places with each one that is left and does not hang on it. -/
def commAt (E : Env) (ops : List Oper) (rem : List Nat) (i : Nat) : Bool := rem.all fun j => Nat.beq j i || anc ops ops.length j i || (fitsAt E ops i j || fitsAAt E ops i j)
def stD (E : Env) (ops : List Oper) (i : Nat) : Bool :=
  (List.range ops.length).any fun j => !(Nat.beq j i) && (!(anc ops ops.length i j) && (!(anc ops ops.length j i) && (fitsAt E ops i j || fitsAt E ops j i)))
def rmD (i : Nat) (rem : List Nat) : List Nat := rem.filter fun j => !(Nat.beq j i)
def pickD (E : Env) (ops : List Oper) (rem : List Nat) : Option Nat := rem.find? fun i => minAt ops rem i && commAt E ops rem i
def conjL : List Nat → (Nat → Prop) → Prop
  | [], _ => False
  | [i], f => f i
  | i :: j :: r, f => f i ∧ conjL (j :: r) f
def stepD (E : Env) (R : Oracle) (ops : List Oper) (i : Nat) (s : St) (K : St → Prop) : Prop := match ops[i]? with | some o => astep E R (stD E ops i) ops o s K | none => False
def aopsD (E : Env) (R : Oracle) (ops : List Oper) : Nat → List Nat → St → (St → Prop) → Prop
  | 0, _, _, _ => False
  | _ + 1, [], s, K => K s
  | n + 1, r :: rs, s, K => match pickD E ops (r :: rs) with
    | some i => stepD E R ops i s fun s => aopsD E R ops n (rmD i (r :: rs)) s K
    | none => conjL ((r :: rs).filter (minAt ops (r :: rs))) fun i => stepD E R ops i s fun s => aopsD E R ops n (rmD i (r :: rs)) s K

/-- The live slots at the heads of a function's loops, in the text's order: slot, and how a nil slice is told there: 0: as it is; 1: stable, a nil one as a slice of no element; k + 2: as one of the frame's own, of elements of k cells. -/
abbrev Live := List (List (Nat × Nat)) × List (Nat × List (Nat × Nat))

def nilF (how fresh : Nat) : AV → AV
  | .nilsl => match how with
    | 0 => .nilsl
    | 1 => .sl 0 0 []
    | k + 2 => cond (Nat.blt 0 k) (.sl fresh k []) .any
  | v => v
def keep (live : List (Nat × Nat)) : Nat → Nat → List AV → List AV
  | _, _, [] => []
  | fresh, i, x :: r => match live.lookup i with
    | some how => nilF how fresh x :: keep live (fresh + 1) (i + 1) r
    | none => .any :: keep live fresh (i + 1) r
/-- A frame's tags, told anew in the order in which they stand. -/
def reF (m : Nat) (ts : List Nat) : AV → AV
  | .sl t k xs => cond (Nat.beq t 0) (.sl 0 k xs) (.sl (ts.idxOf t + 1) k xs)
  | .ep t k i o xs => .ep (ts.idxOf t + 1) k i o xs
  | .ptr j o => cond (Nat.blt j m) (.ptr j o) .any
  | v => v
def uniq : List Nat → List Nat → List Nat
  | acc, [] => acc
  | acc, t :: r => cond (acc.elem t) (uniq acc r) (uniq (acc ++ [t]) r)
def stableTags (live : List (Nat × Nat)) : Nat → List AV → List Nat
  | _, [] => []
  | i, x :: r => match live.lookup i with
    | some 1 => tagsOf x ++ stableTags live (i + 1) r
    | _ => stableTags live (i + 1) r
/-- A nil slice in a cell of local memory, told as an empty one of the frame's own. -/
def memNil1 (j i k : Nat) (s : St) : St :=
  match s.mem.getD j .dead with
  | .cells cs => match cs.getD i .any with
    | .nilsl => cond (Nat.blt 0 k) { s with mem := s.mem.set j (.cells (cs.set i (.sl s.fresh k []))) } s
    | _ => s
  | _ => s
/-- (Rows of a live list from 1000000 on tell such cells: 1000 times the block, and the cell.) -/
def memNil : List (Nat × Nat) → St → St
  | [], s => s
  | (key, how) :: r, s => memNil r (cond (Nat.ble 1000000 key) (memNil1 ((key - 1000000) / 1000) ((key - 1000000) % 1000) (how - 2) s) s)
def clean (live : List (Nat × Nat)) (m : Nat) (s' : St) : St :=
  let s := memNil live s'
  let s0 := s.frzAll (stableTags live 0 s.tm)
  let s1 : St := { s0 with tm := keep live s0.fresh 0 s0.tm, mem := s0.mem.take m }
  s1.mapS (reF m (uniq [] (tagsOfs s1.tm ++ s1.mem.flatMap MB.tags)))

inductive Ex where
  | normal | exit (id : Nat) | ret
  deriving DecidableEq
/-- Where paths meet: what is dead is struck. -/
def joinAt (L : Live) (key m : Nat) (s : St) : St := match L.2.lookup key with | some live => clean live m s | none => s
/-- (A structure, not a definition: the kernel is not to look through it.) -/
structure AJoin (K : Ex → St → Prop) (s : St) : Prop where
  out : K .normal s
def joinK (L : Live) (key m : Nat) (K : Ex → St → Prop) (s : St) : Prop := match L.2.lookup key with | some live => AJoin K (clean live m s) | none => K .normal s
theorem joinK_eq {L : Live} {key m : Nat} {K : Ex → St → Prop} {s : St} : joinK L key m K s = K .normal (joinAt L key m s) := by
  unfold joinK joinAt
  split
  · exact propext ⟨fun h => h.out, fun h => ⟨h⟩⟩
  · rfl
def loopsIn : Code → Nat
  | .seq a b => loopsIn a + loopsIn b
  | .cond _ a b => loopsIn a + loopsIn b
  | .block _ c => loopsIn c
  | .loop c => loopsIn c + 1
  | .scope c => loopsIn c
  | _ => 0

/-- The least predicate that is closed under one more round. -/
def ALoop (body : (Ex → St → Prop) → St → Prop) (cl : St → St) (K : Ex → St → Prop) (s : St) : Prop :=
  ∀ I : St → Prop, (∀ s, body (fun e s' => match e with | .normal => I (cl s') | e => K e s') s → I s) → I s

def awp (E : Env) (R : Oracle) (L : Live) : Code → Nat → St → (Ex → St → Prop) → Prop
  | .skip, _, s, K => K .normal s
  | .region id ops draw, _, s, K => cond draw (cond (drawOk E ops.toList) (aops E R ops.toList (openAt ops.toList) ops.toList 0 s fun s => joinK L (2 * id + 1) s.mem.length K s) (G (drawAft ops.toList) (aopsD E R ops.toList (ops.toList.length + 1) (List.range ops.toList.length) s fun s => joinK L (2 * id + 1) s.mem.length K s))) (aops E R ops.toList (fun _ => false) ops.toList 0 s fun s => joinK L (2 * id + 1) s.mem.length K s)
  | .seq a b, i, s, K => awp E R L a i s fun e s' => match e with
    | .normal => awp E R L b (i + loopsIn a) s' K
    | e => K e s'
  | .cond c a b, i, s, K => match ρ s.tm c with
    | .bool t => cond t (awp E R L a i s K) (awp E R L b (i + loopsIn a) s K)
    | _ => False
  | .block id c, i, s, K => awp E R L c i s fun e s' => match e with
    | .exit id' => cond (Nat.beq id' id) (joinK L (2 * id) s.mem.length K s') (K (.exit id') s')
    | .normal => joinK L (2 * id) s.mem.length K s'
    | .ret => K .ret s'
  | .loop c, i, s, K => ALoop (fun K s => awp E R L c (i + 1) s K) (clean (L.1.getD i []) s.mem.length) K (clean (L.1.getD i []) s.mem.length s)
  | .exit id, _, s, K => K (.exit id) s
  | .ret, _, s, K => K .ret s
  | _, _, _, _ => False

/-! Short words for the printed texts. -/
def ro (xs : List (List AV)) (i : Nat) : List AV := xs.getD i []
def ce (r : List AV) (o : Nat) : AV := r.getD o .any
def stt (n : Nat) (l : List (Nat × AV)) : List AV := (List.range n).map fun i => (l.lookup i).getD .any
/-- What follows, told as a list: for the printed texts. -/
inductive Ctx where
  | seq (b : Code) (i : Nat)
  | block (id m : Nat)
  | loop (c : Code) (i : Nat) (live : List (Nat × Nat)) (m : Nat)
def contK (E : Env) (R : Oracle) (L : Live) : List Ctx → (Ex → St → Prop) → Ex → St → Prop
  | [], K => K
  | .seq b i :: r, K => fun e s' => match e with
    | .normal => awp E R L b i s' (contK E R L r K)
    | e => contK E R L r K e s'
  | .block id m :: r, K => fun e s' => match e with
    | .exit id' => cond (Nat.beq id' id) (joinK L (2 * id) m (contK E R L r K) s') (contK E R L r K (.exit id') s')
    | .normal => joinK L (2 * id) m (contK E R L r K) s'
    | .ret => contK E R L r K .ret s'
  | .loop c i live m :: r, K => fun e s' => match e with
    | .normal => ALoop (fun K s => awp E R L c i s K) (clean live m) (contK E R L r K) (clean live m s')
    | e => contK E R L r K e s'
def codeAt : Code → List Nat → Code
  | c, [] => c
  | .seq a _, 0 :: p => codeAt a p
  | .seq _ b, 1 :: p => codeAt b p
  | .cond _ a _, 0 :: p => codeAt a p
  | .cond _ _ b, 1 :: p => codeAt b p
  | .block _ c, _ :: p => codeAt c p
  | .loop c, _ :: p => codeAt c p
  | c, _ => c
def bodyOf (E : Env) (f : Nat) : Code := match E.fs f with | some fn => fn.body.getD .skip | none => .skip

def resAV (T : List TI) (s : St) : List ResultVar → (List AV → Prop) → Prop
  | [], K => K []
  | .tmp t :: r, K => resAV T s r fun l => K (s.tm.getD t .any :: l)
  | .cell a t :: r, K => loadAt T s.mem s.H t (s.tm.getD a .any) fun v => resAV T s r fun l => K (v :: l)

def nodupB : List Nat → Bool
  | [] => true
  | x :: r => !(r.elem x) && nodupB r
/-- The tags of what is handed back, told anew: 1, 2, .. -/
def renum (ts : List Nat) : AV → AV
  | .sl t k xs => cond (Nat.beq t 0) (.sl 0 k xs) (.sl (ts.idxOf t + 1) k xs)
  | .ep _ _ _ _ _ => .any
  | .ptr _ _ => .any
  | v => v

def retOwn : List AV → AV
  | [v] => mapT (renum (tagsOf v)) v
  | l => .tup (mapTs (renum (tagsOfs l)) l)
def retStb : List AV → AV
  | [v] => frzV v
  | l => .tup (frzVs l)
def finK (E : Env) (f : Nat) (Q : AV → Heap → Prop) : Ex → St → Prop := fun e s => match e with
  | .exit _ => False
  | _ => resAV E.T s (match E.fs f with | some fn => fn.results.toList | none => []) fun l =>
    cond (E.own f) (G (nodupB (tagsOfs l)) (Q (retOwn l) s.H)) (Q (retStb l) s.H)

def aBody (E : Env) (R : Oracle) (f : Nat) (args : List AV) (H : Heap) (Q : AV → Heap → Prop) : Prop :=
  match E.fs f with
  | none => ∃ Q' : AV → Heap → Prop, (∀ v H, Q' v H → Q v H) ∧ E.leaf f args H Q'
  | some fn => match fn.body with
    | none => False
    | some c => awp E R (E.L f) c 0 ⟨args ++ List.replicate (fn.ntmps - args.length) .any, [], H⟩ (finK E f Q)

def Call (E : Env) : Oracle := fun f args H Q =>
  ∀ R : Oracle, (∀ f args H Q, aBody E R f args H Q → R f args H Q) → R f args H Q

end Go.Proofs.Ytbkkhhmjmbbfpaa.Ab
