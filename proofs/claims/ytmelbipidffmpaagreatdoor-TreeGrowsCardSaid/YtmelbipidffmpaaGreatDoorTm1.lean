/- HwDef HwPure HwOp HwMo (joined by merge.py) -/
import Derived.WalkKit
import Derived.Orders
import Derived.Maps.RangeRun
import Derived.Laws.Cover3
import Derived.Laws.Small
import Derived.Laws.StructEq
import Derived.ChangeKeysEq
import Derived.Lib.Overlaps
import Derived.Laws.IdiomCopy
import Derived.Laws.CopyRow
import Derived.ArgAppend
/- An evaluator of weakest preconditions over heaps; struct variables whose address stays inside a call are kept beside the heap. Definitions alone. -/
set_option linter.unusedVariables false
set_option linter.unusedSimpArgs false
namespace Go.Proofs.YtmelbipidffmpaaGreatDoor.Hw
open Go

abbrev Hp := Nat → Option Obj
/-- What a slot holds: a value, or the address of a variable that is kept beside the heap. -/
inductive AV where
  | v (x : Value)
  | loc (k off : Nat)
abbrev Env := Nat → Option AV
abbrev VSt := Nat → Option (Bool × List Value)

def upd {α : Type} (t : Nat) (a : α) (e : Nat → Option α) : Nat → Option α := fun x => match Nat.beq x t with | true => some a | false => e x
def del {α : Type} (t : Nat) (e : Nat → Option α) : Nat → Option α := fun x => match Nat.beq x t with | true => none | false => e x
/-- No slot points to variable k any more. -/
def forget (k : Nat) (e : Env) : Env := fun x => match e x with
  | some (.loc k' o) => (match Nat.beq k' k with | true => none | false => some (.loc k' o))
  | a => a

/-- What is known of a type. -/
inductive Kn where
  | scalar
  | slice (el esz eby : Nat)
  | array (len esz : Nat) (eagg : Bool)
  | struct (fs : List (Nat × Nat × Bool))
  | string
  | map (k v : Nat)
structure TI where
  agg : Bool
  zs : List Value
  kn : Kn
  eqs : Bool := false

/-- The shape of a value in a loop's state. -/
inductive Sh where
  | int (k : IntKind) | bool | str | slice | ptr | map
def Sh.T : Sh → Type
  | .int _ => Int
  | .bool => Bool
  | .str => ByteArray
  | .slice => Option Addr × Nat × Nat
  | .ptr => Option Addr
  | .map => Option Nat
def ShT : List Sh → Type
  | [] => Unit
  | s :: r => s.T × ShT r
def Sh.enc : (s : Sh) → s.T → Value
  | .int k, x => .int k x
  | .bool, x => .bool x
  | .str, x => .string x
  | .slice, x => .slice x.1 x.2.1 x.2.2
  | .ptr, x => .pointer x
  | .map, x => .map x
def encL : (l : List Sh) → ShT l → List Value
  | [], _ => []
  | s :: r, x => s.enc x.1 :: encL r x.2
/-- A loop: the slots that stay, the variables that stay, the slots of the state, the variables of the state. -/
structure LD where
  keep : List Nat
  kb : List Nat
  vals : List (Nat × Sh)
  boxes : List (Nat × List Sh)

/-- The orders of what writes; what only looks comes as soon as it may. -/
inductive OT where
  | done | look (x : Nat) (t : OT) | act (x : Nat) (t u : OT)
def OT.isDone : OT → Bool
  | .done => true
  | _ => false
structure Cx where
  P : Program
  T : List (Nat × TI)
  R : List (Nat × List Nat)
  n : Nat
  virt : List (Nat × Bool)
  loops : List (Nat × LD)
  perms : List (Nat × OT)
  nexts : List (Nat × (Value × Value)) := []
  overs : List Nat := []
  D : Bool := false

def look {α : Type} (t : Nat) : List (Nat × α) → Option α
  | [] => none
  | p :: r => match Nat.beq p.1 t with | true => some p.2 | false => look t r
def elemN (t : Nat) : List Nat → Bool
  | [] => false
  | p :: r => match Nat.beq p t with | true => true | false => elemN t r

def ev (e : Env) : Operand → Option AV
  | .tmp t => e t
  | .const x => some (.v x)
  | .func f => some (.v (.func (.func f) #[] #[]))
  | .global g => some (.v (.pointer (some ⟨g, 0, none⟩)))
def onAV (x : Option AV) (K : AV → Prop) : Prop := match x with | some a => K a | none => False
def onV (x : Option AV) (K : Value → Prop) : Prop := match x with | some (.v a) => K a | _ => False
def withVs (e : Env) : List Operand → (List Value → Prop) → Prop
  | [], K => K []
  | x :: r, K => onV (ev e x) fun v => withVs e r fun vs => K (v :: vs)
def onPtr (p : Option Addr) (K : Nat → Nat → Prop) : Prop := match p with | some ⟨b, o, none⟩ => K b o | _ => False
def cnd (b : Bool) (A B : Prop) : Prop := match b with | true => A | false => B
def cl (H : Hp) (b o : Nat) : Option Value := match H b with | some (.cells c _ _) => c[o]? | _ => none
def onTI (T : List (Nat × TI)) (t : Nat) (K : TI → Prop) : Prop := match look t T with | some i => K i | none => False
def cellsL : Value → List Value
  | .agg cs => cs.toList
  | v => [v]
def mkV (agg : Bool) (cs : List Value) (K : Value → Prop) : Prop := match agg, cs with
  | true, cs => K (.agg cs.toArray)
  | false, [v] => K v
  | false, _ => False
def setR (cs : List Value) (o : Nat) (vs : List Value) : List Value := cs.take o ++ vs ++ cs.drop (o + vs.length)
def one1 : Value → Bool
  | .agg _ | .tuple _ => false
  | _ => true
def allOne : List Value → Bool
  | [] => true
  | v :: r => match one1 v with | true => allOne r | false => false

/-- A value of the kind of a zero value, by its parts. -/
def leafE (z : Value) (K : Value → Prop) : Prop := match z with
  | .int k _ => ∃ x : Int, K (.int k x)
  | .bool _ => ∃ x : Bool, K (.bool x)
  | .string _ => ∃ x : ByteArray, K (.string x)
  | .slice _ _ _ => ∃ (A : Option Addr) (n c : Nat), K (.slice A n c)
  | .pointer _ => ∃ p : Option Addr, K (.pointer p)
  | .map _ => ∃ r : Option Nat, K (.map r)
  | .nilFunc => ∃ (f : FuncId) (a b : Array Value), K (.func (.func f) a b)
  | _ => ∃ x : Value, K x
def leafEs : List Value → (List Value → Prop) → Prop
  | [], K => K []
  | z :: r, K => leafE z fun v => leafEs r fun vs => K (v :: vs)
def loadL : List Value → Hp → Nat → Nat → (List Value → Prop) → Prop
  | [], _, _, _, K => K []
  | z :: r, H, b, o, K => leafE z fun v => cl H b o = some v ∧ loadL r H b (o + 1) fun vs => K (v :: vs)

def intF (op : BinOp) (k : IntKind) (a b : Int) (K : Value → Prop) : Prop := match op with
  | .add => K (.int k (k.wrap (a + b)))
  | .sub => K (.int k (k.wrap (a - b)))
  | .mul => K (.int k (k.wrap (a * b)))
  | .quo => b ≠ 0 ∧ K (.int k (k.wrap (a.tdiv b)))
  | .rem => b ≠ 0 ∧ K (.int k (a.tmod b))
  | .eql => K (.bool (a == b))
  | .neq => K (.bool (a != b))
  | .lss => K (.bool (decide (a < b)))
  | .leq => K (.bool (decide (a ≤ b)))
  | .gtr => K (.bool (decide (a > b)))
  | .geq => K (.bool (decide (a ≥ b)))
  | _ => False
def sameK (a b : IntKind) : Bool := decide (a = b)
def strF (op : BinOp) (a b : ByteArray) (K : Value → Prop) : Prop := match op with
  | .eql => K (.bool (a.toList == b.toList))
  | .neq => K (.bool !(a.toList == b.toList))
  | .lss => K (.bool (Op.bytesLess a.toList b.toList))
  | .leq => K (.bool (Op.bytesLess a.toList b.toList || a.toList == b.toList))
  | .gtr => K (.bool !(Op.bytesLess a.toList b.toList || a.toList == b.toList))
  | .geq => K (.bool !(Op.bytesLess a.toList b.toList))
  | _ => False
def boolF (op : BinOp) (a b : Bool) (K : Value → Prop) : Prop := match op with
  | .eql => K (.bool (a == b))
  | .neq => K (.bool !(a == b))
  | _ => False
def nilF (op : BinOp) (n : Bool) (K : Value → Prop) : Prop := match op with
  | .eql => K (.bool n)
  | .neq => K (.bool !n)
  | _ => False
def shOp : BinOp → Bool
  | .shl | .shr => true
  | _ => false
def shF (op : BinOp) (k : IntKind) (a b : Int) (K : Value → Prop) : Prop := match op with
  | .shl => 0 ≤ b ∧ K (.int k (k.wrap (a * 2 ^ (min b.toNat k.bits))))
  | .shr => 0 ≤ b ∧ K (.int k (a.fdiv (2 ^ (min b.toNat k.bits))))
  | _ => False
/-- Equality of what takes one cell; of cells after cells. -/
def eq1F : Value → Value → Value → Option Bool
  | .int _ _, .int k x, .int k' y => (match sameK k k' with | true => some (x == y) | false => none)
  | .bool _, .bool x, .bool y => some (x == y)
  | .string _, .string x, .string y => some (x.toList == y.toList)
  | _, _, _ => none
def eqLs : List Value → List Value → List Value → Option Bool
  | [], [], [] => some true
  | z :: zs, a :: ar, b :: bs => (match eq1F z a b, eqLs zs ar bs with | some p, some q => some (p && q) | _, _ => none)
  | _, _, _ => none
def binF (T : List (Nat × TI)) (op : BinOp) (t : Nat) (a b : Value) (K : Value → Prop) : Prop := match a, b with
  | .int k x, .int k' y => (match shOp op with
    | true => shF op k x y K
    | false => (match sameK k k' with | true => intF op k x y K | false => False))
  | .bool x, .bool y => onTI T t fun i => (match i.kn, i.zs with | .scalar, [.bool _] => boolF op x y K | _, _ => False)
  | .string x, .string y => strF op x y K
  | .slice A _ _, .slice none 0 0 => onTI T t fun i => (match i.kn with | .slice _ _ _ => nilF op A.isNone K | _ => False)
  | .pointer p, .pointer none => onTI T t fun i => (match i.kn, i.zs with | .scalar, [.pointer none] => nilF op p.isNone K | _, _ => False)
  | .agg xs, .agg ys => onTI T t fun i => (match i.eqs with
    | true => (match eqLs i.zs xs.toList ys.toList with
      | some b => nilF op b K
      | none => False)
    | false => False)
  | _, _ => False
def unF (op : UnOp) (a : Value) (K : Value → Prop) : Prop := match op, a with
  | .not, .bool b => K (.bool !b)
  | .neg, .int k n => K (.int k (k.wrap (0 - n)))
  | _, _ => False
/-- The bounds of a slice expression. -/
def sliceF (n c : Nat) (lo hi mx : Option Int) (K : Nat → Nat → Nat → Prop) : Prop :=
  match mx with
  | some m => (match hi with
    | some h => (match lo with
      | some l => 0 ≤ m ∧ m ≤ c ∧ 0 ≤ h ∧ h ≤ m ∧ 0 ≤ l ∧ l ≤ h ∧ K l.toNat h.toNat m.toNat
      | none => 0 ≤ m ∧ m ≤ c ∧ 0 ≤ h ∧ h ≤ m ∧ K 0 h.toNat m.toNat)
    | none => False)
  | none => (match hi with
    | some h => (match lo with
      | some l => 0 ≤ h ∧ h ≤ c ∧ 0 ≤ l ∧ l ≤ h ∧ K l.toNat h.toNat c
      | none => 0 ≤ h ∧ h ≤ c ∧ K 0 h.toNat c)
    | none => (match lo with
      | some l => 0 ≤ l ∧ l ≤ n ∧ K l.toNat n c
      | none => K 0 n c))
/-- The address of a cut slice. -/
def cutA (A : Option Addr) (k : Nat) (stay : Bool) : Option Addr := match stay with | true => A | false => A.map (·.add k)
def bAt (s : ByteArray) (i : Int) : Int := ((s.data.toList.getD i.toNat 0).toNat : Int)
def opt (e : Env) : Option Operand → Option (Option Int)
  | none => some none
  | some x => match ev e x with
    | some (.v (.int _ i)) => some (some i)
    | _ => none
def fillL (fs : List (Nat × Nat × Bool)) : List Value → List (Nat × Value) → Option (List Value)
  | cells, [] => some cells
  | cells, (i, v) :: r => match fs[i]? with
    | some f => (match Nat.beq (cellsL v).length f.2.1, Nat.ble (f.1 + (cellsL v).length) cells.length with
      | true, true => fillL fs (setR cells f.1 (cellsL v)) r
      | _, _ => none)
    | none => none
def fsA (len esz : Nat) : List (Nat × Nat × Bool) := (List.range len).map fun i => (i * esz, esz, false)
def pairVs (e : Env) : List (Nat × Operand) → (List (Nat × Value) → Prop) → Prop
  | [], K => K []
  | x :: r, K => onV (ev e x.2) fun v => pairVs e r fun vs => K ((x.1, v) :: vs)

/-- Operations that look neither at the heap nor at variables. -/
def wPure (T : List (Nat × TI)) (o : Op) (e : Env) (K : AV → Prop) : Prop := match o with
  | .move x => onAV (ev e x) K
  | .assign x => onAV (ev e x) K
  | .pick c a b => onV (ev e c) fun cv => (match cv with
    | .bool t => cnd t (onAV (ev e a) K) (onAV (ev e b) K)
    | _ => False)
  | .nilCheck x => onAV (ev e x) fun a => (match a with
    | .loc k o => K (.loc k o)
    | .v (.pointer p) => onPtr p fun b o => K (.v (.pointer (some ⟨b, o, none⟩)))
    | .v (.func (.func f) a b) => K (.v (.func (.func f) a b))
    | _ => False)
  | .binOp op t x y _ => onV (ev e x) fun a => onV (ev e y) fun b => binF T op t a b fun v => K (.v v)
  | .unOp op _ x => onV (ev e x) fun a => unF op a fun v => K (.v v)
  | .convert s d x => onV (ev e x) fun a => onTI T s fun si => onTI T d fun di => (match di.kn, di.zs, a with
    | .scalar, [.int k _], .int _ n => K (.v (.int k (k.wrap n)))
    | _, _, _ => False)
  | .fieldAddr t x f => onTI T t fun i => (match i.kn with
    | .struct fs => (match fs[f]? with
      | some fi => (match fi.2.1 with
        | 0 => False
        | _ + 1 => onAV (ev e x) fun a => (match a with
          | .loc k o => K (.loc k (o + fi.1))
          | .v (.pointer p) => onPtr p fun b o => K (.v (.pointer (some ⟨b, o + fi.1, none⟩)))
          | _ => False))
      | none => False)
    | _ => False)
  | .field t x f => onTI T t fun i => (match i.kn with
    | .struct fs => (match fs[f]? with
      | some fi => onV (ev e x) fun a => (match a with
        | .agg cs => (match Nat.ble (fi.1 + fi.2.1) cs.toList.length with
          | true => mkV fi.2.2 ((cs.toList.drop fi.1).take fi.2.1) fun v => K (.v v)
          | false => False)
        | _ => False)
      | none => False)
    | _ => False)
  | .indexAddr t x ix => onTI T t fun i => onV (ev e ix) fun iv => (match iv with
    | .int _ j => (match i.kn with
      | .slice _ esz _ => onV (ev e x) fun a => (match a with
        | .slice A n c => 0 ≤ j ∧ j < n ∧ onPtr A fun b o => K (.v (.pointer (some ⟨b, o + j.toNat * esz, none⟩)))
        | _ => False)
      | .array len esz _ => onAV (ev e x) fun a => (match a with
        | .loc k o => 0 ≤ j ∧ j < len ∧ K (.loc k (o + j.toNat * esz))
        | .v (.pointer p) => 0 ≤ j ∧ j < len ∧ onPtr p fun b o => K (.v (.pointer (some ⟨b, o + j.toNat * esz, none⟩)))
        | _ => False)
      | _ => False)
    | _ => False)
  | .index t x ix => onTI T t fun i => onV (ev e ix) fun iv => (match iv with
    | .int _ j => onV (ev e x) fun a => (match i.kn, a with
      | .array len esz ag, .agg cs => 0 ≤ j ∧ j < len ∧ (match Nat.beq cs.toList.length (len * esz) with
        | true => mkV ag ((cs.toList.drop (j.toNat * esz)).take esz) fun v => K (.v v)
        | false => False)
      | .string, .string s => 0 ≤ j ∧ j < s.size ∧ K (.v (.int .u8 (bAt s j)))
      | _, _ => False)
    | _ => False)
  | .slice t x lo hi mx => onTI T t fun i => onV (ev e x) fun a => (match opt e lo, opt e hi, opt e mx with
    | some lo, some hi, some mx => (match i.kn, a with
      | .slice _ esz _, .slice A n c => sliceF n c lo hi mx fun l h m => K (.v (.slice (cutA A (l * esz) (decide (m = l))) (h - l) (m - l)))
      | .string, .string s => (match mx with | none => sliceF s.size s.size lo hi none fun l h _ => K (.v (.string (s.extract l h))) | some _ => False)
      | _, _ => False)
    | _, _, _ => False)
  | .build t ps => onTI T t fun i => pairVs e ps.toList fun vs => (match i.kn with
    | .struct fs => (match fillL fs i.zs vs with | some cs => K (.v (.agg cs.toArray)) | none => False)
    | .array len esz _ => (match fillL (fsA len esz) i.zs vs with | some cs => K (.v (.agg cs.toArray)) | none => False)
    | _ => False)
  | .extract x ix => onV (ev e x) fun a => (match a with
    | .tuple vs => (match vs.toList[ix]? with | some v => K (.v v) | none => False)
    | _ => False)
  | .makeFunc fn first cap => withVs e first.toList fun a => withVs e cap.toList fun b => K (.v (.func fn a.toArray b.toArray))
  | _ => False

/-- A call: what a heap holds before it, and what holds of its result and of the heap behind it. -/
def Fr (D : Bool) (H : Hp) (w w' : World) : Prop := w'.os = w.os ∧ w'.tape = w.tape ∧ w'.output = w.output ∧ w.heap.size ≤ w'.heap.size ∧ (∀ b, b < w.heap.size → (H b = none → w'.heap[b]? = w.heap[b]?)) ∧ (D = true → w.drawn ≤ w'.drawn)
def Has (w : World) (H : Hp) : Prop := ∀ b o, H b = some o → w.heap[b]? = some o
def New (H : Hp) (w : World) (H' : Hp) : Prop := ∀ b, H' b ≠ none → H b ≠ none ∨ w.heap.size ≤ b
def HCallsG (D : Bool) (P : Program) (f : FuncId) (args : List Value) (H : Hp) (Q : Value → Hp → Prop) : Prop :=
  ∀ w, Has w H → Calls P f args.toArray w fun e w' => ∃ v H', e = .returned v ∧ Q v H' ∧ Has w' H' ∧ Fr D H w w' ∧ New H w H'
/-- The same, where draws need not be counted. -/
abbrev HCalls (P : Program) (f : FuncId) (args : List Value) (H : Hp) (Q : Value → Hp → Prop) : Prop := HCallsG false P f args H Q
def FnOk (P : Program) (f : FuncId) : Prop := ∃ fn, P.funcs[f]? = some fn ∧ (fn.name == "runtime.NumGoroutine") = false ∧ fn.body.isNone = false
def shape1 (T : List (Nat × TI)) (t : Nat) (K : Value → Prop) : Prop := onTI T t fun i => leafEs i.zs fun vs => mkV i.agg vs K
def shapes (T : List (Nat × TI)) : List Nat → (List Value → Prop) → Prop
  | [], K => K []
  | t :: r, K => shape1 T t fun v => shapes T r fun vs => K (v :: vs)
def shapeR (T : List (Nat × TI)) (ts : List Nat) (K : Value → Prop) : Prop := match ts with
  | [t] => shape1 T t K
  | ts => shapes T ts fun vs => K (.tuple vs.toArray)
def callF (c : Cx) (f : FuncId) (args : List Value) (H : Hp) (K : Value → Hp → Prop) : Prop := match look f c.R with
  | some ts => HCallsG c.D c.P f args H fun v H' => shapeR c.T ts fun v' => v = v' ∧ K v' H'
  | none => False

def cellsAt (H : Hp) (A : Option Addr) (l : List Value) : Prop := l = [] ∨ ∃ b o, A = some ⟨b, o, none⟩ ∧ ∀ j v, l[j]? = some v → cl H b (o + j) = some v
def storeF (H : Hp) (b o : Nat) (vs : List Value) (K : Hp → Prop) : Prop :=
  ∃ (cs : List Value) (ty : Nat), H b = some (.cells cs.toArray ty (0, 0)) ∧ o + vs.length ≤ cs.length ∧ K (upd b (.cells (setR cs o vs).toArray ty (0, 0)) H)
def newF (H : Hp) (ty : Nat) (cs : List Value) (K : Nat → Hp → Prop) : Prop :=
  ∀ b, H b = none → K b (upd b (.cells cs.toArray ty (0, 0)) H)
/-- Room for so many. -/
def RoomOk (k eby : Nat) : Prop := k * eby ≤ 140737488355328 ∨ (k + k / 4 + 192) * eby ≤ 281474976710656
def appendF (H : Hp) (el esz eby : Nat) (A : Option Addr) (n c : Nat) (B : Option Addr) (m : Nat) (K : Option Addr → Nat → Nat → Hp → Prop) : Prop :=
  RoomOk (n + m) eby ∧ n + m ≤ 140737488355328 ∧ ∃ new : List Value, new.length = m * esz ∧ cellsAt H B new ∧ (∀ v ∈ new, v.oneCell' = true) ∧
    (n + m ≤ c → (m = 0 → K A n c H) ∧ (0 < m → ∃ (b o : Nat) (cs : List Value) (ty : Nat), A = some ⟨b, o, none⟩ ∧ H b = some (.cells cs.toArray ty (0, 0)) ∧ o + (n + m) * esz ≤ cs.length ∧
      K A (n + m) c (upd b (.cells (setR cs (o + n * esz) new).toArray ty (0, 0)) H))) ∧
    (c < n + m → ∃ old : List Value, old.length = n * esz ∧ cellsAt H A old ∧ ∀ (b cap : Nat) (rest : List Value), H b = none → n + m ≤ cap → cap ≤ maxLen → rest.length = (cap - (n + m)) * esz →
      K (some ⟨b, 0, none⟩) (n + m) cap (upd b (.cells (old ++ new ++ rest).toArray el (0, 0)) H))

/-! Maps with whole numbers as keys. -/
def isKey (x : Int) (e : MapEntry) : Bool := match e.key with
  | .int _ y => decide (x = y)
  | _ => false
def intKeys (k : IntKind) (es : List MapEntry) : Prop := ∀ e ∈ es, ∃ y : Int, e.key = .int k y
def findE (x : Int) (es : List MapEntry) : Option Value := (es.find? (isKey x)).map (·.val)
def putE (k : IntKind) (x : Int) (v : Value) (es : Array MapEntry) (clock : Nat) : Obj := match es.toList.findIdx? (isKey x) with
  | some i => .map (es.modify i fun e => { e with key := .int k x, val := v }) clock
  | none => .map (es.push { key := .int k x, val := v, born := clock }) (clock + 1)
def delE (x : Int) (es : Array MapEntry) (clock : Nat) : Obj := match es.toList.findIdx? (isKey x) with
  | some i => .map (es.eraseIdxIfInBounds i) clock
  | none => .map es clock
/-! Maps with pairs of whole numbers as keys. -/
def key2 (x y : Int) : Value := .agg #[.int .i64 x, .int .i64 y]
def isKey2 (x y : Int) (e : MapEntry) : Bool := match e.key with
  | .agg cs => (match cs.toList with
    | [.int _ a, .int _ b] => decide (x = a) && decide (y = b)
    | _ => false)
  | _ => false
def pairKeys (es : List MapEntry) : Prop := ∀ e ∈ es, ∃ a b : Int, e.key = key2 a b
def findE2 (x y : Int) (es : List MapEntry) : Option Value := (es.find? (isKey2 x y)).map (·.val)
def putE2 (x y : Int) (v : Value) (es : Array MapEntry) (clock : Nat) : Obj := match es.toList.findIdx? (isKey2 x y) with
  | some i => .map (es.modify i fun e => { e with key := key2 x y, val := v }) clock
  | none => .map (es.push { key := key2 x y, val := v, born := clock }) (clock + 1)
def lookF2 (H : Hp) (r : Option Nat) (x y : Int) (z : Value) (K : Value → Bool → Prop) : Prop := match r with
  | none => K z false
  | some b => ∃ es clock, H b = some (.map es clock) ∧ pairKeys es.toList ∧ K ((findE2 x y es.toList).getD z) (findE2 x y es.toList).isSome
def putF2 (H : Hp) (r : Option Nat) (x y : Int) (v : Value) (K : Hp → Prop) : Prop :=
  ∃ b es clock, r = some b ∧ H b = some (.map es clock) ∧ pairKeys es.toList ∧ K (upd b (putE2 x y v es clock) H)
def newMapF (H : Hp) (K : Nat → Hp → Prop) : Prop := ∀ b, H b = none → K b (upd b (.map #[] 0) H)
def lookF (H : Hp) (k : IntKind) (r : Option Nat) (x : Int) (z : Value) (K : Value → Bool → Prop) : Prop := match r with
  | none => K z false
  | some b => ∃ es clock, H b = some (.map es clock) ∧ intKeys k es.toList ∧ K ((findE x es.toList).getD z) (findE x es.toList).isSome
def okV (ok : Bool) (v : Value) (b : Bool) : Value := match ok with
  | true => .tuple #[v, .bool b]
  | false => v
def putF (H : Hp) (k : IntKind) (r : Option Nat) (x : Int) (v : Value) (K : Hp → Prop) : Prop :=
  ∃ b es clock, r = some b ∧ H b = some (.map es clock) ∧ intKeys k es.toList ∧ K (upd b (putE k x v es clock) H)
def delF (H : Hp) (k : IntKind) (r : Option Nat) (x : Int) (K : Hp → Prop) : Prop :=
  ∃ b es clock, r = some b ∧ H b = some (.map es clock) ∧ intKeys k es.toList ∧ K (upd b (delE x es clock) H)
def sizeF (H : Hp) (r : Option Nat) (K : Nat → Prop) : Prop := match r with
  | none => K 0
  | some b => ∃ es clock, H b = some (.map es clock) ∧ K es.size
def rangeF (H : Hp) (r : Option Nat) (K : Nat → Hp → Prop) : Prop :=
  ∃ b es clock, r = some b ∧ H b = some (.map es clock) ∧ ∀ i, H i = none → K i (upd i (.mapIter (some b) clock #[] clock) H)
def nextF (H : Hp) (i o : Nat) (Kn : Prop) (Ks : Value → Value → Hp → Prop) : Prop :=
  o = 0 ∧ ∃ b since seen c0 es clock, H i = some (.mapIter (some b) since seen c0) ∧ H b = some (.map es clock) ∧ (∀ e ∈ es.toList, e.born < since) ∧ since ≤ c0 ∧
    ((leftOf es seen).size = 0 → Kn) ∧ ∀ e ∈ (leftOf es seen).toList, Ks e.key e.val (upd i (.mapIter (some b) since (seen.push e.born) clock) H)
def entryF (H : Hp) (i o : Nat) (K : Value → Value → Prop) : Prop :=
  o = 0 ∧ ∃ (b since : Nat) (seen : Array Nat) (es : Array MapEntry) (clock : Nat) (e : MapEntry), H i = some (.mapIter (some b) since (seen.push e.born) clock) ∧ H b = some (.map es clock) ∧ e ∈ es.toList ∧ (es.toList.map (·.born)).Nodup ∧ K e.key e.val
/-- Cells copied from one slice to another. -/
def copyF (H : Hp) (esz : Nat) (A : Option Addr) (n : Nat) (B : Option Addr) (m : Nat) (K : Hp → Prop) : Prop :=
  (min m n = 0 → K H) ∧ (0 < min m n → ∃ new : List Value, new.length = min m n * esz ∧ cellsAt H B new ∧ (∀ v ∈ new, v.oneCell' = true) ∧ onPtr A fun b o => storeF H b o new K)
/-- Two slices in two blocks do not overlap. -/
def apartF (H : Hp) (A B : Option Addr) (K : Prop) : Prop :=
  onPtr A fun a _ => onPtr B fun b _ => a ≠ b ∧ (∃ cs ty, H a = some (.cells cs ty (0, 0))) ∧ (∃ cs ty, H b = some (.cells cs ty (0, 0)) ∧ 0 < cs.size) ∧ K
/-- Zero values appended to a slice that has no room for them. -/
def appendZF (H : Hp) (el esz eby : Nat) (zs : List Value) (A : Option Addr) (n c : Nat) (k : Int) (K : Option Addr → Nat → Nat → Hp → Prop) : Prop :=
  0 < k ∧ c < n + k.toNat ∧ (n + k.toNat) * eby ≤ 140737488355328 ∧ n + k.toNat ≤ 140737488355328 ∧ ∃ old : List Value, old.length = n * esz ∧ cellsAt H A old ∧
    ∀ (b cap : Nat) (rest : List Value), H b = none → n + k.toNat ≤ cap → cap ≤ maxLen → rest.length = (cap - (n + k.toNat)) * esz →
      K (some ⟨b, 0, none⟩) (n + k.toNat) cap (upd b (.cells (old ++ (List.replicate k.toNat zs).flatten ++ rest).toArray el (0, 0)) H)
/-- The number of what a map has. -/
def lenMap (T : List (Nat × TI)) (o : Oper) : Bool := match o.op, o.guard with
  | .call { callee := .builtin .len, argTypes := ts, .. }, none => (match ts.toList with
    | [t] => (match look t T with
      | some i => (match i.kn with
        | .map _ _ => true
        | _ => false)
      | none => false)
    | _ => false)
  | _, _ => false
def lenMapF (o : Op) (e : Env) (H : Hp) (K : Value → Prop) : Prop := match o with
  | .call { args := args, .. } => withVs e args.toList fun vs => (match vs with
    | [.map r] => sizeF H r fun n => K (.int .i64 n)
    | _ => False)
  | _ => False
def updF (c : Cx) (e : Env) (H : Hp) (t : Nat) (m x y : Operand) (K : Hp → Prop) : Prop := onTI c.T t fun i => (match i.kn with
    | .map kt _ => onTI c.T kt fun ki => (match ki.kn, ki.zs with
      | .scalar, [.int k' _] => onV (ev e m) fun mv => onV (ev e x) fun xv => onV (ev e y) fun v => (match mv, xv with
        | .map r, .int k n => (match sameK k' k with
          | true => putF H k r n v K
          | false => False)
        | _, _ => False)
      | .array _ _ _, [.int k1 _, .int k2 _] => onV (ev e m) fun mv => onV (ev e x) fun xv => onV (ev e y) fun v => (match mv, xv with
        | .map r, .agg cs => (match cs.toList with
          | [.int k3 p, .int k4 q] => (match ki.eqs && (sameK k1 .i64 && (sameK k2 .i64 && (sameK k3 .i64 && sameK k4 .i64))) with
            | true => putF2 H r p q v K
            | false => False)
          | _ => False)
        | _, _ => False)
      | _, _ => False)
    | _ => False)
/-- One operation; what follows is handed what its slot then holds. -/
def wOp (c : Cx) (o : Oper) (e : Env) (V : VSt) (H : Hp) (K : Option AV → Env → VSt → Hp → Prop) : Prop := match o.op with
  | .load t a => onTI c.T t fun i => onAV (ev e a) fun p => (match p with
    | .loc k o => (match V k with
      | some x => (match Nat.ble (o + i.zs.length) x.2.length with
        | true => mkV i.agg ((x.2.drop o).take i.zs.length) fun v => K (some (.v v)) e V H
        | false => False)
      | none => False)
    | .v (.pointer p) => onPtr p fun b o => (match i.zs with
      | [] => False
      | z :: zs => loadL (z :: zs) H b o fun vs => mkV i.agg vs fun v => K (some (.v v)) e V H)
    | _ => False)
  | .store t a x => onTI c.T t fun i => onV (ev e x) fun v => (match Nat.beq (cellsL v).length i.zs.length, allOne (cellsL v) with
    | true, true => onAV (ev e a) fun p => (match p with
      | .loc k o => (match V k with
        | some (true, cs) => (match Nat.ble (o + (cellsL v).length) cs.length with
          | true => K none e (upd k (true, setR cs o (cellsL v)) V) H
          | false => False)
        | _ => False)
      | .v (.pointer p) => onPtr p fun b o => storeF H b o (cellsL v) fun H' => K none e V H'
      | _ => False)
    | _, _ => False)
  | .alloc t => onTI c.T t fun i => (match o.dst with
    | some d => (match look d c.virt with
      | some rw => K (some (.loc d 0)) (forget d e) (upd d (rw, i.zs) V) H
      | none => newF H t i.zs fun b H' => K (some (.v (.pointer (some ⟨b, 0, none⟩)))) e V H')
    | none => False)
  | .box t x => onTI c.T t fun i => onV (ev e x) fun v => (match Nat.beq (cellsL v).length i.zs.length, allOne (cellsL v), o.dst with
    | true, true, some d => (match look d c.virt with
      | some rw => K (some (.loc d 0)) (forget d e) (upd d (rw, cellsL v) V) H
      | none => newF H t (cellsL v) fun b H' => K (some (.v (.pointer (some ⟨b, 0, none⟩)))) e V H')
    | _, _, _ => False)
  | .buildSlice t len ps => onTI c.T t fun i => pairVs e ps.toList fun vs => (match i.kn with
    | .slice el esz _ => onTI c.T el fun ei => (match fillL (fsA len esz) (List.replicate len ei.zs).flatten vs, Nat.ble (len * esz) 16777216 with
      | some cs, true => newF H el cs fun b H' => K (some (.v (.slice (some ⟨b, 0, none⟩) len len))) e V H'
      | _, _ => False)
    | _ => False)
  | .call { callee := .value f, args := args, .. } => onV (ev e f) fun fv => withVs e args.toList fun vs => (match fv with
    | .func (.func g) first cap => (match f with
      | .tmp _ => FnOk c.P g ∧ (match look o.type c.T with
        | some i => HCallsG c.D c.P g (first.toList ++ vs ++ cap.toList) H fun v H' => leafEs i.zs fun us => mkV i.agg us fun v' => v = v' ∧ K (some (.v v')) e V H'
        | none => HCallsG c.D c.P g (first.toList ++ vs ++ cap.toList) H fun v H' => K (some (.v v)) e V H')
      | _ => (match elemN g c.overs with
        | true => (match first.toList ++ vs ++ cap.toList with
          | [.slice A _ _, .slice B _ _] => apartF H A B (K (some (.v (.bool false))) e V H)
          | _ => False)
        | false => callF c g (first.toList ++ vs ++ cap.toList) H fun v H' => K (some (.v v)) e V H'))
    | _ => False)
  | .call { callee := .builtin .len, args := args, argTypes := ts } => withVs e args.toList fun vs => (match ts.toList, vs with
    | [t], [v] => onTI c.T t fun i => (match i.kn, v with
      | .slice _ _ _, .slice _ n _ => K (some (.v (.int .i64 n))) e V H
      | .string, .string s => K (some (.v (.int .i64 s.size))) e V H
      | _, _ => False)
    | _, _ => False)
  | .call { callee := .builtin .append, args := args, argTypes := ts } => withVs e args.toList fun vs => (match ts.toList, vs with
    | [t, u], [.slice A n cp, .slice B m _] => (match Nat.beq t u with
      | true => onTI c.T t fun i => (match i.kn with
        | .slice el esz eby => (match esz with
          | 0 => False
          | _ + 1 => appendF H el esz eby A n cp B m fun A' n' c' H' => K (some (.v (.slice A' n' c'))) e V H')
        | _ => False)
      | false => False)
    | [t, u], [.slice A n cp, .int .i64 k] => onTI c.T t fun i => onTI c.T u fun ui => (match i.kn, ui.kn, ui.zs with
      | .slice el esz eby, .scalar, [.int _ _] => onTI c.T el fun ei => (match esz with
        | 0 => False
        | _ + 1 => appendZF H el esz eby ei.zs A n cp k fun A' n' c' H' => K (some (.v (.slice A' n' c'))) e V H')
      | _, _, _ => False)
    | _, _ => False)
  | .call { callee := .builtin .clear, args := args, argTypes := ts } => withVs e args.toList fun vs => (match ts.toList, vs with
    | [t], [.slice A n _] => onTI c.T t fun i => (match i.kn with
      | .slice el esz _ => onTI c.T el fun ei => (n = 0 → K (some (.v (.tuple #[]))) e V H) ∧ (0 < n → onPtr A fun b o => storeF H b o (List.replicate n ei.zs).flatten fun H' => K (some (.v (.tuple #[]))) e V H')
      | _ => False)
    | _, _ => False)
  | .call { callee := .builtin .delete, args := args, argTypes := ts } => withVs e args.toList fun vs => (match ts.toList, vs with
    | t :: _, [.map r, .int k x] => onTI c.T t fun i => (match i.kn with
      | .map kt _ => onTI c.T kt fun ki => (match ki.kn, ki.zs with
        | .scalar, [.int k' _] => (match sameK k' k with
          | true => delF H k r x fun H' => K (some (.v (.tuple #[]))) e V H'
          | false => False)
        | _, _ => False)
      | _ => False)
    | _, _ => False)
  | .makeMap _ none => newMapF H fun b H' => K (some (.v (.map (some b)))) e V H'
  | .makeSlice t l cp => onTI c.T t fun i => onV (ev e l) fun lv => onV (ev e cp) fun cv => (match i.kn, lv, cv with
    | .slice el _ eby, .int _ x, .int _ y => (match Nat.ble eby 1000000 with
      | true => onTI c.T el fun ei => x = y ∧ 0 ≤ x ∧ x ≤ 16777216 ∧ newF H el (List.replicate x.toNat ei.zs).flatten fun b H' => K (some (.v (.slice (some ⟨b, 0, none⟩) x.toNat x.toNat))) e V H'
      | false => False)
    | _, _, _ => False)
  | .lookup t m x ok => onTI c.T t fun i => (match i.kn with
    | .map kt vt => onTI c.T kt fun ki => onTI c.T vt fun vi => (match ki.kn, ki.zs with
      | .scalar, [.int k' _] => onV (ev e m) fun mv => onV (ev e x) fun xv => (match mv, xv with
        | .map r, .int k y => (match sameK k' k with
          | true => mkV vi.agg vi.zs fun z => lookF H k r y z fun v b => leafEs vi.zs fun us => mkV vi.agg us fun v' => v = v' ∧ K (some (.v (okV ok v' b))) e V H
          | false => False)
        | _, _ => False)
      | .array _ _ _, [.int k1 _, .int k2 _] => onV (ev e m) fun mv => onV (ev e x) fun xv => (match mv, xv with
        | .map r, .agg cs => (match cs.toList with
          | [.int k3 p, .int k4 q] => (match ki.eqs && (sameK k1 .i64 && (sameK k2 .i64 && (sameK k3 .i64 && sameK k4 .i64))) with
            | true => mkV vi.agg vi.zs fun z => lookF2 H r p q z fun v b => leafEs vi.zs fun us => mkV vi.agg us fun v' => v = v' ∧ K (some (.v (okV ok v' b))) e V H
            | false => False)
          | _ => False)
        | _, _ => False)
      | _, _ => False)
    | _ => False)
  | .mapUpdate t m x y => updF c e H t m x y fun H' => K none e V H'
  | .insert t m x y => updF c e H t m x y fun H' => K none e V H'
  | .range t m => onTI c.T t fun i => (match i.kn with
    | .map _ _ => onV (ev e m) fun mv => (match mv with
      | .map r => rangeF H r fun b H' => K (some (.v (.pointer (some ⟨b, 0, none⟩)))) e V H'
      | _ => False)
    | _ => False)
  | .next it false => onV (ev e it) fun iv => (match iv, o.dst with
    | .pointer p, some d => (match look d c.nexts with
      | some zz => onPtr p fun b off => nextF H b off (K (some (.v (.tuple #[.bool false]))) e V H) fun key val H' =>
          leafE zz.1 fun k' => key = k' ∧ leafE zz.2 fun v' => val = v' ∧ K (some (.v (.tuple #[.bool true, k', v']))) e V H'
      | none => False)
    | _, _ => False)
  | .entry it => onV (ev e it) fun iv => (match iv, o.dst with
    | .pointer p, some d => (match look d c.nexts with
      | some zz => onPtr p fun b off => entryF H b off fun key val => leafE zz.1 fun k' => key = k' ∧ leafE zz.2 fun v' => val = v' ∧ K (some (.v (.tuple #[k', v']))) e V H
      | none => False)
    | _, _ => False)
  | .call { callee := .builtin .max, args := args, .. } => withVs e args.toList fun vs => (match vs with
    | [.int k x, .int k' y] => (match sameK k k' with
      | true => K (some (.v (.int k (if y > x then y else x)))) e V H
      | false => False)
    | _ => False)
  | .call { callee := .builtin .cap, args := args, argTypes := ts } => withVs e args.toList fun vs => (match ts.toList, vs with
    | [t], [.slice _ _ cp] => onTI c.T t fun i => (match i.kn with
      | .slice _ _ _ => K (some (.v (.int .i64 cp))) e V H
      | _ => False)
    | _, _ => False)
  | .call { callee := .builtin .copy, args := args, argTypes := ts } => withVs e args.toList fun vs => (match ts.toList, vs with
    | [t, _], [.slice A n _, .slice B m _] => onTI c.T t fun i => (match i.kn with
      | .slice _ esz _ => copyF H esz A n B m fun H' => K (some (.v (.int .i64 (min m n)))) e V H'
      | _ => False)
    | _, _ => False)
  | x => wPure c.T x e fun a => K (some a) e V H

/-- What a slot holds behind an operation. -/
def fin (n : Nat) (d : Option Nat) (a : Option AV) (e : Env) : Env := match d with
  | none => e
  | some d => match a, Nat.blt d n with
    | some a, true => upd d a e
    | _, _ => del d e
def dstAt (ops : List Oper) (j : Nat) : Option Nat := match ops[j]? with | some o => o.dst | none => none
def wStep (c : Cx) (ops : List Oper) (o : Oper) (K : Env → VSt → Hp → Prop) (e : Env) (V : VSt) (H : Hp) : Prop := match o.guard with
  | none => wOp c o e V H fun a e V H => K (fin c.n o.dst a e) V H
  | some (j, want) => match dstAt ops j with
    | some d => (match e d with
      | some (.v (.bool b)) => cnd b
          (match want with
            | true => wOp c o (upd d (.v (.bool true)) e) V H fun a e V H => K (fin c.n o.dst a e) V H
            | false => K (fin c.n o.dst (some (.v undef)) (upd d (.v (.bool true)) e)) V H)
          (match want with
            | false => wOp c o (upd d (.v (.bool false)) e) V H fun a e V H => K (fin c.n o.dst a e) V H
            | true => K (fin c.n o.dst (some (.v undef)) (upd d (.v (.bool false)) e)) V H)
      | some (.v (.tuple _)) => K (fin c.n o.dst (some (.v undef)) e) V H
      | _ => False)
    | none => False
def wOps (c : Cx) (ops : List Oper) : List Oper → (Env → VSt → Hp → Prop) → Env → VSt → Hp → Prop
  | [], K, e, V, H => K e V H
  | o :: r, K, e, V, H => (match lenMap c.T o with
    | true => lenMapF o.op e H fun v => wOps c ops r K (fin c.n o.dst (some (.v v)) e) V H
    | false => wStep c ops o (wOps c ops r K) e V H)

/-! A region whose order is open. -/
inductive Ef where
  | pure | load | quiet | write
def efOf : Op → Ef
  | .move _ | .pick .. | .nilCheck _ | .binOp .. | .unOp .. | .convert .. | .fieldAddr .. | .field .. | .indexAddr .. | .index .. | .slice .. | .build .. | .extract .. | .makeFunc .. => .pure
  | .call { callee := .builtin .len, .. } => .pure
  | .load .. => .load
  | .assign _ | .alloc _ | .box .. | .buildSlice .. => .quiet
  | _ => .write
def isEf : Ef → Bool
  | .pure | .load => false
  | _ => true
/-- The variable beside the heap into which an operation stores. -/
def vstK (e : Env) : Op → Option Nat
  | .store _ a _ => (match ev e a with | some (.loc k _) => some k | _ => none)
  | _ => none
def dirOf (o : Oper) : List Nat := (o.after.toList.filter fun x => Region.binds .any x).map (·.on)
def maskOf (acc : List Nat) : List Nat → Nat
  | [] => 0
  | z :: r => (2 ^ z ||| acc.getD z 0) ||| maskOf acc r
def masks : List Nat → List Oper → List Nat
  | acc, [] => acc
  | acc, o :: r => masks (acc ++ [maskOf acc (dirOf o)]) r
def befB (bf : List Nat) (i j : Nat) : Bool := (bf.getD i 0).testBit j
/-- Loads that have been gone through and that this may come before: what they looked at stays. -/
def lateL (bf S : List Nat) (i : Nat) (w : Bool) (k : Option Nat) (e : Env) (H H' : Hp) : Nat → List Oper → Prop → Prop
  | _, [], P => P
  | j, o :: r, P => match o.op with
    | .load _ a => (match befB bf i j || elemN j S with
      | true => lateL bf S i w k e H H' (j + 1) r P
      | false => (match ev e a with
        | none => False
        | some (.loc k1 _) => (match k with
          | none => lateL bf S i w k e H H' (j + 1) r P
          | some k2 => (match Nat.beq k1 k2 with
            | true => False
            | false => lateL bf S i w k e H H' (j + 1) r P))
        | some (.v v) => (match k with
          | some _ => lateL bf S i w k e H H' (j + 1) r P
          | none => (match w with
            | false => lateL bf S i w k e H H' (j + 1) r P
            | true => (match v with
              | .pointer (some p) => H' p.block = H p.block ∧ lateL bf S i w k e H H' (j + 1) r P
              | _ => lateL bf S i w k e H H' (j + 1) r P)))))
    | _ => lateL bf S i w k e H H' (j + 1) r P
def lateP (bf S : List Nat) (ops : List Oper) (i : Nat) (o : Oper) (e : Env) (H H' : Hp) (P : Prop) : Prop := match efOf o.op with
  | .write => (match vstK e o.op with
    | some k => lateL bf S i false (some k) e H H' 0 ops P
    | none => lateL bf S i true none e H H' 0 ops P)
  | _ => P
def without (x : Nat) : List Nat → List Nat
  | [] => []
  | y :: r => match Nat.beq x y with
    | true => without x r
    | false => y :: without x r
def wOpsD (c : Cx) (ops : List Oper) (bf : List Nat) : OT → List Nat → (Env → VSt → Hp → Prop) → Env → VSt → Hp → Prop
  | .done, _, K, e, V, H => K e V H
  | .look i t, S, K, e, V, H => (match ops[i]? with
    | some o => wStep c ops o (wOpsD c ops bf t (without i S) K) e V H
    | none => False)
  | .act i t u, S, K, e, V, H => (match ops[i]? with
    | some o => (match u.isDone with
      | true => wStep c ops o (fun e' V' H' => lateP bf S ops i o e H H' (wOpsD c ops bf t (without i S) K e' V' H')) e V H
      | false => wStep c ops o (fun e' V' H' => lateP bf S ops i o e H H' (wOpsD c ops bf t (without i S) K e' V' H')) e V H ∧ wOpsD c ops bf u S K e V H)
    | none => False)
def namesOf (ops : List Oper) (o : Oper) : List Nat := (o.op.operands.toList.filterMap fun x => match x with | .tmp t => some t | _ => none) ++ (match o.guard with | some (j, _) => (match dstAt ops j with | some d => [d] | none => []) | none => [])
def efAt (ops : List Oper) (i : Nat) : Bool := match ops[i]? with | some o => isEf (efOf o.op) | none => true
def slotOk (ops : List Oper) (bf : List Nat) (x y : Nat) : Bool := match ops[x]?, ops[y]? with
  | some ox, some oy => (match oy.dst with
    | none => true
    | some d => (!(elemN d (namesOf ops ox)) && (match ox.dst with | some d' => !Nat.beq d' d | none => true)) || befB bf x y || (isEf (efOf oy.op) && befB bf y x))
  | _, _ => false
def pairB (ops : List Oper) (bf : List Nat) (x : Nat) (S : List Nat) : Bool := (without x S).all fun y => !befB bf x y && slotOk ops bf x y && slotOk ops bf y x
def emptyB : List Nat → Bool
  | [] => true
  | _ => false
def tOk (ops : List Oper) (bf : List Nat) : OT → List Nat → List Nat → Bool
  | .done, S, tried => (match emptyB tried with
    | true => emptyB S
    | false => S.all fun z => elemN z tried || (without z S).any fun y => befB bf z y)
  | .look x t, S, tried => emptyB tried && elemN x S && !efAt ops x && pairB ops bf x S && tOk ops bf t (without x S) []
  | .act x t u, S, tried => elemN x S && efAt ops x && pairB ops bf x S && tOk ops bf t (without x S) [] && tOk ops bf u S (x :: tried)
def rangeB : Nat → List Nat
  | 0 => []
  | n + 1 => n :: rangeB n
def regOk (ops : List Oper) : Bool :=
  (rangeB ops.length).all fun i => match ops[i]? with | some o => (match o.dst with | some d => !elemN d (namesOf ops o) | none => true) && (dirOf o).all (fun z => Nat.blt z i) | none => false

inductive Xt where
  | normal | exit (id : Nat) | ret
def getSh (s : Sh) (v : Value) (K : s.T → Prop) : Prop := match s, v, K with
  | .int k, .int k' x, K => (match sameK k k' with | true => K x | false => False)
  | .bool, .bool x, K => K x
  | .str, .string x, K => K x
  | .slice, .slice A n c, K => K (A, n, c)
  | .ptr, .pointer p, K => K p
  | .map, .map r, K => K r
  | _, _, _ => False
def getL : (l : List Sh) → List Value → (ShT l → Prop) → Prop
  | [], [], K => K ()
  | s :: r, v :: vs, K => getSh s v fun x => getL r vs fun y => K (x, y)
  | _, _, _ => False
def valsT (l : List (Nat × Sh)) : List Sh := l.map (·.2)
def BoxT : List (Nat × List Sh) → Type
  | [] => Unit
  | b :: r => ShT b.2 × BoxT r
abbrev LD.St (d : LD) : Type := ShT (valsT d.vals) × BoxT d.boxes
def getVals : (l : List (Nat × Sh)) → Env → (ShT (valsT l) → Prop) → Prop
  | [], _, K => K ()
  | p :: r, e, K => onV (e p.1) fun v => getSh p.2 v fun x => getVals r e fun y => K (x, y)
def getBoxes : (l : List (Nat × List Sh)) → VSt → (BoxT l → Prop) → Prop
  | [], _, K => K ()
  | p :: r, V, K => match V p.1 with
    | some (true, cs) => getL p.2 cs fun x => getBoxes r V fun y => K (x, y)
    | _ => False
def encVals : (l : List (Nat × Sh)) → ShT (valsT l) → Env → Env
  | [], _, e => e
  | p :: r, x, e => upd p.1 (.v (p.2.enc x.1)) (encVals r x.2 e)
def encBoxes : (l : List (Nat × List Sh)) → BoxT l → VSt → VSt
  | [], _, V => V
  | p :: r, x, V => upd p.1 (true, encL p.2 x.1) (encBoxes r x.2 V)
def restr {α : Type} (l : List Nat) (e : Nat → Option α) : Nat → Option α := fun x => match elemN x l with | true => e x | false => none
def LoopF {σ : Type} (s0 : σ) (H : Hp) (body : σ → Hp → (σ → Hp → Prop) → Prop) : Prop :=
  ∃ J : Nat → σ → Hp → Prop, (∃ n, J n s0 H) ∧ ∀ n s H', J n s H' → body s H' fun s' H2 => ∃ m, m < n ∧ J m s' H2

def keyOf : Code → Option Nat
  | .region id _ _ => some id
  | .seq a b => match keyOf a with | some k => some k | none => keyOf b
  | .cond _ a b => match keyOf a with | some k => some k | none => keyOf b
  | .block _ a => keyOf a
  | .loop a => keyOf a
  | _ => none
/-- Nothing of this has turned. -/
def KeepX (x : List (Option AV)) (y : List (Option (Bool × List Value))) : Prop := (x, y) = (x, y)
/-- Where several ways meet: what holds from there on is said once. -/
def jn {α : Type} (r : α) (A : α → Prop) : Prop := A r
theorem jn_intro {α : Type} {r : α} {A : α → Prop} (S : α → Prop) (h : S r) (h2 : ∀ J, S J → A J) : jn r A := h2 r h
def mapE {α : Type} (e : Nat → Option α) : List Nat → List (Option α)
  | [] => []
  | x :: r => e x :: mapE e r
def wv (c : Cx) : Code → (Xt → Env → VSt → Hp → Prop) → Env → VSt → Hp → Prop
  | .skip, Q, e, V, H => Q .normal e V H
  | .label _, Q, e, V, H => Q .normal e V H
  | .region id ops draw, Q, e, V, H => (match draw with
    | false => wOps c ops.toList ops.toList (Q .normal) e V H
    | true => (match look id c.perms with
      | some p => (match regOk ops.toList && tOk ops.toList (masks [] ops.toList) p (rangeB ops.toList.length) [] with
        | true => wOpsD c ops.toList (masks [] ops.toList) p (rangeB ops.toList.length) (Q .normal) e V H
        | false => False)
      | none => False))
  | .seq a b, Q, e, V, H => wv c a (fun x e V H => match x with | .normal => wv c b Q e V H | x => Q x e V H) e V H
  | .cond x a b, Q, e, V, H => onV (ev e x) fun v => (match v with
    | .bool t => cnd t (wv c a Q e V H) (wv c b Q e V H)
    | _ => False)
  | .block id a, Q, e, V, H => wv c a (fun x e V H => match x with | .exit i => (match Nat.beq i id with | true => Q .normal e V H | false => Q (.exit i) e V H) | x => Q x e V H) e V H
  | .exit id, Q, e, V, H => Q (.exit id) e V H
  | .ret, Q, e, V, H => Q .ret e V H
  | .loop a, Q, e, V, H => (match keyOf a with
    | some k => (match look k c.loops with
      | some d => getVals d.vals e fun x => getBoxes d.boxes V fun y => LoopF (σ := d.St) (x, y) H fun s H' next =>
            wv c a (fun q e' V' H2 => match q with
              | .normal => getVals d.vals e' fun x' => getBoxes d.boxes V' fun y' => (mapE e' d.keep, mapE V' d.kb) = (mapE e d.keep, mapE V d.kb) ∧ next (x', y') H2
              | q => Q q e' V' H2) (encVals d.vals s.1 (restr d.keep e)) (encBoxes d.boxes s.2 (restr d.kb V)) H'
      | none => False)
    | none => False)
  | _, _, _, _, _ => False

def resF (rs : List ResultVar) (T : List (Nat × TI)) (e : Env) (V : VSt) (K : List Value → Prop) : Prop := match rs with
  | [] => K []
  | .tmp t :: r => onV (e t) fun v => resF r T e V fun vs => K (v :: vs)
  | .cell t ty :: r => onTI T ty fun i => onAV (e t) fun a => (match a with
    | .loc k 0 => (match V k with
      | some x => (match Nat.beq x.2.length i.zs.length with
        | true => mkV i.agg x.2 fun v => resF r T e V fun vs => K (v :: vs)
        | false => False)
      | none => False)
    | _ => False)
def resV (vs : List Value) (K : Value → Prop) : Prop := match vs with
  | [v] => K v
  | vs => K (.tuple vs.toArray)
def retQ (c : Cx) (rs : List ResultVar) (Q : Value → Hp → Prop) : Xt → Env → VSt → Hp → Prop
  | .normal, e, V, H => resF rs c.T e V fun vs => resV vs fun v => Q v H
  | .ret, e, V, H => resF rs c.T e V fun vs => resV vs fun v => Q v H
  | .exit _, _, _, _ => False
def env0 (args : List Value) : Env := fun t => match args[t]? with | some v => some (.v v) | none => none
def wFun (c : Cx) (fn : Func) (args : List Value) (H : Hp) (Q : Value → Hp → Prop) : Prop := match fn.body with
  | some code => (match Nat.beq c.n fn.ntmps, Nat.ble args.length fn.ntmps with
    | true, true => wv c code (retQ c fn.results.toList Q) (env0 args) (fun _ => none) H
    | _, _ => False)
  | none => False
end Go.Proofs.YtmelbipidffmpaaGreatDoor.Hw

/- The evaluator's operations that look neither at the heap nor at variables are sound: each comes to the value that the evaluator says. -/
set_option linter.unusedVariables false
set_option linter.unusedSimpArgs false
namespace Go.Proofs.YtmelbipidffmpaaGreatDoor.Hw
open Go

def isAggD : TypeDesc → Bool
  | .struct _ | .array _ _ => true
  | _ => false
def fieldOk (P : Program) (f : Field) (x : Nat × Nat × Bool) : Prop := f.offset = x.1 ∧ (∃ j d, P.info? f.type = some j ∧ j.size = x.2.1 ∧ P.underlying f.type = some d ∧ isAggD d = x.2.2)
def fieldsOk (P : Program) : List Field → List (Nat × Nat × Bool) → Prop
  | [], [] => True
  | f :: r, x :: s => fieldOk P f x ∧ fieldsOk P r s
  | _, _ => False
def knOk (P : Program) (d : TypeDesc) (zs : List Value) : Kn → Prop
  | .scalar => (match zs with | [.bool _] => d = .bool | [.int k _] => d = .int k | [.pointer _] => ∃ e, d = .pointer e | _ => True)
  | .slice el esz eby => d = .slice el ∧ ∃ j z, P.info? el = some j ∧ j.size = esz ∧ j.bytes = eby ∧ j.zero = some z ∧ z.cells.size = esz
  | .array len esz eagg => ∃ el j du, d = .array len el ∧ P.info? el = some j ∧ j.size = esz ∧ P.underlying el = some du ∧ isAggD du = eagg
  | .struct fs => ∃ flds, d = .struct flds ∧ fieldsOk P flds.toList fs
  | .string => d = .string
  | .map k v => d = .map k v
def chkEq (P : Program) : Nat → List Field → List Value → Bool
  | _, [], [] => true
  | off, f :: r, z :: s => f.name != "_" && Nat.beq f.offset off && (match P.info? f.type with | some j => Nat.beq j.size 1 | none => false) &&
    (match z, P.underlying f.type with | .int _ _, some (.int _) => true | .bool _, some .bool => true | .string _, some .string => true | _, _ => false) && chkEq P (off + 1) r s
  | _, _, _ => false
def chkArr (P : Program) (n el : Nat) (zs : List Value) : Bool := Nat.beq n zs.length && (match P.underlying el, P.info? el with
  | some (.int k), some j => Nat.beq j.size 1 && zs.all fun z => (match z with | .int k' _ => sameK k k' | _ => false)
  | _, _ => false)
def eqOk (P : Program) (t : Nat) (zs : List Value) : Bool := (match P.underlying t with | some (.struct fs) => chkEq P 0 fs.toList zs | some (.array n el) => chkArr P n el zs | _ => false) && !P.stoodInHeld t && !P.eqGuardType P.depth t
structure TiOk (P : Program) (t : Nat) (i : TI) : Prop where
  info : ∃ j, P.info? t = some j ∧ j.zero = some (match i.agg with | true => .agg i.zs.toArray | false => i.zs.headD undef) ∧ j.size = i.zs.length
  one : i.agg = false → ∃ v, i.zs = [v] ∧ one1 v = true
  ones : allOne i.zs = true
  desc : ∃ d, P.underlying t = some d ∧ isAggD d = i.agg ∧ knOk P d i.zs i.kn
  eqs : i.eqs = true → eqOk P t i.zs = true

/-- A function that the model has by itself: whether two slices overlap. -/
def OverOk (P : Program) (g : FuncId) : Prop := ∃ fn tS tR e j, P.funcs[g]? = some fn ∧ (fn.name == "runtime.NumGoroutine") = false ∧ fn.body.isNone = true ∧ Extern.findNext fn = none ∧
  Extern.find fn = some (Extern.SlicesOverlaps.overlaps #[tS, tS] #[tR]) ∧ P.underlying tS = some (.slice e) ∧ P.info? e = some j
def AV.conc (β : Nat → Nat) : AV → Value
  | .v x => x
  | .loc k o => .pointer (some ⟨β k, o, none⟩)

theorem onAV_some {x : Option AV} {K : AV → Prop} (h : onAV x K) : ∃ a, x = some a ∧ K a := by
  cases x with
  | none => exact h.elim
  | some a => exact ⟨a, rfl, h⟩
theorem onV_some {x : Option AV} {K : Value → Prop} (h : onV x K) : ∃ a, x = some (.v a) ∧ K a := by
  cases x with
  | none => exact h.elim
  | some a => cases a with
    | v a => exact ⟨a, rfl, h⟩
    | loc k o => exact h.elim
theorem onPtr_some {p : Option Addr} {K : Nat → Nat → Prop} (h : onPtr p K) : ∃ b o, p = some ⟨b, o, none⟩ ∧ K b o := by
  rcases p with _ | ⟨b, o, s⟩
  · exact h.elim
  · cases s with
    | none => exact ⟨b, o, rfl, h⟩
    | some s => exact h.elim
theorem onTI_some {T : List (Nat × TI)} {t : Nat} {K : TI → Prop} (h : onTI T t K) : ∃ i, look t T = some i ∧ K i := by
  unfold onTI at h
  cases hl : look t T with
  | none => rw [hl] at h; exact h.elim
  | some i => rw [hl] at h; exact ⟨i, rfl, h⟩

/-- What the slots hold, the evaluator knows. -/
def EnvOk (β : Nat → Nat) (e : Env) (a : Act) : Prop := ∀ t av, e t = some av → a.tmps.getD t undef = av.conc β
theorem ev_eval {β : Nat → Nat} {e : Env} {a : Act} (h : EnvOk β e a) {x : Operand} {av : AV} (hx : ev e x = some av) : a.eval x = av.conc β := by
  cases x with
  | tmp t => exact h t av hx
  | const v => simp only [ev, Option.some.injEq] at hx; subst hx; rfl
  | func f => simp only [ev, Option.some.injEq] at hx; subst hx; rfl
  | global g => simp only [ev, Option.some.injEq] at hx; subst hx; rfl
theorem ev_evalV {β : Nat → Nat} {e : Env} {a : Act} (h : EnvOk β e a) {x : Operand} {v : Value} (hx : ev e x = some (.v v)) : a.eval x = v := ev_eval h hx
theorem withVs_some {β : Nat → Nat} {e : Env} {a : Act} (h : EnvOk β e a) : ∀ {l : List Operand} {K : List Value → Prop}, withVs e l K → ∃ vs, l.map a.eval = vs ∧ K vs
  | [], K, hk => ⟨[], rfl, hk⟩
  | x :: r, K, hk => by
    obtain ⟨v, hv, hk⟩ := onV_some hk
    obtain ⟨vs, hvs, hk⟩ := withVs_some h hk
    exact ⟨v :: vs, by rw [List.map_cons, ev_evalV h hv, hvs], hk⟩
theorem pairVs_some {β : Nat → Nat} {e : Env} {a : Act} (h : EnvOk β e a) : ∀ {l : List (Nat × Operand)} {K : List (Nat × Value) → Prop}, pairVs e l K → ∃ vs, l.map (fun x => (x.1, a.eval x.2)) = vs ∧ K vs
  | [], K, hk => ⟨[], rfl, hk⟩
  | x :: r, K, hk => by
    obtain ⟨v, hv, hk⟩ := onV_some hk
    obtain ⟨vs, hvs, hk⟩ := pairVs_some h hk
    exact ⟨(x.1, v) :: vs, by rw [List.map_cons, ev_evalV h hv, hvs], hk⟩

theorem add_mk (b o n : Nat) : (⟨b, o, none⟩ : Addr).add n = ⟨b, o + n, none⟩ := by unfold Addr.add; split <;> simp_all
theorem sameK_eq {k k' : IntKind} (h : sameK k k' = true) : k = k' := of_decide_eq_true h
theorem mkV_some {g : Bool} {cs : List Value} {K : Value → Prop} (h : mkV g cs K) : ∃ v, ((g = true ∧ v = .agg cs.toArray) ∨ (g = false ∧ cs = [v])) ∧ K v := by
  cases g with
  | true => exact ⟨_, .inl ⟨rfl, rfl⟩, h⟩
  | false =>
    match cs, h with
    | [v], h => exact ⟨v, .inr ⟨rfl, rfl⟩, h⟩

section
variable {P : Program}
theorem run_isAgg {t : Nat} {d : TypeDesc} (h : P.underlying t = some d) (w : World) : (isAgg t).run P w = .ok (isAggD d) w := by
  unfold isAgg
  simp only [Sem.run_bind, run_underlying h, Result.andThen_ok]
  cases d <;> rfl
theorem run_sizeOf {t : Nat} {j : TypeInfo} (h : P.info? t = some j) (w : World) : (sizeOf t).run P w = .ok j.size w := by
  simp [sizeOf, typeInfo, h]
theorem run_zeroValue {t : Nat} {j : TypeInfo} {z : Value} (h : P.info? t = some j) (hz : j.zero = some z) (w : World) : (zeroValue t).run P w = .ok z w := by
  simp [zeroValue, typeInfo, h, hz]
theorem fieldsOk_get : ∀ {l : List Field} {fs : List (Nat × Nat × Bool)} {f : Nat} {x : Nat × Nat × Bool}, fieldsOk P l fs → fs[f]? = some x → ∃ g, l[f]? = some g ∧ fieldOk P g x
  | [], [], f, x, _, h => by simp at h
  | g :: r, y :: s, 0, x, hk, h => by simp at h; subst h; exact ⟨g, rfl, hk.1⟩
  | g :: r, y :: s, f + 1, x, hk, h => by
    obtain ⟨q, hq, ho⟩ := fieldsOk_get (l := r) (fs := s) (f := f) hk.2 (by simpa using h)
    exact ⟨q, by simpa using hq, ho⟩
  | [], _ :: _, _, _, hk, _ => hk.elim
  | _ :: _, [], _, _, hk, _ => hk.elim

theorem run_part {t : Nat} {j : TypeInfo} {d : TypeDesc} {cs : Array Value} {off : Nat} (hj : P.info? t = some j) (hd : P.underlying t = some d) (h : off + j.size ≤ cs.toList.length) {v : Value}
    (hv : (isAggD d = true ∧ v = .agg ((cs.toList.drop off).take j.size).toArray) ∨ (isAggD d = false ∧ (cs.toList.drop off).take j.size = [v])) (w : World) : (part t cs off).run P w = .ok v w := by
  unfold part
  simp only [Sem.run_bind, run_isAgg hd, Result.andThen_ok]
  rcases hv with ⟨h1, rfl⟩ | ⟨h1, h2⟩
  · simp only [h1, if_true, Sem.run_bind, run_sizeOf hj, Result.andThen_ok, Sem.run_pure]
    congr 2
    apply Array.ext'
    simp [Array.toList_extract, List.extract_eq_take_drop]
  · simp only [h1, Bool.false_eq_true, if_false]
    have h3 : cs[off]? = some v := by
      have h4 : ((cs.toList.drop off).take j.size)[0]? = some v := by rw [h2]; rfl
      have h5 : 0 < j.size := by
        rcases Nat.eq_zero_or_pos j.size with h0 | h0
        · rw [h0] at h2; simp at h2
        · exact h0
      rw [List.getElem?_take_of_lt h5, List.getElem?_drop] at h4
      simpa using h4
    simp [h3]
theorem run_eqLs {d : Nat} {xs ys : Array Value} {w : World} : ∀ {fs : List Field} {zs : List Value} {off : Nat} {b : Bool}, chkEq P off fs zs = true → eqLs zs (xs.toList.drop off) (ys.toList.drop off) = some b → (Op.eqFields (d + 1) xs ys fs).run P w = .ok b w
  | [], [], off, b, _, h => by
    have hb : b = true := by
      generalize xs.toList.drop off = l1 at h
      generalize ys.toList.drop off = l2 at h
      cases l1 <;> cases l2 <;> simp [eqLs] at h
      exact h.symm ▸ rfl
    subst hb
    simp [Op.eqFields]
  | f :: r, z :: s, off, b, hc, h => by
    simp only [chkEq, Bool.and_eq_true] at hc
    obtain ⟨⟨⟨⟨c1, c2⟩, c3⟩, c4⟩, c5⟩ := hc
    have hoff := Nat.eq_of_beq_eq_true c2
    cases hx : xs.toList.drop off with
    | nil => rw [hx] at h; simp [eqLs] at h
    | cons x xr =>
      cases hy : ys.toList.drop off with
      | nil => rw [hx, hy] at h; simp [eqLs] at h
      | cons y yr =>
        rw [hx, hy] at h
        have hxr : xs.toList.drop (off + 1) = xr := by rw [← List.drop_drop, hx]; rfl
        have hyr : ys.toList.drop (off + 1) = yr := by rw [← List.drop_drop, hy]; rfl
        have hxl : off + 1 ≤ xs.toList.length := by
          have := congrArg List.length hx
          rw [List.length_drop, List.length_cons] at this; omega
        have hyl : off + 1 ≤ ys.toList.length := by
          have := congrArg List.length hy
          rw [List.length_drop, List.length_cons] at this; omega
        cases hj : P.info? f.type with
        | none => rw [hj] at c3; cases c3
        | some j =>
          rw [hj] at c3
          have hsz := Nat.eq_of_beq_eq_true c3
          simp only [eqLs] at h
          split at h
          · rename_i p q hp hq
            cases h
            have ih := run_eqLs (d := d) (xs := xs) (ys := ys) (w := w) (fs := r) (zs := s) (off := off + 1) (b := q) c5 (by rw [hxr, hyr]; exact hq)
            have hstep : ∃ du, P.underlying f.type = some du ∧ isAggD du = false ∧ (Op.equalIn (d + 1) f.type x y).run P w = .ok p w := by
              unfold eq1F at hp
              split at hp
              · split at hp
                · rename_i hk
                  cases sameK_eq hk
                  cases hp
                  split at c4
                  all_goals first
                    | (rename_i hz hu; cases hz; refine ⟨_, hu, rfl, ?_⟩; exact run_equalIn_int w _ _ _ _ _ _ hu)
                    | (rename_i hz hu; cases hz; done)
                    | (cases c4; done)
                · cases hp
              · cases hp
                split at c4
                all_goals first
                  | (rename_i hz hu; cases hz; refine ⟨_, hu, rfl, ?_⟩; exact run_equalIn_bool w _ _ _ _ hu)
                  | (rename_i hz hu; cases hz; done)
                  | (cases c4; done)
              · cases hp
                split at c4
                all_goals first
                  | (rename_i hz hu; cases hz; refine ⟨_, hu, rfl, ?_⟩; exact run_equalIn_string w _ _ _ _ hu)
                  | (rename_i hz hu; cases hz; done)
                  | (cases c4; done)
              · cases hp
            obtain ⟨du, hu, hag, hrun⟩ := hstep
            have hpx : (part f.type xs f.offset).run P w = .ok x w := run_part hj hu (by rw [hoff, hsz]; exact hxl) (.inr ⟨hag, by rw [hoff, hsz, hx]; rfl⟩) w
            have hpy : (part f.type ys f.offset).run P w = .ok y w := run_part hj hu (by rw [hoff, hsz]; exact hyl) (.inr ⟨hag, by rw [hoff, hsz, hy]; rfl⟩) w
            have hn' : f.name ≠ "_" := by simpa using c1
            rw [Op.eqFields]
            simp only [if_pos hn', Sem.run_bind, hpx, hpy, hrun, Result.andThen_ok]
            cases p
            · simp
            · simpa using ih
          · cases h
  | [], _ :: _, _, _, hc, _ => by simp [chkEq] at hc
  | _ :: _, [], _, _, hc, _ => by simp [chkEq] at hc

theorem run_eqItems {d el : Nat} {k : IntKind} {j : TypeInfo} {xs ys : Array Value} {w : World} (he : P.underlying el = some (.int k)) (hj : P.info? el = some j) (hs : j.size = 1) : ∀ {zs : List Value} {off : Nat} {b : Bool},
    (∀ z ∈ zs, ∃ x : Int, z = .int k x) → eqLs zs (xs.toList.drop off) (ys.toList.drop off) = some b → (Op.eqItems (d + 1) el 1 xs ys (List.range' off zs.length)).run P w = .ok b w
  | [], off, b, _, h => by
    have hb : b = true := by
      generalize xs.toList.drop off = l1 at h
      generalize ys.toList.drop off = l2 at h
      cases l1 <;> cases l2 <;> simp [eqLs] at h
      exact h.symm ▸ rfl
    subst hb
    simp [Op.eqItems]
  | z :: s, off, b, hz, h => by
    cases hx : xs.toList.drop off with
    | nil => rw [hx] at h; simp [eqLs] at h
    | cons x xr =>
      cases hy : ys.toList.drop off with
      | nil => rw [hx, hy] at h; simp [eqLs] at h
      | cons y yr =>
        rw [hx, hy] at h
        have hxr : xs.toList.drop (off + 1) = xr := by rw [← List.drop_drop, hx]; rfl
        have hyr : ys.toList.drop (off + 1) = yr := by rw [← List.drop_drop, hy]; rfl
        have hxl : off + 1 ≤ xs.toList.length := by
          have := congrArg List.length hx
          rw [List.length_drop, List.length_cons] at this; omega
        have hyl : off + 1 ≤ ys.toList.length := by
          have := congrArg List.length hy
          rw [List.length_drop, List.length_cons] at this; omega
        obtain ⟨x0, rfl⟩ := hz z List.mem_cons_self
        simp only [eqLs] at h
        split at h
        · rename_i p q hp hq
          cases h
          have ih := run_eqItems (d := d) (xs := xs) (ys := ys) (w := w) he hj hs (zs := s) (off := off + 1) (b := q) (fun z h => hz z (List.mem_cons_of_mem _ h)) (by rw [hxr, hyr]; exact hq)
          have hrun : (Op.equalIn (d + 1) el x y).run P w = .ok p w := by
            unfold eq1F at hp
            split at hp
            · rename_i hz0
              split at hp
              · rename_i hk
                cases sameK_eq hk
                cases hp
                exact run_equalIn_int w _ _ _ _ _ _ he
              · cases hp
            · rename_i hz0; cases hz0
            · rename_i hz0; cases hz0
            · cases hp
          have hpx : (part el xs (off * 1)).run P w = .ok x w := run_part hj he (by rw [Nat.mul_one, hs]; exact hxl) (.inr ⟨rfl, by rw [Nat.mul_one, hs, hx]; rfl⟩) w
          have hpy : (part el ys (off * 1)).run P w = .ok y w := run_part hj he (by rw [Nat.mul_one, hs]; exact hyl) (.inr ⟨rfl, by rw [Nat.mul_one, hs, hy]; rfl⟩) w
          rw [List.length_cons, List.range'_succ, Op.eqItems]
          simp only [Sem.run_bind, hpx, hpy, hrun, Result.andThen_ok]
          cases p
          · simp
          · simpa using ih
        · cases h
theorem run_binF {T : List (Nat × TI)} (hT : ∀ t i, look t T = some i → TiOk P t i) {op : BinOp} {t : Nat} {a b : Value} {K : Value → Prop} (h : binF T op t a b K) (x y : Operand) :
    ∃ v, K v ∧ ∀ w, (do eqGuard op t x y a b; binOp op t a b : Sem Value).run P w = .ok v w := by
  unfold binF at h
  split at h
  · rename_i k m k' n
    split at h
    · rename_i hs
      unfold shF at h
      split at h
      all_goals first
        | (exact h.elim)
        | (obtain ⟨h0, h⟩ := h; refine ⟨_, h, fun w => ?_⟩; simp [eqGuard, binOp, Op.shift, Int.not_lt.2 h0]; done)
    split at h
    · rename_i hk
      cases sameK_eq hk
      unfold intF at h
      split at h
      all_goals first
        | (exact h.elim)
        | (refine ⟨_, h, fun w => ?_⟩; simp [eqGuard, binOp, Op.intArith, Op.intCmp, Op.intDiv]; done)
        | (obtain ⟨h0, h⟩ := h; refine ⟨_, h, ?_⟩; simp [eqGuard, binOp, Op.intDiv, h0]; done)
    · exact h.elim
  · rename_i m n
    obtain ⟨i, hi, h⟩ := onTI_some h
    split at h
    · rename_i hkn hzs
      obtain ⟨d, hd, hag, hk⟩ := (hT t i hi).desc
      rw [hkn, hzs] at hk
      have hd' : P.underlying t = some .bool := by rw [hd]; exact congrArg some hk
      unfold boolF at h
      split at h
      · refine ⟨_, h, fun w => ?_⟩
        simp [eqGuard, Sem.run_bind, run_eql_bool (P := P) w t m n hd']
      · refine ⟨_, h, fun w => ?_⟩
        simp [eqGuard, Sem.run_bind, run_neq_bool (P := P) w t m n hd']
      · exact h.elim
    · exact h.elim
  · rename_i m n
    unfold strF at h
    split at h
    all_goals first
      | (exact h.elim)
      | (refine ⟨_, h, fun w => ?_⟩; simp [eqGuard, binOp, Op.stringOp]; done)
  · rename_i A n c
    obtain ⟨i, hi, h⟩ := onTI_some h
    split at h
    · rename_i hkn
      obtain ⟨d, hd, hag, hk⟩ := (hT t i hi).desc
      rw [hkn] at hk
      have hd' := hd.trans (congrArg some hk.1)
      unfold nilF at h
      split at h
      · refine ⟨_, h, fun w => ?_⟩
        have h1 := run_equal_slice_nil (P := P) w t _ A n c hd'
        simp only [eqGuard, binOp]
        simp [h1]
      · refine ⟨_, h, fun w => ?_⟩
        have h1 := run_neq_slice_nil (P := P) w t _ A n c hd'
        simp [eqGuard, Sem.run_bind, h1]
      · exact h.elim
    · exact h.elim
  · rename_i q
    obtain ⟨i, hi, h⟩ := onTI_some h
    split at h
    · rename_i hkn hzs
      obtain ⟨d, hd, hag, hk⟩ := (hT t i hi).desc
      rw [hkn, hzs] at hk
      obtain ⟨e, rfl⟩ := hk
      have hrun : ∀ w, (Op.equalIn 10000 t (.pointer q) (.pointer none)).run P w = .ok q.isNone w := fun w => by
        show (Op.equalIn (9999 + 1) t (.pointer q) (.pointer none)).run P w = .ok q.isNone w
        unfold Op.equalIn
        cases q <;> simp [Sem.run_bind, run_underlying hd]
      unfold nilF at h
      split at h
      · refine ⟨_, h, fun w => ?_⟩
        simp only [eqGuard, binOp]
        simp [Op.equal, Op.maxDepth, hrun]
      · refine ⟨_, h, fun w => ?_⟩
        simp only [eqGuard, binOp]
        simp [Op.equal, Op.maxDepth, hrun]
      · exact h.elim
    · exact h.elim
  · rename_i xs ys
    obtain ⟨i, hi, h⟩ := onTI_some h
    split at h
    · rename_i heq
      split at h
      · rename_i b hb
        have hok := (hT t i hi).eqs heq
        unfold eqOk at hok
        simp only [Bool.and_eq_true, Bool.not_eq_true'] at hok
        obtain ⟨⟨h1, h2⟩, h3⟩ := hok
        split at h1
        · rename_i fs hu
          have hf : P.fieldsOf t = fs := by simp [Program.fieldsOf, hu]
          have hrun : ∀ w, (Op.equalIn 10000 t (.agg xs) (.agg ys)).run P w = .ok b w := fun w => by
            rw [run_equalIn_struct (P := P) w 9999 t xs ys (by rw [hf]; exact hu) h2, hf]
            exact run_eqLs (d := 9998) h1 hb
          unfold nilF at h
          split at h
          · refine ⟨_, h, fun w => ?_⟩
            simp [eqGuard, Sem.run_bind, h3, run_eql_struct, hrun]
          · refine ⟨_, h, fun w => ?_⟩
            simp [eqGuard, Sem.run_bind, h3, run_neq_struct, hrun]
          · exact h.elim
        · rename_i n el hu
          unfold chkArr at h1
          simp only [Bool.and_eq_true] at h1
          obtain ⟨hn, h1⟩ := h1
          split at h1
          · rename_i k j he hj
            simp only [Bool.and_eq_true, List.all_eq_true] at h1
            obtain ⟨hs, hz⟩ := h1
            have hs := Nat.eq_of_beq_eq_true hs
            have hn := Nat.eq_of_beq_eq_true hn
            have hz' : ∀ z ∈ i.zs, ∃ x : Int, z = .int k x := fun z hm => by
              have := hz z hm
              split at this
              · rename_i k' x
                exact ⟨x, by rw [sameK_eq this]⟩
              · cases this
            have hrun : ∀ w, (Op.equalIn 10000 t (.agg xs) (.agg ys)).run P w = .ok b w := fun w => by
              have h1c : P.cellsOf el = 1 := by unfold Program.cellsOf; rw [hj]; exact hs
              rw [run_equalIn_array (P := P) w 9999 xs ys hu hj, h1c, hn, List.range_eq_range']
              exact run_eqItems (d := 9998) he hj hs hz' (by simpa using hb)
            unfold nilF at h
            split at h
            · refine ⟨_, h, fun w => ?_⟩
              simp [eqGuard, Sem.run_bind, h3, run_eql_struct, hrun]
            · refine ⟨_, h, fun w => ?_⟩
              simp [eqGuard, Sem.run_bind, h3, run_neq_struct, hrun]
            · exact h.elim
          · cases h1
        · cases h1
      · exact h.elim
    · exact h.elim
  · exact h.elim
end

section
variable {P : Program} {T : List (Nat × TI)} {β : Nat → Nat} {e : Env} {a : Act}
/-- An operation comes to a value, and turns nothing. -/
def Gives (P : Program) (o : Op) (a : Act) (w : World) (v : Value) : Prop := ∀ (d : Option Tmp) (ty : TypeId) (pos : String) (af : Array Edge) (g : Option (Nat × Bool)), (execOp a.eval ⟨d, o, ty, pos, af, g⟩).run P w = .ok (.value v) w

theorem run_bound (v : Int) (k : IntKind) (y : Nat) (code : BoundsCode) (h0 : 0 ≤ v) (h1 : v ≤ y) (w : World) : (Instr.sliceBound (.int k v) y code).run P w = .ok v.toNat w := by
  simp [Instr.sliceBound, asIntOf, h0, h1]

theorem opt_some (h : EnvOk β e a) {x : Option Operand} {i : Option Int} (hx : opt e x = some i) :
    (i = none ∧ x.map a.eval = none) ∨ ∃ j k, i = some j ∧ x.map a.eval = some (.int k j) := by
  cases x with
  | none => simp only [opt, Option.some.injEq] at hx; exact .inl ⟨hx.symm, rfl⟩
  | some x =>
    simp only [opt] at hx
    split at hx
    · rename_i k j he
      simp only [Option.some.injEq] at hx
      refine .inr ⟨j, k, hx.symm, ?_⟩
      simp [ev_evalV h he]
    · simp at hx
theorem run_bounds {n c : Nat} {lo hi mx : Option Int} {K : Nat → Nat → Nat → Prop} (h : sliceF n c lo hi mx K) {lv hv mv : Option Value}
    (h1 : (lo = none ∧ lv = none) ∨ ∃ j k, lo = some j ∧ lv = some (.int k j)) (h2 : (hi = none ∧ hv = none) ∨ ∃ j k, hi = some j ∧ hv = some (.int k j)) (h3 : (mx = none ∧ mv = none) ∨ ∃ j k, mx = some j ∧ mv = some (.int k j)) (g : Bool) :
    ∃ l hh m, (∀ w, (Instr.sliceBounds g n c lv hv mv).run P w = .ok (l, hh, m) w) ∧ K l hh m := by
  rcases h3 with ⟨rfl, rfl⟩ | ⟨m, km, rfl, rfl⟩ <;> rcases h2 with ⟨rfl, rfl⟩ | ⟨x, kx, rfl, rfl⟩ <;> rcases h1 with ⟨rfl, rfl⟩ | ⟨l, kl, rfl, rfl⟩ <;> simp only [sliceF] at h
  · exact ⟨0, n, c, fun w => by simp [Instr.sliceBounds], h⟩
  · obtain ⟨a1, a2, h⟩ := h
    exact ⟨_, _, _, fun w => by simp [Instr.sliceBounds, run_bound l kl n _ a1 a2], h⟩
  · obtain ⟨a1, a2, h⟩ := h
    exact ⟨_, _, _, fun w => by simp [Instr.sliceBounds, run_bound x kx c _ a1 a2], h⟩
  · obtain ⟨a1, a2, a3, a4, h⟩ := h
    have h4 := fun code => run_bound (P := P) l kl x.toNat code a3 (by omega)
    exact ⟨_, _, _, fun w => by simp [Instr.sliceBounds, run_bound x kx c _ a1 a2, h4], h⟩
  · obtain ⟨a1, a2, a3, a4, h⟩ := h
    have h4 := fun code => run_bound (P := P) x kx m.toNat code a3 (by omega)
    exact ⟨_, _, _, fun w => by simp [Instr.sliceBounds, run_bound m km c _ a1 a2, h4], h⟩
  · obtain ⟨a1, a2, a3, a4, a5, a6, h⟩ := h
    have h4 := fun code => run_bound (P := P) x kx m.toNat code a3 (by omega)
    have h5 := fun code => run_bound (P := P) l kl x.toNat code a5 (by omega)
    exact ⟨_, _, _, fun w => by simp [Instr.sliceBounds, run_bound m km c _ a1 a2, h4, h5], h⟩
theorem cutA_eq (A : Option Addr) (k l m : Nat) : (if m = l then A else A.map (·.add k)) = cutA A k (decide (m = l)) := by
  by_cases h : m = l <;> simp [cutA, h]
theorem setFold (vs : List Value) : ∀ (cs : List Value) (o i : Nat), o + i + vs.length ≤ cs.length →
    (vs.zipIdx i).foldl (fun (cs : Array Value) (x : Value × Nat) => cs.setIfInBounds (o + x.2) x.1) cs.toArray = (setR cs (o + i) vs).toArray := by
  induction vs with
  | nil => intro cs o i h; simp [setR]
  | cons v r ih =>
    intro cs o i h
    simp only [List.zipIdx_cons, List.foldl_cons, List.setIfInBounds_toArray]
    have hl : (v :: r).length = r.length + 1 := rfl
    rw [hl] at h
    rw [ih (cs.set (o + i) v) o (i + 1) (by rw [List.length_set]; omega)]
    congr 1
    unfold setR
    apply List.ext_getElem?
    intro j
    simp only [List.getElem?_append, List.length_append, List.length_take, List.length_set, List.getElem?_take, List.getElem?_drop, List.getElem?_set, List.length_cons]
    by_cases c1 : j < o + i
    · have e1 : j < min (o + (i + 1)) cs.length := by omega
      have e2 : j < min (o + (i + 1)) cs.length + r.length := by omega
      have e3 : j < min (o + i) cs.length := by omega
      have e4 : j < min (o + i) cs.length + (r.length + 1) := by omega
      have e5 : ¬ (o + i = j) := by omega
      have e6 : j < o + (i + 1) := by omega
      simp [e1, e2, e3, e4, e5, c1, e6]
    · by_cases c2 : j = o + i
      · subst c2
        have e1 : o + i < min (o + (i + 1)) cs.length := by omega
        have e2 : o + i < min (o + (i + 1)) cs.length + r.length := by omega
        have e3 : ¬ (o + i < min (o + i) cs.length) := by omega
        have e4 : o + i < min (o + i) cs.length + (r.length + 1) := by omega
        have e6 : o + i < o + (i + 1) := by omega
        have e7 : o + i < cs.length := by omega
        have e8 : o + i - min (o + i) cs.length = 0 := by omega
        simp [e1, e2, e3, e4, e6, e7, e8]
      · by_cases c3 : j < o + i + 1 + r.length
        · have e1 : ¬ (j < min (o + (i + 1)) cs.length) := by omega
          have e2 : j < min (o + (i + 1)) cs.length + r.length := by omega
          have e3 : ¬ (j < min (o + i) cs.length) := by omega
          have e4 : j < min (o + i) cs.length + (r.length + 1) := by omega
          have e5 : j - min (o + i) cs.length = (j - min (o + (i + 1)) cs.length) + 1 := by omega
          simp [e1, e2, e3, e4, e5]
        · have e1 : ¬ (j < min (o + (i + 1)) cs.length) := by omega
          have e2 : ¬ (j < min (o + (i + 1)) cs.length + r.length) := by omega
          have e3 : ¬ (j < min (o + i) cs.length) := by omega
          have e4 : ¬ (j < min (o + i) cs.length + (r.length + 1)) := by omega
          have e9 : o + (i + 1) + r.length + (j - (min (o + (i + 1)) cs.length + r.length)) = j := by omega
          have e10 : o + i + (r.length + 1) + (j - (min (o + i) cs.length + (r.length + 1))) = j := by omega
          have e11 : ¬ (o + i = j) := by omega
          simp only [e1, e2, e3, e4, if_false, e9, e10, e11]
theorem cellsL_eq (v : Value) : v.cells = (cellsL v).toArray := by cases v <;> rfl
theorem run_fill {fs : List (Nat × Nat × Bool)} {places : Nat → Option (Nat × Nat)} (hp : ∀ i f, fs[i]? = some f → places i = some (f.1, f.2.1)) : ∀ {ps : List (Nat × Value)} {cs out : List Value}, fillL fs cs ps = some out →
    Instr.fill places cs.toArray ps = some out.toArray
  | [], cs, out, h => by simp only [fillL, Option.some.injEq] at h; subst h; rfl
  | (i, v) :: r, cs, out, h => by
    simp only [fillL] at h
    split at h
    · rename_i f hf
      split at h
      · rename_i h1 h2
        have h1' := Nat.eq_of_beq_eq_true h1
        have h2' := Nat.le_of_ble_eq_true h2
        have hsz : v.cells.size = (cellsL v).length := by rw [cellsL_eq]; simp
        simp only [Instr.fill, hp i f hf]
        have hno : ¬ (v.cells.size ≠ f.2.1 ∨ f.1 + v.cells.size > cs.toArray.size) := by
          rw [hsz, List.size_toArray]
          omega
        rw [if_neg (by simpa using hno)]
        have h3 := setFold (cellsL v) cs f.1 0 (by omega)
        have h4 : v.cells.zipIdx.foldl (fun cs (x : Value × Nat) => cs.setIfInBounds (f.1 + x.2) x.1) cs.toArray = (setR cs f.1 (cellsL v)).toArray := by
          rw [cellsL_eq, ← Array.foldl_toList]
          simpa using h3
        have h5 := run_fill hp h
        rw [← h4] at h5
        exact h5
      · simp at h
    · simp at h
theorem run_fillA {len esz : Nat} {ps : List (Nat × Value)} {cs out : List Value} (h : fillL (fsA len esz) cs ps = some out) : Instr.fill (fun i => some (i * esz, esz)) cs.toArray ps = some out.toArray := by
  refine run_fill (fs := fsA len esz) (fun i f hf => ?_) h
  unfold fsA at hf
  rw [List.getElem?_map] at hf
  cases hr : (List.range len)[i]? with
  | none => rw [hr] at hf; simp at hf
  | some j =>
    rw [hr] at hf
    obtain ⟨hlt, hj⟩ := List.getElem?_eq_some_iff.1 hr
    rw [List.getElem_range] at hj
    subst hj
    simp only [Option.map_some, Option.some.injEq] at hf
    subst hf
    rfl
theorem run_mapM {l : List Field} {fs : List (Nat × Nat × Bool)} (h : fieldsOk P l fs) (w : World) : (l.mapM fun f => (do pure (f.offset, ← sizeOf f.type) : Sem (Nat × Nat))).run P w = .ok (fs.map fun x => (x.1, x.2.1)) w := by
  induction l generalizing fs with
  | nil =>
    cases fs with
    | nil => simp
    | cons x s => exact h.elim
  | cons f r ih =>
    cases fs with
    | nil => exact h.elim
    | cons x s =>
      obtain ⟨⟨h1, j, d, h2, h3, h4, h5⟩, h6⟩ := h
      simp only [List.mapM_cons, Sem.run_bind, run_sizeOf h2, Result.andThen_ok, Sem.run_pure, ih h6, List.map_cons, h1, h3]

theorem run_asIntOf (k : IntKind) (n : Int) (w : World) : (asIntOf (.int k n)).run P w = .ok (k, n) w := by simp [asIntOf]
/-- Each such operation is sound. -/
theorem wPure_sound (hT : ∀ t i, look t T = some i → TiOk P t i) {o : Op} {K : AV → Prop} (h : wPure T o e K) (E : EnvOk β e a) : ∃ av, K av ∧ ∀ w, Gives P o a w (av.conc β) := by
  cases o with
  | move x =>
    obtain ⟨av, hx, h⟩ := onAV_some h
    exact ⟨av, h, fun w _ _ _ _ _ => by simp [execOp, ev_eval E hx]⟩
  | assign x =>
    obtain ⟨av, hx, h⟩ := onAV_some h
    exact ⟨av, h, fun w _ _ _ _ _ => by simp [execOp, ev_eval E hx]⟩
  | pick c x y =>
    obtain ⟨cv, hc, h⟩ := onV_some h
    split at h
    · rename_i t
      cases t
      · obtain ⟨av, hx, h⟩ := onAV_some (h : onAV (ev e y) K)
        exact ⟨av, h, fun w _ _ _ _ _ => by simp [execOp, ev_evalV E hc, ev_eval E hx, asBool]⟩
      · obtain ⟨av, hx, h⟩ := onAV_some (h : onAV (ev e x) K)
        exact ⟨av, h, fun w _ _ _ _ _ => by simp [execOp, ev_evalV E hc, ev_eval E hx, asBool]⟩
    · exact h.elim
  | nilCheck x =>
    obtain ⟨av, hx, h⟩ := onAV_some h
    split at h
    · exact ⟨_, h, fun w _ _ _ _ _ => by simp [execOp, ev_eval E hx, AV.conc]⟩
    · obtain ⟨b, o, rfl, h⟩ := onPtr_some h
      exact ⟨_, h, fun w _ _ _ _ _ => by simp [execOp, ev_eval E hx, AV.conc]⟩
    · exact ⟨_, h, fun w _ _ _ _ _ => by simp [execOp, ev_eval E hx, AV.conc]⟩
    · exact h.elim
  | binOp op t x y u =>
    obtain ⟨va, ha, h⟩ := onV_some h
    obtain ⟨vb, hb, h⟩ := onV_some h
    obtain ⟨v, h, hr⟩ := run_binF hT h x y
    refine ⟨_, h, fun w _ _ _ _ _ => ?_⟩
    simp only [execOp, ev_evalV E ha, ev_evalV E hb]
    rw [Sem.run_bind, hr w]
    rfl
  | unOp op t x =>
    obtain ⟨va, ha, h⟩ := onV_some h
    unfold unF at h
    split at h
    · exact ⟨_, h, fun w _ _ _ _ _ => by simp [execOp, ev_evalV E ha, Op.unary, AV.conc]⟩
    · exact ⟨_, h, fun w _ _ _ _ _ => by simp [execOp, ev_evalV E ha, Op.unary, Op.intArith, AV.conc]⟩
    · exact h.elim
  | convert s d x =>
    obtain ⟨va, hx, h⟩ := onV_some h
    obtain ⟨si, hs, h⟩ := onTI_some h
    obtain ⟨di, hd, h⟩ := onTI_some h
    split at h
    · rename_i k m kk n hkn hz _ _
      obtain ⟨d1, hd1, hag1, hk1⟩ := (hT s si hs).desc
      obtain ⟨d2, hd2, hag2, hk2⟩ := (hT d di hd).desc
      rw [hkn, hz] at hk2
      cases (hk2 : d2 = .int k)
      refine ⟨_, h, fun w _ _ _ _ _ => ?_⟩
      cases d1 <;> simp [execOp, ev_evalV E hx, AV.conc, convert, run_underlying hd1, run_underlying hd2, Conv.intToInt]
    · exact h.elim
  | fieldAddr t x f =>
    obtain ⟨i, hi, h⟩ := onTI_some h
    split at h
    · rename_i fs hkn
      split at h
      · rename_i fi hfi
        split at h
        · exact h.elim
        · rename_i q hq
          obtain ⟨av, hx, h⟩ := onAV_some h
          obtain ⟨d, hd, hag, hk⟩ := (hT t i hi).desc
          rw [hkn] at hk
          obtain ⟨flds, rfl, hf⟩ := hk
          obtain ⟨g, hg, ho, j, dd, hj, hjs, _⟩ := fieldsOk_get hf hfi
          have hg' : flds[f]? = some g := by simpa using hg
          have hne : j.size ≠ 0 := by rw [hjs, hq]; omega
          split at h
          · exact ⟨_, h, fun w _ _ _ _ _ => by simp [execOp, ev_eval E hx, AV.conc, Instr.fieldAt, run_underlying hd, hg', Instr.sureAddr, fieldPlace, run_sizeOf hj, hne, ho, add_mk]⟩
          · obtain ⟨b, o, rfl, h⟩ := onPtr_some h
            exact ⟨_, h, fun w _ _ _ _ _ => by simp [execOp, ev_eval E hx, AV.conc, Instr.fieldAt, run_underlying hd, hg', Instr.sureAddr, fieldPlace, run_sizeOf hj, hne, ho, add_mk]⟩
          · exact h.elim
      · exact h.elim
    · exact h.elim
  | field t x f =>
    obtain ⟨i, hi, h⟩ := onTI_some h
    split at h
    · rename_i fs hkn
      split at h
      · rename_i fi hfi
        obtain ⟨va, hx, h⟩ := onV_some h
        split at h
        · rename_i cs
          split at h
          · rename_i hle
            obtain ⟨v, hv, h⟩ := mkV_some h
            obtain ⟨d, hd, hag, hk⟩ := (hT t i hi).desc
            rw [hkn] at hk
            obtain ⟨flds, rfl, hf⟩ := hk
            obtain ⟨g, hg, ho, j, dd, hj, hjs, hdd, hagg⟩ := fieldsOk_get hf hfi
            have hg' : flds[f]? = some g := by simpa using hg
            have hp := run_part (P := P) (cs := cs) (off := g.offset) (v := v) hj hdd (by rw [ho, hjs]; exact Nat.le_of_ble_eq_true hle) (by rw [ho, hjs, hagg]; exact hv)
            exact ⟨_, h, fun w _ _ _ _ _ => by simp [execOp, ev_evalV E hx, AV.conc, Instr.field, run_underlying hd, hg', asAgg, hp]⟩
          · exact h.elim
        · exact h.elim
      · exact h.elim
    · exact h.elim
  | indexAddr t x ix =>
    obtain ⟨i, hi, h⟩ := onTI_some h
    obtain ⟨iv, hix, h⟩ := onV_some h
    obtain ⟨d, hd, hag, hk⟩ := (hT t i hi).desc
    split at h
    · rename_i kk j
      split at h
      · rename_i el esz eby hkn
        rw [hkn] at hk
        obtain ⟨rfl, jj, z, hj, hjs, _⟩ := hk
        obtain ⟨va, hx, h⟩ := onV_some h
        split at h
        · rename_i A n c
          obtain ⟨h0, h1, h⟩ := h
          obtain ⟨b, o, rfl, h⟩ := onPtr_some h
          exact ⟨_, h, fun w _ _ _ _ _ => by simp [execOp, ev_evalV E hx, ev_evalV E hix, AV.conc, Instr.indexAt, run_underlying hd, run_asIntOf, h0, h1, run_sizeOf hj, hjs, add_mk]⟩
        · exact h.elim
      · rename_i len esz ag hkn
        rw [hkn] at hk
        obtain ⟨el, jj, du, rfl, hj, hjs, _⟩ := hk
        obtain ⟨av, hx, h⟩ := onAV_some h
        split at h
        · obtain ⟨h0, h1, h⟩ := h
          exact ⟨_, h, fun w _ _ _ _ _ => by simp [execOp, ev_eval E hx, ev_evalV E hix, AV.conc, Instr.indexAt, run_underlying hd, run_asIntOf, h0, h1, run_sizeOf hj, hjs, add_mk, Instr.sureAddr]⟩
        · obtain ⟨h0, h1, h⟩ := h
          obtain ⟨b, o, rfl, h⟩ := onPtr_some h
          exact ⟨_, h, fun w _ _ _ _ _ => by simp [execOp, ev_eval E hx, ev_evalV E hix, AV.conc, Instr.indexAt, run_underlying hd, run_asIntOf, h0, h1, run_sizeOf hj, hjs, add_mk, Instr.sureAddr]⟩
        · exact h.elim
      · exact h.elim
    · exact h.elim
  | index t x ix =>
    obtain ⟨i, hi, h⟩ := onTI_some h
    obtain ⟨iv, hix, h⟩ := onV_some h
    obtain ⟨d, hd, hag, hk⟩ := (hT t i hi).desc
    split at h
    · rename_i kk j
      obtain ⟨va, hx, h⟩ := onV_some h
      split at h
      · rename_i len esz ag cs hkn
        rw [hkn] at hk
        obtain ⟨el, jj, du, rfl, hj, hjs, hdu, hagg⟩ := hk
        obtain ⟨h0, h1, h⟩ := h
        split at h
        · rename_i hl
          have hl' := Nat.eq_of_beq_eq_true hl
          obtain ⟨v, hv, h⟩ := mkV_some h
          have hb : j.toNat * esz + jj.size ≤ cs.toList.length := by
            rw [hl', hjs]
            have h3 : j.toNat + 1 ≤ len := by omega
            have h4 := Nat.mul_le_mul_right esz h3
            rw [Nat.add_mul, Nat.one_mul] at h4
            exact h4
          have hp := run_part (P := P) (cs := cs) (off := j.toNat * jj.size) (v := v) hj hdu (by rw [hjs] at hb ⊢; exact hb) (by rw [hjs, hagg]; exact hv)
          rw [hjs] at hp
          exact ⟨_, h, fun w _ _ _ _ _ => by simp [execOp, ev_evalV E hx, ev_evalV E hix, AV.conc, Instr.index, run_underlying hd, run_asIntOf, h0, h1, run_sizeOf hj, hjs, hp]⟩
        · exact h.elim
      · rename_i s hkn
        rw [hkn] at hk
        cases (hk : d = .string)
        obtain ⟨h0, h1, h⟩ := h
        have hlt : j.toNat < s.size := by omega
        have hget : s[j.toNat]? = some s[j.toNat] := by simp [hlt]
        have hb : bAt s j = ((s[j.toNat]'hlt).toNat : Int) := by
          unfold bAt
          have h5 : j.toNat < s.data.toList.length := by simpa using hlt
          rw [List.getD_eq_getElem?_getD, List.getElem?_eq_getElem h5]
          rfl
        refine ⟨_, h, fun w _ _ _ _ _ => ?_⟩
        rw [hb]
        simp [execOp, ev_evalV E hx, ev_evalV E hix, AV.conc, Instr.index, run_underlying hd, run_asIntOf, h0, hget]
      · exact h.elim
    · exact h.elim
  | slice t x lo hi mx =>
    obtain ⟨i, hi0, h⟩ := onTI_some h
    obtain ⟨va, hx, h⟩ := onV_some h
    obtain ⟨d, hd, hag, hk⟩ := (hT t i hi0).desc
    split at h
    · rename_i a1 a2 a3 l1 l2 l3 e1 e2 e3
      have o1 := opt_some E e1
      have o2 := opt_some E e2
      have o3 := opt_some E e3
      split at h
      · rename_i el esz eby A n c hkn
        rw [hkn] at hk
        obtain ⟨rfl, jj, z, hj, hjs, _⟩ := hk
        obtain ⟨l, hh, m, hr, h⟩ := run_bounds (P := P) h o1 o2 o3 true
        refine ⟨_, h, fun w _ _ _ _ _ => ?_⟩
        simp only [execOp, ev_evalV E hx, AV.conc, Instr.sliceAt, Sem.run_bind, run_underlying hd, Result.andThen_ok, Instr.slice, hr, run_sizeOf hj, Sem.run_pure, hjs]
        rw [cutA_eq]
      · rename_i s hkn
        rw [hkn] at hk
        cases (hk : d = .string)
        split at h
        · rcases o3 with ⟨_, o3⟩ | ⟨_, _, o3, _⟩
          · obtain ⟨l, hh, m, hr, h⟩ := run_bounds (P := P) h o1 o2 (.inl ⟨rfl, rfl⟩) false
            refine ⟨_, h, fun w _ _ _ _ _ => ?_⟩
            simp [execOp, ev_evalV E hx, AV.conc, Instr.sliceAt, run_underlying hd, Instr.slice, o3, hr]
          · cases o3
        · exact h.elim
      · exact h.elim
    · exact h.elim
  | build t ps =>
    obtain ⟨i, hi, h⟩ := onTI_some h
    obtain ⟨vs, hvs, h⟩ := pairVs_some E h
    obtain ⟨d, hd, hag, hk⟩ := (hT t i hi).desc
    obtain ⟨jt, hjt, hjz, hjts⟩ := (hT t i hi).info
    have hps : (ps.map fun (p : Nat × Operand) => (p.1, a.eval p.2)).toList = vs := by rw [Array.toList_map]; exact hvs
    split at h
    · rename_i fs hkn
      rw [hkn] at hk
      obtain ⟨flds, rfl, hf⟩ := hk
      split at h
      · rename_i cs hcs
        have hag' : i.agg = true := hag.symm
        rw [hag'] at hjz
        refine ⟨_, h, fun w _ _ _ _ _ => ?_⟩
        have hm : (flds.mapM fun f => (do pure (f.offset, ← sizeOf f.type) : Sem (Nat × Nat))).run P w = .ok (fs.map fun x => (x.1, x.2.1)).toArray w := by
          rw [Array.mapM_eq_mapM_toList, Sem.run_map, run_mapM hf]
          rfl
        have hfill := run_fill (fs := fs) (places := fun k => ((fs.map fun x => (x.1, x.2.1)).toArray)[k]?) (fun k f hkf => by simp [hkf]) hcs
        simp only [execOp, AV.conc, Instr.build, Sem.run_bind, run_zeroValue hjt hjz, Result.andThen_ok, run_underlying hd, hm, hps, Value.cells, hfill, Sem.run_pure]
      · exact h.elim
    · rename_i len esz ag hkn
      rw [hkn] at hk
      obtain ⟨el, jj, du, rfl, hj, hjs, _⟩ := hk
      split at h
      · rename_i cs hcs
        have hag' : i.agg = true := hag.symm
        rw [hag'] at hjz
        refine ⟨_, h, fun w _ _ _ _ _ => ?_⟩
        have hfill := run_fillA hcs
        simp only [execOp, AV.conc, Instr.build, Sem.run_bind, run_zeroValue hjt hjz, Result.andThen_ok, run_underlying hd, run_sizeOf hj, hjs, hps, Value.cells, hfill, Sem.run_pure]
      · exact h.elim
    · exact h.elim
  | extract x ix =>
    obtain ⟨va, hx, h⟩ := onV_some h
    split at h
    · rename_i vs
      split at h
      · rename_i v hv
        have hv' : vs[ix]? = some v := by simpa using hv
        exact ⟨_, h, fun w _ _ _ _ _ => by simp [execOp, ev_evalV E hx, AV.conc, Instr.extract, hv']⟩
      · exact h.elim
    · exact h.elim
  | makeFunc fn first cap =>
    obtain ⟨vs, hvs, h⟩ := withVs_some E h
    obtain ⟨us, hus, h⟩ := withVs_some E h
    refine ⟨_, h, fun w _ _ _ _ _ => ?_⟩
    have h1 : first.map a.eval = vs.toArray := by apply Array.ext'; rw [Array.toList_map]; exact hvs
    have h2 : cap.map a.eval = us.toArray := by apply Array.ext'; rw [Array.toList_map]; exact hus
    simp [execOp, AV.conc, Instr.makeFunc, h1, h2]
  | _ => exact h.elim
end
end Go.Proofs.YtmelbipidffmpaaGreatDoor.Hw

/- Each operation of the evaluator is sound: what it says of heap and slots holds of the machine. -/
set_option linter.unusedVariables false
set_option linter.unusedSimpArgs false
namespace Go.Proofs.YtmelbipidffmpaaGreatDoor.Hw
open Go

/-- The machine's slots and heap are those that the evaluator speaks of. H0, w0: where the call began. -/
structure Sim (D : Bool) (n : Nat) (H0 : Hp) (w0 : World) (β : Nat → Nat) (e : Env) (V : VSt) (H : Hp) (a : Act) (w : World) : Prop where
  size : a.tmps.size = n
  env : EnvOk β e a
  box : ∀ k x, V k = some x → (∃ ty, w.heap[β k]? = some (.cells x.2.toArray ty (0, 0))) ∧ H (β k) = none ∧ w0.heap.size ≤ β k
  inj : ∀ k k', V k ≠ none → V k' ≠ none → β k = β k' → k = k'
  has : Has w H
  defers : a.defers = []
  fr : Fr D H0 w0 w
  new : New H0 w0 H

theorem upd_same {α : Type} (t : Nat) (a : α) (e : Nat → Option α) : upd t a e t = some a := by simp [upd]
theorem upd_other {α : Type} {t x : Nat} (h : x ≠ t) (a : α) (e : Nat → Option α) : upd t a e x = e x := by
  have : Nat.beq x t = false := by
    cases hb : Nat.beq x t with
    | false => rfl
    | true => exact absurd (Nat.eq_of_beq_eq_true hb) h
  simp [upd, this]
theorem del_some {α : Type} {t x : Nat} {e : Nat → Option α} {a : α} (h : del t e x = some a) : x ≠ t ∧ e x = some a := by
  unfold del at h
  cases hb : Nat.beq x t with
  | true => rw [hb] at h; cases h
  | false => rw [hb] at h; exact ⟨fun hx => by subst hx; simp at hb, h⟩
theorem upd_some {α : Type} {t x : Nat} {a b : α} {e : Nat → Option α} (h : upd t a e x = some b) : (x = t ∧ a = b) ∨ (x ≠ t ∧ e x = some b) := by
  by_cases hx : x = t
  · subst hx; rw [upd_same] at h; exact .inl ⟨rfl, Option.some.inj h⟩
  · rw [upd_other hx] at h; exact .inr ⟨hx, h⟩
theorem forget_some {k x : Nat} {e : Env} {av : AV} (h : forget k e x = some av) : e x = some av ∧ ∀ o, av ≠ .loc k o := by
  unfold forget at h
  split at h
  · rename_i k' o he
    split at h
    · cases h
    · rename_i hb
      cases h
      refine ⟨he, fun o' => ?_⟩
      rintro h'
      cases h'
      simp at hb
  · rename_i hno
    refine ⟨h, ?_⟩
    rintro o rfl
    exact hno _ _ h

section
variable {D : Bool} {n : Nat} {H0 : Hp} {w0 : World} {β : Nat → Nat} {e : Env} {V : VSt} {H : Hp} {a : Act} {w : World}
theorem put_size (a : Act) (d : Option Tmp) (v : Value) : (a.put d v).tmps.size = a.tmps.size := by cases d <;> simp [Act.put]
theorem put_defers (a : Act) (d : Option Tmp) (v : Value) : (a.put d v).defers = a.defers := by cases d <;> rfl
theorem put_getD_ne (a : Act) {d t : Nat} (h : t ≠ d) (v : Value) : (a.put (some d) v).tmps.getD t undef = a.tmps.getD t undef := by
  simp [Act.put, Array.getElem?_setIfInBounds_ne (Ne.symm h)]
theorem put_getD_eq (a : Act) {d : Nat} (h : d < a.tmps.size) (v : Value) : (a.put (some d) v).tmps.getD d undef = v := by
  simp [Act.put, h]
theorem fin_env (E : EnvOk β e a) (hs : a.tmps.size = n) (d : Option Tmp) {v : Value} {av : AV} (hv : av.conc β = v) : EnvOk β (fin n d (some av) e) (a.put d v) := by
  intro t b ht
  cases d with
  | none => exact E t b ht
  | some d =>
    cases hb : Nat.blt d n with
    | true =>
      simp only [fin, hb] at ht
      rcases upd_some ht with ⟨rfl, rfl⟩ | ⟨hne, ht⟩
      · rw [put_getD_eq a (by rw [hs]; exact Nat.le_of_ble_eq_true hb), hv]
      · rw [put_getD_ne a hne]; exact E t b ht
    | false =>
      simp only [fin, hb] at ht
      obtain ⟨hne, ht⟩ := del_some ht
      rw [put_getD_ne a hne]; exact E t b ht
theorem fin_none (E : EnvOk β e a) (d : Option Tmp) (v : Value) : EnvOk β (fin n d none e) (a.put d v) := by
  intro t b ht
  cases d with
  | none => exact E t b ht
  | some d =>
    unfold fin at ht
    simp only at ht
    obtain ⟨hne, ht⟩ := del_some ht
    rw [put_getD_ne a hne]
    exact E t b ht
theorem Sim.put (S : Sim D n H0 w0 β e V H a w) (d : Option Tmp) {v : Value} {av : AV} (hv : av.conc β = v) : Sim D n H0 w0 β (fin n d (some av) e) V H (a.put d v) w :=
  { S with size := (put_size a d v).trans S.size, env := fin_env S.env S.size d hv, defers := (put_defers a d v).trans S.defers }
theorem Sim.putN (S : Sim D n H0 w0 β e V H a w) (d : Option Tmp) (v : Value) : Sim D n H0 w0 β (fin n d none e) V H (a.put d v) w :=
  { S with size := (put_size a d v).trans S.size, env := fin_none S.env d v, defers := (put_defers a d v).trans S.defers }
theorem has_cell (h : Has w H) {b o : Nat} {v : Value} (hc : cl H b o = some v) : w.cell? ⟨b, o, none⟩ = some v := by
  unfold cl at hc
  split at hc
  · rename_i c ty fr hb
    simp [World.cell?, h b _ hb, hc]
  · cases hc
theorem cl_of (w : World) {b o : Nat} {cs : List Value} {ty : Nat} (h : w.heap[b]? = some (.cells cs.toArray ty (0, 0))) : w.cell? ⟨b, o, none⟩ = cs[o]? := by
  simp [World.cell?, h]
theorem frz_of (w : World) {b o : Nat} {cs : Array Value} {ty : Nat} (h : w.heap[b]? = some (.cells cs ty (0, 0))) : w.frozen? ⟨b, o, none⟩ = false := by
  simp [World.frozen?, h]
/-- A step that turns what the evaluator knows of, and makes what is new. -/
theorem Sim.stepD (S : Sim D n H0 w0 β e V H a w) {w' : World} {H' : Hp} (hh : Has w' H') (hf : Fr D H w w') (hn : New H w H') : Sim D n H0 w0 β e V H' a w' := by
  refine { S with has := hh, box := fun k x hk => ?_, fr := ?_, new := ?_ }
  · obtain ⟨⟨ty, h1⟩, h2, h3⟩ := S.box k x hk
    have hlt : β k < w.heap.size := (Array.getElem?_eq_some_iff.1 h1).1
    refine ⟨⟨ty, (hf.2.2.2.2.1 _ hlt h2).trans h1⟩, ?_, h3⟩
    cases hb : H' (β k) with
    | none => rfl
    | some o =>
      rcases hn (β k) (by rw [hb]; simp) with h4 | h4
      · exact absurd h2 h4
      · omega
  · obtain ⟨a1, a2, a3, a4, a5, a6⟩ := S.fr
    obtain ⟨b1, b2, b3, b4, b5, b6⟩ := hf
    refine ⟨b1.trans a1, b2.trans a2, b3.trans a3, Nat.le_trans a4 b4, fun b hb h0 => ?_, fun h => Nat.le_trans (a6 h) (b6 h)⟩
    have hnone : H b = none := by
      cases hb' : H b with
      | none => rfl
      | some o =>
        rcases S.new b (by rw [hb']; simp) with h4 | h4
        · exact absurd h0 h4
        · omega
    exact (b5 b (Nat.lt_of_lt_of_le hb a4) hnone).trans (a5 b hb h0)
  · intro b hb
    have h4 := S.fr.2.2.2.1
    rcases hn b hb with h | h
    · exact S.new b h
    · exact .inr (Nat.le_trans h4 h)
theorem Fr.weak {w' : World} (h : Fr true H w w') : Fr D H w w' := ⟨h.1, h.2.1, h.2.2.1, h.2.2.2.1, h.2.2.2.2.1, fun _ => h.2.2.2.2.2 rfl⟩
theorem Sim.step (S : Sim D n H0 w0 β e V H a w) {w' : World} {H' : Hp} (hh : Has w' H') (hf : Fr true H w w') (hn : New H w H') : Sim D n H0 w0 β e V H' a w' := S.stepD hh hf.weak hn
theorem has_lt (h : Has w H) {b : Nat} {o : Obj} (hb : H b = some o) : b < w.heap.size := (Array.getElem?_eq_some_iff.1 (h b o hb)).1
theorem has_none (h : Has w H) {b : Nat} (hb : w.heap.size ≤ b) : H b = none := by
  cases hh : H b with
  | none => rfl
  | some o => have := has_lt h hh; omega
theorem step_set (h : Has w H) {b : Nat} {cs cs' : Array Value} {ty : Nat} (hb : H b = some (.cells cs ty (0, 0))) :
    Has (w.setRow b cs') (upd b (.cells cs' ty (0, 0)) H) ∧ Fr true H w (w.setRow b cs') ∧ New H w (upd b (.cells cs' ty (0, 0)) H) := by
  refine ⟨fun x o hx => ?_, ⟨rfl, rfl, rfl, by simp, fun x hx hn => setRow_other _ _ _ _ (fun e => by subst e; rw [hb] at hn; cases hn), fun _ => Nat.le_refl _⟩, fun x hx => ?_⟩
  · rcases upd_some hx with ⟨rfl, rfl⟩ | ⟨hne, hx⟩
    · exact setRow_heap w x cs cs' ty _ (h x _ hb)
    · rw [setRow_other _ _ _ _ hne]; exact h x o hx
  · by_cases hxb : x = b
    · subst hxb; left; rw [hb]; simp
    · rw [upd_other hxb] at hx; exact .inl hx
theorem step_new (h : Has w H) (o : Obj) : Has (w.alloc o) (upd w.heap.size o H) ∧ Fr true H w (w.alloc o) ∧ New H w (upd w.heap.size o H) := by
  refine ⟨fun x p hx => ?_, ⟨rfl, rfl, rfl, by simp, fun x hx _ => heap_alloc_old w o hx, fun _ => Nat.le_refl _⟩, fun x hx => ?_⟩
  · rcases upd_some hx with ⟨rfl, rfl⟩ | ⟨hne, hx⟩
    · exact heap_alloc_new w _
    · rw [heap_alloc_old w o (has_lt h hx)]; exact h x p hx
  · by_cases hxb : x = w.heap.size
    · subst hxb; exact .inr (Nat.le_refl _)
    · rw [upd_other hxb] at hx; exact .inl hx
theorem step_drew_new (h : Has w H) (o : Obj) : Has (w.drew.alloc o) (upd w.heap.size o H) ∧ Fr true H w (w.drew.alloc o) ∧ New H w (upd w.heap.size o H) := by
  obtain ⟨h1, ⟨a1, a2, a3, a4, a5, a6⟩, h3⟩ := step_new (w := w.drew) h o
  exact ⟨h1, ⟨a1, a2, a3, a4, a5, fun h => Nat.le_trans (Nat.le_succ _) (a6 h)⟩, h3⟩

theorem one1_eq (v : Value) : v.oneCell' = one1 v := by cases v <;> rfl
theorem allOne_mem : ∀ {l : List Value}, allOne l = true → ∀ v ∈ l, v.oneCell' = true
  | [], _, v, hv => by simp at hv
  | x :: r, h, v, hv => by
    simp only [allOne] at h
    cases hx : one1 x with
    | false => rw [hx] at h; cases h
    | true =>
      rw [hx] at h
      rcases List.mem_cons.1 hv with rfl | hv
      · rw [one1_eq, hx]
      · exact allOne_mem h v hv
theorem leafE_some {z : Value} {K : Value → Prop} (h : leafE z K) : ∃ v, K v := by
  unfold leafE at h
  split at h
  all_goals first
    | (obtain ⟨x, h⟩ := h; exact ⟨_, h⟩)
    | (obtain ⟨x, y, z, h⟩ := h; exact ⟨_, h⟩)
theorem leafEs_some : ∀ {zs : List Value} {K : List Value → Prop}, leafEs zs K → ∃ vs, K vs
  | [], K, h => ⟨_, h⟩
  | z :: r, K, h => by
    obtain ⟨v, h⟩ := leafE_some h
    obtain ⟨vs, h⟩ := leafEs_some h
    exact ⟨_, h⟩
theorem loadL_some : ∀ {zs : List Value} {b o : Nat} {K : List Value → Prop}, loadL zs H b o K → ∃ vs : List Value, vs.length = zs.length ∧ (∀ j v, vs[j]? = some v → cl H b (o + j) = some v) ∧ K vs
  | [], b, o, K, h => ⟨[], rfl, fun j v hj => by simp at hj, h⟩
  | z :: r, b, o, K, h => by
    obtain ⟨v, hv, h⟩ := leafE_some h
    obtain ⟨vs, hl, hc, h⟩ := loadL_some h
    refine ⟨v :: vs, by simp [hl], fun j u hj => ?_, h⟩
    cases j with
    | zero => simp at hj; subst hj; exact hv
    | succ j => rw [show o + (j + 1) = o + 1 + j by omega]; exact hc j u (by simpa using hj)

section
variable {P : Program}
theorem run_loadVar_ok {t : Nat} {i : TI} (hi : TiOk P t i) {b o : Nat} {vs : List Value} (hl : vs.length = i.zs.length) (hc : ∀ j v, vs[j]? = some v → w.cell? ⟨b, o + j, none⟩ = some v) {v : Value}
    (hv : (i.agg = true ∧ v = .agg vs.toArray) ∨ (i.agg = false ∧ vs = [v])) : (loadVar t ⟨b, o, none⟩).run P w = .ok v w := by
  obtain ⟨d, hd, hag, _⟩ := hi.desc
  obtain ⟨j, hj, hjz, hjs⟩ := hi.info
  unfold loadVar
  simp only [Sem.run_bind, run_isAgg hd, Result.andThen_ok, hag]
  rcases hv with ⟨h1, rfl⟩ | ⟨h1, rfl⟩
  · simp only [h1, if_true, Sem.run_bind, run_sizeOf hj, Result.andThen_ok]
    have := run_loadCells_list (P := P) w ⟨b, o, none⟩ vs (fun j v hv => by rw [add_mk]; exact hc j v hv)
    rw [hjs, ← hl, this]
    rfl
  · have h2 := hc 0 v rfl
    simp only [Nat.add_zero] at h2
    simp [h1, h2]
theorem run_storeVar_ok {t : Nat} {i : TI} (hi : TiOk P t i) {b o : Nat} {cs : List Value} {ty : Nat} (hb : w.heap[b]? = some (.cells cs.toArray ty (0, 0))) {v : Value} (hl : (cellsL v).length = i.zs.length)
    (h1 : allOne (cellsL v) = true) (hfit : o + (cellsL v).length ≤ cs.length) : (storeVar t ⟨b, o, none⟩ v).run P w = .ok () (w.setRow b (setR cs o (cellsL v)).toArray) := by
  obtain ⟨j, hj, hjz, hjs⟩ := hi.info
  have hsz : v.cells.size = j.size := by rw [cellsL_eq, hjs]; simpa using hl
  have hst := run_storeCells_at (P := P) b o ty (cellsL v) 0 cs.toArray w hb (by simpa using hfit) (allOne_mem h1)
  have hcl : v.cells.toList = cellsL v := by rw [cellsL_eq]
  unfold storeVar
  simp only [Sem.run_bind, run_sizeOf hj, Result.andThen_ok, hsz, ne_eq, not_true, if_false, Sem.run_pure]
  simp only [hcl, hst]
  simp [setR]
end
end
end Go.Proofs.YtmelbipidffmpaaGreatDoor.Hw

/- What the machine does with maps whose keys are whole numbers. -/
set_option linter.unusedVariables false
set_option linter.unusedSimpArgs false
namespace Go.Proofs.YtmelbipidffmpaaGreatDoor.Hw
open Go
open Go.ChangeMaps (setBlock)
section
variable {P : Program} {w : World} {H : Hp}
theorem blk_at {b : Nat} {o : Obj} (hb : w.heap[b]? = some o) (o' : Obj) (x : Nat) : (setBlock w b o').heap[x]? = if x = b then some o' else w.heap[x]? := by
  unfold setBlock
  have hlt : b < w.heap.size := (Array.getElem?_eq_some_iff.1 hb).1
  simp only [Array.getElem?_setIfInBounds]
  by_cases h : x = b
  · subst h; simp [hlt]
  · rw [if_neg (fun e => h e.symm), if_neg h]
theorem step_obj (h : Has w H) {b : Nat} {o : Obj} (hb : H b = some o) (o' : Obj) : Has (setBlock w b o') (upd b o' H) ∧ Fr true H w (setBlock w b o') ∧ New H w (upd b o' H) := by
  have hw := h b o hb
  refine ⟨fun x p hx => ?_, ⟨rfl, rfl, rfl, by simp [setBlock], fun x hx hn => ?_, fun _ => Nat.le_refl _⟩, fun x hx => ?_⟩
  · rw [blk_at hw]
    rcases upd_some hx with ⟨rfl, rfl⟩ | ⟨hne, hx⟩
    · rw [if_pos rfl]
    · rw [if_neg hne]; exact h x p hx
  · rw [blk_at hw, if_neg (fun e => by subst e; rw [hb] at hn; cases hn)]
  · by_cases hxb : x = b
    · subst hxb; left; rw [hb]; simp
    · rw [upd_other hxb] at hx; exact .inl hx
theorem step_drew_obj (h : Has w H) {b : Nat} {o : Obj} (hb : H b = some o) (o' : Obj) : Has (setBlock w.drew b o') (upd b o' H) ∧ Fr true H w (setBlock w.drew b o') ∧ New H w (upd b o' H) := by
  obtain ⟨h1, ⟨a1, a2, a3, a4, a5, a6⟩, h3⟩ := step_obj (w := w.drew) h hb o'
  exact ⟨h1, ⟨a1, a2, a3, a4, a5, fun h => Nat.le_trans (Nat.le_succ _) (a6 h)⟩, h3⟩
theorem findNow_int {k : IntKind} {x : Int} : ∀ {es : List MapEntry} {i : Nat}, intKeys k es → Instr.findNow (.int k) (.int k x) es i = some ((es.findIdx? (isKey x)).map fun j => (i + j, (es[j]?.map (·.val)).getD undef))
  | [], i, _ => rfl
  | e :: r, i, h => by
    obtain ⟨y, hy⟩ := h e List.mem_cons_self
    have ih := findNow_int (x := x) (es := r) (i := i + 1) (fun e he => h e (List.mem_cons_of_mem _ he))
    unfold Instr.findNow
    rw [List.findIdx?_cons]
    have hs : Instr.sameNow (.int k) (.int k x) e.key = some (x == y) := by rw [hy]; simp [Instr.sameNow]
    have hi : isKey x e = (x == y) := by unfold isKey; rw [hy]; rfl
    rw [hs, hi]
    cases x == y with
    | true => simp
    | false =>
      simp only [Bool.false_eq_true, if_false]
      rw [ih, Option.map_map]
      congr 2
      funext j
      simp only [Function.comp, Prod.mk.injEq, List.getElem?_cons_succ, and_true]
      omega
theorem run_findKey {kt : TypeId} {k : IntKind} {x : Int} {es : List MapEntry} (hk : P.underlying kt = some (.int k)) (h : intKeys k es) :
    (Instr.findKey kt (.int k x) es).run P w = .ok ((es.findIdx? (isKey x)).map fun j => (j, (es[j]?.map (·.val)).getD undef)) w := by
  unfold Instr.findKey
  simp only [Sem.run_bind, run_underlying hk, Result.andThen_ok, findNow_int (x := x) h (i := 0), Nat.zero_add, Sem.run_pure]
theorem run_checkKey {kt : TypeId} {k : IntKind} {x : Int} {b : Bool} (hk : P.underlying kt = some (.int k)) : (Instr.checkKey b 10000 kt (.int k x)).run P w = .ok () w := by
  show (Instr.checkKey b (9999 + 1) kt (.int k x)).run P w = .ok () w
  unfold Instr.checkKey
  simp only [Sem.run_bind, run_underlying hk, Result.andThen_ok, Sem.run_pure]
theorem run_getMap {b : Nat} {es : Array MapEntry} {clock : Nat} (hb : w.heap[b]? = some (.map es clock)) : (getObj b).run P w = .ok (.map es clock) w := by
  simp [getObj, Sem.run, hb]
theorem run_setMap {b : Nat} {es : Array MapEntry} {clock : Nat} (hb : w.heap[b]? = some (.map es clock)) (o' : Obj) : (setObj b o').run P w = .ok () (setBlock w b o') := by
  simp [setObj, Sem.run, hb, setBlock]
theorem find_idx {x : Int} : ∀ {es : List MapEntry}, findE x es = (es.findIdx? (isKey x)).map fun j => (es[j]?.map (·.val)).getD undef
  | [] => rfl
  | e :: r => by
    have ih := find_idx (x := x) (es := r)
    unfold findE at ih ⊢
    rw [List.find?_cons, List.findIdx?_cons]
    cases isKey x e with
    | true => simp
    | false =>
      simp only [Bool.false_eq_true, if_false]
      rw [ih, Option.map_map]
      congr 1
theorem run_lookup {t kt vt : TypeId} {k : IntKind} {x : Int} {z : Value} {ok : Bool} (ht : P.underlying t = some (.map kt vt)) (hk : P.underlying kt = some (.int k)) (hz : (zeroValue vt).run P w = .ok z w)
    {b : Nat} {es : Array MapEntry} {clock : Nat} (hb : w.heap[b]? = some (.map es clock)) (h : intKeys k es.toList) :
    (Instr.lookup t (.map (some b)) (.int k x) ok).run P w = .ok (if ok then .tuple #[(findE x es.toList).getD z, .bool (findE x es.toList).isSome] else (findE x es.toList).getD z) w := by
  unfold Instr.lookup
  simp only [Sem.run_bind, run_underlying ht, Result.andThen_ok, run_getMap hb, Sem.run_pure, run_checkKey hk, run_findKey hk h]
  rw [find_idx]
  cases es.toList.findIdx? (isKey x) with
  | none => simp [hz]
  | some j => simp
theorem run_lookup_nil {t kt vt : TypeId} {k : IntKind} {x : Int} {z : Value} {ok : Bool} (ht : P.underlying t = some (.map kt vt)) (hk : P.underlying kt = some (.int k)) (hz : (zeroValue vt).run P w = .ok z w) :
    (Instr.lookup t (.map none) (.int k x) ok).run P w = .ok (if ok then .tuple #[z, .bool false] else z) w := by
  unfold Instr.lookup
  have h : intKeys k (#[] : Array MapEntry).toList := fun e he => by cases he
  simp only [Sem.run_bind, run_underlying ht, Result.andThen_ok, Sem.run_pure, run_checkKey hk, run_findKey hk h]
  simp [hz]
theorem findIdx_key {k : IntKind} {x : Int} {es : List MapEntry} {j : Nat} (h : intKeys k es) (hj : es.findIdx? (isKey x) = some j) : ∃ e, es[j]? = some e ∧ e.key = .int k x := by
  rw [List.findIdx?_eq_some_iff_getElem] at hj
  obtain ⟨hlt, hp, _⟩ := hj
  refine ⟨_, List.getElem?_eq_getElem hlt, ?_⟩
  obtain ⟨y, hy⟩ := h _ (List.getElem_mem hlt)
  unfold isKey at hp
  rw [hy] at hp
  rw [hy, of_decide_eq_true hp]
theorem run_mapUpdate {t kt vt : TypeId} {k : IntKind} {x : Int} {v : Value} (ht : P.underlying t = some (.map kt vt)) (hk : P.underlying kt = some (.int k))
    {b : Nat} {es : Array MapEntry} {clock : Nat} (hb : w.heap[b]? = some (.map es clock)) (h : intKeys k es.toList) :
    (Instr.mapUpdate t (.map (some b)) (.int k x) v).run P w = .ok () (setBlock w b (putE k x v es clock)) := by
  unfold Instr.mapUpdate putE
  simp only [Sem.run_bind, run_underlying ht, Result.andThen_ok, run_getMap hb, run_checkKey hk, run_findKey hk h]
  cases hj : es.toList.findIdx? (isKey x) with
  | none => simp only [Option.map_none, run_setMap hb]
  | some j =>
    obtain ⟨e, he, hkey⟩ := findIdx_key h hj
    have he' : es[j]? = some e := by rw [← Array.getElem?_toList]; exact he
    have hstay : (Instr.keyThatStays (.int k x) (.int k x)).run P w = .ok (.int k x) w := by
      unfold Instr.keyThatStays
      have : Instr.sameBits 10000 (.int k x) (.int k x) = true := by
        show Instr.sameBits (9999 + 1) (.int k x) (.int k x) = true
        unfold Instr.sameBits
        simp
      rw [if_pos this]; rfl
    simp only [Option.map_some, he', Option.getD_some, hkey, Sem.run_bind, hstay, Result.andThen_ok, run_setMap hb]
theorem run_delete {t kt vt ty : TypeId} {us : List TypeId} {k : IntKind} {x : Int} (ht : P.underlying t = some (.map kt vt)) (hk : P.underlying kt = some (.int k))
    {b : Nat} {es : Array MapEntry} {clock : Nat} (hb : w.heap[b]? = some (.map es clock)) (h : intKeys k es.toList) :
    (Builtin.delete_ (t :: us).toArray ty #[.map (some b), .int k x]).run P w = .ok (.tuple #[]) (setBlock w b (delE x es clock)) := by
  unfold Builtin.delete_ delE
  simp only [List.getElem?_toArray, List.getElem?_cons_zero, List.getElem?_cons_succ, Sem.run_bind, run_underlying ht, Result.andThen_ok, run_getMap hb, run_checkKey hk, run_findKey hk h]
  cases hj : es.toList.findIdx? (isKey x) with
  | none => simp only [Option.map_none, run_setMap hb, Sem.run_bind, Result.andThen_ok, Sem.run_pure]
  | some j => simp only [Option.map_some, run_setMap hb, Sem.run_bind, Result.andThen_ok, Sem.run_pure]
/-! Pairs of whole numbers as keys. -/
theorem run_eq_key2 {kt el n : TypeId} {zs : List Value} {a1 a2 : Int} {x y a b : Int} (hok : eqOk P kt zs = true) (hzs : zs = [.int .i64 a1, .int .i64 a2]) (hu : P.underlying kt = some (.array n el)) :
    n = 2 ∧ (∃ j, P.info? el = some j ∧ j.size = 1) ∧ P.underlying el = some (.int .i64) ∧ ∀ w, (Op.equal kt (key2 x y) (key2 a b)).run P w = .ok (decide (x = a) && decide (y = b)) w := by
  unfold eqOk at hok
  rw [hu] at hok
  simp only [Bool.and_eq_true, Bool.not_eq_true'] at hok
  obtain ⟨⟨h1, h2⟩, h3⟩ := hok
  unfold chkArr at h1
  simp only [Bool.and_eq_true] at h1
  obtain ⟨hn, h1⟩ := h1
  split at h1
  · rename_i k j he hj
    simp only [Bool.and_eq_true, List.all_eq_true] at h1
    obtain ⟨hs, hz⟩ := h1
    have hs := Nat.eq_of_beq_eq_true hs
    have hn := Nat.eq_of_beq_eq_true hn
    subst hzs
    have hk : k = .i64 := by
      have := hz (.int .i64 a1) (by simp)
      exact sameK_eq this
    subst hk
    refine ⟨hn, ⟨j, hj, hs⟩, he, fun w => ?_⟩
    have h1c : P.cellsOf el = 1 := by unfold Program.cellsOf; rw [hj]; exact hs
    show (Op.equalIn (9999 + 1) kt (.agg _) (.agg _)).run P w = _
    rw [run_equalIn_array (P := P) w 9999 _ _ hu hj, h1c, hn, List.range_eq_range']
    refine run_eqItems (d := 9998) (zs := [.int .i64 a1, .int .i64 a2]) (off := 0) he hj hs (fun z hm => ?_) ?_
    · rcases List.mem_cons.1 hm with rfl | hm
      · exact ⟨_, rfl⟩
      · obtain rfl := List.mem_singleton.1 hm
        exact ⟨_, rfl⟩
    · have e1 : (x == a) = decide (x = a) := rfl
      have e2 : (y == b) = decide (y = b) := rfl
      show eqLs [.int .i64 a1, .int .i64 a2] [.int .i64 x, .int .i64 y] [.int .i64 a, .int .i64 b] = _
      have hs : sameK .i64 .i64 = true := rfl
      simp only [eqLs, eq1F, hs, e1, e2, Bool.and_true]
  · cases h1
theorem run_checkKey2 {kt el : TypeId} {j : TypeInfo} {x y : Int} {b : Bool} (hu : P.underlying kt = some (.array 2 el)) (hj : P.info? el = some j) (hs : j.size = 1) (he : P.underlying el = some (.int .i64)) : (Instr.checkKey b 10000 kt (key2 x y)).run P w = .ok () w := by
  have hp : ∀ (i : Nat) v w, [Value.int .i64 x, .int .i64 y][i]? = some v → (part el #[.int .i64 x, .int .i64 y] (i * j.size)).run P w = .ok v w := fun i v w hv =>
    run_part hj he (by rw [hs]; have := (List.getElem?_eq_some_iff.1 hv).1; simp at this ⊢; omega) (.inr ⟨rfl, by
      rw [hs, Nat.mul_one]
      obtain ⟨hi, hv⟩ := List.getElem?_eq_some_iff.1 hv
      show ([Value.int .i64 x, .int .i64 y].drop i).take 1 = [v]
      rw [List.drop_eq_getElem_cons hi, hv]; rfl⟩) w
  have hc : ∀ (v : Int) w, (Instr.checkKey b 9999 el (.int .i64 v)).run P w = .ok () w := fun v w => by
    show (Instr.checkKey b (9998 + 1) el (.int .i64 v)).run P w = .ok () w
    unfold Instr.checkKey
    simp only [Sem.run_bind, run_underlying he, Result.andThen_ok, Sem.run_pure]
  show (Instr.checkKey b (9999 + 1) kt (.agg _)).run P w = .ok () w
  unfold Instr.checkKey
  simp only [Sem.run_bind, run_underlying hu, Result.andThen_ok, Std.Legacy.Range.forIn_eq_forIn_range', Std.Legacy.Range.size, Nat.sub_zero, Nat.add_one_sub_one, Nat.div_one]
  rw [show List.range' 0 2 = [0, 1] from rfl]
  simp only [List.forIn_cons, List.forIn_nil, Sem.run_bind, run_sizeOf hj, Result.andThen_ok, hp 0 _ _ rfl, hp 1 _ _ rfl, hc, Sem.run_pure]
theorem run_findAsking2 {kt : TypeId} {x y : Int} (hq : ∀ (a b : Int) w, (Op.equal kt (key2 x y) (key2 a b)).run P w = .ok (decide (x = a) && decide (y = b)) w) : ∀ {es : List MapEntry} {i : Nat}, pairKeys es →
    (Instr.findAsking kt (key2 x y) es i).run P w = .ok ((es.findIdx? (isKey2 x y)).map fun j => (i + j, (es[j]?.map (·.val)).getD undef)) w
  | [], i, _ => rfl
  | e :: r, i, h => by
    obtain ⟨a, b, hk⟩ := h e List.mem_cons_self
    have ih := run_findAsking2 hq (es := r) (i := i + 1) (fun e he => h e (List.mem_cons_of_mem _ he))
    unfold Instr.findAsking
    rw [List.findIdx?_cons]
    have hi : isKey2 x y e = (decide (x = a) && decide (y = b)) := by unfold isKey2; rw [hk]; rfl
    rw [hk, hi]
    simp only [Sem.run_bind, hq, Result.andThen_ok]
    cases decide (x = a) && decide (y = b) with
    | true => simp
    | false =>
      simp only [Bool.false_eq_true, if_false]
      rw [ih, Option.map_map]
      congr 2
      funext j
      simp only [Function.comp, Prod.mk.injEq, List.getElem?_cons_succ, and_true]
      omega
theorem run_findKey2 {kt el : TypeId} {n : Nat} {x y : Int} {es : List MapEntry} (hu : P.underlying kt = some (.array n el)) (hq : ∀ (a b : Int) w, (Op.equal kt (key2 x y) (key2 a b)).run P w = .ok (decide (x = a) && decide (y = b)) w) (h : pairKeys es) :
    (Instr.findKey kt (key2 x y) es).run P w = .ok ((es.findIdx? (isKey2 x y)).map fun j => (j, (es[j]?.map (·.val)).getD undef)) w := by
  unfold Instr.findKey
  simp only [Sem.run_bind, run_underlying hu, Result.andThen_ok]
  cases es with
  | nil => rfl
  | cons e r =>
    have hn : Instr.findNow (.array n el) (key2 x y) (e :: r) 0 = none := by
      unfold Instr.findNow
      have : Instr.sameNow (.array n el) (key2 x y) e.key = none := by unfold Instr.sameNow; rfl
      rw [this]
    rw [hn]
    simpa using run_findAsking2 (w := w) hq (i := 0) h
theorem find_idx2 {x y : Int} : ∀ {es : List MapEntry}, findE2 x y es = (es.findIdx? (isKey2 x y)).map fun j => (es[j]?.map (·.val)).getD undef
  | [] => rfl
  | e :: r => by
    have ih := find_idx2 (x := x) (y := y) (es := r)
    unfold findE2 at ih ⊢
    rw [List.find?_cons, List.findIdx?_cons]
    cases isKey2 x y e with
    | true => simp
    | false =>
      simp only [Bool.false_eq_true, if_false]
      rw [ih, Option.map_map]
      congr 1
/-- What is known of a type of keys that are pairs of whole numbers. -/
def PairT (P : Program) (kt : TypeId) : Prop := ∃ el j, P.underlying kt = some (.array 2 el) ∧ P.info? el = some j ∧ j.size = 1 ∧ P.underlying el = some (.int .i64) ∧ ∀ (x y a b : Int) w, (Op.equal kt (key2 x y) (key2 a b)).run P w = .ok (decide (x = a) && decide (y = b)) w
theorem run_lookup2 {t kt vt : TypeId} {x y : Int} {z : Value} {ok : Bool} (ht : P.underlying t = some (.map kt vt)) (hk : PairT P kt) (hz : (zeroValue vt).run P w = .ok z w)
    {b : Nat} {es : Array MapEntry} {clock : Nat} (hb : w.heap[b]? = some (.map es clock)) (h : pairKeys es.toList) :
    (Instr.lookup t (.map (some b)) (key2 x y) ok).run P w = .ok (if ok then .tuple #[(findE2 x y es.toList).getD z, .bool (findE2 x y es.toList).isSome] else (findE2 x y es.toList).getD z) w := by
  obtain ⟨el, j, hu, hj, hs, he, hq⟩ := hk
  unfold Instr.lookup
  simp only [Sem.run_bind, run_underlying ht, Result.andThen_ok, run_getMap hb, Sem.run_pure, run_checkKey2 hu hj hs he, run_findKey2 hu (hq x y) h]
  rw [find_idx2]
  cases es.toList.findIdx? (isKey2 x y) with
  | none => simp [hz]
  | some j => simp
theorem run_lookup2_nil {t kt vt : TypeId} {x y : Int} {z : Value} {ok : Bool} (ht : P.underlying t = some (.map kt vt)) (hk : PairT P kt) (hz : (zeroValue vt).run P w = .ok z w) :
    (Instr.lookup t (.map none) (key2 x y) ok).run P w = .ok (if ok then .tuple #[z, .bool false] else z) w := by
  obtain ⟨el, j, hu, hj, hs, he, hq⟩ := hk
  unfold Instr.lookup
  have h : pairKeys (#[] : Array MapEntry).toList := fun e he => by cases he
  simp only [Sem.run_bind, run_underlying ht, Result.andThen_ok, Sem.run_pure, run_checkKey2 hu hj hs he, run_findKey2 hu (hq x y) h]
  simp [hz]
theorem findIdx_key2 {x y : Int} {es : List MapEntry} {j : Nat} (h : pairKeys es) (hj : es.findIdx? (isKey2 x y) = some j) : ∃ e, es[j]? = some e ∧ e.key = key2 x y := by
  rw [List.findIdx?_eq_some_iff_getElem] at hj
  obtain ⟨hlt, hp, _⟩ := hj
  refine ⟨_, List.getElem?_eq_getElem hlt, ?_⟩
  obtain ⟨a, b, hk⟩ := h _ (List.getElem_mem hlt)
  have hi : isKey2 x y es[j] = (decide (x = a) && decide (y = b)) := by unfold isKey2; rw [hk]; rfl
  rw [hi] at hp
  simp only [Bool.and_eq_true, decide_eq_true_eq] at hp
  rw [hk, hp.1, hp.2]
theorem run_mapUpdate2 {t kt vt : TypeId} {x y : Int} {v : Value} (ht : P.underlying t = some (.map kt vt)) (hk : PairT P kt)
    {b : Nat} {es : Array MapEntry} {clock : Nat} (hb : w.heap[b]? = some (.map es clock)) (h : pairKeys es.toList) :
    (Instr.mapUpdate t (.map (some b)) (key2 x y) v).run P w = .ok () (setBlock w b (putE2 x y v es clock)) := by
  obtain ⟨el, j, hu, hj, hs, he, hq⟩ := hk
  unfold Instr.mapUpdate putE2
  simp only [Sem.run_bind, run_underlying ht, Result.andThen_ok, run_getMap hb, run_checkKey2 hu hj hs he, run_findKey2 hu (hq x y) h]
  cases hj : es.toList.findIdx? (isKey2 x y) with
  | none => simp only [Option.map_none, run_setMap hb]
  | some j =>
    obtain ⟨e, he, hkey⟩ := findIdx_key2 h hj
    have he' : es[j]? = some e := by rw [← Array.getElem?_toList]; exact he
    have hstay : (Instr.keyThatStays (key2 x y) (key2 x y)).run P w = .ok (key2 x y) w := by
      unfold Instr.keyThatStays
      have : Instr.sameBits 10000 (key2 x y) (key2 x y) = true := by
        show Instr.sameBits (9999 + 1) (.agg _) (.agg _) = true
        unfold Instr.sameBits
        have hb : ∀ v : Int, Instr.sameBits 9999 (.int .i64 v) (.int .i64 v) = true := fun v => by
          show Instr.sameBits (9998 + 1) (.int .i64 v) (.int .i64 v) = true
          unfold Instr.sameBits
          simp
        simp [hb]
      rw [if_pos this]; rfl
    simp only [Option.map_some, he', Option.getD_some, hkey, Sem.run_bind, hstay, Result.andThen_ok, run_setMap hb]
end
end Go.Proofs.YtmelbipidffmpaaGreatDoor.Hw
