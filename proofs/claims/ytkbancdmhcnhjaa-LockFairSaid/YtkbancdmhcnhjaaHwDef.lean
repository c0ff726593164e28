/- An evaluator of weakest preconditions over heaps; struct variables whose address stays inside a call are kept beside the heap. Definitions alone. -/
import Derived.WalkKit
import Derived.Orders
import Derived.Maps.RangeRun
set_option linter.unusedVariables false
set_option linter.unusedSimpArgs false
namespace Go.Proofs.Ytkbancdmhcnhjaa.Hw
open Go

abbrev Hp := Nat → Option Obj
/-- What a slot holds: a value, or the address of a variable that is kept beside the heap. -/
inductive AV where
  | v (x : Value)
  | loc (k off : Nat)
abbrev Env := Nat → Option AV
abbrev VSt := Nat → Option (Bool × List Value)

def upd {α : Type} (t : Nat) (a : α) (e : Nat → Option α) : Nat → Option α := fun x => match Nat.beq x t with | true => some a | false => e x
def del {α : Type} (t : Nat) (e : Nat → Option α) : Nat → Option α := fun x => match Nat.beq x t with | true => none | false => e x
/-- No slot points to variable k any more. -/
def forget (k : Nat) (e : Env) : Env := fun x => match e x with
  | some (.loc k' o) => (match Nat.beq k' k with | true => none | false => some (.loc k' o))
  | a => a

/-- What is known of a type. -/
inductive Kn where
  | scalar
  | slice (el esz eby : Nat)
  | array (len esz : Nat) (eagg : Bool)
  | struct (fs : List (Nat × Nat × Bool))
  | string
  | map (k v : Nat)
structure TI where
  agg : Bool
  zs : List Value
  kn : Kn
  eqs : Bool := false

structure Sh0 where
  dummy : Unit := ()
/-- The shape of a value in a loop's state. -/
inductive Sh where
  | int (k : IntKind) | bool | str | slice | ptr | map
def Sh.T : Sh → Type
  | .int _ => Int
  | .bool => Bool
  | .str => ByteArray
  | .slice => Option Addr × Nat × Nat
  | .ptr => Option Addr
  | .map => Option Nat
def ShT : List Sh → Type
  | [] => Unit
  | s :: r => s.T × ShT r
def Sh.enc : (s : Sh) → s.T → Value
  | .int k, x => .int k x
  | .bool, x => .bool x
  | .str, x => .string x
  | .slice, x => .slice x.1 x.2.1 x.2.2
  | .ptr, x => .pointer x
  | .map, x => .map x
def encL : (l : List Sh) → ShT l → List Value
  | [], _ => []
  | s :: r, x => s.enc x.1 :: encL r x.2
/-- A loop: the slots that stay, the variables that stay, the slots of the state, the variables of the state. -/
structure LD where
  keep : List Nat
  kb : List Nat
  vals : List (Nat × Sh)
  boxes : List (Nat × List Sh)

/-- The orders of what writes; what only looks comes as soon as it may. -/
inductive OT where
  | done | look (x : Nat) (t : OT) | act (x : Nat) (t u : OT)
def OT.isDone : OT → Bool
  | .done => true
  | _ => false
structure Cx where
  P : Program
  T : List (Nat × TI)
  R : List (Nat × List Nat)
  n : Nat
  virt : List (Nat × Bool)
  loops : List (Nat × LD)
  perms : List (Nat × OT)
  nexts : List (Nat × (Value × Value)) := []
  overs : List Nat := []

def look {α : Type} (t : Nat) : List (Nat × α) → Option α
  | [] => none
  | p :: r => match Nat.beq p.1 t with | true => some p.2 | false => look t r
def elemN (t : Nat) : List Nat → Bool
  | [] => false
  | p :: r => match Nat.beq p t with | true => true | false => elemN t r

def ev (e : Env) : Operand → Option AV
  | .tmp t => e t
  | .const x => some (.v x)
  | .func f => some (.v (.func (.func f) #[] #[]))
  | .global _ => none
def onAV (x : Option AV) (K : AV → Prop) : Prop := match x with | some a => K a | none => False
def onV (x : Option AV) (K : Value → Prop) : Prop := match x with | some (.v a) => K a | _ => False
def withVs (e : Env) : List Operand → (List Value → Prop) → Prop
  | [], K => K []
  | x :: r, K => onV (ev e x) fun v => withVs e r fun vs => K (v :: vs)
def onPtr (p : Option Addr) (K : Nat → Nat → Prop) : Prop := match p with | some ⟨b, o, none⟩ => K b o | _ => False
def cnd (b : Bool) (A B : Prop) : Prop := match b with | true => A | false => B
def cl (H : Hp) (b o : Nat) : Option Value := match H b with | some (.cells c _ _) => c[o]? | _ => none
def onTI (T : List (Nat × TI)) (t : Nat) (K : TI → Prop) : Prop := match look t T with | some i => K i | none => False
def cellsL : Value → List Value
  | .agg cs => cs.toList
  | v => [v]
def mkV (agg : Bool) (cs : List Value) (K : Value → Prop) : Prop := match agg, cs with
  | true, cs => K (.agg cs.toArray)
  | false, [v] => K v
  | false, _ => False
def setR (cs : List Value) (o : Nat) (vs : List Value) : List Value := cs.take o ++ vs ++ cs.drop (o + vs.length)
def one1 : Value → Bool
  | .agg _ | .tuple _ => false
  | _ => true
def allOne : List Value → Bool
  | [] => true
  | v :: r => match one1 v with | true => allOne r | false => false

/-- A value of the kind of a zero value, by its parts. -/
def leafE (z : Value) (K : Value → Prop) : Prop := match z with
  | .int k _ => ∃ x : Int, K (.int k x)
  | .bool _ => ∃ x : Bool, K (.bool x)
  | .string _ => ∃ x : ByteArray, K (.string x)
  | .slice _ _ _ => ∃ (A : Option Addr) (n c : Nat), K (.slice A n c)
  | .pointer _ => ∃ p : Option Addr, K (.pointer p)
  | .map _ => ∃ r : Option Nat, K (.map r)
  | .nilFunc => ∃ (f : FuncId) (a b : Array Value), K (.func (.func f) a b)
  | _ => ∃ x : Value, K x
def leafEs : List Value → (List Value → Prop) → Prop
  | [], K => K []
  | z :: r, K => leafE z fun v => leafEs r fun vs => K (v :: vs)
def loadL : List Value → Hp → Nat → Nat → (List Value → Prop) → Prop
  | [], _, _, _, K => K []
  | z :: r, H, b, o, K => leafE z fun v => cl H b o = some v ∧ loadL r H b (o + 1) fun vs => K (v :: vs)

def intF (op : BinOp) (k : IntKind) (a b : Int) (K : Value → Prop) : Prop := match op with
  | .add => K (.int k (k.wrap (a + b)))
  | .sub => K (.int k (k.wrap (a - b)))
  | .mul => K (.int k (k.wrap (a * b)))
  | .quo => b ≠ 0 ∧ K (.int k (k.wrap (a.tdiv b)))
  | .rem => b ≠ 0 ∧ K (.int k (a.tmod b))
  | .eql => K (.bool (a == b))
  | .neq => K (.bool (a != b))
  | .lss => K (.bool (decide (a < b)))
  | .leq => K (.bool (decide (a ≤ b)))
  | .gtr => K (.bool (decide (a > b)))
  | .geq => K (.bool (decide (a ≥ b)))
  | _ => False
def sameK (a b : IntKind) : Bool := decide (a = b)
def strF (op : BinOp) (a b : ByteArray) (K : Value → Prop) : Prop := match op with
  | .eql => K (.bool (a.toList == b.toList))
  | .neq => K (.bool !(a.toList == b.toList))
  | .lss => K (.bool (Op.bytesLess a.toList b.toList))
  | .leq => K (.bool (Op.bytesLess a.toList b.toList || a.toList == b.toList))
  | .gtr => K (.bool !(Op.bytesLess a.toList b.toList || a.toList == b.toList))
  | .geq => K (.bool !(Op.bytesLess a.toList b.toList))
  | _ => False
def boolF (op : BinOp) (a b : Bool) (K : Value → Prop) : Prop := match op with
  | .eql => K (.bool (a == b))
  | .neq => K (.bool !(a == b))
  | _ => False
def nilF (op : BinOp) (n : Bool) (K : Value → Prop) : Prop := match op with
  | .eql => K (.bool n)
  | .neq => K (.bool !n)
  | _ => False
def shOp : BinOp → Bool
  | .shl | .shr => true
  | _ => false
def shF (op : BinOp) (k : IntKind) (a b : Int) (K : Value → Prop) : Prop := match op with
  | .shl => 0 ≤ b ∧ K (.int k (k.wrap (a * 2 ^ (min b.toNat k.bits))))
  | .shr => 0 ≤ b ∧ K (.int k (a.fdiv (2 ^ (min b.toNat k.bits))))
  | _ => False
def isScalar : Kn → Bool
  | .scalar => true
  | _ => false
/-- Structs of integers, bools and strings: are their cells the same? -/
def eqLeaf : Value → Value → Option Bool
  | .int k a, .int k' b => match sameK k k' with | true => some (a == b) | false => none
  | .bool a, .bool b => some (a == b)
  | .string a, .string b => some (a == b)
  | _, _ => none
def eqCells : List Value → List Value → Option Bool
  | [], [] => some true
  | a :: x, b :: y => match eqLeaf a b with
    | some p => (match eqCells x y with | some q => some (p && q) | none => none)
    | none => none
  | _, _ => none
/-- Equality of what takes one cell; of cells after cells. -/
def eq1F : Value → Value → Value → Option Bool
  | .int _ _, .int k x, .int k' y => (match sameK k k' with | true => some (x == y) | false => none)
  | .bool _, .bool x, .bool y => some (x == y)
  | .string _, .string x, .string y => some (x.toList == y.toList)
  | _, _, _ => none
def eqLs : List Value → List Value → List Value → Option Bool
  | [], [], [] => some true
  | z :: zs, a :: as, b :: bs => (match eq1F z a b, eqLs zs as bs with | some p, some q => some (p && q) | _, _ => none)
  | _, _, _ => none
def binF (T : List (Nat × TI)) (op : BinOp) (t : Nat) (a b : Value) (K : Value → Prop) : Prop := match a, b with
  | .int k x, .int k' y => (match shOp op with
    | true => shF op k x y K
    | false => (match sameK k k' with | true => intF op k x y K | false => False))
  | .bool x, .bool y => onTI T t fun i => (match i.kn, i.zs with | .scalar, [.bool _] => boolF op x y K | _, _ => False)
  | .string x, .string y => strF op x y K
  | .slice A _ _, .slice none 0 0 => onTI T t fun i => (match i.kn with | .slice _ _ _ => nilF op A.isNone K | _ => False)
  | .agg xs, .agg ys => onTI T t fun i => (match i.eqs with
    | true => (match eqLs i.zs xs.toList ys.toList with
      | some b => nilF op b K
      | none => False)
    | false => False)
  | _, _ => False
def unF (op : UnOp) (a : Value) (K : Value → Prop) : Prop := match op, a with
  | .not, .bool b => K (.bool !b)
  | .neg, .int k n => K (.int k (k.wrap (0 - n)))
  | _, _ => False
def natI : Option Value → Option (Option Int)
  | none => some none
  | some (.int _ i) => some (some i)
  | some _ => none
/-- The bounds of a slice expression. -/
def sliceF (n c : Nat) (lo hi mx : Option Int) (K : Nat → Nat → Nat → Prop) : Prop :=
  match mx with
  | some m => (match hi with
    | some h => (match lo with
      | some l => 0 ≤ m ∧ m ≤ c ∧ 0 ≤ h ∧ h ≤ m ∧ 0 ≤ l ∧ l ≤ h ∧ K l.toNat h.toNat m.toNat
      | none => 0 ≤ m ∧ m ≤ c ∧ 0 ≤ h ∧ h ≤ m ∧ K 0 h.toNat m.toNat)
    | none => False)
  | none => (match hi with
    | some h => (match lo with
      | some l => 0 ≤ h ∧ h ≤ c ∧ 0 ≤ l ∧ l ≤ h ∧ K l.toNat h.toNat c
      | none => 0 ≤ h ∧ h ≤ c ∧ K 0 h.toNat c)
    | none => (match lo with
      | some l => 0 ≤ l ∧ l ≤ n ∧ K l.toNat n c
      | none => K 0 n c))
/-- The address of a cut slice. -/
def cutA (A : Option Addr) (k : Nat) (stay : Bool) : Option Addr := match stay with | true => A | false => A.map (·.add k)
def bAt (s : ByteArray) (i : Int) : Int := ((s.data.toList.getD i.toNat 0).toNat : Int)
def opt (e : Env) : Option Operand → Option (Option Int)
  | none => some none
  | some x => match ev e x with
    | some (.v (.int _ i)) => some (some i)
    | _ => none
def fillL (fs : List (Nat × Nat × Bool)) : List Value → List (Nat × Value) → Option (List Value)
  | cells, [] => some cells
  | cells, (i, v) :: r => match fs[i]? with
    | some f => (match Nat.beq (cellsL v).length f.2.1, Nat.ble (f.1 + (cellsL v).length) cells.length with
      | true, true => fillL fs (setR cells f.1 (cellsL v)) r
      | _, _ => none)
    | none => none
def fsA (len esz : Nat) : List (Nat × Nat × Bool) := (List.range len).map fun i => (i * esz, esz, false)
def pairVs (e : Env) : List (Nat × Operand) → (List (Nat × Value) → Prop) → Prop
  | [], K => K []
  | x :: r, K => onV (ev e x.2) fun v => pairVs e r fun vs => K ((x.1, v) :: vs)

/-- Operations that look neither at the heap nor at variables. -/
def wPure (T : List (Nat × TI)) (o : Op) (e : Env) (K : AV → Prop) : Prop := match o with
  | .move x => onAV (ev e x) K
  | .assign x => onAV (ev e x) K
  | .pick c a b => onV (ev e c) fun cv => (match cv with
    | .bool t => cnd t (onAV (ev e a) K) (onAV (ev e b) K)
    | _ => False)
  | .nilCheck x => onAV (ev e x) fun a => (match a with
    | .loc k o => K (.loc k o)
    | .v (.pointer p) => onPtr p fun b o => K (.v (.pointer (some ⟨b, o, none⟩)))
    | .v (.func (.func f) a b) => K (.v (.func (.func f) a b))
    | _ => False)
  | .binOp op t x y _ => onV (ev e x) fun a => onV (ev e y) fun b => binF T op t a b fun v => K (.v v)
  | .unOp op _ x => onV (ev e x) fun a => unF op a fun v => K (.v v)
  | .convert s d x => onV (ev e x) fun a => onTI T s fun si => onTI T d fun di => (match di.kn, di.zs, a with
    | .scalar, [.int k _], .int _ n => K (.v (.int k (k.wrap n)))
    | _, _, _ => False)
  | .fieldAddr t x f => onTI T t fun i => (match i.kn with
    | .struct fs => (match fs[f]? with
      | some fi => (match fi.2.1 with
        | 0 => False
        | _ + 1 => onAV (ev e x) fun a => (match a with
          | .loc k o => K (.loc k (o + fi.1))
          | .v (.pointer p) => onPtr p fun b o => K (.v (.pointer (some ⟨b, o + fi.1, none⟩)))
          | _ => False))
      | none => False)
    | _ => False)
  | .field t x f => onTI T t fun i => (match i.kn with
    | .struct fs => (match fs[f]? with
      | some fi => onV (ev e x) fun a => (match a with
        | .agg cs => (match Nat.ble (fi.1 + fi.2.1) cs.toList.length with
          | true => mkV fi.2.2 ((cs.toList.drop fi.1).take fi.2.1) fun v => K (.v v)
          | false => False)
        | _ => False)
      | none => False)
    | _ => False)
  | .indexAddr t x ix => onTI T t fun i => onV (ev e ix) fun iv => (match iv with
    | .int _ j => (match i.kn with
      | .slice _ esz _ => onV (ev e x) fun a => (match a with
        | .slice A n c => 0 ≤ j ∧ j < n ∧ onPtr A fun b o => K (.v (.pointer (some ⟨b, o + j.toNat * esz, none⟩)))
        | _ => False)
      | .array len esz _ => onAV (ev e x) fun a => (match a with
        | .loc k o => 0 ≤ j ∧ j < len ∧ K (.loc k (o + j.toNat * esz))
        | .v (.pointer p) => 0 ≤ j ∧ j < len ∧ onPtr p fun b o => K (.v (.pointer (some ⟨b, o + j.toNat * esz, none⟩)))
        | _ => False)
      | _ => False)
    | _ => False)
  | .index t x ix => onTI T t fun i => onV (ev e ix) fun iv => (match iv with
    | .int _ j => onV (ev e x) fun a => (match i.kn, a with
      | .array len esz ag, .agg cs => 0 ≤ j ∧ j < len ∧ (match Nat.beq cs.toList.length (len * esz) with
        | true => mkV ag ((cs.toList.drop (j.toNat * esz)).take esz) fun v => K (.v v)
        | false => False)
      | .string, .string s => 0 ≤ j ∧ j < s.size ∧ K (.v (.int .u8 (bAt s j)))
      | _, _ => False)
    | _ => False)
  | .slice t x lo hi mx => onTI T t fun i => onV (ev e x) fun a => (match opt e lo, opt e hi, opt e mx with
    | some lo, some hi, some mx => (match i.kn, a with
      | .slice _ esz _, .slice A n c => sliceF n c lo hi mx fun l h m => K (.v (.slice (cutA A (l * esz) (decide (m = l))) (h - l) (m - l)))
      | .string, .string s => (match mx with | none => sliceF s.size s.size lo hi none fun l h _ => K (.v (.string (s.extract l h))) | some _ => False)
      | _, _ => False)
    | _, _, _ => False)
  | .build t ps => onTI T t fun i => pairVs e ps.toList fun vs => (match i.kn with
    | .struct fs => (match fillL fs i.zs vs with | some cs => K (.v (.agg cs.toArray)) | none => False)
    | .array len esz _ => (match fillL (fsA len esz) i.zs vs with | some cs => K (.v (.agg cs.toArray)) | none => False)
    | _ => False)
  | .extract x ix => onV (ev e x) fun a => (match a with
    | .tuple vs => (match vs.toList[ix]? with | some v => K (.v v) | none => False)
    | _ => False)
  | .makeFunc fn first cap => withVs e first.toList fun a => withVs e cap.toList fun b => K (.v (.func fn a.toArray b.toArray))
  | _ => False

/-- A call: what a heap holds before it, and what holds of its result and of the heap behind it. -/
def Fr (H : Hp) (w w' : World) : Prop := w'.os = w.os ∧ w'.tape = w.tape ∧ w'.output = w.output ∧ w.heap.size ≤ w'.heap.size ∧ ∀ b, b < w.heap.size → H b = none → w'.heap[b]? = w.heap[b]?
def Has (w : World) (H : Hp) : Prop := ∀ b o, H b = some o → w.heap[b]? = some o
def New (H : Hp) (w : World) (H' : Hp) : Prop := ∀ b, H' b ≠ none → H b ≠ none ∨ w.heap.size ≤ b
def HCalls (P : Program) (f : FuncId) (args : List Value) (H : Hp) (Q : Value → Hp → Prop) : Prop :=
  ∀ w, Has w H → Calls P f args.toArray w fun e w' => ∃ v H', e = .returned v ∧ Q v H' ∧ Has w' H' ∧ Fr H w w' ∧ New H w H'

def FnOk (P : Program) (f : FuncId) : Prop := ∃ fn, P.funcs[f]? = some fn ∧ (fn.name == "runtime.NumGoroutine") = false ∧ fn.body.isNone = false
def shape1 (T : List (Nat × TI)) (t : Nat) (K : Value → Prop) : Prop := onTI T t fun i => leafEs i.zs fun vs => mkV i.agg vs K
def shapes (T : List (Nat × TI)) : List Nat → (List Value → Prop) → Prop
  | [], K => K []
  | t :: r, K => shape1 T t fun v => shapes T r fun vs => K (v :: vs)
def shapeR (T : List (Nat × TI)) (ts : List Nat) (K : Value → Prop) : Prop := match ts with
  | [t] => shape1 T t K
  | ts => shapes T ts fun vs => K (.tuple vs.toArray)
def callF (c : Cx) (f : FuncId) (args : List Value) (H : Hp) (K : Value → Hp → Prop) : Prop := match look f c.R with
  | some ts => HCalls c.P f args H fun v H' => shapeR c.T ts fun v' => v = v' ∧ K v' H'
  | none => False

def cellsAt (H : Hp) (A : Option Addr) (l : List Value) : Prop := l = [] ∨ ∃ b o, A = some ⟨b, o, none⟩ ∧ ∀ j v, l[j]? = some v → cl H b (o + j) = some v
def storeF (H : Hp) (b o : Nat) (vs : List Value) (K : Hp → Prop) : Prop :=
  ∃ (cs : List Value) (ty : Nat), H b = some (.cells cs.toArray ty (0, 0)) ∧ o + vs.length ≤ cs.length ∧ K (upd b (.cells (setR cs o vs).toArray ty (0, 0)) H)
def newF (H : Hp) (ty : Nat) (cs : List Value) (K : Nat → Hp → Prop) : Prop :=
  ∀ b, H b = none → K b (upd b (.cells cs.toArray ty (0, 0)) H)
def appendF (H : Hp) (el esz eby : Nat) (A : Option Addr) (n c : Nat) (B : Option Addr) (m : Nat) (K : Option Addr → Nat → Nat → Hp → Prop) : Prop :=
  (n + m) * eby ≤ 140737488355328 ∧ n + m ≤ 140737488355328 ∧ ∃ new : List Value, new.length = m * esz ∧ cellsAt H B new ∧ (∀ v ∈ new, v.oneCell' = true) ∧
    (n + m ≤ c → (m = 0 → K A n c H) ∧ (0 < m → ∃ (b o : Nat) (cs : List Value) (ty : Nat), A = some ⟨b, o, none⟩ ∧ H b = some (.cells cs.toArray ty (0, 0)) ∧ o + (n + m) * esz ≤ cs.length ∧
      K A (n + m) c (upd b (.cells (setR cs (o + n * esz) new).toArray ty (0, 0)) H))) ∧
    (c < n + m → ∃ old : List Value, old.length = n * esz ∧ cellsAt H A old ∧ ∀ (b cap : Nat) (rest : List Value), H b = none → n + m ≤ cap → cap ≤ maxLen → rest.length = (cap - (n + m)) * esz →
      K (some ⟨b, 0, none⟩) (n + m) cap (upd b (.cells (old ++ new ++ rest).toArray el (0, 0)) H))

/-! Maps with whole numbers as keys. -/
def isKey (x : Int) (e : MapEntry) : Bool := match e.key with
  | .int _ y => decide (x = y)
  | _ => false
def intKeys (k : IntKind) (es : List MapEntry) : Prop := ∀ e ∈ es, ∃ y : Int, e.key = .int k y
def findE (x : Int) (es : List MapEntry) : Option Value := (es.find? (isKey x)).map (·.val)
def putE (k : IntKind) (x : Int) (v : Value) (es : Array MapEntry) (clock : Nat) : Obj := match es.toList.findIdx? (isKey x) with
  | some i => .map (es.modify i fun e => { e with key := .int k x, val := v }) clock
  | none => .map (es.push { key := .int k x, val := v, born := clock }) (clock + 1)
def delE (x : Int) (es : Array MapEntry) (clock : Nat) : Obj := match es.toList.findIdx? (isKey x) with
  | some i => .map (es.eraseIdxIfInBounds i) clock
  | none => .map es clock
def newMapF (H : Hp) (K : Nat → Hp → Prop) : Prop := ∀ b, H b = none → K b (upd b (.map #[] 0) H)
def lookF (H : Hp) (k : IntKind) (r : Option Nat) (x : Int) (z : Value) (K : Value → Bool → Prop) : Prop := match r with
  | none => K z false
  | some b => ∃ es clock, H b = some (.map es clock) ∧ intKeys k es.toList ∧ K ((findE x es.toList).getD z) (findE x es.toList).isSome
def okV (ok : Bool) (v : Value) (b : Bool) : Value := match ok with
  | true => .tuple #[v, .bool b]
  | false => v
def putF (H : Hp) (k : IntKind) (r : Option Nat) (x : Int) (v : Value) (K : Hp → Prop) : Prop :=
  ∃ b es clock, r = some b ∧ H b = some (.map es clock) ∧ intKeys k es.toList ∧ K (upd b (putE k x v es clock) H)
def delF (H : Hp) (k : IntKind) (r : Option Nat) (x : Int) (K : Hp → Prop) : Prop :=
  ∃ b es clock, r = some b ∧ H b = some (.map es clock) ∧ intKeys k es.toList ∧ K (upd b (delE x es clock) H)
def sizeF (H : Hp) (r : Option Nat) (K : Nat → Prop) : Prop := match r with
  | none => K 0
  | some b => ∃ es clock, H b = some (.map es clock) ∧ K es.size
def rangeF (H : Hp) (r : Option Nat) (K : Nat → Hp → Prop) : Prop :=
  ∃ b es clock, r = some b ∧ H b = some (.map es clock) ∧ ∀ i, H i = none → K i (upd i (.mapIter (some b) clock #[] clock) H)
def nextF (H : Hp) (i o : Nat) (Kn : Prop) (Ks : Value → Value → Hp → Prop) : Prop :=
  o = 0 ∧ ∃ b since seen c0 es clock, H i = some (.mapIter (some b) since seen c0) ∧ H b = some (.map es clock) ∧ (∀ e ∈ es.toList, e.born < since) ∧ since ≤ c0 ∧
    ((leftOf es seen).size = 0 → Kn) ∧ ∀ e ∈ (leftOf es seen).toList, Ks e.key e.val (upd i (.mapIter (some b) since (seen.push e.born) clock) H)
def entryF (H : Hp) (i o : Nat) (K : Value → Value → Prop) : Prop :=
  o = 0 ∧ ∃ (b since : Nat) (seen : Array Nat) (es : Array MapEntry) (clock : Nat) (e : MapEntry), H i = some (.mapIter (some b) since (seen.push e.born) clock) ∧ H b = some (.map es clock) ∧ e ∈ es.toList ∧ (es.toList.map (·.born)).Nodup ∧ K e.key e.val
/-- Cells copied from one slice to another. -/
def copyF (H : Hp) (esz : Nat) (A : Option Addr) (n : Nat) (B : Option Addr) (m : Nat) (K : Hp → Prop) : Prop :=
  (min m n = 0 → K H) ∧ (0 < min m n → ∃ new : List Value, new.length = min m n * esz ∧ cellsAt H B new ∧ (∀ v ∈ new, v.oneCell' = true) ∧ onPtr A fun b o => storeF H b o new K)
/-- Two slices in two blocks do not overlap. -/
def apartF (H : Hp) (A B : Option Addr) (K : Prop) : Prop :=
  onPtr A fun a _ => onPtr B fun b _ => a ≠ b ∧ (∃ cs ty, H a = some (.cells cs ty (0, 0))) ∧ (∃ cs ty, H b = some (.cells cs ty (0, 0)) ∧ 0 < cs.size) ∧ K
/-- Zero values appended to a slice that has no room for them. -/
def appendZF (H : Hp) (el esz eby : Nat) (zs : List Value) (A : Option Addr) (n c : Nat) (k : Int) (K : Option Addr → Nat → Nat → Hp → Prop) : Prop :=
  0 < k ∧ c < n + k.toNat ∧ (n + k.toNat) * eby ≤ 140737488355328 ∧ n + k.toNat ≤ 140737488355328 ∧ ∃ old : List Value, old.length = n * esz ∧ cellsAt H A old ∧
    ∀ (b cap : Nat) (rest : List Value), H b = none → n + k.toNat ≤ cap → cap ≤ maxLen → rest.length = (cap - (n + k.toNat)) * esz →
      K (some ⟨b, 0, none⟩) (n + k.toNat) cap (upd b (.cells (old ++ (List.replicate k.toNat zs).flatten ++ rest).toArray el (0, 0)) H)
/-- The number of what a map has. -/
def lenMap (T : List (Nat × TI)) (o : Oper) : Bool := match o.op, o.guard with
  | .call { callee := .builtin .len, argTypes := ts, .. }, none => (match ts.toList with
    | [t] => (match look t T with
      | some i => (match i.kn with
        | .map _ _ => true
        | _ => false)
      | none => false)
    | _ => false)
  | _, _ => false
def lenMapF (o : Op) (e : Env) (H : Hp) (K : Value → Prop) : Prop := match o with
  | .call { args := args, .. } => withVs e args.toList fun vs => (match vs with
    | [.map r] => sizeF H r fun n => K (.int .i64 n)
    | _ => False)
  | _ => False
def updF (c : Cx) (e : Env) (H : Hp) (t : Nat) (m x y : Operand) (K : Hp → Prop) : Prop := onTI c.T t fun i => (match i.kn with
    | .map kt _ => onTI c.T kt fun ki => (match ki.kn, ki.zs with
      | .scalar, [.int k' _] => onV (ev e m) fun mv => onV (ev e x) fun xv => onV (ev e y) fun v => (match mv, xv with
        | .map r, .int k n => (match sameK k' k with
          | true => putF H k r n v K
          | false => False)
        | _, _ => False)
      | _, _ => False)
    | _ => False)
/-- One operation; what follows is handed what its slot then holds. -/
def wOp (c : Cx) (o : Oper) (e : Env) (V : VSt) (H : Hp) (K : Option AV → Env → VSt → Hp → Prop) : Prop := match o.op with
  | .load t a => onTI c.T t fun i => onAV (ev e a) fun p => (match p with
    | .loc k o => (match V k with
      | some x => (match Nat.ble (o + i.zs.length) x.2.length with
        | true => mkV i.agg ((x.2.drop o).take i.zs.length) fun v => K (some (.v v)) e V H
        | false => False)
      | none => False)
    | .v (.pointer p) => onPtr p fun b o => (match i.zs with
      | [] => False
      | z :: zs => loadL (z :: zs) H b o fun vs => mkV i.agg vs fun v => K (some (.v v)) e V H)
    | _ => False)
  | .store t a x => onTI c.T t fun i => onV (ev e x) fun v => (match Nat.beq (cellsL v).length i.zs.length, allOne (cellsL v) with
    | true, true => onAV (ev e a) fun p => (match p with
      | .loc k o => (match V k with
        | some (true, cs) => (match Nat.ble (o + (cellsL v).length) cs.length with
          | true => K none e (upd k (true, setR cs o (cellsL v)) V) H
          | false => False)
        | _ => False)
      | .v (.pointer p) => onPtr p fun b o => storeF H b o (cellsL v) fun H' => K none e V H'
      | _ => False)
    | _, _ => False)
  | .alloc t => onTI c.T t fun i => (match o.dst with
    | some d => (match look d c.virt with
      | some rw => K (some (.loc d 0)) (forget d e) (upd d (rw, i.zs) V) H
      | none => newF H t i.zs fun b H' => K (some (.v (.pointer (some ⟨b, 0, none⟩)))) e V H')
    | none => False)
  | .box t x => onTI c.T t fun i => onV (ev e x) fun v => (match Nat.beq (cellsL v).length i.zs.length, allOne (cellsL v), o.dst with
    | true, true, some d => (match look d c.virt with
      | some rw => K (some (.loc d 0)) (forget d e) (upd d (rw, cellsL v) V) H
      | none => newF H t (cellsL v) fun b H' => K (some (.v (.pointer (some ⟨b, 0, none⟩)))) e V H')
    | _, _, _ => False)
  | .buildSlice t len ps => onTI c.T t fun i => pairVs e ps.toList fun vs => (match i.kn with
    | .slice el esz _ => onTI c.T el fun ei => (match fillL (fsA len esz) (List.replicate len ei.zs).flatten vs, Nat.ble (len * esz) 16777216 with
      | some cs, true => newF H el cs fun b H' => K (some (.v (.slice (some ⟨b, 0, none⟩) len len))) e V H'
      | _, _ => False)
    | _ => False)
  | .call { callee := .value f, args := args, .. } => onV (ev e f) fun fv => withVs e args.toList fun vs => (match fv with
    | .func (.func g) first cap => (match f with
      | .tmp _ => FnOk c.P g ∧ (match look o.type c.T with
        | some i => HCalls c.P g (first.toList ++ vs ++ cap.toList) H fun v H' => leafEs i.zs fun us => mkV i.agg us fun v' => v = v' ∧ K (some (.v v')) e V H'
        | none => HCalls c.P g (first.toList ++ vs ++ cap.toList) H fun v H' => K (some (.v v)) e V H')
      | _ => (match elemN g c.overs with
        | true => (match first.toList ++ vs ++ cap.toList with
          | [.slice A _ _, .slice B _ _] => apartF H A B (K (some (.v (.bool false))) e V H)
          | _ => False)
        | false => callF c g (first.toList ++ vs ++ cap.toList) H fun v H' => K (some (.v v)) e V H'))
    | _ => False)
  | .call { callee := .builtin .len, args := args, argTypes := ts } => withVs e args.toList fun vs => (match ts.toList, vs with
    | [t], [v] => onTI c.T t fun i => (match i.kn, v with
      | .slice _ _ _, .slice _ n _ => K (some (.v (.int .i64 n))) e V H
      | .string, .string s => K (some (.v (.int .i64 s.size))) e V H
      | _, _ => False)
    | _, _ => False)
  | .call { callee := .builtin .append, args := args, argTypes := ts } => withVs e args.toList fun vs => (match ts.toList, vs with
    | [t, u], [.slice A n cp, .slice B m _] => (match Nat.beq t u with
      | true => onTI c.T t fun i => (match i.kn with
        | .slice el esz eby => (match esz with
          | 0 => False
          | _ + 1 => appendF H el esz eby A n cp B m fun A' n' c' H' => K (some (.v (.slice A' n' c'))) e V H')
        | _ => False)
      | false => False)
    | [t, u], [.slice A n cp, .int .i64 k] => onTI c.T t fun i => onTI c.T u fun ui => (match i.kn, ui.kn, ui.zs with
      | .slice el esz eby, .scalar, [.int _ _] => onTI c.T el fun ei => (match esz with
        | 0 => False
        | _ + 1 => appendZF H el esz eby ei.zs A n cp k fun A' n' c' H' => K (some (.v (.slice A' n' c'))) e V H')
      | _, _, _ => False)
    | _, _ => False)
  | .call { callee := .builtin .clear, args := args, argTypes := ts } => withVs e args.toList fun vs => (match ts.toList, vs with
    | [t], [.slice A n _] => onTI c.T t fun i => (match i.kn with
      | .slice el esz _ => onTI c.T el fun ei => (n = 0 → K (some (.v (.tuple #[]))) e V H) ∧ (0 < n → onPtr A fun b o => storeF H b o (List.replicate n ei.zs).flatten fun H' => K (some (.v (.tuple #[]))) e V H')
      | _ => False)
    | _, _ => False)
  | .call { callee := .builtin .delete, args := args, argTypes := ts } => withVs e args.toList fun vs => (match ts.toList, vs with
    | t :: _, [.map r, .int k x] => onTI c.T t fun i => (match i.kn with
      | .map kt _ => onTI c.T kt fun ki => (match ki.kn, ki.zs with
        | .scalar, [.int k' _] => (match sameK k' k with
          | true => delF H k r x fun H' => K (some (.v (.tuple #[]))) e V H'
          | false => False)
        | _, _ => False)
      | _ => False)
    | _, _ => False)
  | .makeMap _ none => newMapF H fun b H' => K (some (.v (.map (some b)))) e V H'
  | .lookup t m x ok => onTI c.T t fun i => (match i.kn with
    | .map kt vt => onTI c.T kt fun ki => onTI c.T vt fun vi => (match ki.kn, ki.zs with
      | .scalar, [.int k' _] => onV (ev e m) fun mv => onV (ev e x) fun xv => (match mv, xv with
        | .map r, .int k y => (match sameK k' k with
          | true => mkV vi.agg vi.zs fun z => lookF H k r y z fun v b => leafEs vi.zs fun us => mkV vi.agg us fun v' => v = v' ∧ K (some (.v (okV ok v' b))) e V H
          | false => False)
        | _, _ => False)
      | _, _ => False)
    | _ => False)
  | .mapUpdate t m x y => updF c e H t m x y fun H' => K none e V H'
  | .insert t m x y => updF c e H t m x y fun H' => K none e V H'
  | .range t m => onTI c.T t fun i => (match i.kn with
    | .map _ _ => onV (ev e m) fun mv => (match mv with
      | .map r => rangeF H r fun b H' => K (some (.v (.pointer (some ⟨b, 0, none⟩)))) e V H'
      | _ => False)
    | _ => False)
  | .next it false => onV (ev e it) fun iv => (match iv, o.dst with
    | .pointer p, some d => (match look d c.nexts with
      | some zz => onPtr p fun b off => nextF H b off (K (some (.v (.tuple #[.bool false]))) e V H) fun key val H' =>
          leafE zz.1 fun k' => key = k' ∧ leafE zz.2 fun v' => val = v' ∧ K (some (.v (.tuple #[.bool true, k', v']))) e V H'
      | none => False)
    | _, _ => False)
  | .entry it => onV (ev e it) fun iv => (match iv, o.dst with
    | .pointer p, some d => (match look d c.nexts with
      | some zz => onPtr p fun b off => entryF H b off fun key val => leafE zz.1 fun k' => key = k' ∧ leafE zz.2 fun v' => val = v' ∧ K (some (.v (.tuple #[k', v']))) e V H
      | none => False)
    | _, _ => False)
  | .call { callee := .builtin .cap, args := args, argTypes := ts } => withVs e args.toList fun vs => (match ts.toList, vs with
    | [t], [.slice _ _ cp] => onTI c.T t fun i => (match i.kn with
      | .slice _ _ _ => K (some (.v (.int .i64 cp))) e V H
      | _ => False)
    | _, _ => False)
  | .call { callee := .builtin .copy, args := args, argTypes := ts } => withVs e args.toList fun vs => (match ts.toList, vs with
    | [t, _], [.slice A n _, .slice B m _] => onTI c.T t fun i => (match i.kn with
      | .slice _ esz _ => copyF H esz A n B m fun H' => K (some (.v (.int .i64 (min m n)))) e V H'
      | _ => False)
    | _, _ => False)
  | x => wPure c.T x e fun a => K (some a) e V H

/-- What a slot holds behind an operation. -/
def fin (n : Nat) (d : Option Nat) (a : Option AV) (e : Env) : Env := match d with
  | none => e
  | some d => match a, Nat.blt d n with
    | some a, true => upd d a e
    | _, _ => del d e
def dstAt (ops : List Oper) (j : Nat) : Option Nat := match ops[j]? with | some o => o.dst | none => none
def wStep (c : Cx) (ops : List Oper) (o : Oper) (K : Env → VSt → Hp → Prop) (e : Env) (V : VSt) (H : Hp) : Prop := match o.guard with
  | none => wOp c o e V H fun a e V H => K (fin c.n o.dst a e) V H
  | some (j, want) => match dstAt ops j with
    | some d => (match e d with
      | some (.v (.bool b)) => cnd b
          (match want with
            | true => wOp c o (upd d (.v (.bool true)) e) V H fun a e V H => K (fin c.n o.dst a e) V H
            | false => K (fin c.n o.dst (some (.v undef)) (upd d (.v (.bool true)) e)) V H)
          (match want with
            | false => wOp c o (upd d (.v (.bool false)) e) V H fun a e V H => K (fin c.n o.dst a e) V H
            | true => K (fin c.n o.dst (some (.v undef)) (upd d (.v (.bool false)) e)) V H)
      | some (.v (.tuple _)) => K (fin c.n o.dst (some (.v undef)) e) V H
      | _ => False)
    | none => False
def wOps (c : Cx) (ops : List Oper) : List Oper → (Env → VSt → Hp → Prop) → Env → VSt → Hp → Prop
  | [], K, e, V, H => K e V H
  | o :: r, K, e, V, H => (match lenMap c.T o with
    | true => lenMapF o.op e H fun v => wOps c ops r K (fin c.n o.dst (some (.v v)) e) V H
    | false => wStep c ops o (wOps c ops r K) e V H)

/-! A region whose order is open. -/
inductive Ef where
  | pure | load | quiet | write
def efOf : Op → Ef
  | .move _ | .pick .. | .nilCheck _ | .binOp .. | .unOp .. | .convert .. | .fieldAddr .. | .field .. | .indexAddr .. | .index .. | .slice .. | .build .. | .extract .. | .makeFunc .. => .pure
  | .call { callee := .builtin .len, .. } => .pure
  | .load .. => .load
  | .assign _ | .alloc _ | .box .. | .buildSlice .. => .quiet
  | _ => .write
def isEf : Ef → Bool
  | .pure | .load => false
  | _ => true
/-- The variable beside the heap into which an operation stores. -/
def vstK (e : Env) : Op → Option Nat
  | .store _ a _ => (match ev e a with | some (.loc k _) => some k | _ => none)
  | _ => none
def dirOf (o : Oper) : List Nat := (o.after.toList.filter fun x => Region.binds .any x).map (·.on)
def maskOf (acc : List Nat) : List Nat → Nat
  | [] => 0
  | z :: r => (2 ^ z ||| acc.getD z 0) ||| maskOf acc r
def masks : List Nat → List Oper → List Nat
  | acc, [] => acc
  | acc, o :: r => masks (acc ++ [maskOf acc (dirOf o)]) r
def befB (bf : List Nat) (i j : Nat) : Bool := (bf.getD i 0).testBit j
/-- Loads that have been gone through and that this may come before: what they looked at stays. -/
def lateL (bf S : List Nat) (i : Nat) (w : Bool) (k : Option Nat) (e : Env) (H H' : Hp) : Nat → List Oper → Prop → Prop
  | _, [], P => P
  | j, o :: r, P => match o.op with
    | .load _ a => (match befB bf i j || elemN j S with
      | true => lateL bf S i w k e H H' (j + 1) r P
      | false => (match ev e a with
        | none => False
        | some (.loc k1 _) => (match k with
          | none => lateL bf S i w k e H H' (j + 1) r P
          | some k2 => (match Nat.beq k1 k2 with
            | true => False
            | false => lateL bf S i w k e H H' (j + 1) r P))
        | some (.v v) => (match k with
          | some _ => lateL bf S i w k e H H' (j + 1) r P
          | none => (match w with
            | false => lateL bf S i w k e H H' (j + 1) r P
            | true => (match v with
              | .pointer (some p) => H' p.block = H p.block ∧ lateL bf S i w k e H H' (j + 1) r P
              | _ => lateL bf S i w k e H H' (j + 1) r P)))))
    | _ => lateL bf S i w k e H H' (j + 1) r P
def lateP (bf S : List Nat) (ops : List Oper) (i : Nat) (o : Oper) (e : Env) (H H' : Hp) (P : Prop) : Prop := match efOf o.op with
  | .write => (match vstK e o.op with
    | some k => lateL bf S i false (some k) e H H' 0 ops P
    | none => lateL bf S i true none e H H' 0 ops P)
  | _ => P
def without (x : Nat) : List Nat → List Nat
  | [] => []
  | y :: r => match Nat.beq x y with
    | true => without x r
    | false => y :: without x r
def wOpsD (c : Cx) (ops : List Oper) (bf : List Nat) : OT → List Nat → (Env → VSt → Hp → Prop) → Env → VSt → Hp → Prop
  | .done, _, K, e, V, H => K e V H
  | .look i t, S, K, e, V, H => (match ops[i]? with
    | some o => wStep c ops o (wOpsD c ops bf t (without i S) K) e V H
    | none => False)
  | .act i t u, S, K, e, V, H => (match ops[i]? with
    | some o => (match u.isDone with
      | true => wStep c ops o (fun e' V' H' => lateP bf S ops i o e H H' (wOpsD c ops bf t (without i S) K e' V' H')) e V H
      | false => wStep c ops o (fun e' V' H' => lateP bf S ops i o e H H' (wOpsD c ops bf t (without i S) K e' V' H')) e V H ∧ wOpsD c ops bf u S K e V H)
    | none => False)
def namesOf (ops : List Oper) (o : Oper) : List Nat := (o.op.operands.toList.filterMap fun x => match x with | .tmp t => some t | _ => none) ++ (match o.guard with | some (j, _) => (match dstAt ops j with | some d => [d] | none => []) | none => [])
def efAt (ops : List Oper) (i : Nat) : Bool := match ops[i]? with | some o => isEf (efOf o.op) | none => true
def slotOk (ops : List Oper) (bf : List Nat) (x y : Nat) : Bool := match ops[x]?, ops[y]? with
  | some ox, some oy => (match oy.dst with
    | none => true
    | some d => (!(elemN d (namesOf ops ox)) && (match ox.dst with | some d' => !Nat.beq d' d | none => true)) || befB bf x y || (isEf (efOf oy.op) && befB bf y x))
  | _, _ => false
def pairB (ops : List Oper) (bf : List Nat) (x : Nat) (S : List Nat) : Bool := (without x S).all fun y => !befB bf x y && slotOk ops bf x y && slotOk ops bf y x
def emptyB : List Nat → Bool
  | [] => true
  | _ => false
def tOk (ops : List Oper) (bf : List Nat) : OT → List Nat → List Nat → Bool
  | .done, S, tried => (match emptyB tried with
    | true => emptyB S
    | false => S.all fun z => elemN z tried || (without z S).any fun y => befB bf z y)
  | .look x t, S, tried => emptyB tried && elemN x S && !efAt ops x && pairB ops bf x S && tOk ops bf t (without x S) []
  | .act x t u, S, tried => elemN x S && efAt ops x && pairB ops bf x S && tOk ops bf t (without x S) [] && tOk ops bf u S (x :: tried)
def rangeB : Nat → List Nat
  | 0 => []
  | n + 1 => n :: rangeB n
def regOk (ops : List Oper) : Bool :=
  (rangeB ops.length).all fun i => match ops[i]? with | some o => (match o.dst with | some d => !elemN d (namesOf ops o) | none => true) && (dirOf o).all (fun z => Nat.blt z i) | none => false

inductive Xt where
  | normal | exit (id : Nat) | ret
def getSh (s : Sh) (v : Value) (K : s.T → Prop) : Prop := match s, v, K with
  | .int k, .int k' x, K => (match sameK k k' with | true => K x | false => False)
  | .bool, .bool x, K => K x
  | .str, .string x, K => K x
  | .slice, .slice A n c, K => K (A, n, c)
  | .ptr, .pointer p, K => K p
  | .map, .map r, K => K r
  | _, _, _ => False
def getL : (l : List Sh) → List Value → (ShT l → Prop) → Prop
  | [], [], K => K ()
  | s :: r, v :: vs, K => getSh s v fun x => getL r vs fun y => K (x, y)
  | _, _, _ => False
def valsT (l : List (Nat × Sh)) : List Sh := l.map (·.2)
def BoxT : List (Nat × List Sh) → Type
  | [] => Unit
  | b :: r => ShT b.2 × BoxT r
abbrev LD.St (d : LD) : Type := ShT (valsT d.vals) × BoxT d.boxes
def getVals : (l : List (Nat × Sh)) → Env → (ShT (valsT l) → Prop) → Prop
  | [], _, K => K ()
  | p :: r, e, K => onV (e p.1) fun v => getSh p.2 v fun x => getVals r e fun y => K (x, y)
def getBoxes : (l : List (Nat × List Sh)) → VSt → (BoxT l → Prop) → Prop
  | [], _, K => K ()
  | p :: r, V, K => match V p.1 with
    | some (true, cs) => getL p.2 cs fun x => getBoxes r V fun y => K (x, y)
    | _ => False
def encVals : (l : List (Nat × Sh)) → ShT (valsT l) → Env → Env
  | [], _, e => e
  | p :: r, x, e => upd p.1 (.v (p.2.enc x.1)) (encVals r x.2 e)
def encBoxes : (l : List (Nat × List Sh)) → BoxT l → VSt → VSt
  | [], _, V => V
  | p :: r, x, V => upd p.1 (true, encL p.2 x.1) (encBoxes r x.2 V)
def restr {α : Type} (l : List Nat) (e : Nat → Option α) : Nat → Option α := fun x => match elemN x l with | true => e x | false => none
def LoopF {σ : Type} (s0 : σ) (H : Hp) (body : σ → Hp → (σ → Hp → Prop) → Prop) : Prop :=
  ∃ J : Nat → σ → Hp → Prop, (∃ n, J n s0 H) ∧ ∀ n s H', J n s H' → body s H' fun s' H2 => ∃ m, m < n ∧ J m s' H2

def keyOf : Code → Option Nat
  | .region id _ _ => some id
  | .seq a b => match keyOf a with | some k => some k | none => keyOf b
  | .cond _ a b => match keyOf a with | some k => some k | none => keyOf b
  | .block _ a => keyOf a
  | .loop a => keyOf a
  | _ => none
/-- Nothing of this has turned. -/
def KeepX (x : List (Option AV)) (y : List (Option (Bool × List Value))) : Prop := (x, y) = (x, y)
/-- Where several ways meet: what holds from there on is said once. -/
def jn {α : Type} (r : α) (A : α → Prop) : Prop := A r
theorem jn_intro {α : Type} {r : α} {A : α → Prop} (S : α → Prop) (h : S r) (h2 : ∀ J, S J → A J) : jn r A := h2 r h
def mapE {α : Type} (e : Nat → Option α) : List Nat → List (Option α)
  | [] => []
  | x :: r => e x :: mapE e r
def wv (c : Cx) : Code → (Xt → Env → VSt → Hp → Prop) → Env → VSt → Hp → Prop
  | .skip, Q, e, V, H => Q .normal e V H
  | .label _, Q, e, V, H => Q .normal e V H
  | .region id ops draw, Q, e, V, H => (match draw with
    | false => wOps c ops.toList ops.toList (Q .normal) e V H
    | true => (match look id c.perms with
      | some p => (match regOk ops.toList && tOk ops.toList (masks [] ops.toList) p (rangeB ops.toList.length) [] with
        | true => wOpsD c ops.toList (masks [] ops.toList) p (rangeB ops.toList.length) (Q .normal) e V H
        | false => False)
      | none => False))
  | .seq a b, Q, e, V, H => wv c a (fun x e V H => match x with | .normal => wv c b Q e V H | x => Q x e V H) e V H
  | .cond x a b, Q, e, V, H => onV (ev e x) fun v => (match v with
    | .bool t => cnd t (wv c a Q e V H) (wv c b Q e V H)
    | _ => False)
  | .block id a, Q, e, V, H => wv c a (fun x e V H => match x with | .exit i => (match Nat.beq i id with | true => Q .normal e V H | false => Q (.exit i) e V H) | x => Q x e V H) e V H
  | .exit id, Q, e, V, H => Q (.exit id) e V H
  | .ret, Q, e, V, H => Q .ret e V H
  | .loop a, Q, e, V, H => (match keyOf a with
    | some k => (match look k c.loops with
      | some d => getVals d.vals e fun x => getBoxes d.boxes V fun y => LoopF (σ := d.St) (x, y) H fun s H' next =>
            wv c a (fun q e' V' H2 => match q with
              | .normal => getVals d.vals e' fun x' => getBoxes d.boxes V' fun y' => (mapE e' d.keep, mapE V' d.kb) = (mapE e d.keep, mapE V d.kb) ∧ next (x', y') H2
              | q => Q q e' V' H2) (encVals d.vals s.1 (restr d.keep e)) (encBoxes d.boxes s.2 (restr d.kb V)) H'
      | none => False)
    | none => False)
  | _, _, _, _, _ => False

def resF (rs : List ResultVar) (T : List (Nat × TI)) (e : Env) (V : VSt) (K : List Value → Prop) : Prop := match rs with
  | [] => K []
  | .tmp t :: r => onV (e t) fun v => resF r T e V fun vs => K (v :: vs)
  | .cell t ty :: r => onTI T ty fun i => onAV (e t) fun a => (match a with
    | .loc k 0 => (match V k with
      | some x => (match Nat.beq x.2.length i.zs.length with
        | true => mkV i.agg x.2 fun v => resF r T e V fun vs => K (v :: vs)
        | false => False)
      | none => False)
    | _ => False)
def resV (vs : List Value) (K : Value → Prop) : Prop := match vs with
  | [v] => K v
  | vs => K (.tuple vs.toArray)
def retQ (c : Cx) (rs : List ResultVar) (Q : Value → Hp → Prop) : Xt → Env → VSt → Hp → Prop
  | .normal, e, V, H => resF rs c.T e V fun vs => resV vs fun v => Q v H
  | .ret, e, V, H => resF rs c.T e V fun vs => resV vs fun v => Q v H
  | .exit _, _, _, _ => False
def env0 (args : List Value) : Env := fun t => match args[t]? with | some v => some (.v v) | none => none
def wFun (c : Cx) (fn : Func) (args : List Value) (H : Hp) (Q : Value → Hp → Prop) : Prop := match fn.body with
  | some code => (match Nat.beq c.n fn.ntmps, Nat.ble args.length fn.ntmps with
    | true, true => wv c code (retQ c fn.results.toList Q) (env0 args) (fun _ => none) H
    | _, _ => False)
  | none => False
end Go.Proofs.Ytkbancdmhcnhjaa.Hw
