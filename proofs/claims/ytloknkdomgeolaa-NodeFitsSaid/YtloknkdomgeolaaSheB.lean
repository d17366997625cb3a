/- Part of a small program logic: the evaluator over a symbolic heap (a Prop that is computed; what it can't decide stands as an event). -/
import Derived.Test.YtloknkdomgeolaaSheA
namespace Go.Proofs.Ytloknkdomgeolaa.She
set_option linter.all false
open Go

/-! ### Types -/
inductive Ty where
  | int (k : IntKind) | bool | str | flt | slice (e : Nat) | ptr (e : Nat) | struct (fs : List (Nat × Nat)) | array (n e : Nat) | func | map (k e : Nat) | iface
structure TI where
  ty : Ty
  size : Nat
  bytes : Nat
  zero : List Value

def tyIs (P : Program) (t : Nat) : Ty → Prop
  | .int k => P.underlying t = some (.int k)
  | .bool => P.underlying t = some .bool
  | .str => P.underlying t = some .string
  | .flt => P.underlying t = some (.float .f64)
  | .slice e => P.underlying t = some (.slice e)
  | .ptr e => P.underlying t = some (.pointer e)
  | .struct fs => ∃ F, P.underlying t = some (.struct F) ∧ F.toList.map (fun x => (x.offset, x.type)) = fs
  | .array n e => P.underlying t = some (.array n e)
  | .func => ∃ p r v, P.underlying t = some (.func p r v)
  | .map k e => P.underlying t = some (.map k e)
  | .iface => ∃ m, P.underlying t = some (.interface m)

def Ty.agg : Ty → Bool
  | .struct _ | .array _ _ => true
  | _ => false

/-- What a row of the table says of the program. -/
structure TOk (P : Program) (t : Nat) (i : TI) : Prop where
  ty : tyIs P t i.ty
  info : ∃ j z, P.info? t = some j ∧ j.size = i.size ∧ j.bytes = i.bytes ∧ j.zero = some z ∧ z.cells = ⟨i.zero⟩ ∧ (i.ty.agg = true → z = .agg ⟨i.zero⟩) ∧ (i.ty.agg = false → i.zero = [z])
  zl : i.zero.length = i.size

structure Sig where
  P : Program
  T : Nat → Option TI

def Sig.Ok (S : Sig) : Prop := ∀ t i, S.T t = some i → TOk S.P t i

def lookT : List (Nat × TI) → Nat → Option TI
  | [], _ => none
  | (t, i) :: r, n => bif Nat.beq n t then some i else lookT r n

theorem lookT_ok {P : Program} : ∀ (l : List (Nat × TI)), (∀ x ∈ l, TOk P x.1 x.2) → ∀ t i, lookT l t = some i → TOk P t i
  | [], _, _, _, h => by simp [lookT] at h
  | (u, j) :: r, hl, t, i, h => by
    simp only [lookT] at h
    cases hb : Nat.beq t u with
    | true => rw [hb] at h; simp at h; subst h; have := Nat.eq_of_beq_eq_true hb; subst this; exact hl _ (.head _)
    | false => rw [hb] at h; simp at h; exact lookT_ok r (fun x hx => hl x (.tail _ hx)) t i h

/-! ### Frames -/
abbrev Fr := List (Option Value)

def getF : Fr → Nat → Option Value
  | [], _ => none
  | x :: _, 0 => x
  | _ :: r, n + 1 => getF r n

def setF : Fr → Nat → Option Value → Fr
  | [], _, _ => []
  | _ :: r, 0, v => v :: r
  | x :: r, n + 1, v => x :: setF r n v

def setK : Fr → Nat → Value → (Fr → Prop) → Prop
  | [], _, _, k => k []
  | _ :: r, 0, v, k => k (some v :: r)
  | x :: r, n + 1, v, k => setK r n v fun r' => k (x :: r')

theorem setK_eq : ∀ (f : Fr) (n : Nat) (v : Value) (k : Fr → Prop), setK f n v k = k (setF f n (some v))
  | [], _, _, _ => rfl
  | _ :: _, 0, _, _ => rfl
  | x :: r, n + 1, v, k => by simp only [setK, setK_eq r n v, setF]

/-- The head of a value is laid open. -/
def force (v : Value) (k : Value → Prop) : Prop :=
  match v with
  | .bool b => k (.bool b)
  | .int a n => k (.int a n)
  | .float a n => k (.float a n)
  | .complex a b c => k (.complex a b c)
  | .string s => k (.string s)
  | .pointer a => k (.pointer a)
  | .slice a n c => k (.slice a n c)
  | .map r => k (.map r)
  | .chan r => k (.chan r)
  | .func f a c => k (.func f a c)
  | .nilFunc => k .nilFunc
  | .iface t v => k (.iface t v)
  | .nilIface => k .nilIface
  | .agg c => k (.agg c)
  | .tuple c => k (.tuple c)
theorem force_eq (v : Value) (k : Value → Prop) : force v k = k v := by cases v <;> rfl

def listK {α : Type} : List α → (List α → Prop) → Prop
  | [], k => k []
  | x :: r, k => listK r fun r' => k (x :: r')
theorem listK_eq {α : Type} : ∀ (l : List α) (k : List α → Prop), listK l k = k l
  | [], _ => rfl
  | x :: r, k => by simp only [listK, listK_eq r]

def appK {α : Type} : List α → List α → (List α → Prop) → Prop
  | [], b, k => k b
  | x :: r, b, k => appK r b fun r' => k (x :: r')
theorem appK_eq {α : Type} : ∀ (a b : List α) (k : List α → Prop), appK a b k = k (a ++ b)
  | [], _, _ => rfl
  | x :: r, b, k => by simp only [appK, appK_eq r, List.cons_append]

def putK (f : Fr) (dst : Option Tmp) (v : Value) (k : Fr → Prop) : Prop :=
  match dst with
  | none => k f
  | some d => force v fun v' => setK f d v' k

def skipK (f : Fr) (dst : Option Tmp) (k : Fr → Prop) : Prop :=
  match dst with
  | none => k f
  | some d => setK f d (.tuple #[]) k

def putF (f : Fr) (dst : Option Tmp) (v : Option Value) : Fr :=
  match dst with
  | none => f
  | some d => setF f d v
theorem putK_eq (f : Fr) (dst : Option Tmp) (v : Value) (k : Fr → Prop) : putK f dst v k = k (putF f dst (some v)) := by
  cases dst with
  | none => rfl
  | some d => simp only [putK, force_eq, setK_eq, putF]
theorem skipK_eq (f : Fr) (dst : Option Tmp) (k : Fr → Prop) : skipK f dst k = k (putF f dst (some undef)) := by
  cases dst with
  | none => rfl
  | some d => simp only [skipK, setK_eq, putF]; rfl

/-- An operand is read. -/
def rd (f : Fr) (x : Operand) (k : Value → Prop) : Prop :=
  match x with
  | .tmp t => match getF f t with
    | some v => k v
    | none => False
  | .const v => force v k
  | .global g => k (.pointer (some ⟨g, 0, none⟩))
  | .func g => k (.func (.func g) #[] #[])

def rdL (f : Fr) : List Operand → (List Value → Prop) → Prop
  | [], k => k []
  | x :: r, k => rd f x fun v => rdL f r fun vs => k (v :: vs)

def rdP (f : Fr) : List (Nat × Operand) → (List (Nat × Value) → Prop) → Prop
  | [], k => k []
  | (i, x) :: r, k => rd f x fun v => rdP f r fun vs => k ((i, v) :: vs)

def rdO (f : Fr) : Option Operand → (Option Value → Prop) → Prop
  | none, k => k none
  | some x, k => rd f x fun v => k (some v)

/-! ### What the heap has -/
/-- Block b's cells from 'base' on are xs. -/
class HasCells (L : SH) (b : Nat) (base : outParam Nat) (xs : outParam (List Value)) : Prop where
  cell : ∀ w, Holds w L → ∀ j v, xs[j]? = some v → w.cell? ⟨b, j + base, none⟩ = some v

/-- A slice from address ao on has the cells xs (at least). -/
class HasSl (L : SH) (ao : Option Addr) (xs : outParam (List Value)) : Prop where
  addr : ∀ w, Holds w L → xs ≠ [] → ∃ a, ao = some a ∧ a.spot = none ∧ a.off = offOf ao ∧ a.block = blkOf ao
  cell : ∀ w, Holds w L → ∀ j v, xs[j]? = some v → w.cell? ⟨blkOf ao, j + offOf ao, none⟩ = some v

/-- A row of one's own begins at address ao: at the beginning of its block. -/
class HasRw (L : SH) (ao : Option Addr) (xs : outParam (List Value)) : Prop where
  addr : ∀ w, Holds w L → xs ≠ [] → ∃ a, ao = some a ∧ a.spot = none ∧ a.off = 0

/-- Block b is owned, its cells are xs, and 'upd' changes them. -/
class HasOwn (L : SH) (b : Nat) (xs : outParam (List Value)) (upd : outParam (List Value → SH)) : Prop where
  own : ∃ A B mk, L = A ++ mk xs :: B ∧ (∀ ys, upd ys = A ++ mk ys :: B) ∧ ((∃ e, mk = fun ys => .blk b e ys) ∨ (∃ ao cap e k, b = blkOf ao ∧ mk = fun ys => .row ao cap e k ys))

/-! ### Events -/
/-- Where a cut of a slice begins. -/
def subA (ao : Option Addr) (d : Nat) (full : Bool) : Option Addr := if full then ao else ao.map (·.add d)
inductive EvNum (kd : IntKind) (x : Int) (k : Int → Prop) : Prop
  | wrap (h : k (kd.wrap x))
  | fit (n : Int) (hn : n = x) (hw : kd.wrap n = n) (h : k n)

inductive EvIte {α : Type} (g : Bool) (x y : α) (k : α → Prop) : Prop
  | t (hg : g = true) (h : k x)
  | f (hg : g = false) (h : k y)

inductive EvDiv (b : Int) (k : Prop) : Prop
  | mk (hb : b ≠ 0) (h : k)

inductive EvPow (y : Int) (bits : Nat) (k : Int → Prop) : Prop
  | mk (c : Int) (hc : 0 ≤ y ∧ c = 2 ^ min y.toNat bits) (h : k c)

inductive EvNow (p : Prop) (k : Prop) : Prop
  | mk (hp : p) (h : k)

/-- A value that may be said otherwise. -/
inductive EvVal {α : Type} (x : α) (k : α → Prop) : Prop
  | rfl (h : k x)
  | eq (y : α) (hy : x = y) (h : k y)

inductive EvIdx (L : SH) (ao : Option Addr) (i : Int) (n sz : Nat) (k : Value → Prop) : Prop
  | sl {xs : List Value} [HasSl L ao xs] (j : Nat) (hi : i = (j : Int)) (hn : j < n) (hx : j * sz < xs.length) (h : k (.pointer (some ⟨blkOf ao, j * sz + offOf ao, none⟩)))
  | row {xs : List Value} [HasRw L ao xs] (j : Nat) (hi : i = (j : Int)) (hn : j < n) (hx : j * sz < xs.length) (h : k (.pointer (some ⟨blkOf ao, j * sz, none⟩)))
  | sub {xs : List Value} (ap : Option Addr) (d : Nat) [HasSl L ap xs] (ha : ao = subA ap d false) (j : Nat) (hi : i = (j : Int)) (hn : j < n) (hx : d + j * sz < xs.length) (h : k (.pointer (some ⟨blkOf ap, d + j * sz + offOf ap, none⟩)))
  | rsub {xs : List Value} (ap : Option Addr) (d : Nat) [HasRw L ap xs] (ha : ao = subA ap d false) (j : Nat) (hi : i = (j : Int)) (hn : j < n) (hx : d + j * sz < xs.length) (h : k (.pointer (some ⟨blkOf ap, d + j * sz, none⟩)))
  | lit (b off : Nat) (ha : ao = some ⟨b, off, none⟩) (j : Nat) (hi : i = (j : Int)) (hn : j < n) (h : k (.pointer (some ⟨b, j * sz + off, none⟩)))

inductive EvLoad (L : SH) (b off : Nat) (k : Value → Prop) : Prop
  | mk {base : Nat} {xs : List Value} [HasCells L b base xs] (j : Nat) (hj : off = j + base) (v : Value) (hv : xs[j]? = some v) (h : k v)

def dropL {α : Type} : List α → Nat → List α
  | l, 0 => l
  | [], _ + 1 => []
  | _ :: r, n + 1 => dropL r n
theorem dropL_eq {α : Type} : ∀ (l : List α) (n : Nat), dropL l n = l.drop n
  | l, 0 => by cases l <;> rfl
  | [], n + 1 => by simp [dropL]
  | _ :: r, n + 1 => by simp [dropL, dropL_eq r n]
/-- The first n of a list. -/
def takeK {α : Type} : List α → Nat → (List α → Prop) → Prop
  | _, 0, k => k []
  | [], _ + 1, _ => False
  | x :: r, n + 1, k => takeK r n fun l => k (x :: l)
theorem takeK_eq {α : Type} : ∀ (l : List α) (n : Nat) (k : List α → Prop), takeK l n k → n ≤ l.length ∧ k (l.take n)
  | _, 0, _, h => by simpa [takeK] using h
  | [], n + 1, _, h => h.elim
  | x :: r, n + 1, k, h => by
    have := takeK_eq r n _ h
    exact ⟨by simp; exact this.1, by simpa using this.2⟩

inductive EvLoadN (L : SH) (b off n : Nat) (k : List Value → Prop) : Prop
  | lit {base : Nat} {xs : List Value} [HasCells L b base xs] (j : Nat) (hj : off = j + base) (h : takeK (dropL xs j) n k)
  | mk {base : Nat} {xs : List Value} [HasCells L b base xs] (j : Nat) (hj : off = j + base) (vs : List Value) (hl : vs.length = n) (hv : (xs.drop j).take n = vs) (h : listK vs k)
  | sym {base : Nat} {xs : List Value} [HasCells L b base xs] (j : Nat) (hj : off = j + base) (vs : List Value) (hl : vs.length = n) (hv : (xs.drop j).take n = vs) (h : k vs)

def setCells (xs : List Value) (off : Nat) : List Value → List Value
  | [] => xs
  | v :: r => setCells (xs.set off v) (off + 1) r

/-- Cells are laid over the beginning of a list. -/
def overK : List Value → List Value → (List Value → Prop) → Prop
  | xs, [], k => k xs
  | [], _ :: _, _ => False
  | _ :: r, v :: vs, k => overK r vs fun l => k (v :: l)
def storeK : List Value → Nat → List Value → (List Value → Prop) → Prop
  | xs, 0, vs, k => overK xs vs k
  | [], _ + 1, _, _ => False
  | x :: r, n + 1, vs, k => storeK r n vs fun l => k (x :: l)

def oneB : Value → Bool
  | .agg _ => false
  | .tuple _ => false
  | _ => true
def allOne : List Value → Bool
  | [] => true
  | v :: r => oneB v && allOne r

inductive EvStore (L : SH) (b off : Nat) (vs : List Value) (sz : Nat) (k : SH → Prop) : Prop
  | lit {xs : List Value} {upd : List Value → SH} [HasOwn L b xs upd] (hs : vs.length = sz ∧ 0 < sz) (ho : allOne vs = true) (h : storeK xs off vs fun ys => listK (upd ys) k)
  | mk {xs : List Value} {upd : List Value → SH} [HasOwn L b xs upd] (hs : vs.length = sz ∧ 0 < sz) (ho : allOne vs = true) (hl : off + vs.length ≤ xs.length) (ys : List Value) (hy : setCells xs off vs = ys) (h : listK (upd ys) k)

inductive EvNew (k : Nat → Prop) : Prop
  | mk (h : ∀ b, k b)

/-! ### Operations that leave the heap alone -/
def bitsI (op : BinOp) (k : IntKind) (x y : Int) : Int :=
  let a := BitVec.ofInt k.bits x
  let b := BitVec.ofInt k.bits y
  match op with
  | .and => k.wrap (a &&& b).toNat
  | .or => k.wrap (a ||| b).toNat
  | .xor => k.wrap (a ^^^ b).toNat
  | _ => k.wrap (a &&& ~~~b).toNat

def fltCmp (op : BinOp) (k : FloatKind) (x y : Nat) (kk : Bool → Prop) : Prop :=
  let c := k.format.order x y
  match op with
  | .eql => kk (c == some .eq)
  | .neq => kk (c != some .eq)
  | .lss => kk (c == some .lt)
  | .leq => kk (c == some .lt || c == some .eq)
  | .gtr => kk (c == some .gt)
  | .geq => kk (c == some .gt || c == some .eq)
  | _ => False

def Value.nilP : Value → Option Bool
  | .pointer a => some a.isNone
  | .slice a _ _ => some a.isNone
  | .nilFunc => some true
  | .func .. => some false
  | .nilIface => some true
  | .iface .. => some false
  | _ => none

/-- Two aggregates are compared. -/
inductive EvAgg (S : Sig) (op : BinOp) (t : Nat) (x y : Value) (k : Value → Prop) : Prop
  | mk (v : Value) (hv : ∀ (ox oy : Operand) (w : World), (do eqGuard op t ox oy x y; binOp op t x y : Sem Value).run S.P w = .ok v w) (h : force v k)

def bytesOf (s : ByteArray) : List UInt8 := s.data.toList

def binK (S : Sig) (op : BinOp) (t : Nat) (x y : Value) (k : Value → Prop) : Prop :=
  match x, y with
  | .int kx a, .int ky b =>
    match op with
    | .shl => EvPow b kx.bits fun c => EvNum kx (a * c) fun n => k (.int kx n)
    | .shr => EvPow b kx.bits fun c => EvVal (a / c) fun n => k (.int kx n)
    | .add => EvNow (kx = ky) (EvNum kx (a + b) fun n => k (.int kx n))
    | .sub => EvNow (kx = ky) (EvNum kx (a - b) fun n => k (.int kx n))
    | .mul => EvNow (kx = ky) (EvNum kx (a * b) fun n => k (.int kx n))
    | .quo => EvNow (kx = ky) (EvDiv b (EvNum kx (a.tdiv b) fun n => k (.int kx n)))
    | .rem => EvNow (kx = ky) (EvDiv b (EvVal (a.tmod b) fun n => k (.int kx n)))
    | .and => EvNow (kx = ky) (EvVal (bitsI .and kx a b) fun n => k (.int kx n))
    | .or => EvNow (kx = ky) (EvVal (bitsI .or kx a b) fun n => k (.int kx n))
    | .xor => EvNow (kx = ky) (EvVal (bitsI .xor kx a b) fun n => k (.int kx n))
    | .andNot => EvNow (kx = ky) (EvVal (bitsI .andNot kx a b) fun n => k (.int kx n))
    | .eql => EvNow (kx = ky) (k (.bool (decide (a = b))))
    | .neq => EvNow (kx = ky) (k (.bool (decide (a ≠ b))))
    | .lss => EvNow (kx = ky) (k (.bool (decide (a < b))))
    | .leq => EvNow (kx = ky) (k (.bool (decide (a ≤ b))))
    | .gtr => EvNow (kx = ky) (k (.bool (decide (a > b))))
    | .geq => EvNow (kx = ky) (k (.bool (decide (a ≥ b))))
  | .string ⟨⟨a⟩⟩, .string ⟨⟨b⟩⟩ =>
    match op with
    | .add => EvNow (a.length + b.length ≤ 9223372036854775807) (k (.string ⟨⟨a ++ b⟩⟩))
    | .eql => k (.bool (decide (a = b)))
    | .neq => k (.bool (decide (a ≠ b)))
    | .lss => k (.bool (Op.bytesLess a b))
    | .leq => k (.bool (Op.bytesLess a b || decide (a = b)))
    | .gtr => k (.bool (!(Op.bytesLess a b || decide (a = b))))
    | .geq => k (.bool (!Op.bytesLess a b))
    | _ => False
  | .float kx a, .float ky b => EvNow (kx = ky) (fltCmp op kx a b fun g => k (.bool g))
  | .bool a, .bool b =>
    match op, S.T t with
    | .eql, some { ty := .bool, .. } => k (.bool (a == b))
    | .neq, some { ty := .bool, .. } => k (.bool (!(a == b)))
    | _, _ => False
  | .agg xs, .agg ys => EvAgg S op t (.agg xs) (.agg ys) k
  | _, _ => False

/-- A pointer, a slice or a function against nil (the other one is nil). -/
def eqNilK (S : Sig) (op : BinOp) (t : Nat) (x y : Value) (k : Value → Prop) : Prop :=
  match S.T t, x, y with
  | some { ty := .ptr _, .. }, .pointer a, .pointer none => (match op with | .eql => k (.bool a.isNone) | .neq => k (.bool (!a.isNone)) | _ => False)
  | some { ty := .ptr _, .. }, .pointer none, .pointer b => (match op with | .eql => k (.bool b.isNone) | .neq => k (.bool (!b.isNone)) | _ => False)
  | some { ty := .slice _, .. }, .slice a _ _, .slice none _ _ => (match op with | .eql => k (.bool a.isNone) | .neq => k (.bool (!a.isNone)) | _ => False)
  | some { ty := .func, .. }, .nilFunc, .nilFunc => (match op with | .eql => k (.bool true) | .neq => k (.bool false) | _ => False)
  | some { ty := .func, .. }, .func _ _ _, .nilFunc => (match op with | .eql => k (.bool false) | .neq => k (.bool true) | _ => False)
  | _, _, _ => False

def isNilLike : Value → Bool
  | .pointer _ | .slice _ _ _ | .nilFunc | .func _ _ _ => true
  | _ => false

/-- The sizes of a type are laid open. -/
def tiK (j : TI) (k : Nat → Prop) : Prop := match j with | ⟨_, n, _, _⟩ => k n
theorem tiK_eq (j : TI) (k : Nat → Prop) : tiK j k = k j.size := rfl
def tjK (j : TI) (k : Nat → Nat → List Value → Prop) : Prop := match j with | ⟨_, n, m, z⟩ => k n m z

theorem tjK_eq (j : TI) (k : Nat → Nat → List Value → Prop) : tjK j k = k j.size j.bytes j.zero := rfl

def nthL {α : Type} : List α → Nat → Option α
  | [], _ => none
  | x :: _, 0 => some x
  | _ :: r, n + 1 => nthL r n
theorem nthL_eq {α : Type} : ∀ (l : List α) (n : Nat), nthL l n = l[n]?
  | [], _ => by simp [nthL]
  | _ :: _, 0 => rfl
  | _ :: r, n + 1 => by simp [nthL, nthL_eq r n]

/-- Part of an aggregate: a field, an element. -/
def partK (S : Sig) (t : Nat) (cs : List Value) (off : Nat) (k : Value → Prop) : Prop :=
  match S.T t with
  | some i => bif i.ty.agg then takeK (dropL cs off) i.size fun vs => k (.agg ⟨vs⟩)
    else match nthL cs off with
      | some v => k v
      | none => False
  | none => False

/-- An element of an array. -/
inductive EvPart (S : Sig) (t : Nat) (cs : List Value) (off : Nat) (k : Value → Prop) : Prop
  | lit (h : partK S t cs off k)
  | sym (v : Value) (i : TI) (hi : S.T t = some i ∧ i.ty.agg = false) (hv : cs[off]? = some v) (h : force v k)

/-- The parts of a struct or an array that is built, laid over its zero cells; a list of (offset, size, cells). -/
def fillK (place : Nat → Option (Nat × Nat)) : List (Nat × Value) → List Value → (List Value → Prop) → Prop
  | [], cells, k => k cells
  | (i, v) :: r, cells, k =>
    match place i with
    | none => False
    | some (off, size) =>
      match v with
      | .agg ⟨vs⟩ => EvNow (vs.length = size) (storeK cells off vs fun cells' => fillK place r cells' k)
      | v => bif Nat.beq size 1 then storeK cells off [v] fun cells' => fillK place r cells' k else False

def structPlace (S : Sig) (fs : List (Nat × Nat)) (i : Nat) : Option (Nat × Nat) :=
  match nthL fs i with
  | some (off, t) => match S.T t with
    | some j => some (off, j.size)
    | none => none
  | none => none

def allT (S : Sig) : List (Nat × Nat) → Bool
  | [] => true
  | (_, t) :: r => (S.T t).isSome && allT S r

def buildK (S : Sig) (t : Nat) (parts : List (Nat × Value)) (k : Value → Prop) : Prop :=
  match S.T t with
  | some i => match i.ty with
    | .struct fs => bif allT S fs then fillK (structPlace S fs) parts i.zero fun cs => k (.agg ⟨cs⟩) else False
    | .array _ e => match S.T e with
      | some j => fillK (fun n => some (n * j.size, j.size)) parts i.zero fun cs => k (.agg ⟨cs⟩)
      | none => False
    | _ => False
  | none => False

/-- A place, in cells. -/
def mulK (q sz : Nat) (k : Nat → Prop) : Prop := match sz with | 1 => k q | _ => EvVal (q * sz) k

def addO (n off : Nat) : Nat := match n with | 0 => off | n => n + off

def fieldAddrK (S : Sig) (t : Nat) (a : Addr) (i : Nat) (k : Value → Prop) : Prop :=
  match a with
  | ⟨b, off, none⟩ => match S.T t with
    | some { ty := .struct fs, .. } => match nthL fs i with
      | some (o, u) => match S.T u with
        | some j => bif Nat.beq j.size 0 then False else k (.pointer (some ⟨b, addO o off, none⟩))
        | none => False
      | none => False
    | _ => False
  | _ => False

def idxAddrK (S : Sig) (t : Nat) (x : Value) (i : Int) (L : SH) (k : Value → Prop) : Prop :=
  match S.T t with
  | some { ty := .slice e, .. } => match x with
    | .slice ao n _ => match S.T e with
      | some j => tiK j fun sz => EvIdx L ao i n sz k
      | none => False
    | _ => False
  | some { ty := .array n e, .. } => match x with
    | .pointer (some ⟨b, off, none⟩) => match S.T e with
      | some j => tiK j fun sz => EvNow (0 ≤ i ∧ i < n) (EvVal i.toNat fun q => mulK q sz fun d => k (.pointer (some ⟨b, addO d off, none⟩)))
      | none => False
    | _ => False
  | _ => False

def bt (l : List UInt8) (i : Nat) : Int := ((l.getD i 0).toNat : Int)

def indexK (S : Sig) (t : Nat) (x : Value) (i : Int) (k : Value → Prop) : Prop :=
  match S.T t with
  | some { ty := .str, .. } => match x with
    | .string ⟨⟨l⟩⟩ => EvNow (0 ≤ i ∧ i < l.length) (EvVal i.toNat fun j => k (.int .u8 (bt l j)))
    | _ => False
  | some { ty := .array n e, .. } => match x with
    | .agg ⟨cs⟩ => match S.T e with
      | some j => tiK j fun sz => EvNow (0 ≤ i ∧ i < n) (EvVal i.toNat fun q => mulK q sz fun d => EvPart S e cs d k)
      | none => False
    | _ => False
  | _ => False


def bndK (v : Option Value) (dflt : Nat) (top : Nat) (k : Nat → Prop) : Prop :=
  match v with
  | none => k dflt
  | some (.int _ i) => EvNow (0 ≤ i ∧ i ≤ top) (EvVal i.toNat k)
  | _ => False

def sliceK (S : Sig) (t : Nat) (x : Value) (lo hi mx : Option Value) (k : Value → Prop) : Prop :=
  match S.T t with
  | some { ty := .str, .. } => match x, mx with
    | .string ⟨⟨s⟩⟩, none => bndK hi s.length s.length fun h => bndK lo 0 h fun l => EvVal ((s.take h).drop l) fun s' => k (.string ⟨⟨s'⟩⟩)
    | _, _ => False
  | some { ty := .slice e, .. } => match x with
    | .slice ao n c => match S.T e with
      | some j => tiK j fun sz => bndK mx c c fun m => bndK hi n m fun h => match lo with
        | none => k (.slice ao h m)
        | some _ => bndK lo 0 h fun l => EvVal (subA ao (l * sz) (decide (m = l))) fun ao' => EvVal (h - l) fun n' => k (.slice ao' n' (m - l))
      | none => False
    | _ => False
  | some { ty := .array n e, .. } => match x with
    | .pointer (some ⟨b, off, none⟩) => match S.T e with
      | some j => tiK j fun sz => bndK mx n n fun m => bndK hi n m fun h => match lo with
        | none => k (.slice (some ⟨b, off, none⟩) h m)
        | some _ => bndK lo 0 h fun l => EvVal (subA (some ⟨b, off, none⟩) (l * sz) (decide (m = l))) fun ao' => EvVal (h - l) fun n' => k (.slice ao' n' (m - l))
      | none => False
    | _ => False
  | _ => False

def loadK (S : Sig) (t : Nat) (a : Addr) (L : SH) (k : Value → Prop) : Prop :=
  match a with
  | ⟨b, off, none⟩ => match S.T t with
    | some i => tiK i fun sz => bif i.ty.agg then EvLoadN L b off sz fun vs => k (.agg ⟨vs⟩) else EvLoad L b off fun v => force v k
    | none => False
  | _ => False

def lenK (S : Sig) (t : Nat) (x : Value) (k : Value → Prop) : Prop :=
  match S.T t with
  | some { ty := .str, .. } => match x with
    | .string ⟨⟨l⟩⟩ => k (.int .i64 (l.length : Nat))
    | _ => False
  | some { ty := .slice _, .. } => match x with
    | .slice _ n _ => k (.int .i64 (n : Nat))
    | _ => False
  | some { ty := .array n _, .. } => k (.int .i64 (n : Nat))
  | some { ty := .ptr e, .. } => match S.T e with
    | some { ty := .array n _, .. } => k (.int .i64 (n : Nat))
    | _ => False
  | _ => False

inductive EvStr (L : SH) (ao : Option Addr) (n : Nat) (k : List UInt8 → Prop) : Prop
  | nil (h : ao = none) (hk : k [])
  | at {base : Nat} {xs : List Value} (b off : Nat) [HasCells L b base xs] (ha : ao = some ⟨b, off, none⟩) (j : Nat) (hj : off = j + base) (l : List UInt8) (hl : l.length = n) (hz : (xs.drop j).take n = l.map fun b => .int .u8 b.toNat) (hk : k l)
  | mk {zs : List Value} [HasSl L ao zs] (l : List UInt8) (hl : l.length = n) (hz : zs.take n = l.map fun b => .int .u8 b.toNat) (hk : k l)

def convK (S : Sig) (src dst : Nat) (v : Value) (L : SH) (k : Value → Prop) : Prop :=
  match S.T src, S.T dst with
  | some { ty := .slice e, .. }, some { ty := .str, .. } => match S.T e, v with
    | some { ty := .int .u8, .. }, .slice ao n _ => EvStr L ao n fun l => k (.string ⟨⟨l⟩⟩)
    | _, _ => False
  | some _, some { ty := .int kd, .. } => match v with
    | .int _ n => EvNum kd n fun m => k (.int kd m)
    | _ => False
  | some _, some { ty := .str, .. } => match v with
    | .string s => k (.string s)
    | _ => False
  | _, _ => False

def builtinK (S : Sig) (b : Builtin) (ts : List Nat) (xs : List Value) (k : Value → Prop) : Prop :=
  match b, ts, xs with
  | .len, [t], [x] => lenK S t x k
  | .cap, [t], [.slice _ _ c] => match S.T t with
    | some { ty := .slice _, .. } => k (.int .i64 (c : Nat))
    | _ => False
  | .min, _, [.int ka a, .int _ b] => EvVal (if b < a then b else a) fun n => k (.int ka n)
  | .max, _, [.int ka a, .int _ b] => EvVal (if b > a then b else a) fun n => k (.int ka n)
  | _, _, _ => False

def pureK (S : Sig) (o : Oper) (f : Fr) (L : SH) (k : Value → Prop) : Prop :=
  match o.op with
  | .move x => rd f x k
  | .assign x => rd f x k
  | .pick c a b => rd f c fun
    | .bool g => EvIte g a b fun x => rd f x k
    | _ => False
  | .nilCheck x => rd f x fun
    | .pointer (some a) => k (.pointer (some a))
    | .func (.func g) p q => k (.func (.func g) p q)
    | _ => False
  | .binOp op t x y _ => rd f x fun vx => rd f y fun vy => bif isNilLike vx then eqNilK S op t vx vy k else binK S op t vx vy k
  | .unOp op _ x => rd f x fun
    | .bool b => (match op with | .not => k (.bool (!b)) | _ => False)
    | .int kd n => (match op with | .neg => EvNum kd (0 - n) fun m => k (.int kd m) | .xor => EvVal (bitsI .xor kd (if kd.signed then -1 else kd.max) n) fun m => k (.int kd m) | _ => False)
    | _ => False
  | .convert src dst x => rd f x fun v => convK S src dst v L k
  | .makeInterface t x => rd f x fun v => match S.T t with
    | some { ty := .iface, .. } => False
    | some _ => k (.iface t v)
    | none => False
  | .makeFunc fn first cap => rdL f first.toList fun fs => rdL f cap.toList fun cs => k (.func fn ⟨fs⟩ ⟨cs⟩)
  | .build t parts => rdP f parts.toList fun ps => buildK S t ps k
  | .extract x i => rd f x fun
    | .tuple vs => (match nthL vs.toList i with | some v => k v | none => False)
    | _ => False
  | .field t x i => rd f x fun
    | .agg cs => (match S.T t with
      | some { ty := .struct fs, .. } => (match nthL fs i with | some (o, u) => partK S u cs.toList o k | none => False)
      | _ => False)
    | _ => False
  | .fieldAddr t x i => rd f x fun
    | .pointer (some a) => fieldAddrK S t a i k
    | _ => False
  | .indexAddr t x i => rd f x fun vx => rd f i fun
    | .int _ n => idxAddrK S t vx n L k
    | _ => False
  | .index t x i => rd f x fun vx => rd f i fun
    | .int _ n => indexK S t vx n k
    | _ => False
  | .slice t x lo hi mx => rd f x fun vx => rdO f lo fun l => rdO f hi fun h => rdO f mx fun m => EvNow (h = none → m = none) (sliceK S t vx l h m k)
  | .load t x => rd f x fun
    | .pointer (some a) => loadK S t a L k
    | _ => False
  | .call c => match c.callee with
    | .builtin b => rdL f c.args.toList fun xs => builtinK S b c.argTypes.toList xs k
    | _ => False
  | _ => False

end Go.Proofs.Ytloknkdomgeolaa.She
