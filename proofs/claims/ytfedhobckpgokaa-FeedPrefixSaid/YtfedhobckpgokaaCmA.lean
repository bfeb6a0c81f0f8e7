/-
  The canonical machine, part A: its values, blocks, heap, and what one operation does.
-/
import Derived.WalkKit
import Derived.Below
namespace Go.CM
open Go

/-- Canonical values. 'rsl', 'rptr': memory that is only read, by value. 'sl', 'ptr': memory of the call's own, by the number of its block. -/
inductive CV where
  | bool (b : Bool)
  | int (k : IntKind) (n : Int)
  | str (s : List UInt8)
  | nilP | nilS | nilM | nilF | nilI
  | ag (cs : List CV)
  | tu (vs : List CV)
  | ptr (b off sz : Nat)
  | rptr (cs : List CV) (off : Nat)
  | sl (z b off len cap sz : Nat)
  | rsl (z : Nat) (es : List (List CV))
  | fn (f : FuncId) (first captured : List CV)
  | mp (b : Nat)
  | it (b : Nat)
  | ifc (t : TypeId) (v : CV)
  | bad
  deriving Inhabited

/-- Blocks. -/
inductive CB where
  | none
  | dead
  | cells (sz : Nat) (cs : List CV)
  | map (es : List (CV × CV × Nat)) (clock : Nat)
  | iter (s : List UInt8) (pos : Nat)
  deriving Inhabited

/-! ### A table by numbers: a binary tree -/
inductive Tr (α : Type) where
  | nil
  | node (l : Tr α) (v : Option α) (r : Tr α)

def Tr.get {α : Type} : Tr α → Nat → Option α
  | .nil, _ => none
  | .node l v r, n => match Nat.beq n 0 with
    | true => v
    | false => match Nat.beq (n % 2) 1 with
      | true => l.get (n / 2)
      | false => r.get (n / 2 - 1)

def Tr.setF {α : Type} : Nat → Tr α → Nat → α → Tr α
  | 0, t, _, _ => t
  | k + 1, .nil, n, x => match Nat.beq n 0 with
    | true => .node .nil (some x) .nil
    | false => match Nat.beq (n % 2) 1 with
      | true => .node (Tr.setF k .nil (n / 2) x) none .nil
      | false => .node .nil none (Tr.setF k .nil (n / 2 - 1) x)
  | k + 1, .node l v r, n, x => match Nat.beq n 0 with
    | true => .node l (some x) r
    | false => match Nat.beq (n % 2) 1 with
      | true => .node (Tr.setF k l (n / 2) x) v r
      | false => .node l v (Tr.setF k r (n / 2 - 1) x)

def Tr.set {α : Type} (t : Tr α) (n : Nat) (x : α) : Tr α := t.setF (n + 1) n x

theorem nbeq_false {a b : Nat} (h : ¬ a = b) : Nat.beq a b = false := by
  cases hb : Nat.beq a b with
  | false => rfl
  | true => exact absurd (Nat.eq_of_beq_eq_true hb) h
theorem nbeq_true {a b : Nat} (h : a = b) : Nat.beq a b = true := by subst h; exact Nat.beq_refl a

theorem Tr.get_setF {α : Type} : ∀ (k : Nat) (t : Tr α) (n : Nat) (x : α) (m : Nat), n < k → (t.setF k n x).get m = if m = n then some x else t.get m
  | 0, _, _, _, _, h => by omega
  | k + 1, .nil, n, x, m, h => by
    unfold Tr.setF
    by_cases h0 : n = 0
    · subst h0
      simp only
      unfold Tr.get
      by_cases hm : m = 0
      · subst hm; simp
      · have : Nat.beq m 0 = false := nbeq_false hm
        simp only [this, if_neg hm]
        split <;> rfl
    · have hb : Nat.beq n 0 = false := nbeq_false h0
      simp only [hb]
      by_cases h1 : n % 2 = 1
      · have hb1 : Nat.beq (n % 2) 1 = true := nbeq_true h1
        simp only [hb1]
        unfold Tr.get
        by_cases hm : m = 0
        · subst hm; simp; omega
        · have : Nat.beq m 0 = false := nbeq_false hm
          simp only [this]
          by_cases hm1 : m % 2 = 1
          · have : Nat.beq (m % 2) 1 = true := nbeq_true hm1
            simp only [this]
            rw [Tr.get_setF k .nil (n / 2) x (m / 2) (by omega)]
            by_cases he : m = n
            · subst he; simp
            · rw [if_neg he, if_neg (by omega)]; rfl
          · have : Nat.beq (m % 2) 1 = false := nbeq_false hm1
            simp only [this]
            rw [if_neg (by intro hh; subst hh; exact hm1 h1)]
            rfl
      · have hb1 : Nat.beq (n % 2) 1 = false := nbeq_false h1
        simp only [hb1]
        unfold Tr.get
        by_cases hm : m = 0
        · subst hm; simp; omega
        · have : Nat.beq m 0 = false := nbeq_false hm
          simp only [this]
          by_cases hm1 : m % 2 = 1
          · have : Nat.beq (m % 2) 1 = true := nbeq_true hm1
            simp only [this]
            rw [if_neg (by intro hh; subst hh; exact h1 hm1)]
            rfl
          · have : Nat.beq (m % 2) 1 = false := nbeq_false hm1
            simp only [this]
            rw [Tr.get_setF k .nil (n / 2 - 1) x (m / 2 - 1) (by omega)]
            by_cases he : m = n
            · subst he; simp
            · rw [if_neg he, if_neg (by omega)]; rfl
  | k + 1, .node l v r, n, x, m, h => by
    unfold Tr.setF
    by_cases h0 : n = 0
    · subst h0
      simp only
      unfold Tr.get
      by_cases hm : m = 0
      · subst hm; simp
      · have : Nat.beq m 0 = false := nbeq_false hm
        simp only [this, if_neg hm]
    · have hb : Nat.beq n 0 = false := nbeq_false h0
      simp only [hb]
      by_cases h1 : n % 2 = 1
      · have hb1 : Nat.beq (n % 2) 1 = true := nbeq_true h1
        simp only [hb1]
        unfold Tr.get
        by_cases hm : m = 0
        · subst hm; simp; omega
        · have : Nat.beq m 0 = false := nbeq_false hm
          simp only [this]
          by_cases hm1 : m % 2 = 1
          · have : Nat.beq (m % 2) 1 = true := nbeq_true hm1
            simp only [this]
            rw [Tr.get_setF k l (n / 2) x (m / 2) (by omega)]
            by_cases he : m = n
            · subst he; simp
            · rw [if_neg he, if_neg (by omega)]
          · have : Nat.beq (m % 2) 1 = false := nbeq_false hm1
            simp only [this]
            rw [if_neg (by intro hh; subst hh; exact hm1 h1)]
      · have hb1 : Nat.beq (n % 2) 1 = false := nbeq_false h1
        simp only [hb1]
        unfold Tr.get
        by_cases hm : m = 0
        · subst hm; simp; omega
        · have : Nat.beq m 0 = false := nbeq_false hm
          simp only [this]
          by_cases hm1 : m % 2 = 1
          · have : Nat.beq (m % 2) 1 = true := nbeq_true hm1
            simp only [this]
            rw [if_neg (by intro hh; subst hh; exact h1 hm1)]
          · have : Nat.beq (m % 2) 1 = false := nbeq_false hm1
            simp only [this]
            rw [Tr.get_setF k r (n / 2 - 1) x (m / 2 - 1) (by omega)]
            by_cases he : m = n
            · subst he; simp
            · rw [if_neg he, if_neg (by omega)]

theorem Tr.get_set {α : Type} (t : Tr α) (n : Nat) (x : α) (m : Nat) : (t.set n x).get m = if m = n then some x else t.get m := Tr.get_setF _ _ _ _ _ (by omega)

/-- The heap. -/
structure Hp where
  n : Nat
  t : Tr CB

def Hp.f (h : Hp) (b : Nat) : CB := match h.t.get b with | some c => c | none => .none
def Hp.empty : Hp := ⟨0, .nil⟩
def fupd {α : Type} (f : Nat → α) (i : Nat) (v : α) : Nat → α := fun j => if j = i then v else f j
def Hp.push (h : Hp) (c : CB) : Hp := ⟨h.n + 1, h.t.set h.n c⟩
def Hp.set (h : Hp) (b : Nat) (c : CB) : Hp := ⟨h.n, h.t.set b c⟩

theorem push_n (h : Hp) (c : CB) : (h.push c).n = h.n + 1 := rfl
theorem set_n (h : Hp) (b : Nat) (c : CB) : (h.set b c).n = h.n := rfl
theorem push_f (h : Hp) (c : CB) : (h.push c).f = fupd h.f h.n c := by
  funext b
  simp only [Hp.f, Hp.push, fupd, Tr.get_set]
  by_cases hb : b = h.n
  · simp [hb]
  · simp [hb]
theorem set_f (h : Hp) (b : Nat) (c : CB) : (h.set b c).f = fupd h.f b c := by
  funext b'
  simp only [Hp.f, Hp.set, fupd, Tr.get_set]
  by_cases hb : b' = b
  · simp [hb]
  · simp [hb]
theorem empty_f (b : Nat) : Hp.empty.f b = .none := rfl

@[simp] theorem fupd_same {α : Type} (f : Nat → α) (i : Nat) (v : α) : fupd f i v i = v := by simp [fupd]
theorem fupd_ne {α : Type} (f : Nat → α) (i j : Nat) (v : α) (h : j ≠ i) : fupd f i v j = f j := by simp [fupd, h]

/-- A value of one cell that may be stored. -/
def CV.one : CV → Bool
  | .ag _ | .tu _ | .bad => false
  | _ => true

def CV.cells : CV → Option (List CV)
  | .ag cs => some cs
  | .tu _ | .bad => none
  | v => some [v]

/-- A constant of the program's text. -/
def ofV1 : Value → CV
  | .bool b => .bool b
  | .int k n => .int k n
  | .string s => .str s.data.toList
  | .pointer a => match a with | none => .nilP | some _ => .bad
  | .slice a l c => match a, l, c with | none, 0, 0 => .nilS | _, _, _ => .bad
  | .map r => match r with | none => .nilM | some _ => .bad
  | .nilFunc => .nilF
  | .nilIface => .nilI
  | .func fn first captured => match fn, first.toList, captured.toList with | .func f, [], [] => .fn f [] [] | _, _, _ => .bad
  | _ => .bad
def ofV : Value → CV
  | .agg cs => if cs.toList.all Value.oneCell' then .ag (cs.toList.map ofV1) else .bad
  | .tuple vs => .tu (vs.toList.map ofV1)
  | v => ofV1 v

def ev (G : Nat → CV) (σ : Nat → CV) : Operand → CV
  | .tmp t => σ t
  | .const v => ofV v
  | .func f => .fn f [] []
  | .global g => G g

/-! ### Types -/
def aggT (P : Program) (t : TypeId) : Option Bool := (P.underlying t).map fun d => match d with | .struct _ | .array _ _ => true | _ => false
def sizeT (P : Program) (t : TypeId) : Option Nat := (P.info? t).map (·.size)
def bytesT (P : Program) (t : TypeId) : Option Nat := (P.info? t).map (·.bytes)
def zeroT (P : Program) (t : TypeId) : Option (List CV) := ((P.info? t).bind (·.zero)).bind fun v => if v.cells.toList.all Value.oneCell' then some (v.cells.toList.map ofV1) else none
def elemT (P : Program) (t : TypeId) : Option TypeId := match P.underlying t with | some (.slice e) => some e | _ => none

/-- A part of a row of cells, as a value of type t. -/
def partC (P : Program) (t : TypeId) (cs : List CV) (off : Nat) : Option CV :=
  match aggT P t, sizeT P t with
  | some true, some n => if off + n ≤ cs.length then some (.ag ((cs.drop off).take n)) else none
  | some false, _ => cs[off]?
  | _, _ => none

/-- The cells behind a pointer. -/
def reach (h : Hp) : CV → Option (List CV × Nat)
  | .ptr b off sz => match h.f b with
    | .cells n cs => if n = sz then some (cs, off) else none
    | _ => none
  | .rptr cs off => some (cs, off)
  | _ => none

def loadC (P : Program) (h : Hp) (t : TypeId) (p : CV) : Option CV :=
  match reach h p with
  | some (cs, off) => partC P t cs off
  | none => none

def splice (cs : List CV) (off : Nat) (vs : List CV) : List CV := cs.take off ++ vs ++ cs.drop (off + vs.length)

def storeC (P : Program) (h : Hp) (t : TypeId) (p v : CV) : Option Hp :=
  match p, v.cells, sizeT P t with
  | .ptr b off sz, some vs, some n => match h.f b with
    | .cells m cs => if m = sz ∧ vs.length = n ∧ off + n ≤ m then some (h.set b (.cells m (splice cs off vs))) else none
    | _ => none
  | _, _, _ => none

def asInt : CV → Option Int
  | .int _ n => some n
  | _ => none

def fieldOf (P : Program) (s : TypeId) (f : Nat) : Option Field := match P.underlying s with | some (.struct fs) => fs[f]? | _ => none

def cellAt : CV → Nat → Option CV
  | .ptr b off sz, k => some (.ptr b (off + k) sz)
  | .rptr cs off, k => some (.rptr cs (off + k))
  | _, _ => none

def fieldAddrC (P : Program) (s : TypeId) (x : CV) (f : Nat) : Option CV :=
  match fieldOf P s f with
  | some fd => match sizeT P fd.type with
    | some (_ + 1) => cellAt x fd.offset
    | _ => none
  | none => none

def indexAddrC (P : Program) (t : TypeId) (x ix : CV) : Option CV :=
  match P.underlying t, asInt ix with
  | some (.array len e), some i => match sizeT P e with
    | some z => if 0 ≤ i ∧ i < len then cellAt x (i.toNat * z) else none
    | none => none
  | some (.slice e), some i => match sizeT P e, x with
    | some z, .sl z' b off len _ sz => if z = z' ∧ 0 ≤ i ∧ i < len then some (.ptr b (off + i.toNat * z) sz) else none
    | some z, .rsl z' es => if z = z' ∧ 0 ≤ i then (es[i.toNat]?).map fun cs => .rptr cs 0 else none
    | _, _ => none
  | _, _ => none

def fillC (place : Nat → Option (Nat × Nat)) (cells : List CV) : List (Nat × CV) → Option (List CV)
  | [] => some cells
  | (i, v) :: rest => match place i, v.cells with
    | some (off, size), some vs => if vs.length = size ∧ off + size ≤ cells.length then fillC place (splice cells off vs) rest else none
    | _, _ => none

def placeS (P : Program) (fs : Array Field) (i : Nat) : Option (Nat × Nat) := (fs[i]?).bind fun f => (sizeT P f.type).map fun n => (f.offset, n)

def buildC (P : Program) (t : TypeId) (parts : List (Nat × CV)) : Option CV :=
  match zeroT P t, P.underlying t with
  | some zero, some (.struct fs) => if !(fs.toList.all fun f => (sizeT P f.type).isSome) then none else (fillC (placeS P fs) zero parts).map .ag
  | some zero, some (.array _ e) => match sizeT P e with
    | some n => (fillC (fun i => some (i * n, n)) zero parts).map .ag
    | none => none
  | _, _ => none

def repeatC (zero : List CV) : Nat → List CV
  | 0 => []
  | n + 1 => zero ++ repeatC zero n

def buildSliceC (P : Program) (h : Hp) (t : TypeId) (len : Nat) (parts : List (Nat × CV)) : Option (CV × Hp) :=
  match elemT P t with
  | some e => match sizeT P e, zeroT P e with
    | some z, some zero => if zero.length = z ∧ len * z ≤ 16777216 then
        (fillC (fun i => some (i * z, z)) (repeatC zero len) parts).map fun cs => (.sl z h.n 0 len len (len * z), h.push (.cells (len * z) cs))
      else none
    | _, _ => none
  | none => none

/-! ### Integers, strings, equality -/
def binInt (op : BinOp) (k : IntKind) (a : Int) (k' : IntKind) (b : Int) : Option CV :=
  match op with
  | .shl => if b < 0 then none else some (.int k (k.wrap (a * 2 ^ min b.toNat k.bits)))
  | .shr => if b < 0 then none else some (.int k (a.fdiv (2 ^ min b.toNat k.bits)))
  | .add => if k = k' then some (.int k (k.wrap (a + b))) else none
  | .sub => if k = k' then some (.int k (k.wrap (a - b))) else none
  | .mul => if k = k' then some (.int k (k.wrap (a * b))) else none
  | .quo => if k = k' ∧ b ≠ 0 then some (.int k (k.wrap (a.tdiv b))) else none
  | .rem => if k = k' ∧ b ≠ 0 then some (.int k (a.tmod b)) else none
  | .and => if k = k' then some (.int k (k.wrap (BitVec.ofInt k.bits a &&& BitVec.ofInt k.bits b).toNat)) else none
  | .or => if k = k' then some (.int k (k.wrap (BitVec.ofInt k.bits a ||| BitVec.ofInt k.bits b).toNat)) else none
  | .xor => if k = k' then some (.int k (k.wrap (BitVec.ofInt k.bits a ^^^ BitVec.ofInt k.bits b).toNat)) else none
  | .andNot => if k = k' then some (.int k (k.wrap (BitVec.ofInt k.bits a &&& ~~~BitVec.ofInt k.bits b).toNat)) else none
  | .eql => if k = k' then some (.bool (a == b)) else none
  | .neq => if k = k' then some (.bool (a != b)) else none
  | .lss => if k = k' then some (.bool (decide (a < b))) else none
  | .leq => if k = k' then some (.bool (decide (a ≤ b))) else none
  | .gtr => if k = k' then some (.bool (decide (a > b))) else none
  | .geq => if k = k' then some (.bool (decide (a ≥ b))) else none

def binStr (op : BinOp) (a b : List UInt8) : Option CV :=
  match op with
  | .eql => some (.bool (a == b))
  | .neq => some (.bool (!(a == b)))
  | .lss => some (.bool (Op.bytesLess a b))
  | .leq => some (.bool (Op.bytesLess a b || a == b))
  | .gtr => some (.bool (!(Op.bytesLess a b || a == b)))
  | .geq => some (.bool (!Op.bytesLess a b))
  | .add => if a.length + b.length ≤ 9223372036854775807 then some (.str (a ++ b)) else none
  | _ => none

/-- '==' at a type, as far as it is decided by values alone. -/
def eqT (P : Program) : Nat → TypeId → CV → CV → Option Bool
  | 0, _, _, _ => none
  | d + 1, t, x, y =>
    match P.underlying t, x, y with
    | some .bool, .bool a, .bool b => some (a == b)
    | some (.int _), .int k a, .int k' b => if k = k' then some (a == b) else none
    | some .string, .str a, .str b => some (a == b)
    | some (.struct fs), .ag xs, .ag ys => if P.stoodInHeld t then none else eqFields P (eqT P d) xs ys fs.toList
    | some (.array n e), .ag xs, .ag ys => match sizeT P e with
      | some z => eqElems P (eqT P d) e z xs ys n 0
      | none => none
    | some (.slice _), .nilS, .nilS => some true
    | some (.slice _), .nilS, .sl .. | some (.slice _), .nilS, .rsl .. | some (.slice _), .sl .., .nilS | some (.slice _), .rsl .., .nilS => some false
    | _, _, _ => none
where
  eqFields (P : Program) (eq : TypeId → CV → CV → Option Bool) (xs ys : List CV) : List Field → Option Bool
    | [] => some true
    | f :: fs => if f.name = "_" then eqFields P eq xs ys fs else
      match partC P f.type xs f.offset, partC P f.type ys f.offset with
      | some a, some b => match eq f.type a b with
        | some true => eqFields P eq xs ys fs
        | some false => some false
        | none => none
      | _, _ => none
  eqElems (P : Program) (eq : TypeId → CV → CV → Option Bool) (e : TypeId) (z : Nat) (xs ys : List CV) : Nat → Nat → Option Bool
    | 0, _ => some true
    | n + 1, i => match partC P e xs (i * z), partC P e ys (i * z) with
      | some a, some b => match eq e a b with
        | some true => eqElems P eq e z xs ys n (i + 1)
        | some false => some false
        | none => none
      | _, _ => none

/-- Where '==' is guarded by the model: two aggregates of a type that holds an interface with methods. -/
def eqOk (P : Program) (t : TypeId) : CV → CV → Bool
  | .ag _, .ag _ => !P.eqGuardType P.depth t
  | _, _ => true

def binC (P : Program) (op : BinOp) (t : TypeId) (x y : CV) : Option CV :=
  match x, y with
  | .int k a, .int k' b => binInt op k a k' b
  | .str a, .str b => binStr op a b
  | x, y => match op with
    | .eql => if eqOk P t x y then (eqT P 10000 t x y).map .bool else none
    | .neq => if eqOk P t x y then (eqT P 10000 t x y).map fun b => .bool (!b) else none
    | _ => none

def unC (op : UnOp) (x : CV) : Option CV :=
  match op, x with
  | .not, .bool b => some (.bool (!b))
  | .neg, .int k n => some (.int k (k.wrap (0 - n)))
  | .xor, .int k n => some (.int k (k.wrap (BitVec.ofInt k.bits (if k.signed then -1 else k.max) ^^^ BitVec.ofInt k.bits n).toNat))
  | _, _ => none

/-! ### Slices -/
def chunks (z : Nat) : Nat → List CV → List (List CV)
  | 0, _ => []
  | n + 1, cs => cs.take z :: chunks z n (cs.drop z)

def byteC (b : UInt8) : CV := .int .u8 b.toNat

/-- What a slice (or a string, to 'append' and 'copy') holds: its cells in a row, and how many elements. -/
def contents (h : Hp) (z : Nat) : CV → Option (List CV × Nat)
  | .nilS => some ([], 0)
  | .rsl z' es => if z = z' then some (es.flatten, es.length) else none
  | .sl z' b off len _ sz => match h.f b with
    | .cells n cs => if n = sz ∧ z = z' then some ((cs.drop off).take (len * z), len) else none
    | _ => none
  | .str s => if z = 1 then some (s.map byteC, s.length) else none
  | _ => none

def roomMax : Nat := 140737488355328

def zeroLen (P : Program) (t : TypeId) : Option Nat := ((P.info? t).bind (·.zero)).map (·.cells.size)

/-- The cells xs, n elements, appended to s. -/
def appendW (P : Program) (h : Hp) (e : TypeId) (z by_ : Nat) (s : CV) (xs : List CV) (n : Nat) : Option (CV × Hp) :=
  if n = 0 then (match s with | .nilS | .rsl .. | .sl .. => some (s, h) | _ => none)
  else if z = 0 ∨ by_ = 0 ∨ zeroLen P e ≠ some z then none else match s with
    | .nilS => if n * by_ ≤ roomMax then some (.sl z h.n 0 n n (n * z), h.push (.cells (n * z) xs)) else none
    | .sl z' b off len cap sz => match h.f b with
      | .cells m cs =>
        if m = sz ∧ z = z' ∧ (len + n) * by_ ≤ roomMax then
          if len + n ≤ cap then some (.sl z b off (len + n) cap sz, h.set b (.cells m (splice cs (off + len * z) xs)))
          else if off + cap * z < sz then some (.sl z h.n 0 (len + n) (len + n) ((len + n) * z), h.push (.cells ((len + n) * z) ((cs.drop off).take (len * z) ++ xs)))
          else if off = 0 then some (.sl z b 0 (len + n) (len + n) ((len + n) * z), h.set b (.cells ((len + n) * z) (cs.take (len * z) ++ xs)))
          else none
        else none
      | _ => none
    | _ => none

def appendC (P : Program) (h : Hp) (t : TypeId) (s x : CV) : Option (CV × Hp) :=
  match elemT P t with
  | none => none
  | some e => match sizeT P e, bytesT P e with
    | some z, some by_ => match contents h z x with
      | none => none
      | some (xs, n) => appendW P h e z by_ s xs n
    | _, _ => none

def boundC (x : CV) (y : Nat) : Option Nat := match x with | .int _ i => if 0 ≤ i ∧ i ≤ y then some i.toNat else none | _ => none
def boundsC (len cap : Nat) (lo hi mx : Option CV) : Option (Nat × Nat × Nat) :=
  match (match mx with | some v => boundC v cap | none => some cap) with
  | none => none
  | some m => match (match hi, mx with | some v, _ => boundC v m | none, none => some len | none, some _ => none) with
    | none => none
    | some h => match (match lo with | some v => boundC v h | none => some 0) with
      | none => none
      | some l => some (l, h, m)

def sliceC (P : Program) (t : TypeId) (x : CV) (lo hi mx : Option CV) : Option CV :=
  match P.underlying t, x with
  | some (.array n e), x => match sizeT P e, boundsC n n lo hi mx with
    | some z, some (l, hh, m) => match x with
      | .ptr b off sz => if off + m * z ≤ sz then (if m = l then some (.rsl z []) else some (.sl z b (off + l * z) (hh - l) (m - l) sz)) else none
      | .rptr cs off => if off + n * z ≤ cs.length then some (.rsl z (chunks z (hh - l) (cs.drop (off + l * z)))) else none
      | _ => none
    | _, _ => none
  | some (.slice e), x => match sizeT P e, x with
    | some z, .sl z' b off len cap sz => if z = z' then (boundsC len cap lo hi mx).map fun (l, hh, m) => if m = l then .rsl z [] else .sl z b (off + l * z) (hh - l) (m - l) sz else none
    | some z, .rsl z' es => if z = z' then (boundsC es.length es.length lo hi mx).map fun (l, hh, _) => .rsl z ((es.drop l).take (hh - l)) else none
    | some _, .nilS => (boundsC 0 0 lo hi mx).map fun _ => .nilS
    | _, _ => none
  | some .string, .str s => match mx with
    | none => (boundsC s.length s.length lo hi none).map fun (l, hh, _) => .str ((s.drop l).take (hh - l))
    | some _ => none
  | _, _ => none

def lenC (P : Program) (t : TypeId) (x : CV) : Option CV :=
  match P.underlying t, x with
  | some .string, .str s => some (.int .i64 s.length)
  | some (.array n _), _ => some (.int .i64 n)
  | some (.slice _), .nilS => some (.int .i64 0)
  | some (.slice _), .sl _ _ _ len _ _ => some (.int .i64 len)
  | some (.slice _), .rsl _ es => some (.int .i64 es.length)
  | some (.map _ _), .nilM => some (.int .i64 0)
  | _, _ => none

def makeSliceC (P : Program) (h : Hp) (t : TypeId) (l c : CV) : Option (CV × Hp) :=
  match elemT P t, asInt l, asInt c with
  | some e, some l, some c => match sizeT P e, bytesT P e, zeroT P e with
    | some z, some by_, some zero =>
      if zero.length = z ∧ 0 ≤ l ∧ l ≤ c ∧ c < 9223372036854775808 ∧ by_ * c ≤ roomMax then
        some (.sl z h.n 0 l.toNat c.toNat (c.toNat * z), h.push (.cells (c.toNat * z) (repeatC zero c.toNat)))
      else none
    | _, _, _ => none
  | _, _, _ => none

def copyC (P : Program) (h : Hp) (t : TypeId) (d x : CV) : Option (CV × Hp) :=
  match elemT P t with
  | none => none
  | some e => match sizeT P e with
    | none => none
    | some z => match contents h z x with
      | none => none
      | some (xs, n) => match d with
        | .nilS => some (.int .i64 0, h)
        | .sl z' b off len _ sz => match h.f b with
          | .cells m cs => if m = sz ∧ z = z' then some (.int .i64 ((min n len : Nat) : Int), h.set b (.cells m (splice cs off (xs.take (min n len * z))))) else none
          | _ => none
        | _ => none

def bytesOfC : List CV → Option (List UInt8)
  | [] => some []
  | .int .u8 n :: r => (bytesOfC r).map (UInt8.ofNat n.toNat :: ·)
  | _ :: _ => none

def convertC (P : Program) (h : Hp) (src dst : TypeId) (x : CV) : Option CV :=
  match P.underlying src, P.underlying dst, x with
  | some _, some (.int k), .int _ n => some (.int k (k.wrap n))
  | some _, some .string, .str s => some (.str s)
  | some (.slice e), some .string, x => match P.underlying e, x with
    | some (.int .u8), .nilS => some (.str [])
    | some (.int .u8), x => match contents h 1 x, x with
      | some _, .str _ => none
      | some (cs, _), _ => (bytesOfC cs).map .str
      | none, _ => none
    | _, _ => none
  | _, _, _ => none

/-- '[]byte(s)': a row that is only read. -/
def bytesStrC (P : Program) (src dst : TypeId) (x : CV) : Option CV :=
  match P.underlying src, P.underlying dst, x with
  | some _, some (.slice e), .str s => match P.underlying e with
    | some (.int .u8) => some (.rsl 1 (s.map fun b => [byteC b]))
    | _ => none
  | _, _, _ => none

def capC (P : Program) (t : TypeId) (x : CV) : Option CV :=
  match P.underlying t, x with
  | some (.array n _), _ => some (.int .i64 n)
  | some (.slice _), .nilS => some (.int .i64 0)
  | _, _ => none

def clearC (P : Program) (h : Hp) (t : TypeId) (x : CV) : Option Hp :=
  match P.underlying t, x with
  | some (.slice _), .nilS => some h
  | some (.slice _), .rsl _ [] => some h
  | some (.slice e), .sl z b off len _ sz => if len = 0 then some h else match zeroT P e, h.f b with
    | some zero, .cells m cs => if m = sz ∧ zero.length = z then some (h.set b (.cells m (splice cs off (repeatC zero len)))) else none
    | _, _ => none
  | _, _ => none

def indexC (P : Program) (t : TypeId) (x ix : CV) : Option CV :=
  match P.underlying t, x, asInt ix with
  | some (.array n e), .ag cs, some i => match sizeT P e with
    | some z => if 0 ≤ i ∧ i < n then partC P e cs (i.toNat * z) else none
    | none => none
  | some .string, .str s, some i => if 0 ≤ i then (s[i.toNat]?).map byteC else none
  | _, _, _ => none

/-! ### One operation -/
inductive Res where
  | val (v : CV) (h : Hp)
  | call (f : FuncId) (args : List CV) (h : Hp)

def min2C : CV → CV → Option CV
  | .int k x, .int k' y => if k = k' then some (.int k (if y < x then y else x)) else none
  | _, _ => none
def max2C : CV → CV → Option CV
  | .int k x, .int k' y => if k = k' then some (.int k (if x < y then y else x)) else none
  | _, _ => none

def undefC : CV := .tu []

/-- 'append(s, make([]E, n)...)'. -/
def appendZC (P : Program) (h : Hp) (t : TypeId) (s x : CV) : Option (CV × Hp) :=
  match elemT P t, asInt x with
  | some e, some n => match sizeT P e, bytesT P e, zeroT P e with
    | some z, some by_, some zero =>
      if zero.length = z ∧ 0 ≤ n ∧ n < 9223372036854775808 ∧ n.toNat * by_ ≤ roomMax then appendW P h e z by_ s (repeatC zero n.toNat) n.toNat else none
    | _, _, _ => none
  | _, _ => none

def builtinC (P : Program) (h : Hp) (b : Builtin) (ts : List TypeId) (args : List CV) : Option Res :=
  match b, ts, args with
  | .len, [t], [x] => (lenC P t x).map fun v => .val v h
  | .append, [t, u], [s, x] => match P.underlying u with
    | some (.int _) => (appendZC P h t s x).map fun (v, h') => .val v h'
    | none => none
    | _ => (appendC P h t s x).map fun (v, h') => .val v h'
  | .copy, [t, _], [d, x] => (copyC P h t d x).map fun (v, h') => .val v h'
  | .cap, [t], [x] => (capC P t x).map fun v => .val v h
  | .clear, [t], [x] => (clearC P h t x).map fun h' => .val (.tu []) h'
  | .min, _, [x, y] => (min2C x y).map fun v => .val v h
  | .max, _, [x, y] => (max2C x y).map fun v => .val v h
  | _, _, _ => none

def callC (P : Program) (h : Hp) (ρ : Operand → CV) (c : Call) : Option Res :=
  match c.callee with
  | .builtin b => builtinC P h b c.argTypes.toList (c.args.toList.map ρ)
  | .value f => match ρ f with
    | .fn g first captured => match P.funcs[g]? with
      | some fn => if fn.body.isSome ∧ fn.name ≠ "runtime.NumGoroutine" then some (.call g (first ++ c.args.toList.map ρ ++ captured) h) else none
      | none => none
    | _ => none
  | .invoke .. => none

def stepC (P : Program) (h : Hp) (ρ : Operand → CV) (op : Op) : Option Res :=
  let v (x : Option CV) : Option Res := x.map fun y => .val y h
  let w (x : Option (CV × Hp)) : Option Res := x.map fun y => .val y.1 y.2
  match op with
  | .move x | .assign x => some (.val (ρ x) h)
  | .pick c a b => match ρ c with | .bool t => some (.val (if t then ρ a else ρ b) h) | _ => none
  | .alloc t => (zeroT P t).map fun z => .val (.ptr h.n 0 z.length) (h.push (.cells z.length z))
  | .box _ x => (ρ x).cells.map fun cs => .val (.ptr h.n 0 cs.length) (h.push (.cells cs.length cs))
  | .build t parts => v (buildC P t (parts.toList.map fun p => (p.1, ρ p.2)))
  | .buildSlice t len parts => w (buildSliceC P h t len (parts.toList.map fun p => (p.1, ρ p.2)))
  | .load t a => v (loadC P h t (ρ a))
  | .store t a x => (storeC P h t (ρ a) (ρ x)).map fun h' => .val undefC h'
  | .nilCheck x => match ρ x with | .ptr b o s => some (.val (.ptr b o s) h) | .rptr c o => some (.val (.rptr c o) h) | .fn f a b => some (.val (.fn f a b) h) | _ => none
  | .binOp op t x y _ => v (binC P op t (ρ x) (ρ y))
  | .unOp op _ x => v (unC op (ρ x))
  | .convert s d x => match bytesStrC P s d (ρ x) with
    | some c => some (.val c h)
    | none => v (convertC P h s d (ρ x))
  | .makeInterface t x => match P.underlying t with
    | some (.interface _) | none => none
    | _ => some (.val (.ifc t (ρ x)) h)
  | .makeFunc (.func f) first captured => some (.val (.fn f (first.toList.map ρ) (captured.toList.map ρ)) h)
  | .makeSlice t l c => w (makeSliceC P h t (ρ l) (ρ c))
  | .slice t x lo hi mx => v (sliceC P t (ρ x) (lo.map ρ) (hi.map ρ) (mx.map ρ))
  | .fieldAddr s x f => v (fieldAddrC P s (ρ x) f)
  | .field t x f => match ρ x, fieldOf P t f with
    | .ag cs, some fd => v (partC P fd.type cs fd.offset)
    | _, _ => none
  | .indexAddr t x i => v (indexAddrC P t (ρ x) (ρ i))
  | .index t x i => v (indexC P t (ρ x) (ρ i))
  | .extract x i => match ρ x with | .tu vs => v vs[i]? | _ => none
  | .call c => callC P h ρ c
  | _ => none

end Go.CM
