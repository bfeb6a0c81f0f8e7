/-
  The canonical machine, part A: its values, blocks, heap, and what one operation does.
-/
import Derived.WalkKit
import Derived.Below
import Derived.Laws.AppendOwn
import Derived.Laws.CopyRow
import Derived.Laws.IdiomCopy
import Derived.Laws.StructEq
set_option linter.unusedVariables false
set_option linter.unusedSimpArgs false
set_option linter.unnecessarySimpa false
namespace Go.CM
open Go
inductive CV where
 | bool (b : Bool)
 | int (k : IntKind) (n : Int)
 | str (s : List UInt8)
 | nilP | nilS | nilM | nilF | nilI
 | ag (cs : List CV)
 | tu (vs : List CV)
 | ptr (b off sz : Nat)
 | rptr (cs : List CV) (off : Nat)
 | sl (z b off len cap sz : Nat)
 | rsl (z : Nat) (es : List (List CV))
 | fn (f : FuncId) (first captured : List CV)
 | mp (b : Nat)
 | it (b : Nat)
 | ifc (t : TypeId) (v : CV)
 | yl (l : Nat)
 | bad
 deriving Inhabited
inductive CB where
 | none
 | dead
 | cells (sz : Nat) (cs : List CV)
 | map (es : List (CV × CV × Nat)) (clock : Nat)
 | iter (s : List UInt8) (pos : Nat)
 deriving Inhabited
inductive Tr (α : Type) where
 | nil
 | node (l : Tr α) (v : Option α) (r : Tr α)
def Tr.get {α : Type} : Tr α → Nat → Option α
 | .nil, _ => none
 | .node l v r, n => match Nat.beq n 0 with
  | true => v
  | false => match Nat.beq (n % 2) 1 with
   | true => l.get (n / 2)
   | false => r.get (n / 2 - 1)
def Tr.setF {α : Type} : Nat → Tr α → Nat → α → Tr α
 | 0, t, _, _ => t
 | k + 1, .nil, n, x => match Nat.beq n 0 with
  | true => .node .nil (some x) .nil
  | false => match Nat.beq (n % 2) 1 with
   | true => .node (Tr.setF k .nil (n / 2) x) none .nil
   | false => .node .nil none (Tr.setF k .nil (n / 2 - 1) x)
 | k + 1, .node l v r, n, x => match Nat.beq n 0 with
  | true => .node l (some x) r
  | false => match Nat.beq (n % 2) 1 with
   | true => .node (Tr.setF k l (n / 2) x) v r
   | false => .node l v (Tr.setF k r (n / 2 - 1) x)
def Tr.set {α : Type} (t : Tr α) (n : Nat) (x : α) : Tr α := t.setF (n + 1) n x
theorem nbeq_false {a b : Nat} (h : ¬ a = b) : Nat.beq a b = false := by
 cases hb : Nat.beq a b with
 | false => rfl
 | true => exact absurd (Nat.eq_of_beq_eq_true hb) h
theorem nbeq_true {a b : Nat} (h : a = b) : Nat.beq a b = true := by subst h; exact Nat.beq_refl a
theorem Tr.get_setF {α : Type} : ∀ (k : Nat) (t : Tr α) (n : Nat) (x : α) (m : Nat), n < k → (t.setF k n x).get m = if m = n then some x else t.get m
 | 0, _, _, _, _, h => by omega
 | k + 1, .nil, n, x, m, h => by
  unfold Tr.setF
  by_cases h0 : n = 0
  ·subst h0
   simp only
   unfold Tr.get
   by_cases hm : m = 0
   ·subst hm; simp
   ·have : Nat.beq m 0 = false := nbeq_false hm
    simp only [this, if_neg hm]
    split <;> rfl
  ·have hb : Nat.beq n 0 = false := nbeq_false h0
   simp only [hb]
   by_cases h1 : n % 2 = 1
   ·have hb1 : Nat.beq (n % 2) 1 = true := nbeq_true h1
    simp only [hb1]
    unfold Tr.get
    by_cases hm : m = 0
    ·subst hm; simp; omega
    ·have : Nat.beq m 0 = false := nbeq_false hm
     simp only [this]
     by_cases hm1 : m % 2 = 1
     ·have : Nat.beq (m % 2) 1 = true := nbeq_true hm1
      simp only [this]
      rw [Tr.get_setF k .nil (n / 2) x (m / 2) (by omega)]
      by_cases he : m = n
      ·subst he; simp
      ·rw [if_neg he, if_neg (by omega)]; rfl
     ·have : Nat.beq (m % 2) 1 = false := nbeq_false hm1
      simp only [this]
      rw [if_neg (by intro hh; subst hh; exact hm1 h1)]
      rfl
   ·have hb1 : Nat.beq (n % 2) 1 = false := nbeq_false h1
    simp only [hb1]
    unfold Tr.get
    by_cases hm : m = 0
    ·subst hm; simp; omega
    ·have : Nat.beq m 0 = false := nbeq_false hm
     simp only [this]
     by_cases hm1 : m % 2 = 1
     ·have : Nat.beq (m % 2) 1 = true := nbeq_true hm1
      simp only [this]
      rw [if_neg (by intro hh; subst hh; exact h1 hm1)]
      rfl
     ·have : Nat.beq (m % 2) 1 = false := nbeq_false hm1
      simp only [this]
      rw [Tr.get_setF k .nil (n / 2 - 1) x (m / 2 - 1) (by omega)]
      by_cases he : m = n
      ·subst he; simp
      ·rw [if_neg he, if_neg (by omega)]; rfl
 | k + 1, .node l v r, n, x, m, h => by
  unfold Tr.setF
  by_cases h0 : n = 0
  ·subst h0
   simp only
   unfold Tr.get
   by_cases hm : m = 0
   ·subst hm; simp
   ·have : Nat.beq m 0 = false := nbeq_false hm
    simp only [this, if_neg hm]
  ·have hb : Nat.beq n 0 = false := nbeq_false h0
   simp only [hb]
   by_cases h1 : n % 2 = 1
   ·have hb1 : Nat.beq (n % 2) 1 = true := nbeq_true h1
    simp only [hb1]
    unfold Tr.get
    by_cases hm : m = 0
    ·subst hm; simp; omega
    ·have : Nat.beq m 0 = false := nbeq_false hm
     simp only [this]
     by_cases hm1 : m % 2 = 1
     ·have : Nat.beq (m % 2) 1 = true := nbeq_true hm1
      simp only [this]
      rw [Tr.get_setF k l (n / 2) x (m / 2) (by omega)]
      by_cases he : m = n
      ·subst he; simp
      ·rw [if_neg he, if_neg (by omega)]
     ·have : Nat.beq (m % 2) 1 = false := nbeq_false hm1
      simp only [this]
      rw [if_neg (by intro hh; subst hh; exact hm1 h1)]
   ·have hb1 : Nat.beq (n % 2) 1 = false := nbeq_false h1
    simp only [hb1]
    unfold Tr.get
    by_cases hm : m = 0
    ·subst hm; simp; omega
    ·have : Nat.beq m 0 = false := nbeq_false hm
     simp only [this]
     by_cases hm1 : m % 2 = 1
     ·have : Nat.beq (m % 2) 1 = true := nbeq_true hm1
      simp only [this]
      rw [if_neg (by intro hh; subst hh; exact h1 hm1)]
     ·have : Nat.beq (m % 2) 1 = false := nbeq_false hm1
      simp only [this]
      rw [Tr.get_setF k r (n / 2 - 1) x (m / 2 - 1) (by omega)]
      by_cases he : m = n
      ·subst he; simp
      ·rw [if_neg he, if_neg (by omega)]
theorem Tr.get_set {α : Type} (t : Tr α) (n : Nat) (x : α) (m : Nat) : (t.set n x).get m = if m = n then some x else t.get m := Tr.get_setF _ _ _ _ _ (by omega)
structure Hp where
 n : Nat
 t : Tr CB
def Hp.f (h : Hp) (b : Nat) : CB := match h.t.get b with | some c => c | none => .none
def Hp.empty : Hp := ⟨0, .nil⟩
def fupd {α : Type} (f : Nat → α) (i : Nat) (v : α) : Nat → α := fun j => if j = i then v else f j
def Hp.push (h : Hp) (c : CB) : Hp := ⟨h.n + 1, h.t.set h.n c⟩
def Hp.set (h : Hp) (b : Nat) (c : CB) : Hp := ⟨h.n, h.t.set b c⟩
theorem push_n (h : Hp) (c : CB) : (h.push c).n = h.n + 1 := rfl
theorem set_n (h : Hp) (b : Nat) (c : CB) : (h.set b c).n = h.n := rfl
theorem push_f (h : Hp) (c : CB) : (h.push c).f = fupd h.f h.n c := by
 funext b
 simp only [Hp.f, Hp.push, fupd, Tr.get_set]
 by_cases hb : b = h.n
 ·simp [hb]
 ·simp [hb]
theorem set_f (h : Hp) (b : Nat) (c : CB) : (h.set b c).f = fupd h.f b c := by
 funext b'
 simp only [Hp.f, Hp.set, fupd, Tr.get_set]
 by_cases hb : b' = b
 ·simp [hb]
 ·simp [hb]
theorem empty_f (b : Nat) : Hp.empty.f b = .none := rfl
@[simp] theorem fupd_same {α : Type} (f : Nat → α) (i : Nat) (v : α) : fupd f i v i = v := by simp [fupd]
theorem fupd_ne {α : Type} (f : Nat → α) (i j : Nat) (v : α) (h : j ≠ i) : fupd f i v j = f j := by simp [fupd, h]
def CV.one : CV → Bool
 | .ag _ | .tu _ | .bad => false
 | _ => true
def CV.cells : CV → Option (List CV)
 | .ag cs => some cs
 | .tu _ | .bad => none
 | v => some [v]
def ofV1 : Value → CV
 | .bool b => .bool b
 | .int k n => .int k n
 | .string s => .str s.data.toList
 | .pointer a => match a with | none => .nilP | some _ => .bad
 | .slice a l c => match a, l, c with | none, 0, 0 => .nilS | _, _, _ => .bad
 | .map r => match r with | none => .nilM | some _ => .bad
 | .nilFunc => .nilF
 | .nilIface => .nilI
 | .func fn first captured => match fn, first.toList, captured.toList with | .func f, [], [] => .fn f [] [] | _, _, _ => .bad
 | _ => .bad
def ofV : Value → CV
 | .agg cs => if cs.toList.all Value.oneCell' then .ag (cs.toList.map ofV1) else .bad
 | .tuple vs => .tu (vs.toList.map ofV1)
 | v => ofV1 v
def ev (G : Nat → CV) (σ : Nat → CV) : Operand → CV
 | .tmp t => σ t
 | .const v => ofV v
 | .func f => .fn f [] []
 | .global g => G g
def aggT (P : Program) (t : TypeId) : Option Bool := (P.underlying t).map fun d => match d with | .struct _ | .array _ _ => true | _ => false
def sizeT (P : Program) (t : TypeId) : Option Nat := (P.info? t).map (·.size)
def bytesT (P : Program) (t : TypeId) : Option Nat := (P.info? t).map (·.bytes)
def zeroT (P : Program) (t : TypeId) : Option (List CV) := ((P.info? t).bind (·.zero)).bind fun v => if v.cells.toList.all Value.oneCell' then some (v.cells.toList.map ofV1) else none
def elemT (P : Program) (t : TypeId) : Option TypeId := match P.underlying t with | some (.slice e) => some e | _ => none
def partC (P : Program) (t : TypeId) (cs : List CV) (off : Nat) : Option CV :=
 match aggT P t, sizeT P t with
 | some true, some n => if off + n ≤ cs.length then some (.ag ((cs.drop off).take n)) else none
 | some false, _ => cs[off]?
 | _, _ => none
def reach (h : Hp) : CV → Option (List CV × Nat)
 | .ptr b off sz => match h.f b with
  | .cells n cs => if n = sz then some (cs, off) else none
  | _ => none
 | .rptr cs off => some (cs, off)
 | _ => none
def loadC (P : Program) (h : Hp) (t : TypeId) (p : CV) : Option CV :=
 match reach h p with
 | some (cs, off) => partC P t cs off
 | none => none
def splice (cs : List CV) (off : Nat) (vs : List CV) : List CV := cs.take off ++ vs ++ cs.drop (off + vs.length)
def storeC (P : Program) (h : Hp) (t : TypeId) (p v : CV) : Option Hp :=
 match p, v.cells, sizeT P t with
 | .ptr b off sz, some vs, some n => match h.f b with
  | .cells m cs => if m = sz ∧ vs.length = n ∧ off + n ≤ m then some (h.set b (.cells m (splice cs off vs))) else none
  | _ => none
 | _, _, _ => none
def asInt : CV → Option Int
 | .int _ n => some n
 | _ => none
def fieldOf (P : Program) (s : TypeId) (f : Nat) : Option Field := match P.underlying s with | some (.struct fs) => fs[f]? | _ => none
def cellAt : CV → Nat → Option CV
 | .ptr b off sz, k => some (.ptr b (off + k) sz)
 | .rptr cs off, k => some (.rptr cs (off + k))
 | _, _ => none
def fieldAddrC (P : Program) (s : TypeId) (x : CV) (f : Nat) : Option CV :=
 match fieldOf P s f with
 | some fd => match sizeT P fd.type with
  | some (_ + 1) => cellAt x fd.offset
  | _ => none
 | none => none
def indexAddrC (P : Program) (t : TypeId) (x ix : CV) : Option CV :=
 match P.underlying t, asInt ix with
 | some (.array len e), some i => match sizeT P e with
  | some z => if 0 ≤ i ∧ i < len then cellAt x (i.toNat * z) else none
  | none => none
 | some (.slice e), some i => match sizeT P e, x with
  | some z, .sl z' b off len _ sz => if z = z' ∧ 0 ≤ i ∧ i < len then some (.ptr b (off + i.toNat * z) sz) else none
  | some z, .rsl z' es => if z = z' ∧ 0 ≤ i then (es[i.toNat]?).map fun cs => .rptr cs 0 else none
  | _, _ => none
 | _, _ => none
def fillC (place : Nat → Option (Nat × Nat)) (cells : List CV) : List (Nat × CV) → Option (List CV)
 | [] => some cells
 | (i, v) :: rest => match place i, v.cells with
  | some (off, size), some vs => if vs.length = size ∧ off + size ≤ cells.length then fillC place (splice cells off vs) rest else none
  | _, _ => none
def placeS (P : Program) (fs : Array Field) (i : Nat) : Option (Nat × Nat) := (fs[i]?).bind fun f => (sizeT P f.type).map fun n => (f.offset, n)
def buildC (P : Program) (t : TypeId) (parts : List (Nat × CV)) : Option CV :=
 match zeroT P t, P.underlying t with
 | some zero, some (.struct fs) => if !(fs.toList.all fun f => (sizeT P f.type).isSome) then none else (fillC (placeS P fs) zero parts).map .ag
 | some zero, some (.array _ e) => match sizeT P e with
  | some n => (fillC (fun i => some (i * n, n)) zero parts).map .ag
  | none => none
 | _, _ => none
def repeatC (zero : List CV) : Nat → List CV
 | 0 => []
 | n + 1 => zero ++ repeatC zero n
def buildSliceC (P : Program) (h : Hp) (t : TypeId) (len : Nat) (parts : List (Nat × CV)) : Option (CV × Hp) :=
 match elemT P t with
 | some e => match sizeT P e, zeroT P e with
  | some z, some zero => if zero.length = z ∧ len * z ≤ 16777216 then
    (fillC (fun i => some (i * z, z)) (repeatC zero len) parts).map fun cs => (.sl z h.n 0 len len (len * z), h.push (.cells (len * z) cs))
   else none
  | _, _ => none
 | none => none
def binInt (op : BinOp) (k : IntKind) (a : Int) (k' : IntKind) (b : Int) : Option CV :=
 match op with
 | .shl => if b < 0 then none else some (.int k (k.wrap (a * 2 ^ min b.toNat k.bits)))
 | .shr => if b < 0 then none else some (.int k (a.fdiv (2 ^ min b.toNat k.bits)))
 | .add => if k = k' then some (.int k (k.wrap (a + b))) else none
 | .sub => if k = k' then some (.int k (k.wrap (a - b))) else none
 | .mul => if k = k' then some (.int k (k.wrap (a * b))) else none
 | .quo => if k = k' ∧ b ≠ 0 then some (.int k (k.wrap (a.tdiv b))) else none
 | .rem => if k = k' ∧ b ≠ 0 then some (.int k (a.tmod b)) else none
 | .and => if k = k' then some (.int k (k.wrap (BitVec.ofInt k.bits a &&& BitVec.ofInt k.bits b).toNat)) else none
 | .or => if k = k' then some (.int k (k.wrap (BitVec.ofInt k.bits a ||| BitVec.ofInt k.bits b).toNat)) else none
 | .xor => if k = k' then some (.int k (k.wrap (BitVec.ofInt k.bits a ^^^ BitVec.ofInt k.bits b).toNat)) else none
 | .andNot => if k = k' then some (.int k (k.wrap (BitVec.ofInt k.bits a &&& ~~~BitVec.ofInt k.bits b).toNat)) else none
 | .eql => if k = k' then some (.bool (a == b)) else none
 | .neq => if k = k' then some (.bool (a != b)) else none
 | .lss => if k = k' then some (.bool (decide (a < b))) else none
 | .leq => if k = k' then some (.bool (decide (a ≤ b))) else none
 | .gtr => if k = k' then some (.bool (decide (a > b))) else none
 | .geq => if k = k' then some (.bool (decide (a ≥ b))) else none
def binStr (op : BinOp) (a b : List UInt8) : Option CV :=
 match op with
 | .eql => some (.bool (a == b))
 | .neq => some (.bool (!(a == b)))
 | .lss => some (.bool (Op.bytesLess a b))
 | .leq => some (.bool (Op.bytesLess a b || a == b))
 | .gtr => some (.bool (!(Op.bytesLess a b || a == b)))
 | .geq => some (.bool (!Op.bytesLess a b))
 | .add => if a.length + b.length ≤ 9223372036854775807 then some (.str (a ++ b)) else none
 | _ => none
def eqT (P : Program) : Nat → TypeId → CV → CV → Option Bool
 | 0, _, _, _ => none
 | d + 1, t, x, y =>
  match P.underlying t, x, y with
  | some .bool, .bool a, .bool b => some (a == b)
  | some (.int _), .int k a, .int k' b => if k = k' then some (a == b) else none
  | some .string, .str a, .str b => some (a == b)
  | some (.struct fs), .ag xs, .ag ys => if P.stoodInHeld t then none else eqFields P (eqT P d) xs ys fs.toList
  | some (.array n e), .ag xs, .ag ys => match sizeT P e with
   | some z => eqElems P (eqT P d) e z xs ys n 0
   | none => none
  | some (.slice _), .nilS, .nilS => some true
  | some (.slice _), .nilS, .sl .. | some (.slice _), .nilS, .rsl .. | some (.slice _), .sl .., .nilS | some (.slice _), .rsl .., .nilS => some false
  | _, _, _ => none
where
 eqFields (P : Program) (eq : TypeId → CV → CV → Option Bool) (xs ys : List CV) : List Field → Option Bool
  | [] => some true
  | f :: fs => if f.name = "_" then eqFields P eq xs ys fs else
   match partC P f.type xs f.offset, partC P f.type ys f.offset with
   | some a, some b => match eq f.type a b with
    | some true => eqFields P eq xs ys fs
    | some false => some false
    | none => none
   | _, _ => none
 eqElems (P : Program) (eq : TypeId → CV → CV → Option Bool) (e : TypeId) (z : Nat) (xs ys : List CV) : Nat → Nat → Option Bool
  | 0, _ => some true
  | n + 1, i => match partC P e xs (i * z), partC P e ys (i * z) with
   | some a, some b => match eq e a b with
    | some true => eqElems P eq e z xs ys n (i + 1)
    | some false => some false
    | none => none
   | _, _ => none
def eqOk (P : Program) (t : TypeId) : CV → CV → Bool
 | .ag _, .ag _ => !P.eqGuardType P.depth t
 | _, _ => true
def binC (P : Program) (op : BinOp) (t : TypeId) (x y : CV) : Option CV :=
 match x, y with
 | .int k a, .int k' b => binInt op k a k' b
 | .str a, .str b => binStr op a b
 | x, y => match op with
  | .eql => if eqOk P t x y then (eqT P 10000 t x y).map .bool else none
  | .neq => if eqOk P t x y then (eqT P 10000 t x y).map fun b => .bool (!b) else none
  | _ => none
def unC (op : UnOp) (x : CV) : Option CV :=
 match op, x with
 | .not, .bool b => some (.bool (!b))
 | .neg, .int k n => some (.int k (k.wrap (0 - n)))
 | .xor, .int k n => some (.int k (k.wrap (BitVec.ofInt k.bits (if k.signed then -1 else k.max) ^^^ BitVec.ofInt k.bits n).toNat))
 | _, _ => none
def chunks (z : Nat) : Nat → List CV → List (List CV)
 | 0, _ => []
 | n + 1, cs => cs.take z :: chunks z n (cs.drop z)
def byteC (b : UInt8) : CV := .int .u8 b.toNat
def contents (h : Hp) (z : Nat) : CV → Option (List CV × Nat)
 | .nilS => some ([], 0)
 | .rsl z' es => if z = z' then some (es.flatten, es.length) else none
 | .sl z' b off len _ sz => match h.f b with
  | .cells n cs => if n = sz ∧ z = z' then some ((cs.drop off).take (len * z), len) else none
  | _ => none
 | .str s => if z = 1 then some (s.map byteC, s.length) else none
 | _ => none
def roomMax : Nat := 140737488355328
def zeroLen (P : Program) (t : TypeId) : Option Nat := ((P.info? t).bind (·.zero)).map (·.cells.size)
def appendW (P : Program) (h : Hp) (e : TypeId) (z by_ : Nat) (s : CV) (xs : List CV) (n : Nat) : Option (CV × Hp) :=
 if n = 0 then (match s with | .nilS | .rsl .. | .sl .. => some (s, h) | _ => none)
 else if z = 0 ∨ by_ = 0 ∨ zeroLen P e ≠ some z then none else match s with
  | .nilS => if n * by_ ≤ roomMax then some (.sl z h.n 0 n n (n * z), h.push (.cells (n * z) xs)) else none
  | .sl z' b off len cap sz => match h.f b with
   | .cells m cs =>
    if m = sz ∧ z = z' ∧ (len + n) * by_ ≤ roomMax then
     if len + n ≤ cap then some (.sl z b off (len + n) cap sz, h.set b (.cells m (splice cs (off + len * z) xs)))
     else if off + cap * z < sz then some (.sl z h.n 0 (len + n) (len + n) ((len + n) * z), h.push (.cells ((len + n) * z) ((cs.drop off).take (len * z) ++ xs)))
     else if off = 0 then some (.sl z b 0 (len + n) (len + n) ((len + n) * z), h.set b (.cells ((len + n) * z) (cs.take (len * z) ++ xs)))
     else some (.sl z h.n 0 (len + n) (len + n) ((len + n) * z), (h.set b .dead).push (.cells ((len + n) * z) ((cs.drop off).take (len * z) ++ xs)))
    else none
   | _ => none
  | _ => none
def appendC (P : Program) (h : Hp) (t : TypeId) (s x : CV) : Option (CV × Hp) :=
 match elemT P t with
 | none => none
 | some e => match sizeT P e, bytesT P e with
  | some z, some by_ => match contents h z x with
   | none => none
   | some (xs, n) => appendW P h e z by_ s xs n
  | _, _ => none
def boundC (x : CV) (y : Nat) : Option Nat := match x with | .int _ i => if 0 ≤ i ∧ i ≤ y then some i.toNat else none | _ => none
def boundsC (len cap : Nat) (lo hi mx : Option CV) : Option (Nat × Nat × Nat) :=
 match (match mx with | some v => boundC v cap | none => some cap) with
 | none => none
 | some m => match (match hi, mx with | some v, _ => boundC v m | none, none => some len | none, some _ => none) with
  | none => none
  | some h => match (match lo with | some v => boundC v h | none => some 0) with
   | none => none
   | some l => some (l, h, m)
def sliceC (P : Program) (t : TypeId) (x : CV) (lo hi mx : Option CV) : Option CV :=
 match P.underlying t, x with
 | some (.array n e), x => match sizeT P e, boundsC n n lo hi mx with
  | some z, some (l, hh, m) => match x with
   | .ptr b off sz => if off + m * z ≤ sz then (if m = l then some (.rsl z []) else some (.sl z b (off + l * z) (hh - l) (m - l) sz)) else none
   | .rptr cs off => if off + n * z ≤ cs.length then some (.rsl z (chunks z (hh - l) (cs.drop (off + l * z)))) else none
   | _ => none
  | _, _ => none
 | some (.slice e), x => match sizeT P e, x with
  | some z, .sl z' b off len cap sz => if z = z' then (boundsC len cap lo hi mx).map fun (l, hh, m) => if m = l then .sl z b (off + l * z) 0 0 sz else .sl z b (off + l * z) (hh - l) (m - l) sz else none
  | some z, .rsl z' es => if z = z' then (boundsC es.length es.length lo hi mx).map fun (l, hh, _) => .rsl z ((es.drop l).take (hh - l)) else none
  | some _, .nilS => (boundsC 0 0 lo hi mx).map fun _ => .nilS
  | _, _ => none
 | some .string, .str s => match mx with
  | none => (boundsC s.length s.length lo hi none).map fun (l, hh, _) => .str ((s.drop l).take (hh - l))
  | some _ => none
 | _, _ => none
def lenC (P : Program) (t : TypeId) (x : CV) : Option CV :=
 match P.underlying t, x with
 | some .string, .str s => some (.int .i64 s.length)
 | some (.array n _), _ => some (.int .i64 n)
 | some (.slice _), .nilS => some (.int .i64 0)
 | some (.slice _), .sl _ _ _ len _ _ => some (.int .i64 len)
 | some (.slice _), .rsl _ es => some (.int .i64 es.length)
 | some (.map _ _), .nilM => some (.int .i64 0)
 | _, _ => none
def makeSliceC (P : Program) (h : Hp) (t : TypeId) (l c : CV) : Option (CV × Hp) :=
 match elemT P t, asInt l, asInt c with
 | some e, some l, some c => match sizeT P e, bytesT P e, zeroT P e with
  | some z, some by_, some zero =>
   if zero.length = z ∧ 0 ≤ l ∧ l ≤ c ∧ c < 9223372036854775808 ∧ by_ * c ≤ roomMax then
    some (.sl z h.n 0 l.toNat c.toNat (c.toNat * z), h.push (.cells (c.toNat * z) (repeatC zero c.toNat)))
   else none
  | _, _, _ => none
 | _, _, _ => none
def copyC (P : Program) (h : Hp) (t : TypeId) (d x : CV) : Option (CV × Hp) :=
 match elemT P t with
 | none => none
 | some e => match sizeT P e with
  | none => none
  | some z => match contents h z x with
   | none => none
   | some (xs, n) => match d with
    | .nilS => some (.int .i64 0, h)
    | .sl z' b off len _ sz => match h.f b with
     | .cells m cs => if m = sz ∧ z = z' then some (.int .i64 ((min n len : Nat) : Int), h.set b (.cells m (splice cs off (xs.take (min n len * z))))) else none
     | _ => none
    | _ => none
def bytesOfC : List CV → Option (List UInt8)
 | [] => some []
 | .int .u8 n :: r => (bytesOfC r).map (UInt8.ofNat n.toNat :: ·)
 | _ :: _ => none
def convertC (P : Program) (h : Hp) (src dst : TypeId) (x : CV) : Option CV :=
 match P.underlying src, P.underlying dst, x with
 | some _, some (.int k), .int _ n => some (.int k (k.wrap n))
 | some _, some .string, .str s => some (.str s)
 | some (.slice e), some .string, x => match P.underlying e, x with
  | some (.int .u8), .nilS => some (.str [])
  | some (.int .u8), x => match contents h 1 x, x with
   | some _, .str _ => none
   | some (cs, _), _ => (bytesOfC cs).map .str
   | none, _ => none
  | _, _ => none
 | _, _, _ => none
def bytesStrC (P : Program) (src dst : TypeId) (x : CV) : Option CV :=
 match P.underlying src, P.underlying dst, x with
 | some _, some (.slice e), .str s => match P.underlying e with
  | some (.int .u8) => some (.rsl 1 (s.map fun b => [byteC b]))
  | _ => none
 | _, _, _ => none
def capC (P : Program) (t : TypeId) (x : CV) : Option CV :=
 match P.underlying t, x with
 | some (.array n _), _ => some (.int .i64 n)
 | some (.slice _), .nilS => some (.int .i64 0)
 | _, _ => none
def clearC (P : Program) (h : Hp) (t : TypeId) (x : CV) : Option Hp :=
 match P.underlying t, x with
 | some (.slice _), .nilS => some h
 | some (.slice _), .rsl _ [] => some h
 | some (.slice e), .sl z b off len _ sz => if len = 0 then some h else match zeroT P e, h.f b with
  | some zero, .cells m cs => if m = sz ∧ zero.length = z then some (h.set b (.cells m (splice cs off (repeatC zero len)))) else none
  | _, _ => none
 | _, _ => none
def indexC (P : Program) (t : TypeId) (x ix : CV) : Option CV :=
 match P.underlying t, x, asInt ix with
 | some (.array n e), .ag cs, some i => match sizeT P e with
  | some z => if 0 ≤ i ∧ i < n then partC P e cs (i.toNat * z) else none
  | none => none
 | some .string, .str s, some i => if 0 ≤ i then (s[i.toNat]?).map byteC else none
 | _, _, _ => none
mutual
def CV.beq : CV → CV → Bool
 | .bool a, y => match y with | .bool b => (match a, b with | true, true => true | false, false => true | _, _ => false) | _ => false
 | .int k n, y => match y with | .int k' n' => decide (k = k') && decide (n = n') | _ => false
 | .str a, y => match y with | .str b => decide (a = b) | _ => false
 | .nilP, y => match y with | .nilP => true | _ => false
 | .nilS, y => match y with | .nilS => true | _ => false
 | .nilM, y => match y with | .nilM => true | _ => false
 | .nilF, y => match y with | .nilF => true | _ => false
 | .nilI, y => match y with | .nilI => true | _ => false
 | .ag a, y => match y with | .ag b => beqL a b | _ => false
 | .tu a, y => match y with | .tu b => beqL a b | _ => false
 | .ptr a b c, y => match y with | .ptr a' b' c' => Nat.beq a a' && Nat.beq b b' && Nat.beq c c' | _ => false
 | .rptr a n, y => match y with | .rptr a' n' => beqL a a' && Nat.beq n n' | _ => false
 | .sl a b c d e f, y => match y with | .sl a' b' c' d' e' f' => Nat.beq a a' && Nat.beq b b' && Nat.beq c c' && Nat.beq d d' && Nat.beq e e' && Nat.beq f f' | _ => false
 | .rsl a b, y => match y with | .rsl a' b' => Nat.beq a a' && beqLL b b' | _ => false
 | .fn a b c, y => match y with | .fn a' b' c' => Nat.beq a a' && beqL b b' && beqL c c' | _ => false
 | .mp a, y => match y with | .mp a' => Nat.beq a a' | _ => false
 | .it a, y => match y with | .it a' => Nat.beq a a' | _ => false
 | .ifc a b, y => match y with | .ifc a' b' => Nat.beq a a' && CV.beq b b' | _ => false
 | .yl a, y => match y with | .yl a' => Nat.beq a a' | _ => false
 | .bad, y => match y with | .bad => true | _ => false
def beqL : List CV → List CV → Bool
 | [], y => match y with | [] => true | _ => false
 | a :: as, y => match y with | b :: bs => CV.beq a b && beqL as bs | _ => false
def beqLL : List (List CV) → List (List CV) → Bool
 | [], y => match y with | [] => true | _ => false
 | a :: as, y => match y with | b :: bs => beqL a b && beqLL as bs | _ => false
end
theorem nbeq_eq {a b : Nat} (h : Nat.beq a b = true) : a = b := Nat.eq_of_beq_eq_true h
mutual
theorem CV.beq_eq : ∀ {a b : CV}, CV.beq a b = true → a = b
 | .bool a, b, h => by cases b <;> simp only [CV.beq] at h <;> first | cases h | (rename_i b; cases a <;> cases b <;> first | rfl | cases h)
 | .int k n, b, h => by cases b <;> simp only [CV.beq] at h <;> first | cases h | (simp only [Bool.and_eq_true, decide_eq_true_eq] at h; rw [h.1, h.2])
 | .str a, b, h => by cases b <;> simp only [CV.beq] at h <;> first | cases h | (simp only [decide_eq_true_eq] at h; rw [h])
 | .nilP, b, h => by cases b <;> simp only [CV.beq] at h <;> first | rfl | cases h
 | .nilS, b, h => by cases b <;> simp only [CV.beq] at h <;> first | rfl | cases h
 | .nilM, b, h => by cases b <;> simp only [CV.beq] at h <;> first | rfl | cases h
 | .nilF, b, h => by cases b <;> simp only [CV.beq] at h <;> first | rfl | cases h
 | .nilI, b, h => by cases b <;> simp only [CV.beq] at h <;> first | rfl | cases h
 | .bad, b, h => by cases b <;> simp only [CV.beq] at h <;> first | rfl | cases h
 | .ag a, b, h => by cases b <;> simp only [CV.beq] at h <;> first | cases h | rw [beqL_eq h]
 | .tu a, b, h => by cases b <;> simp only [CV.beq] at h <;> first | cases h | rw [beqL_eq h]
 | .ptr .., b, h => by cases b <;> simp only [CV.beq] at h <;> first | cases h | (simp only [Bool.and_eq_true] at h; rw [nbeq_eq h.1.1, nbeq_eq h.1.2, nbeq_eq h.2])
 | .rptr a n, b, h => by cases b <;> simp only [CV.beq] at h <;> first | cases h | (simp only [Bool.and_eq_true] at h; rw [beqL_eq h.1, nbeq_eq h.2])
 | .sl .., b, h => by cases b <;> simp only [CV.beq] at h <;> first | cases h | (simp only [Bool.and_eq_true] at h; rw [nbeq_eq h.1.1.1.1.1, nbeq_eq h.1.1.1.1.2, nbeq_eq h.1.1.1.2, nbeq_eq h.1.1.2, nbeq_eq h.1.2, nbeq_eq h.2])
 | .rsl a n, b, h => by cases b <;> simp only [CV.beq] at h <;> first | cases h | (simp only [Bool.and_eq_true] at h; rw [nbeq_eq h.1, beqLL_eq h.2])
 | .fn a n m, b, h => by cases b <;> simp only [CV.beq] at h <;> first | cases h | (simp only [Bool.and_eq_true] at h; rw [nbeq_eq h.1.1, beqL_eq h.1.2, beqL_eq h.2])
 | .mp a, b, h => by cases b <;> simp only [CV.beq] at h <;> first | cases h | rw [nbeq_eq h]
 | .it a, b, h => by cases b <;> simp only [CV.beq] at h <;> first | cases h | rw [nbeq_eq h]
 | .yl a, b, h => by cases b <;> simp only [CV.beq] at h <;> first | cases h | rw [nbeq_eq h]
 | .ifc a n, b, h => by cases b <;> simp only [CV.beq] at h <;> first | cases h | (simp only [Bool.and_eq_true] at h; rw [nbeq_eq h.1, CV.beq_eq h.2])
theorem beqL_eq : ∀ {a b : List CV}, beqL a b = true → a = b
 | [], b, h => by cases b <;> simp only [beqL] at h <;> first | rfl | cases h
 | x :: a, b, h => by cases b <;> simp only [beqL] at h <;> first | cases h | (simp only [Bool.and_eq_true] at h; rw [CV.beq_eq h.1, beqL_eq h.2])
theorem beqLL_eq : ∀ {a b : List (List CV)}, beqLL a b = true → a = b
 | [], b, h => by cases b <;> simp only [beqLL] at h <;> first | rfl | cases h
 | x :: a, b, h => by cases b <;> simp only [beqLL] at h <;> first | cases h | (simp only [Bool.and_eq_true] at h; rw [beqL_eq h.1, beqLL_eq h.2])
end
def plain1 : CV → Bool | .int .. | .str _ | .bool _ => true | _ => false
def keyTy (P : Program) : Nat → TypeId → Bool
 | 0, _ => false
 | d + 1, t => match P.underlying t, sizeT P t with
  | some (.int _), _ => true
  | some .string, _ => true
  | some .bool, _ => true
  | some (.array n e), some m => keyTy P d e && (match sizeT P e, aggT P e with | some z, some _ => Nat.ble (n * z) m && Nat.ble 1 z | _, _ => false)
  | some (.struct fs), some m => fs.toList.all fun f => keyTy P d f.type && (match sizeT P f.type, aggT P f.type with | some z, some _ => Nat.ble (f.offset + z) m && Nat.ble 1 z | _, _ => false)
  | _, _ => false
def keyFits (P : Program) (t : TypeId) (c : CV) : Bool :=
 match c with
 | .ag cs => keyTy P 8 t && (match aggT P t, sizeT P t with | some true, some m => Nat.beq cs.length m | _, _ => false) && cs.all plain1
 | _ => false
def findC (P : Program) (kt : TypeId) (k : CV) : List (CV × CV × Nat) → Nat → Option (Option (Nat × CV))
 | [], _ => some none
 | (k', v, _) :: es, i => match keyFits P kt k' with
  | false => none
  | true => match eqT P 10000 kt k k' with
   | some true => match CV.beq k k' with | true => some (some (i, v)) | false => none
   | some false => findC P kt k es (i + 1)
   | none => none
def mapOf (h : Hp) : CV → Option (List (CV × CV × Nat))
 | .nilM => some []
 | .mp b => match h.f b with | .map es _ => some es | _ => none
 | _ => none
def zeroV (P : Program) (t : TypeId) : Option CV := ((P.info? t).bind (·.zero)).map ofV
def lookupC (P : Program) (h : Hp) (t : TypeId) (m k : CV) (ok : Bool) : Option CV :=
 match P.underlying t, mapOf h m with
 | some (.map kt et), some es => match keyFits P kt k with
  | false => none
  | true => match findC P kt k es 0 with
   | some (some (_, v)) => some (if ok then .tu [v, .bool true] else v)
   | some none => (zeroV P et).map fun z => if ok then .tu [z, .bool false] else z
   | none => none
 | _, _ => none
def mapUpdC (P : Program) (h : Hp) (t : TypeId) (m k v : CV) : Option Hp :=
 match P.underlying t, m with
 | some (.map kt _), .mp b => match h.f b with
  | .map es ck => match keyFits P kt k with
   | false => none
   | true => match findC P kt k es 0 with
    | some (some (i, _)) => some (h.set b (.map (es.modify i fun e => (k, v, e.2.2)) ck))
    | some none => some (h.set b (.map (es ++ [(k, v, ck)]) (ck + 1)))
    | none => none
  | _ => none
 | _, _ => none
def lenMapC (P : Program) (h : Hp) (t : TypeId) (x : CV) : Option CV :=
 match P.underlying t, x with
 | some (.map _ _), .mp b => match h.f b with | .map es _ => some (.int .i64 es.length) | _ => none
 | _, _ => none
def rangeStrC (P : Program) (h : Hp) (t : TypeId) (x : CV) : Option (CV × Hp) :=
 match P.underlying t, x with
 | some .string, .str s => some (.it h.n, h.push (.iter s 0))
 | _, _ => none
def nextStrC (h : Hp) (x : CV) : Option (CV × Hp) :=
 match x with
 | .it b => match h.f b with
  | .iter s pos => match Nat.blt pos s.length with
   | true => some (.tu [.bool true, .int .i64 pos, .int .i32 (Utf8.decode ⟨s.toArray⟩ pos).1], h.set b (.iter s (pos + (Utf8.decode ⟨s.toArray⟩ pos).2)))
   | false => some (.tu [.bool false], h)
  | _ => none
 | _ => none
def cmpBytes : List UInt8 → List UInt8 → Int
 | [], [] => 0
 | [], _ :: _ => -1
 | _ :: _, [] => 1
 | a :: as, b :: bs => if a = b then cmpBytes as bs else if a < b then -1 else 1
def bytesOfV (h : Hp) (x : CV) : Option (List UInt8) := match x with
 | .str s => some s
 | x => match contents h 1 x with
  | some (cs, _) => bytesOfC cs
  | none => none
def cmpC (h : Hp) : List CV → Option CV
 | [x, y] => match bytesOfV h x, bytesOfV h y with
  | some a, some b => some (.int .i64 (cmpBytes a b))
  | _, _ => none
 | _ => none
def isCmp (fn : Func) : Bool := fn.body.isNone && fn.name == "internal/bytealg.Compare" && (fn.origin == "" || fn.origin == "internal/bytealg.Compare")
inductive Res where
 | val (v : CV) (h : Hp)
 | call (f : FuncId) (args : List CV) (h : Hp)
def min2C : CV → CV → Option CV
 | .int k x, .int k' y => if k = k' then some (.int k (if y < x then y else x)) else none
 | _, _ => none
def max2C : CV → CV → Option CV
 | .int k x, .int k' y => if k = k' then some (.int k (if x < y then y else x)) else none
 | _, _ => none
def undefC : CV := .tu []
def appendZC (P : Program) (h : Hp) (t : TypeId) (s x : CV) : Option (CV × Hp) :=
 match elemT P t, asInt x with
 | some e, some n => match sizeT P e, bytesT P e, zeroT P e with
  | some z, some by_, some zero =>
   if zero.length = z ∧ 0 ≤ n ∧ n < 9223372036854775808 ∧ n.toNat * by_ ≤ roomMax then appendW P h e z by_ s (repeatC zero n.toNat) n.toNat else none
  | _, _, _ => none
 | _, _ => none
def builtinC (P : Program) (h : Hp) (b : Builtin) (ts : List TypeId) (args : List CV) : Option Res :=
 match b, ts, args with
 | .len, [t], [x] => match lenMapC P h t x with
  | some v => some (.val v h)
  | none => (lenC P t x).map fun v => .val v h
 | .append, [t, u], [s, x] => match P.underlying u with
  | some (.int _) => (appendZC P h t s x).map fun (v, h') => .val v h'
  | none => none
  | _ => (appendC P h t s x).map fun (v, h') => .val v h'
 | .copy, [t, _], [d, x] => (copyC P h t d x).map fun (v, h') => .val v h'
 | .cap, [t], [x] => (capC P t x).map fun v => .val v h
 | .clear, [t], [x] => (clearC P h t x).map fun h' => .val (.tu []) h'
 | .min, _, [x, y] => (min2C x y).map fun v => .val v h
 | .max, _, [x, y] => (max2C x y).map fun v => .val v h
 | _, _, _ => none
def methC (P : Program) (t : TypeId) (name : String) : Option FuncId :=
 match P.underlying t with
 | some (.pointer _) | none => none
 | _ => match P.info? t with
  | some i => match i.methods.find? (·.name == name) with
   | some m => match m.path.toList, m.func with
    | [], some (f, false) => some f
    | _, _ => none
   | none => none
  | none => none
def tasC (t : TypeId) (z : CV) (ok : Bool) : CV → Option CV
 | .ifc t' v => match Nat.beq t' t with
  | true => match ok with | true => some (.tu [v, .bool true]) | false => some v
  | false => match ok with | true => some (.tu [z, .bool false]) | false => none
 | .nilI => match ok with | true => some (.tu [z, .bool false]) | false => none
 | _ => none
def tasT (P : Program) (t : TypeId) : Option CV := match P.underlying t with
 | some (.interface _) | none => none
 | _ => zeroV P t
def callC (P : Program) (h : Hp) (ρ : Operand → CV) (c : Call) : Option Res :=
 match c.callee with
 | .builtin b => builtinC P h b c.argTypes.toList (c.args.toList.map ρ)
 | .value f => match ρ f with
  | .fn g first captured => match P.funcs[g]? with
   | some fn => if fn.body.isSome ∧ fn.name ≠ "runtime.NumGoroutine" then some (.call g (first ++ c.args.toList.map ρ ++ captured) h)
    else if isCmp fn then (cmpC h (first ++ c.args.toList.map ρ ++ captured)).map fun v => .val v h else none
   | none => none
  | _ => none
 | .invoke x name => match ρ x with
  | .ifc t v => match methC P t name with
   | some g => match P.funcs[g]? with
    | some fn => if fn.body.isSome ∧ fn.name ≠ "runtime.NumGoroutine" then some (.call g (v :: c.args.toList.map ρ) h) else none
    | none => none
   | none => none
  | _ => none
def stepC (P : Program) (h : Hp) (ρ : Operand → CV) (op : Op) : Option Res :=
 let v (x : Option CV) : Option Res := x.map fun y => .val y h
 let w (x : Option (CV × Hp)) : Option Res := x.map fun y => .val y.1 y.2
 match op with
 | .move x | .assign x => some (.val (ρ x) h)
 | .pick c a b => match ρ c with | .bool t => some (.val (if t then ρ a else ρ b) h) | _ => none
 | .alloc t => (zeroT P t).map fun z => .val (.ptr h.n 0 z.length) (h.push (.cells z.length z))
 | .box _ x => (ρ x).cells.map fun cs => .val (.ptr h.n 0 cs.length) (h.push (.cells cs.length cs))
 | .build t parts => v (buildC P t (parts.toList.map fun p => (p.1, ρ p.2)))
 | .buildSlice t len parts => w (buildSliceC P h t len (parts.toList.map fun p => (p.1, ρ p.2)))
 | .load t a => v (loadC P h t (ρ a))
 | .store t a x => (storeC P h t (ρ a) (ρ x)).map fun h' => .val undefC h'
 | .nilCheck x => match ρ x with | .ptr b o s => some (.val (.ptr b o s) h) | .rptr c o => some (.val (.rptr c o) h) | .fn f a b => some (.val (.fn f a b) h) | _ => none
 | .binOp op t x y _ => v (binC P op t (ρ x) (ρ y))
 | .unOp op _ x => v (unC op (ρ x))
 | .convert s d x => match bytesStrC P s d (ρ x) with
  | some c => some (.val c h)
  | none => v (convertC P h s d (ρ x))
 | .makeInterface t x => match P.underlying t with
  | some (.interface _) | none => none
  | _ => some (.val (.ifc t (ρ x)) h)
 | .makeFunc (.func f) first captured => some (.val (.fn f (first.toList.map ρ) (captured.toList.map ρ)) h)
 | .makeSlice t l c => w (makeSliceC P h t (ρ l) (ρ c))
 | .slice t x lo hi mx => v (sliceC P t (ρ x) (lo.map ρ) (hi.map ρ) (mx.map ρ))
 | .fieldAddr s x f => v (fieldAddrC P s (ρ x) f)
 | .field t x f => match ρ x, fieldOf P t f with
  | .ag cs, some fd => v (partC P fd.type cs fd.offset)
  | _, _ => none
 | .indexAddr t x i => v (indexAddrC P t (ρ x) (ρ i))
 | .index t x i => v (indexC P t (ρ x) (ρ i))
 | .extract x i => match ρ x with | .tu vs => v vs[i]? | _ => none
 | .call c => callC P h ρ c
 | .makeMap t r => match P.underlying t, (match r with | none => true | some x => (asInt (ρ x)).isSome) with | some (.map _ _), true => some (.val (.mp h.n) (h.push (.map [] 0))) | _, _ => none
 | .lookup t m k ok => v (lookupC P h t (ρ m) (ρ k) ok)
 | .mapUpdate t m k x | .insert t m k x => (mapUpdC P h t (ρ m) (ρ k) (ρ x)).map fun h' => .val undefC h'
 | .range t x => w (rangeStrC P h t (ρ x))
 | .next it true => w (nextStrC h (ρ it))
 | .typeAssert x _ t ok => match tasT P t with | some z => v (tasC t z ok (ρ x)) | none => none
 | _ => none
structure M where
 r : Nat
 s : Nat
 T : Nat
abbrev Mu := Nat → Option M
def live : CB → Bool
 | .cells .. | .map .. | .iter .. => true
 | _ => false
def kindC : CB → Nat
 | .map .. => 1
 | .iter .. => 2
 | _ => 0
def Own (h : Hp) (μ : Mu) (k : Nat) : Prop := ∃ b m, live (h.f b) = true ∧ μ b = some m ∧ m.r = k
def Gone (h : Hp) (b sz : Nat) : Prop := h.f b = .dead ∨ ∃ n cs, h.f b = .cells n cs ∧ sz < n
structure Cell (w : World) (R : Nat → Prop) (h : Hp) (μ : Mu) (b o : Nat) (v : Value) : Prop where
 here : w.cell? ⟨b, o, none⟩ = some v
 one : v.oneCell' = true
 ro : R b
 free : ¬ Own h μ b
inductive VR (w : World) (R : Nat → Prop) (h : Hp) (μ : Mu) : CV → Value → Prop where
 | bool (b : Bool) : VR w R h μ (.bool b) (.bool b)
 | int (k : IntKind) (n : Int) : VR w R h μ (.int k n) (.int k n)
 | str (bs : ByteArray) : VR w R h μ (.str bs.data.toList) (.string bs)
 | nilP : VR w R h μ .nilP (.pointer none)
 | nilS : VR w R h μ .nilS (.slice none 0 0)
 | nilM : VR w R h μ .nilM (.map none)
 | nilF : VR w R h μ .nilF .nilFunc
 | nilI : VR w R h μ .nilI .nilIface
 | ag (cs : List CV) (vs : Array Value) (hl : vs.size = cs.length) (h1 : ∀ (j : Nat) (v : Value), vs[j]? = some v → v.oneCell' = true)
   (hv : ∀ (j : Nat) (c : CV) (v : Value), cs[j]? = some c → vs[j]? = some v → VR w R h μ c v) : VR w R h μ (.ag cs) (.agg vs)
 | tu (cs : List CV) (vs : Array Value) (hl : vs.size = cs.length)
   (hv : ∀ (j : Nat) (c : CV) (v : Value), cs[j]? = some c → vs[j]? = some v → VR w R h μ c v) : VR w R h μ (.tu cs) (.tuple vs)
 | ptr (b off sz : Nat) (cs : List CV) (m : M) (hb : h.f b = .cells sz cs) (hm : μ b = some m) :
   VR w R h μ (.ptr b off sz) (.pointer (some ⟨m.r, m.s + off, none⟩))
 | ptrGone (b off sz : Nat) (a : Addr) (hg : Gone h b sz) : VR w R h μ (.ptr b off sz) (.pointer (some a))
 | rptr (cs : List CV) (off blk o : Nat) (vals : Nat → Value) (hc : ∀ j, j < cs.length → Cell w R h μ blk (o + j) (vals j))
   (hv : ∀ (j : Nat) (c : CV), cs[j]? = some c → VR w R h μ c (vals j)) : VR w R h μ (.rptr cs off) (.pointer (some ⟨blk, o + off, none⟩))
 | sl (z b off len cap sz cap' : Nat) (cs : List CV) (m : M) (hb : h.f b = .cells sz cs) (hm : μ b = some m) (hl : len ≤ cap) (ho : off + cap * z ≤ sz)
   (hc : (off + cap * z < sz ∧ cap' = cap) ∨ (off + cap * z = sz ∧ cap ≤ cap' ∧ m.s + off + cap' * z ≤ m.T)) :
   VR w R h μ (.sl z b off len cap sz) (.slice (some ⟨m.r, m.s + off, none⟩) len cap')
 | slGone (z b off len cap sz cap' : Nat) (a : Addr) (hl : len ≤ cap) (hc : cap ≤ cap') (hg : Gone h b sz) : VR w R h μ (.sl z b off len cap sz) (.slice (some a) len cap')
 | slEnd (z b off sz : Nat) (a : Addr) (cs : List CV) (m : M) (hb : h.f b = .cells sz cs) (hm : μ b = some m) : VR w R h μ (.sl z b off 0 0 sz) (.slice (some a) 0 0)
 | rsl (z : Nat) (es : List (List CV)) (blk off cap : Nat) (vals : Nat → Nat → Value) (hl : es.length ≤ cap) (hz : ∀ e, e ∈ es → e.length = z)
   (hc : ∀ i j, i < es.length → j < z → Cell w R h μ blk (off + (i * z + j)) (vals i j))
   (hv : ∀ (i : Nat) (e : List CV), es[i]? = some e → ∀ (j : Nat) (c : CV), e[j]? = some c → VR w R h μ c (vals i j)) :
   VR w R h μ (.rsl z es) (.slice (some ⟨blk, off, none⟩) es.length cap)
 | rsl0 (z : Nat) (a : Addr) (cap : Nat) : VR w R h μ (.rsl z []) (.slice (some a) 0 cap)
 | fn (f : FuncId) (first captured : List CV) (fs cs : Array Value) (hf : fs.size = first.length) (hc : cs.size = captured.length)
   (h1 : ∀ (j : Nat) (c : CV) (v : Value), first[j]? = some c → fs[j]? = some v → VR w R h μ c v) (h2 : ∀ (j : Nat) (c : CV) (v : Value), captured[j]? = some c → cs[j]? = some v → VR w R h μ c v) :
   VR w R h μ (.fn f first captured) (.func (.func f) fs cs)
 | mp (b : Nat) (m : M) (hb : kindC (h.f b) = 1) (hm : μ b = some m) : VR w R h μ (.mp b) (.map (some m.r))
 | it (b : Nat) (m : M) (hb : kindC (h.f b) = 2) (hm : μ b = some m) : VR w R h μ (.it b) (.pointer (some ⟨m.r, 0, none⟩))
 | ifc (t : TypeId) (c : CV) (v : Value) (hv : VR w R h μ c v) : VR w R h μ (.ifc t c) (.iface t v)
 | yl (l : Nat) : VR w R h μ (.yl l) (.func (.yield l) #[] #[])
 | bad (v : Value) : VR w R h μ .bad v
structure Ext0 (w : World) (h : Hp) (μ : Mu) (w' : World) (h' : Hp) (μ' : Mu) : Prop where
 os : w'.os = w.os
 tape : w'.tape = w.tape
 output : w'.output = w.output
 size : w.heap.size ≤ w'.heap.size
 keep : ∀ k, k < w.heap.size → ¬ Own h μ k → w'.heap[k]? = w.heap[k]?
 own : ∀ k, Own h' μ' k → Own h μ k ∨ w.heap.size ≤ k
 cells : ∀ b sz cs m, h.f b = .cells sz cs → μ b = some m → (∃ cs', h'.f b = .cells sz cs' ∧ μ' b = some m) ∨ Gone h' b sz
 gone : ∀ b sz, Gone h b sz → Gone h' b sz
 objs : ∀ b k m, kindC (h.f b) = k + 1 → μ b = some m → kindC (h'.f b) = k + 1 ∧ μ' b = some m
 n : h.n ≤ h'.n
 drawn : w.drawn ≤ w'.drawn := by first | exact Nat.le_refl _ | exact Nat.le_succ _ | assumption
structure Ext (w : World) (h : Hp) (μ : Mu) (w' : World) (h' : Hp) (μ' : Mu) : Prop extends Ext0 w h μ w' h' μ' where
 unm : ∀ b, b < h.n → μ b = none → μ' b = none
theorem Ext0.refl (w : World) (h : Hp) (μ : Mu) : Ext0 w h μ w h μ :=
 ⟨rfl, rfl, rfl, Nat.le_refl _, fun _ _ _ => rfl, fun _ h => .inl h, fun b sz cs m h1 h2 => .inl ⟨cs, h1, h2⟩, fun _ _ h => h, fun _ _ _ h1 h2 => ⟨h1, h2⟩, Nat.le_refl _, Nat.le_refl _⟩
theorem Ext.refl (w : World) (h : Hp) (μ : Mu) : Ext w h μ w h μ := ⟨.refl w h μ, fun _ _ h => h⟩
theorem Ext0.trans {w w1 w2 : World} {h h1 h2 : Hp} {μ μ1 μ2 : Mu} (a : Ext0 w h μ w1 h1 μ1) (b : Ext0 w1 h1 μ1 w2 h2 μ2) : Ext0 w h μ w2 h2 μ2 := by
 refine ⟨b.os.trans a.os, b.tape.trans a.tape, b.output.trans a.output, Nat.le_trans a.size b.size, ?_, ?_, ?_, fun _ _ hg => b.gone _ _ (a.gone _ _ hg), ?_, Nat.le_trans a.n b.n, Nat.le_trans a.drawn b.drawn⟩
 ·intro k hk hn
  rw [b.keep k (Nat.lt_of_lt_of_le hk a.size) (fun ho => (a.own k ho).elim hn (by omega)), a.keep k hk hn]
 ·intro k hk
  rcases b.own k hk with h | h
  ·exact a.own k h
  ·exact .inr (Nat.le_trans a.size h)
 ·intro blk sz cs m hb hm
  rcases a.cells blk sz cs m hb hm with ⟨cs', h3, h4⟩ | h3
  ·exact b.cells blk sz cs' m h3 h4
  ·exact .inr (b.gone _ _ h3)
 ·intro blk k m hb hm
  obtain ⟨h3, h4⟩ := a.objs blk k m hb hm
  exact b.objs blk k m h3 h4
theorem Ext.trans {w w1 w2 : World} {h h1 h2 : Hp} {μ μ1 μ2 : Mu} (a : Ext w h μ w1 h1 μ1) (b : Ext w1 h1 μ1 w2 h2 μ2) : Ext w h μ w2 h2 μ2 :=
 ⟨a.toExt0.trans b.toExt0, fun blk hb hm => b.unm blk (Nat.lt_of_lt_of_le hb a.n) (a.unm blk hb hm)⟩
theorem Cell.ext {w w' : World} {h h' : Hp} {μ μ' : Mu} {R : Nat → Prop} {b o : Nat} {v : Value} (e : Ext0 w h μ w' h' μ') (c : Cell w R h μ b o v) : Cell w' R h' μ' b o v := by
 have hb : b < w.heap.size := World.block_lt_of_cell? _ _ c.here
 refine ⟨?_, c.one, c.ro, fun ho => ?_⟩
 ·rw [World.cell?_of_block (w := w) (a := ⟨b, o, none⟩) (e.keep b hb c.free)]; exact c.here
 ·rcases e.own b ho with h1 | h1
  ·exact c.free h1
  ·omega
theorem VR.ext0 {w w' : World} {h h' : Hp} {μ μ' : Mu} {R : Nat → Prop} {c : CV} {v : Value} (e : Ext0 w h μ w' h' μ') (hv : VR w R h μ c v) : VR w' R h' μ' c v := by
 induction hv with
 | bool b => exact .bool b
 | int k n => exact .int k n
 | str bs => exact .str bs
 | nilP => exact .nilP
 | nilS => exact .nilS
 | nilM => exact .nilM
 | nilF => exact .nilF
 | nilI => exact .nilI
 | ag cs vs hl h1 hv ih => exact .ag cs vs hl h1 ih
 | tu cs vs hl hv ih => exact .tu cs vs hl ih
 | ptr b off sz cs m hb hm =>
  rcases e.cells b sz cs m hb hm with ⟨cs', h1, h2⟩ | h1
  ·exact .ptr b off sz cs' m h1 h2
  ·exact .ptrGone b off sz _ h1
 | ptrGone b off sz a hg => exact .ptrGone b off sz a (e.gone _ _ hg)
 | rptr cs off blk o vals hc hv ih => exact .rptr cs off blk o vals (fun j hj => (hc j hj).ext e) ih
 | sl z b off len cap sz cap' cs m hb hm hl ho hc =>
  rcases e.cells b sz cs m hb hm with ⟨cs', h1, h2⟩ | h1
  ·exact .sl z b off len cap sz cap' cs' m h1 h2 hl ho hc
  ·exact .slGone z b off len cap sz cap' _ hl (by omega) h1
 | slGone z b off len cap sz cap' a hl hc hg => exact .slGone z b off len cap sz cap' a hl hc (e.gone _ _ hg)
 | slEnd z b off sz a cs m hb hm =>
  rcases e.cells b sz cs m hb hm with ⟨cs', h1, h2⟩ | h1
  ·exact .slEnd z b off sz a cs' m h1 h2
  ·exact .slGone z b off 0 0 sz 0 a (Nat.le_refl _) (Nat.le_refl _) h1
 | rsl z es blk off cap vals hl hz hc hv ih => exact .rsl z es blk off cap vals hl hz (fun i j hi hj => (hc i j hi hj).ext e) ih
 | rsl0 z a cap => exact .rsl0 z a cap
 | fn f first captured fs cs hf hc h1 h2 ih1 ih2 => exact .fn f first captured fs cs hf hc ih1 ih2
 | mp b m hb hm =>
  obtain ⟨h1, h2⟩ := e.objs b 0 m hb hm
  exact .mp b m h1 h2
 | it b m hb hm =>
  obtain ⟨h1, h2⟩ := e.objs b 1 m hb hm
  exact .it b m h1 h2
 | ifc t c v hv ih => exact .ifc t c v ih
 | yl l => exact .yl l
 | bad v => exact .bad v
theorem VR.ext {w w' : World} {h h' : Hp} {μ μ' : Mu} {R : Nat → Prop} {c : CV} {v : Value} (e : Ext w h μ w' h' μ') (hv : VR w R h μ c v) : VR w' R h' μ' c v := hv.ext0 e.toExt0
def BlkOk (w : World) (R : Nat → Prop) (h : Hp) (μ : Mu) (m : M) : CB → Prop
 | .cells sz cs => cs.length = sz ∧ m.s + sz ≤ m.T ∧ ∃ arr e fz, w.heap[m.r]? = some (.cells arr e fz) ∧ arr.size = m.T ∧ (fz = (0, 0) ∨ m.T < fz.1) ∧
   ∀ (j : Nat) (c : CV), cs[j]? = some c → ∃ v : Value, arr[m.s + j]? = some v ∧ v.oneCell' = true ∧ VR w R h μ c v
 | .map es ck => ∃ es', w.heap[m.r]? = some (.map es' ck) ∧ es'.size = es.length ∧
   ∀ (j : Nat) (k v : CV) (b : Nat), es[j]? = some (k, v, b) → ∃ x : MapEntry, es'[j]? = some x ∧ VR w R h μ k x.key ∧ VR w R h μ v x.val ∧ x.born = b
 | .iter s pos => ∃ bs : ByteArray, bs.data.toList = s ∧ w.heap[m.r]? = some (.stringIter bs pos)
 | _ => True
theorem BlkOk.ext {w w' : World} {h h' : Hp} {μ μ' : Mu} {R : Nat → Prop} {m : M} (e : Ext0 w h μ w' h' μ') (hw : w'.heap[m.r]? = w.heap[m.r]?) :
  ∀ {c : CB}, BlkOk w R h μ m c → BlkOk w' R h' μ' m c
 | .cells sz cs, ⟨h1, h2, arr, t, fz, h3, h4, h5, h6⟩ => ⟨h1, h2, arr, t, fz, hw.trans h3, h4, h5, fun j c hj => let ⟨v, a, b, d⟩ := h6 j c hj; ⟨v, a, b, d.ext0 e⟩⟩
 | .map es ck, ⟨es', h1, h2, h3⟩ => ⟨es', hw.trans h1, h2, fun j k v b hj => let ⟨x, a, b1, d, f⟩ := h3 j k v b hj; ⟨x, a, b1.ext0 e, d.ext0 e, f⟩⟩
 | .iter s pos, ⟨bs, h1, h2⟩ => ⟨bs, h1, hw.trans h2⟩
 | .none, _ => trivial
 | .dead, _ => trivial
structure Rel (R : Nat → Prop) (B : Nat) (w : World) (h : Hp) (μ : Mu) : Prop where
 blk : ∀ b m, μ b = some m → BlkOk w R h μ m (h.f b)
 inj : ∀ b b' m m', live (h.f b) = true → live (h.f b') = true → μ b = some m → μ b' = some m' → m.r = m'.r → b = b'
 base : ∀ b m, live (h.f b) = true → μ b = some m → B ≤ m.r
 fresh : ∀ b, h.n ≤ b → h.f b = .none
 up : ∀ k, B ≤ k → R k
 size : B ≤ w.heap.size
 mu : ∀ b, h.n ≤ b → μ b = none
theorem Rel.bn {R : Nat → Prop} {B : Nat} {w : World} {h : Hp} {μ : Mu} (rel : Rel R B w h μ) {b : Nat} {m : M} (hm : μ b = some m) : b < h.n := by
 rcases Nat.lt_or_ge b h.n with h1 | h1
 ·exact h1
 ·rw [rel.mu b h1] at hm; cases hm
theorem Rel.lt {R : Nat → Prop} {B : Nat} {w : World} {h : Hp} {μ : Mu} (rel : Rel R B w h μ) {b : Nat} {m : M} (hl : live (h.f b) = true) (hm : μ b = some m) : m.r < w.heap.size := by
 have hb := rel.blk b m hm
 cases hc : h.f b with
 | none => rw [hc] at hl; cases hl
 | dead => rw [hc] at hl; cases hl
 | cells sz cs =>
  rw [hc] at hb
  obtain ⟨_, _, arr, t, fz, h3, _⟩ := hb
  rcases Nat.lt_or_ge m.r w.heap.size with h | h
  ·exact h
  ·rw [Array.getElem?_eq_none h] at h3; cases h3
 | map es ck =>
  rw [hc] at hb
  obtain ⟨es', h3, _⟩ := hb
  rcases Nat.lt_or_ge m.r w.heap.size with h | h
  ·exact h
  ·rw [Array.getElem?_eq_none h] at h3; cases h3
 | iter s pos =>
  rw [hc] at hb
  obtain ⟨bs, _, h3⟩ := hb
  rcases Nat.lt_or_ge m.r w.heap.size with h | h
  ·exact h
  ·rw [Array.getElem?_eq_none h] at h3; cases h3
theorem Rel.upd {R : Nat → Prop} {B : Nat} {w w' : World} {h h' : Hp} {μ μ' : Mu} (rel : Rel R B w h μ) (e : Ext0 w h μ w' h' μ') (b0 : Nat)
  (hother : ∀ b, b ≠ b0 → live (h'.f b) = true → h'.f b = h.f b ∧ μ' b = μ b ∧ ∀ m, μ b = some m → w'.heap[m.r]? = w.heap[m.r]?)
  (hb0 : ∀ m, μ' b0 = some m → BlkOk w' R h' μ' m (h'.f b0))
  (hinj : ∀ b m m', b ≠ b0 → live (h'.f b) = true → live (h'.f b0) = true → μ b = some m → μ' b0 = some m' → m.r ≠ m'.r)
  (hbase : ∀ m, live (h'.f b0) = true → μ' b0 = some m → B ≤ m.r)
  (hfresh : ∀ b, h'.n ≤ b → h'.f b = .none) (hmu : ∀ b, h'.n ≤ b → μ' b = none) : Rel R B w' h' μ' := by
 refine ⟨?_, ?_, ?_, hfresh, rel.up, Nat.le_trans rel.size e.size, hmu⟩
 ·intro b m hm
  by_cases hb : b = b0
  ·subst hb; exact hb0 m hm
  ·cases hl : live (h'.f b) with
   | false => cases hc : h'.f b <;> first | trivial | (rw [hc] at hl; cases hl)
   | true =>
    obtain ⟨h1, h2, h3⟩ := hother b hb hl
    rw [h2] at hm
    rw [h1]
    exact (rel.blk b m hm).ext e (h3 m hm)
 ·intro b b' m m' hl hl' hm hm' hr
  by_cases hb : b = b0 <;> by_cases hb' : b' = b0
  ·rw [hb, hb']
  ·subst hb
   obtain ⟨h1, h2, h3⟩ := hother b' hb' hl'
   rw [h2] at hm'
   exact absurd hr.symm (hinj b' m' m hb' hl' hl hm' hm)
  ·subst hb'
   obtain ⟨h1, h2, h3⟩ := hother b hb hl
   rw [h2] at hm
   exact absurd hr (hinj b m m' hb hl hl' hm hm')
  ·obtain ⟨h1, h2, _⟩ := hother b hb hl
   obtain ⟨h3, h4, _⟩ := hother b' hb' hl'
   rw [h1] at hl; rw [h2] at hm; rw [h3] at hl'; rw [h4] at hm'
   exact rel.inj b b' m m' hl hl' hm hm' hr
 ·intro b m hl hm
  by_cases hb : b = b0
  ·subst hb; exact hbase m hl hm
  ·obtain ⟨h1, h2, _⟩ := hother b hb hl
   rw [h1] at hl; rw [h2] at hm
   exact rel.base b m hl hm
theorem Rel.push {R : Nat → Prop} {B : Nat} {w w' : World} {h : Hp} {μ : Mu} (rel : Rel R B w h μ) (cs : List CV) (arr : Array Value) (t : TypeId)
  (hos : w'.os = w.os) (htape : w'.tape = w.tape) (hout : w'.output = w.output) (hheap : w'.heap = w.heap.push (.cells arr t (0, 0)))
  (hsz : cs.length ≤ arr.size) (hv : ∀ (j : Nat) (c : CV), cs[j]? = some c → ∃ v : Value, arr[j]? = some v ∧ v.oneCell' = true ∧ VR w R h μ c v) (hdr : w.drawn ≤ w'.drawn := by first | exact Nat.le_refl _ | exact Nat.le_succ _ | assumption) :
  Ext w h μ w' (h.push (.cells cs.length cs)) (fupd μ h.n (some ⟨w.heap.size, 0, arr.size⟩)) ∧
  Rel R B w' (h.push (.cells cs.length cs)) (fupd μ h.n (some ⟨w.heap.size, 0, arr.size⟩)) := by
 have hn : h.f h.n = .none := rel.fresh _ (Nat.le_refl _)
 have e : Ext w h μ w' (h.push (.cells cs.length cs)) (fupd μ h.n (some ⟨w.heap.size, 0, arr.size⟩)) := by
  refine ⟨⟨hos, htape, hout, by simp [hheap], ?_, ?_, ?_, ?_, ?_, ?_, hdr⟩, ?_⟩
  ·intro k hk _
   rw [hheap, Array.getElem?_push, if_neg (by omega)]
  ·rintro k ⟨b, m, hl, hm, rfl⟩
   by_cases hb : b = h.n
   ·subst hb; simp at hm; subst hm; exact .inr (Nat.le_refl _)
   ·rw [fupd_ne _ _ _ _ hb] at hm
    simp only [push_f, push_n, fupd_ne _ _ _ _ hb] at hl
    exact .inl ⟨b, m, hl, hm, rfl⟩
  ·intro b sz cs' m hb hm
   have : b ≠ h.n := fun hh => by rw [hh, hn] at hb; cases hb
   exact .inl ⟨cs', by simp only [push_f, push_n, fupd_ne _ _ _ _ this]; exact hb, by rw [fupd_ne _ _ _ _ this]; exact hm⟩
  ·rintro b sz (hb | ⟨n, cs', hb, hlt⟩)
   ·have : b ≠ h.n := fun hh => by rw [hh, hn] at hb; cases hb
    exact .inl (by simp only [push_f, push_n, fupd_ne _ _ _ _ this]; exact hb)
   ·have : b ≠ h.n := fun hh => by rw [hh, hn] at hb; cases hb
    exact .inr ⟨n, cs', by simp only [push_f, push_n, fupd_ne _ _ _ _ this]; exact hb, hlt⟩
  ·intro b k m hb hm
   have : b ≠ h.n := fun hh => by rw [hh, hn] at hb; cases hb
   exact ⟨by simp only [push_f, push_n, fupd_ne _ _ _ _ this]; exact hb, by rw [fupd_ne _ _ _ _ this]; exact hm⟩
  ·simp [push_f, push_n]
  ·intro b hb hm
   rw [fupd_ne _ _ _ _ (by omega)]; exact hm
 refine ⟨e, rel.upd e.toExt0 h.n ?_ ?_ ?_ ?_ ?_ ?_⟩
 ·intro b hb hl
  simp only [push_f, push_n, fupd_ne _ _ _ _ hb] at hl ⊢
  exact ⟨trivial, trivial, fun m hm => by rw [hheap, Array.getElem?_push, if_neg (by have := rel.lt hl hm; omega)]⟩
 ·intro m hm
  simp at hm; subst hm
  simp only [push_f, push_n, fupd_same]
  refine ⟨rfl, by simpa using hsz, arr, t, (0, 0), by simp [hheap], rfl, .inl rfl, fun j c hj => ?_⟩
  obtain ⟨v, h1, h2, h3⟩ := hv j c hj
  exact ⟨v, by simpa using h1, h2, h3.ext e⟩
 ·intro b m m' hb hl _ hm hm'
  simp only [push_f, push_n, fupd_ne _ _ _ _ hb] at hl
  simp at hm'; subst hm'
  have := rel.lt hl hm
  simp only [ne_eq]; omega
 ·intro m _ hm
  simp at hm; subst hm
  exact rel.size
 ·intro b hb
  simp only [push_f, push_n] at hb ⊢
  rw [fupd_ne _ _ _ _ (by omega)]
  exact rel.fresh b (by omega)
 ·intro b hb
  simp only [push_f, push_n] at hb
  rw [fupd_ne _ _ _ _ (by omega)]
  exact rel.mu b (by omega)
theorem Rel.same {R : Nat → Prop} {B : Nat} {w : World} {h h' : Hp} {μ : Mu} (rel : Rel R B w h μ) (hf : h'.f = h.f) (hn : h'.n = h.n) : Ext w h μ w h' μ ∧ Rel R B w h' μ := by
 have e : Ext w h μ w h' μ := by
  refine ⟨⟨rfl, rfl, rfl, Nat.le_refl _, fun _ _ _ => rfl, ?_, ?_, ?_, ?_, by omega, Nat.le_refl _⟩, fun _ _ hm => hm⟩
  ·rintro k ⟨b', m', hl', hm', rfl⟩
   rw [hf] at hl'; exact .inl ⟨b', m', hl', hm', rfl⟩
  ·intro b' sz' cs' m' hb' hm'
   exact .inl ⟨cs', by rw [hf]; exact hb', hm'⟩
  ·intro b' sz' hg
   unfold Gone at hg ⊢; rw [hf]; exact hg
  ·intro b' k' m' hb' hm'
   exact ⟨by rw [hf]; exact hb', hm'⟩
 refine ⟨e, rel.upd e.toExt0 h.n (fun b _ _ => ⟨by rw [hf], rfl, fun _ _ => rfl⟩) (fun m hm => ?_) (fun b m m' _ _ _ _ hm => ?_) (fun m _ hm => ?_) (fun b hb => by rw [hf]; exact rel.fresh b (by omega)) (by rw [hn]; exact rel.mu)⟩
 all_goals (rw [rel.mu h.n (Nat.le_refl _)] at hm; cases hm)
theorem Rel.kill {R : Nat → Prop} {B : Nat} {w : World} {h h' : Hp} {μ : Mu} (rel : Rel R B w h μ) {b sz : Nat} {cs : List CV} (hb : h.f b = .cells sz cs) (hbn : b < h.n)
  (hf : h'.f = fupd h.f b .dead) (hn : h'.n = h.n) : Ext w h μ w h' μ ∧ Rel R B w h' μ := by
 have e : Ext w h μ w h' μ := by
  refine ⟨⟨rfl, rfl, rfl, Nat.le_refl _, fun _ _ _ => rfl, ?_, ?_, ?_, ?_, by omega, Nat.le_refl _⟩, fun _ _ hm => hm⟩
  ·rintro k ⟨b', m', hl', hm', rfl⟩
   rw [hf] at hl'
   by_cases hbb : b' = b
   ·subst hbb; simp [live] at hl'
   ·rw [fupd_ne _ _ _ _ hbb] at hl'; exact .inl ⟨b', m', hl', hm', rfl⟩
  ·intro b' sz' cs' m' hb' hm'
   by_cases hbb : b' = b
   ·subst hbb; exact .inr (.inl (by rw [hf]; simp))
   ·exact .inl ⟨cs', by rw [hf, fupd_ne _ _ _ _ hbb]; exact hb', hm'⟩
  ·rintro b' sz' hg
   by_cases hbb : b' = b
   ·subst hbb; exact .inl (by rw [hf]; simp)
   ·rcases hg with hg | ⟨n, cs', hg, hlt⟩
    ·exact .inl (by rw [hf, fupd_ne _ _ _ _ hbb]; exact hg)
    ·exact .inr ⟨n, cs', by rw [hf, fupd_ne _ _ _ _ hbb]; exact hg, hlt⟩
  ·intro b' k' m' hb' hm'
   by_cases hbb : b' = b
   ·subst hbb; rw [hb] at hb'; cases hb'
   ·exact ⟨by rw [hf, fupd_ne _ _ _ _ hbb]; exact hb', hm'⟩
 refine ⟨e, rel.upd e.toExt0 b ?_ ?_ ?_ ?_ ?_ (by rw [hn]; exact rel.mu)⟩
 ·intro b' hbb hl
  rw [hf, fupd_ne _ _ _ _ hbb]
  exact ⟨rfl, rfl, fun _ _ => rfl⟩
 ·intro m _
  rw [hf]; simp [BlkOk]
 ·intro b' m m' _ _ hl
  rw [hf] at hl; simp [live] at hl
 ·intro m hl
  rw [hf] at hl; simp [live] at hl
 ·intro b' hb'
  rw [hf, fupd_ne _ _ _ _ (by omega)]
  exact rel.fresh b' (by omega)
theorem Rel.reseat {R : Nat → Prop} {B : Nat} {w : World} {h h' : Hp} {μ : Mu} (rel : Rel R B w h μ) {b sz off : Nat} {cs : List CV} {m : M} (hb : h.f b = .cells sz cs) (hm : μ b = some m) (ho : off ≤ sz)
  (hf : h'.f = fupd (fupd h.f b .dead) h.n (.cells (sz - off) (cs.drop off))) (hn : h'.n = h.n + 1) :
  Ext w h μ w h' (fupd μ h.n (some ⟨m.r, m.s + off, m.T⟩)) ∧ Rel R B w h' (fupd μ h.n (some ⟨m.r, m.s + off, m.T⟩)) := by
 have hbn := rel.bn hm
 have hnn : h.f h.n = .none := rel.fresh _ (Nat.le_refl _)
 have hlive : live (h.f b) = true := by rw [hb]; rfl
 have e : Ext w h μ w h' (fupd μ h.n (some ⟨m.r, m.s + off, m.T⟩)) := by
  refine ⟨⟨rfl, rfl, rfl, Nat.le_refl _, fun _ _ _ => rfl, ?_, ?_, ?_, ?_, by omega, Nat.le_refl _⟩, fun b' hb' hm' => by rw [fupd_ne _ _ _ _ (by omega)]; exact hm'⟩
  ·rintro k ⟨b', m', hl', hm', rfl⟩
   rw [hf] at hl'
   by_cases hbn' : b' = h.n
   ·subst hbn'; simp at hm'; subst hm'; exact .inl ⟨b, m, hlive, hm, rfl⟩
   ·rw [fupd_ne _ _ _ _ hbn'] at hl' hm'
    by_cases hbb : b' = b
    ·subst hbb; simp [live] at hl'
    ·rw [fupd_ne _ _ _ _ hbb] at hl'; exact .inl ⟨b', m', hl', hm', rfl⟩
  ·intro b' sz' cs' m' hb' hm'
   have hbn' : b' ≠ h.n := fun hh => by rw [hh, hnn] at hb'; cases hb'
   by_cases hbb : b' = b
   ·subst hbb; exact .inr (.inl (by rw [hf, fupd_ne _ _ _ _ hbn']; simp))
   ·exact .inl ⟨cs', by rw [hf, fupd_ne _ _ _ _ hbn', fupd_ne _ _ _ _ hbb]; exact hb', by rw [fupd_ne _ _ _ _ hbn']; exact hm'⟩
  ·rintro b' sz' hg
   have hbn' : b' ≠ h.n := fun hh => by
    subst hh
    rcases hg with hg | ⟨n, cs', hg, _⟩
    ·rw [hnn] at hg; cases hg
    ·rw [hnn] at hg; cases hg
   by_cases hbb : b' = b
   ·subst hbb; exact .inl (by rw [hf, fupd_ne _ _ _ _ hbn']; simp)
   ·rcases hg with hg | ⟨n, cs', hg, hlt⟩
    ·exact .inl (by rw [hf, fupd_ne _ _ _ _ hbn', fupd_ne _ _ _ _ hbb]; exact hg)
    ·exact .inr ⟨n, cs', by rw [hf, fupd_ne _ _ _ _ hbn', fupd_ne _ _ _ _ hbb]; exact hg, hlt⟩
  ·intro b' k' m' hb' hm'
   have hbn' : b' ≠ h.n := fun hh => by rw [hh, hnn] at hb'; cases hb'
   by_cases hbb : b' = b
   ·subst hbb; rw [hb] at hb'; cases hb'
   ·exact ⟨by rw [hf, fupd_ne _ _ _ _ hbn', fupd_ne _ _ _ _ hbb]; exact hb', by rw [fupd_ne _ _ _ _ hbn']; exact hm'⟩
 have hother : ∀ b', b' ≠ h.n → live (h'.f b') = true → b' ≠ b ∧ h'.f b' = h.f b' := fun b' hbn' hl => by
  rw [hf, fupd_ne _ _ _ _ hbn'] at hl ⊢
  by_cases hbb : b' = b
  ·subst hbb; simp [live] at hl
  ·exact ⟨hbb, by rw [fupd_ne _ _ _ _ hbb]⟩
 refine ⟨e, rel.upd e.toExt0 h.n ?_ ?_ ?_ ?_ ?_ ?_⟩
 ·intro b' hbn' hl
  exact ⟨(hother b' hbn' hl).2, by rw [fupd_ne _ _ _ _ hbn'], fun _ _ => rfl⟩
 ·intro m' hm'
  simp at hm'; subst hm'
  rw [hf, fupd_same]
  have hbk := rel.blk b m hm
  rw [hb] at hbk
  obtain ⟨h1, h2, arr, t, fz, h3, h4, h5, h6⟩ := hbk
  refine ⟨by simp; omega, by simp only; omega, arr, t, fz, h3, h4, h5, fun j c hj => ?_⟩
  rw [List.getElem?_drop] at hj
  obtain ⟨v, a1, a2, a3⟩ := h6 (off + j) c hj
  exact ⟨v, by simp only; rw [Nat.add_assoc]; exact a1, a2, a3.ext e⟩
 ·intro b' m1 m2 hbn' hl _ h1 h2 hh
  simp at h2; subst h2
  obtain ⟨hbb, hl2⟩ := hother b' hbn' hl
  rw [hl2] at hl
  exact hbb (rel.inj b' b m1 m hl hlive h1 hm hh)
 ·intro m' _ hm'
  simp at hm'; subst hm'
  exact rel.base b m hlive hm
 ·intro b' hb'
  rw [hf, fupd_ne _ _ _ _ (by omega), fupd_ne _ _ _ _ (by omega)]
  exact rel.fresh b' (by omega)
 ·intro b' hb'
  rw [fupd_ne _ _ _ _ (by omega)]
  exact rel.mu b' (by omega)
theorem Rel.pushO {R : Nat → Prop} {B : Nat} {w w' : World} {h : Hp} {μ : Mu} (rel : Rel R B w h μ) (c : CB) (o : Obj) {k : Nat} (hk : kindC c = k + 1)
  (hos : w'.os = w.os) (htape : w'.tape = w.tape) (hout : w'.output = w.output) (hheap : w'.heap = w.heap.push o)
  (hok : BlkOk w' R (h.push c) (fupd μ h.n (some ⟨w.heap.size, 0, 0⟩)) ⟨w.heap.size, 0, 0⟩ c) (hdr : w.drawn ≤ w'.drawn := by first | exact Nat.le_refl _ | exact Nat.le_succ _ | assumption) :
  Ext w h μ w' (h.push c) (fupd μ h.n (some ⟨w.heap.size, 0, 0⟩)) ∧ Rel R B w' (h.push c) (fupd μ h.n (some ⟨w.heap.size, 0, 0⟩)) := by
 have hn : h.f h.n = .none := rel.fresh _ (Nat.le_refl _)
 have hkc : kindC CB.none = 0 := rfl
 have e : Ext w h μ w' (h.push c) (fupd μ h.n (some ⟨w.heap.size, 0, 0⟩)) := by
  refine ⟨⟨hos, htape, hout, by simp [hheap], ?_, ?_, ?_, ?_, ?_, ?_, hdr⟩, ?_⟩
  ·intro k hk _
   rw [hheap, Array.getElem?_push, if_neg (by omega)]
  ·rintro k ⟨b, m, hl, hm, rfl⟩
   by_cases hb : b = h.n
   ·subst hb; simp at hm; subst hm; exact .inr (Nat.le_refl _)
   ·rw [fupd_ne _ _ _ _ hb] at hm
    simp only [push_f, push_n, fupd_ne _ _ _ _ hb] at hl
    exact .inl ⟨b, m, hl, hm, rfl⟩
  ·intro b sz cs' m hb hm
   have : b ≠ h.n := fun hh => by rw [hh, hn] at hb; cases hb
   exact .inl ⟨cs', by simp only [push_f, push_n, fupd_ne _ _ _ _ this]; exact hb, by rw [fupd_ne _ _ _ _ this]; exact hm⟩
  ·rintro b sz (hb | ⟨n, cs', hb, hlt⟩)
   ·have : b ≠ h.n := fun hh => by rw [hh, hn] at hb; cases hb
    exact .inl (by simp only [push_f, push_n, fupd_ne _ _ _ _ this]; exact hb)
   ·have : b ≠ h.n := fun hh => by rw [hh, hn] at hb; cases hb
    exact .inr ⟨n, cs', by simp only [push_f, push_n, fupd_ne _ _ _ _ this]; exact hb, hlt⟩
  ·intro b k m hb hm
   have : b ≠ h.n := fun hh => by rw [hh, hn] at hb; cases hb
   exact ⟨by simp only [push_f, push_n, fupd_ne _ _ _ _ this]; exact hb, by rw [fupd_ne _ _ _ _ this]; exact hm⟩
  ·simp [push_f, push_n]
  ·intro b hb hm
   rw [fupd_ne _ _ _ _ (by omega)]; exact hm
 refine ⟨e, rel.upd e.toExt0 h.n ?_ ?_ ?_ ?_ ?_ ?_⟩
 ·intro b hb hl
  simp only [push_f, push_n, fupd_ne _ _ _ _ hb] at hl ⊢
  exact ⟨trivial, trivial, fun m hm => by rw [hheap, Array.getElem?_push, if_neg (by have := rel.lt hl hm; omega)]⟩
 ·intro m hm
  simp at hm; subst hm
  simp only [push_f, push_n, fupd_same]
  exact hok
 ·intro b m m' hb hl _ hm hm'
  simp only [push_f, push_n, fupd_ne _ _ _ _ hb] at hl
  simp at hm'; subst hm'
  have := rel.lt hl hm
  simp only [ne_eq]; omega
 ·intro m _ hm
  simp at hm; subst hm
  exact rel.size
 ·intro b hb
  simp only [push_f, push_n] at hb ⊢
  rw [fupd_ne _ _ _ _ (by omega)]
  exact rel.fresh b (by omega)
 ·intro b hb
  simp only [push_f, push_n] at hb ⊢
  rw [fupd_ne _ _ _ _ (by omega)]
  exact rel.mu b (by omega)
theorem Rel.putO {R : Nat → Prop} {B : Nat} {w w' : World} {h : Hp} {μ : Mu} (rel : Rel R B w h μ) {b k : Nat} {c c' : CB} {m : M}
  (hb : h.f b = c) (hk : kindC c = k + 1) (hk' : kindC c' = k + 1) (hm : μ b = some m)
  (hos : w'.os = w.os) (htape : w'.tape = w.tape) (hout : w'.output = w.output) (hws : w'.heap.size = w.heap.size) (hwo : ∀ k, k ≠ m.r → w'.heap[k]? = w.heap[k]?)
  (hok : Ext0 w h μ w' (h.set b c') μ → BlkOk w' R (h.set b c') μ m c') (hdr : w.drawn ≤ w'.drawn := by first | exact Nat.le_refl _ | exact Nat.le_succ _ | assumption) :
  Ext w h μ w' (h.set b c') μ ∧ Rel R B w' (h.set b c') μ := by
 have hlive : live (h.f b) = true := by rw [hb]; cases c <;> simp [kindC] at hk <;> rfl
 have hlive' : live c' = true := by cases c' <;> simp [kindC] at hk' <;> rfl
 have hnc : ∀ sz cs, h.f b ≠ .cells sz cs := fun sz cs hh => by rw [hb] at hh; subst hh; simp [kindC] at hk
 have hnd : h.f b ≠ .dead := fun hh => by rw [hb] at hh; subst hh; simp [kindC] at hk
 have e : Ext w h μ w' (h.set b c') μ := by
  refine ⟨⟨hos, htape, hout, Nat.le_of_eq hws.symm, ?_, ?_, ?_, ?_, ?_, Nat.le_refl _, hdr⟩, fun _ _ hm => hm⟩
  ·intro k hk hn
   exact hwo k (fun hh => hn ⟨b, m, hlive, hm, hh.symm⟩)
  ·rintro k ⟨b', m', hl', hm', rfl⟩
   by_cases hbb : b' = b
   ·subst hbb; exact .inl ⟨b', m', hlive, hm', rfl⟩
   ·simp only [set_f, fupd_ne _ _ _ _ hbb] at hl'
    exact .inl ⟨b', m', hl', hm', rfl⟩
  ·intro b' sz cs m' hb' hm'
   have hbb : b' ≠ b := fun hh => by subst hh; exact hnc _ _ hb'
   exact .inl ⟨cs, by simp only [set_f, fupd_ne _ _ _ _ hbb]; exact hb', hm'⟩
  ·rintro b' sz (hg | ⟨n, cs', hg, hlt⟩)
   ·have hbb : b' ≠ b := fun hh => by subst hh; exact hnd hg
    exact .inl (by simp only [set_f, fupd_ne _ _ _ _ hbb]; exact hg)
   ·have hbb : b' ≠ b := fun hh => by subst hh; exact hnc _ _ hg
    exact .inr ⟨n, cs', by simp only [set_f, fupd_ne _ _ _ _ hbb]; exact hg, hlt⟩
  ·intro b' k' m' hb' hm'
   by_cases hbb : b' = b
   ·subst hbb
    refine ⟨?_, hm'⟩
    simp only [set_f, fupd_same]
    rw [hb, hk] at hb'
    rw [hk']; exact hb'
   ·exact ⟨by simp only [set_f, fupd_ne _ _ _ _ hbb]; exact hb', hm'⟩
 refine ⟨e, rel.upd e.toExt0 b ?_ ?_ ?_ ?_ ?_ rel.mu⟩
 ·intro b' hbb hl
  simp only [set_f, fupd_ne _ _ _ _ hbb] at hl ⊢
  exact ⟨trivial, trivial, fun m' hm' => hwo _ (fun hh => hbb (rel.inj b' b m' m hl hlive hm' hm hh))⟩
 ·intro m' hm'
  rw [hm] at hm'; cases hm'
  simp only [set_f, fupd_same]
  exact hok e.toExt0
 ·intro b' m1 m2 hbb hl _ h1 h2 hh
  rw [hm] at h2; cases h2
  simp only [set_f, fupd_ne _ _ _ _ hbb] at hl
  exact hbb (rel.inj b' b m1 m hl hlive h1 hm hh)
 ·intro m' _ hm'
  rw [hm] at hm'; cases hm'
  exact rel.base b m hlive hm
 ·intro b' hb'
  by_cases hbb : b' = b
  ·subst hbb
   have := rel.bn hm
   simp only [set_n] at hb'; omega
  ·simp only [set_f, fupd_ne _ _ _ _ hbb]; exact rel.fresh b' hb'
theorem Rel.write {R : Nat → Prop} {B : Nat} {w w' : World} {h : Hp} {μ : Mu} (rel : Rel R B w h μ) {b sz sz' : Nat} {cs cs' : List CV} {m : M} {arr arr' : Array Value} {t : TypeId} {fz : Nat × Nat}
  (hb : h.f b = .cells sz cs) (hm : μ b = some m) (hr : w.heap[m.r]? = some (.cells arr t fz)) (hT : arr.size = m.T) (hfz : fz = (0, 0) ∨ m.T < fz.1)
  (hos : w'.os = w.os) (htape : w'.tape = w.tape) (hout : w'.output = w.output) (hws : w'.heap.size = w.heap.size)
  (hwr : w'.heap[m.r]? = some (.cells arr' t fz)) (hwo : ∀ k, k ≠ m.r → w'.heap[k]? = w.heap[k]?) (ha : arr'.size = arr.size)
  (hl : cs'.length = sz') (hgrow : sz ≤ sz') (hfit : m.s + sz' ≤ m.T)
  (hv : ∀ (j : Nat) (c : CV), cs'[j]? = some c → ∃ v : Value, arr'[m.s + j]? = some v ∧ v.oneCell' = true ∧ VR w R h μ c v) (hdr : w.drawn ≤ w'.drawn := by first | exact Nat.le_refl _ | exact Nat.le_succ _ | assumption) :
  Ext w h μ w' (h.set b (.cells sz' cs')) μ ∧ Rel R B w' (h.set b (.cells sz' cs')) μ := by
 have hlive : live (h.f b) = true := by rw [hb]; rfl
 have e : Ext w h μ w' (h.set b (.cells sz' cs')) μ := by
  refine ⟨⟨hos, htape, hout, Nat.le_of_eq hws.symm, ?_, ?_, ?_, ?_, ?_, Nat.le_refl _, hdr⟩, fun _ _ hm => hm⟩
  ·intro k hk hn
   exact hwo k (fun hh => hn ⟨b, m, hlive, hm, hh.symm⟩)
  ·rintro k ⟨b', m', hl', hm', rfl⟩
   by_cases hbb : b' = b
   ·subst hbb; exact .inl ⟨b', m', hlive, hm', rfl⟩
   ·simp only [set_f, set_n, fupd_ne _ _ _ _ hbb] at hl'
    exact .inl ⟨b', m', hl', hm', rfl⟩
  ·intro b' sz0 cs0 m' hb' hm'
   by_cases hbb : b' = b
   ·subst hbb
    rw [hb] at hb'; cases hb'
    by_cases hs : sz' = sz
    ·exact .inl ⟨cs', by simp [set_f, set_n, hs], hm'⟩
    ·exact .inr (.inr ⟨sz', cs', by simp [set_f, set_n], by omega⟩)
   ·exact .inl ⟨cs0, by simp only [set_f, set_n, fupd_ne _ _ _ _ hbb]; exact hb', hm'⟩
  ·rintro b' s0 (hb' | ⟨n, cs0, hb', hlt⟩)
   ·have hbb : b' ≠ b := fun hh => by rw [hh, hb] at hb'; cases hb'
    exact .inl (by simp only [set_f, set_n, fupd_ne _ _ _ _ hbb]; exact hb')
   ·by_cases hbb : b' = b
    ·subst hbb
     rw [hb] at hb'; cases hb'
     exact .inr ⟨sz', cs', by simp [set_f, set_n], by omega⟩
    ·exact .inr ⟨n, cs0, by simp only [set_f, set_n, fupd_ne _ _ _ _ hbb]; exact hb', hlt⟩
  ·intro b' k m' hb' hm'
   have hbb : b' ≠ b := fun hh => by rw [hh, hb] at hb'; cases hb'
   exact ⟨by simp only [set_f, set_n, fupd_ne _ _ _ _ hbb]; exact hb', hm'⟩
 refine ⟨e, rel.upd e.toExt0 b ?_ ?_ ?_ ?_ ?_ ?_⟩
 ·intro b' hbb hl'
  simp only [set_f, set_n, fupd_ne _ _ _ _ hbb] at hl' ⊢
  exact ⟨trivial, trivial, fun m' hm' => hwo _ (fun hh => hbb (rel.inj b' b m' m hl' hlive hm' hm hh))⟩
 ·intro m' hm'
  rw [hm] at hm'; cases hm'
  simp only [set_f, set_n, fupd_same]
  refine ⟨hl, hfit, arr', t, fz, hwr, ha.trans hT, hfz, fun j c hj => ?_⟩
  obtain ⟨v, h1, h2, h3⟩ := hv j c hj
  exact ⟨v, h1, h2, h3.ext e⟩
 ·intro b' m' m'' hbb hl' _ hm' hm'' hh
  rw [hm] at hm''; cases hm''
  simp only [set_f, set_n, fupd_ne _ _ _ _ hbb] at hl'
  exact hbb (rel.inj b' b m' m hl' hlive hm' hm hh)
 ·intro m' _ hm'
  exact rel.base b m' hlive hm'
 ·intro b' hb'
  simp only [set_f, set_n] at hb' ⊢
  have hbb : b' ≠ b := fun hh => by
   have := rel.fresh b' hb'
   rw [hh, hb] at this; cases this
  rw [fupd_ne _ _ _ _ hbb]
  exact rel.fresh b' hb'
 ·intro b' hb'
  exact rel.mu b' hb'
theorem Rel.move {R : Nat → Prop} {B : Nat} {w w' : World} {h : Hp} {μ : Mu} (rel : Rel R B w h μ) {b sz sz' : Nat} {cs cs' : List CV} {m : M} {arr : Array Value} {t : TypeId}
  (hb : h.f b = .cells sz cs) (hm : μ b = some m)
  (hos : w'.os = w.os) (htape : w'.tape = w.tape) (hout : w'.output = w.output) (hheap : w'.heap = w.heap.push (.cells arr t (0, 0)))
  (hl : cs'.length = sz') (hgrow : sz < sz') (hfit : sz' ≤ arr.size)
  (hv : ∀ (j : Nat) (c : CV), cs'[j]? = some c → ∃ v : Value, arr[j]? = some v ∧ v.oneCell' = true ∧ VR w R h μ c v) (hdr : w.drawn ≤ w'.drawn := by first | exact Nat.le_refl _ | exact Nat.le_succ _ | assumption) :
  Ext w h μ w' (h.set b (.cells sz' cs')) (fupd μ b (some ⟨w.heap.size, 0, arr.size⟩)) ∧ Rel R B w' (h.set b (.cells sz' cs')) (fupd μ b (some ⟨w.heap.size, 0, arr.size⟩)) := by
 have hlive : live (h.f b) = true := by rw [hb]; rfl
 have e : Ext w h μ w' (h.set b (.cells sz' cs')) (fupd μ b (some ⟨w.heap.size, 0, arr.size⟩)) := by
  refine ⟨⟨hos, htape, hout, by simp [hheap], ?_, ?_, ?_, ?_, ?_, Nat.le_refl _, hdr⟩, ?_⟩
  ·intro k hk hn
   rw [hheap, Array.getElem?_push, if_neg (by omega)]
  ·rintro k ⟨b', m', hl', hm', rfl⟩
   by_cases hbb : b' = b
   ·subst hbb; simp at hm'; subst hm'; exact .inr (Nat.le_refl _)
   ·rw [fupd_ne _ _ _ _ hbb] at hm'
    simp only [set_f, set_n, fupd_ne _ _ _ _ hbb] at hl'
    exact .inl ⟨b', m', hl', hm', rfl⟩
  ·intro b' sz0 cs0 m' hb' hm'
   by_cases hbb : b' = b
   ·subst hbb
    rw [hb] at hb'; cases hb'
    exact .inr (.inr ⟨sz', cs', by simp [set_f, set_n], by omega⟩)
   ·exact .inl ⟨cs0, by simp only [set_f, set_n, fupd_ne _ _ _ _ hbb]; exact hb', by rw [fupd_ne _ _ _ _ hbb]; exact hm'⟩
  ·rintro b' s0 (hb' | ⟨n, cs0, hb', hlt⟩)
   ·have hbb : b' ≠ b := fun hh => by rw [hh, hb] at hb'; cases hb'
    exact .inl (by simp only [set_f, set_n, fupd_ne _ _ _ _ hbb]; exact hb')
   ·by_cases hbb : b' = b
    ·subst hbb
     rw [hb] at hb'; cases hb'
     exact .inr ⟨sz', cs', by simp [set_f, set_n], by omega⟩
    ·exact .inr ⟨n, cs0, by simp only [set_f, set_n, fupd_ne _ _ _ _ hbb]; exact hb', hlt⟩
  ·intro b' k m' hb' hm'
   have hbb : b' ≠ b := fun hh => by rw [hh, hb] at hb'; cases hb'
   exact ⟨by simp only [set_f, set_n, fupd_ne _ _ _ _ hbb]; exact hb', by rw [fupd_ne _ _ _ _ hbb]; exact hm'⟩
  ·intro b' _ hm'
   have hbb : b' ≠ b := fun hh => by rw [hh, hm] at hm'; cases hm'
   rw [fupd_ne _ _ _ _ hbb]; exact hm'
 refine ⟨e, rel.upd e.toExt0 b ?_ ?_ ?_ ?_ ?_ ?_⟩
 ·intro b' hbb hl'
  simp only [set_f, set_n, fupd_ne _ _ _ _ hbb] at hl' ⊢
  exact ⟨trivial, trivial, fun m' hm' => by rw [hheap, Array.getElem?_push, if_neg (by have := rel.lt hl' hm'; omega)]⟩
 ·intro m' hm'
  simp at hm'; subst hm'
  simp only [set_f, set_n, fupd_same]
  refine ⟨hl, by simpa using hfit, arr, t, (0, 0), by simp [hheap], rfl, .inl rfl, fun j c hj => ?_⟩
  obtain ⟨v, h1, h2, h3⟩ := hv j c hj
  exact ⟨v, by simpa using h1, h2, h3.ext e⟩
 ·intro b' m' m'' hbb hl' _ hm' hm''
  simp only [set_f, set_n, fupd_ne _ _ _ _ hbb] at hl'
  simp at hm''; subst hm''
  have := rel.lt hl' hm'
  simp only [ne_eq]; omega
 ·intro m' _ hm'
  simp at hm'; subst hm'
  exact rel.size
 ·intro b' hb'
  simp only [set_f, set_n] at hb' ⊢
  have hbb : b' ≠ b := fun hh => by
   have := rel.fresh b' hb'
   rw [hh, hb] at this; cases this
  rw [fupd_ne _ _ _ _ hbb]
  exact rel.fresh b' hb'
 ·intro b' hb'
  simp only [set_f, set_n] at hb'
  have hbb : b' ≠ b := fun hh => by
   have := rel.bn hm
   omega
  rw [fupd_ne _ _ _ _ hbb]
  exact rel.mu b' hb'
section
variable {P : Program} {w : World} {R : Nat → Prop} {B : Nat} {h : Hp} {μ : Mu}
def Good (R : Nat → Prop) (B : Nat) (w : World) (h : Hp) (μ : Mu) (r : Result Next) (c : CV) (h' : Hp) : Prop :=
 ∃ v w' μ', (r = .ok (.value v) w' ∨ (r = .ok .skip w' ∧ v = undef)) ∧ Ext w h μ w' h' μ' ∧ Rel R B w' h' μ' ∧ VR w' R h' μ' c v
theorem Good.pure (rel : Rel R B w h μ) {r : Result Next} {c : CV} {v : Value} (hr : r = .ok (.value v) w) (hv : VR w R h μ c v) : Good R B w h μ r c h :=
 ⟨v, w, μ, .inl hr, .refl _ _ _, rel, hv⟩
theorem run_und {t : TypeId} {d : TypeDesc} (hd : P.underlying t = some d) : (underlying t).run P w = .ok d w := by
 simp [underlying, hd]
theorem run_isAgg {t : TypeId} {b : Bool} (hb : aggT P t = some b) : (isAgg t).run P w = .ok b w := by
 unfold aggT at hb
 cases hd : P.underlying t with
 | none => rw [hd] at hb; cases hb
 | some d =>
  rw [hd] at hb
  simp only [Option.map_some, Option.some.injEq] at hb
  unfold isAgg
  simp only [Sem.run_bind, run_und hd, Result.andThen_ok]
  cases d <;> simp_all
theorem info_of_size {t : TypeId} {n : Nat} (hn : sizeT P t = some n) : ∃ i, P.info? t = some i ∧ i.size = n := by
 unfold sizeT at hn
 cases hi : P.info? t with
 | none => rw [hi] at hn; cases hn
 | some i => rw [hi] at hn; exact ⟨i, rfl, by simpa using hn⟩
theorem run_sizeOf' {t : TypeId} {n : Nat} (hn : sizeT P t = some n) : (sizeOf t).run P w = .ok n w := by
 obtain ⟨i, hi, hs⟩ := info_of_size hn
 simp [sizeOf, typeInfo, hi, hs]
theorem zero_of {t : TypeId} {z : List CV} (hz : zeroT P t = some z) : ∃ i v, P.info? t = some i ∧ i.zero = some v ∧ v.cells.toList.all Value.oneCell' = true ∧ z = v.cells.toList.map ofV1 := by
 unfold zeroT at hz
 cases hi : P.info? t with
 | none => rw [hi] at hz; cases hz
 | some i =>
  rw [hi] at hz
  simp only [Option.bind_some] at hz
  cases hv : i.zero with
  | none => rw [hv] at hz; cases hz
  | some v =>
   rw [hv] at hz
   simp only [Option.bind_some] at hz
   split at hz
   ·rename_i h1
    exact ⟨i, v, rfl, hv, h1, by simpa using hz.symm⟩
   ·cases hz
theorem run_zero {t : TypeId} {i : TypeInfo} {v : Value} (hi : P.info? t = some i) (hv : i.zero = some v) : (zeroValue t).run P w = .ok v w := by
 simp [zeroValue, typeInfo, hi, hv]
theorem VR.ofV1 (v : Value) : VR w R h μ (ofV1 v) v := by
 cases v with
 | bool b => exact .bool _
 | int k n => exact .int _ _
 | string s => exact .str _
 | pointer a => cases a <;> first | exact .nilP | exact .bad _
 | slice a l c =>
  simp only [CM.ofV1]
  split
  ·exact .nilS
  ·exact .bad _
 | map r => cases r <;> first | exact .nilM | exact .bad _
 | nilFunc => exact .nilF
 | nilIface => exact .nilI
 | func fn first captured =>
  simp only [CM.ofV1]
  split
  ·rename_i f h1 h2
   have e1 : first = #[] := by simpa using h1
   have e2 : captured = #[] := by simpa using h2
   subst e1 e2
   exact .fn _ [] [] #[] #[] rfl rfl (fun _ _ _ hh => by simp at hh) (fun _ _ _ hh => by simp at hh)
  ·exact .bad _
 | _ => exact .bad _
theorem VR.ofV (v : Value) : VR w R h μ (ofV v) v := by
 unfold CM.ofV
 split
 ·rename_i cs
  split
  ·rename_i hcs
   refine .ag _ _ (by simp) (fun j v hj => ?_) (fun j c v hc hvj => ?_)
   ·rw [List.all_eq_true] at hcs
    exact hcs v (by have := Array.mem_of_getElem? hj; simpa using this)
   ·rw [List.getElem?_map] at hc
    simp only [Array.getElem?_toList, hvj, Option.map_some, Option.some.injEq] at hc
    subst hc
    exact VR.ofV1 v
  ·exact .bad _
 ·rename_i vs
  refine .tu _ _ (by simp) (fun j c v hc hvj => ?_)
  rw [List.getElem?_map] at hc
  simp only [Array.getElem?_toList, hvj, Option.map_some, Option.some.injEq] at hc
  subst hc
  exact VR.ofV1 v
 ·exact VR.ofV1 v
theorem VR.one {c : CV} {v : Value} (hv : VR w R h μ c v) (h1 : c.one = true) : v.oneCell' = true := by
 cases hv <;> first | rfl | (simp [CV.one] at h1)
theorem cells_ok {c : CV} {v : Value} {cs : List CV} (hv : VR w R h μ c v) (hc : c.cells = some cs) :
  v.cells.size = cs.length ∧ ∀ (j : Nat) (x : CV), cs[j]? = some x → ∃ u : Value, v.cells[j]? = some u ∧ u.oneCell' = true ∧ VR w R h μ x u := by
 have single : ∀ (c : CV) (v : Value), VR w R h μ c v → v.cells = #[v] → v.oneCell' = true → ∀ cs, cs = [c] →
   v.cells.size = cs.length ∧ ∀ (j : Nat) (x : CV), cs[j]? = some x → ∃ u : Value, v.cells[j]? = some u ∧ u.oneCell' = true ∧ VR w R h μ x u := by
  intro c v hv hcv h1 cs hcs
  subst hcs
  rw [hcv]
  refine ⟨rfl, fun j x hx => ?_⟩
  cases j with
  | zero => simp at hx; subst hx; exact ⟨v, rfl, h1, hv⟩
  | succ j => simp at hx
 cases hv with
 | ag cs' vs hl h1 hv =>
  simp only [CV.cells, Option.some.injEq] at hc; subst hc
  refine ⟨hl, fun j x hx => ?_⟩
  have hj : j < vs.size := by rw [hl]; exact (List.getElem?_eq_some_iff.1 hx).1
  exact ⟨vs[j], by simp [Value.cells, hj], h1 j _ (by simp [hj]), hv j x _ hx (by simp [hj])⟩
 | tu cs' vs hl hv => simp [CV.cells] at hc
 | bad v => simp [CV.cells] at hc
 | bool b => exact single _ _ (.bool b) rfl rfl _ (by simpa [CV.cells] using hc.symm)
 | int k n => exact single _ _ (.int k n) rfl rfl _ (by simpa [CV.cells] using hc.symm)
 | str bs => exact single _ _ (.str bs) rfl rfl _ (by simpa [CV.cells] using hc.symm)
 | nilP => exact single _ _ .nilP rfl rfl _ (by simpa [CV.cells] using hc.symm)
 | nilS => exact single _ _ .nilS rfl rfl _ (by simpa [CV.cells] using hc.symm)
 | nilM => exact single _ _ .nilM rfl rfl _ (by simpa [CV.cells] using hc.symm)
 | nilF => exact single _ _ .nilF rfl rfl _ (by simpa [CV.cells] using hc.symm)
 | nilI => exact single _ _ .nilI rfl rfl _ (by simpa [CV.cells] using hc.symm)
 | ptr b off sz cs' m hb hm => exact single _ _ (.ptr b off sz cs' m hb hm) rfl rfl _ (by simpa [CV.cells] using hc.symm)
 | ptrGone b off sz a hg => exact single _ _ (.ptrGone b off sz a hg) rfl rfl _ (by simpa [CV.cells] using hc.symm)
 | rptr cs' off blk o vals hc' hv => exact single _ _ (.rptr cs' off blk o vals hc' hv) rfl rfl _ (by simpa [CV.cells] using hc.symm)
 | sl z b off len cap sz cap' cs' m hb hm hl ho hc' => exact single _ _ (.sl z b off len cap sz cap' cs' m hb hm hl ho hc') rfl rfl _ (by simpa [CV.cells] using hc.symm)
 | slGone z b off len cap sz cap' a hl hc' hg => exact single _ _ (.slGone z b off len cap sz cap' a hl hc' hg) rfl rfl _ (by simpa [CV.cells] using hc.symm)
 | slEnd z b off sz a cs' m hb hm => exact single _ _ (.slEnd z b off sz a cs' m hb hm) rfl rfl _ (by simpa [CV.cells] using hc.symm)
 | rsl z es blk off cap vals hl hz hc' hv => exact single _ _ (.rsl z es blk off cap vals hl hz hc' hv) rfl rfl _ (by simpa [CV.cells] using hc.symm)
 | rsl0 z a cap => exact single _ _ (.rsl0 z a cap) rfl rfl _ (by simpa [CV.cells] using hc.symm)
 | fn f fi ca fs cs' hf hc' h1 h2 => exact single _ _ (.fn f fi ca fs cs' hf hc' h1 h2) rfl rfl _ (by simpa [CV.cells] using hc.symm)
 | mp b m hb hm => exact single _ _ (.mp b m hb hm) rfl rfl _ (by simpa [CV.cells] using hc.symm)
 | it b m hb hm => exact single _ _ (.it b m hb hm) rfl rfl _ (by simpa [CV.cells] using hc.symm)
 | ifc t c v hv => exact single _ _ (.ifc t c v hv) rfl rfl _ (by simpa [CV.cells] using hc.symm)
 | yl l => exact single _ _ (.yl l) rfl rfl _ (by simpa [CV.cells] using hc.symm)
theorem Addr.add_mk (b o n : Nat) : (⟨b, o, none⟩ : Addr).add n = ⟨b, o + n, none⟩ := by unfold Addr.add; split <;> simp_all
theorem reach_ok (rel : Rel R B w h μ) {p : CV} {pv : Value} {cs : List CV} {off : Nat} (hr : reach h p = some (cs, off)) (hp : VR w R h μ p pv) :
  ∃ blk o, pv = .pointer (some ⟨blk, o + off, none⟩) ∧ ∀ (j : Nat) (c : CV), cs[j]? = some c → ∃ v : Value, w.cell? ⟨blk, o + j, none⟩ = some v ∧ v.oneCell' = true ∧ VR w R h μ c v := by
 cases hp with
 | ptr b off' sz cs' m hb hm =>
  simp only [reach, hb, ite_true, Option.some.injEq, Prod.mk.injEq] at hr
  obtain ⟨rfl, rfl⟩ := hr
  have hbk := rel.blk b m hm
  rw [hb] at hbk
  obtain ⟨h1, h2, arr, t, fz, h3, h4, h5, h6⟩ := hbk
  refine ⟨m.r, m.s, rfl, fun j c hj => ?_⟩
  obtain ⟨v, a1, a2, a3⟩ := h6 j c hj
  exact ⟨v, by simp [World.cell?, h3, a1], a2, a3⟩
 | ptrGone b off' sz a hg =>
  unfold reach at hr
  rcases hg with hg | ⟨n, cs', hg, hlt⟩
  ·simp [hg] at hr
  ·simp only [hg] at hr
   split at hr
   ·omega
   ·cases hr
 | rptr cs' off' blk o vals hc hv =>
  simp only [reach, Option.some.injEq, Prod.mk.injEq] at hr
  obtain ⟨rfl, rfl⟩ := hr
  exact ⟨blk, o, rfl, fun j c hj => ⟨vals j, (hc j (List.getElem?_eq_some_iff.1 hj).1).here, (hc j (List.getElem?_eq_some_iff.1 hj).1).one, hv j c hj⟩⟩
 | _ => simp [reach] at hr
theorem run_loadVar_part {t : TypeId} {cs : List CV} {off : Nat} {c : CV} (hp : partC P t cs off = some c) {blk o : Nat}
  (hc : ∀ (j : Nat) (x : CV), cs[j]? = some x → ∃ v : Value, w.cell? ⟨blk, o + j, none⟩ = some v ∧ v.oneCell' = true ∧ VR w R h μ x v) :
  ∃ v, (loadVar t ⟨blk, o + off, none⟩).run P w = .ok v w ∧ VR w R h μ c v := by
 unfold partC at hp
 cases hag : aggT P t with
 | none => rw [hag] at hp; cases hp
 | some b =>
  rw [hag] at hp
  cases b with
  | false =>
   simp only at hp
   obtain ⟨v, h1, _, h3⟩ := hc off c hp
   exact ⟨v, by simp [loadVar, run_isAgg hag, h1], h3⟩
  | true =>
   cases hn : sizeT P t with
   | none => rw [hn] at hp; cases hp
   | some n =>
    rw [hn] at hp
    simp only at hp
    split at hp
    ·rename_i hle
     simp only [Option.some.injEq] at hp
     subst hp
     have hex : ∀ j, j < n → ∃ v, w.cell? ⟨blk, o + (off + j), none⟩ = some v ∧ v.oneCell' = true ∧ VR w R h μ (cs.getD (off + j) .bad) v := by
      intro j hj
      have hlt : off + j < cs.length := by omega
      have := hc (off + j) cs[off + j] (by simp [hlt])
      simpa [List.getD, hlt] using this
     have hv : ∃ f : Nat → Value, ∀ j, j < n → w.cell? ⟨blk, o + (off + j), none⟩ = some (f j) ∧ (f j).oneCell' = true ∧ VR w R h μ (cs.getD (off + j) .bad) (f j) := by
      refine ⟨fun j => if hj : j < n then Classical.choose (hex j hj) else undef, fun j hj => ?_⟩
      simp only [hj, dif_pos]
      exact Classical.choose_spec (hex j hj)
     obtain ⟨f, hf⟩ := hv
     have hl : (loadCells ⟨blk, o + off, none⟩ n).run P w = .ok ((List.range n).map f).toArray w := by
      have := run_loadCells_list (P := P) w ⟨blk, o + off, none⟩ ((List.range n).map f) (fun j v hj => by
       rw [List.getElem?_map] at hj
       have hjn : j < n := by
        rcases Nat.lt_or_ge j n with h1 | h1
        ·exact h1
        ·rw [List.getElem?_eq_none (by simpa using h1)] at hj; cases hj
       rw [List.getElem?_range hjn] at hj
       simp only [Option.map_some, Option.some.injEq] at hj
       rw [Addr.add_mk, ← hj, Nat.add_assoc]
       exact (hf j hjn).1)
      simpa using this
     refine ⟨.agg ((List.range n).map f).toArray, by simp [loadVar, run_isAgg hag, run_sizeOf' hn, hl], .ag _ _ (by simp; omega) (fun j v hj => ?_) (fun j c v hc' hj => ?_)⟩
     ·simp only [List.getElem?_toArray, List.getElem?_map] at hj
      have hjn : j < n := by
       rcases Nat.lt_or_ge j n with h1 | h1
       ·exact h1
       ·rw [List.getElem?_eq_none (by simpa using h1)] at hj; cases hj
      rw [List.getElem?_range hjn] at hj
      simp only [Option.map_some, Option.some.injEq] at hj
      rw [← hj]; exact (hf j hjn).2.1
     ·simp only [List.getElem?_toArray, List.getElem?_map] at hj
      have hjn : j < n := by
       rcases Nat.lt_or_ge j n with h1 | h1
       ·exact h1
       ·rw [List.getElem?_eq_none (by simpa using h1)] at hj; cases hj
      rw [List.getElem?_range hjn] at hj
      simp only [Option.map_some, Option.some.injEq] at hj
      rw [List.getElem?_take_of_lt hjn, List.getElem?_drop] at hc'
      have := (hf j hjn).2.2
      rw [List.getD, hc'] at this
      rw [← hj]; simpa using this
    ·cases hp
theorem load_ok (rel : Rel R B w h μ) {t : TypeId} {p : CV} {pv : Value} {c : CV} (hl : loadC P h t p = some c) (hp : VR w R h μ p pv) :
  ∃ v, (Instr.loadAt t pv).run P w = .ok v w ∧ VR w R h μ c v := by
 unfold loadC at hl
 cases hr : reach h p with
 | none => rw [hr] at hl; cases hl
 | some x =>
  obtain ⟨cs, off⟩ := x
  rw [hr] at hl
  obtain ⟨blk, o, rfl, hc⟩ := reach_ok rel hr hp
  obtain ⟨v, h1, h2⟩ := run_loadVar_part hl hc
  exact ⟨v, by simp [Instr.loadAt, Instr.sureAddr, h1], h2⟩
end
section
variable {P : Program} {w : World} {R : Nat → Prop} {B : Nat} {h : Hp} {μ : Mu}
theorem run_storeRow (P : Program) (g o : Nat) (t : TypeId) (fz : Nat × Nat) : ∀ (vs : List Value) (i : Nat) (cur : Array Value) (w : World), w.heap[g]? = some (.cells cur t fz) → (fz = (0, 0) ∨ cur.size ≤ fz.1) →
  o + i + vs.length ≤ cur.size → (∀ v ∈ vs, v.oneCell' = true) →
  (storeCells ⟨g, o, none⟩ vs i).run P w = .ok () (w.setRow g (cur.toList.take (o + i) ++ vs ++ cur.toList.drop (o + i + vs.length)).toArray)
 | [], i, cur, w, hg, _, _, _ => by
  simp only [storeCells, List.append_nil, List.length_nil, Nat.add_zero, List.take_append_drop, Array.toArray_toList]
  rw [setRow_self w g cur t fz hg]
  rfl
 | v :: rest, i, cur, w, hg, hfz, hl, h1 => by
  have hi : o + i < cur.size := by simp at hl; omega
  have hadd : (⟨g, o, none⟩ : Addr).add i = ⟨g, o + i, none⟩ := Addr.add_mk _ _ _
  have hcell : w.cell? ⟨g, o + i, none⟩ = some cur[o + i] := by simp [World.cell?, hg, hi]
  have hfro : w.frozen? ⟨g, o + i, none⟩ = false := by
   obtain ⟨lo, hi'⟩ := fz
   rcases hfz with hfz | hfz
   ·cases hfz; simp [World.frozen?, hg]
   ·have : ¬ lo ≤ o + i := by simp at hfz; omega
    simp [World.frozen?, hg, this]
  have hst : (store ((⟨g, o, none⟩ : Addr).add i) v).run P w = .ok () (w.setRow g (cur.setIfInBounds (o + i) v)) := by
   rw [hadd, run_store P w _ v _ (h1 v (by simp)), hcell]
   simp [hfro, setCell_eq_setRow w g (o + i) cur t fz v hg]
  have ih := run_storeRow P g o t fz rest (i + 1) (cur.setIfInBounds (o + i) v) (w.setRow g (cur.setIfInBounds (o + i) v)) (setRow_heap w g cur _ t _ hg) (by simpa using hfz) (by simp at hl ⊢; omega) (fun x hx => h1 x (by simp [hx]))
  simp only [storeCells, Sem.run_bind, hst, Result.andThen_ok, ih, setRow_setRow]
  congr 3
  have := list_seg_step cur.toList (o + i) v rest (by simp at hl ⊢; omega)
  simpa [Nat.add_assoc, Nat.add_comm 1] using this
theorem splice_length {cs vs : List CV} {k : Nat} (hk : k ≤ cs.length) : (splice cs k vs).length = max cs.length (k + vs.length) := by
 unfold splice
 simp only [List.length_append, List.length_take, List.length_drop]
 omega
theorem splice_get {cs vs : List CV} {k j : Nat} (hk : k ≤ cs.length) : (splice cs k vs)[j]? = if j < k then cs[j]? else if j < k + vs.length then vs[j - k]? else cs[j]? := by
 unfold splice
 rw [List.append_assoc]
 by_cases h1 : j < k
 ·rw [List.getElem?_append_left (by simp; omega), List.getElem?_take_of_lt h1, if_pos h1]
 ·rw [List.getElem?_append_right (by simp; omega), if_neg h1]
  simp only [List.length_take, Nat.min_eq_left hk]
  by_cases h2 : j < k + vs.length
  ·rw [List.getElem?_append_left (by omega), if_pos h2]
  ·rw [List.getElem?_append_right (by omega), if_neg h2, List.getElem?_drop]
   congr 1; omega
theorem write_ok (rel : Rel R B w h μ) {b sz k : Nat} {cs cvs : List CV} {m : M} {vs : List Value} (hb : h.f b = .cells sz cs) (hm : μ b = some m) (hk : k ≤ sz)
  (hl : vs.length = cvs.length) (hfit : m.s + max sz (k + cvs.length) ≤ m.T)
  (hv : ∀ (j : Nat) (c : CV), cvs[j]? = some c → ∃ v : Value, vs[j]? = some v ∧ v.oneCell' = true ∧ VR w R h μ c v) :
  ∃ w', (storeCells ⟨m.r, m.s + k, none⟩ vs).run P w = .ok () w' ∧ Ext w h μ w' (h.set b (.cells (max sz (k + cvs.length)) (splice cs k cvs))) μ ∧
   Rel R B w' (h.set b (.cells (max sz (k + cvs.length)) (splice cs k cvs))) μ := by
 have hbk := rel.blk b m hm
 rw [hb] at hbk
 obtain ⟨hlen, hT, arr, t, fz, hr, ha, hfz, hc⟩ := hbk
 have h1 : ∀ v ∈ vs, v.oneCell' = true := by
  intro v hmem
  obtain ⟨j, hj, rfl⟩ := List.getElem_of_mem hmem
  obtain ⟨v, a1, a2, _⟩ := hv j (cvs[j]'(by omega)) (by simp)
  rw [List.getElem?_eq_getElem hj] at a1
  cases a1
  exact a2
 have hrun := run_storeRow P m.r (m.s + k) t fz vs 0 arr w hr (by rw [ha]; exact hfz.imp id Nat.le_of_lt) (by omega) h1
 simp only [Nat.add_zero] at hrun
 have hsize : (arr.toList.take (m.s + k) ++ vs ++ arr.toList.drop (m.s + k + vs.length)).toArray.size = arr.size := by
  simp only [List.size_toArray, List.length_append, List.length_take, List.length_drop, Array.length_toList]
  omega
 have hcl := rel.write (w' := w.setRow m.r (arr.toList.take (m.s + k) ++ vs ++ arr.toList.drop (m.s + k + vs.length)).toArray) (cs' := splice cs k cvs) (sz' := max sz (k + cvs.length)) hb hm hr ha hfz
  rfl rfl rfl (by simp [World.setRow]) (setRow_heap w m.r arr _ t fz hr) (fun k' hk' => setRow_other w m.r k' _ hk') hsize
  (by rw [splice_length (by omega), hlen]) (by omega) (by omega) (fun j c hj => ?_)
 ·exact ⟨_, hrun, hcl.1, hcl.2⟩
 ·rw [splice_get (by omega)] at hj
  simp only [List.getElem?_toArray]
  rw [List.append_assoc]
  split at hj
  ·rename_i hlt
   obtain ⟨v, a1, a2, a3⟩ := hc j c hj
   refine ⟨v, ?_, a2, a3⟩
   rw [List.getElem?_append_left (by simp; omega), List.getElem?_take_of_lt (by omega)]
   simpa using a1
  ·rename_i hge
   split at hj
   ·rename_i hlt
    obtain ⟨v, a1, a2, a3⟩ := hv _ c hj
    refine ⟨v, ?_, a2, a3⟩
    have hmin : min (m.s + k) arr.size = m.s + k := by omega
    rw [List.getElem?_append_right (by simp; omega)]
    simp only [List.length_take, Array.length_toList, hmin]
    rw [List.getElem?_append_left (by omega), ← a1]
    congr 1; omega
   ·rename_i hge2
    obtain ⟨v, a1, a2, a3⟩ := hc j c hj
    refine ⟨v, ?_, a2, a3⟩
    have hmin : min (m.s + k) arr.size = m.s + k := by omega
    rw [List.getElem?_append_right (by simp; omega)]
    simp only [List.length_take, Array.length_toList, hmin]
    rw [List.getElem?_append_right (by omega), List.getElem?_drop]
    have : (m.s + k + vs.length + (m.s + j - (m.s + k) - vs.length)) = m.s + j := by omega
    rw [this]
    simpa using a1
theorem store_ok (rel : Rel R B w h μ) {t : TypeId} {p v : CV} {pv vv : Value} {h' : Hp} (hs : storeC P h t p v = some h') (hp : VR w R h μ p pv) (hv : VR w R h μ v vv) :
  ∃ w', (Instr.storeAt t pv vv).run P w = .ok () w' ∧ Ext w h μ w' h' μ ∧ Rel R B w' h' μ := by
 unfold storeC at hs
 split at hs
 ·rename_i b off sz vs n hcells hn
  obtain ⟨hsz, hvs⟩ := cells_ok hv hcells
  cases hb : h.f b with
  | cells m cs =>
   rw [hb] at hs
   simp only at hs
   split at hs
   ·rename_i hcond
    obtain ⟨rfl, hlen, hfit⟩ := hcond
    simp only [Option.some.injEq] at hs
    subst hs
    cases hp with
    | ptr b' off' sz' cs' mm hb' hm =>
     have hbk := rel.blk b mm hm
     rw [hb] at hbk
     have hT := hbk.2.1
     obtain ⟨w', h1, h2, h3⟩ := write_ok (P := P) rel (cvs := vs) (vs := vv.cells.toList) (k := off) hb hm (by omega) (by simpa using hsz) (by omega)
      (fun j c hj => by obtain ⟨u, a1, a2, a3⟩ := hvs j c hj; exact ⟨u, by simpa using a1, a2, a3⟩)
     have hmax : max m (off + vs.length) = m := by omega
     rw [hmax] at h2 h3
     refine ⟨w', ?_, h2, h3⟩
     have hne : ¬ (vv.cells.size ≠ n) := by omega
     simp [Instr.storeAt, Instr.sureAddr, storeVar, run_sizeOf' hn, hne, h1]
    | ptrGone b' off' sz' a hg =>
     rcases hg with hg | ⟨n', cs', hg, hlt⟩
     ·rw [hg] at hb; cases hb
     ·rw [hg] at hb; cases hb; omega
   ·cases hs
  | _ => rw [hb] at hs; cases hs
 ·cases hs
theorem alloc_ok (rel : Rel R B w h μ) {cs : List CV} {vs : Array Value} (t : TypeId) (hl : vs.size = cs.length)
  (hv : ∀ (j : Nat) (c : CV), cs[j]? = some c → ∃ v : Value, vs[j]? = some v ∧ v.oneCell' = true ∧ VR w R h μ c v) :
  let h' := h.push (.cells cs.length cs)
  let μ' := fupd μ h.n (some ⟨w.heap.size, 0, vs.size⟩)
  let w' := w.alloc (.cells vs t)
  Ext w h μ w' h' μ' ∧ Rel R B w' h' μ' ∧ ∀ off, VR w' R h' μ' (.ptr h.n off cs.length) (.pointer (some ⟨w.heap.size, off, none⟩)) := by
 intro h' μ' w'
 have := rel.push (w' := w') cs vs t rfl rfl rfl rfl (by omega) hv
 refine ⟨this.1, this.2, fun off => ?_⟩
 have hp := VR.ptr (w := w') (R := R) (h := h') (μ := μ') h.n off cs.length cs ⟨w.heap.size, 0, vs.size⟩ (by simp [h', push_f, push_n]) (by simp [μ'])
 simpa using hp
theorem zero_ok {t : TypeId} {z : List CV} (hz : zeroT P t = some z) : ∃ i v, P.info? t = some i ∧ i.zero = some v ∧ v.cells.size = z.length ∧
  ∀ (j : Nat) (c : CV), z[j]? = some c → ∃ u : Value, v.cells[j]? = some u ∧ u.oneCell' = true ∧ VR w R h μ c u := by
 obtain ⟨i, v, hi, hv, h1, rfl⟩ := zero_of hz
 refine ⟨i, v, hi, hv, by simp, fun j c hj => ?_⟩
 rw [List.getElem?_map] at hj
 cases hu : v.cells[j]? with
 | none => simp [hu] at hj
 | some u =>
  simp [hu] at hj
  subst hj
  rw [List.all_eq_true] at h1
  exact ⟨u, rfl, h1 u (by have := Array.mem_of_getElem? hu; simpa using this), VR.ofV1 u⟩
theorem cellAt_ok {x : CV} {xv : Value} {k : Nat} {c : CV} (hc : cellAt x k = some c) (hx : VR w R h μ x xv) :
  ∃ a, xv = .pointer (some a) ∧ VR w R h μ c (.pointer (some (a.add k))) := by
 cases hx with
 | ptr b off sz cs m hb hm =>
  simp only [cellAt, Option.some.injEq] at hc; subst hc
  refine ⟨_, rfl, ?_⟩
  rw [Addr.add_mk, Nat.add_assoc]
  exact .ptr b _ sz cs m hb hm
 | ptrGone b off sz a hg =>
  simp only [cellAt, Option.some.injEq] at hc; subst hc
  exact ⟨a, rfl, .ptrGone _ _ _ _ hg⟩
 | rptr cs off blk o vals hc' hv =>
  simp only [cellAt, Option.some.injEq] at hc; subst hc
  refine ⟨_, rfl, ?_⟩
  rw [Addr.add_mk, Nat.add_assoc]
  exact .rptr cs _ blk o vals hc' hv
 | _ => simp [cellAt] at hc
theorem fieldOf_some {s : TypeId} {f : Nat} {fd : Field} (hf : fieldOf P s f = some fd) : ∃ fs, P.underlying s = some (.struct fs) ∧ fs[f]? = some fd := by
 unfold fieldOf at hf
 split at hf
 ·rename_i fs hu; exact ⟨fs, hu, hf⟩
 ·cases hf
theorem fieldAddr_ok {s : TypeId} {x c : CV} {xv : Value} {f : Nat} (hc : fieldAddrC P s x f = some c) (hx : VR w R h μ x xv) :
  ∃ v, (Instr.fieldAt s xv f).run P w = .ok v w ∧ VR w R h μ c v := by
 unfold fieldAddrC at hc
 split at hc
 ·rename_i fd hf
  obtain ⟨fs, hu, hfs⟩ := fieldOf_some hf
  split at hc
  ·rename_i n hn
   obtain ⟨a, rfl, hv⟩ := cellAt_ok hc hx
   refine ⟨_, ?_, hv⟩
   simp [Instr.fieldAt, run_und hu, hfs, Instr.sureAddr, fieldPlace, run_sizeOf' hn]
  ·cases hc
 ·cases hc
theorem asInt_ok {x : CV} {xv : Value} {n : Int} (hi : asInt x = some n) (hx : VR w R h μ x xv) : ∃ k, xv = .int k n := by
 cases hx <;> simp [asInt] at hi
 subst hi
 exact ⟨_, rfl⟩
theorem indexAddr_ok {t : TypeId} {x ix c : CV} {xv iv : Value} (hc : indexAddrC P t x ix = some c) (hx : VR w R h μ x xv) (hi : VR w R h μ ix iv) :
  ∃ v, (Instr.indexAt t xv iv).run P w = .ok v w ∧ VR w R h μ c v := by
 unfold indexAddrC at hc
 split at hc
 ·rename_i len e i hu hix
  obtain ⟨k, rfl⟩ := asInt_ok hix hi
  cases hz : sizeT P e with
  | none => rw [hz] at hc; cases hc
  | some z =>
   rw [hz] at hc
   simp only at hc
   split at hc
   ·rename_i hb
    obtain ⟨a, rfl, hv⟩ := cellAt_ok hc hx
    refine ⟨_, ?_, hv⟩
    simp [Instr.indexAt, asIntOf, run_und hu, Instr.sureAddr, hb, run_sizeOf' hz]
   ·cases hc
 ·rename_i e i hu hix
  obtain ⟨k, rfl⟩ := asInt_ok hix hi
  split at hc
  ·rename_i z z' b off len cap sz hz
   split at hc
   ·rename_i hb
    obtain ⟨rfl, hb⟩ := hb
    simp only [Option.some.injEq] at hc; subst hc
    cases hx with
    | sl _ _ _ _ _ _ cap' cs m hb' hm hl ho hcc =>
     refine ⟨_, ?_, VR.ptr b (off + i.toNat * z) sz cs m hb' hm⟩
     simp [Instr.indexAt, asIntOf, run_und hu, hb, run_sizeOf' hz, Addr.add_mk, Nat.add_assoc]
    | slEnd => simp at hb; omega
    | slGone _ _ _ _ _ _ cap' a hl hcc hg =>
     refine ⟨_, ?_, VR.ptrGone b _ sz (a.add (i.toNat * z)) hg⟩
     simp [Instr.indexAt, asIntOf, run_und hu, hb, run_sizeOf' hz]
   ·cases hc
  ·rename_i z z' es hz
   split at hc
   ·rename_i hb
    obtain ⟨rfl, hb⟩ := hb
    cases he : es[i.toNat]? with
    | none => rw [he] at hc; cases hc
    | some e' =>
     rw [he] at hc
     simp only [Option.map_some, Option.some.injEq] at hc; subst hc
     have hlt : i.toNat < es.length := (List.getElem?_eq_some_iff.1 he).1
     have hin : (0 ≤ i ∧ i < (es.length : Int)) := by omega
     cases hx with
     | rsl _ _ blk off cap vals hl hz' hcell hv =>
      have hez : e'.length = z := hz' _ (List.mem_of_getElem? he)
      refine ⟨_, ?_, VR.rptr e' 0 blk (off + i.toNat * z) (vals i.toNat) (fun j hj => ?_) (hv _ _ he)⟩
      ·simp [Instr.indexAt, asIntOf, run_und hu, hin, run_sizeOf' hz, Addr.add_mk]
      ·have := hcell i.toNat j hlt (by omega)
       rwa [Nat.add_assoc]
     | rsl0 => simp at hlt
   ·cases hc
  ·cases hc
 ·cases hc
end
end Go.CM
