/-
  The canonical machine, part T: small operations, without types.
-/
import Derived.Test.YtfedhobckpgokaaCmS
namespace Go.CM
open Go
set_option linter.unusedVariables false
set_option linter.unusedSimpArgs false

/-! ### What an operation does to a heap that is a list -/
def reachL (l : Hl) : CV → Option (List CV × Nat)
  | .ptr b off sz => match l[b]? with
    | some (.cells n cs) => if n = sz then some (cs, off) else none
    | _ => none
  | .rptr cs off => some (cs, off)
  | _ => none
def partA (n : Nat) (cs : List CV) (off : Nat) : Option CV := if off + n ≤ cs.length then some (.ag ((cs.drop off).take n)) else none
def storeL (n : Nat) (l : Hl) (p v : CV) : Option Hl :=
  match p, v.cells with
  | .ptr b off sz, some vs => match l[b]? with
    | some (.cells m cs) => if m = sz ∧ vs.length = n ∧ off + n ≤ m then some (l.set b (.cells m (splice cs off vs))) else none
    | _ => none
  | _, _ => none
def contentsL (l : Hl) (z : Nat) : CV → Option (List CV × Nat)
  | .nilS => some ([], 0)
  | .rsl z' es => if z = z' then some (es.flatten, es.length) else none
  | .sl z' b off len _ sz => match l[b]? with
    | some (.cells n cs) => if n = sz ∧ z = z' then some ((cs.drop off).take (len * z), len) else none
    | _ => none
  | .str s => if z = 1 then some (s.map byteC, s.length) else none
  | _ => none
def appendL (l : Hl) (z by_ : Nat) (s : CV) (xs : List CV) (n : Nat) : Option (CV × Hl) :=
  if n = 0 then (match s with | .nilS | .rsl .. | .sl .. => some (s, l) | _ => none)
  else if z = 0 ∨ by_ = 0 then none else match s with
    | .nilS => if n * by_ ≤ roomMax then some (.sl z l.length 0 n n (n * z), l ++ [.cells (n * z) xs]) else none
    | .sl z' b off len cap sz => match l[b]? with
      | some (.cells m cs) =>
        if m = sz ∧ z = z' ∧ (len + n) * by_ ≤ roomMax then
          if len + n ≤ cap then some (.sl z b off (len + n) cap sz, l.set b (.cells m (splice cs (off + len * z) xs)))
          else if off + cap * z < sz then some (.sl z l.length 0 (len + n) (len + n) ((len + n) * z), l ++ [.cells ((len + n) * z) ((cs.drop off).take (len * z) ++ xs)])
          else if off = 0 then some (.sl z b 0 (len + n) (len + n) ((len + n) * z), l.set b (.cells ((len + n) * z) (cs.take (len * z) ++ xs)))
          else none
        else none
      | _ => none
    | _ => none
def copyL (z : Nat) (l : Hl) (d x : CV) : Option (CV × Hl) :=
  match contentsL l z x with
  | none => none
  | some (xs, n) => match d with
    | .nilS => some (.int .i64 0, l)
    | .sl z' b off len _ sz => match l[b]? with
      | some (.cells m cs) => if m = sz ∧ z = z' then some (.int .i64 ((min n len : Nat) : Int), l.set b (.cells m (splice cs off (xs.take (min n len * z))))) else none
      | _ => none
    | _ => none
def clearL (zero : List CV) (l : Hl) : CV → Option Hl
  | .nilS => some l
  | .rsl _ [] => some l
  | .sl z b off len _ sz => if len = 0 then some l else match l[b]? with
    | some (.cells m cs) => if m = sz ∧ zero.length = z then some (l.set b (.cells m (splice cs off (repeatC zero len)))) else none
    | _ => none
  | _ => none

theorem reach_HL (l : Hl) (p : CV) : reach (HL l) p = reachL l p := by
  cases p <;> try rfl
  rename_i b off sz
  simp only [reach, reachL, HL_f]
  cases l[b]? with
  | none => rfl
  | some c => cases c <;> rfl
theorem contents_HL (l : Hl) (z : Nat) (x : CV) : contents (HL l) z x = contentsL l z x := by
  cases x <;> try rfl
  rename_i z' b off len cap sz
  simp only [contents, contentsL, HL_f]
  cases l[b]? with
  | none => rfl
  | some c => cases c <;> rfl

section
variable (P : Program)

/-- What is known of a type, for slices and indices. -/
inductive TI where
  | arr (n z : Nat)
  | sl (z : Nat)
  | str
  deriving DecidableEq

def tiOf (t : TypeId) : Option TI := match P.underlying t with
  | some (.array n e) => (sizeT P e).map fun z => .arr n z
  | some (.slice e) => (sizeT P e).map fun z => .sl z
  | some .string => some .str
  | _ => none

/-- A small operation. -/
inductive Mo where
  | mv (x : Operand)
  | pick (c a b : Operand)
  | alloc (zero : List CV)
  | box (x : Operand)
  | bld (zero : List CV) (ps : List (Nat × Nat × Operand))
  | bsl (z : Nat) (zero : List CV) (len : Nat) (ps : List (Nat × Operand))
  | ld1 (a : Operand)
  | ldA (n : Nat) (a : Operand)
  | st (n : Nat) (a x : Operand)
  | nilc (x : Operand)
  | bin (o : BinOp) (t : TypeId) (x y : Operand)
  | un (o : UnOp) (x : Operand)
  | cint (k : IntKind) (x : Operand)
  | cstr (x : Operand)
  | cbs (x : Operand)
  | csb (x : Operand)
  | mkI (t : TypeId) (x : Operand)
  | mkF (f : FuncId) (first captured : List Operand)
  | mks (z by_ : Nat) (zero : List CV) (l c : Operand)
  | slice (ti : TI) (x : Operand) (lo hi mx : Option Operand)
  | fa (off : Nat) (x : Operand)
  | fld1 (off : Nat) (x : Operand)
  | fldA (n off : Nat) (x : Operand)
  | ia (ti : TI) (x i : Operand)
  | ix1 (n z : Nat) (x i : Operand)
  | ixA (n z : Nat) (x i : Operand)
  | ixT (x i : Operand)
  | ext (x : Operand) (i : Nat)
  | len (ti : TI) (x : Operand)
  | cap (ti : TI) (x : Operand)
  | app (z by_ : Nat) (s x : Operand)
  | appZ (z by_ : Nat) (zero : List CV) (s x : Operand)
  | cpy (z : Nat) (d x : Operand)
  | clr (zero : List CV) (x : Operand)
  | min (x y : Operand)
  | max (x y : Operand)

def pickC (c a b : CV) : Option CV := match c with | .bool t => some (if t then a else b) | _ => none
def nilcC (x : CV) : Option CV := match x with | .ptr b o s => some (.ptr b o s) | .rptr c o => some (.rptr c o) | .fn f a b => some (.fn f a b) | _ => none
def bldC (zero : List CV) : List (Nat × Nat × CV) → Option (List CV)
  | [] => some zero
  | (off, size, v) :: r => match v.cells with
    | some vs => if vs.length = size ∧ off + size ≤ zero.length then bldC (splice zero off vs) r else none
    | none => none
def cintC (k : IntKind) : CV → Option CV | .int _ n => some (.int k (k.wrap n)) | _ => none
def cstrC : CV → Option CV | .str s => some (.str s) | _ => none
def cbsC (l : Hl) (x : CV) : Option CV := match x with
  | .nilS => some (.str [])
  | .str _ => none
  | x => match contentsL l 1 x with | some (cs, _) => (bytesOfC cs).map .str | none => none
def csbC : CV → Option CV | .str s => some (.rsl 1 (s.map fun b => [byteC b])) | _ => none
def mksC (z by_ : Nat) (zero : List CV) (hl : Hl) (l c : CV) : Option (CV × Hl) := match l, c with
  | .int _ l, .int _ c => if 0 ≤ l ∧ l ≤ c ∧ c < 9223372036854775808 ∧ by_ * c ≤ roomMax then
      some (.sl z hl.length 0 l.toNat c.toNat (c.toNat * z), hl ++ [.cells (c.toNat * z) (repeatC zero c.toNat)]) else none
  | _, _ => none
def sliceM (ti : TI) (x : CV) (lo hi mx : Option CV) : Option CV :=
  match ti with
  | .arr n z => match boundsC n n lo hi mx with
    | some (l, hh, m) => match x with
      | .ptr b off sz => if off + m * z ≤ sz then (if m = l then some (.rsl z []) else some (.sl z b (off + l * z) (hh - l) (m - l) sz)) else none
      | .rptr cs off => if off + n * z ≤ cs.length then some (.rsl z (chunks z (hh - l) (cs.drop (off + l * z)))) else none
      | _ => none
    | none => none
  | .sl z => match x with
    | .sl z' b off len cap sz => if z = z' then (boundsC len cap lo hi mx).map fun (l, hh, m) => if m = l then .rsl z [] else .sl z b (off + l * z) (hh - l) (m - l) sz else none
    | .rsl z' es => if z = z' then (boundsC es.length es.length lo hi mx).map fun (l, hh, _) => .rsl z ((es.drop l).take (hh - l)) else none
    | .nilS => (boundsC 0 0 lo hi mx).map fun _ => .nilS
    | _ => none
  | .str => match x, mx with
    | .str s, none => (boundsC s.length s.length lo hi none).map fun (l, hh, _) => .str ((s.drop l).take (hh - l))
    | _, _ => none
def fldC1 (off : Nat) : CV → Option CV | .ag cs => cs[off]? | _ => none
def fldCA (n off : Nat) : CV → Option CV | .ag cs => partA n cs off | _ => none
def iaC (ti : TI) (x ix : CV) : Option CV :=
  match ix with
  | .int _ i => match ti with
    | .arr n z => if 0 ≤ i ∧ i < n then cellAt x (i.toNat * z) else none
    | .sl z => match x with
      | .sl z' b off len _ sz => if z = z' ∧ 0 ≤ i ∧ i < len then some (.ptr b (off + i.toNat * z) sz) else none
      | .rsl z' es => if z = z' ∧ 0 ≤ i then (es[i.toNat]?).map fun cs => .rptr cs 0 else none
      | _ => none
    | .str => none
  | _ => none
def ixC1 (n z : Nat) (x ix : CV) : Option CV := match x, ix with
  | .ag cs, .int _ i => if 0 ≤ i ∧ i < n then cs[i.toNat * z]? else none
  | _, _ => none
def ixCA (n z : Nat) (x ix : CV) : Option CV := match x, ix with
  | .ag cs, .int _ i => if 0 ≤ i ∧ i < n then partA z cs (i.toNat * z) else none
  | _, _ => none
def ixCT (x ix : CV) : Option CV := match x, ix with
  | .str s, .int _ i => if 0 ≤ i then (s[i.toNat]?).map byteC else none
  | _, _ => none
def extC (x : CV) (i : Nat) : Option CV := match x with | .tu vs => vs[i]? | _ => none
def lenM (ti : TI) (x : CV) : Option CV := match ti with
  | .arr n _ => some (.int .i64 n)
  | .sl _ => match x with
    | .nilS => some (.int .i64 0)
    | .sl _ _ _ len _ _ => some (.int .i64 len)
    | .rsl _ es => some (.int .i64 es.length)
    | _ => none
  | .str => match x with | .str s => some (.int .i64 s.length) | _ => none
def capM (ti : TI) (x : CV) : Option CV := match ti with
  | .arr n _ => some (.int .i64 n)
  | .sl _ => match x with | .nilS => some (.int .i64 0) | _ => none
  | .str => none
def appM (l : Hl) (z by_ : Nat) (s x : CV) : Option (CV × Hl) := match contentsL l z x with
  | none => none
  | some (xs, n) => appendL l z by_ s xs n
def appZM (l : Hl) (z by_ : Nat) (zero : List CV) (s x : CV) : Option (CV × Hl) := match x with
  | .int _ n => if 0 ≤ n ∧ n < 9223372036854775808 ∧ n.toNat * by_ ≤ roomMax then appendL l z by_ s (repeatC zero n.toNat) n.toNat else none
  | _ => none

def pu (l : Hl) (x : Option CV) : Option (CV × Hl) := x.map fun v => (v, l)

def mstep (ρ : Operand → CV) (l : Hl) : Mo → Option (CV × Hl)
  | .mv x => some (ρ x, l)
  | .pick c a b => pu l (pickC (ρ c) (ρ a) (ρ b))
  | .alloc zero => some (.ptr l.length 0 zero.length, l ++ [.cells zero.length zero])
  | .box x => (ρ x).cells.map fun cs => (.ptr l.length 0 cs.length, l ++ [.cells cs.length cs])
  | .bld zero ps => pu l ((bldC zero (ps.map fun p => (p.1, p.2.1, ρ p.2.2))).map .ag)
  | .bsl z zero len ps => (fillC (fun i => some (i * z, z)) (repeatC zero len) (ps.map fun p => (p.1, ρ p.2))).map fun cs => (.sl z l.length 0 len len (len * z), l ++ [.cells (len * z) cs])
  | .ld1 a => pu l ((reachL l (ρ a)).bind fun x => x.1[x.2]?)
  | .ldA n a => pu l ((reachL l (ρ a)).bind fun x => partA n x.1 x.2)
  | .st n a x => (storeL n l (ρ a) (ρ x)).map fun l' => (undefC, l')
  | .nilc x => pu l (nilcC (ρ x))
  | .bin o t x y => pu l (binC P o t (ρ x) (ρ y))
  | .un o x => pu l (unC o (ρ x))
  | .cint k x => pu l (cintC k (ρ x))
  | .cstr x => pu l (cstrC (ρ x))
  | .cbs x => pu l (cbsC l (ρ x))
  | .csb x => pu l (csbC (ρ x))
  | .mkI t x => some (.ifc t (ρ x), l)
  | .mkF f a b => some (.fn f (a.map ρ) (b.map ρ), l)
  | .mks z by_ zero a c => mksC z by_ zero l (ρ a) (ρ c)
  | .slice ti x lo hi mx => pu l (sliceM ti (ρ x) (lo.map ρ) (hi.map ρ) (mx.map ρ))
  | .fa off x => pu l (cellAt (ρ x) off)
  | .fld1 off x => pu l (fldC1 off (ρ x))
  | .fldA n off x => pu l (fldCA n off (ρ x))
  | .ia ti x i => pu l (iaC ti (ρ x) (ρ i))
  | .ix1 n z x i => pu l (ixC1 n z (ρ x) (ρ i))
  | .ixA n z x i => pu l (ixCA n z (ρ x) (ρ i))
  | .ixT x i => pu l (ixCT (ρ x) (ρ i))
  | .ext x i => pu l (extC (ρ x) i)
  | .len ti x => pu l (lenM ti (ρ x))
  | .cap ti x => pu l (capM ti (ρ x))
  | .app z by_ s x => appM l z by_ (ρ s) (ρ x)
  | .appZ z by_ zero s x => appZM l z by_ zero (ρ s) (ρ x)
  | .cpy z d x => copyL z l (ρ d) (ρ x)
  | .clr zero x => (clearL zero l (ρ x)).map fun l' => (.tu [], l')
  | .min x y => pu l (min2C (ρ x) (ρ y))
  | .max x y => pu l (max2C (ρ x) (ρ y))

/-! ### From an operation to a small one -/
def bldPs (t : TypeId) (ps : List (Nat × Operand)) : Option (List (Nat × Nat × Operand)) :=
  match P.underlying t with
  | some (.struct fs) => if fs.toList.all fun f => (sizeT P f.type).isSome then ps.mapM fun p => (placeS P fs p.1).map fun q => (q.1, q.2, p.2) else none
  | some (.array _ e) => (sizeT P e).map fun n => ps.map fun p => (p.1 * n, n, p.2)
  | _ => none

def compBuiltin (b : Builtin) (ts : List TypeId) (args : List Operand) : Option Mo :=
  match b, ts, args with
  | .len, [t], [x] => (tiOf P t).map fun ti => .len ti x
  | .cap, [t], [x] => (tiOf P t).map fun ti => .cap ti x
  | .append, [t, u], [s, x] => match P.underlying u with
    | some (.int _) => (elemT P t).bind fun e => (sizeT P e).bind fun z => (bytesT P e).bind fun by_ => (zeroT P e).bind fun zero =>
        if zero.length = z ∧ zeroLen P e = some z then some (.appZ z by_ zero s x) else none
    | none => none
    | _ => (elemT P t).bind fun e => (sizeT P e).bind fun z => (bytesT P e).bind fun by_ => if zeroLen P e = some z then some (.app z by_ s x) else none
  | .copy, [t, _], [d, x] => (elemT P t).bind fun e => (sizeT P e).map fun z => .cpy z d x
  | .clear, [t], [x] => match P.underlying t with
    | some (.slice e) => (zeroT P e).map fun zero => .clr zero x
    | _ => none
  | .min, _, [x, y] => some (.min x y)
  | .max, _, [x, y] => some (.max x y)
  | _, _, _ => none

def compOp : Op → Option Mo
  | .move x | .assign x => some (.mv x)
  | .pick c a b => some (.pick c a b)
  | .alloc t => (zeroT P t).map .alloc
  | .box _ x => some (.box x)
  | .build t ps => (zeroT P t).bind fun zero => (bldPs P t ps.toList).map fun q => .bld zero q
  | .buildSlice t len ps => (elemT P t).bind fun e => (sizeT P e).bind fun z => (zeroT P e).bind fun zero =>
      if zero.length = z ∧ len * z ≤ 16777216 then some (.bsl z zero len ps.toList) else none
  | .load t a => match aggT P t, sizeT P t with
    | some true, some n => some (.ldA n a)
    | some false, _ => some (.ld1 a)
    | _, _ => none
  | .store t a x => (sizeT P t).map fun n => .st n a x
  | .nilCheck x => some (.nilc x)
  | .binOp o t x y _ => some (.bin o t x y)
  | .unOp o _ x => some (.un o x)
  | .convert s d x => match P.underlying s, P.underlying d with
    | some _, some (.int k) => some (.cint k x)
    | some (.slice e), some .string => match P.underlying e with
      | some (.int .u8) => some (.cbs x)
      | _ => none
    | some .string, some .string => some (.cstr x)
    | some .string, some (.slice e) => match P.underlying e with
      | some (.int .u8) => some (.csb x)
      | _ => none
    | _, _ => none
  | .makeInterface t x => match P.underlying t with
    | some (.interface _) | none => none
    | _ => some (.mkI t x)
  | .makeFunc (.func f) a b => some (.mkF f a.toList b.toList)
  | .makeSlice t l c => (elemT P t).bind fun e => (sizeT P e).bind fun z => (bytesT P e).bind fun by_ => (zeroT P e).bind fun zero =>
      if zero.length = z then some (.mks z by_ zero l c) else none
  | .slice t x lo hi mx => (tiOf P t).map fun ti => .slice ti x lo hi mx
  | .fieldAddr s x f => (fieldOf P s f).bind fun fd => match sizeT P fd.type with
    | some (_ + 1) => some (.fa fd.offset x)
    | _ => none
  | .field t x f => (fieldOf P t f).bind fun fd => match aggT P fd.type, sizeT P fd.type with
    | some true, some n => some (.fldA n fd.offset x)
    | some false, _ => some (.fld1 fd.offset x)
    | _, _ => none
  | .indexAddr t x i => match tiOf P t with
    | some (.arr n z) => some (.ia (.arr n z) x i)
    | some (.sl z) => some (.ia (.sl z) x i)
    | _ => none
  | .index t x i => match P.underlying t with
    | some (.array n e) => match sizeT P e, aggT P e with
      | some z, some true => some (.ixA n z x i)
      | some z, some false => some (.ix1 n z x i)
      | _, _ => none
    | some .string => some (.ixT x i)
    | _ => none
  | .extract x i => some (.ext x i)
  | .call c => match c.callee with
    | .builtin b => compBuiltin P b c.argTypes.toList c.args.toList
    | _ => none
  | _ => none
end

end Go.CM
