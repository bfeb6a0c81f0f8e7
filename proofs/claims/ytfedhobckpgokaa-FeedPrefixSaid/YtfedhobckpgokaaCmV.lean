/-
  The canonical machine, part V: code without types, and what it must do for something to hold behind it.
-/
import Derived.Test.YtfedhobckpgokaaCmU
namespace Go.CM
open Go
set_option linter.unusedVariables false
set_option linter.unusedSimpArgs false

abbrev Sg := Nat → CV
abbrev KC := CExit → Sg → Hl → Prop

/-- What comes behind, as 'simp' leaves it alone: in the clothes of an instance. -/
class Kt (α : Type) where
  k : α → Prop
class Pq where
  p : Prop
  q : Prop
class Kv where
  k : CV → Hl → Prop
class Kc where
  k : KC

def W {α : Type} (o : Option α) [c : Kt α] : Prop := match o with | some v => c.k v | none => False
def kIf (b : Bool) [c : Pq] : Prop := match b with | true => c.p | false => c.q
def kCond (x : CV) [c : Pq] : Prop := match x with | .bool b => kIf b (c := c) | _ => False
def kG (x : CV) (w : Bool) [c : Pq] : Prop := match x with | .bool b => kIf (b == w) (c := c) | .bad => False | _ => c.q

inductive Bd where
  | mo (m : Mo)
  | callF (f : FuncId) (args : List Operand)
  | callV (x : Operand) (args : List Operand)

structure Stp where
  i : Nat
  dst : Option Tmp
  g : Option (Option Tmp × Bool)
  b : Bd
  chk : List Nat
  keep : Bool

inductive Cd where
  | skip
  | ret
  | exit (id : Nat)
  | reg (s : List Stp)
  | dreg (s : List Stp)
  | seq (a b : Cd)
  | cond (c : Operand) (x y : Cd)
  | block (id : Nat) (c : Cd)
  | loop (c : Cd)

section
variable (P : Program) (G : Nat → CV)

def funOkB (f : FuncId) : Bool := match P.funcs[f]? with | some fn => fn.body.isSome && fn.name != "runtime.NumGoroutine" | none => false

def CallP (f : FuncId) (args : List CV) (l : Hl) [c : Kv] : Prop := ∃ r l', Ev P G (.call f args (HL l) r (HL l')) ∧ l.length ≤ l'.length ∧ c.k r l'

def callVP (x : CV) (args : List CV) (l : Hl) [c : Kv] : Prop := match x with
  | .fn g first captured => funOkB P g = true ∧ CallP P G g (first ++ args ++ captured) l (c := c)
  | _ => False

/-- Behind an 'append' blocks may be given up. -/
def AppK (v : CV) (l : Hl) [c : Kv] : Prop := c.k v l ∨ ∃ v2 l2, Wk (HL l) (HL l2) ∧ RdK (HL l) (HL l2) v v2 ∧ c.k v2 l2
def keepK (m : Mo) (v : CV) (l : Hl) (K : CV → Hl → Prop) : Prop := match m with
  | .app .. => AppK v l (c := ⟨K⟩)
  | _ => K v l

def stp (b : Bd) (σ : Sg) (l : Hl) (K : CV → Hl → Prop) : Prop := match b with
  | .mo m => W (mstep P (ev G σ) l m) (c := ⟨fun x => keepK m x.1 x.2 K⟩)
  | .callF f args => CallP P G f (args.map (ev G σ)) l (c := ⟨K⟩)
  | .callV x args => callVP P G (ev G σ x) (args.map (ev G σ)) l (c := ⟨K⟩)

def kGo (σ : Sg) (g : Option (Option Tmp × Bool)) (p q : Prop) : Prop := match g with
  | none => p
  | some (some d, w) => kG (σ d) w (c := ⟨p, q⟩)
  | some (none, _) => q

def runS : List Stp → Sg → Hl → (Sg → Hl → Prop) → Prop
  | [], σ, l, K => K σ l
  | s :: r, σ, l, K => kGo σ s.g (stp P G s.b σ l fun v l' => runS r (putC σ s.dst v) l' K) (runS r (putC σ s.dst undefC) l K)

abbrev Seen := List (Nat × (Hl → Prop))
def chks (ids : List Nat) : Seen → Hl → Prop
  | [], _ => True
  | e :: r, l => (ids.contains e.1 = true → e.2 l) ∧ chks ids r l
def Mo.isNew : Mo → Bool
  | .alloc _ | .box _ | .bsl .. | .mks .. => true
  | _ => false
def stillP (b : Bd) (σ : Sg) (v : CV) (l l' l1 : Hl) : Prop := match b with
  | .mo m => match m.isNew with
    | true => l1[l.length]? = l'[l.length]?
    | false => mstep P (ev G σ) l1 m = some (v, l1)
  | _ => True
def seenAdd (keep : Bool) (i : Nat) (p : Hl → Prop) (s : Seen) : Seen := match keep with | true => (i, p) :: s | false => s
def runD : List Stp → Sg → Hl → Seen → (Sg → Hl → Prop) → Prop
  | [], σ, l, _, K => K σ l
  | s :: r, σ, l, seen, K => kGo σ s.g (stp P G s.b σ l fun v l' => chks s.chk seen l' ∧ runD r (putC σ s.dst v) l' (seenAdd s.keep s.i (stillP P G s.b σ v l l') seen) K) (runD r (putC σ s.dst undefC) l seen K)

def kSeq (k : Sg → Hl → Prop) (K : KC) : KC := fun e σ l => match e with
  | .normal => k σ l
  | .exit id => K (.exit id) σ l
  | .ret => K .ret σ l
def kBlock (id : Nat) (K : KC) : KC := fun e σ l => match e with
  | .normal => K .normal σ l
  | .exit id' => match Nat.beq id' id with | true => K .normal σ l | false => K (.exit id') σ l
  | .ret => K .ret σ l
def loopN (r : Sg → Hl → KC → Prop) : Nat → Sg → Hl → KC → Prop
  | 0 => fun _ _ _ => False
  | n + 1 => fun σ l K => r σ l (kSeq (fun σ l => loopN r n σ l K) K)
def LoopP (r : Sg → Hl → KC → Prop) (σ : Sg) (l : Hl) [c : Kc] : Prop := ∃ n, loopN r n σ l c.k

def run : Cd → Sg → Hl → KC → Prop
  | .skip, σ, l, K => K .normal σ l
  | .ret, σ, l, K => K .ret σ l
  | .exit id, σ, l, K => K (.exit id) σ l
  | .reg s, σ, l, K => runS P G s σ l (K .normal)
  | .dreg s, σ, l, K => runD P G s σ l [] (K .normal)
  | .seq a b, σ, l, K => run a σ l (kSeq (fun σ l => run b σ l K) K)
  | .cond c x y, σ, l, K => kCond (ev G σ c) (c := ⟨run x σ l K, run y σ l K⟩)
  | .block id c, σ, l, K => run c σ l (kBlock id K)
  | .loop c, σ, l, K => LoopP (run c) σ l (c := ⟨K⟩)

/-! ### From code -/
def stpOf (ops : Array Oper) (i : Nat) (chk : List Nat) (keep : Bool) : Option Stp := (ops[i]?).bind fun o =>
  let g := o.guard.map fun jw => ((ops[jw.1]?).bind (·.dst), jw.2)
  match compOp P o.op with
  | some m => some ⟨i, o.dst, g, .mo m, chk, keep⟩
  | none => match o.op with
    | .call c => match c.callee with
      | .value (.func f) => match funOkB P f with
        | true => some ⟨i, o.dst, g, .callF f c.args.toList, chk, keep⟩
        | false => none
      | .value x => some ⟨i, o.dst, g, .callV x c.args.toList, chk, keep⟩
      | _ => none
    | _ => none

def touches : Op → Bool
  | .load .. | .convert .. | .alloc _ | .box .. | .buildSlice .. | .makeSlice .. => true
  | _ => false

/-- What must be asked again behind the effect at a place of the order: 'done': the places ahead, the last one first; 'effs': those among them that have an effect for sure, and this one. -/
def chkAt (ms : List Nat) (ops : Array Oper) (done effs : List Nat) : List Nat :=
  done.filter fun j => (match ops[j]? with | some o => touches o.op | none => false) && effs.all fun e => !preOf ms e j

def planGo (ms : List Nat) (ops : Array Oper) : List Nat → List Nat → List Nat → List (Nat × List Nat)
  | [], _, _ => []
  | i :: r, done, effs => match ops[i]? with
    | none => []
    | some o => match isEffOp o.op with
      | true => (i, chkAt ms ops done (i :: effs)) :: planGo ms ops r (i :: done) (match o.guard with | none => i :: effs | some _ => effs)
      | false => (i, []) :: planGo ms ops r (i :: done) effs

def eagerB (ms : List Nat) (ops : Array Oper) : List Nat → Bool
  | [] => true
  | i :: r => (match ops[i]? with | some o => !isEffOp o.op || r.all fun j => preOf ms j i | none => false) && eagerB ms ops r

def compReg (N : Nat) (ops : Array Oper) (draw : Bool) : Option Cd :=
  match ops.toList.all fun o => dstOk N o.dst with
  | false => none
  | true => match draw with
    | false => ((List.range ops.size).mapM fun i => stpOf P ops i [] false).map .reg
    | true =>
      let ms := masksOf ops
      let ord := sched ms ops
      match orderB ms ops ord && eagerB ms ops ord with
      | false => none
      | true =>
        let plan := planGo ms ops ord [] []
        let ask := plan.flatMap (·.2)
        match plan.mapM fun p => stpOf P ops p.1 p.2 (ask.contains p.1) with
        | none => none
        | some s => match ask with
          | [] => some (.reg s)
          | _ => some (.dreg s)

def comp (N : Nat) : Code → Option Cd
  | .skip => some .skip
  | .label _ => some .skip
  | .ret => some .ret
  | .exit id => some (.exit id)
  | .region _ ops draw => compReg P N ops draw
  | .seq a b => match comp N a, comp N b with
    | some .skip, some b => some b
    | some a, some .skip => some a
    | some a, some b => some (.seq a b)
    | _, _ => none
  | .cond c x y => match comp N x, comp N y with
    | some x, some y => some (.cond c x y)
    | _, _ => none
  | .block id c => (comp N c).map (.block id)
  | .loop c => (comp N c).map .loop
  | .scope c => comp N c
  | _ => none

def compF (f : FuncId) : Option Cd := match P.funcs[f]? with
  | some fn => match fn.body with
    | some c => comp P fn.ntmps c
    | none => none
  | none => none
end

end Go.CM
