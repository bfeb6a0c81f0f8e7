/-
  The canonical machine, part P: carried out.
-/
import Derived.Test.YtfedhobckpgokaaCmO
namespace Go.CM
open Go
set_option linter.unusedVariables false
set_option linter.unusedSimpArgs false

abbrev Sl := Tr CV
def look (s : Sl) (t : Nat) : CV := match s.get t with | some v => v | none => undefC

theorem look_set (s : Sl) (t : Nat) (v : CV) : look (s.set t v) = fupd (look s) t v := by
  funext u
  simp only [look, Tr.get_set, fupd]
  by_cases h : u = t
  · simp [h]
  · simp [h]

def putT (s : Sl) (dst : Option Tmp) (v : CV) : Sl := match dst with | some d => s.set d v | none => s
theorem look_put (s : Sl) (dst : Option Tmp) (v : CV) : look (putT s dst v) = putC (look s) dst v := by
  cases dst with
  | none => rfl
  | some d => exact look_set s d v

def ofArgs : Nat → Sl → List CV → Sl
  | _, s, [] => s
  | k, s, v :: vs => ofArgs (k + 1) (s.set k v) vs

theorem look_ofArgs : ∀ (vs : List CV) (k : Nat) (s : Sl), look (ofArgs k s vs) = fun t => if k ≤ t ∧ t < k + vs.length then vs.getD (t - k) undefC else look s t
  | [], k, s => by funext t; simp only [ofArgs, List.length_nil]; rw [if_neg (by omega)]
  | v :: vs, k, s => by
    funext t
    rw [ofArgs, look_ofArgs vs (k + 1), look_set]
    simp only [List.length_cons, fupd]
    by_cases h1 : k + 1 ≤ t ∧ t < k + 1 + vs.length
    · rw [if_pos h1, if_pos (by omega), show t - k = (t - (k + 1)) + 1 by omega]
      simp
    · rw [if_neg h1]
      by_cases h2 : t = k
      · subst h2; rw [if_pos rfl, if_pos (by omega)]; simp
      · rw [if_neg h2, if_neg (by omega)]

/-! ### Equality of canonical values -/
mutual
def CV.beq : CV → CV → Bool
  | .bool a, y => match y with | .bool b => (match a, b with | true, true => true | false, false => true | _, _ => false) | _ => false
  | .int k n, y => match y with | .int k' n' => decide (k = k') && decide (n = n') | _ => false
  | .str a, y => match y with | .str b => decide (a = b) | _ => false
  | .nilP, y => match y with | .nilP => true | _ => false
  | .nilS, y => match y with | .nilS => true | _ => false
  | .nilM, y => match y with | .nilM => true | _ => false
  | .nilF, y => match y with | .nilF => true | _ => false
  | .nilI, y => match y with | .nilI => true | _ => false
  | .ag a, y => match y with | .ag b => beqL a b | _ => false
  | .tu a, y => match y with | .tu b => beqL a b | _ => false
  | .ptr a b c, y => match y with | .ptr a' b' c' => Nat.beq a a' && Nat.beq b b' && Nat.beq c c' | _ => false
  | .rptr a n, y => match y with | .rptr a' n' => beqL a a' && Nat.beq n n' | _ => false
  | .sl a b c d e f, y => match y with | .sl a' b' c' d' e' f' => Nat.beq a a' && Nat.beq b b' && Nat.beq c c' && Nat.beq d d' && Nat.beq e e' && Nat.beq f f' | _ => false
  | .rsl a b, y => match y with | .rsl a' b' => Nat.beq a a' && beqLL b b' | _ => false
  | .fn a b c, y => match y with | .fn a' b' c' => Nat.beq a a' && beqL b b' && beqL c c' | _ => false
  | .mp a, y => match y with | .mp a' => Nat.beq a a' | _ => false
  | .it a, y => match y with | .it a' => Nat.beq a a' | _ => false
  | .ifc a b, y => match y with | .ifc a' b' => Nat.beq a a' && CV.beq b b' | _ => false
  | .bad, y => match y with | .bad => true | _ => false
def beqL : List CV → List CV → Bool
  | [], y => match y with | [] => true | _ => false
  | a :: as, y => match y with | b :: bs => CV.beq a b && beqL as bs | _ => false
def beqLL : List (List CV) → List (List CV) → Bool
  | [], y => match y with | [] => true | _ => false
  | a :: as, y => match y with | b :: bs => beqL a b && beqLL as bs | _ => false
end

theorem nbeq_eq {a b : Nat} (h : Nat.beq a b = true) : a = b := Nat.eq_of_beq_eq_true h

mutual
theorem CV.beq_eq : ∀ {a b : CV}, CV.beq a b = true → a = b
  | .bool a, b, h => by cases b <;> simp only [CV.beq] at h <;> first | cases h | (rename_i b; cases a <;> cases b <;> first | rfl | cases h)
  | .int k n, b, h => by cases b <;> simp only [CV.beq] at h <;> first | cases h | (simp only [Bool.and_eq_true, decide_eq_true_eq] at h; rw [h.1, h.2])
  | .str a, b, h => by cases b <;> simp only [CV.beq] at h <;> first | cases h | (simp only [decide_eq_true_eq] at h; rw [h])
  | .nilP, b, h => by cases b <;> simp only [CV.beq] at h <;> first | rfl | cases h
  | .nilS, b, h => by cases b <;> simp only [CV.beq] at h <;> first | rfl | cases h
  | .nilM, b, h => by cases b <;> simp only [CV.beq] at h <;> first | rfl | cases h
  | .nilF, b, h => by cases b <;> simp only [CV.beq] at h <;> first | rfl | cases h
  | .nilI, b, h => by cases b <;> simp only [CV.beq] at h <;> first | rfl | cases h
  | .bad, b, h => by cases b <;> simp only [CV.beq] at h <;> first | rfl | cases h
  | .ag a, b, h => by cases b <;> simp only [CV.beq] at h <;> first | cases h | rw [beqL_eq h]
  | .tu a, b, h => by cases b <;> simp only [CV.beq] at h <;> first | cases h | rw [beqL_eq h]
  | .ptr .., b, h => by cases b <;> simp only [CV.beq] at h <;> first | cases h | (simp only [Bool.and_eq_true] at h; rw [nbeq_eq h.1.1, nbeq_eq h.1.2, nbeq_eq h.2])
  | .rptr a n, b, h => by cases b <;> simp only [CV.beq] at h <;> first | cases h | (simp only [Bool.and_eq_true] at h; rw [beqL_eq h.1, nbeq_eq h.2])
  | .sl .., b, h => by cases b <;> simp only [CV.beq] at h <;> first | cases h | (simp only [Bool.and_eq_true] at h; rw [nbeq_eq h.1.1.1.1.1, nbeq_eq h.1.1.1.1.2, nbeq_eq h.1.1.1.2, nbeq_eq h.1.1.2, nbeq_eq h.1.2, nbeq_eq h.2])
  | .rsl a n, b, h => by cases b <;> simp only [CV.beq] at h <;> first | cases h | (simp only [Bool.and_eq_true] at h; rw [nbeq_eq h.1, beqLL_eq h.2])
  | .fn a n m, b, h => by cases b <;> simp only [CV.beq] at h <;> first | cases h | (simp only [Bool.and_eq_true] at h; rw [nbeq_eq h.1.1, beqL_eq h.1.2, beqL_eq h.2])
  | .mp a, b, h => by cases b <;> simp only [CV.beq] at h <;> first | cases h | rw [nbeq_eq h]
  | .it a, b, h => by cases b <;> simp only [CV.beq] at h <;> first | cases h | rw [nbeq_eq h]
  | .ifc a n, b, h => by cases b <;> simp only [CV.beq] at h <;> first | cases h | (simp only [Bool.and_eq_true] at h; rw [nbeq_eq h.1, CV.beq_eq h.2])
theorem beqL_eq : ∀ {a b : List CV}, beqL a b = true → a = b
  | [], b, h => by cases b <;> simp only [beqL] at h <;> first | rfl | cases h
  | x :: a, b, h => by cases b <;> simp only [beqL] at h <;> first | cases h | (simp only [Bool.and_eq_true] at h; rw [CV.beq_eq h.1, beqL_eq h.2])
theorem beqLL_eq : ∀ {a b : List (List CV)}, beqLL a b = true → a = b
  | [], b, h => by cases b <;> simp only [beqLL] at h <;> first | rfl | cases h
  | x :: a, b, h => by cases b <;> simp only [beqLL] at h <;> first | cases h | (simp only [Bool.and_eq_true] at h; rw [beqL_eq h.1, beqLL_eq h.2])
end

/-! ### What precedes what, in bits -/
def tb (m i : Nat) : Bool := Nat.testBit m i

def edgeMask (ms : List Nat) : List Edge → Nat
  | [] => 0
  | e :: es => match Region.binds .any e with
    | true => Nat.lor (Nat.lor (2 ^ e.on) (ms.getD e.on 0)) (edgeMask ms es)
    | false => edgeMask ms es

def masksGo (ms : List Nat) : List Oper → List Nat
  | [] => ms
  | o :: os => masksGo (ms ++ [edgeMask ms o.after.toList]) os
def masksOf (ops : Array Oper) : List Nat := masksGo [] ops.toList

def preOf (ms : List Nat) (i j : Nat) : Bool := tb (ms.getD i 0) j

def isEffOp : Op → Bool
  | .move _ | .assign _ | .pick .. | .alloc _ | .box .. | .build .. | .buildSlice .. | .load .. | .nilCheck _ | .binOp .. | .unOp .. | .convert .. | .makeInterface .. | .makeFunc .. | .makeSlice .. | .slice .. | .fieldAddr .. | .field .. | .indexAddr .. | .index .. | .extract .. => false
  | .call c => match c.callee with
    | .builtin .len | .builtin .cap | .builtin .min | .builtin .max => false
    | _ => true
  | _ => true

/-- Whether a pure operation looks at the heap. -/
def readsOp : Op → Bool
  | .load .. | .convert .. => true
  | _ => false

/-- Whether an operation leaves the heap alone. -/
def isPureOp : Op → Bool
  | .move _ | .assign _ | .pick .. | .build .. | .load .. | .nilCheck _ | .binOp .. | .unOp .. | .convert .. | .makeInterface .. | .makeFunc .. | .slice .. | .fieldAddr .. | .field .. | .indexAddr .. | .index .. | .extract .. => true
  | .call c => match c.callee with
    | .builtin .len | .builtin .cap | .builtin .min | .builtin .max => true
    | _ => false
  | _ => false

/-! An order: what has no effect as early as may be. -/
def pickOne (done : Nat) (eff : Bool) : Nat → List Nat → List Oper → Option Nat
  | i, m :: ms, o :: os => match !tb done i && Nat.beq (Nat.land m done) m && (isEffOp o.op == eff) with
    | true => some i
    | false => pickOne done eff (i + 1) ms os
  | _, _, _ => none

def schedGo (ms : List Nat) (os : List Oper) : Nat → Nat → List Nat
  | 0, _ => []
  | k + 1, done => match pickOne done false 0 ms os with
    | some i => i :: schedGo ms os k (Nat.lor done (2 ^ i))
    | none => match pickOne done true 0 ms os with
      | some i => i :: schedGo ms os k (Nat.lor done (2 ^ i))
      | none => []
def sched (ms : List Nat) (ops : Array Oper) : List Nat := schedGo ms ops.toList ops.size 0

/-! ### Checks of a region that draws its order -/
def allI (p : Nat → Oper → Bool) : Nat → List Oper → Bool
  | _, [] => true
  | i, o :: os => p i o && allI p (i + 1) os

theorem allI_spec {p : Nat → Oper → Bool} : ∀ (l : List Oper) (i : Nat), allI p i l = true → ∀ (j : Nat) (o : Oper), l[j]? = some o → p (i + j) o = true
  | [], i, _, j, o, h => by simp at h
  | x :: l, i, h, j, o, hj => by
    simp only [allI, Bool.and_eq_true] at h
    cases j with
    | zero => simp only [List.getElem?_cons_zero, Option.some.injEq] at hj; subst hj; exact h.1
    | succ j =>
      simp only [List.getElem?_cons_succ] at hj
      have := allI_spec l (i + 1) h.2 j o hj
      rwa [show i + 1 + j = i + (j + 1) by omega] at this

def dstIs (t : Nat) (o : Oper) : Bool := match o.dst with | some d => Nat.beq d t | none => false

def writerL (t : Nat) : Nat → List Oper → Option Nat
  | _, [] => none
  | i, o :: os => match dstIs t o with
    | true => some i
    | false => writerL t (i + 1) os

def drawTextB (ms : List Nat) (ops : Array Oper) : Bool :=
  allI (fun i o =>
    Nat.beq (ms.getD i 0) (edgeMask ms o.after.toList) &&
    (o.after.toList.all fun e => !Region.binds .any e || Nat.blt e.on i) &&
    (match o.dst with | some d => (match writerL d 0 ops.toList with | some j => Nat.beq j i | none => false) | none => true) &&
    ((o.looksAt ops).all fun t => match writerL t 0 ops.toList with | some j => preOf ms i j || preOf ms j i || Nat.beq j i | none => true)) 0 ops.toList &&
  Region.noSelect ops

def ordB (ms : List Nat) : List Nat → Bool
  | [] => true
  | i :: r => (r.all fun j => !Nat.beq i j && !preOf ms i j) && ordB ms r

def orderB (ms : List Nat) (ops : Array Oper) (ord : List Nat) : Bool :=
  drawTextB ms ops && ordB ms ord && Nat.beq ord.length ops.size && (ord.all fun i => Nat.blt i ops.size) && (List.range ops.size).all fun i => ord.contains i

/-! ### Running -/
abbrev CallF := FuncId → List CV → Hp → Option (CV × Hp)

structure En where
  t : TS
  s : Sl
  h : Hp

section
variable (P : Program) (G : Nat → CV)

def opR (call : CallF) (op : Op) (s : Sl) (h : Hp) : Option (CV × Hp) :=
  match stepC P h (ev G (look s)) op with
  | some (.val v h') => some (v, h')
  | some (.call f args h1) => call f args h1
  | none => none

def runOps (call : CallF) (all : Array Oper) (N : Nat) : List Oper → Sl → Hp → Option (Sl × Hp)
  | [], s, h => some (s, h)
  | o :: l, s, h => match dstOk N o.dst with
    | false => none
    | true => match wantedC all (look s) o with
      | some false => runOps call all N l (putT s o.dst undefC) h
      | some true => match opR P G call o.op s h with
        | some (v, h1) => runOps call all N l (putT s o.dst v) h1
        | none => none
      | none => none

/-- One step of an order. -/
def stepTS (call : CallF) (ops : Array Oper) (i : Nat) (o : Oper) (s : Sl) (h : Hp) : Option TS :=
  match wantedC ops (look s) o with
  | none => none
  | some false => some (.skip i)
  | some true => match isPureOp o.op with
    | true => match stepC P h (ev G (look s)) o.op with
      | some (.val v _) => some (.pure i v)
      | _ => none
    | false => match newC P (ev G (look s)) o.op with
      | some (cs, mk) => some (.new i (mk h.n) cs)
      | none => match opR P G call o.op s h with
        | some (v, h1) => match Nat.ble h.n h1.n with | true => some (.eff i v h1) | false => none
        | none => none

def runTr (call : CallF) (ops : Array Oper) : List Nat → Sl → Hp → Option (List En × Sl × Hp)
  | [], s, h => some ([], s, h)
  | i :: r, s, h => match ops[i]? with
    | none => none
    | some o => match stepTS P G call ops i o s h with
      | none => none
      | some t => match runTr call ops r (putT s o.dst t.val) (nextH h t) with
        | some (l, s', h') => some (⟨t, s, h⟩ :: l, s', h')
        | none => none

def stillOne (ops : Array Oper) (h : Hp) (e : En) : Bool :=
  match e.t with
  | .pure i v => match ops[i]? with
    | none => true
    | some o => match readsOp o.op with
      | false => true
      | true => match stepC P h (ev G (look e.s)) o.op with
        | some (.val v' _) => CV.beq v' v
        | _ => false
  | .new _ _ cs => match h.f e.h.n with
    | .cells n cs' => Nat.beq n cs.length && beqL cs' cs
    | _ => false
  | _ => true

def stillGo (ms : List Nat) (ops : Array Oper) (hf : Hp) : List En → List En → Bool
  | [], seen => seen.all (stillOne P G ops hf)
  | e :: r, seen => match e.t.isEff with
    | true => seen.all (stillOne P G ops e.h) && (r.all fun x => preOf ms x.t.idx e.t.idx) && stillGo ms ops hf r (seen.filter fun x => !preOf ms e.t.idx x.t.idx)
    | false => stillGo ms ops hf r (e :: seen)

def runDraw (call : CallF) (ops : Array Oper) (N : Nat) (s : Sl) (h : Hp) : Option (Sl × Hp) :=
  match orderB (masksOf ops) ops (sched (masksOf ops) ops) && ops.toList.all (fun o => dstOk N o.dst) with
  | false => none
  | true => match runTr P G call ops (sched (masksOf ops) ops) s h with
    | none => none
    | some (l, s', h') => match stillGo P G (masksOf ops) ops h' l [] with
      | true => some (s', h')
      | false => none

abbrev Out := Option (CExit × Sl × Hp)

def codeStep (call : CallF) (N : Nat) (ih : Code → Sl → Hp → Out) (c : Code) (s : Sl) (h : Hp) : Out :=
  match c with
  | .skip => some (.normal, s, h)
  | .label _ => some (.normal, s, h)
  | .ret => some (.ret, s, h)
  | .exit id => some (.exit id, s, h)
  | .seq a b => match ih a s h with
    | some (.normal, s1, h1) => ih b s1 h1
    | r => r
  | .cond c x y => match ev G (look s) c with
    | .bool true => ih x s h
    | .bool false => ih y s h
    | _ => none
  | .block id c => match ih c s h with
    | some (.exit id', s1, h1) => match Nat.beq id' id with
      | true => some (.normal, s1, h1)
      | false => some (.exit id', s1, h1)
    | r => r
  | .loop c => match ih c s h with
    | some (.normal, s1, h1) => ih (.loop c) s1 h1
    | r => r
  | .scope c => ih c s h
  | .region _ ops false => match runOps P G call ops N ops.toList s h with
    | some (s1, h1) => some (.normal, s1, h1)
    | none => none
  | .region _ ops true => match runDraw P G call ops N s h with
    | some (s1, h1) => some (.normal, s1, h1)
    | none => none
  | _ => none

def runCode (call : CallF) (N : Nat) : Nat → Code → Sl → Hp → Out
  | 0 => fun _ _ _ => none
  | k + 1 => codeStep P G call N (runCode call N k)

def callStep (orc : FuncId → List CV → Option CV) (fuel : Nat) (call : CallF) : CallF := fun f args h =>
  match orc f args with
  | some r => some (r, h)
  | none => match P.funcs[f]? with
    | none => none
    | some fn => match fn.body with
      | none => none
      | some c => match runCode P G call (args.length + (fn.ntmps - args.length)) fuel c (ofArgs 0 .nil args) h with
        | some (.normal, s', h') => (resC P h' (look s') fn).map fun r => (r, h')
        | some (.ret, s', h') => (resC P h' (look s') fn).map fun r => (r, h')
        | _ => none

def runCall (orc : FuncId → List CV → Option CV) (fuel : Nat) : Nat → CallF
  | 0 => fun _ _ _ => none
  | k + 1 => callStep P G orc fuel (runCall orc fuel k)
end

end Go.CM
