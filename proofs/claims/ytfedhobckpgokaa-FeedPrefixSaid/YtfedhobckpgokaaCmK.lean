/-
  The canonical machine, part K: running code.
-/
import Derived.Test.YtfedhobckpgokaaCmJ
import Derived.Orders
namespace Go.CM
open Go
set_option linter.unusedVariables false
set_option linter.unusedSimpArgs false

inductive CExit where
  | normal
  | exit (id : Nat)
  | ret

def CExit.out : CExit → Exit
  | .normal => .normal
  | .exit id => .exit id
  | .ret => .ret

def wantedC (ops : Array Oper) (σ : Nat → CV) (o : Oper) : Option Bool :=
  match o.guard with
  | none => some true
  | some (j, want) => match (ops[j]?).bind (·.dst) with
    | none => some false
    | some d => match σ d with
      | .bool b => some (b == want)
      | .bad => none
      | _ => some false

def putC (σ : Nat → CV) (dst : Option Tmp) (c : CV) : Nat → CV := match dst with | some d => fupd σ d c | none => σ
def dstOk (N : Nat) (dst : Option Tmp) : Bool := match dst with | some d => decide (d < N) | none => true

def resOne (P : Program) (h : Hp) (σ : Nat → CV) : ResultVar → Option CV
  | .tmp t => some (σ t)
  | .cell a t => loadC P h t (σ a)

def resList (P : Program) (h : Hp) (σ : Nat → CV) : List ResultVar → Option (List CV)
  | [] => some []
  | r :: rs => match resOne P h σ r, resList P h σ rs with
    | some v, some vs => some (v :: vs)
    | _, _ => none

def tuple1 : List CV → CV
  | [v] => v
  | vs => .tu vs

def resC (P : Program) (h : Hp) (σ : Nat → CV) (fn : Func) : Option CV := (resList P h σ fn.results.toList).map tuple1

mutual
def CV.closed : CV → Bool
  | .ag cs => closedL cs
  | .tu cs => closedL cs
  | .rptr cs _ => closedL cs
  | .rsl _ es => closedLL es
  | .fn _ a b => closedL a && closedL b
  | .ifc _ v => v.closed
  | .ptr .. | .sl .. | .mp _ | .it _ => false
  | _ => true
def closedL : List CV → Bool
  | [] => true
  | c :: cs => c.closed && closedL cs
def closedLL : List (List CV) → Bool
  | [] => true
  | c :: cs => closedL c && closedLL cs
end

/-- Memory that is only read, apart from the machine's own. -/
def VR0 (w : World) (A : Nat → Prop) (c : CV) (v : Value) : Prop := VR w A Hp.empty (fun _ => none) c v

/-- What a function computes, by value: whatever memory its arguments lie in. -/
def PureC (P : Program) (G : Nat → CV) (f : FuncId) (args : List CV) (r : CV) : Prop :=
  ∀ (w : World) (A : Nat → Prop) (vs : Array Value), (∀ g, VR0 w A (G g) (.pointer (some ⟨g, 0, none⟩))) → vs.size = args.length →
    (∀ (j : Nat) (c : CV) (v : Value), args[j]? = some c → vs[j]? = some v → VR0 w A c v) →
    Calls P f vs w fun e w' => ∃ v, e = .returned v ∧ RowKit.Below w.heap.size w w' ∧ VR0 w' (fun k => A k ∨ w.heap.size ≤ k) r v

inductive Cls where
  | pure | new | eff

/-- Operations that make a block, and do nothing else. -/
def newC (P : Program) (ρ : Operand → CV) : Op → Option (List CV × (Nat → CV))
  | .alloc t => (zeroT P t).map fun z => (z, fun b => .ptr b 0 z.length)
  | .box _ x => (ρ x).cells.map fun cs => (cs, fun b => .ptr b 0 cs.length)
  | .buildSlice t len parts => match elemT P t with
    | some e => match sizeT P e, zeroT P e with
      | some z, some zero => if zero.length = z ∧ len * z ≤ 16777216 then
          (fillC (fun i => some (i * z, z)) (repeatC zero len) (parts.toList.map fun p => (p.1, ρ p.2))).map fun cs => (cs, fun b => .sl z b 0 len len (len * z))
        else none
      | _, _ => none
    | none => none
  | .makeSlice t l c => match elemT P t, asInt (ρ l), asInt (ρ c) with
    | some e, some l, some c => match sizeT P e, bytesT P e, zeroT P e with
      | some z, some by_, some zero =>
        if zero.length = z ∧ 0 ≤ l ∧ l ≤ c ∧ c < 9223372036854775808 ∧ by_ * c ≤ roomMax then
          some (repeatC zero c.toNat, fun b => .sl z b 0 l.toNat c.toNat (c.toNat * z))
        else none
      | _, _, _ => none
    | _, _, _ => none
  | _ => none

/-- The operation that writes a temporary. -/
def writer (ops : Array Oper) (t : Nat) : Option Nat := (List.range ops.size).find? fun i => match ops[i]? with | some o => o.dst == some t | none => false

/-- What an operation sees of the temporaries. -/
def envOf (ops : Array Oper) (pre : Nat → Nat → Bool) (val : Nat → CV) (σ : Nat → CV) (i : Nat) (o : Oper) : Nat → CV := fun t =>
  if (o.looksAt ops).contains t then
    match writer ops t with
    | some j => if pre i j then val j else σ t
    | none => σ t
  else .bad

/-- What can be told of a region that draws its order from its text alone. -/
structure DrawText (ops : Array Oper) (pre : Nat → Nat → Bool) : Prop where
  edge : ∀ (i : Nat) (o : Oper) (e : Edge), ops[i]? = some o → e ∈ o.after → Region.binds .any e = true → e.on < i
  chain : ∀ (i : Nat) (o : Oper) (j : Nat), ops[i]? = some o → pre i j = true → ∃ e ∈ o.after, Region.binds .any e = true ∧ (e.on = j ∨ pre e.on j = true)
  one : ∀ (i : Nat) (o : Oper) (t : Tmp), ops[i]? = some o → o.dst = some t → writer ops t = some i
  acc : ∀ (i : Nat) (o : Oper) (t : Tmp) (j : Nat), ops[i]? = some o → t ∈ o.looksAt ops → writer ops t = some j → pre i j = true ∨ pre j i = true ∨ j = i
  sel : Region.noSelect ops = true

/-- More blocks. -/
def pushes (h : Hp) (l : List (List CV)) : Hp := l.foldl (fun h cs => h.push (.cells cs.length cs)) h
def Grows (h h' : Hp) : Prop := ∃ l, h' = pushes h l

theorem pushes_n : ∀ (l : List (List CV)) (h : Hp), (pushes h l).n = h.n + l.length
  | [], h => rfl
  | c :: l, h => by
    have := pushes_n l (h.push (.cells c.length c))
    simp only [pushes, List.foldl_cons, List.length_cons] at this ⊢
    rw [this]
    simp only [push_f, push_n]; omega

theorem pushes_same : ∀ (l : List (List CV)) (h : Hp) (b : Nat), b < h.n → (pushes h l).f b = h.f b
  | [], h, b, _ => rfl
  | c :: l, h, b, hb => by
    have := pushes_same l (h.push (.cells c.length c)) b (by simp only [push_f, push_n]; omega)
    simp only [pushes, List.foldl_cons] at this ⊢
    rw [this]
    simp only [push_f, push_n]
    exact fupd_ne _ _ _ _ (by omega)

theorem pushes_fresh : ∀ (l : List (List CV)) (h : Hp), (∀ b, h.n ≤ b → h.f b = .none) → ∀ b, (pushes h l).n ≤ b → (pushes h l).f b = .none
  | [], h, hf => hf
  | c :: l, h, hf => by
    refine pushes_fresh l (h.push (.cells c.length c)) (fun b hb => ?_)
    simp only [push_f, push_n] at hb ⊢
    rw [fupd_ne _ _ _ _ (by omega)]
    exact hf b (by omega)

theorem Grows.n {h h' : Hp} (g : Grows h h') : h.n ≤ h'.n := by obtain ⟨l, rfl⟩ := g; rw [pushes_n]; omega
theorem Grows.same {h h' : Hp} (g : Grows h h') (b : Nat) (hb : b < h.n) : h'.f b = h.f b := by obtain ⟨l, rfl⟩ := g; exact pushes_same l h b hb
theorem Grows.fresh {h h' : Hp} (g : Grows h h') (hf : ∀ b, h.n ≤ b → h.f b = .none) : ∀ b, h'.n ≤ b → h'.f b = .none := by obtain ⟨l, rfl⟩ := g; exact pushes_fresh l h hf

/-- A value as it reads where some blocks are given up: what lies in them is from now on only read. -/
inductive RdK (h h2 : Hp) : CV → CV → Prop
  | same (c : CV) : RdK h h2 c c
  | ag (cs cs' : List CV) (hl : cs'.length = cs.length) (hv : ∀ (j : Nat) (c c' : CV), cs[j]? = some c → cs'[j]? = some c' → RdK h h2 c c') : RdK h h2 (.ag cs) (.ag cs')
  | sl (z b off len cap sz : Nat) (cs : List CV) (es : List (List CV)) (hb : h.f b = .cells sz cs) (hd : h2.f b = .dead) (hl : es.length = len) (hz : ∀ e ∈ es, e.length = z)
      (hin : off + len * z ≤ cs.length)
      (hv : ∀ (i j : Nat) (e : List CV) (c c' : CV), es[i]? = some e → e[j]? = some c' → cs[off + (i * z + j)]? = some c → RdK h h2 c c') : RdK h h2 (.sl z b off len cap sz) (.rsl z es)
  | sl0 (z b off cap sz : Nat) : RdK h h2 (.sl z b off 0 cap sz) (.rsl z [])

/-- Some blocks are given up. -/
structure Wk (h h2 : Hp) : Prop where
  n : h2.n = h.n
  blk : ∀ b, h2.f b = h.f b ∨ ∃ sz cs, h.f b = .cells sz cs ∧ (h2.f b = .dead ∨ ∃ cs2, h2.f b = .cells sz cs2 ∧ cs2.length = cs.length ∧ ∀ (j : Nat) (c c2 : CV), cs[j]? = some c → cs2[j]? = some c2 → RdK h h2 c c2)

inductive J where
  | code (c : Code) (N : Nat) (σ : Nat → CV) (h : Hp) (e : CExit) (σ' : Nat → CV) (h' : Hp)
  | ops (all : Array Oper) (l : List Oper) (N : Nat) (σ : Nat → CV) (h : Hp) (σ' : Nat → CV) (h' : Hp)
  | op (op : Op) (σ : Nat → CV) (h : Hp) (v : CV) (h' : Hp)
  | call (f : FuncId) (args : List CV) (h : Hp) (r : CV) (h' : Hp)

def feas (pre : Nat → Nat → Bool) (m : Nat) (hs : Nat → Nat) (i k : Nat) : Prop := k ≤ m ∧ (∀ q, q < m → pre i (hs q) = true → q < k) ∧ ∀ q, q < m → pre (hs q) i = true → k ≤ q

inductive Ev (P : Program) (G : Nat → CV) : J → Prop where
  | skip (N σ h) : Ev P G (.code .skip N σ h .normal σ h)
  | label (l N σ h) : Ev P G (.code (.label l) N σ h .normal σ h)
  | ret (N σ h) : Ev P G (.code .ret N σ h .ret σ h)
  | exit (id N σ h) : Ev P G (.code (.exit id) N σ h (.exit id) σ h)
  | seqN {a b N σ h σ1 h1 e σ' h'} : Ev P G (.code a N σ h .normal σ1 h1) → Ev P G (.code b N σ1 h1 e σ' h') → Ev P G (.code (.seq a b) N σ h e σ' h')
  | seqX {a b N σ h e σ' h'} : Ev P G (.code a N σ h e σ' h') → e ≠ .normal → Ev P G (.code (.seq a b) N σ h e σ' h')
  | cond {c x y N σ h b e σ' h'} : ev G σ c = .bool b → Ev P G (.code (if b then x else y) N σ h e σ' h') → Ev P G (.code (.cond c x y) N σ h e σ' h')
  | blockN {id c N σ h e σ' h'} : Ev P G (.code c N σ h e σ' h') → e ≠ .exit id → Ev P G (.code (.block id c) N σ h e σ' h')
  | blockX {id c N σ h σ' h'} : Ev P G (.code c N σ h (.exit id) σ' h') → Ev P G (.code (.block id c) N σ h .normal σ' h')
  | loopN {c N σ h σ1 h1 e σ' h'} : Ev P G (.code c N σ h .normal σ1 h1) → Ev P G (.code (.loop c) N σ1 h1 e σ' h') → Ev P G (.code (.loop c) N σ h e σ' h')
  | loopX {c N σ h e σ' h'} : Ev P G (.code c N σ h e σ' h') → e ≠ .normal → Ev P G (.code (.loop c) N σ h e σ' h')
  | scope {c N σ h e σ' h'} : Ev P G (.code c N σ h e σ' h') → Ev P G (.code (.scope c) N σ h e σ' h')
  | region {id ops N σ h σ' h'} : Ev P G (.ops ops ops.toList N σ h σ' h') → Ev P G (.code (.region id ops false) N σ h .normal σ' h')
  | draw {id ops N σ h σ' h'} (pre : Nat → Nat → Bool) (val : Nat → CV) (W : Nat → Bool) (cls : Nat → Cls) (m : Nat) (hs : Nat → Nat) (Hk H1 : Nat → Hp) (bid : Nat → Nat) (cells : Nat → List CV)
      (txt : DrawText ops pre)
      (hdst : ∀ (i : Nat) (o : Oper), ops[i]? = some o → dstOk N o.dst = true)
      (h0 : Grows h (Hk 0)) (hm : h' = Hk m) (hσ : σ' = fun t => match writer ops t with | some i => val i | none => σ t)
      (heff : ∀ (i : Nat) (o : Oper), ops[i]? = some o → W i = true → cls i = .eff → ∃ q, q < m ∧ hs q = i)
      (heff' : ∀ q, q < m → ∃ o, ops[hs q]? = some o ∧ W (hs q) = true ∧ cls (hs q) = .eff)
      (hord : ∀ q q', q < m → q' < m → q < q' → pre (hs q') (hs q) = true)
      (hinj : ∀ q q', q < m → q' < m → hs q = hs q' → q = q')
      (hwant : ∀ (i : Nat) (o : Oper), ops[i]? = some o → wantedC ops (envOf ops pre val σ i o) o = some (W i))
      (hskip : ∀ (i : Nat) (o : Oper), ops[i]? = some o → W i = false → val i = undefC)
      (hpure : ∀ (i : Nat) (o : Oper), ops[i]? = some o → W i = true → cls i = .pure → ∀ k, feas pre m hs i k → stepC P (Hk k) (ev G (envOf ops pre val σ i o)) o.op = some (.val (val i) (Hk k)))
      (hnew : ∀ (i : Nat) (o : Oper), ops[i]? = some o → W i = true → cls i = .new → ∃ mk, newC P (ev G (envOf ops pre val σ i o)) o.op = some (cells i, mk) ∧ val i = mk (bid i) ∧ h.n ≤ bid i ∧
        ∀ k, feas pre m hs i k → (Hk k).f (bid i) = .cells (cells i).length (cells i))
      (hbid : ∀ (i j : Nat) (o o' : Oper), ops[i]? = some o → ops[j]? = some o' → W i = true → W j = true → cls i = .new → cls j = .new → bid i = bid j → i = j)
      (hbid' : ∀ (i : Nat) (o : Oper) (q : Nat), ops[i]? = some o → W i = true → cls i = .new → q < m → bid i < (Hk q).n ∨ (H1 q).n ≤ bid i)
      (hgrow : ∀ q, q < m → Grows (H1 q) (Hk (q + 1)))
      (hcall : ∀ (q : Nat) (o : Oper), q < m → ops[hs q]? = some o → Ev P G (.op o.op (envOf ops pre val σ (hs q) o) (Hk q) (val (hs q)) (H1 q))) :
      Ev P G (.code (.region id ops true) N σ h .normal σ' h')
  | opsNil {all N σ h} : Ev P G (.ops all [] N σ h σ h)
  | opsSkip {all o l N σ h σ' h'} : wantedC all σ o = some false → dstOk N o.dst = true → Ev P G (.ops all l N (putC σ o.dst undefC) h σ' h') → Ev P G (.ops all (o :: l) N σ h σ' h')
  | opsOp {all o l N σ h v h1 σ' h'} : wantedC all σ o = some true → dstOk N o.dst = true → Ev P G (.op o.op σ h v h1) → Ev P G (.ops all l N (putC σ o.dst v) h1 σ' h') → Ev P G (.ops all (o :: l) N σ h σ' h')
  | opVal {op σ h v h'} : stepC P h (ev G σ) op = some (.val v h') → Ev P G (.op op σ h v h')
  | opCall {op σ h f args h1 v h'} : stepC P h (ev G σ) op = some (.call f args h1) → Ev P G (.call f args h1 v h') → Ev P G (.op op σ h v h')
  | wkOp {op σ h v h' v2 h2} : Ev P G (.op op σ h v h') → Wk h' h2 → RdK h' h2 v v2 → Ev P G (.op op σ h v2 h2)
  | inline {f fn c args h e σ' h' r} : P.funcs[f]? = some fn → fn.body = some c →
      Ev P G (.code c (args.length + (fn.ntmps - args.length)) (fun t => args.getD t undefC) h e σ' h') → (e = .normal ∨ e = .ret) → resC P h' σ' fn = some r → Ev P G (.call f args h r h')
  | pure {f args h r} : PureC P G f args r → closedL args = true → Ev P G (.call f args h r h)

end Go.CM
