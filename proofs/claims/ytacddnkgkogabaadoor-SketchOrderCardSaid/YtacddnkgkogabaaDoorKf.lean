/-
  The canonical machine: the laws by which 'simp' walks.
-/
import Derived.Test.YtacddnkgkogabaaDoorKe
import GoSem.ClaimChange
import GoSem.ClaimWide
import Derived.ProofKit
namespace Go.CM
open Go
set_option linter.unusedVariables false
set_option linter.unusedSimpArgs false

section
variable {P : Program} {G : Nat → CV}

@[simp ↓] theorem run_skip (σ : Sg) (l : Hl) (K : KC) : run P G .skip σ l K = K .normal σ l := id rfl
@[simp ↓] theorem run_ret (σ : Sg) (l : Hl) (K : KC) : run P G .ret σ l K = K .ret σ l := id rfl
@[simp ↓] theorem run_exit (i : Nat) (σ : Sg) (l : Hl) (K : KC) : run P G (.exit i) σ l K = K (.exit i) σ l := id rfl
@[simp ↓] theorem run_reg (s : List Stp) (σ : Sg) (l : Hl) (K : KC) : run P G (.reg s) σ l K = runS P G s σ l (K .normal) := id rfl
@[simp ↓] theorem run_dreg (s : List Stp) (σ : Sg) (l : Hl) (K : KC) : run P G (.dreg s) σ l K = runD P G s σ l [] (K .normal) := id rfl
@[simp ↓] theorem run_seq (a b : Cd) (σ : Sg) (l : Hl) (K : KC) : run P G (.seq a b) σ l K = run P G a σ l (kSeq (fun σ l => run P G b σ l K) K) := id rfl
@[simp ↓] theorem run_cond (c : Operand) (x y : Cd) (σ : Sg) (l : Hl) (K : KC) : run P G (.cond c x y) σ l K = kCond (ev G σ c) (c := ⟨run P G x σ l K, run P G y σ l K⟩) := id rfl
@[simp ↓] theorem run_block (i : Nat) (c : Cd) (σ : Sg) (l : Hl) (K : KC) : run P G (.block i c) σ l K = run P G c σ l (kBlock i K) := id rfl
@[simp ↓] theorem run_loop (c : Cd) (σ : Sg) (l : Hl) (K : KC) : run P G (.loop c) σ l K = LoopP (run P G c) σ l (c := ⟨K⟩) := id rfl
@[simp ↓] theorem kSeq_n (k : Sg → Hl → Prop) (K : KC) (σ : Sg) (l : Hl) : kSeq k K .normal σ l = k σ l := id rfl
@[simp ↓] theorem kSeq_e (k : Sg → Hl → Prop) (K : KC) (i : Nat) (σ : Sg) (l : Hl) : kSeq k K (.exit i) σ l = K (.exit i) σ l := id rfl
@[simp ↓] theorem kSeq_r (k : Sg → Hl → Prop) (K : KC) (σ : Sg) (l : Hl) : kSeq k K .ret σ l = K .ret σ l := id rfl
@[simp ↓] theorem kBlock_n (i : Nat) (K : KC) (σ : Sg) (l : Hl) : kBlock i K .normal σ l = K .normal σ l := id rfl
@[simp ↓] theorem kBlock_r (i : Nat) (K : KC) (σ : Sg) (l : Hl) : kBlock i K .ret σ l = K .ret σ l := id rfl
def kEx (p : Prop) [Decidable p] [c : Pq] : Prop := if p then c.p else c.q
@[simp ↓] theorem kBlock_e (i j : Nat) (K : KC) (σ : Sg) (l : Hl) : kBlock i K (.exit j) σ l = kEx (j = i) (c := ⟨K .normal σ l, K (.exit j) σ l⟩) := by
  unfold kBlock kEx
  by_cases h : j = i
  · simp only [nbeq_true h, if_pos h]
  · simp only [nbeq_false h, if_neg h]
theorem kEx_pos {p : Prop} [Decidable p] {c : Pq} (h : p) : kEx p (c := c) = c.p := by simp [kEx, h]
theorem kEx_neg {p : Prop} [Decidable p] {c : Pq} (h : ¬ p) : kEx p (c := c) = c.q := by simp [kEx, h]
@[simp ↓] theorem kEx_same (i : Nat) (x y : Prop) : kEx (i = i) (c := ⟨x, y⟩) = x := by simp [kEx]
@[simp] theorem kEx_true (x y : Prop) : kEx True (c := ⟨x, y⟩) = x := by simp [kEx]
@[simp] theorem kEx_false (x y : Prop) : kEx False (c := ⟨x, y⟩) = y := by simp [kEx]
@[simp ↓] theorem kEnd_n (ms : List Mo) (K : CV → Hl → Prop) (σ : Sg) (l : Hl) : kEnd P G ms K .normal σ l = kRes P G K σ l ms [] := id rfl
@[simp ↓] theorem kEnd_r (ms : List Mo) (K : CV → Hl → Prop) (σ : Sg) (l : Hl) : kEnd P G ms K .ret σ l = kRes P G K σ l ms [] := id rfl
@[simp ↓] theorem kRes_nil (K : CV → Hl → Prop) (σ : Sg) (l : Hl) (acc : List CV) : kRes P G K σ l [] acc = K (tuple1 acc) l := id rfl
@[simp ↓] theorem kRes_cons (K : CV → Hl → Prop) (σ : Sg) (l : Hl) (m : Mo) (r : List Mo) (acc : List CV) : kRes P G K σ l (m :: r) acc = W (mstep P (ev G σ) l m) (c := ⟨fun x => kRes P G K σ l r (acc ++ [x.1])⟩) := id rfl
@[simp] theorem tuple1_1 (v : CV) : tuple1 [v] = v := id rfl
@[simp] theorem tuple1_2 (v w : CV) (r : List CV) : tuple1 (v :: w :: r) = .tu (v :: w :: r) := id rfl

@[simp ↓] theorem runS_nil (σ : Sg) (l : Hl) (K : Sg → Hl → Prop) : runS P G [] σ l K = K σ l := id rfl
@[simp ↓] theorem runS_mo (i : Nat) (dst : Option Tmp) (m : Mo) (c : List Nat) (k : Bool) (r : List Stp) (σ : Sg) (l : Hl) (K : Sg → Hl → Prop) :
    runS P G (⟨i, dst, none, .mo m, c, k⟩ :: r) σ l K = W (mstep P (ev G σ) l m) (c := ⟨fun x => keepK m x.1 x.2 fun v l' => runS P G r (putC σ dst v) l' K⟩) := id rfl
@[simp ↓] theorem runS_callF (i : Nat) (dst : Option Tmp) (f : FuncId) (args : List Operand) (c : List Nat) (k : Bool) (r : List Stp) (σ : Sg) (l : Hl) (K : Sg → Hl → Prop) :
    runS P G (⟨i, dst, none, .callF f args, c, k⟩ :: r) σ l K = CallP P G f (args.map (ev G σ)) l (c := ⟨fun v l' => runS P G r (putC σ dst v) l' K⟩) := id rfl
@[simp ↓] theorem runS_callV (i : Nat) (dst : Option Tmp) (x : Operand) (args : List Operand) (c : List Nat) (k : Bool) (r : List Stp) (σ : Sg) (l : Hl) (K : Sg → Hl → Prop) :
    runS P G (⟨i, dst, none, .callV x args, c, k⟩ :: r) σ l K = callVP P G (ev G σ x) (args.map (ev G σ)) l (c := ⟨fun v l' => runS P G r (putC σ dst v) l' K⟩) := id rfl
@[simp ↓] theorem runS_g (i : Nat) (dst : Option Tmp) (d : Tmp) (w : Bool) (b : Bd) (c : List Nat) (k : Bool) (r : List Stp) (σ : Sg) (l : Hl) (K : Sg → Hl → Prop) :
    runS P G (⟨i, dst, some (some d, w), b, c, k⟩ :: r) σ l K = kG (σ d) w (c := ⟨runS P G (⟨i, dst, none, b, c, k⟩ :: r) σ l K, runS P G r (putC σ dst undefC) l K⟩) := id rfl
@[simp ↓] theorem runD_nil (σ : Sg) (l : Hl) (seen : Seen) (K : Sg → Hl → Prop) : runD P G [] σ l seen K = K σ l := id rfl
@[simp ↓] theorem runD_mo (i : Nat) (dst : Option Tmp) (m : Mo) (c : List Nat) (k : Bool) (r : List Stp) (σ : Sg) (l : Hl) (seen : Seen) (K : Sg → Hl → Prop) :
    runD P G (⟨i, dst, none, .mo m, c, k⟩ :: r) σ l seen K = W (mstep P (ev G σ) l m) (c := ⟨fun x => keepK m x.1 x.2 fun v l' => chks c seen l' ∧ runD P G r (putC σ dst v) l' (seenAdd k i (stillP P G (.mo m) σ v l l') seen) K⟩) := id rfl
@[simp ↓] theorem runD_callF (i : Nat) (dst : Option Tmp) (f : FuncId) (args : List Operand) (c : List Nat) (k : Bool) (r : List Stp) (σ : Sg) (l : Hl) (seen : Seen) (K : Sg → Hl → Prop) :
    runD P G (⟨i, dst, none, .callF f args, c, k⟩ :: r) σ l seen K = CallP P G f (args.map (ev G σ)) l (c := ⟨fun v l' => chks c seen l' ∧ runD P G r (putC σ dst v) l' (seenAdd k i (fun _ => True) seen) K⟩) := id rfl
@[simp ↓] theorem runD_callV (i : Nat) (dst : Option Tmp) (x : Operand) (args : List Operand) (c : List Nat) (k : Bool) (r : List Stp) (σ : Sg) (l : Hl) (seen : Seen) (K : Sg → Hl → Prop) :
    runD P G (⟨i, dst, none, .callV x args, c, k⟩ :: r) σ l seen K = callVP P G (ev G σ x) (args.map (ev G σ)) l (c := ⟨fun v l' => chks c seen l' ∧ runD P G r (putC σ dst v) l' (seenAdd k i (fun _ => True) seen) K⟩) := id rfl
@[simp ↓] theorem runD_g (i : Nat) (dst : Option Tmp) (d : Tmp) (w : Bool) (b : Bd) (c : List Nat) (k : Bool) (r : List Stp) (σ : Sg) (l : Hl) (seen : Seen) (K : Sg → Hl → Prop) :
    runD P G (⟨i, dst, some (some d, w), b, c, k⟩ :: r) σ l seen K = kG (σ d) w (c := ⟨runD P G (⟨i, dst, none, b, c, k⟩ :: r) σ l seen K, runD P G r (putC σ dst undefC) l seen K⟩) := id rfl
@[simp] theorem chks_nil (ids : List Nat) (l : Hl) : chks ids [] l = True := id rfl
@[simp] theorem chks_cons (ids : List Nat) (e : Nat × (Hl → Prop)) (r : Seen) (l : Hl) : chks ids (e :: r) l = ((ids.contains e.1 = true → e.2 l) ∧ chks ids r l) := id rfl
@[simp] theorem seenAdd_t (i : Nat) (p : Hl → Prop) (s : Seen) : seenAdd true i p s = (i, p) :: s := id rfl
@[simp] theorem seenAdd_f (i : Nat) (p : Hl → Prop) (s : Seen) : seenAdd false i p s = s := id rfl
@[simp] theorem stillP_mo (m : Mo) (σ : Sg) (v : CV) (l l' l1 : Hl) : stillP P G (.mo m) σ v l l' l1 = (match m.isNew with | true => l1[l.length]? = l'[l.length]? | false => mstep P (ev G σ) l1 m = some (v, l1)) := id rfl

@[simp ↓] theorem keep_mv (x : Operand) (v : CV) (l : Hl) (K : CV → Hl → Prop) : keepK (.mv x) v l K = K v l := id rfl
@[simp ↓] theorem keep_pick (c a b : Operand) (v : CV) (l : Hl) (K : CV → Hl → Prop) : keepK (.pick c a b) v l K = K v l := id rfl
@[simp ↓] theorem keep_alloc (z : List CV) (v : CV) (l : Hl) (K : CV → Hl → Prop) : keepK (.alloc z) v l K = K v l := id rfl
@[simp ↓] theorem keep_box (x : Operand) (v : CV) (l : Hl) (K : CV → Hl → Prop) : keepK (.box x) v l K = K v l := id rfl
@[simp ↓] theorem keep_bld (z : List CV) (ps : List (Nat × Nat × Operand)) (v : CV) (l : Hl) (K : CV → Hl → Prop) : keepK (.bld z ps) v l K = K v l := id rfl
@[simp ↓] theorem keep_bsl (z : Nat) (zero : List CV) (n : Nat) (ps : List (Nat × Operand)) (v : CV) (l : Hl) (K : CV → Hl → Prop) : keepK (.bsl z zero n ps) v l K = K v l := id rfl
@[simp ↓] theorem keep_ld1 (a : Operand) (v : CV) (l : Hl) (K : CV → Hl → Prop) : keepK (.ld1 a) v l K = K v l := id rfl
@[simp ↓] theorem keep_ldA (n : Nat) (a : Operand) (v : CV) (l : Hl) (K : CV → Hl → Prop) : keepK (.ldA n a) v l K = K v l := id rfl
@[simp ↓] theorem keep_st (n : Nat) (a x : Operand) (v : CV) (l : Hl) (K : CV → Hl → Prop) : keepK (.st n a x) v l K = K v l := id rfl
@[simp ↓] theorem keep_nilc (x : Operand) (v : CV) (l : Hl) (K : CV → Hl → Prop) : keepK (.nilc x) v l K = K v l := id rfl
@[simp ↓] theorem keep_bin (o : BinOp) (t : TypeId) (x y : Operand) (v : CV) (l : Hl) (K : CV → Hl → Prop) : keepK (.bin o t x y) v l K = K v l := id rfl
@[simp ↓] theorem keep_un (o : UnOp) (x : Operand) (v : CV) (l : Hl) (K : CV → Hl → Prop) : keepK (.un o x) v l K = K v l := id rfl
@[simp ↓] theorem keep_cint (k : IntKind) (x : Operand) (v : CV) (l : Hl) (K : CV → Hl → Prop) : keepK (.cint k x) v l K = K v l := id rfl
@[simp ↓] theorem keep_cstr (x : Operand) (v : CV) (l : Hl) (K : CV → Hl → Prop) : keepK (.cstr x) v l K = K v l := id rfl
@[simp ↓] theorem keep_cbs (x : Operand) (v : CV) (l : Hl) (K : CV → Hl → Prop) : keepK (.cbs x) v l K = K v l := id rfl
@[simp ↓] theorem keep_csb (x : Operand) (v : CV) (l : Hl) (K : CV → Hl → Prop) : keepK (.csb x) v l K = K v l := id rfl
@[simp ↓] theorem keep_mkI (t : TypeId) (x : Operand) (v : CV) (l : Hl) (K : CV → Hl → Prop) : keepK (.mkI t x) v l K = K v l := id rfl
@[simp ↓] theorem keep_mkF (f : FuncId) (a b : List Operand) (v : CV) (l : Hl) (K : CV → Hl → Prop) : keepK (.mkF f a b) v l K = K v l := id rfl
@[simp ↓] theorem keep_mks (z b : Nat) (zero : List CV) (x y : Operand) (v : CV) (l : Hl) (K : CV → Hl → Prop) : keepK (.mks z b zero x y) v l K = K v l := id rfl
@[simp ↓] theorem keep_slice (ti : TI) (x : Operand) (lo hi mx : Option Operand) (v : CV) (l : Hl) (K : CV → Hl → Prop) : keepK (.slice ti x lo hi mx) v l K = K v l := id rfl
@[simp ↓] theorem keep_fa (n : Nat) (x : Operand) (v : CV) (l : Hl) (K : CV → Hl → Prop) : keepK (.fa n x) v l K = K v l := id rfl
@[simp ↓] theorem keep_fld1 (n : Nat) (x : Operand) (v : CV) (l : Hl) (K : CV → Hl → Prop) : keepK (.fld1 n x) v l K = K v l := id rfl
@[simp ↓] theorem keep_fldA (n m : Nat) (x : Operand) (v : CV) (l : Hl) (K : CV → Hl → Prop) : keepK (.fldA n m x) v l K = K v l := id rfl
@[simp ↓] theorem keep_ia (ti : TI) (x y : Operand) (v : CV) (l : Hl) (K : CV → Hl → Prop) : keepK (.ia ti x y) v l K = K v l := id rfl
@[simp ↓] theorem keep_ix1 (n z : Nat) (x y : Operand) (v : CV) (l : Hl) (K : CV → Hl → Prop) : keepK (.ix1 n z x y) v l K = K v l := id rfl
@[simp ↓] theorem keep_ixA (n z : Nat) (x y : Operand) (v : CV) (l : Hl) (K : CV → Hl → Prop) : keepK (.ixA n z x y) v l K = K v l := id rfl
@[simp ↓] theorem keep_ixT (x y : Operand) (v : CV) (l : Hl) (K : CV → Hl → Prop) : keepK (.ixT x y) v l K = K v l := id rfl
@[simp ↓] theorem keep_ext (x : Operand) (n : Nat) (v : CV) (l : Hl) (K : CV → Hl → Prop) : keepK (.ext x n) v l K = K v l := id rfl
@[simp ↓] theorem keep_len (ti : TI) (x : Operand) (v : CV) (l : Hl) (K : CV → Hl → Prop) : keepK (.len ti x) v l K = K v l := id rfl
@[simp ↓] theorem keep_cap (ti : TI) (x : Operand) (v : CV) (l : Hl) (K : CV → Hl → Prop) : keepK (.cap ti x) v l K = K v l := id rfl
@[simp ↓] theorem keep_appZ (z b : Nat) (zero : List CV) (x y : Operand) (v : CV) (l : Hl) (K : CV → Hl → Prop) : keepK (.appZ z b zero x y) v l K = K v l := id rfl
@[simp ↓] theorem keep_cpy (z : Nat) (x y : Operand) (v : CV) (l : Hl) (K : CV → Hl → Prop) : keepK (.cpy z x y) v l K = K v l := id rfl
@[simp ↓] theorem keep_clr (zero : List CV) (x : Operand) (v : CV) (l : Hl) (K : CV → Hl → Prop) : keepK (.clr zero x) v l K = K v l := id rfl
@[simp ↓] theorem keep_min (x y : Operand) (v : CV) (l : Hl) (K : CV → Hl → Prop) : keepK (.min x y) v l K = K v l := id rfl
@[simp ↓] theorem keep_max (x y : Operand) (v : CV) (l : Hl) (K : CV → Hl → Prop) : keepK (.max x y) v l K = K v l := id rfl
@[simp ↓] theorem keep_app (z b : Nat) (x y : Operand) (v : CV) (l : Hl) (K : CV → Hl → Prop) : keepK (.app z b x y) v l K = AppK v l (c := ⟨K⟩) := id rfl
theorem AppK.keep {v : CV} {l : Hl} {K : CV → Hl → Prop} (h : K v l) : AppK v l (c := ⟨K⟩) := .inl h
@[simp] theorem isNew_ld1 (a : Operand) : (Mo.ld1 a).isNew = false := id rfl
@[simp] theorem isNew_ldA (n : Nat) (a : Operand) : (Mo.ldA n a).isNew = false := id rfl
@[simp] theorem isNew_cint (k : IntKind) (a : Operand) : (Mo.cint k a).isNew = false := id rfl
@[simp] theorem isNew_cstr (a : Operand) : (Mo.cstr a).isNew = false := id rfl
@[simp] theorem isNew_cbs (a : Operand) : (Mo.cbs a).isNew = false := id rfl
@[simp] theorem isNew_csb (a : Operand) : (Mo.csb a).isNew = false := id rfl
@[simp] theorem isNew_alloc (z : List CV) : (Mo.alloc z).isNew = true := id rfl
@[simp] theorem isNew_box (a : Operand) : (Mo.box a).isNew = true := id rfl
@[simp] theorem isNew_bsl (z : Nat) (zero : List CV) (n : Nat) (ps : List (Nat × Operand)) : (Mo.bsl z zero n ps).isNew = true := id rfl
@[simp] theorem isNew_mks (z b : Nat) (zero : List CV) (x y : Operand) : (Mo.mks z b zero x y).isNew = true := id rfl
@[simp] theorem pu_eq (l l' : Hl) (x : Option CV) (v : CV) : (pu l x = some (v, l')) = (x = some v ∧ l' = l) := propext pu_some
@[simp ↓] theorem W_some {α : Type} (x : α) (k : α → Prop) : W (some x) (c := ⟨k⟩) = k x := id rfl
@[simp ↓] theorem W_pu (l : Hl) (o : Option CV) (k : CV × Hl → Prop) : W (pu l o) (c := ⟨k⟩) = W o (c := ⟨fun v => k (v, l)⟩) := by unfold W pu; cases o <;> rfl
@[simp ↓] theorem W_map {α β : Type} (o : Option α) (f : α → β) (k : β → Prop) : W (o.map f) (c := ⟨k⟩) = W o (c := ⟨fun v => k (f v)⟩) := by unfold W; cases o <;> rfl
@[simp ↓] theorem W_if {α : Type} (p : Prop) [Decidable p] (x : α) (k : α → Prop) : W (if p then some x else none) (c := ⟨k⟩) = (p ∧ k x) := by unfold W; by_cases h : p <;> simp [h]
@[simp ↓] theorem kCond_b (b : Bool) (p q : Prop) : kCond (.bool b) (c := ⟨p, q⟩) = kIf b (c := ⟨p, q⟩) := id rfl
@[simp ↓] theorem kIf_t (p q : Prop) : kIf true (c := ⟨p, q⟩) = p := id rfl
@[simp ↓] theorem kIf_f (p q : Prop) : kIf false (c := ⟨p, q⟩) = q := id rfl
@[simp ↓] theorem kG_t (b : Bool) (p q : Prop) : kG (.bool b) true (c := ⟨p, q⟩) = kIf b (c := ⟨p, q⟩) := by cases b <;> rfl
@[simp ↓] theorem kG_f (b : Bool) (p q : Prop) : kG (.bool b) false (c := ⟨p, q⟩) = kIf b (c := ⟨q, p⟩) := by cases b <;> rfl
@[simp ↓] theorem kG_u (w : Bool) (p q : Prop) : kG undefC w (c := ⟨p, q⟩) = q := id rfl
@[simp ↓] theorem kG_u' (w : Bool) (p q : Prop) : kG (.tu []) w (c := ⟨p, q⟩) = q := id rfl
theorem kIf_intro {b : Bool} {p q : Prop} (h1 : b = true → p) (h2 : b = false → q) : kIf b (c := ⟨p, q⟩) := by cases b; exact h2 rfl; exact h1 rfl

@[simp ↓] theorem putC_s (σ : Sg) (d : Tmp) (v : CV) : putC σ (some d) v = fupd σ d v := id rfl
@[simp ↓] theorem putC_n (σ : Sg) (v : CV) : putC σ none v = σ := id rfl
@[simp] theorem fupd_at {α : Type} (s : Nat → α) (d : Nat) (v : α) (t : Nat) : fupd s d v t = if t = d then v else s t := id rfl
@[simp] theorem argsS_at (args : List CV) (t : Nat) : argsS args t = args.getD t undefC := id rfl
@[simp] theorem ev_tmp (σ : Sg) (t : Tmp) : ev G σ (.tmp t) = σ t := id rfl
@[simp] theorem ev_func (σ : Sg) (f : FuncId) : ev G σ (.func f) = .fn f [] [] := id rfl
@[simp] theorem ev_global (σ : Sg) (g : Nat) : ev G σ (.global g) = G g := id rfl
@[simp] theorem ev_int (σ : Sg) (k : IntKind) (n : Int) : ev G σ (.const (.int k n)) = .int k n := id rfl
@[simp] theorem ev_bool (σ : Sg) (b : Bool) : ev G σ (.const (.bool b)) = .bool b := id rfl
@[simp] theorem ev_str (σ : Sg) (s : ByteArray) : ev G σ (.const (.string s)) = .str s.data.toList := id rfl
@[simp] theorem ev_nilS (σ : Sg) : ev G σ (.const (.slice none 0 0)) = .nilS := id rfl
@[simp] theorem ev_nilP (σ : Sg) : ev G σ (.const (.pointer none)) = .nilP := id rfl
@[simp] theorem ev_nilM (σ : Sg) : ev G σ (.const (.map none)) = .nilM := id rfl
@[simp] theorem ev_nilF (σ : Sg) : ev G σ (.const .nilFunc) = .nilF := id rfl
@[simp] theorem ev_nilI (σ : Sg) : ev G σ (.const .nilIface) = .nilI := id rfl
@[simp] theorem ev_tuple (σ : Sg) : ev G σ (.const (.tuple #[])) = .tu [] := id rfl

variable (ρ : Operand → CV) (l : Hl)
@[simp ↓] theorem m_mv (x : Operand) : mstep P ρ l (.mv x) = some (ρ x, l) := id rfl
@[simp ↓] theorem m_pick (c a b : Operand) : mstep P ρ l (.pick c a b) = pu l (pickC (ρ c) (ρ a) (ρ b)) := id rfl
@[simp ↓] theorem m_alloc (z : List CV) : mstep P ρ l (.alloc z) = some (.ptr l.length 0 z.length, l ++ [.cells z.length z]) := id rfl
@[simp ↓] theorem m_box (x : Operand) : mstep P ρ l (.box x) = (ρ x).cells.map fun cs => (.ptr l.length 0 cs.length, l ++ [.cells cs.length cs]) := id rfl
@[simp ↓] theorem m_bld (zero : List CV) (ps : List (Nat × Nat × Operand)) : mstep P ρ l (.bld zero ps) = pu l ((bldC zero (ps.map fun p => (p.1, p.2.1, ρ p.2.2))).map .ag) := id rfl
@[simp ↓] theorem m_bsl (z : Nat) (zero : List CV) (len : Nat) (ps : List (Nat × Operand)) : mstep P ρ l (.bsl z zero len ps) = (fillC (fun i => some (i * z, z)) (repeatC zero len) (ps.map fun p => (p.1, ρ p.2))).map fun cs => (.sl z l.length 0 len len (len * z), l ++ [.cells (len * z) cs]) := id rfl
@[simp ↓] theorem m_ld1 (a : Operand) : mstep P ρ l (.ld1 a) = pu l ((reachL l (ρ a)).bind fun x => x.1[x.2]?) := id rfl
@[simp ↓] theorem m_ldA (n : Nat) (a : Operand) : mstep P ρ l (.ldA n a) = pu l ((reachL l (ρ a)).bind fun x => partA n x.1 x.2) := id rfl
@[simp ↓] theorem m_st (n : Nat) (a x : Operand) : mstep P ρ l (.st n a x) = (storeL n l (ρ a) (ρ x)).map fun l' => (undefC, l') := id rfl
@[simp ↓] theorem m_nilc (x : Operand) : mstep P ρ l (.nilc x) = pu l (nilcC (ρ x)) := id rfl
@[simp ↓] theorem m_bin (o : BinOp) (t : TypeId) (x y : Operand) : mstep P ρ l (.bin o t x y) = pu l (binC P o t (ρ x) (ρ y)) := id rfl
@[simp ↓] theorem m_un (o : UnOp) (x : Operand) : mstep P ρ l (.un o x) = pu l (unC o (ρ x)) := id rfl
@[simp ↓] theorem m_cint (k : IntKind) (x : Operand) : mstep P ρ l (.cint k x) = pu l (cintC k (ρ x)) := id rfl
@[simp ↓] theorem m_cstr (x : Operand) : mstep P ρ l (.cstr x) = pu l (cstrC (ρ x)) := id rfl
@[simp ↓] theorem m_cbs (x : Operand) : mstep P ρ l (.cbs x) = pu l (cbsC l (ρ x)) := id rfl
@[simp ↓] theorem m_csb (x : Operand) : mstep P ρ l (.csb x) = pu l (csbC (ρ x)) := id rfl
@[simp ↓] theorem m_mkI (t : TypeId) (x : Operand) : mstep P ρ l (.mkI t x) = some (.ifc t (ρ x), l) := id rfl
@[simp ↓] theorem m_mkF (f : FuncId) (a b : List Operand) : mstep P ρ l (.mkF f a b) = some (.fn f (a.map ρ) (b.map ρ), l) := id rfl
@[simp ↓] theorem m_mks (z by_ : Nat) (zero : List CV) (a c : Operand) : mstep P ρ l (.mks z by_ zero a c) = mksC z by_ zero l (ρ a) (ρ c) := id rfl
@[simp ↓] theorem m_slice (ti : TI) (x : Operand) (lo hi mx : Option Operand) : mstep P ρ l (.slice ti x lo hi mx) = pu l (sliceM ti (ρ x) (lo.map ρ) (hi.map ρ) (mx.map ρ)) := id rfl
@[simp ↓] theorem m_fa (off : Nat) (x : Operand) : mstep P ρ l (.fa off x) = pu l (cellAt (ρ x) off) := id rfl
@[simp ↓] theorem m_fld1 (off : Nat) (x : Operand) : mstep P ρ l (.fld1 off x) = pu l (fldC1 off (ρ x)) := id rfl
@[simp ↓] theorem m_fldA (n off : Nat) (x : Operand) : mstep P ρ l (.fldA n off x) = pu l (fldCA n off (ρ x)) := id rfl
@[simp ↓] theorem m_ia (ti : TI) (x i : Operand) : mstep P ρ l (.ia ti x i) = pu l (iaC ti (ρ x) (ρ i)) := id rfl
@[simp ↓] theorem m_ix1 (n z : Nat) (x i : Operand) : mstep P ρ l (.ix1 n z x i) = pu l (ixC1 n z (ρ x) (ρ i)) := id rfl
@[simp ↓] theorem m_ixA (n z : Nat) (x i : Operand) : mstep P ρ l (.ixA n z x i) = pu l (ixCA n z (ρ x) (ρ i)) := id rfl
@[simp ↓] theorem m_ixT (x i : Operand) : mstep P ρ l (.ixT x i) = pu l (ixCT (ρ x) (ρ i)) := id rfl
@[simp ↓] theorem m_ext (x : Operand) (i : Nat) : mstep P ρ l (.ext x i) = pu l (extC (ρ x) i) := id rfl
@[simp ↓] theorem m_len (ti : TI) (x : Operand) : mstep P ρ l (.len ti x) = pu l (lenM ti (ρ x)) := id rfl
@[simp ↓] theorem m_cap (ti : TI) (x : Operand) : mstep P ρ l (.cap ti x) = pu l (capM ti (ρ x)) := id rfl
@[simp ↓] theorem m_app (z by_ : Nat) (s x : Operand) : mstep P ρ l (.app z by_ s x) = appM l z by_ (ρ s) (ρ x) := id rfl
@[simp ↓] theorem m_appZ (z by_ : Nat) (zero : List CV) (s x : Operand) : mstep P ρ l (.appZ z by_ zero s x) = appZM l z by_ zero (ρ s) (ρ x) := id rfl
@[simp ↓] theorem m_cpy (z : Nat) (d x : Operand) : mstep P ρ l (.cpy z d x) = copyL z l (ρ d) (ρ x) := id rfl
@[simp ↓] theorem m_clr (zero : List CV) (x : Operand) : mstep P ρ l (.clr zero x) = (clearL zero l (ρ x)).map fun l' => (.tu [], l') := id rfl
@[simp ↓] theorem m_min (x y : Operand) : mstep P ρ l (.min x y) = pu l (min2C (ρ x) (ρ y)) := id rfl
@[simp ↓] theorem m_max (x y : Operand) : mstep P ρ l (.max x y) = pu l (max2C (ρ x) (ρ y)) := id rfl

/-! ### Values -/
@[simp] theorem pickC_b (t : Bool) (a b : CV) : pickC (.bool t) a b = some (if t = true then a else b) := id rfl
@[simp] theorem cells_ag (cs : List CV) : (CV.ag cs).cells = some cs := id rfl
@[simp] theorem cells_int (k : IntKind) (n : Int) : (CV.int k n).cells = some [.int k n] := id rfl
@[simp] theorem cells_bool (b : Bool) : (CV.bool b).cells = some [.bool b] := id rfl
@[simp] theorem cells_str (s : List UInt8) : (CV.str s).cells = some [.str s] := id rfl
@[simp] theorem cells_nilS : CV.nilS.cells = some [.nilS] := id rfl
@[simp] theorem cells_nilP : CV.nilP.cells = some [.nilP] := id rfl
@[simp] theorem cells_nilF : CV.nilF.cells = some [.nilF] := id rfl
@[simp] theorem cells_nilM : CV.nilM.cells = some [.nilM] := id rfl
@[simp] theorem cells_rsl (z : Nat) (es : List (List CV)) : (CV.rsl z es).cells = some [.rsl z es] := id rfl
@[simp] theorem cells_sl (z b o n c s : Nat) : (CV.sl z b o n c s).cells = some [.sl z b o n c s] := id rfl
@[simp] theorem cells_ptr (b o s : Nat) : (CV.ptr b o s).cells = some [.ptr b o s] := id rfl
@[simp] theorem cells_fn (f : FuncId) (a b : List CV) : (CV.fn f a b).cells = some [.fn f a b] := id rfl
@[simp] theorem cells_mp (b : Nat) : (CV.mp b).cells = some [.mp b] := id rfl
@[simp] theorem cellAt_ptr (b off sz k : Nat) : cellAt (.ptr b off sz) k = some (.ptr b (off + k) sz) := id rfl
@[simp] theorem cellAt_rptr (cs : List CV) (off k : Nat) : cellAt (.rptr cs off) k = some (.rptr cs (off + k)) := id rfl
@[simp] theorem nilcC_ptr (b o s : Nat) : nilcC (.ptr b o s) = some (.ptr b o s) := id rfl
@[simp] theorem nilcC_rptr (cs : List CV) (o : Nat) : nilcC (.rptr cs o) = some (.rptr cs o) := id rfl
@[simp] theorem nilcC_fn (f : FuncId) (a b : List CV) : nilcC (.fn f a b) = some (.fn f a b) := id rfl
def rch (x : Option CB) (off sz : Nat) : Option (List CV × Nat) := match x with
  | some (.cells n cs) => if n = sz then some (cs, off) else none
  | _ => none
@[simp] theorem reachL_ptr (b off sz : Nat) : reachL l (.ptr b off sz) = rch l[b]? off sz := by
  unfold reachL rch; rfl
@[simp] theorem rch_cells (n : Nat) (cs : List CV) (off sz : Nat) : rch (some (.cells n cs)) off sz = if n = sz then some (cs, off) else none := id rfl
@[simp] theorem reachL_rptr (cs : List CV) (off : Nat) : reachL l (.rptr cs off) = some (cs, off) := id rfl
def sto (n : Nat) (l : Hl) (b off sz : Nat) (vs : List CV) (x : Option CB) : Option Hl := match x with
  | some (.cells m cs) => if m = sz ∧ vs.length = n ∧ off + n ≤ m then some (l.set b (.cells m (splice cs off vs))) else none
  | _ => none
@[simp] theorem storeL_ptr (n b off sz : Nat) (v : CV) : storeL n l (.ptr b off sz) v = v.cells.bind fun vs => sto n l b off sz vs l[b]? := by
  unfold storeL sto
  cases v.cells <;> rfl
@[simp] theorem sto_cells (n b off sz : Nat) (vs : List CV) (m : Nat) (cs : List CV) : sto n l b off sz vs (some (.cells m cs)) = if m = sz ∧ vs.length = n ∧ off + n ≤ m then some (l.set b (.cells m (splice cs off vs))) else none := id rfl
@[simp] theorem partA_def (n : Nat) (cs : List CV) (off : Nat) : partA n cs off = if off + n ≤ cs.length then some (.ag ((cs.drop off).take n)) else none := id rfl
@[simp] theorem splice_s (a : CV) (cs vs : List CV) (off : Nat) : splice (a :: cs) (off + 1) vs = a :: splice cs off vs := by
  simp only [splice, List.take_succ_cons, List.cons_append, show off + 1 + vs.length = (off + vs.length) + 1 by omega, List.drop_succ_cons]
@[simp] theorem splice_c (a v : CV) (cs vs : List CV) : splice (a :: cs) 0 (v :: vs) = v :: splice cs 0 vs := by simp [splice]
@[simp] theorem splice_n (cs : List CV) : splice cs 0 [] = cs := by simp [splice]
@[simp] theorem splice_e (vs : List CV) : splice [] 0 vs = vs := by simp [splice]
@[simp] theorem bldC_nil (zero : List CV) : bldC zero [] = some zero := id rfl
theorem bldC_cons (zero : List CV) (off size : Nat) (v : CV) (r : List (Nat × Nat × CV)) : bldC zero ((off, size, v) :: r) = v.cells.bind fun vs => if vs.length = size ∧ off + size ≤ zero.length then bldC (splice zero off vs) r else none := by
  rw [bldC]; cases v.cells <;> rfl
attribute [simp] bldC_cons
@[simp] theorem fillC_nil (place : Nat → Option (Nat × Nat)) (zero : List CV) : fillC place zero [] = some zero := id rfl
@[simp] theorem fillC_cons (place : Nat → Option (Nat × Nat)) (zero : List CV) (i : Nat) (v : CV) (r : List (Nat × CV)) : fillC place zero ((i, v) :: r) = (place i).bind fun q => v.cells.bind fun vs => if vs.length = q.2 ∧ q.1 + q.2 ≤ zero.length then fillC place (splice zero q.1 vs) r else none := by
  rw [fillC]
  cases place i with
  | none => rfl
  | some q => cases v.cells <;> rfl
@[simp] theorem repeatC_0 (zero : List CV) : repeatC zero 0 = [] := id rfl
@[simp] theorem repeatC_s (zero : List CV) (n : Nat) : repeatC zero (n + 1) = zero ++ repeatC zero n := id rfl
@[simp] theorem bin_int (o : BinOp) (t : TypeId) (k : IntKind) (a : Int) (k' : IntKind) (b : Int) : binC P o t (.int k a) (.int k' b) = binInt o k a k' b := id rfl
@[simp] theorem bin_str (o : BinOp) (t : TypeId) (a b : List UInt8) : binC P o t (.str a) (.str b) = binStr o a b := id rfl
@[simp] theorem bin_lss (k : IntKind) (a b : Int) : binInt .lss k a k b = some (.bool (decide (a < b))) := by simp [binInt]
@[simp] theorem bin_leq (k : IntKind) (a b : Int) : binInt .leq k a k b = some (.bool (decide (a ≤ b))) := by simp [binInt]
@[simp] theorem bin_gtr (k : IntKind) (a b : Int) : binInt .gtr k a k b = some (.bool (decide (b < a))) := by simp [binInt]
@[simp] theorem bin_geq (k : IntKind) (a b : Int) : binInt .geq k a k b = some (.bool (decide (b ≤ a))) := by simp [binInt]
@[simp] theorem bin_eql (k : IntKind) (a b : Int) : binInt .eql k a k b = some (.bool (decide (a = b))) := by
  have : (a == b) = decide (a = b) := by by_cases h : a = b <;> simp [h]
  simp [binInt, this]
@[simp] theorem bin_neq (k : IntKind) (a b : Int) : binInt .neq k a k b = some (.bool (!decide (a = b))) := by
  have : (a != b) = !decide (a = b) := by by_cases h : a = b <;> simp [h]
  simp [binInt, this]
@[simp] theorem bin_add (k : IntKind) (a b : Int) : binInt .add k a k b = some (.int k (k.wrap (a + b))) := by simp [binInt]
@[simp] theorem bin_sub (k : IntKind) (a b : Int) : binInt .sub k a k b = some (.int k (k.wrap (a - b))) := by simp [binInt]
@[simp] theorem bin_mul (k : IntKind) (a b : Int) : binInt .mul k a k b = some (.int k (k.wrap (a * b))) := by simp [binInt]
@[simp] theorem un_not (b : Bool) : unC .not (.bool b) = some (.bool (!b)) := id rfl
@[simp] theorem un_neg (k : IntKind) (n : Int) : unC .neg (.int k n) = some (.int k (k.wrap (0 - n))) := id rfl
@[simp] theorem cintC_int (k k' : IntKind) (n : Int) : cintC k (.int k' n) = some (.int k (k.wrap n)) := id rfl
@[simp] theorem ia_rsl (z z' : Nat) (es : List (List CV)) (k : IntKind) (i : Int) : iaC (.sl z) (.rsl z' es) (.int k i) = if z = z' ∧ 0 ≤ i then (es[i.toNat]?).map fun cs => .rptr cs 0 else none := id rfl
@[simp] theorem ia_sl (z z' b off len cap sz : Nat) (k : IntKind) (i : Int) : iaC (.sl z) (.sl z' b off len cap sz) (.int k i) = if z = z' ∧ 0 ≤ i ∧ i < len then some (.ptr b (off + i.toNat * z) sz) else none := id rfl
@[simp] theorem ia_arr (n z : Nat) (x : CV) (k : IntKind) (i : Int) : iaC (.arr n z) x (.int k i) = if 0 ≤ i ∧ i < n then cellAt x (i.toNat * z) else none := id rfl
@[simp] theorem lenM_nil (z : Nat) : lenM (.sl z) .nilS = some (.int .i64 0) := id rfl
@[simp] theorem lenM_sl (z z' b o n c s : Nat) : lenM (.sl z) (.sl z' b o n c s) = some (.int .i64 n) := id rfl
@[simp] theorem lenM_rsl (z z' : Nat) (es : List (List CV)) : lenM (.sl z) (.rsl z' es) = some (.int .i64 es.length) := id rfl
@[simp] theorem lenM_str (s : List UInt8) : lenM .str (.str s) = some (.int .i64 s.length) := id rfl
@[simp] theorem lenM_arr (n z : Nat) (x : CV) : lenM (.arr n z) x = some (.int .i64 n) := id rfl
@[simp] theorem extC_tu (vs : List CV) (i : Nat) : extC (.tu vs) i = vs[i]? := id rfl
@[simp] theorem fldC1_ag (cs : List CV) (off : Nat) : fldC1 off (.ag cs) = cs[off]? := id rfl
@[simp] theorem fldCA_ag (n off : Nat) (cs : List CV) : fldCA n off (.ag cs) = partA n cs off := id rfl
end

end Go.CM

/-
  The canonical machine: what a call says by value.
-/
namespace Go.CM
open Go
set_option linter.unusedVariables false
set_option linter.unusedSimpArgs false

section
variable {P : Program} {G : Nat → CV}

/-- What a value reads as, by value alone. -/
inductive Rd (l : Hl) : CV → CV → Prop
  | same (c : CV) (h : c.closed = true) : Rd l c c
  | ag (cs cs' : List CV) (hl : cs'.length = cs.length) (h : ∀ (j : Nat) (c c' : CV), cs[j]? = some c → cs'[j]? = some c' → Rd l c c') : Rd l (.ag cs) (.ag cs')
  | tu (cs cs' : List CV) (hl : cs'.length = cs.length) (h : ∀ (j : Nat) (c c' : CV), cs[j]? = some c → cs'[j]? = some c' → Rd l c c') : Rd l (.tu cs) (.tu cs')
  | sl (z b off len cap sz : Nat) (cs : List CV) (es : List (List CV)) (hb : l[b]? = some (.cells sz cs)) (hl : es.length = len) (hz : ∀ e ∈ es, e.length = z)
      (hin : off + len * z ≤ cs.length)
      (h : ∀ (i j : Nat) (e : List CV) (c c' : CV), es[i]? = some e → e[j]? = some c' → cs[off + (i * z + j)]? = some c → Rd l c c') : Rd l (.sl z b off len cap sz) (.rsl z es)
  | sl0 (z b off cap sz : Nat) : Rd l (.sl z b off 0 cap sz) (.rsl z [])

theorem rd_vr {w : World} {R : Nat → Prop} {B : Nat} {l : Hl} {μ : Mu} (rel : Rel R B w (HL l) μ) : ∀ {c c' : CV}, Rd l c c' → ∀ {v : Value}, VR w R (HL l) μ c v → VR0 w R c' v := by
  intro c c' hr
  induction hr with
  | same c h =>
    intro v hv
    exact (VR0.up (closed_vr hv h) fun k _ hk => ⟨hk.1, fun ⟨b, m, h1, h2, h3⟩ => by cases h2⟩ : VR w R Hp.empty (fun _ => none) _ v)
  | ag cs cs' hl h ih =>
    intro v hv
    cases hv with
    | ag _ vs hl1 h1 hv =>
      refine .ag cs' vs (by omega) h1 (fun j c' v hj hjv => ?_)
      have hlt : j < cs.length := by rw [← hl]; exact (List.getElem?_eq_some_iff.1 hj).1
      exact ih j cs[j] c' (List.getElem?_eq_getElem hlt) hj (hv j cs[j] v (List.getElem?_eq_getElem hlt) hjv)
  | tu cs cs' hl h ih =>
    intro v hv
    cases hv with
    | tu _ vs hl1 hv =>
      refine .tu cs' vs (by omega) (fun j c' v hj hjv => ?_)
      have hlt : j < cs.length := by rw [← hl]; exact (List.getElem?_eq_some_iff.1 hj).1
      exact ih j cs[j] c' (List.getElem?_eq_getElem hlt) hj (hv j cs[j] v (List.getElem?_eq_getElem hlt) hjv)
  | sl0 z b off cap sz =>
    intro v hv
    cases hv with
    | sl _ _ _ _ _ _ cap' cs m hb hm hl ho hc => exact .rsl0 z _ cap'
    | slGone _ _ _ _ _ _ cap' a hl hc hg => exact .rsl0 z _ cap'
    | slEnd _ _ _ _ a cs m hb hm => exact .rsl0 z a 0
  | sl z b off len cap sz cs es hb hl hz hin h ih =>
    intro v hv
    have hbf : (HL l).f b = .cells sz cs := HL_cells.2 hb
    cases hv with
    | slEnd _ _ _ _ a cs2 m hb2 hm2 =>
      obtain rfl := List.length_eq_zero_iff.1 hl
      exact .rsl0 z a 0
    | slGone _ _ _ _ _ _ cap' a hl hc hg =>
      exfalso
      rcases hg with hg | ⟨n, cs2, hg, hlt⟩
      · rw [hbf] at hg; cases hg
      · rw [hbf] at hg; cases hg; omega
    | sl _ _ _ _ _ _ cap' cs2 m hb2 hm hl2 ho hc =>
      rw [hbf] at hb2; cases hb2
      have hblk := rel.blk b m hm
      rw [hbf] at hblk
      obtain ⟨hcs, hT, arr, t, fz, hw, ha, hf, hcell⟩ := hblk
      have hcap : len ≤ cap' := by rcases hc with ⟨_, h⟩ | ⟨_, h, _⟩ <;> omega
      have hB : R m.r := rel.up _ (rel.base b m (by rw [hbf]; rfl) hm)
      subst hl
      have hcd : ∀ i j, i < es.length → j < z → ∃ c v, cs[off + (i * z + j)]? = some c ∧ arr[m.s + (off + (i * z + j))]? = some v ∧ v.oneCell' = true ∧ VR w R (HL l) μ c v := by
        intro i j hi hj
        have hlt : off + (i * z + j) < cs.length := by
          have : i * z + z ≤ es.length * z := by rw [← Nat.succ_mul]; exact Nat.mul_le_mul_right _ hi
          omega
        obtain ⟨v, h1, h2, h3⟩ := hcell _ _ (List.getElem?_eq_getElem hlt)
        exact ⟨_, v, List.getElem?_eq_getElem hlt, h1, h2, h3⟩
      refine .rsl z es m.r (m.s + off) cap' (fun i j => (arr[m.s + (off + (i * z + j))]?).getD undef) hcap hz (fun i j hi hj => ?_) (fun i e he j c' hj => ?_)
      · obtain ⟨c, v, h1, h2, h3, h4⟩ := hcd i j hi hj
        refine ⟨?_, ?_, hB, fun ⟨b, m, h1, h2, h3⟩ => by cases h2⟩
        · simp only [World.cell?, hw, h2, Option.getD_some, Option.isSome_none]
          rw [show m.s + off + (i * z + j) = m.s + (off + (i * z + j)) by omega, h2]; rfl
        · rw [h2]; exact h3
      · have hi : i < es.length := (List.getElem?_eq_some_iff.1 he).1
        have hjz : j < z := by rw [← hz e (List.mem_of_getElem? he)]; exact (List.getElem?_eq_some_iff.1 hj).1
        obtain ⟨c, v, h1, h2, h3, h4⟩ := hcd i j hi hjz
        simp only [h2, Option.getD_some]
        exact ih i j e c c' he hj h1 h4

/-- A slice of one's own whose rows are told by value. -/
theorem rd_rows {l : Hl} {z b n cap sz : Nat} {es : List (List CV)} {rest : List CV} (hb : l[b]? = some (.cells sz (es.flatten ++ rest))) (hn : es.length = n) (hz : ∀ e ∈ es, e.length = z) (hc : closedLL es = true) : Rd l (.sl z b 0 n cap sz) (.rsl z es) := by
  have hflat : ∀ (es : List (List CV)), (∀ e ∈ es, e.length = z) → es.flatten.length = es.length * z := by
    intro es hz
    induction es with
    | nil => simp
    | cons e es ih => rw [List.flatten_cons, List.length_append, hz e (by simp), ih fun e he => hz e (by simp [he]), List.length_cons, Nat.succ_mul, Nat.add_comm]
  have hget : ∀ (es : List (List CV)), (∀ e ∈ es, e.length = z) → ∀ (i j : Nat) (e : List CV) (c : CV), es[i]? = some e → e[j]? = some c → es.flatten[i * z + j]? = some c := by
    intro es hz
    induction es with
    | nil => intro i j e c he; simp at he
    | cons x es ih =>
      intro i j e c he hj
      have hx : x.length = z := hz x (by simp)
      cases i with
      | zero =>
        simp only [List.getElem?_cons_zero, Option.some.injEq] at he
        subst he
        rw [List.flatten_cons, Nat.zero_mul, Nat.zero_add, List.getElem?_append_left (List.getElem?_eq_some_iff.1 hj).1]
        exact hj
      | succ i =>
        simp only [List.getElem?_cons_succ] at he
        rw [List.flatten_cons, List.getElem?_append_right (by rw [hx, Nat.succ_mul]; omega), hx, show (i + 1) * z + j - z = i * z + j by rw [Nat.succ_mul]; omega]
        exact ih (fun e he => hz e (by simp [he])) i j e c he hj
  refine .sl z b 0 n cap sz _ es hb hn hz (by rw [List.length_append, hflat es hz, hn]; omega) (fun i j e c c' he hj hcc => ?_)
  have h1 := hget es hz i j e c' he hj
  rw [Nat.zero_add, List.getElem?_append_left (List.getElem?_eq_some_iff.1 h1).1, h1] at hcc
  cases hcc
  have : ∀ (es : List (List CV)), closedLL es = true → ∀ (i : Nat) (e : List CV), es[i]? = some e → closedL e = true := by
    intro es
    induction es with
    | nil => intro _ i e he; simp at he
    | cons x es ih =>
      intro hc i e he
      simp only [closedLL, Bool.and_eq_true] at hc
      cases i with
      | zero => simp at he; subst he; exact hc.1
      | succ i => exact ih hc.2 i e (by simpa using he)
  exact .same _ (closedL_get (this es hc i e he) j _ hj)

/-- A call from nothing of one's own says what it computes by value. -/
theorem pure_of (hmix : P.follows .mixedOrders = true) (hG : ∀ g, (G g).closed = true) {f : FuncId} {args : List CV} {r : CV} (h : CallP P G f args [] (c := ⟨fun r0 l => Rd l r0 r⟩)) : PureC P G f args r := by
  obtain ⟨r0, l', h1, h2, h3⟩ := h
  intro w A vs hg hl hv
  refine (top_call (A := A) hmix hG h1 hg hl hv).mono ?_
  rintro e w' ⟨v, μ', rfl, hb, rel, hr⟩
  exact ⟨v, rfl, hb, rd_vr rel h3 hr⟩

theorem pure_call {f : FuncId} {args : List CV} {r : CV} {l : Hl} {K : CV → Hl → Prop} (hp : PureC P G f args r) (hc : closedL args = true) (h : K r l) : CallP P G f args l (c := ⟨K⟩) :=
  ⟨r, l, .pure hp hc, Nat.le_refl _, h⟩

/-- A law that holds whatever closed values come in. -/
theorem law_call (hmix : P.follows .mixedOrders = true) (hG : ∀ g, (G g).closed = true) {f : FuncId} {args : List CV} (h : CallP P G f args [] (c := ⟨fun r _ => r = .bool true⟩))
    {w : World} {A : Nat → Prop} {vs : Array Value} (hg : ∀ g, VR0 w A (G g) (.pointer (some ⟨g, 0, none⟩))) (hl : vs.size = args.length)
    (hv : ∀ (j : Nat) (c : CV) (v : Value), args[j]? = some c → vs[j]? = some v → VR0 w A c v) :
    Calls P f vs w fun e w' => e = .returned (.bool true) ∧ RowKit.Below w.heap.size w w' := by
  obtain ⟨r0, l', h1, h2, rfl⟩ := h
  exact top_true hmix hG h1 hg hl hv
end

end Go.CM

/-
  The canonical machine: what comes in, by its type.
-/
namespace Go.CM
open Go
set_option linter.unusedVariables false
set_option linter.unusedSimpArgs false

section
variable {P : Program}

/-- Cells of values of some types, one behind the other. -/
inductive Ty (P : Program) : List TypeId → List CV → Prop
  | nil : Ty P [] []
  | bool {t : TypeId} {b : Bool} {ts : List TypeId} {cs : List CV} (hu : P.underlying t = some .bool) (h : Ty P ts cs) : Ty P (t :: ts) (.bool b :: cs)
  | int {t : TypeId} {k : IntKind} {n : Int} {ts : List TypeId} {cs : List CV} (hu : P.underlying t = some (.int k)) (h1 : k.min ≤ n) (h2 : n ≤ k.max) (h : Ty P ts cs) : Ty P (t :: ts) (.int k n :: cs)
  | str {t : TypeId} {s : List UInt8} {ts : List TypeId} {cs : List CV} (hu : P.underlying t = some .string) (hs : s.length ≤ maxLen) (h : Ty P ts cs) : Ty P (t :: ts) (.str s :: cs)
  | nilS {t e : TypeId} {ts : List TypeId} {cs : List CV} (hu : P.underlying t = some (.slice e)) (h : Ty P ts cs) : Ty P (t :: ts) (.nilS :: cs)
  | sl {t e : TypeId} {es : List (List CV)} {ts : List TypeId} {cs : List CV} (hu : P.underlying t = some (.slice e)) (hl : es.length ≤ maxLen) (hz : ∀ r ∈ es, r.length = P.cellsOf e) (he : ∀ r ∈ es, Ty P [e] r) (h : Ty P ts cs) : Ty P (t :: ts) (.rsl (P.cellsOf e) es :: cs)
  | struct {t : TypeId} {fs : Array Field} {ts : List TypeId} {cs : List CV} (hu : P.underlying t = some (.struct fs)) (h : Ty P (fs.toList.map (·.type) ++ ts) cs) : Ty P (t :: ts) cs
  | array {t e : TypeId} {n : Nat} {ts : List TypeId} {cs : List CV} (hu : P.underlying t = some (.array n e)) (h : Ty P (List.replicate n e ++ ts) cs) : Ty P (t :: ts) cs

def consec (P : Program) : List Field → Nat → Option Nat
  | [], o => some o
  | f :: r, o => if f.offset = o then consec P r (o + P.cellsOf f.type) else none

def plainT (P : Program) : Nat → TypeId → Bool
  | 0, _ => false
  | d + 1, t => match P.underlying t with
    | some .bool | some (.int _) | some .string => true
    | some (.slice e) => decide (0 < P.cellsOf e) && plainT P d e
    | some (.struct fs) => decide (consec P fs.toList 0 = some (P.cellsOf t)) && fs.toList.all fun f => plainT P d f.type
    | some (.array n e) => decide (n * P.cellsOf e = P.cellsOf t) && plainT P d e
    | _ => false

/-- What is won of a reading. -/
structure Won (P : Program) (w : World) (A : Nat → Prop) (ts : List TypeId) (vs : List Value) (cs : List CV) : Prop where
  len : cs.length = vs.length
  ty : ∀ ts' cs', Ty P ts' cs' → Ty P (ts ++ ts') (cs ++ cs')
  vr : ∀ (j : Nat) (c : CV) (v : Value), cs[j]? = some c → vs[j]? = some v → VR0 w A c v ∧ v.oneCell' = true

theorem Won.nil {w : World} {A : Nat → Prop} : Won P w A [] [] [] := ⟨rfl, fun _ _ h => h, fun j c v h => by simp at h⟩
theorem Won.app {w : World} {A : Nat → Prop} {ts ts' : List TypeId} {vs vs' : List Value} {cs cs' : List CV} (a : Won P w A ts vs cs) (b : Won P w A ts' vs' cs') : Won P w A (ts ++ ts') (vs ++ vs') (cs ++ cs') := by
  refine ⟨by simp [a.len, b.len], fun ts'' cs'' h => by rw [List.append_assoc, List.append_assoc]; exact a.ty _ _ (b.ty _ _ h), fun j c v hc hv => ?_⟩
  by_cases h : j < cs.length
  · rw [List.getElem?_append_left h] at hc
    rw [List.getElem?_append_left (by rw [← a.len]; exact h)] at hv
    exact a.vr j c v hc hv
  · rw [List.getElem?_append_right (by omega)] at hc
    rw [List.getElem?_append_right (by rw [← a.len]; omega)] at hv
    rw [← a.len] at hv
    exact b.vr _ c v hc hv

theorem mapM_get' {α β : Type} {f : α → Option β} : ∀ {l : List α} {r : List β}, l.mapM f = some r → ∀ (p : Nat) (a : α), l[p]? = some a → ∃ x, r[p]? = some x ∧ f a = some x
  | [], r, h, p, a, ha => by simp at ha
  | a0 :: l, r, h, p, a, ha => by
    rw [List.mapM_cons] at h
    simp only [Option.bind_eq_bind, bind_some, Option.pure_def, Option.some.injEq] at h
    obtain ⟨b, h1, r', h2, rfl⟩ := h
    cases p with
    | zero => simp only [List.getElem?_cons_zero, Option.some.injEq] at ha; subst ha; exact ⟨b, rfl, h1⟩
    | succ p => obtain ⟨x, h3, h4⟩ := mapM_get' h2 p a (by simpa using ha); exact ⟨x, by simpa using h3, h4⟩

theorem one1 {w : World} {A : Nat → Prop} {c : CV} {v : Value} (h : VR0 w A c v) (h1 : v.oneCell' = true) : ∀ (j : Nat) (c' : CV) (v' : Value), [c][j]? = some c' → [v][j]? = some v' → VR0 w A c' v' ∧ v'.oneCell' = true := by
  intro j c' v' hc hv
  cases j with
  | zero => simp only [List.getElem?_cons_zero, Option.some.injEq] at hc hv; subst hc hv; exact ⟨h, h1⟩
  | succ j => simp at hc

theorem trod_bool {H : Type} {enc : TypeId × Value → H} {w : World} {base : Nat} {spare : Nat → Bool} {held : Bool} {fuel : Nat} {t : TypeId} {vs : List Value} {x : DataW H × List MemPlace}
    (hu : P.underlying t = some .bool) (h : DataW.trod enc P w base spare held (fuel + 1) t vs = some x) : ∃ b, vs = [.bool b] := by
  unfold DataW.trod at h
  rw [hu] at h
  split at h
  case h_1 b _ => exact ⟨b, rfl⟩
  all_goals first | (cases h; done) | (rename_i heq; cases heq; done) | (rename_i heq _; cases heq; done) | (rename_i heq _ _; cases heq; done) | (rename_i heq _ _ _; cases heq; done) | (simp_all; done)
theorem trod_int {H : Type} {enc : TypeId × Value → H} {w : World} {base : Nat} {spare : Nat → Bool} {held : Bool} {fuel : Nat} {t : TypeId} {k : IntKind} {vs : List Value} {x : DataW H × List MemPlace}
    (hu : P.underlying t = some (.int k)) (h : DataW.trod enc P w base spare held (fuel + 1) t vs = some x) : ∃ n, vs = [.int k n] ∧ k.min ≤ n ∧ n ≤ k.max := by
  unfold DataW.trod at h
  rw [hu] at h
  split at h <;> simp only [reduceCtorEq, Option.some.injEq, TypeDesc.int.injEq] at * <;> try (exfalso; simp_all; done)
  rename_i k0 k' n heq
  subst heq
  split at h
  · rename_i hc
    obtain ⟨rfl, hw⟩ := hc
    simp only [Lit.wf, Bool.and_eq_true, decide_eq_true_eq] at hw
    exact ⟨n, rfl, hw.1, hw.2⟩
  · cases h
theorem trod_str {H : Type} {enc : TypeId × Value → H} {w : World} {base : Nat} {spare : Nat → Bool} {held : Bool} {fuel : Nat} {t : TypeId} {vs : List Value} {x : DataW H × List MemPlace}
    (hu : P.underlying t = some .string) (h : DataW.trod enc P w base spare held (fuel + 1) t vs = some x) : ∃ s, vs = [.string s] ∧ s.size ≤ maxLen := by
  unfold DataW.trod at h
  rw [hu] at h
  split at h <;> simp only [reduceCtorEq, Option.some.injEq] at * <;> try (exfalso; simp_all; done)
  split at h
  · rename_i s _ hs; exact ⟨s, rfl, hs⟩
  · cases h
theorem trod_slice {H : Type} {enc : TypeId × Value → H} {w : World} {base : Nat} {spare : Nat → Bool} {held : Bool} {fuel : Nat} {t e : TypeId} {vs : List Value} {x : DataW H × List MemPlace}
    (hu : P.underlying t = some (.slice e)) (h : DataW.trod enc P w base spare held (fuel + 1) t vs = some x) :
    vs = [.slice none 0 0] ∨ ∃ a len cap, vs = [.slice (some a) len cap] ∧ len ≤ cap ∧ cap ≤ maxLen ∧ ∃ elems, (List.range len).mapM (fun i => (w.cells? base (a.add (i * P.cellsOf e)) (P.cellsOf e)).bind (DataW.trod enc P w base spare held fuel e)) = some elems := by
  unfold DataW.trod at h
  rw [hu] at h
  split at h <;> simp only [reduceCtorEq, Option.some.injEq, TypeDesc.slice.injEq] at * <;> try (exfalso; simp_all; done)
  · exact .inl trivial
  · rename_i e0 a len cap heq
    subst heq
    split at h
    · rename_i hc
      rw [bind_some] at h
      obtain ⟨elems, h1, _⟩ := h
      exact .inr ⟨a, len, cap, rfl, hc.2.1, hc.2.2, elems, h1⟩
    · cases h
theorem trod_struct {H : Type} {enc : TypeId × Value → H} {w : World} {base : Nat} {spare : Nat → Bool} {held : Bool} {fuel : Nat} {t : TypeId} {fs : Array Field} {vs : List Value} {x : DataW H × List MemPlace}
    (hu : P.underlying t = some (.struct fs)) (h : DataW.trod enc P w base spare held (fuel + 1) t vs = some x) :
    vs.length = P.cellsOf t ∧ ∃ xs, (fs.toList.mapM fun f => DataW.trod enc P w base spare held fuel f.type ((vs.drop f.offset).take (P.cellsOf f.type))) = some xs := by
  unfold DataW.trod at h
  rw [hu] at h
  split at h <;> simp only [reduceCtorEq, Option.some.injEq, TypeDesc.struct.injEq] at * <;> try (exfalso; simp_all; done)
  rename_i fs0 heq
  subst heq
  split at h
  · rename_i hc
    rw [map_some] at h
    obtain ⟨xs, h1, _⟩ := h
    exact ⟨hc, xs, h1⟩
  · cases h
theorem trod_array {H : Type} {enc : TypeId × Value → H} {w : World} {base : Nat} {spare : Nat → Bool} {held : Bool} {fuel : Nat} {t e : TypeId} {n : Nat} {vs : List Value} {x : DataW H × List MemPlace}
    (hu : P.underlying t = some (.array n e)) (h : DataW.trod enc P w base spare held (fuel + 1) t vs = some x) :
    vs.length = P.cellsOf t ∧ ∃ xs, ((List.range n).mapM fun i => DataW.trod enc P w base spare held fuel e ((vs.drop (i * P.cellsOf e)).take (P.cellsOf e))) = some xs := by
  unfold DataW.trod at h
  rw [hu] at h
  split at h <;> simp only [reduceCtorEq, Option.some.injEq, TypeDesc.array.injEq] at * <;> try (exfalso; simp_all; done)
  rename_i n0 e0 heq
  obtain ⟨rfl, rfl⟩ := heq
  split at h
  · rename_i hc
    rw [map_some] at h
    obtain ⟨xs, h1, _⟩ := h
    exact ⟨hc, xs, h1⟩
  · cases h

theorem add_add (a : Addr) (x j : Nat) : a.add (x + j) = (a.add x).add j := by
  unfold Addr.add
  by_cases hx : x = 0
  · subst hx; simp
  · by_cases hj : j = 0
    · subst hj; simp
    · rw [if_neg (by omega), if_neg hx, if_neg hj]
      simp only [Nat.add_assoc]
theorem add_plain (b o n : Nat) : (Addr.mk b o none).add n = ⟨b, o + n, none⟩ := by
  unfold Addr.add
  by_cases hn : n = 0
  · subst hn; simp
  · rw [if_neg hn]

theorem trod_won {H : Type} {enc : TypeId × Value → H} {w : World} {A : Nat → Prop} (hA : ∀ k, A k) {base : Nat} {spare : Nat → Bool} {held : Bool} : ∀ (fuel : Nat) (D : Nat) (t : TypeId) (vs : List Value) (d : DataW H) (ps : List MemPlace),
    plainT P D t = true → DataW.trod enc P w base spare held fuel t vs = some (d, ps) → ∃ cs, Won P w A [t] vs cs
  | 0, _, _, _, _, _, _, h => by simp [DataW.trod] at h
  | fuel + 1, 0, t, vs, d, ps, hp, h => by cases hp
  | fuel + 1, D + 1, t, vs, d, ps, hp, h => by
    have ih := fun t vs d ps hp h => trod_won hA (enc := enc) (w := w) (base := base) (spare := spare) (held := held) fuel D t vs d ps hp h
    unfold plainT at hp
    split at hp
    · rename_i hu
      obtain ⟨b, rfl⟩ := trod_bool hu h
      exact ⟨[.bool b], ⟨rfl, fun ts' cs' h => .bool hu h, one1 (.bool b) rfl⟩⟩
    · rename_i k hu
      obtain ⟨n, rfl, h1, h2⟩ := trod_int hu h
      exact ⟨[.int k n], ⟨rfl, fun ts' cs' h => .int hu h1 h2 h, one1 (.int k n) rfl⟩⟩
    · rename_i hu
      obtain ⟨s, rfl, h1⟩ := trod_str hu h
      exact ⟨[.str s.data.toList], ⟨rfl, fun ts' cs' h => .str hu (show s.data.toList.length ≤ maxLen from h1) h, one1 (.str s) rfl⟩⟩
    · rename_i e hu
      simp only [Bool.and_eq_true, decide_eq_true_eq] at hp
      rcases trod_slice hu h with rfl | ⟨a, len, cap, rfl, hlc, hcm, elems, he⟩
      · exact ⟨[.nilS], ⟨rfl, fun ts' cs' h => .nilS hu h, one1 .nilS rfl⟩⟩
      · have hrow : ∀ i, i < len → ∃ vals row, w.cells? base (a.add (i * P.cellsOf e)) (P.cellsOf e) = some vals ∧ Won P w A [e] vals row := fun i hi => by
          obtain ⟨x, _, hx⟩ := mapM_get' he i i (by rw [List.getElem?_range hi])
          rw [bind_some] at hx
          obtain ⟨vals, h1, h2⟩ := hx
          obtain ⟨row, h3⟩ := ih e vals x.1 x.2 hp.2 h2
          exact ⟨vals, row, h1, h3⟩
        have hch : ∃ (vals : Nat → List Value) (rows : Nat → List CV), ∀ i, i < len → w.cells? base (a.add (i * P.cellsOf e)) (P.cellsOf e) = some (vals i) ∧ Won P w A [e] (vals i) (rows i) := by
          refine ⟨fun i => if hi : i < len then (hrow i hi).choose else [], fun i => if hi : i < len then (hrow i hi).choose_spec.choose else [], fun i hi => ?_⟩
          simp only [dif_pos hi]
          exact (hrow i hi).choose_spec.choose_spec
        obtain ⟨vals, rows, hv⟩ := hch
        have hcells : ∀ i, i < len → (vals i).length = P.cellsOf e ∧ ∀ j, j < P.cellsOf e → ∃ v, (vals i)[j]? = some v ∧ w.cell? (a.add (i * P.cellsOf e + j)) = some v := fun i hi => by
          have h1 := (hv i hi).1
          unfold World.cells? at h1
          split at h1
          · refine ⟨by rw [mapM_len h1]; simp, fun j hj => ?_⟩
            obtain ⟨v, h2, h3⟩ := mapM_get' h1 j j (by rw [List.getElem?_range hj])
            refine ⟨v, h2, ?_⟩
            rw [← h3, add_add]
          · cases h1
        let es := (List.range len).map rows
        have hes : ∀ (i : Nat) (r : List CV), es[i]? = some r → i < len ∧ r = rows i := fun i r hr => by
          simp only [es, List.getElem?_map] at hr
          by_cases hi : i < len
          · rw [List.getElem?_range hi] at hr; simp only [Option.map_some, Option.some.injEq] at hr; exact ⟨hi, hr.symm⟩
          · rw [List.getElem?_eq_none (by simp; omega)] at hr; cases hr
        have hlen : es.length = len := by simp [es]
        have hz : ∀ r ∈ es, r.length = P.cellsOf e := fun r hr => by
          obtain ⟨i, hi⟩ := List.getElem?_of_mem hr
          obtain ⟨h1, rfl⟩ := hes i r hi
          rw [(hv i h1).2.len, (hcells i h1).1]
        have hty : ∀ r ∈ es, Ty P [e] r := fun r hr => by
          obtain ⟨i, hi⟩ := List.getElem?_of_mem hr
          obtain ⟨h1, rfl⟩ := hes i r hi
          have := (hv i h1).2.ty [] [] .nil
          simpa using this
        refine ⟨[.rsl (P.cellsOf e) es], ⟨rfl, fun ts' cs' h => .sl hu (by omega) hz hty h, one1 ?_ rfl⟩⟩
        by_cases h0 : len = 0
        · subst h0
          exact .rsl0 _ _ _
        · obtain ⟨v0, _, hv0⟩ := (hcells 0 (by omega)).2 0 hp.1
          have hspot : a.spot = none := by
            unfold World.cell? at hv0
            split at hv0
            · split at hv0
              · cases hv0
              · rename_i hs
                rw [show 0 * P.cellsOf e + 0 = 0 by omega] at hs
                simp only [Addr.add, if_true] at hs
                cases hsp : a.spot with
                | none => rfl
                | some x => rw [hsp] at hs; simp at hs
            · cases hv0
          obtain ⟨blk, off, spot⟩ := a
          simp only at hspot
          subst hspot
          have key := VR.rsl (w := w) (R := A) (h := Hp.empty) (μ := fun _ => none) (P.cellsOf e) es blk off cap (fun i j => ((vals i)[j]?).getD undef) (by omega) hz
            (fun i j hi hj => by
              rw [hlen] at hi
              obtain ⟨v, h1, h2⟩ := (hcells i hi).2 j hj
              obtain ⟨c, hc⟩ : ∃ c, (rows i)[j]? = some c := by
                have : j < (rows i).length := by rw [(hv i hi).2.len, (hcells i hi).1]; exact hj
                exact ⟨_, List.getElem?_eq_getElem this⟩
              refine ⟨?_, ?_, hA _, fun ⟨b, m, h1, h2, h3⟩ => by cases h2⟩
              · rw [h1, Option.getD_some, ← add_plain]; exact h2
              · rw [h1, Option.getD_some]; exact ((hv i hi).2.vr j c v hc h1).2)
            (fun i r hr j c hc => by
              obtain ⟨hi, rfl⟩ := hes i r hr
              have hj : j < P.cellsOf e := by rw [← (hcells i hi).1, ← (hv i hi).2.len]; exact (List.getElem?_eq_some_iff.1 hc).1
              obtain ⟨v, h1, h2⟩ := (hcells i hi).2 j hj
              rw [h1, Option.getD_some]
              exact ((hv i hi).2.vr j c v hc h1).1)
          rw [hlen] at key
          exact key
    · rename_i fs hu
      simp only [Bool.and_eq_true, decide_eq_true_eq, List.all_eq_true] at hp
      obtain ⟨hlen, xs, hx⟩ := trod_struct hu h
      have go : ∀ (fs : List Field) (o : Nat) (xs : List (DataW H × List MemPlace)), consec P fs o = some vs.length → o ≤ vs.length → (∀ f ∈ fs, plainT P D f.type = true) →
          (fs.mapM fun f => DataW.trod enc P w base spare held fuel f.type ((vs.drop f.offset).take (P.cellsOf f.type))) = some xs → ∃ cs, Won P w A (fs.map (·.type)) (vs.drop o) cs := by
        intro fs
        induction fs with
        | nil => intro o xs hc ho _ _; simp only [consec, Option.some.injEq] at hc; rw [hc, List.drop_length]; exact ⟨[], .nil⟩
        | cons f fs ihf =>
          intro o xs hc ho hpl hm
          simp only [consec] at hc
          split at hc
          · rename_i hfo
            rw [List.mapM_cons] at hm
            simp only [Option.bind_eq_bind, bind_some, Option.pure_def, Option.some.injEq] at hm
            obtain ⟨x, h1, xs', h2, _⟩ := hm
            have hmono : ∀ (fs : List Field) (o n : Nat), consec P fs o = some n → o ≤ n := by
              intro fs
              induction fs with
              | nil => intro o n h; simp only [consec, Option.some.injEq] at h; omega
              | cons g gs ihg =>
                intro o n h
                simp only [consec] at h
                split at h
                · have := ihg _ _ h; omega
                · cases h
            have hle := hmono _ _ _ hc
            obtain ⟨c1, w1⟩ := ih f.type _ x.1 x.2 (hpl f (by simp)) h1
            obtain ⟨c2, w2⟩ := ihf _ xs' hc hle (fun g hg => hpl g (by simp [hg])) h2
            refine ⟨c1 ++ c2, ?_⟩
            have := w1.app w2
            rw [hfo, show List.drop (o + P.cellsOf f.type) vs = List.drop (P.cellsOf f.type) (List.drop o vs) by rw [List.drop_drop], List.take_append_drop] at this
            exact this
          · cases hc
      obtain ⟨cs, hw⟩ := go fs.toList 0 xs (by rw [hlen]; exact hp.1) (Nat.zero_le _) hp.2 hx
      rw [List.drop_zero] at hw
      exact ⟨cs, ⟨hw.len, fun ts' cs' h => .struct hu (hw.ty _ _ h), hw.vr⟩⟩
    · rename_i n e hu
      simp only [Bool.and_eq_true, decide_eq_true_eq] at hp
      obtain ⟨hlen, xs, hx⟩ := trod_array hu h
      have hpart : ∀ i, i < n → ∃ c, Won P w A [e] ((vs.drop (i * P.cellsOf e)).take (P.cellsOf e)) c := fun i hi => by
        obtain ⟨x, _, h1⟩ := mapM_get' hx i i (by rw [List.getElem?_range hi])
        exact ih e _ x.1 x.2 hp.2 h1
      have go : ∀ m, m ≤ n → ∃ cs, Won P w A (List.replicate m e) (vs.drop ((n - m) * P.cellsOf e)) cs := by
        intro m
        induction m with
        | zero => intro _; rw [Nat.sub_zero, List.drop_eq_nil_of_le (by omega)]; exact ⟨[], .nil⟩
        | succ m ihm =>
          intro hm
          obtain ⟨c1, w1⟩ := hpart (n - (m + 1)) (by omega)
          obtain ⟨c2, w2⟩ := ihm (by omega)
          refine ⟨c1 ++ c2, ?_⟩
          have := w1.app w2
          have hidx : (n - m) * P.cellsOf e = (n - (m + 1)) * P.cellsOf e + P.cellsOf e := by rw [← Nat.succ_mul]; congr 1; omega
          rw [hidx, ← List.drop_drop, List.take_append_drop] at this
          exact this
      obtain ⟨cs, hw⟩ := go n (Nat.le_refl _)
      rw [Nat.sub_self, Nat.zero_mul, List.drop_zero] at hw
      exact ⟨cs, ⟨hw.len, fun ts' cs' h => .array hu (hw.ty _ _ h), hw.vr⟩⟩
    · cases hp

/-! ### Arguments -/
/-- A value that is handed over. -/
def TyV (P : Program) (t : TypeId) (c : CV) : Prop := match aggT P t with
  | some true => ∃ cs, c = .ag cs ∧ Ty P [t] cs
  | _ => Ty P [t] [c]

inductive TyA (P : Program) : List TypeId → List CV → Prop
  | nil : TyA P [] []
  | cons {t : TypeId} {c : CV} {ts : List TypeId} {cs : List CV} : TyV P t c → TyA P ts cs → TyA P (t :: ts) (c :: cs)

theorem args_won {H : Type} {enc : TypeId × Value → H} {w : World} {A : Nat → Prop} (hA : ∀ k, A k) {base b0 : Nat} {spare : Nat → Bool} {held : Bool} {D : Nat} : ∀ {ts : List TypeId} {vs : List Value} {ds : List (DataW H)} {ps : List MemPlace},
    (∀ t ∈ ts, plainT P D t = true) → (∀ (j : Nat) t v, ts[j]? = some t → vs[j]? = some v → Value.okWide P w .any b0 t v) → DataW.TrodAll enc P w base spare held ts vs ds ps →
    ∃ cs, TyA P ts cs ∧ cs.length = vs.length ∧ ∀ (j : Nat) (c : CV) (v : Value), cs[j]? = some c → vs[j]? = some v → VR0 w A c v
  | [], [], _, _, _, _, _ => ⟨[], .nil, rfl, fun j c v h => by simp at h⟩
  | [], _ :: _, ds, _, _, _, h => by cases ds <;> cases h
  | _ :: _, [], ds, _, _, _, h => by cases ds <;> cases h
  | _ :: _, _ :: _, [], _, _, _, h => by cases h
  | t :: ts, v :: vs, d :: ds, ps, hp, hok, h => by
    obtain ⟨p, q, ⟨fuel, ht⟩, hr, _⟩ := h
    obtain ⟨cs, h1, h2, h3⟩ := args_won hA (fun t ht => hp t (by simp [ht])) (fun j t v ht hv => hok (j + 1) t v (by simpa using ht) (by simpa using hv)) hr
    obtain ⟨c1, w1⟩ := trod_won hA fuel D t v.cells.toList d p (hp t (by simp)) ht
    have hty : Ty P [t] c1 := by simpa using w1.ty [] [] .nil
    have hv := hok 0 t v rfl rfl
    have fin : ∀ c, TyV P t c → VR0 w A c v → ∃ cs, TyA P (t :: ts) cs ∧ cs.length = (v :: vs).length ∧ ∀ (j : Nat) (c : CV) (v' : Value), cs[j]? = some c → (v :: vs)[j]? = some v' → VR0 w A c v' := fun c hc hcv =>
      ⟨c :: cs, .cons hc h1, by simp [h2], fun j c' v' hj hjv => by
        cases j with
        | zero => simp only [List.getElem?_cons_zero, Option.some.injEq] at hj hjv; subst hj hjv; exact hcv
        | succ j => exact h3 j c' v' (by simpa using hj) (by simpa using hjv)⟩
    unfold Value.okWide at hv
    have agg : aggT P t = (P.underlying t).map fun d => match d with | .struct _ | .array _ _ => true | _ => false := rfl
    cases hu : P.underlying t with
    | none =>
      exfalso
      have := hp t (by simp)
      cases D with
      | zero => cases this
      | succ D => unfold plainT at this; rw [hu] at this; cases this
    | some dsc =>
      rw [hu] at hv agg
      have isAg : (∃ cs, v = .agg cs) → aggT P t = some true → ∃ cs, TyA P (t :: ts) cs ∧ cs.length = (v :: vs).length ∧ ∀ (j : Nat) (c : CV) (v' : Value), cs[j]? = some c → (v :: vs)[j]? = some v' → VR0 w A c v' := by
        rintro ⟨xs, rfl⟩ hag
        refine fin (.ag c1) (by unfold TyV; rw [hag]; exact ⟨c1, rfl, hty⟩) (.ag c1 xs (by have := w1.len; simp only [Value.cells, Array.length_toList] at this; exact this.symm) (fun j x hx => ?_) (fun j c x hc hx => ?_))
        · have hlt : j < c1.length := by rw [w1.len]; simp only [Value.cells, Array.length_toList]; exact (Array.getElem?_eq_some_iff.1 hx).1
          exact (w1.vr j c1[j] x (List.getElem?_eq_getElem hlt) (by simpa [Value.cells] using hx)).2
        · exact (w1.vr j c x hc (by simpa [Value.cells] using hx)).1
      have isOne : (∀ xs, v ≠ .agg xs) → aggT P t = some false → ∃ cs, TyA P (t :: ts) cs ∧ cs.length = (v :: vs).length ∧ ∀ (j : Nat) (c : CV) (v' : Value), cs[j]? = some c → (v :: vs)[j]? = some v' → VR0 w A c v' := by
        intro hne hag
        have hcells : v.cells.toList = [v] := by cases v <;> first | rfl | exact absurd rfl (hne _)
        have hl := w1.len
        rw [hcells] at hl
        obtain ⟨c, rfl⟩ : ∃ c, c1 = [c] := List.length_eq_one_iff.1 hl
        refine fin c (by unfold TyV; rw [hag]; exact hty) (w1.vr 0 c v rfl (by rw [hcells]; rfl)).1
      have notAgg : Cell.okWide P w .any b0 t v → ∀ xs, v ≠ .agg xs := by
        rintro hc xs rfl
        unfold Cell.okWide at hc
        rw [hu] at hc
        cases dsc <;> simp [Cell.ok, hu] at hc
      cases dsc <;> simp only [Option.map_some] at agg <;> first
        | exact isAg (by obtain ⟨cs, h, _⟩ := hv; exact ⟨cs, h⟩) agg
        | exact isOne (notAgg hv) agg

end
end Go.CM

/-
  The canonical machine: slices by value, as data.
-/
namespace Go.CM
open Go
set_option linter.unusedVariables false
set_option linter.unusedSimpArgs false

/-- A slice by value: nil, or its elements. -/
abbrev Sv (α : Type) := Option (List α)
def Sv.l {α : Type} (s : Sv α) : List α := s.getD []
@[simp] theorem Sv.l_none {α : Type} : Sv.l (none : Sv α) = [] := rfl
@[simp] theorem Sv.l_some {α : Type} (l : List α) : Sv.l (some l) = l := rfl
def encS {α : Type} (z : Nat) (enc : α → List CV) : Sv α → CV
  | none => .nilS
  | some l => .rsl z (l.map enc)

section
variable {α : Type} {z : Nat} {enc : α → List CV}
@[simp] theorem len_encS (s : Sv α) : lenM (.sl z) (encS z enc s) = some (.int .i64 s.l.length) := by cases s <;> simp [encS, Sv.l]
@[simp] theorem ia_encS (s : Sv α) (k : IntKind) (i : Int) : iaC (.sl z) (encS z enc s) (.int k i) = if 0 ≤ i then (s.l[i.toNat]?).map fun x => .rptr (enc x) 0 else none := by
  cases s with
  | none => by_cases h : 0 ≤ i <;> simp [encS, Sv.l, iaC, h]
  | some l => by_cases h : 0 ≤ i <;> simp [encS, Sv.l, h, Function.comp_def]
@[simp] theorem cells_encS (s : Sv α) : (encS z enc s).cells = some [encS z enc s] := by cases s <;> rfl
theorem closed_encS (h : ∀ x, closedL (enc x) = true) (s : Sv α) : (encS z enc s).closed = true := by
  cases s with
  | none => rfl
  | some l =>
    simp only [encS, CV.closed]
    induction l with
    | nil => rfl
    | cons x l ih => simp only [List.map_cons, closedLL, h, ih, Bool.and_self]
end

theorem wrap_i64 {n : Int} (h1 : -9223372036854775808 ≤ n) (h2 : n < 9223372036854775808) : IntKind.i64.wrap n = n := by
  have e1 : (2 ^ IntKind.i64.bits : Int) = 18446744073709551616 := by decide
  have e2 : (2 ^ (IntKind.i64.bits - 1) : Int) = 9223372036854775808 := by decide
  have e3 : IntKind.i64.signed = true := rfl
  simp only [IntKind.wrap, e1, e2, e3, Bool.true_and, decide_eq_true_eq]
  split <;> omega

/-- Some element of a list by its number. -/
theorem get_of {α : Type} {l : List α} {k : Nat} (h : k < l.length) : ∃ x, l[k]? = some x ∧ x ∈ l := ⟨l[k], List.getElem?_eq_getElem h, List.getElem_mem h⟩

end Go.CM

/-
  The canonical machine: equality, and slices of one's own.
-/
namespace Go.CM
open Go
set_option linter.unusedVariables false
set_option linter.unusedSimpArgs false

section
variable {P : Program} {G : Nat → CV}

theorem bin_bool_eql {t : TypeId} (hu : P.underlying t = some .bool) (a b : Bool) : binC P .eql t (.bool a) (.bool b) = some (.bool (a == b)) := by
  simp [binC, eqOk, eqT, hu]
theorem bin_bool_neq {t : TypeId} (hu : P.underlying t = some .bool) (a b : Bool) : binC P .neq t (.bool a) (.bool b) = some (.bool (!(a == b))) := by
  simp [binC, eqOk, eqT, hu]
theorem bin_nil_eql {t e : TypeId} (hu : P.underlying t = some (.slice e)) {α : Type} (z : Nat) (enc : α → List CV) (s : Sv α) : binC P .eql t (encS z enc s) .nilS = some (.bool s.isNone) := by
  cases s <;> simp [encS, binC, eqOk, eqT, hu]
theorem bin_nil_neq {t e : TypeId} (hu : P.underlying t = some (.slice e)) {α : Type} (z : Nat) (enc : α → List CV) (s : Sv α) : binC P .neq t (encS z enc s) .nilS = some (.bool (!s.isNone)) := by
  cases s <;> simp [encS, binC, eqOk, eqT, hu]

theorem eqElems_ints {e : TypeId} {k : IntKind} (hu : P.underlying e = some (.int k)) (ha : aggT P e = some false) {D : Nat} (x y : List Int) : ∀ (n i : Nat), i + n = x.length → i + n = y.length →
    eqT.eqElems P (eqT P (D + 1)) e 1 (x.map (.int k)) (y.map (.int k)) n i = some (decide (x.drop i = y.drop i)) := by
  intro n
  induction n with
  | zero => intro i hx hy; rw [List.drop_eq_nil_of_le (by omega), List.drop_eq_nil_of_le (by omega)]; simp [eqT.eqElems]
  | succ n ih =>
    intro i hx hy
    have hxi : x[i]? = some x[i] := List.getElem?_eq_getElem (by omega)
    have hyi : y[i]? = some y[i] := List.getElem?_eq_getElem (by omega)
    unfold eqT.eqElems
    simp only [partC_1 ha, Nat.mul_one, List.getElem?_map, hxi, hyi, Option.map_some]
    have he : eqT P (D + 1) e (.int k x[i]) (.int k y[i]) = some (decide (x[i] = y[i])) := by
      unfold eqT
      rw [hu]
      simp only [if_true]
      by_cases h : x[i] = y[i] <;> simp [h]
    rw [he]
    have hdx : x.drop i = x[i] :: x.drop (i + 1) := List.drop_eq_getElem_cons (by omega)
    have hdy : y.drop i = y[i] :: y.drop (i + 1) := List.drop_eq_getElem_cons (by omega)
    by_cases h : x[i] = y[i]
    · simp only [h, decide_true]
      rw [ih (i + 1) (by omega) (by omega)]
      refine congrArg some (decide_eq_decide.2 ?_)
      rw [hdx, hdy, h]
      simp only [List.cons.injEq, true_and]
    · simp only [h, decide_false]
      refine congrArg some (decide_eq_false ?_).symm
      rw [hdx, hdy]
      simp only [List.cons.injEq, h, false_and, not_false_eq_true]

/-- Arrays of integers. -/
theorem eq_ints {t e : TypeId} {k : IntKind} {n : Nat} (ht : P.underlying t = some (.array n e)) (hu : P.underlying e = some (.int k)) (ha : aggT P e = some false) (hs : sizeT P e = some 1) {x y : List Int} (hx : x.length = n) (hy : y.length = n) {D : Nat} :
    eqT P (D + 2) t (.ag (x.map (.int k))) (.ag (y.map (.int k))) = some (decide (x = y)) := by
  unfold eqT
  rw [ht]
  simp only [hs]
  rw [eqElems_ints hu ha x y n 0 (by omega) (by omega)]
  simp
theorem bin_ints_eql {t e : TypeId} {k : IntKind} {n : Nat} (ht : P.underlying t = some (.array n e)) (hu : P.underlying e = some (.int k)) (ha : aggT P e = some false) (hs : sizeT P e = some 1) (hg : P.eqGuardType P.depth t = false)
    {x y : List Int} (hx : x.length = n) (hy : y.length = n) : binC P .eql t (.ag (x.map (.int k))) (.ag (y.map (.int k))) = some (.bool (decide (x = y))) := by
  simp only [binC, eqOk, hg, Bool.not_false, if_true, eq_ints ht hu ha hs hx hy (D := 9998)]; rfl
theorem bin_ints_neq {t e : TypeId} {k : IntKind} {n : Nat} (ht : P.underlying t = some (.array n e)) (hu : P.underlying e = some (.int k)) (ha : aggT P e = some false) (hs : sizeT P e = some 1) (hg : P.eqGuardType P.depth t = false)
    {x y : List Int} (hx : x.length = n) (hy : y.length = n) : binC P .neq t (.ag (x.map (.int k))) (.ag (y.map (.int k))) = some (.bool (!decide (x = y))) := by
  simp only [binC, eqOk, hg, Bool.not_false, if_true, eq_ints ht hu ha hs hx hy (D := 9998)]; rfl

/-! ### Rows -/
theorem flat_len {z : Nat} {es : List (List CV)} (hz : ∀ e ∈ es, e.length = z) : es.flatten.length = es.length * z := by
  induction es with
  | nil => simp
  | cons e es ih => rw [List.flatten_cons, List.length_append, hz e (by simp), ih fun e he => hz e (by simp [he]), List.length_cons, Nat.succ_mul, Nat.add_comm]
theorem flat_get {z : Nat} {es : List (List CV)} (hz : ∀ e ∈ es, e.length = z) {i j : Nat} {e : List CV} (he : es[i]? = some e) (hj : j < z) : es.flatten[i * z + j]? = e[j]? := by
  induction es generalizing i with
  | nil => simp at he
  | cons x es ih =>
    have hx : x.length = z := hz x (by simp)
    cases i with
    | zero =>
      simp only [List.getElem?_cons_zero, Option.some.injEq] at he
      subst he
      rw [List.flatten_cons, Nat.zero_mul, Nat.zero_add, List.getElem?_append_left (by omega)]
    | succ i =>
      simp only [List.getElem?_cons_succ] at he
      rw [List.flatten_cons, List.getElem?_append_right (by rw [hx, Nat.succ_mul]; omega), hx, show (i + 1) * z + j - z = i * z + j by rw [Nat.succ_mul]; omega]
      exact ih (fun e he => hz e (by simp [he])) he
theorem flat_drop {z : Nat} {es : List (List CV)} (hz : ∀ e ∈ es, e.length = z) (i : Nat) : es.flatten.drop (i * z) = (es.drop i).flatten := by
  induction es generalizing i with
  | nil => simp
  | cons x es ih =>
    have hx : x.length = z := hz x (by simp)
    cases i with
    | zero => simp
    | succ i =>
      rw [List.flatten_cons, show (i + 1) * z = x.length + i * z by rw [Nat.succ_mul, hx, Nat.add_comm], List.drop_length_add_append, List.drop_succ_cons]
      exact ih (fun e he => hz e (by simp [he])) i
theorem flat_take {z : Nat} {es : List (List CV)} (hz : ∀ e ∈ es, e.length = z) (i : Nat) : es.flatten.take (i * z) = (es.take i).flatten := by
  induction es generalizing i with
  | nil => simp
  | cons x es ih =>
    have hx : x.length = z := hz x (by simp)
    cases i with
    | zero => simp
    | succ i =>
      rw [List.flatten_cons, show (i + 1) * z = x.length + i * z by rw [Nat.succ_mul, hx, Nat.add_comm], List.take_length_add_append, List.take_succ_cons, List.flatten_cons, ih fun e he => hz e (by simp [he])]
/-- A row as it is read. -/
theorem flat_row {z : Nat} {es : List (List CV)} (hz : ∀ e ∈ es, e.length = z) {i : Nat} {e : List CV} (he : es[i]? = some e) : (es.flatten.drop (i * z)).take z = e := by
  rw [flat_drop hz]
  have hi : i < es.length := (List.getElem?_eq_some_iff.1 he).1
  have : es.drop i = e :: es.drop (i + 1) := by rw [List.drop_eq_getElem_cons hi]; congr 1; rw [List.getElem?_eq_getElem hi] at he; exact Option.some.inj he
  rw [this, List.flatten_cons, List.take_append_of_le_length (by rw [hz e (List.mem_of_getElem? he)]; exact Nat.le_refl _), List.take_of_length_le (by rw [hz e (List.mem_of_getElem? he)]; exact Nat.le_refl _)]
/-- A part of a row is written. -/
theorem flat_splice {z : Nat} {es : List (List CV)} (hz : ∀ e ∈ es, e.length = z) {i j : Nat} {e vs : List CV} (he : es[i]? = some e) (hj : j + vs.length ≤ z) : splice es.flatten (i * z + j) vs = (es.set i (splice e j vs)).flatten := by
  have hi : i < es.length := (List.getElem?_eq_some_iff.1 he).1
  have hle : e.length = z := hz e (List.mem_of_getElem? he)
  have hd : es.drop i = e :: es.drop (i + 1) := by rw [List.drop_eq_getElem_cons hi]; congr 1; rw [List.getElem?_eq_getElem hi] at he; exact Option.some.inj he
  have hset : (es.set i (splice e j vs)).flatten = (es.take i).flatten ++ (splice e j vs ++ (es.drop (i + 1)).flatten) := by
    rw [List.set_eq_take_append_cons_drop, if_pos hi, List.flatten_append, List.flatten_cons]
  have hsplit : es.flatten = (es.take i).flatten ++ (e ++ (es.drop (i + 1)).flatten) := by
    conv => lhs; rw [← List.take_append_drop i es]
    rw [hd, List.flatten_append, List.flatten_cons]
  have hlen : (es.take i).flatten.length = i * z := by
    rw [flat_len (z := z) fun e he => hz e (List.mem_of_mem_take he), List.length_take, Nat.min_eq_left (by omega)]
  rw [hset, hsplit]
  simp only [splice]
  rw [List.take_append, List.take_of_length_le (by omega), hlen, show i * z + j - i * z = j by omega, List.take_append_of_le_length (by omega),
    List.drop_append, List.drop_eq_nil_of_le (by omega), hlen, show i * z + j + vs.length - i * z = j + vs.length by omega, List.nil_append, List.drop_append_of_le_length (by omega)]
  simp only [List.append_assoc]

/-! ### What is known of a state, as the state's own form -/
theorem upd1 {σ : Sg} {i : Nat} {v : CV} (h : σ i = v) : fupd σ i v = σ := by
  funext t; simp only [fupd]; split <;> simp_all
theorem upds1 {σ : Sg} {i1 : Nat} {v1 : CV} (h1 : σ i1 = v1) : ∃ s : Sg, σ = fupd (s) i1 v1 := ⟨σ, by rw [upd1 h1]⟩
theorem upds2 {σ : Sg} {i1 : Nat} {v1 : CV} {i2 : Nat} {v2 : CV} (h1 : σ i1 = v1) (h2 : σ i2 = v2) : ∃ s : Sg, σ = fupd (fupd (s) i1 v1) i2 v2 := ⟨σ, by rw [upd1 h1, upd1 h2]⟩
theorem upds3 {σ : Sg} {i1 : Nat} {v1 : CV} {i2 : Nat} {v2 : CV} {i3 : Nat} {v3 : CV} (h1 : σ i1 = v1) (h2 : σ i2 = v2) (h3 : σ i3 = v3) : ∃ s : Sg, σ = fupd (fupd (fupd (s) i1 v1) i2 v2) i3 v3 := ⟨σ, by rw [upd1 h1, upd1 h2, upd1 h3]⟩
theorem upds4 {σ : Sg} {i1 : Nat} {v1 : CV} {i2 : Nat} {v2 : CV} {i3 : Nat} {v3 : CV} {i4 : Nat} {v4 : CV} (h1 : σ i1 = v1) (h2 : σ i2 = v2) (h3 : σ i3 = v3) (h4 : σ i4 = v4) : ∃ s : Sg, σ = fupd (fupd (fupd (fupd (s) i1 v1) i2 v2) i3 v3) i4 v4 := ⟨σ, by rw [upd1 h1, upd1 h2, upd1 h3, upd1 h4]⟩
theorem upds5 {σ : Sg} {i1 : Nat} {v1 : CV} {i2 : Nat} {v2 : CV} {i3 : Nat} {v3 : CV} {i4 : Nat} {v4 : CV} {i5 : Nat} {v5 : CV} (h1 : σ i1 = v1) (h2 : σ i2 = v2) (h3 : σ i3 = v3) (h4 : σ i4 = v4) (h5 : σ i5 = v5) : ∃ s : Sg, σ = fupd (fupd (fupd (fupd (fupd (s) i1 v1) i2 v2) i3 v3) i4 v4) i5 v5 := ⟨σ, by rw [upd1 h1, upd1 h2, upd1 h3, upd1 h4, upd1 h5]⟩
theorem upds6 {σ : Sg} {i1 : Nat} {v1 : CV} {i2 : Nat} {v2 : CV} {i3 : Nat} {v3 : CV} {i4 : Nat} {v4 : CV} {i5 : Nat} {v5 : CV} {i6 : Nat} {v6 : CV} (h1 : σ i1 = v1) (h2 : σ i2 = v2) (h3 : σ i3 = v3) (h4 : σ i4 = v4) (h5 : σ i5 = v5) (h6 : σ i6 = v6) : ∃ s : Sg, σ = fupd (fupd (fupd (fupd (fupd (fupd (s) i1 v1) i2 v2) i3 v3) i4 v4) i5 v5) i6 v6 := ⟨σ, by rw [upd1 h1, upd1 h2, upd1 h3, upd1 h4, upd1 h5, upd1 h6]⟩
theorem upds7 {σ : Sg} {i1 : Nat} {v1 : CV} {i2 : Nat} {v2 : CV} {i3 : Nat} {v3 : CV} {i4 : Nat} {v4 : CV} {i5 : Nat} {v5 : CV} {i6 : Nat} {v6 : CV} {i7 : Nat} {v7 : CV} (h1 : σ i1 = v1) (h2 : σ i2 = v2) (h3 : σ i3 = v3) (h4 : σ i4 = v4) (h5 : σ i5 = v5) (h6 : σ i6 = v6) (h7 : σ i7 = v7) : ∃ s : Sg, σ = fupd (fupd (fupd (fupd (fupd (fupd (fupd (s) i1 v1) i2 v2) i3 v3) i4 v4) i5 v5) i6 v6) i7 v7 := ⟨σ, by rw [upd1 h1, upd1 h2, upd1 h3, upd1 h4, upd1 h5, upd1 h6, upd1 h7]⟩
theorem upds8 {σ : Sg} {i1 : Nat} {v1 : CV} {i2 : Nat} {v2 : CV} {i3 : Nat} {v3 : CV} {i4 : Nat} {v4 : CV} {i5 : Nat} {v5 : CV} {i6 : Nat} {v6 : CV} {i7 : Nat} {v7 : CV} {i8 : Nat} {v8 : CV} (h1 : σ i1 = v1) (h2 : σ i2 = v2) (h3 : σ i3 = v3) (h4 : σ i4 = v4) (h5 : σ i5 = v5) (h6 : σ i6 = v6) (h7 : σ i7 = v7) (h8 : σ i8 = v8) : ∃ s : Sg, σ = fupd (fupd (fupd (fupd (fupd (fupd (fupd (fupd (s) i1 v1) i2 v2) i3 v3) i4 v4) i5 v5) i6 v6) i7 v7) i8 v8 := ⟨σ, by rw [upd1 h1, upd1 h2, upd1 h3, upd1 h4, upd1 h5, upd1 h6, upd1 h7, upd1 h8]⟩
theorem upds9 {σ : Sg} {i1 : Nat} {v1 : CV} {i2 : Nat} {v2 : CV} {i3 : Nat} {v3 : CV} {i4 : Nat} {v4 : CV} {i5 : Nat} {v5 : CV} {i6 : Nat} {v6 : CV} {i7 : Nat} {v7 : CV} {i8 : Nat} {v8 : CV} {i9 : Nat} {v9 : CV} (h1 : σ i1 = v1) (h2 : σ i2 = v2) (h3 : σ i3 = v3) (h4 : σ i4 = v4) (h5 : σ i5 = v5) (h6 : σ i6 = v6) (h7 : σ i7 = v7) (h8 : σ i8 = v8) (h9 : σ i9 = v9) : ∃ s : Sg, σ = fupd (fupd (fupd (fupd (fupd (fupd (fupd (fupd (fupd (s) i1 v1) i2 v2) i3 v3) i4 v4) i5 v5) i6 v6) i7 v7) i8 v8) i9 v9 := ⟨σ, by rw [upd1 h1, upd1 h2, upd1 h3, upd1 h4, upd1 h5, upd1 h6, upd1 h7, upd1 h8, upd1 h9]⟩
theorem upds10 {σ : Sg} {i1 : Nat} {v1 : CV} {i2 : Nat} {v2 : CV} {i3 : Nat} {v3 : CV} {i4 : Nat} {v4 : CV} {i5 : Nat} {v5 : CV} {i6 : Nat} {v6 : CV} {i7 : Nat} {v7 : CV} {i8 : Nat} {v8 : CV} {i9 : Nat} {v9 : CV} {i10 : Nat} {v10 : CV} (h1 : σ i1 = v1) (h2 : σ i2 = v2) (h3 : σ i3 = v3) (h4 : σ i4 = v4) (h5 : σ i5 = v5) (h6 : σ i6 = v6) (h7 : σ i7 = v7) (h8 : σ i8 = v8) (h9 : σ i9 = v9) (h10 : σ i10 = v10) : ∃ s : Sg, σ = fupd (fupd (fupd (fupd (fupd (fupd (fupd (fupd (fupd (fupd (s) i1 v1) i2 v2) i3 v3) i4 v4) i5 v5) i6 v6) i7 v7) i8 v8) i9 v9) i10 v10 := ⟨σ, by rw [upd1 h1, upd1 h2, upd1 h3, upd1 h4, upd1 h5, upd1 h6, upd1 h7, upd1 h8, upd1 h9, upd1 h10]⟩
theorem upds11 {σ : Sg} {i1 : Nat} {v1 : CV} {i2 : Nat} {v2 : CV} {i3 : Nat} {v3 : CV} {i4 : Nat} {v4 : CV} {i5 : Nat} {v5 : CV} {i6 : Nat} {v6 : CV} {i7 : Nat} {v7 : CV} {i8 : Nat} {v8 : CV} {i9 : Nat} {v9 : CV} {i10 : Nat} {v10 : CV} {i11 : Nat} {v11 : CV} (h1 : σ i1 = v1) (h2 : σ i2 = v2) (h3 : σ i3 = v3) (h4 : σ i4 = v4) (h5 : σ i5 = v5) (h6 : σ i6 = v6) (h7 : σ i7 = v7) (h8 : σ i8 = v8) (h9 : σ i9 = v9) (h10 : σ i10 = v10) (h11 : σ i11 = v11) : ∃ s : Sg, σ = fupd (fupd (fupd (fupd (fupd (fupd (fupd (fupd (fupd (fupd (fupd (s) i1 v1) i2 v2) i3 v3) i4 v4) i5 v5) i6 v6) i7 v7) i8 v8) i9 v9) i10 v10) i11 v11 := ⟨σ, by rw [upd1 h1, upd1 h2, upd1 h3, upd1 h4, upd1 h5, upd1 h6, upd1 h7, upd1 h8, upd1 h9, upd1 h10, upd1 h11]⟩
theorem upds12 {σ : Sg} {i1 : Nat} {v1 : CV} {i2 : Nat} {v2 : CV} {i3 : Nat} {v3 : CV} {i4 : Nat} {v4 : CV} {i5 : Nat} {v5 : CV} {i6 : Nat} {v6 : CV} {i7 : Nat} {v7 : CV} {i8 : Nat} {v8 : CV} {i9 : Nat} {v9 : CV} {i10 : Nat} {v10 : CV} {i11 : Nat} {v11 : CV} {i12 : Nat} {v12 : CV} (h1 : σ i1 = v1) (h2 : σ i2 = v2) (h3 : σ i3 = v3) (h4 : σ i4 = v4) (h5 : σ i5 = v5) (h6 : σ i6 = v6) (h7 : σ i7 = v7) (h8 : σ i8 = v8) (h9 : σ i9 = v9) (h10 : σ i10 = v10) (h11 : σ i11 = v11) (h12 : σ i12 = v12) : ∃ s : Sg, σ = fupd (fupd (fupd (fupd (fupd (fupd (fupd (fupd (fupd (fupd (fupd (fupd (s) i1 v1) i2 v2) i3 v3) i4 v4) i5 v5) i6 v6) i7 v7) i8 v8) i9 v9) i10 v10) i11 v11) i12 v12 := ⟨σ, by rw [upd1 h1, upd1 h2, upd1 h3, upd1 h4, upd1 h5, upd1 h6, upd1 h7, upd1 h8, upd1 h9, upd1 h10, upd1 h11, upd1 h12]⟩

/-! ### Slices of one's own -/
section
variable {α : Type}
@[simp] theorem contents_encS (l : Hl) (z : Nat) (enc : α → List CV) (s : Sv α) : contentsL l z (encS z enc s) = some ((s.l.map enc).flatten, s.l.length) := by
  cases s <;> simp [encS, contentsL]
end
theorem contents_own {l : Hl} {z b n : Nat} {es : List (List CV)} (hb : l[b]? = some (.cells (n * z) es.flatten)) (hn : es.length = n) (hz : ∀ e ∈ es, e.length = z) (cap sz : Nat) (hsz : sz = n * z) : contentsL l z (.sl z b 0 n cap sz) = some (es.flatten, n) := by
  subst hsz
  simp only [contentsL, hb, and_self, if_true, List.drop_zero]
  rw [List.take_of_length_le (by rw [flat_len hz, hn]; exact Nat.le_refl _)]

theorem set_self {l : Hl} {b : Nat} {c : CB} (h : l[b]? = some c) : l.set b c = l := by
  apply List.ext_getElem?
  intro j
  rw [List.getElem?_set]
  by_cases hj : b = j
  · subst hj; rw [if_pos rfl, if_pos (get_lt h)]; exact h.symm
  · rw [if_neg hj]

/-- Something is put behind a slice of one's own that fills its block. -/
theorem app_tight {l : Hl} {z by_ b : Nat} {es xs : List (List CV)} {x : CV} (hb : l[b]? = some (.cells (es.length * z) es.flatten)) (hx : contentsL l z x = some (xs.flatten, xs.length)) (hz : ∀ e ∈ es, e.length = z) (h0 : z ≠ 0) (hby : by_ ≠ 0)
    (hroom : (es.length + xs.length) * by_ ≤ roomMax) :
    appM l z by_ (.sl z b 0 es.length es.length (es.length * z)) x = some (.sl z b 0 (es ++ xs).length (es ++ xs).length ((es ++ xs).length * z), l.set b (.cells ((es ++ xs).length * z) (es ++ xs).flatten)) := by
  unfold appM
  rw [hx]
  show appendL l z by_ _ xs.flatten xs.length = _
  unfold appendL
  cases xs with
  | nil => simp [set_self hb]
  | cons y ys =>
    rw [if_neg (by simp), if_neg (by omega)]
    simp only [hb]
    rw [if_pos ⟨trivial, trivial, hroom⟩, if_neg (by simp), if_neg (by omega), if_pos trivial, List.take_of_length_le (by rw [flat_len hz]; exact Nat.le_refl _)]
    simp only [List.length_append, List.flatten_append]
/-- The same, with its numbers told. -/
theorem app_own {l : Hl} {z by_ b n m sz : Nat} {es xs : List (List CV)} {x : CV} (hb : l[b]? = some (.cells sz es.flatten)) (hx : contentsL l z x = some (xs.flatten, m)) (hn : es.length = n) (hm : xs.length = m) (hs : sz = n * z) (hz : ∀ e ∈ es, e.length = z) (h0 : z ≠ 0) (hby : by_ ≠ 0)
    (hroom : (n + m) * by_ ≤ roomMax) :
    appM l z by_ (.sl z b 0 n n sz) x = some (.sl z b 0 (n + m) (n + m) ((n + m) * z), l.set b (.cells ((n + m) * z) (es ++ xs).flatten)) := by
  subst hn hm hs
  rw [app_tight hb hx hz h0 hby hroom]
  simp only [List.length_append]
theorem app_fresh {l : Hl} {z by_ b m : Nat} {xs : List (List CV)} {x : CV} (hb : l[b]? = some (.cells 0 [])) (hx : contentsL l z x = some (xs.flatten, m)) (hm : xs.length = m) (h0 : z ≠ 0) (hby : by_ ≠ 0) (hroom : m * by_ ≤ roomMax) :
    appM l z by_ (.sl z b 0 0 0 0) x = some (.sl z b 0 m m (m * z), l.set b (.cells (m * z) xs.flatten)) := by
  have := app_own (es := []) (n := 0) (by simpa using hb) hx rfl hm (by simp) (by simp) h0 hby (by simpa using hroom)
  simpa using this
theorem app_nil {l : Hl} {z by_ : Nat} {xs : List (List CV)} {x : CV} (hx : contentsL l z x = some (xs.flatten, xs.length)) (h0 : z ≠ 0) (hby : by_ ≠ 0) (hne : xs ≠ []) (hroom : xs.length * by_ ≤ roomMax) :
    appM l z by_ .nilS x = some (.sl z l.length 0 xs.length xs.length (xs.length * z), l ++ [.cells (xs.length * z) xs.flatten]) := by
  unfold appM
  rw [hx]
  show appendL l z by_ _ xs.flatten xs.length = _
  unfold appendL
  rw [if_neg (by simp [hne]), if_neg (by omega)]
  simp only
  rw [if_pos hroom]
theorem app_nil0 {l : Hl} {z by_ : Nat} {x : CV} (hx : contentsL l z x = some ([], 0)) : appM l z by_ .nilS x = some (.nilS, l) := by
  unfold appM; rw [hx]
  show appendL l z by_ _ [] 0 = _
  unfold appendL; simp
/-- What was put together is from now on only read. -/
theorem AppK.frz {z b n sz : Nat} {es : List (List CV)} {l : Hl} {K : CV → Hl → Prop} (cap : Nat) (hb : l[b]? = some (.cells sz es.flatten)) (hn : es.length = n) (hz : ∀ e ∈ es, e.length = z) (h : K (.rsl z es) (l.set b .dead)) : AppK (.sl z b 0 n cap sz) l (c := ⟨K⟩) := by
  have hlt := get_lt hb
  have hd : (HL (l.set b .dead)).f b = .dead := by rw [HL_f, List.getElem?_set, if_pos rfl, if_pos hlt]
  refine .inr ⟨_, _, ⟨by simp, fun b' => ?_⟩, .sl z b 0 n cap sz es.flatten es (HL_cells.2 hb) hd hn hz (by rw [flat_len hz, hn]; omega) (fun i j e c c' he hj hc => ?_), h⟩
  · by_cases hbb : b' = b
    · subst hbb; exact .inr ⟨sz, es.flatten, HL_cells.2 hb, .inl hd⟩
    · left
      rw [HL_f, HL_f, List.getElem?_set, if_neg (by omega)]
  · rw [Nat.zero_add, flat_get hz he (by rw [← hz e (List.mem_of_getElem? he)]; exact (List.getElem?_eq_some_iff.1 hj).1), hj] at hc
    cases hc
    exact .same _
theorem AppK.frz0 {z b cap sz : Nat} {l : Hl} {K : CV → Hl → Prop} (h : K (.rsl z []) l) : AppK (.sl z b 0 0 cap sz) l (c := ⟨K⟩) :=
  .inr ⟨_, _, ⟨rfl, fun _ => .inl rfl⟩, .sl0 z b 0 cap sz, h⟩
theorem splice_full {cs vs : List CV} (h : vs.length = cs.length) : splice cs 0 vs = vs := by
  simp only [splice, List.take_zero, List.nil_append, Nat.zero_add]
  rw [List.drop_eq_nil_of_le (by omega), List.append_nil]
theorem partA_full {n : Nat} {cs : List CV} (h : cs.length = n) : partA n cs 0 = some (.ag cs) := by
  simp [partA, h, List.take_of_length_le]
theorem bounds_lo (len cap : Nat) (k : IntKind) (i : Int) : boundsC len cap (some (.int k i)) none none = if 0 ≤ i ∧ i ≤ len then some (i.toNat, len, cap) else none := by
  unfold boundsC boundC
  by_cases h : 0 ≤ i ∧ i ≤ len
  · simp only [if_pos h]
  · simp only [if_neg h]
theorem bounds_hi (len cap : Nat) (k : IntKind) (i : Int) : boundsC len cap none (some (.int k i)) none = if 0 ≤ i ∧ i ≤ cap then some (0, i.toNat, cap) else none := by
  unfold boundsC boundC
  by_cases h : 0 ≤ i ∧ i ≤ cap
  · simp only [if_pos h]
  · simp only [if_neg h]
theorem bounds_both (len cap : Nat) (k k' : IntKind) (i j : Int) : boundsC len cap (some (.int k i)) (some (.int k' j)) none = if 0 ≤ i ∧ i ≤ j ∧ j ≤ cap then some (i.toNat, j.toNat, cap) else none := by
  unfold boundsC boundC
  by_cases h : 0 ≤ j ∧ j ≤ cap
  · simp only [if_pos h]
    by_cases h2 : 0 ≤ i ∧ i ≤ ((j.toNat : Nat) : Int)
    · simp only [if_pos h2]; rw [if_pos (by omega)]
    · simp only [if_neg h2]; rw [if_neg (by omega)]
  · simp only [if_neg h]; rw [if_neg (by omega)]
theorem bounds_none (len cap : Nat) : boundsC len cap none none none = some (0, len, cap) := rfl
theorem slice_from {α : Type} {z : Nat} {enc : α → List CV} {l : List α} {k : IntKind} {i : Int} (h1 : 0 ≤ i) (h2 : i ≤ l.length) : sliceM (.sl z) (encS z enc (some l)) (some (.int k i)) none none = some (encS z enc (some (l.drop i.toNat))) := by
  have h3 : i.toNat ≤ l.length := by omega
  simp only [sliceM, encS, if_true, bounds_lo, List.length_map]
  rw [if_pos ⟨h1, h2⟩]
  simp only [Option.map_some, Option.some.injEq, CV.rsl.injEq, true_and]
  rw [List.take_of_length_le (by simp), List.map_drop]
theorem slice_to {α : Type} {z : Nat} {enc : α → List CV} {l : List α} {k : IntKind} {i : Int} (h1 : 0 ≤ i) (h2 : i ≤ l.length) : sliceM (.sl z) (encS z enc (some l)) none (some (.int k i)) none = some (encS z enc (some (l.take i.toNat))) := by
  simp only [sliceM, encS, if_true, bounds_hi, List.length_map]
  rw [if_pos ⟨h1, h2⟩]
  simp only [Option.map_some, Option.some.injEq, CV.rsl.injEq, true_and, List.drop_zero, Nat.sub_zero]
  rw [List.map_take]
theorem slice_mid {α : Type} {z : Nat} {enc : α → List CV} {l : List α} {k k' : IntKind} {i j : Int} (h0 : 0 ≤ i) (h1 : i ≤ j) (h2 : j ≤ l.length) : sliceM (.sl z) (encS z enc (some l)) (some (.int k i)) (some (.int k' j)) none = some (encS z enc (some ((l.drop i.toNat).take (j.toNat - i.toNat)))) := by
  simp only [sliceM, encS, if_true, bounds_both, List.length_map]
  rw [if_pos ⟨h0, h1, h2⟩]
  simp only [Option.map_some, Option.some.injEq, CV.rsl.injEq, true_and]
  rw [List.map_take, List.map_drop]
theorem map_set {α : Type} (l : List α) (k : Nat) (x : α) (enc : α → List CV) : (l.map enc).set k (enc x) = (l.set k x).map enc := by rw [List.map_set]
theorem split_at {α : Type} {l : List α} {j : Nat} {x : α} (h : l[j]? = some x) : ∃ pre post, l = pre ++ x :: post ∧ pre.length = j := by
  have hj := (List.getElem?_eq_some_iff.1 h).1
  refine ⟨l.take j, l.drop (j + 1), ?_, by rw [List.length_take]; omega⟩
  have : l.drop j = x :: l.drop (j + 1) := by rw [List.drop_eq_getElem_cons hj, (List.getElem?_eq_some_iff.1 h).2]
  rw [← this, List.take_append_drop]
end

end Go.CM

/-
  The canonical machine: what comes in, taken apart by its types.
-/
namespace Go.CM
open Go
set_option linter.unusedVariables false
set_option linter.unusedSimpArgs false

section
variable {P : Program}

def structTs (P : Program) (t : TypeId) : Option (List TypeId) := match P.underlying t with
  | some (.struct fs) => some (fs.toList.map (·.type))
  | _ => none

theorem ty_nil {cs : List CV} (h : Ty P [] cs) : cs = [] := by cases h; rfl
theorem ty_int {t : TypeId} {k : IntKind} {ts : List TypeId} {cs : List CV} (hu : P.underlying t = some (.int k)) (h : Ty P (t :: ts) cs) : ∃ n cs', cs = .int k n :: cs' ∧ k.min ≤ n ∧ n ≤ k.max ∧ Ty P ts cs' := by
  cases h
  case int k' n cs' h1 h2 hu' h =>
    rw [hu] at hu'; cases hu'; exact ⟨_, _, rfl, h1, h2, h⟩
  all_goals (exfalso; simp_all; done)
theorem ty_bool {t : TypeId} {ts : List TypeId} {cs : List CV} (hu : P.underlying t = some .bool) (h : Ty P (t :: ts) cs) : ∃ b cs', cs = .bool b :: cs' ∧ Ty P ts cs' := by
  cases h
  case bool b cs' hu' h => exact ⟨_, _, rfl, h⟩
  all_goals (exfalso; simp_all; done)
theorem ty_struct {t : TypeId} {fs ts : List TypeId} {cs : List CV} (hu : structTs P t = some fs) (h : Ty P (t :: ts) cs) : Ty P (fs ++ ts) cs := by
  unfold structTs at hu
  cases h
  case struct fs' hu' h => rw [hu'] at hu; cases hu; exact h
  all_goals (exfalso; simp_all; done)
theorem ty_array {t e : TypeId} {n : Nat} {ts : List TypeId} {cs : List CV} (hu : P.underlying t = some (.array n e)) (h : Ty P (t :: ts) cs) : Ty P (List.replicate n e ++ ts) cs := by
  cases h
  case array e' n' hu' h => rw [hu] at hu'; cases hu'; exact h
  all_goals (exfalso; simp_all; done)
theorem ty_slice {t e : TypeId} {ts : List TypeId} {cs : List CV} (hu : P.underlying t = some (.slice e)) (h : Ty P (t :: ts) cs) :
    ∃ cs', Ty P ts cs' ∧ (cs = .nilS :: cs' ∨ ∃ es, cs = .rsl (P.cellsOf e) es :: cs' ∧ es.length ≤ maxLen ∧ ∀ r ∈ es, Ty P [e] r) := by
  cases h
  case nilS e' cs' hu' h => exact ⟨_, h, .inl rfl⟩
  case sl e' es cs' hl hz he hu' h => rw [hu] at hu'; cases hu'; exact ⟨_, h, .inr ⟨es, rfl, hl, he⟩⟩
  all_goals (exfalso; simp_all; done)
theorem ty_ints {e : TypeId} {k : IntKind} (hu : P.underlying e = some (.int k)) : ∀ (n : Nat) {ts : List TypeId} {cs : List CV}, Ty P (List.replicate n e ++ ts) cs → ∃ (x : List Int) (cs' : List CV), cs = x.map (.int k) ++ cs' ∧ x.length = n ∧ Ty P ts cs'
  | 0, ts, cs, h => ⟨[], cs, rfl, rfl, h⟩
  | n + 1, ts, cs, h => by
    rw [List.replicate_succ, List.cons_append] at h
    obtain ⟨m, cs1, rfl, _, _, h1⟩ := ty_int hu h
    obtain ⟨x, cs', rfl, hx, h2⟩ := ty_ints hu n h1
    exact ⟨m :: x, cs', rfl, by simp [hx], h2⟩
theorem rows_of {α : Type} {enc : α → List CV} {Q : α → Prop} : ∀ (es : List (List CV)), (∀ r ∈ es, ∃ x, r = enc x ∧ Q x) → ∃ xs : List α, es = xs.map enc ∧ ∀ x ∈ xs, Q x
  | [], _ => ⟨[], rfl, fun x hx => by cases hx⟩
  | r :: es, h => by
    obtain ⟨x, rfl, hx⟩ := h r (by simp)
    obtain ⟨xs, rfl, hxs⟩ := rows_of es (fun r hr => h r (by simp [hr]))
    exact ⟨x :: xs, rfl, fun y hy => by
      rcases List.mem_cons.1 hy with rfl | hy
      · exact hx
      · exact hxs y hy⟩
/-- A slice whose elements are told. -/
theorem ty_sl {α : Type} {t e : TypeId} {z : Nat} {enc : α → List CV} {Q : α → Prop} {ts : List TypeId} {cs : List CV} (hu : P.underlying t = some (.slice e)) (hz : P.cellsOf e = z) (he : ∀ r, Ty P [e] r → ∃ x, r = enc x ∧ Q x) (h : Ty P (t :: ts) cs) :
    ∃ (s : Sv α) (cs' : List CV), cs = encS z enc s :: cs' ∧ s.l.length ≤ maxLen ∧ (∀ x ∈ s.l, Q x) ∧ Ty P ts cs' := by
  obtain ⟨cs', h1, rfl | ⟨es, rfl, hl, hr⟩⟩ := ty_slice hu h
  · exact ⟨none, cs', rfl, Nat.zero_le _, fun x hx => (by cases hx), h1⟩
  · obtain ⟨xs, rfl, hxs⟩ := rows_of (enc := enc) (Q := Q) es (fun r hr' => he r (hr r hr'))
    refine ⟨some xs, cs', ?_, by simpa using hl, hxs, h1⟩
    rw [hz]; rfl
theorem tyV_agg {t : TypeId} {c : CV} (ha : aggT P t = some true) (h : TyV P t c) : ∃ cs, c = .ag cs ∧ Ty P [t] cs := by
  unfold TyV at h; rw [ha] at h; exact h
theorem tyV_one {t : TypeId} {c : CV} (ha : aggT P t = some false) (h : TyV P t c) : Ty P [t] [c] := by
  unfold TyV at h; rw [ha] at h; exact h
theorem tyA_cons {t : TypeId} {ts : List TypeId} {cs : List CV} (h : TyA P (t :: ts) cs) : ∃ c cs', cs = c :: cs' ∧ TyV P t c ∧ TyA P ts cs' := by
  cases h with
  | cons h1 h2 => exact ⟨_, _, rfl, h1, h2⟩
theorem tyA_nil {cs : List CV} (h : TyA P [] cs) : cs = [] := by cases h; rfl
end
end Go.CM

/-
  The canonical machine: a law with arguments that returns true, as a claim wants it.
-/
namespace Go.CM
open Go Go.ChangeShapes Go.RowKit
set_option linter.unusedVariables false
set_option linter.unusedSimpArgs false

theorem trodAll_below {H : Type} {enc : TypeId × Value → H} {P : Program} (hl : laidOutB P = true) {W W' : World} (hb : Below W.heap.size W W') : ∀ {ts : List TypeId} {vs : List Value} {ds : List (DataW H)} {ps : List MemPlace},
    (∀ t ∈ ts, P.readableRec t = true ∧ t < P.types.size) → DataW.TrodAll enc P W 0 (fun _ => true) true ts vs ds ps → DataW.TrodAll enc P W' 0 (fun b => decide (b < W.heap.size)) true ts vs ds ps
  | [], vs, ds, ps, _, h => by
    obtain ⟨rfl, rfl, rfl⟩ := trodAll_nil h
    exact trodAll_mk0
  | t :: ts, vs, ds, ps, hr, h => by
    have hlt := h.lt
    obtain ⟨v, vs1, d, ds1, a, b, rfl, rfl, rfl, h1, h2⟩ := trodAll_cons h
    exact ⟨a, b, Below.trod hl (hr t (by simp)).1 (hr t (by simp)).2 h1 hb (fun x hx => hlt x (by simp [hx])), trodAll_below hl hb (fun t ht => hr t (by simp [ht])) h2, rfl⟩

/-- What a law that returns true has to show: that it does so for all canonical arguments of its types. -/
theorem law_walk {P : Program} {G : Nat → CV} (hmix : P.follows .mixedOrders = true) (hG : ∀ g, (G g).closed = true) {f : FuncId} {ts : List TypeId} (D : Nat) (hp : ∀ t ∈ ts, plainT P D t = true) (hlaid : laidOutB P = true)
    (hrow : ∀ t ∈ ts, P.readableRec t = true ∧ t < P.types.size) (law : ∀ cs, TyA P ts cs → CallP P G f cs [] (c := ⟨fun r _ => r = .bool true⟩))
    {H : Type} {enc : TypeId × Value → H} {W : World} {b0 : Nat} {args : Array Value} {ds : List (DataW H)} {ps : List MemPlace} (hg : ∀ g, VR0 W (fun _ => True) (G g) (.pointer (some ⟨g, 0, none⟩)))
    (hok : ∀ (j : Nat) t v, ts[j]? = some t → args[j]? = some v → Value.okWide P W .any b0 t v) (h : DataW.TrodAll enc P W 0 (fun _ => true) true ts args.toList ds ps) :
    Calls P f args W fun e w' => e = .returned (.bool true) ∧ Below W.heap.size W w' ∧ DataW.TrodAll enc P w' 0 (fun b => decide (b < W.heap.size)) true ts args.toList ds ps := by
  obtain ⟨cs, hty, hlen, hvr⟩ := args_won (A := fun _ => True) (fun _ => trivial) hp (fun j t v ht hv => hok j t v ht (by simpa using hv)) h
  exact (law_call hmix hG (law cs hty) hg (by rw [hlen]; simp) (fun j c v hc hv => hvr j c v hc (by simpa using hv))).mono fun e w' ⟨he, hb⟩ => ⟨he, hb, trodAll_below hlaid hb hrow h⟩
end Go.CM

/-
  The canonical machine, carried out on code without types (for calls without unknowns).
-/
namespace Go.CM
open Go
set_option linter.unusedVariables false
set_option linter.unusedSimpArgs false

/-! ### Small operations on a heap that is a tree -/
def storeH (n : Nat) (h : Hp) (p v : CV) : Option Hp :=
  match p, v.cells with
  | .ptr b off sz, some vs => match h.f b with
    | .cells m cs => if m = sz ∧ vs.length = n ∧ off + n ≤ m then some (h.set b (.cells m (splice cs off vs))) else none
    | _ => none
  | _, _ => none
def appendH (h : Hp) (z by_ : Nat) (s : CV) (xs : List CV) (n : Nat) : Option (CV × Hp) :=
  if n = 0 then (match s with | .nilS | .rsl .. | .sl .. => some (s, h) | _ => none)
  else if z = 0 ∨ by_ = 0 then none else match s with
    | .nilS => if n * by_ ≤ roomMax then some (.sl z h.n 0 n n (n * z), h.push (.cells (n * z) xs)) else none
    | .sl z' b off len cap sz => match h.f b with
      | .cells m cs =>
        if m = sz ∧ z = z' ∧ (len + n) * by_ ≤ roomMax then
          if len + n ≤ cap then some (.sl z b off (len + n) cap sz, h.set b (.cells m (splice cs (off + len * z) xs)))
          else if off + cap * z < sz then some (.sl z h.n 0 (len + n) (len + n) ((len + n) * z), h.push (.cells ((len + n) * z) ((cs.drop off).take (len * z) ++ xs)))
          else if off = 0 then some (.sl z b 0 (len + n) (len + n) ((len + n) * z), h.set b (.cells ((len + n) * z) (cs.take (len * z) ++ xs)))
          else some (.sl z h.n 0 (len + n) (len + n) ((len + n) * z), (h.set b .dead).push (.cells ((len + n) * z) ((cs.drop off).take (len * z) ++ xs)))
        else none
      | _ => none
    | _ => none
def copyH (z : Nat) (h : Hp) (d x : CV) : Option (CV × Hp) :=
  match contents h z x with
  | none => none
  | some (xs, n) => match d with
    | .nilS => some (.int .i64 0, h)
    | .sl z' b off len _ sz => match h.f b with
      | .cells m cs => if m = sz ∧ z = z' then some (.int .i64 ((min n len : Nat) : Int), h.set b (.cells m (splice cs off (xs.take (min n len * z))))) else none
      | _ => none
    | _ => none
def clearH (zero : List CV) (h : Hp) : CV → Option Hp
  | .nilS => some h
  | .rsl _ [] => some h
  | .sl z b off len _ sz => if len = 0 then some h else match h.f b with
    | .cells m cs => if m = sz ∧ zero.length = z then some (h.set b (.cells m (splice cs off (repeatC zero len)))) else none
    | _ => none
  | _ => none
def mksH (z by_ : Nat) (zero : List CV) (h : Hp) (l c : CV) : Option (CV × Hp) := match l, c with
  | .int _ l, .int _ c => if 0 ≤ l ∧ l ≤ c ∧ c < 9223372036854775808 ∧ by_ * c ≤ roomMax then
      some (.sl z h.n 0 l.toNat c.toNat (c.toNat * z), h.push (.cells (c.toNat * z) (repeatC zero c.toNat))) else none
  | _, _ => none
def cbsH (h : Hp) (x : CV) : Option CV := match x with
  | .nilS => some (.str [])
  | .str _ => none
  | x => match contents h 1 x with | some (cs, _) => (bytesOfC cs).map .str | none => none
def appHM (h : Hp) (z by_ : Nat) (s x : CV) : Option (CV × Hp) := match contents h z x with
  | none => none
  | some (xs, n) => appendH h z by_ s xs n
def appZHM (h : Hp) (z by_ : Nat) (zero : List CV) (s x : CV) : Option (CV × Hp) := match x with
  | .int _ n => if 0 ≤ n ∧ n < 9223372036854775808 ∧ n.toNat * by_ ≤ roomMax then appendH h z by_ s (repeatC zero n.toNat) n.toNat else none
  | _ => none
def cmpH (h : Hp) (x y : CV) : Option CV := match bytesOfV h x, bytesOfV h y with
  | some a, some b => some (.int .i64 (cmpBytes a b))
  | _, _ => none
def rangeH (h : Hp) (x : CV) : Option (CV × Hp) := match x with
  | .str s => some (.it h.n, h.push (.iter s 0))
  | _ => none
def lenMapH (h : Hp) (x : CV) : Option CV := match x with
  | .nilM => some (.int .i64 0)
  | .mp b => match h.f b with | .map es _ => some (.int .i64 es.length) | _ => none
  | _ => none
def lookupH (P : Program) (h : Hp) (kt : TypeId) (zero : CV) (ok : Bool) (m k : CV) : Option CV :=
  match mapOf h m with
  | some es => match keyFits P kt k with
    | false => none
    | true => match findC P kt k es 0 with
      | some (some (_, v)) => some (if ok then .tu [v, .bool true] else v)
      | some none => some (if ok then .tu [zero, .bool false] else zero)
      | none => none
  | none => none
def mapUpdH (P : Program) (h : Hp) (kt : TypeId) (m k v : CV) : Option Hp :=
  match m with
  | .mp b => match h.f b with
    | .map es ck => match keyFits P kt k with
      | false => none
      | true => match findC P kt k es 0 with
        | some (some (i, _)) => some (h.set b (.map (es.modify i fun e => (k, v, e.2.2)) ck))
        | some none => some (h.set b (.map (es ++ [(k, v, ck)]) (ck + 1)))
        | none => none
    | _ => none
  | _ => none

def puH (h : Hp) (x : Option CV) : Option (CV × Hp) := match x with | some v => some (v, h) | none => none

section
variable (P : Program)
def mstepH (ρ : Operand → CV) (h : Hp) : Mo → Option (CV × Hp)
  | .mv x => some (ρ x, h)
  | .pick c a b => puH h (pickC (ρ c) (ρ a) (ρ b))
  | .alloc zero => some (.ptr h.n 0 zero.length, h.push (.cells zero.length zero))
  | .box x => match (ρ x).cells with | some cs => some (.ptr h.n 0 cs.length, h.push (.cells cs.length cs)) | none => none
  | .bld zero ps => puH h ((bldC zero (ps.map fun p => (p.1, p.2.1, ρ p.2.2))).map .ag)
  | .bsl z zero len ps => match fillC (fun i => some (i * z, z)) (repeatC zero len) (ps.map fun p => (p.1, ρ p.2)) with | some cs => some (.sl z h.n 0 len len (len * z), h.push (.cells (len * z) cs)) | none => none
  | .ld1 a => puH h (match reach h (ρ a) with | some (cs, o) => cs[o]? | none => none)
  | .ldA n a => puH h (match reach h (ρ a) with | some (cs, o) => partA n cs o | none => none)
  | .st n a x => match storeH n h (ρ a) (ρ x) with | some h' => some (undefC, h') | none => none
  | .nilc x => puH h (nilcC (ρ x))
  | .bin o t x y => puH h (binC P o t (ρ x) (ρ y))
  | .un o x => puH h (unC o (ρ x))
  | .cint k x => puH h (cintC k (ρ x))
  | .cstr x => puH h (cstrC (ρ x))
  | .cbs x => puH h (cbsH h (ρ x))
  | .csb x => puH h (csbC (ρ x))
  | .mkI t x => some (.ifc t (ρ x), h)
  | .mkF f a b => some (.fn f (a.map ρ) (b.map ρ), h)
  | .mks z by_ zero a c => mksH z by_ zero h (ρ a) (ρ c)
  | .slice ti x lo hi mx => puH h (sliceM ti (ρ x) (lo.map ρ) (hi.map ρ) (mx.map ρ))
  | .fa off x => puH h (cellAt (ρ x) off)
  | .fld1 off x => puH h (fldC1 off (ρ x))
  | .fldA n off x => puH h (fldCA n off (ρ x))
  | .ia ti x i => puH h (iaC ti (ρ x) (ρ i))
  | .ix1 n z x i => puH h (ixC1 n z (ρ x) (ρ i))
  | .ixA n z x i => puH h (ixCA n z (ρ x) (ρ i))
  | .ixT x i => puH h (ixCT (ρ x) (ρ i))
  | .ext x i => puH h (extC (ρ x) i)
  | .len ti x => puH h (lenM ti (ρ x))
  | .cap ti x => puH h (capM ti (ρ x))
  | .app z by_ s x => appHM h z by_ (ρ s) (ρ x)
  | .appZ z by_ zero s x => appZHM h z by_ zero (ρ s) (ρ x)
  | .cpy z d x => copyH z h (ρ d) (ρ x)
  | .clr zero x => match clearH zero h (ρ x) with | some h' => some (.tu [], h') | none => none
  | .min x y => puH h (min2C (ρ x) (ρ y))
  | .max x y => puH h (max2C (ρ x) (ρ y))
  | .mkM x => match x with
    | none => some (.mp h.n, h.push (.map [] 0))
    | some o => match asInt (ρ o) with | some _ => some (.mp h.n, h.push (.map [] 0)) | none => none
  | .lkp kt zero ok m k => puH h (lookupH P h kt zero ok (ρ m) (ρ k))
  | .mup kt m k x => match mapUpdH P h kt (ρ m) (ρ k) (ρ x) with | some h' => some (undefC, h') | none => none
  | .lenMp x => puH h (lenMapH h (ρ x))
  | .rngS x => rangeH h (ρ x)
  | .nxtS x => nextStrC h (ρ x)
  | .cmpB f fo x y => match isFn f (ρ fo) with | true => puH h (cmpH h (ρ x) (ρ y)) | false => none
  | .stop => none
end

/-! ### Arguments by value -/
def rdAll (r : CV → Option CV) : List CV → Option (List CV)
  | [] => some []
  | c :: cs => match r c with
    | some c' => match rdAll r cs with
      | some cs' => some (c' :: cs')
      | none => none
    | none => none
def rdC (h : Hp) : Nat → CV → Option CV
  | 0, _ => none
  | d + 1, c => match c with
    | .ag cs => match rdAll (rdC h d) cs with | some cs' => some (.ag cs') | none => none
    | .tu cs => match rdAll (rdC h d) cs with | some cs' => some (.tu cs') | none => none
    | .sl z b off len cap sz => match Nat.beq len 0 with
      | true => some (.rsl z [])
      | false => match h.f b with
        | .cells n cs => match Nat.beq n sz && Nat.ble (off + len * z) cs.length with
          | true => match rdAll (rdC h d) ((cs.drop off).take (len * z)) with
            | some xs => some (.rsl z (chunks z len xs))
            | none => none
          | false => none
        | _ => none
    | .ptr b off sz => match h.f b with
      | .cells n cs => match Nat.beq n sz with
        | true => match rdAll (rdC h d) cs with | some cs' => some (.rptr cs' off) | none => none
        | false => none
      | _ => none
    | c => match c.closed with | true => some c | false => none

/-! ### Running -/
abbrev CallB := FuncId → List CV → Hp → Option (CV × Hp)
abbrev OutB := Option (CExit × Sl × Hp)

mutual
def CB.beq : CB → CB → Bool
  | .none, y => match y with | .none => true | _ => false
  | .dead, y => match y with | .dead => true | _ => false
  | .cells n cs, y => match y with | .cells n' cs' => Nat.beq n n' && beqL cs cs' | _ => false
  | .map .., _ => false
  | .iter .., _ => false
end

section
variable (P : Program) (G : Nat → CV)

def guardB (s : Sl) (g : Option (Option Tmp × Bool)) : Option Bool := match g with
  | none => some true
  | some (some d, w) => match look s d with
    | .bool b => some (b == w)
    | .bad => none
    | _ => some false
  | some (none, _) => some false

def bdB (call : CallB) (b : Bd) (s : Sl) (h : Hp) : Option (CV × Hp) := match b with
  | .mo m => mstepH P (ev G (look s)) h m
  | .callF f args => call f (args.map (ev G (look s))) h
  | .callV x args => match ev G (look s) x with
    | .fn g first captured => match funOkB P g with
      | true => call g (first ++ args.map (ev G (look s)) ++ captured) h
      | false => none
    | _ => none

def runSB (call : CallB) : List Stp → Sl → Hp → Option (Sl × Hp)
  | [], s, h => some (s, h)
  | x :: r, s, h => match guardB s x.g with
    | some true => match bdB P G call x.b s h with
      | some (v, h') => runSB call r (putT s x.dst v) h'
      | none => none
    | some false => runSB call r (putT s x.dst undefC) h
    | none => none

/-- Whether a step does the same later. -/
def stillB (b : Bd) (s : Sl) (v : CV) (h h' h1 : Hp) : Bool := match b with
  | .mo m => match m.isNew with
    | true => CB.beq (h1.f h.n) (h'.f h.n)
    | false => match m.looks with
      | true => match mstepH P (ev G (look s)) h1 m with
        | some (v', _) => CV.beq v' v
        | none => false
      | false => false
  | _ => true

def chkB (ids : List Nat) (h : Hp) : List (Nat × (Hp → Bool)) → Bool
  | [] => true
  | e :: r => (!ids.contains e.1 || e.2 h) && chkB ids h r

def runDB (call : CallB) : List Stp → Sl → Hp → List (Nat × (Hp → Bool)) → Option (Sl × Hp)
  | [], s, h, _ => some (s, h)
  | x :: r, s, h, seen => match guardB s x.g with
    | some true => match bdB P G call x.b s h with
      | some (v, h') => match chkB x.chk h' seen with
        | true => runDB call r (putT s x.dst v) h' (match x.keep with | true => (x.i, stillB P G x.b s v h h') :: seen | false => seen)
        | false => none
      | none => none
    | some false => runDB call r (putT s x.dst undefC) h seen
    | none => none

def cdStep (call : CallB) (ih : Cd → Sl → Hp → OutB) (c : Cd) (s : Sl) (h : Hp) : OutB :=
  match c with
  | .skip => some (.normal, s, h)
  | .ret => some (.ret, s, h)
  | .exit id => some (.exit id, s, h)
  | .reg x => match runSB P G call x s h with
    | some (s1, h1) => some (.normal, s1, h1)
    | none => none
  | .dreg x => match runDB P G call x s h [] with
    | some (s1, h1) => some (.normal, s1, h1)
    | none => none
  | .seq a b => match ih a s h with
    | some (.normal, s1, h1) => ih b s1 h1
    | r => r
  | .cond c x y => match ev G (look s) c with
    | .bool true => ih x s h
    | .bool false => ih y s h
    | _ => none
  | .block id c => match ih c s h with
    | some (.exit id', s1, h1) => match Nat.beq id' id with
      | true => some (.normal, s1, h1)
      | false => some (.exit id', s1, h1)
    | r => r
  | .loop c => match ih c s h with
    | some (.normal, s1, h1) => ih (.loop c) s1 h1
    | r => r

def cdRun (call : CallB) : Nat → Cd → Sl → Hp → OutB
  | 0 => fun _ _ _ => none
  | k + 1 => cdStep P G call (cdRun call k)

def resB (s : Sl) (h : Hp) : List Mo → List CV → Option CV
  | [], acc => some (tuple1 acc)
  | m :: r, acc => match mstepH P (ev G (look s)) h m with
    | some (v, _) => resB s h r (acc ++ [v])
    | none => none

/-- What is known of functions by contracts. -/
abbrev Orc := FuncId → Option (Bool × (List CV → Option CV))
abbrev Tbl := FuncId → Option (Cd × List Mo)

/-- What a contract says of a call. -/
def askB (orc : Orc) (f : FuncId) (args : List CV) (h : Hp) : Option CV :=
  match orc f with
  | some (n, g) => match rdAll (rdC h 20) args with
    | some args' => match g args' with
      | some r => match n || r.flat with | true => some r | false => none
      | none => none
    | none => none
  | none => none
def callBStep (orc : Orc) (tbl : Tbl) (fuel : Nat) (call : CallB) : CallB := fun f args h =>
  match askB orc f args h with
  | some r => some (r, h)
  | none => match tbl f with
    | none => none
    | some (c, rs) => match cdRun P G call fuel c (ofArgs 0 .nil args) h with
      | some (.normal, s', h') => match resB P G s' h' rs [] with | some r => some (r, h') | none => none
      | some (.ret, s', h') => match resB P G s' h' rs [] with | some r => some (r, h') | none => none
      | _ => none

def callB (orc : Orc) (tbl : Tbl) (fuel : Nat) : Nat → CallB
  | 0 => fun _ _ _ => none
  | k + 1 => callBStep P G orc tbl fuel (callB orc tbl fuel k)
end

end Go.CM

/-
  The canonical machine: what is carried out on code without types is so.
-/
namespace Go.CM
open Go
set_option linter.unusedVariables false
set_option linter.unusedSimpArgs false

/-- A tree holds the blocks of a list. -/
structure Rep (h : Hp) (l : Hl) : Prop where
  n : h.n = l.length
  f : ∀ b, h.f b = (HL l).f b

theorem Rep.nil : Rep Hp.empty [] := ⟨rfl, fun _ => rfl⟩
theorem Rep.some {h : Hp} {l : Hl} (r : Rep h l) {b : Nat} {c : CB} (hc : h.f b = c) (hn : c ≠ .none) : l[b]? = some c := by
  rw [r.f, HL_f] at hc
  split at hc
  · rename_i c' h1; rw [h1, hc]
  · exact absurd hc.symm hn
theorem Rep.push {h : Hp} {l : Hl} (r : Rep h l) (c : CB) : Rep (h.push c) (l ++ [c]) :=
  ⟨by rw [push_n, r.n]; simp, fun b => by rw [push_f, ← HL_push, push_f, r.n, HL_n]; unfold fupd; (split <;> first | rfl | exact r.f b)⟩
theorem Rep.set {h : Hp} {l : Hl} (r : Rep h l) {b : Nat} {c0 : CB} (hb : l[b]? = Option.some c0) (c : CB) : Rep (h.set b c) (l.set b c) :=
  ⟨by rw [set_n, r.n]; simp, fun b' => by rw [set_f, ← HL_set _ (get_lt hb), set_f]; unfold fupd; (split <;> first | rfl | exact r.f b')⟩

section
variable {P : Program} {G : Nat → CV} {h h' : Hp} {l : Hl}

theorem Rep.reach (r : Rep h l) (p : CV) : reach h p = reachL l p := by
  rw [← reach_HL]
  cases p <;> try rfl
  simp only [CM.reach, r.f]
theorem Rep.contents (r : Rep h l) (z : Nat) (x : CV) : contents h z x = contentsL l z x := by
  rw [← contents_HL]
  cases x <;> try rfl
  simp only [CM.contents, r.f]
theorem Rep.mapOf (r : Rep h l) (x : CV) : mapOf h x = mapOfL l x := by
  cases x <;> try rfl
  rename_i b
  simp only [CM.mapOf, mapOfL, r.f, HL_f]
  cases l[b]? with
  | none => rfl
  | some c => cases c <;> rfl
theorem Rep.bytes (r : Rep h l) (x : CV) : bytesOfV h x = bytesOfL l x := by
  cases x <;> simp only [bytesOfV, bytesOfL, r.contents] <;> rfl

theorem puH_some {x : Option CV} {v : CV} (hx : puH h x = some (v, h')) : x = some v ∧ h' = h := by
  cases x with
  | none => cases hx
  | some y => cases hx; exact ⟨rfl, rfl⟩
theorem of_pu (r : Rep h l) {x y : Option CV} {v : CV} (hxy : x = y) (hx : puH h x = some (v, h')) : ∃ l', pu l y = some (v, l') ∧ Rep h' l' := by
  obtain ⟨rfl, rfl⟩ := puH_some hx
  exact ⟨l, by rw [← hxy]; rfl, r⟩

theorem appendH_ok (r : Rep h l) {z by_ n : Nat} {s v : CV} {xs : List CV} (hx : appendH h z by_ s xs n = some (v, h')) : ∃ l', appendL l z by_ s xs n = some (v, l') ∧ Rep h' l' := by
  unfold appendH at hx
  unfold appendL
  by_cases hn : n = 0
  · rw [if_pos hn] at hx ⊢
    cases s <;> simp at hx ⊢ <;> (obtain ⟨rfl, rfl⟩ := hx; exact ⟨l, ⟨rfl, rfl⟩, r⟩)
  · rw [if_neg hn] at hx ⊢
    by_cases h0 : z = 0 ∨ by_ = 0
    · rw [if_pos h0] at hx; cases hx
    · rw [if_neg h0] at hx ⊢
      cases s <;> simp only at hx ⊢ <;> try (cases hx; done)
      case nilS =>
        by_cases hr : n * by_ ≤ roomMax
        · rw [if_pos hr] at hx ⊢; cases hx; exact ⟨_, by rw [r.n], r.push _⟩
        · rw [if_neg hr] at hx; cases hx
      case sl z' b off len cap sz =>
        cases hb : h.f b <;> rw [hb] at hx <;> (try simp only at hx) <;> try (cases hx; done)
        rename_i m cs
        have hl := r.some hb (by simp)
        rw [hl]
        simp only
        by_cases h1 : m = sz ∧ z = z' ∧ (len + n) * by_ ≤ roomMax
        · rw [if_pos h1] at hx ⊢
          by_cases h2 : len + n ≤ cap
          · rw [if_pos h2] at hx ⊢; cases hx; exact ⟨_, rfl, r.set hl _⟩
          · rw [if_neg h2] at hx ⊢
            by_cases h3 : off + cap * z < sz
            · rw [if_pos h3] at hx ⊢; cases hx; exact ⟨_, by rw [r.n], r.push _⟩
            · rw [if_neg h3] at hx ⊢
              by_cases h4 : off = 0
              · rw [if_pos h4] at hx ⊢; cases hx; exact ⟨_, rfl, r.set hl _⟩
              · rw [if_neg h4] at hx ⊢; cases hx; exact ⟨_, by rw [r.n], (r.set hl _).push _⟩
        · rw [if_neg h1] at hx; cases hx

theorem mstepH_ok (r : Rep h l) {ρ : Operand → CV} {m : Mo} {v : CV} (hx : mstepH P ρ h m = some (v, h')) : ∃ l', mstep P ρ l m = some (v, l') ∧ Rep h' l' := by
  cases m <;> simp only [mstepH] at hx <;> simp only [mstep]
  case mv => cases hx; exact ⟨l, rfl, r⟩
  case alloc => cases hx; exact ⟨_, by rw [r.n], r.push _⟩
  case box x =>
    cases hc : (ρ x).cells with
    | none => rw [hc] at hx; cases hx
    | some cs => rw [hc] at hx; cases hx; exact ⟨_, by simp only [Option.map_some, r.n], r.push _⟩
  case bsl z zero n ps =>
    split at hx
    · rename_i cs hc; cases hx; exact ⟨_, by rw [hc]; simp only [Option.map_some, r.n], r.push _⟩
    · cases hx
  case ld1 a =>
    rw [r.reach] at hx
    refine of_pu r ?_ hx
    cases reachL l (ρ a) <;> rfl
  case ldA n a =>
    rw [r.reach] at hx
    refine of_pu r ?_ hx
    cases reachL l (ρ a) <;> rfl
  case st n a x =>
    unfold storeH at hx
    unfold storeL
    cases ha : ρ a <;> rw [ha] at hx <;> (try simp only at hx) <;> try (cases hx; done)
    rename_i b off sz
    cases hc : (ρ x).cells with
    | none => rw [hc] at hx; cases hx
    | some vs =>
      rw [hc] at hx
      simp only at hx ⊢
      cases hb : h.f b <;> rw [hb] at hx <;> (try simp only at hx) <;> try (cases hx; done)
      rename_i m cs
      have hl := r.some hb (by simp)
      rw [hl]
      simp only
      by_cases h1 : m = sz ∧ vs.length = n ∧ off + n ≤ m
      · rw [if_pos h1] at hx ⊢; cases hx; exact ⟨_, rfl, r.set hl _⟩
      · rw [if_neg h1] at hx; cases hx
  case mkI => cases hx; exact ⟨l, rfl, r⟩
  case mkF => cases hx; exact ⟨l, rfl, r⟩
  case mks z by_ zero a c =>
    unfold mksH at hx
    unfold mksC
    cases ha : ρ a <;> rw [ha] at hx <;> (try simp only at hx) <;> try (cases hx; done)
    cases hc : ρ c <;> rw [hc] at hx <;> (try simp only at hx) <;> try (cases hx; done)
    simp only
    split at hx
    · rename_i h1; rw [if_pos h1]; cases hx; exact ⟨_, by rw [r.n], r.push _⟩
    · cases hx
  case cbs x =>
    refine of_pu r ?_ hx
    unfold cbsH cbsC
    cases ρ x <;> simp only [r.contents] <;> rfl
  case app z by_ s x =>
    unfold appHM at hx
    unfold appM
    rw [r.contents] at hx
    split at hx
    · cases hx
    · rename_i xs n hc; rw [hc]; exact appendH_ok r hx
  case appZ z by_ zero s x =>
    unfold appZHM at hx
    unfold appZM
    cases hc : ρ x <;> rw [hc] at hx <;> (try simp only at hx) <;> try (cases hx; done)
    simp only
    split at hx
    · rename_i h1; rw [if_pos h1]; exact appendH_ok r hx
    · cases hx
  case cpy z d x =>
    unfold copyH at hx
    unfold copyL
    rw [r.contents] at hx
    split at hx
    · cases hx
    · rename_i xs n hc
      rw [hc]
      simp only
      cases hd : ρ d <;> rw [hd] at hx <;> (try simp only at hx) <;> try (cases hx; done)
      · cases hx; exact ⟨l, rfl, r⟩
      · rename_i z' b off len cap sz
        cases hb : h.f b <;> rw [hb] at hx <;> (try simp only at hx) <;> try (cases hx; done)
        rename_i m cs
        have hl := r.some hb (by simp)
        simp only [hl]
        split at hx
        · rename_i h1; rw [if_pos h1]; cases hx; exact ⟨_, rfl, r.set hl _⟩
        · cases hx
  case clr zero x =>
    unfold clearH at hx
    unfold clearL
    cases hd : ρ x <;> rw [hd] at hx <;> (try simp only at hx) <;> try (cases hx; done)
    · cases hx; exact ⟨l, rfl, r⟩
    · rename_i z b off len cap sz
      simp only
      by_cases h0 : len = 0
      · rw [if_pos h0] at hx ⊢; cases hx; exact ⟨l, rfl, r⟩
      · rw [if_neg h0] at hx ⊢
        cases hb : h.f b <;> rw [hb] at hx <;> (try simp only at hx) <;> try (cases hx; done)
        rename_i m cs
        have hl := r.some hb (by simp)
        rw [hl]
        simp only
        by_cases h1 : m = sz ∧ zero.length = z
        · rw [if_pos h1] at hx ⊢; cases hx; exact ⟨_, rfl, r.set hl _⟩
        · rw [if_neg h1] at hx; cases hx
    · rename_i z es
      cases es <;> simp only at hx
      · cases hx; exact ⟨l, rfl, r⟩
      · cases hx
  case mkM x =>
    cases x with
    | none => cases hx; exact ⟨_, by rw [r.n], r.push _⟩
    | some o =>
      simp only at hx ⊢
      split at hx
      · rename_i n hn; rw [hn]; cases hx; exact ⟨_, by simp only [r.n], r.push _⟩
      · cases hx
  case lkp kt zero ok m k =>
    refine of_pu r ?_ hx
    unfold lookupH lookupL
    rw [r.mapOf]
    split
    · rename_i es hes; rw [hes]; rfl
    · rename_i hes; rw [hes]
  case mup kt m k x =>
    unfold mapUpdH at hx
    unfold mapUpdL
    cases hm : ρ m <;> rw [hm] at hx <;> (try simp only at hx) <;> try (cases hx; done)
    rename_i b
    simp only
    cases hb : h.f b <;> rw [hb] at hx <;> (try simp only at hx) <;> try (cases hx; done)
    rename_i es ck
    have hl := r.some hb (by simp)
    rw [hl]
    simp only
    cases hk : keyFits P kt (ρ k) <;> rw [hk] at hx <;> simp only at hx
    · cases hx
    · simp only
      cases hf : findC P kt (ρ k) es 0 with
      | none => rw [hf] at hx; cases hx
      | some q =>
        rw [hf] at hx
        cases q with
        | none => cases hx; exact ⟨_, rfl, r.set hl _⟩
        | some jv => cases hx; exact ⟨_, rfl, r.set hl _⟩
  case lenMp x =>
    refine of_pu r ?_ hx
    unfold lenMapH lenMapL
    cases ρ x <;> try rfl
    rename_i b
    simp only [r.f, HL_f]
    cases l[b]? with
    | none => rfl
    | some c => cases c <;> rfl
  case rngS x =>
    unfold rangeH at hx
    unfold rangeL
    cases hd : ρ x <;> rw [hd] at hx <;> (try simp only at hx) <;> try (cases hx; done)
    cases hx; exact ⟨_, by simp only [r.n], r.push _⟩
  case nxtS x =>
    unfold nextStrC at hx
    unfold nextL
    cases hd : ρ x <;> rw [hd] at hx <;> (try simp only at hx) <;> try (cases hx; done)
    rename_i b
    simp only
    cases hb : h.f b <;> rw [hb] at hx <;> (try simp only at hx) <;> try (cases hx; done)
    have hl := r.some hb (by simp)
    rw [hl]
    simp only
    split at hx
    · rename_i h1; rw [h1]; cases hx; exact ⟨_, rfl, r.set hl _⟩
    · rename_i h1; rw [h1]; cases hx; exact ⟨_, rfl, r⟩
  case stop => cases hx
  case cmpB f fo x y =>
    split at hx
    · rename_i h1
      rw [h1]
      refine of_pu r ?_ hx
      unfold cmpH cmpL
      rw [r.bytes, r.bytes]
      cases bytesOfL l (ρ x) <;> cases bytesOfL l (ρ y) <;> rfl
    · cases hx
  all_goals exact of_pu r rfl hx

/-! ### Arguments by value -/
theorem rdAll_len {f : CV → Option CV} : ∀ {cs cs' : List CV}, rdAll f cs = some cs' → cs'.length = cs.length
  | [], cs', h => by cases h; rfl
  | c :: cs, cs', h => by
    unfold rdAll at h
    split at h
    · split at h
      · rename_i h1; cases h; simp [rdAll_len h1]
      · cases h
    · cases h
theorem rdAll_get {f : CV → Option CV} : ∀ {cs cs' : List CV}, rdAll f cs = some cs' → ∀ (j : Nat) (c c' : CV), cs[j]? = some c → cs'[j]? = some c' → f c = some c'
  | [], cs', h, j, c, c', hc, _ => by simp at hc
  | c :: cs, cs', h, j, d, d', hd, hd' => by
    unfold rdAll at h
    split at h
    · rename_i x hx
      split at h
      · rename_i h1
        cases h
        cases j with
        | zero => simp at hd hd'; subst hd hd'; exact hx
        | succ j => exact rdAll_get h1 j d d' (by simpa using hd) (by simpa using hd')
      · cases h
    · cases h

theorem rdC_ok : ∀ (d : Nat) (c c' : CV), rdC h d c = some c' → RdH h c c'
  | 0, c, c', hx => by cases hx
  | d + 1, c, c', hx => by
    unfold rdC at hx
    split at hx
    · split at hx
      · rename_i h1; cases hx
        exact .ag _ _ (rdAll_len h1) (fun j c c' hc hc' => rdC_ok d c c' (rdAll_get h1 j c c' hc hc'))
      · cases hx
    · split at hx
      · rename_i h1; cases hx
        exact .tu _ _ (rdAll_len h1) (fun j c c' hc hc' => rdC_ok d c c' (rdAll_get h1 j c c' hc hc'))
      · cases hx
    · rename_i z b off len cap sz
      split at hx
      · rename_i h0
        cases hx
        rw [Nat.eq_of_beq_eq_true h0]
        exact .sl0 z b off cap sz
      · split at hx
        · rename_i n cs hb
          split at hx
          · rename_i hok
            simp only [Bool.and_eq_true] at hok
            have hn := Nat.eq_of_beq_eq_true hok.1
            have hle := Nat.le_of_ble_eq_true hok.2
            subst hn
            split at hx
            · rename_i xs h1
              cases hx
              have hxl := rdAll_len h1
              simp only [List.length_take, List.length_drop] at hxl
              have hxl' : xs.length = len * z := by omega
              have hck : ∀ (i : Nat), i < len → (chunks z len xs)[i]? = some ((xs.drop (i * z)).take z) := fun i hi => chunks_get len xs i hi
              have hfit : ∀ i, i < len → i * z + z ≤ len * z := fun i hi => by rw [← Nat.succ_mul]; exact Nat.mul_le_mul_right _ hi
              refine .sl z b off len cap n cs _ hb (chunks_length _ _) (fun e he => ?_) hle (fun i j e c c' he hj hc => ?_)
              · obtain ⟨i, hi⟩ := List.mem_iff_getElem?.1 he
                have hil : i < len := by
                  have := (List.getElem?_eq_some_iff.1 hi).1
                  rw [chunks_length] at this; exact this
                rw [hck i hil] at hi
                cases hi
                have := hfit i hil
                simp; omega
              · have hil : i < len := by
                  have := (List.getElem?_eq_some_iff.1 he).1
                  rw [chunks_length] at this; exact this
                rw [hck i hil] at he
                cases he
                have hfi := hfit i hil
                have hjz : j < z := by have := (List.getElem?_eq_some_iff.1 hj).1; simp at this; omega
                rw [List.getElem?_take_of_lt hjz, List.getElem?_drop] at hj
                refine rdC_ok d c c' (rdAll_get h1 (i * z + j) c c' ?_ hj)
                rw [List.getElem?_take_of_lt (by omega), List.getElem?_drop]
                exact hc
            · cases hx
          · cases hx
        · cases hx
    · rename_i b off sz
      split at hx
      · rename_i n cs hb
        split at hx
        · rename_i hn
          split at hx
          · rename_i h1
            cases hx
            rw [← Nat.eq_of_beq_eq_true hn]
            exact .ptr b off n cs _ hb (rdAll_len h1) (fun j c c' hc hc' => rdC_ok d c c' (rdAll_get h1 j c c' hc hc'))
          · cases hx
        · cases hx
      · cases hx
    · split at hx
      · rename_i hc; cases hx; exact .same _ hc
      · cases hx

theorem RdH.rep (r : Rep h l) {c c' : CV} (hr : RdH h c c') : RdH (HL l) c c' := by
  induction hr with
  | same c hc => exact .same c hc
  | ag cs cs' hl hv ih => exact .ag cs cs' hl ih
  | tu cs cs' hl hv ih => exact .tu cs cs' hl ih
  | sl z b off len cap sz cs es hb hl hz hin hv ih => exact .sl z b off len cap sz cs es (by rw [← r.f]; exact hb) hl hz hin ih
  | sl0 z b off cap sz => exact .sl0 z b off cap sz
  | ptr b off sz cs cs' hb hl hv ih => exact .ptr b off sz cs cs' (by rw [← r.f]; exact hb) hl ih

/-! ### Running -/
def CallOkB (P : Program) (G : Nat → CV) (call : CallB) : Prop :=
  ∀ (f : FuncId) (args : List CV) (h : Hp) (v : CV) (h' : Hp) (l : Hl), Rep h l → call f args h = some (v, h') → ∃ l', Rep h' l' ∧ ∀ K : CV → Hl → Prop, K v l' → CallP P G f args l (c := ⟨K⟩)

theorem keepK_of {m : Mo} {v : CV} {l : Hl} {K : CV → Hl → Prop} (hk : K v l) : keepK m v l K := by
  cases m <;> first | exact hk | exact .inl hk

theorem bdB_ok {call : CallB} (hc : CallOkB P G call) (r : Rep h l) {b : Bd} {s : Sl} {v : CV} (hx : bdB P G call b s h = some (v, h')) :
    ∃ l', Rep h' l' ∧ (∀ K : CV → Hl → Prop, K v l' → stp P G b (look s) l K) ∧ (∀ m, b = .mo m → mstep P (ev G (look s)) l m = some (v, l')) := by
  cases b with
  | mo m =>
    obtain ⟨l', h1, h2⟩ := mstepH_ok r hx
    refine ⟨l', h2, fun K hK => ?_, fun m' hm => by cases hm; exact h1⟩
    show W (mstep P (ev G (look s)) l m) (c := ⟨fun x => keepK m x.1 x.2 K⟩)
    rw [W_iff]
    exact ⟨_, h1, keepK_of hK⟩
  | callF f args =>
    obtain ⟨l', h1, h2⟩ := hc f _ h v h' l r hx
    exact ⟨l', h1, h2, fun m hm => by cases hm⟩
  | callV x args =>
    simp only [bdB] at hx
    cases hf : ev G (look s) x <;> rw [hf] at hx <;> (try simp only at hx) <;> try (cases hx; done)
    rename_i g first captured
    split at hx
    · rename_i hfn
      obtain ⟨l', h1, h2⟩ := hc g _ h v h' l r hx
      refine ⟨l', h1, fun K hK => ?_, fun m hm => by cases hm⟩
      show callVP P G (ev G (look s) x) _ l (c := ⟨K⟩)
      unfold callVP
      rw [hf]
      exact ⟨hfn, h2 K hK⟩
    · cases hx

theorem guardB_ok {s : Sl} {g : Option (Option Tmp × Bool)} {b : Bool} (hg : guardB s g = some b) {p q : Prop} (hk : if b then p else q) : kGo (look s) g p q := by
  unfold guardB at hg
  unfold kGo
  split at hg
  · cases hg; exact hk
  · rename_i d w
    simp only [kG]
    split at hg
    · rename_i x hx
      simp only [hx]
      cases hg
      unfold kIf
      cases hxw : (x == w) <;> rw [hxw] at hk <;> simpa using hk
    · cases hg
    · rename_i h1 h2
      cases hg
      cases hx : look s d <;> first | exact (by simpa using hk) | (exact absurd hx (h1 _)) | (exact absurd hx h2)
  · cases hg; simpa using hk

theorem runSB_ok {call : CallB} (hc : CallOkB P G call) : ∀ (x : List Stp) (s : Sl) (h : Hp) (l : Hl) (s' : Sl) (h' : Hp), Rep h l → runSB P G call x s h = some (s', h') →
    ∃ l', Rep h' l' ∧ ∀ K : Sg → Hl → Prop, K (look s') l' → runS P G x (look s) l K
  | [], s, h, l, s', h', r, hx => by cases hx; exact ⟨l, r, fun K hK => hK⟩
  | x :: xs, s, h, l, s', h', r, hx => by
    unfold runSB at hx
    split at hx
    · rename_i hg
      split at hx
      · rename_i v h1 hb
        obtain ⟨l1, r1, h2, _⟩ := bdB_ok hc r hb
        obtain ⟨l', r', h3⟩ := runSB_ok hc xs _ h1 l1 s' h' r1 hx
        refine ⟨l', r', fun K hK => ?_⟩
        unfold runS
        refine guardB_ok hg ?_
        simp only [if_true]
        refine h2 _ ?_
        rw [← look_put]
        exact h3 K hK
      · cases hx
    · rename_i hg
      obtain ⟨l', r', h3⟩ := runSB_ok hc xs _ h l s' h' r hx
      refine ⟨l', r', fun K hK => ?_⟩
      unfold runS
      refine guardB_ok hg ?_
      simp only [Bool.false_eq_true, if_false]
      rw [← look_put]
      exact h3 K hK
    · cases hx

theorem CB.beq_eq {a b : CB} (h : CB.beq a b = true) : a = b := by
  cases a <;> cases b <;> simp [CB.beq] at h
  · rfl
  · rfl
  · obtain ⟨h1, h2⟩ := h
    rw [h1, beqL_eq h2]

theorem stillB_ok {b : Bd} {s : Sl} {v : CV} {h1 : Hp} {l' l1 : Hl} (r : Rep h l) (r' : Rep h' l') (r1 : Rep h1 l1) (hx : stillB P G b s v h h' h1 = true) (hlen : ∀ m, b = .mo m → m.isNew = true → ∃ n cs, l' = l ++ [.cells n cs]) : stillP P G b (look s) v l l' l1 := by
  unfold stillB at hx
  unfold stillP
  split at hx
  · rename_i m
    simp only
    cases hn : m.isNew with
    | true =>
      rw [hn] at hx
      simp only at hx ⊢
      have he := CB.beq_eq hx
      obtain ⟨n, cs, rfl⟩ := hlen m rfl hn
      rw [r.n] at he
      have h2 : h'.f l.length = (HL (l ++ [.cells n cs])).f l.length := r'.f _
      rw [HL_f] at h2
      simp only [List.getElem?_append_right (Nat.le_refl _), Nat.sub_self, List.getElem?_cons_zero] at h2 ⊢
      exact r1.some (he.trans h2) (by simp)
    | false =>
      rw [hn] at hx
      simp only at hx ⊢
      split at hx
      · rename_i hlk
        split at hx
        · rename_i v' h2 hm
          obtain ⟨l2, h3, _⟩ := mstepH_ok r1 hm
          rw [CV.beq_eq hx] at h3
          rw [looks_same hlk h3] at h3
          exact h3
        · cases hx
      · cases hx
  · rename_i hb
    split
    · rename_i m; exact absurd rfl (hb m)
    · trivial

/-- What was seen, and how it is asked again. -/
inductive SeenOk (P : Program) (G : Nat → CV) : List (Nat × (Hp → Bool)) → Seen → Prop
  | nil : SeenOk P G [] []
  | cons {i p q r r'} : (∀ h l, Rep h l → p h = true → q l) → SeenOk P G r r' → SeenOk P G ((i, p) :: r) ((i, q) :: r')

theorem chkB_ok (r : Rep h l) {ids : List Nat} : ∀ {a : List (Nat × (Hp → Bool))} {b : Seen}, SeenOk P G a b → chkB ids h a = true → chks ids b l
  | _, _, .nil, _ => trivial
  | _, _, .cons hp hr, hx => by
    unfold chkB at hx
    simp only [Bool.and_eq_true, Bool.or_eq_true, Bool.not_eq_true'] at hx
    unfold chks
    refine ⟨fun hi => ?_, chkB_ok r hr hx.2⟩
    rcases hx.1 with h1 | h1
    · rw [hi] at h1; cases h1
    · exact hp h l r h1

theorem isNew_len {ρ : Operand → CV} {l l' : Hl} {m : Mo} {v : CV} (hn : m.isNew = true) (hm : mstep P ρ l m = some (v, l')) : ∃ n cs, l' = l ++ [.cells n cs] := by
  cases m <;> simp only [Mo.isNew, Bool.false_eq_true, reduceCtorEq] at hn <;> simp only [mstep, map_some, Option.some.injEq, Prod.mk.injEq] at hm
  case alloc => obtain ⟨_, rfl⟩ := hm; exact ⟨_, _, rfl⟩
  case box => obtain ⟨_, _, _, rfl⟩ := hm; exact ⟨_, _, rfl⟩
  case bsl => obtain ⟨_, _, _, rfl⟩ := hm; exact ⟨_, _, rfl⟩
  case mks =>
    unfold mksC at hm
    repeat' split at hm
    all_goals first | (cases hm; done) | (cases hm; exact ⟨_, _, rfl⟩)

theorem runDB_ok {call : CallB} (hc : CallOkB P G call) : ∀ (x : List Stp) (s : Sl) (h : Hp) (l : Hl) (s' : Sl) (h' : Hp) (a : List (Nat × (Hp → Bool))) (b : Seen), Rep h l → SeenOk P G a b → runDB P G call x s h a = some (s', h') →
    ∃ l', Rep h' l' ∧ ∀ K : Sg → Hl → Prop, K (look s') l' → runD P G x (look s) l b K
  | [], s, h, l, s', h', a, b, r, hs, hx => by cases hx; exact ⟨l, r, fun K hK => hK⟩
  | x :: xs, s, h, l, s', h', a, b, r, hs, hx => by
    unfold runDB at hx
    split at hx
    · rename_i hg
      split at hx
      · rename_i v h1 hb
        obtain ⟨l1, r1, h2, hmo⟩ := bdB_ok hc r hb
        split at hx
        · rename_i hck
          have hs' : SeenOk P G (match x.keep with | true => (x.i, stillB P G x.b s v h h1) :: a | false => a) (seenAdd x.keep x.i (stillP P G x.b (look s) v l l1) b) := by
            cases x.keep with
            | false => exact hs
            | true =>
              refine .cons (fun h2 l2 r2 hp => stillB_ok r r1 r2 hp (fun m hm hn => isNew_len hn (hmo m hm))) hs
          obtain ⟨l', r', h3⟩ := runDB_ok hc xs _ h1 l1 s' h' _ _ r1 hs' hx
          refine ⟨l', r', fun K hK => ?_⟩
          unfold runD
          refine guardB_ok hg ?_
          simp only [if_true]
          refine h2 _ ⟨chkB_ok r1 hs hck, ?_⟩
          rw [← look_put]
          exact h3 K hK
        · cases hx
      · cases hx
    · rename_i hg
      obtain ⟨l', r', h3⟩ := runDB_ok hc xs _ h l s' h' a b r hs hx
      refine ⟨l', r', fun K hK => ?_⟩
      unfold runD
      refine guardB_ok hg ?_
      simp only [Bool.false_eq_true, if_false]
      rw [← look_put]
      exact h3 K hK
    · cases hx

theorem cdRun_ok {call : CallB} (hc : CallOkB P G call) : ∀ (fuel : Nat) (c : Cd) (s : Sl) (h : Hp) (l : Hl) (e : CExit) (s' : Sl) (h' : Hp), Rep h l → cdRun P G call fuel c s h = some (e, s', h') →
    ∃ l', Rep h' l' ∧ ∀ K : KC, K e (look s') l' → run P G c (look s) l K
  | 0, c, s, h, l, e, s', h', r, hx => by cases hx
  | k + 1, c, s, h, l, e, s', h', r, hx => by
    have ih := cdRun_ok hc k
    unfold cdRun cdStep at hx
    cases c with
    | skip => cases hx; exact ⟨l, r, fun K hK => hK⟩
    | ret => cases hx; exact ⟨l, r, fun K hK => hK⟩
    | exit id => cases hx; exact ⟨l, r, fun K hK => hK⟩
    | reg x =>
      simp only at hx
      split at hx
      · rename_i s1 h1 hr
        cases hx
        obtain ⟨l', r', h2⟩ := runSB_ok hc x s h l s' h' r hr
        exact ⟨l', r', fun K hK => h2 _ hK⟩
      · cases hx
    | dreg x =>
      simp only at hx
      split at hx
      · rename_i s1 h1 hr
        cases hx
        obtain ⟨l', r', h2⟩ := runDB_ok hc x s h l s' h' [] [] r .nil hr
        exact ⟨l', r', fun K hK => h2 _ hK⟩
      · cases hx
    | seq a b =>
      simp only at hx
      split at hx
      · rename_i s1 h1 ha
        obtain ⟨l1, r1, h2⟩ := ih a s h l _ s1 h1 r ha
        obtain ⟨l', r', h3⟩ := ih b s1 h1 l1 e s' h' r1 hx
        refine ⟨l', r', fun K hK => ?_⟩
        unfold run
        exact h2 _ (h3 K hK)
      · rename_i hne
        obtain ⟨l', r', h2⟩ := ih a s h l e s' h' r hx
        refine ⟨l', r', fun K hK => ?_⟩
        unfold run
        refine h2 _ ?_
        unfold kSeq
        cases e with
        | normal => exact absurd hx (hne _ _)
        | exit id => exact hK
        | ret => exact hK
    | cond c x y =>
      simp only at hx
      split at hx
      · rename_i hcv
        obtain ⟨l', r', h2⟩ := ih x s h l e s' h' r hx
        refine ⟨l', r', fun K hK => ?_⟩
        unfold run kCond
        rw [hcv]
        exact h2 K hK
      · rename_i hcv
        obtain ⟨l', r', h2⟩ := ih y s h l e s' h' r hx
        refine ⟨l', r', fun K hK => ?_⟩
        unfold run kCond
        rw [hcv]
        exact h2 K hK
      · cases hx
    | block id c =>
      simp only at hx
      split at hx
      · rename_i id' s1 h1 ha
        obtain ⟨l', r', h2⟩ := ih c s h l _ s1 h1 r ha
        split at hx
        · rename_i hid
          cases hx
          refine ⟨l', r', fun K hK => ?_⟩
          unfold run
          refine h2 _ ?_
          unfold kBlock
          simp only
          rw [hid]
          exact hK
        · rename_i hid
          cases hx
          refine ⟨l', r', fun K hK => ?_⟩
          unfold run
          refine h2 _ ?_
          unfold kBlock
          simp only
          rw [hid]
          exact hK
      · rename_i hne
        obtain ⟨l', r', h2⟩ := ih c s h l e s' h' r hx
        refine ⟨l', r', fun K hK => ?_⟩
        unfold run
        refine h2 _ ?_
        unfold kBlock
        cases e with
        | normal => exact hK
        | exit id => exact absurd hx (hne _ _ _)
        | ret => exact hK
    | loop c =>
      simp only at hx
      split at hx
      · rename_i s1 h1 ha
        obtain ⟨l1, r1, h2⟩ := ih c s h l _ s1 h1 r ha
        obtain ⟨l', r', h3⟩ := ih (.loop c) s1 h1 l1 e s' h' r1 hx
        refine ⟨l', r', fun K hK => ?_⟩
        have h4 := h3 K hK
        unfold run at h4 ⊢
        obtain ⟨n, hn⟩ := h4
        exact ⟨n + 1, h2 _ hn⟩
      · rename_i hne
        obtain ⟨l', r', h2⟩ := ih c s h l e s' h' r hx
        refine ⟨l', r', fun K hK => ?_⟩
        unfold run
        refine ⟨1, h2 _ ?_⟩
        unfold kSeq
        cases e with
        | normal => exact absurd hx (hne _ _)
        | exit id => exact hK
        | ret => exact hK

def OrcOkB (P : Program) (G : Nat → CV) (orc : Orc) : Prop := ∀ f n g args r, orc f = some (n, g) → g args = some r → PureC P G f args r ∧ (n = true → PureN P G f args r)
def TblOk (P : Program) (tbl : Tbl) : Prop := ∀ f c rs, tbl f = some (c, rs) → compF P f = some c ∧ compRs P f = some rs

theorem resB_ok (r : Rep h l) {s : Sl} : ∀ {ms : List Mo} {acc : List CV} {v : CV}, resB P G s h ms acc = some v → ∀ K : CV → Hl → Prop, K v l → kRes P G K (look s) l ms acc
  | [], acc, v, hx, K, hK => by cases hx; exact hK
  | m :: ms, acc, v, hx, K, hK => by
    unfold resB at hx
    split at hx
    · rename_i x h1 hm
      obtain ⟨l1, h2, _⟩ := mstepH_ok r hm
      unfold kRes
      rw [W_iff]
      exact ⟨_, h2, resB_ok r hx K hK⟩
    · cases hx

theorem look_args (args : List CV) : look (ofArgs 0 .nil args) = argsS args := by
  rw [look_ofArgs]
  funext t
  unfold argsS
  by_cases ht : t < args.length
  · rw [if_pos ⟨Nat.zero_le _, by omega⟩]; rfl
  · rw [if_neg (by omega)]
    rw [List.getD_eq_getElem?_getD, List.getElem?_eq_none (by omega)]; rfl

theorem askB_ok {orc : Orc} (ho : OrcOkB P G orc) {f : FuncId} {args : List CV} {h : Hp} {l : Hl} {v : CV} (r : Rep h l) (hx : askB orc f args h = some v) (K : CV → Hl → Prop) (hK : K v l) : CallP P G f args l (c := ⟨K⟩) := by
  unfold askB at hx
  split at hx
  · rename_i n g hg
    split at hx
    · rename_i args' ha
      split at hx
      · rename_i v' hv
        split at hx
        · rename_i hf
          cases hx
          obtain ⟨o1, o2⟩ := ho f n g args' v hg hv
          cases n with
          | true => exact ⟨v, l, .pureN (o2 rfl) (rdAll_len ha) (fun j c c' hc hc' => (rdC_ok 20 c c' (rdAll_get ha j c c' hc hc')).rep r), Nat.le_refl _, hK⟩
          | false => exact ⟨v, l, .pureB o1 (rdAll_len ha) (fun j c c' hc hc' => (rdC_ok 20 c c' (rdAll_get ha j c c' hc hc')).rep r) hf, Nat.le_refl _, hK⟩
        · cases hx
      · cases hx
    · cases hx
  · cases hx
theorem callB_ok {orc : Orc} {tbl : Tbl} (ho : OrcOkB P G orc) (ht : TblOk P tbl) (fuel : Nat) : ∀ k, CallOkB P G (callB P G orc tbl fuel k)
  | 0 => fun f args h v h' l r hx => by cases hx
  | k + 1 => fun f args h v h' l r hx => by
    have ih := callB_ok ho ht fuel k
    unfold callB callBStep at hx
    split at hx
    · rename_i v' hv
      cases hx
      exact ⟨l, r, fun K hK => askB_ok ho r hv K hK⟩
    · split at hx
      · cases hx
      · rename_i c rs htb
        obtain ⟨hc1, hc2⟩ := ht f c rs htb
        split at hx
        · rename_i s1 h1 hrun
          obtain ⟨l1, r1, h2⟩ := cdRun_ok ih fuel c _ h l _ s1 h1 r hrun
          split at hx
          · rename_i v' hres
            cases hx
            refine ⟨l1, r1, fun K hK => call_intro hc1 hc2 ?_⟩
            rw [← look_args]
            exact h2 _ (resB_ok r1 hres K hK)
          · cases hx
        · rename_i s1 h1 hrun
          obtain ⟨l1, r1, h2⟩ := cdRun_ok ih fuel c _ h l _ s1 h1 r hrun
          split at hx
          · rename_i v' hres
            cases hx
            refine ⟨l1, r1, fun K hK => call_intro hc1 hc2 ?_⟩
            rw [← look_args]
            exact h2 _ (resB_ok r1 hres K hK)
          · cases hx
        · cases hx
end

/-- A call without unknowns, carried out; what it hands back reads by value as told. -/
def runsB (P : Program) (G : Nat → CV) (orc : Orc) (tbl : Tbl) (fuel k : Nat) (f : FuncId) (args : List CV) (r : CV) : Bool :=
  match callB P G orc tbl fuel k f args Hp.empty with
  | some (v, h) => match rdC h 20 v with
    | some v' => CV.beq v' r
    | none => false
  | none => false

theorem callP_of_runs {P : Program} {G : Nat → CV} {orc : Orc} {tbl : Tbl} (ho : OrcOkB P G orc) (ht : TblOk P tbl) {fuel k : Nat} {f : FuncId} {args : List CV} {b : Bool} (hx : runsB P G orc tbl fuel k f args (.bool b) = true) :
    CallP P G f args [] (c := ⟨fun r _ => r = .bool b⟩) := by
  unfold runsB at hx
  split at hx
  · rename_i v h hc
    split at hx
    · rename_i v' hv
      obtain ⟨l', _, h2⟩ := callB_ok ho ht fuel k f args Hp.empty v h [] Rep.nil hc
      refine h2 _ ?_
      have := CV.beq_eq hx
      subst this
      unfold rdC at hv
      repeat' split at hv
      all_goals first | (cases hv; done) | (cases hv; rfl)
    · cases hx
  · cases hx

end Go.CM
