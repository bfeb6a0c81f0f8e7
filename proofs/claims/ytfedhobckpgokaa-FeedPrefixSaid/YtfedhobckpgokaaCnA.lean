/-
  The canonical machine: the laws by which 'simp' walks.
-/
import Derived.Test.YtfedhobckpgokaaCmZ
namespace Go.CM
open Go
set_option linter.unusedVariables false
set_option linter.unusedSimpArgs false

section
variable {P : Program} {G : Nat → CV}

@[simp ↓] theorem run_skip (σ : Sg) (l : Hl) (K : KC) : run P G .skip σ l K = K .normal σ l := id rfl
@[simp ↓] theorem run_ret (σ : Sg) (l : Hl) (K : KC) : run P G .ret σ l K = K .ret σ l := id rfl
@[simp ↓] theorem run_exit (i : Nat) (σ : Sg) (l : Hl) (K : KC) : run P G (.exit i) σ l K = K (.exit i) σ l := id rfl
@[simp ↓] theorem run_reg (s : List Stp) (σ : Sg) (l : Hl) (K : KC) : run P G (.reg s) σ l K = runS P G s σ l (K .normal) := id rfl
@[simp ↓] theorem run_dreg (s : List Stp) (σ : Sg) (l : Hl) (K : KC) : run P G (.dreg s) σ l K = runD P G s σ l [] (K .normal) := id rfl
@[simp ↓] theorem run_seq (a b : Cd) (σ : Sg) (l : Hl) (K : KC) : run P G (.seq a b) σ l K = run P G a σ l (kSeq (fun σ l => run P G b σ l K) K) := id rfl
@[simp ↓] theorem run_cond (c : Operand) (x y : Cd) (σ : Sg) (l : Hl) (K : KC) : run P G (.cond c x y) σ l K = kCond (ev G σ c) (c := ⟨run P G x σ l K, run P G y σ l K⟩) := id rfl
@[simp ↓] theorem run_block (i : Nat) (c : Cd) (σ : Sg) (l : Hl) (K : KC) : run P G (.block i c) σ l K = run P G c σ l (kBlock i K) := id rfl
@[simp ↓] theorem run_loop (c : Cd) (σ : Sg) (l : Hl) (K : KC) : run P G (.loop c) σ l K = LoopP (run P G c) σ l (c := ⟨K⟩) := id rfl
@[simp ↓] theorem kSeq_n (k : Sg → Hl → Prop) (K : KC) (σ : Sg) (l : Hl) : kSeq k K .normal σ l = k σ l := id rfl
@[simp ↓] theorem kSeq_e (k : Sg → Hl → Prop) (K : KC) (i : Nat) (σ : Sg) (l : Hl) : kSeq k K (.exit i) σ l = K (.exit i) σ l := id rfl
@[simp ↓] theorem kSeq_r (k : Sg → Hl → Prop) (K : KC) (σ : Sg) (l : Hl) : kSeq k K .ret σ l = K .ret σ l := id rfl
@[simp ↓] theorem kBlock_n (i : Nat) (K : KC) (σ : Sg) (l : Hl) : kBlock i K .normal σ l = K .normal σ l := id rfl
@[simp ↓] theorem kBlock_r (i : Nat) (K : KC) (σ : Sg) (l : Hl) : kBlock i K .ret σ l = K .ret σ l := id rfl
def kEx (p : Prop) [Decidable p] [c : Pq] : Prop := if p then c.p else c.q
@[simp ↓] theorem kBlock_e (i j : Nat) (K : KC) (σ : Sg) (l : Hl) : kBlock i K (.exit j) σ l = kEx (j = i) (c := ⟨K .normal σ l, K (.exit j) σ l⟩) := by
  unfold kBlock kEx
  by_cases h : j = i
  · simp only [nbeq_true h, if_pos h]
  · simp only [nbeq_false h, if_neg h]
theorem kEx_pos {p : Prop} [Decidable p] {c : Pq} (h : p) : kEx p (c := c) = c.p := by simp [kEx, h]
theorem kEx_neg {p : Prop} [Decidable p] {c : Pq} (h : ¬ p) : kEx p (c := c) = c.q := by simp [kEx, h]
@[simp ↓] theorem kEx_same (i : Nat) (x y : Prop) : kEx (i = i) (c := ⟨x, y⟩) = x := by simp [kEx]
@[simp] theorem kEx_true (x y : Prop) : kEx True (c := ⟨x, y⟩) = x := by simp [kEx]
@[simp] theorem kEx_false (x y : Prop) : kEx False (c := ⟨x, y⟩) = y := by simp [kEx]
@[simp ↓] theorem kEnd_n (ms : List Mo) (K : CV → Hl → Prop) (σ : Sg) (l : Hl) : kEnd P G ms K .normal σ l = kRes P G K σ l ms [] := id rfl
@[simp ↓] theorem kEnd_r (ms : List Mo) (K : CV → Hl → Prop) (σ : Sg) (l : Hl) : kEnd P G ms K .ret σ l = kRes P G K σ l ms [] := id rfl
@[simp ↓] theorem kRes_nil (K : CV → Hl → Prop) (σ : Sg) (l : Hl) (acc : List CV) : kRes P G K σ l [] acc = K (tuple1 acc) l := id rfl
@[simp ↓] theorem kRes_cons (K : CV → Hl → Prop) (σ : Sg) (l : Hl) (m : Mo) (r : List Mo) (acc : List CV) : kRes P G K σ l (m :: r) acc = W (mstep P (ev G σ) l m) (c := ⟨fun x => kRes P G K σ l r (acc ++ [x.1])⟩) := id rfl
@[simp] theorem tuple1_1 (v : CV) : tuple1 [v] = v := id rfl
@[simp] theorem tuple1_2 (v w : CV) (r : List CV) : tuple1 (v :: w :: r) = .tu (v :: w :: r) := id rfl

@[simp ↓] theorem runS_nil (σ : Sg) (l : Hl) (K : Sg → Hl → Prop) : runS P G [] σ l K = K σ l := id rfl
@[simp ↓] theorem runS_mo (i : Nat) (dst : Option Tmp) (m : Mo) (c : List Nat) (k : Bool) (r : List Stp) (σ : Sg) (l : Hl) (K : Sg → Hl → Prop) :
    runS P G (⟨i, dst, none, .mo m, c, k⟩ :: r) σ l K = W (mstep P (ev G σ) l m) (c := ⟨fun x => keepK m x.1 x.2 fun v l' => runS P G r (putC σ dst v) l' K⟩) := id rfl
@[simp ↓] theorem runS_callF (i : Nat) (dst : Option Tmp) (f : FuncId) (args : List Operand) (c : List Nat) (k : Bool) (r : List Stp) (σ : Sg) (l : Hl) (K : Sg → Hl → Prop) :
    runS P G (⟨i, dst, none, .callF f args, c, k⟩ :: r) σ l K = CallP P G f (args.map (ev G σ)) l (c := ⟨fun v l' => runS P G r (putC σ dst v) l' K⟩) := id rfl
@[simp ↓] theorem runS_callV (i : Nat) (dst : Option Tmp) (x : Operand) (args : List Operand) (c : List Nat) (k : Bool) (r : List Stp) (σ : Sg) (l : Hl) (K : Sg → Hl → Prop) :
    runS P G (⟨i, dst, none, .callV x args, c, k⟩ :: r) σ l K = callVP P G (ev G σ x) (args.map (ev G σ)) l (c := ⟨fun v l' => runS P G r (putC σ dst v) l' K⟩) := id rfl
@[simp ↓] theorem runS_g (i : Nat) (dst : Option Tmp) (d : Tmp) (w : Bool) (b : Bd) (c : List Nat) (k : Bool) (r : List Stp) (σ : Sg) (l : Hl) (K : Sg → Hl → Prop) :
    runS P G (⟨i, dst, some (some d, w), b, c, k⟩ :: r) σ l K = kG (σ d) w (c := ⟨runS P G (⟨i, dst, none, b, c, k⟩ :: r) σ l K, runS P G r (putC σ dst undefC) l K⟩) := id rfl
@[simp ↓] theorem runD_nil (σ : Sg) (l : Hl) (seen : Seen) (K : Sg → Hl → Prop) : runD P G [] σ l seen K = K σ l := id rfl
@[simp ↓] theorem runD_mo (i : Nat) (dst : Option Tmp) (m : Mo) (c : List Nat) (k : Bool) (r : List Stp) (σ : Sg) (l : Hl) (seen : Seen) (K : Sg → Hl → Prop) :
    runD P G (⟨i, dst, none, .mo m, c, k⟩ :: r) σ l seen K = W (mstep P (ev G σ) l m) (c := ⟨fun x => keepK m x.1 x.2 fun v l' => chks c seen l' ∧ runD P G r (putC σ dst v) l' (seenAdd k i (stillP P G (.mo m) σ v l l') seen) K⟩) := id rfl
@[simp ↓] theorem runD_callF (i : Nat) (dst : Option Tmp) (f : FuncId) (args : List Operand) (c : List Nat) (k : Bool) (r : List Stp) (σ : Sg) (l : Hl) (seen : Seen) (K : Sg → Hl → Prop) :
    runD P G (⟨i, dst, none, .callF f args, c, k⟩ :: r) σ l seen K = CallP P G f (args.map (ev G σ)) l (c := ⟨fun v l' => chks c seen l' ∧ runD P G r (putC σ dst v) l' (seenAdd k i (fun _ => True) seen) K⟩) := id rfl
@[simp ↓] theorem runD_callV (i : Nat) (dst : Option Tmp) (x : Operand) (args : List Operand) (c : List Nat) (k : Bool) (r : List Stp) (σ : Sg) (l : Hl) (seen : Seen) (K : Sg → Hl → Prop) :
    runD P G (⟨i, dst, none, .callV x args, c, k⟩ :: r) σ l seen K = callVP P G (ev G σ x) (args.map (ev G σ)) l (c := ⟨fun v l' => chks c seen l' ∧ runD P G r (putC σ dst v) l' (seenAdd k i (fun _ => True) seen) K⟩) := id rfl
@[simp ↓] theorem runD_g (i : Nat) (dst : Option Tmp) (d : Tmp) (w : Bool) (b : Bd) (c : List Nat) (k : Bool) (r : List Stp) (σ : Sg) (l : Hl) (seen : Seen) (K : Sg → Hl → Prop) :
    runD P G (⟨i, dst, some (some d, w), b, c, k⟩ :: r) σ l seen K = kG (σ d) w (c := ⟨runD P G (⟨i, dst, none, b, c, k⟩ :: r) σ l seen K, runD P G r (putC σ dst undefC) l seen K⟩) := id rfl
@[simp] theorem chks_nil (ids : List Nat) (l : Hl) : chks ids [] l = True := id rfl
@[simp] theorem chks_cons (ids : List Nat) (e : Nat × (Hl → Prop)) (r : Seen) (l : Hl) : chks ids (e :: r) l = ((ids.contains e.1 = true → e.2 l) ∧ chks ids r l) := id rfl
@[simp] theorem seenAdd_t (i : Nat) (p : Hl → Prop) (s : Seen) : seenAdd true i p s = (i, p) :: s := id rfl
@[simp] theorem seenAdd_f (i : Nat) (p : Hl → Prop) (s : Seen) : seenAdd false i p s = s := id rfl
@[simp] theorem stillP_mo (m : Mo) (σ : Sg) (v : CV) (l l' l1 : Hl) : stillP P G (.mo m) σ v l l' l1 = (match m.isNew with | true => l1[l.length]? = l'[l.length]? | false => mstep P (ev G σ) l1 m = some (v, l1)) := id rfl

@[simp ↓] theorem keep_mv (x : Operand) (v : CV) (l : Hl) (K : CV → Hl → Prop) : keepK (.mv x) v l K = K v l := id rfl
@[simp ↓] theorem keep_pick (c a b : Operand) (v : CV) (l : Hl) (K : CV → Hl → Prop) : keepK (.pick c a b) v l K = K v l := id rfl
@[simp ↓] theorem keep_alloc (z : List CV) (v : CV) (l : Hl) (K : CV → Hl → Prop) : keepK (.alloc z) v l K = K v l := id rfl
@[simp ↓] theorem keep_box (x : Operand) (v : CV) (l : Hl) (K : CV → Hl → Prop) : keepK (.box x) v l K = K v l := id rfl
@[simp ↓] theorem keep_bld (z : List CV) (ps : List (Nat × Nat × Operand)) (v : CV) (l : Hl) (K : CV → Hl → Prop) : keepK (.bld z ps) v l K = K v l := id rfl
@[simp ↓] theorem keep_bsl (z : Nat) (zero : List CV) (n : Nat) (ps : List (Nat × Operand)) (v : CV) (l : Hl) (K : CV → Hl → Prop) : keepK (.bsl z zero n ps) v l K = K v l := id rfl
@[simp ↓] theorem keep_ld1 (a : Operand) (v : CV) (l : Hl) (K : CV → Hl → Prop) : keepK (.ld1 a) v l K = K v l := id rfl
@[simp ↓] theorem keep_ldA (n : Nat) (a : Operand) (v : CV) (l : Hl) (K : CV → Hl → Prop) : keepK (.ldA n a) v l K = K v l := id rfl
@[simp ↓] theorem keep_st (n : Nat) (a x : Operand) (v : CV) (l : Hl) (K : CV → Hl → Prop) : keepK (.st n a x) v l K = K v l := id rfl
@[simp ↓] theorem keep_nilc (x : Operand) (v : CV) (l : Hl) (K : CV → Hl → Prop) : keepK (.nilc x) v l K = K v l := id rfl
@[simp ↓] theorem keep_bin (o : BinOp) (t : TypeId) (x y : Operand) (v : CV) (l : Hl) (K : CV → Hl → Prop) : keepK (.bin o t x y) v l K = K v l := id rfl
@[simp ↓] theorem keep_un (o : UnOp) (x : Operand) (v : CV) (l : Hl) (K : CV → Hl → Prop) : keepK (.un o x) v l K = K v l := id rfl
@[simp ↓] theorem keep_cint (k : IntKind) (x : Operand) (v : CV) (l : Hl) (K : CV → Hl → Prop) : keepK (.cint k x) v l K = K v l := id rfl
@[simp ↓] theorem keep_cstr (x : Operand) (v : CV) (l : Hl) (K : CV → Hl → Prop) : keepK (.cstr x) v l K = K v l := id rfl
@[simp ↓] theorem keep_cbs (x : Operand) (v : CV) (l : Hl) (K : CV → Hl → Prop) : keepK (.cbs x) v l K = K v l := id rfl
@[simp ↓] theorem keep_csb (x : Operand) (v : CV) (l : Hl) (K : CV → Hl → Prop) : keepK (.csb x) v l K = K v l := id rfl
@[simp ↓] theorem keep_mkI (t : TypeId) (x : Operand) (v : CV) (l : Hl) (K : CV → Hl → Prop) : keepK (.mkI t x) v l K = K v l := id rfl
@[simp ↓] theorem keep_mkF (f : FuncId) (a b : List Operand) (v : CV) (l : Hl) (K : CV → Hl → Prop) : keepK (.mkF f a b) v l K = K v l := id rfl
@[simp ↓] theorem keep_mks (z b : Nat) (zero : List CV) (x y : Operand) (v : CV) (l : Hl) (K : CV → Hl → Prop) : keepK (.mks z b zero x y) v l K = K v l := id rfl
@[simp ↓] theorem keep_slice (ti : TI) (x : Operand) (lo hi mx : Option Operand) (v : CV) (l : Hl) (K : CV → Hl → Prop) : keepK (.slice ti x lo hi mx) v l K = K v l := id rfl
@[simp ↓] theorem keep_fa (n : Nat) (x : Operand) (v : CV) (l : Hl) (K : CV → Hl → Prop) : keepK (.fa n x) v l K = K v l := id rfl
@[simp ↓] theorem keep_fld1 (n : Nat) (x : Operand) (v : CV) (l : Hl) (K : CV → Hl → Prop) : keepK (.fld1 n x) v l K = K v l := id rfl
@[simp ↓] theorem keep_fldA (n m : Nat) (x : Operand) (v : CV) (l : Hl) (K : CV → Hl → Prop) : keepK (.fldA n m x) v l K = K v l := id rfl
@[simp ↓] theorem keep_ia (ti : TI) (x y : Operand) (v : CV) (l : Hl) (K : CV → Hl → Prop) : keepK (.ia ti x y) v l K = K v l := id rfl
@[simp ↓] theorem keep_ix1 (n z : Nat) (x y : Operand) (v : CV) (l : Hl) (K : CV → Hl → Prop) : keepK (.ix1 n z x y) v l K = K v l := id rfl
@[simp ↓] theorem keep_ixA (n z : Nat) (x y : Operand) (v : CV) (l : Hl) (K : CV → Hl → Prop) : keepK (.ixA n z x y) v l K = K v l := id rfl
@[simp ↓] theorem keep_ixT (x y : Operand) (v : CV) (l : Hl) (K : CV → Hl → Prop) : keepK (.ixT x y) v l K = K v l := id rfl
@[simp ↓] theorem keep_ext (x : Operand) (n : Nat) (v : CV) (l : Hl) (K : CV → Hl → Prop) : keepK (.ext x n) v l K = K v l := id rfl
@[simp ↓] theorem keep_len (ti : TI) (x : Operand) (v : CV) (l : Hl) (K : CV → Hl → Prop) : keepK (.len ti x) v l K = K v l := id rfl
@[simp ↓] theorem keep_cap (ti : TI) (x : Operand) (v : CV) (l : Hl) (K : CV → Hl → Prop) : keepK (.cap ti x) v l K = K v l := id rfl
@[simp ↓] theorem keep_appZ (z b : Nat) (zero : List CV) (x y : Operand) (v : CV) (l : Hl) (K : CV → Hl → Prop) : keepK (.appZ z b zero x y) v l K = K v l := id rfl
@[simp ↓] theorem keep_cpy (z : Nat) (x y : Operand) (v : CV) (l : Hl) (K : CV → Hl → Prop) : keepK (.cpy z x y) v l K = K v l := id rfl
@[simp ↓] theorem keep_clr (zero : List CV) (x : Operand) (v : CV) (l : Hl) (K : CV → Hl → Prop) : keepK (.clr zero x) v l K = K v l := id rfl
@[simp ↓] theorem keep_min (x y : Operand) (v : CV) (l : Hl) (K : CV → Hl → Prop) : keepK (.min x y) v l K = K v l := id rfl
@[simp ↓] theorem keep_max (x y : Operand) (v : CV) (l : Hl) (K : CV → Hl → Prop) : keepK (.max x y) v l K = K v l := id rfl
@[simp ↓] theorem keep_app (z b : Nat) (x y : Operand) (v : CV) (l : Hl) (K : CV → Hl → Prop) : keepK (.app z b x y) v l K = AppK v l (c := ⟨K⟩) := id rfl
theorem AppK.keep {v : CV} {l : Hl} {K : CV → Hl → Prop} (h : K v l) : AppK v l (c := ⟨K⟩) := .inl h
@[simp] theorem isNew_ld1 (a : Operand) : (Mo.ld1 a).isNew = false := id rfl
@[simp] theorem isNew_ldA (n : Nat) (a : Operand) : (Mo.ldA n a).isNew = false := id rfl
@[simp] theorem isNew_cint (k : IntKind) (a : Operand) : (Mo.cint k a).isNew = false := id rfl
@[simp] theorem isNew_cstr (a : Operand) : (Mo.cstr a).isNew = false := id rfl
@[simp] theorem isNew_cbs (a : Operand) : (Mo.cbs a).isNew = false := id rfl
@[simp] theorem isNew_csb (a : Operand) : (Mo.csb a).isNew = false := id rfl
@[simp] theorem isNew_alloc (z : List CV) : (Mo.alloc z).isNew = true := id rfl
@[simp] theorem isNew_box (a : Operand) : (Mo.box a).isNew = true := id rfl
@[simp] theorem isNew_bsl (z : Nat) (zero : List CV) (n : Nat) (ps : List (Nat × Operand)) : (Mo.bsl z zero n ps).isNew = true := id rfl
@[simp] theorem isNew_mks (z b : Nat) (zero : List CV) (x y : Operand) : (Mo.mks z b zero x y).isNew = true := id rfl
@[simp] theorem pu_eq (l l' : Hl) (x : Option CV) (v : CV) : (pu l x = some (v, l')) = (x = some v ∧ l' = l) := propext pu_some
@[simp ↓] theorem W_some {α : Type} (x : α) (k : α → Prop) : W (some x) (c := ⟨k⟩) = k x := id rfl
@[simp ↓] theorem W_pu (l : Hl) (o : Option CV) (k : CV × Hl → Prop) : W (pu l o) (c := ⟨k⟩) = W o (c := ⟨fun v => k (v, l)⟩) := by unfold W pu; cases o <;> rfl
@[simp ↓] theorem W_map {α β : Type} (o : Option α) (f : α → β) (k : β → Prop) : W (o.map f) (c := ⟨k⟩) = W o (c := ⟨fun v => k (f v)⟩) := by unfold W; cases o <;> rfl
@[simp ↓] theorem W_if {α : Type} (p : Prop) [Decidable p] (x : α) (k : α → Prop) : W (if p then some x else none) (c := ⟨k⟩) = (p ∧ k x) := by unfold W; by_cases h : p <;> simp [h]
@[simp ↓] theorem kCond_b (b : Bool) (p q : Prop) : kCond (.bool b) (c := ⟨p, q⟩) = kIf b (c := ⟨p, q⟩) := id rfl
@[simp ↓] theorem kIf_t (p q : Prop) : kIf true (c := ⟨p, q⟩) = p := id rfl
@[simp ↓] theorem kIf_f (p q : Prop) : kIf false (c := ⟨p, q⟩) = q := id rfl
@[simp ↓] theorem kG_t (b : Bool) (p q : Prop) : kG (.bool b) true (c := ⟨p, q⟩) = kIf b (c := ⟨p, q⟩) := by cases b <;> rfl
@[simp ↓] theorem kG_f (b : Bool) (p q : Prop) : kG (.bool b) false (c := ⟨p, q⟩) = kIf b (c := ⟨q, p⟩) := by cases b <;> rfl
@[simp ↓] theorem kG_u (w : Bool) (p q : Prop) : kG undefC w (c := ⟨p, q⟩) = q := id rfl
@[simp ↓] theorem kG_u' (w : Bool) (p q : Prop) : kG (.tu []) w (c := ⟨p, q⟩) = q := id rfl
theorem kIf_intro {b : Bool} {p q : Prop} (h1 : b = true → p) (h2 : b = false → q) : kIf b (c := ⟨p, q⟩) := by cases b; exact h2 rfl; exact h1 rfl

@[simp ↓] theorem putC_s (σ : Sg) (d : Tmp) (v : CV) : putC σ (some d) v = fupd σ d v := id rfl
@[simp ↓] theorem putC_n (σ : Sg) (v : CV) : putC σ none v = σ := id rfl
@[simp] theorem fupd_at {α : Type} (s : Nat → α) (d : Nat) (v : α) (t : Nat) : fupd s d v t = if t = d then v else s t := id rfl
@[simp] theorem argsS_at (args : List CV) (t : Nat) : argsS args t = args.getD t undefC := id rfl
@[simp] theorem ev_tmp (σ : Sg) (t : Tmp) : ev G σ (.tmp t) = σ t := id rfl
@[simp] theorem ev_func (σ : Sg) (f : FuncId) : ev G σ (.func f) = .fn f [] [] := id rfl
@[simp] theorem ev_global (σ : Sg) (g : Nat) : ev G σ (.global g) = G g := id rfl
@[simp] theorem ev_int (σ : Sg) (k : IntKind) (n : Int) : ev G σ (.const (.int k n)) = .int k n := id rfl
@[simp] theorem ev_bool (σ : Sg) (b : Bool) : ev G σ (.const (.bool b)) = .bool b := id rfl
@[simp] theorem ev_str (σ : Sg) (s : ByteArray) : ev G σ (.const (.string s)) = .str s.data.toList := id rfl
@[simp] theorem ev_nilS (σ : Sg) : ev G σ (.const (.slice none 0 0)) = .nilS := id rfl
@[simp] theorem ev_nilP (σ : Sg) : ev G σ (.const (.pointer none)) = .nilP := id rfl
@[simp] theorem ev_nilM (σ : Sg) : ev G σ (.const (.map none)) = .nilM := id rfl
@[simp] theorem ev_nilF (σ : Sg) : ev G σ (.const .nilFunc) = .nilF := id rfl
@[simp] theorem ev_nilI (σ : Sg) : ev G σ (.const .nilIface) = .nilI := id rfl
@[simp] theorem ev_tuple (σ : Sg) : ev G σ (.const (.tuple #[])) = .tu [] := id rfl

variable (ρ : Operand → CV) (l : Hl)
@[simp ↓] theorem m_mv (x : Operand) : mstep P ρ l (.mv x) = some (ρ x, l) := id rfl
@[simp ↓] theorem m_pick (c a b : Operand) : mstep P ρ l (.pick c a b) = pu l (pickC (ρ c) (ρ a) (ρ b)) := id rfl
@[simp ↓] theorem m_alloc (z : List CV) : mstep P ρ l (.alloc z) = some (.ptr l.length 0 z.length, l ++ [.cells z.length z]) := id rfl
@[simp ↓] theorem m_box (x : Operand) : mstep P ρ l (.box x) = (ρ x).cells.map fun cs => (.ptr l.length 0 cs.length, l ++ [.cells cs.length cs]) := id rfl
@[simp ↓] theorem m_bld (zero : List CV) (ps : List (Nat × Nat × Operand)) : mstep P ρ l (.bld zero ps) = pu l ((bldC zero (ps.map fun p => (p.1, p.2.1, ρ p.2.2))).map .ag) := id rfl
@[simp ↓] theorem m_bsl (z : Nat) (zero : List CV) (len : Nat) (ps : List (Nat × Operand)) : mstep P ρ l (.bsl z zero len ps) = (fillC (fun i => some (i * z, z)) (repeatC zero len) (ps.map fun p => (p.1, ρ p.2))).map fun cs => (.sl z l.length 0 len len (len * z), l ++ [.cells (len * z) cs]) := id rfl
@[simp ↓] theorem m_ld1 (a : Operand) : mstep P ρ l (.ld1 a) = pu l ((reachL l (ρ a)).bind fun x => x.1[x.2]?) := id rfl
@[simp ↓] theorem m_ldA (n : Nat) (a : Operand) : mstep P ρ l (.ldA n a) = pu l ((reachL l (ρ a)).bind fun x => partA n x.1 x.2) := id rfl
@[simp ↓] theorem m_st (n : Nat) (a x : Operand) : mstep P ρ l (.st n a x) = (storeL n l (ρ a) (ρ x)).map fun l' => (undefC, l') := id rfl
@[simp ↓] theorem m_nilc (x : Operand) : mstep P ρ l (.nilc x) = pu l (nilcC (ρ x)) := id rfl
@[simp ↓] theorem m_bin (o : BinOp) (t : TypeId) (x y : Operand) : mstep P ρ l (.bin o t x y) = pu l (binC P o t (ρ x) (ρ y)) := id rfl
@[simp ↓] theorem m_un (o : UnOp) (x : Operand) : mstep P ρ l (.un o x) = pu l (unC o (ρ x)) := id rfl
@[simp ↓] theorem m_cint (k : IntKind) (x : Operand) : mstep P ρ l (.cint k x) = pu l (cintC k (ρ x)) := id rfl
@[simp ↓] theorem m_cstr (x : Operand) : mstep P ρ l (.cstr x) = pu l (cstrC (ρ x)) := id rfl
@[simp ↓] theorem m_cbs (x : Operand) : mstep P ρ l (.cbs x) = pu l (cbsC l (ρ x)) := id rfl
@[simp ↓] theorem m_csb (x : Operand) : mstep P ρ l (.csb x) = pu l (csbC (ρ x)) := id rfl
@[simp ↓] theorem m_mkI (t : TypeId) (x : Operand) : mstep P ρ l (.mkI t x) = some (.ifc t (ρ x), l) := id rfl
@[simp ↓] theorem m_mkF (f : FuncId) (a b : List Operand) : mstep P ρ l (.mkF f a b) = some (.fn f (a.map ρ) (b.map ρ), l) := id rfl
@[simp ↓] theorem m_mks (z by_ : Nat) (zero : List CV) (a c : Operand) : mstep P ρ l (.mks z by_ zero a c) = mksC z by_ zero l (ρ a) (ρ c) := id rfl
@[simp ↓] theorem m_slice (ti : TI) (x : Operand) (lo hi mx : Option Operand) : mstep P ρ l (.slice ti x lo hi mx) = pu l (sliceM ti (ρ x) (lo.map ρ) (hi.map ρ) (mx.map ρ)) := id rfl
@[simp ↓] theorem m_fa (off : Nat) (x : Operand) : mstep P ρ l (.fa off x) = pu l (cellAt (ρ x) off) := id rfl
@[simp ↓] theorem m_fld1 (off : Nat) (x : Operand) : mstep P ρ l (.fld1 off x) = pu l (fldC1 off (ρ x)) := id rfl
@[simp ↓] theorem m_fldA (n off : Nat) (x : Operand) : mstep P ρ l (.fldA n off x) = pu l (fldCA n off (ρ x)) := id rfl
@[simp ↓] theorem m_ia (ti : TI) (x i : Operand) : mstep P ρ l (.ia ti x i) = pu l (iaC ti (ρ x) (ρ i)) := id rfl
@[simp ↓] theorem m_ix1 (n z : Nat) (x i : Operand) : mstep P ρ l (.ix1 n z x i) = pu l (ixC1 n z (ρ x) (ρ i)) := id rfl
@[simp ↓] theorem m_ixA (n z : Nat) (x i : Operand) : mstep P ρ l (.ixA n z x i) = pu l (ixCA n z (ρ x) (ρ i)) := id rfl
@[simp ↓] theorem m_ixT (x i : Operand) : mstep P ρ l (.ixT x i) = pu l (ixCT (ρ x) (ρ i)) := id rfl
@[simp ↓] theorem m_ext (x : Operand) (i : Nat) : mstep P ρ l (.ext x i) = pu l (extC (ρ x) i) := id rfl
@[simp ↓] theorem m_len (ti : TI) (x : Operand) : mstep P ρ l (.len ti x) = pu l (lenM ti (ρ x)) := id rfl
@[simp ↓] theorem m_cap (ti : TI) (x : Operand) : mstep P ρ l (.cap ti x) = pu l (capM ti (ρ x)) := id rfl
@[simp ↓] theorem m_app (z by_ : Nat) (s x : Operand) : mstep P ρ l (.app z by_ s x) = appM l z by_ (ρ s) (ρ x) := id rfl
@[simp ↓] theorem m_appZ (z by_ : Nat) (zero : List CV) (s x : Operand) : mstep P ρ l (.appZ z by_ zero s x) = appZM l z by_ zero (ρ s) (ρ x) := id rfl
@[simp ↓] theorem m_cpy (z : Nat) (d x : Operand) : mstep P ρ l (.cpy z d x) = copyL z l (ρ d) (ρ x) := id rfl
@[simp ↓] theorem m_clr (zero : List CV) (x : Operand) : mstep P ρ l (.clr zero x) = (clearL zero l (ρ x)).map fun l' => (.tu [], l') := id rfl
@[simp ↓] theorem m_min (x y : Operand) : mstep P ρ l (.min x y) = pu l (min2C (ρ x) (ρ y)) := id rfl
@[simp ↓] theorem m_max (x y : Operand) : mstep P ρ l (.max x y) = pu l (max2C (ρ x) (ρ y)) := id rfl

/-! ### Values -/
@[simp] theorem pickC_b (t : Bool) (a b : CV) : pickC (.bool t) a b = some (if t = true then a else b) := id rfl
@[simp] theorem cells_ag (cs : List CV) : (CV.ag cs).cells = some cs := id rfl
@[simp] theorem cells_int (k : IntKind) (n : Int) : (CV.int k n).cells = some [.int k n] := id rfl
@[simp] theorem cells_bool (b : Bool) : (CV.bool b).cells = some [.bool b] := id rfl
@[simp] theorem cells_str (s : List UInt8) : (CV.str s).cells = some [.str s] := id rfl
@[simp] theorem cells_nilS : CV.nilS.cells = some [.nilS] := id rfl
@[simp] theorem cells_nilP : CV.nilP.cells = some [.nilP] := id rfl
@[simp] theorem cells_nilF : CV.nilF.cells = some [.nilF] := id rfl
@[simp] theorem cells_nilM : CV.nilM.cells = some [.nilM] := id rfl
@[simp] theorem cells_rsl (z : Nat) (es : List (List CV)) : (CV.rsl z es).cells = some [.rsl z es] := id rfl
@[simp] theorem cells_sl (z b o n c s : Nat) : (CV.sl z b o n c s).cells = some [.sl z b o n c s] := id rfl
@[simp] theorem cells_ptr (b o s : Nat) : (CV.ptr b o s).cells = some [.ptr b o s] := id rfl
@[simp] theorem cells_fn (f : FuncId) (a b : List CV) : (CV.fn f a b).cells = some [.fn f a b] := id rfl
@[simp] theorem cells_mp (b : Nat) : (CV.mp b).cells = some [.mp b] := id rfl
@[simp] theorem cellAt_ptr (b off sz k : Nat) : cellAt (.ptr b off sz) k = some (.ptr b (off + k) sz) := id rfl
@[simp] theorem cellAt_rptr (cs : List CV) (off k : Nat) : cellAt (.rptr cs off) k = some (.rptr cs (off + k)) := id rfl
@[simp] theorem nilcC_ptr (b o s : Nat) : nilcC (.ptr b o s) = some (.ptr b o s) := id rfl
@[simp] theorem nilcC_rptr (cs : List CV) (o : Nat) : nilcC (.rptr cs o) = some (.rptr cs o) := id rfl
@[simp] theorem nilcC_fn (f : FuncId) (a b : List CV) : nilcC (.fn f a b) = some (.fn f a b) := id rfl
def rch (x : Option CB) (off sz : Nat) : Option (List CV × Nat) := match x with
  | some (.cells n cs) => if n = sz then some (cs, off) else none
  | _ => none
@[simp] theorem reachL_ptr (b off sz : Nat) : reachL l (.ptr b off sz) = rch l[b]? off sz := by
  unfold reachL rch; rfl
@[simp] theorem rch_cells (n : Nat) (cs : List CV) (off sz : Nat) : rch (some (.cells n cs)) off sz = if n = sz then some (cs, off) else none := id rfl
@[simp] theorem reachL_rptr (cs : List CV) (off : Nat) : reachL l (.rptr cs off) = some (cs, off) := id rfl
def sto (n : Nat) (l : Hl) (b off sz : Nat) (vs : List CV) (x : Option CB) : Option Hl := match x with
  | some (.cells m cs) => if m = sz ∧ vs.length = n ∧ off + n ≤ m then some (l.set b (.cells m (splice cs off vs))) else none
  | _ => none
@[simp] theorem storeL_ptr (n b off sz : Nat) (v : CV) : storeL n l (.ptr b off sz) v = v.cells.bind fun vs => sto n l b off sz vs l[b]? := by
  unfold storeL sto
  cases v.cells <;> rfl
@[simp] theorem sto_cells (n b off sz : Nat) (vs : List CV) (m : Nat) (cs : List CV) : sto n l b off sz vs (some (.cells m cs)) = if m = sz ∧ vs.length = n ∧ off + n ≤ m then some (l.set b (.cells m (splice cs off vs))) else none := id rfl
@[simp] theorem partA_def (n : Nat) (cs : List CV) (off : Nat) : partA n cs off = if off + n ≤ cs.length then some (.ag ((cs.drop off).take n)) else none := id rfl
@[simp] theorem splice_s (a : CV) (cs vs : List CV) (off : Nat) : splice (a :: cs) (off + 1) vs = a :: splice cs off vs := by
  simp only [splice, List.take_succ_cons, List.cons_append, show off + 1 + vs.length = (off + vs.length) + 1 by omega, List.drop_succ_cons]
@[simp] theorem splice_c (a v : CV) (cs vs : List CV) : splice (a :: cs) 0 (v :: vs) = v :: splice cs 0 vs := by simp [splice]
@[simp] theorem splice_n (cs : List CV) : splice cs 0 [] = cs := by simp [splice]
@[simp] theorem splice_e (vs : List CV) : splice [] 0 vs = vs := by simp [splice]
@[simp] theorem bldC_nil (zero : List CV) : bldC zero [] = some zero := id rfl
theorem bldC_cons (zero : List CV) (off size : Nat) (v : CV) (r : List (Nat × Nat × CV)) : bldC zero ((off, size, v) :: r) = v.cells.bind fun vs => if vs.length = size ∧ off + size ≤ zero.length then bldC (splice zero off vs) r else none := by
  rw [bldC]; cases v.cells <;> rfl
attribute [simp] bldC_cons
@[simp] theorem fillC_nil (place : Nat → Option (Nat × Nat)) (zero : List CV) : fillC place zero [] = some zero := id rfl
@[simp] theorem fillC_cons (place : Nat → Option (Nat × Nat)) (zero : List CV) (i : Nat) (v : CV) (r : List (Nat × CV)) : fillC place zero ((i, v) :: r) = (place i).bind fun q => v.cells.bind fun vs => if vs.length = q.2 ∧ q.1 + q.2 ≤ zero.length then fillC place (splice zero q.1 vs) r else none := by
  rw [fillC]
  cases place i with
  | none => rfl
  | some q => cases v.cells <;> rfl
@[simp] theorem repeatC_0 (zero : List CV) : repeatC zero 0 = [] := id rfl
@[simp] theorem repeatC_s (zero : List CV) (n : Nat) : repeatC zero (n + 1) = zero ++ repeatC zero n := id rfl
@[simp] theorem bin_int (o : BinOp) (t : TypeId) (k : IntKind) (a : Int) (k' : IntKind) (b : Int) : binC P o t (.int k a) (.int k' b) = binInt o k a k' b := id rfl
@[simp] theorem bin_str (o : BinOp) (t : TypeId) (a b : List UInt8) : binC P o t (.str a) (.str b) = binStr o a b := id rfl
@[simp] theorem bin_lss (k : IntKind) (a b : Int) : binInt .lss k a k b = some (.bool (decide (a < b))) := by simp [binInt]
@[simp] theorem bin_leq (k : IntKind) (a b : Int) : binInt .leq k a k b = some (.bool (decide (a ≤ b))) := by simp [binInt]
@[simp] theorem bin_gtr (k : IntKind) (a b : Int) : binInt .gtr k a k b = some (.bool (decide (b < a))) := by simp [binInt]
@[simp] theorem bin_geq (k : IntKind) (a b : Int) : binInt .geq k a k b = some (.bool (decide (b ≤ a))) := by simp [binInt]
@[simp] theorem bin_eql (k : IntKind) (a b : Int) : binInt .eql k a k b = some (.bool (decide (a = b))) := by
  have : (a == b) = decide (a = b) := by by_cases h : a = b <;> simp [h]
  simp [binInt, this]
@[simp] theorem bin_neq (k : IntKind) (a b : Int) : binInt .neq k a k b = some (.bool (!decide (a = b))) := by
  have : (a != b) = !decide (a = b) := by by_cases h : a = b <;> simp [h]
  simp [binInt, this]
@[simp] theorem bin_add (k : IntKind) (a b : Int) : binInt .add k a k b = some (.int k (k.wrap (a + b))) := by simp [binInt]
@[simp] theorem bin_sub (k : IntKind) (a b : Int) : binInt .sub k a k b = some (.int k (k.wrap (a - b))) := by simp [binInt]
@[simp] theorem bin_mul (k : IntKind) (a b : Int) : binInt .mul k a k b = some (.int k (k.wrap (a * b))) := by simp [binInt]
@[simp] theorem un_not (b : Bool) : unC .not (.bool b) = some (.bool (!b)) := id rfl
@[simp] theorem un_neg (k : IntKind) (n : Int) : unC .neg (.int k n) = some (.int k (k.wrap (0 - n))) := id rfl
@[simp] theorem cintC_int (k k' : IntKind) (n : Int) : cintC k (.int k' n) = some (.int k (k.wrap n)) := id rfl
@[simp] theorem ia_rsl (z z' : Nat) (es : List (List CV)) (k : IntKind) (i : Int) : iaC (.sl z) (.rsl z' es) (.int k i) = if z = z' ∧ 0 ≤ i then (es[i.toNat]?).map fun cs => .rptr cs 0 else none := id rfl
@[simp] theorem ia_sl (z z' b off len cap sz : Nat) (k : IntKind) (i : Int) : iaC (.sl z) (.sl z' b off len cap sz) (.int k i) = if z = z' ∧ 0 ≤ i ∧ i < len then some (.ptr b (off + i.toNat * z) sz) else none := id rfl
@[simp] theorem ia_arr (n z : Nat) (x : CV) (k : IntKind) (i : Int) : iaC (.arr n z) x (.int k i) = if 0 ≤ i ∧ i < n then cellAt x (i.toNat * z) else none := id rfl
@[simp] theorem lenM_nil (z : Nat) : lenM (.sl z) .nilS = some (.int .i64 0) := id rfl
@[simp] theorem lenM_sl (z z' b o n c s : Nat) : lenM (.sl z) (.sl z' b o n c s) = some (.int .i64 n) := id rfl
@[simp] theorem lenM_rsl (z z' : Nat) (es : List (List CV)) : lenM (.sl z) (.rsl z' es) = some (.int .i64 es.length) := id rfl
@[simp] theorem lenM_str (s : List UInt8) : lenM .str (.str s) = some (.int .i64 s.length) := id rfl
@[simp] theorem lenM_arr (n z : Nat) (x : CV) : lenM (.arr n z) x = some (.int .i64 n) := id rfl
@[simp] theorem extC_tu (vs : List CV) (i : Nat) : extC (.tu vs) i = vs[i]? := id rfl
@[simp] theorem fldC1_ag (cs : List CV) (off : Nat) : fldC1 off (.ag cs) = cs[off]? := id rfl
@[simp] theorem fldCA_ag (n off : Nat) (cs : List CV) : fldCA n off (.ag cs) = partA n cs off := id rfl
end

end Go.CM
