/-
  The predecessors that a store lacks: the function that a loop ranges over, walked to its end or to the first one.
-/
import Derived.Test.YtidejmkknleijaaGreatDoorEi
import Derived.Shelf.Abstract
set_option linter.unusedVariables false
set_option linter.unusedSimpArgs false
set_option linter.unnecessarySimpa false
namespace Go.CM
open Go Go.Proofs Go.RowKit
set_option maxRecDepth 100000
namespace Op
open Sha
theorem val_of {σ : Sg} {N : Nat} {W : World} {R : Nat → Prop} {h : Hp} {μ : Mu} {a : Go.Act} (s : SR N W R h μ σ a) {t : Nat} {b : Bool} (ht : σ t = .bool b) : a.tmps.getD t undef = .bool b := by
 have := s.val t; rw [ht] at this; generalize a.tmps.getD t undef = v at this ⊢; cases this; rfl
theorem yl_of {σ : Sg} {N : Nat} {W : World} {R : Nat → Prop} {h : Hp} {μ : Mu} {a : Go.Act} (s : SR N W R h μ σ a) {t l : Nat} (ht : σ t = .yl l) : a.tmps.getD t undef = .func (.yield l) #[] #[] := by
 have := s.val t; rw [ht] at this; generalize a.tmps.getD t undef = v at this ⊢; cases this; rfl
theorem sgH_0 (E : List CV) (ps : Ids) (S : List CV) (Lo k : Nat) : sgH E ps S Lo k 0 = .yl Lo := by simp [sgH]
theorem sgH_1 (E : List CV) (ps : Ids) (S : List CV) (Lo k : Nat) : sgH E ps S Lo k 1 = .rptr (E) 0 := by simp [sgH]
theorem sgH_2 (E : List CV) (ps : Ids) (S : List CV) (Lo k : Nat) : sgH E ps S Lo k 2 = .rptr S 0 := by simp [sgH]
theorem sgH_7 (E : List CV) (ps : Ids) (S : List CV) (Lo k : Nat) : sgH E ps S Lo k 7 = encIds ps := by simp [sgH]
theorem sgH_8 (E : List CV) (ps : Ids) (S : List CV) (Lo k : Nat) : sgH E ps S Lo k 8 = .int .i64 ps.l.length := by simp [sgH]
theorem sgH_9 (E : List CV) (ps : Ids) (S : List CV) (Lo k : Nat) : sgH E ps S Lo k 9 = .int .i64 k := by simp [sgH]
set_option maxHeartbeats 2000000 in
theorem miss_call (E : List CV) (ps : Ids) (hcE : closedL E = true) (hEl : E.length = 11) (hE1 : ∀ h : 1 < E.length, E[1]'h = encIds ps) (hpo : okIds ps) (hpl : ps.l.length ≤ 1000000) (ord : Ids) (hord : okIds ord) (hol : ord.l.length ≤ 1000000) (cap ver : Int) (parts heads : CV) (hp : parts.closed = true) (hh : heads.closed = true) {n Lo : Nat} {W1 : World} {A : Nat → Prop} {p1 p2 : Value}
  (h1 : VR0 W1 A (.rptr (E) 0) p1) (h2 : VR0 W1 A (.rptr (encSt cap ver parts heads ord) 0) p2) (hg : ∀ g, VR0 W1 A (GS g) (.pointer (some ⟨g, 0, none⟩)))
  {Z : World → World → Prop} {m : Nat} (hY : ∀ (x : Value) (W : World), Blw W1 W → YieldAt Fence.wide m Tryz.prog Lo #[x] W fun e W' => e = .returned (.bool false) ∧ Z W W')
  (hZ : ∀ W W', Blw W1 W → Z W W' → ∃ A, ∀ g, VR0 W' A (GS g) (.pointer (some ⟨g, 0, none⟩))) :
  CallsIn Fence.wide n Tryz.prog 163 (#[.func (.yield Lo) #[] #[]] ++ #[p1, p2]) W1 fun e W2 => (∃ v, e = .returned v) ∧
   (((∀ x ∈ ps.l, x ∈ ord.l) ∧ Blw W1 W2) ∨ ((¬ ∀ x ∈ ps.l, x ∈ ord.l) ∧ ∃ W W', Blw W1 W ∧ Z W W' ∧ Blw W' W2)) := by
 obtain ⟨R0, R1, R2, R3, R4, o8, M⟩ := mOk
 obtain ⟨S, hS⟩ : ∃ S, S = encSt cap ver parts heads ord := ⟨_, rfl⟩
 have hcS : closedL S = true := by rw [hS]; exact closed_St hp hh
 have hSl : S.length = 5 := by rw [hS]; rfl
 have hS4 : S[4]? = some (encIds ord) := by rw [hS]; rfl
 have hS4' : ∀ h : 4 < S.length, S[4]'h = encIds ord := fun h => (List.getElem?_eq_some_iff.1 hS4).2
 rw [← hS] at h2
 have hmix : Tryz.prog.follows .mixedOrders = true := Tryz.checked.mixed
 have hlm : lenM (.sl 32) (encIds ps) = some (.int .i64 ps.l.length) := by simp [encIds]
 refine callsIn_of_wp (fn := Tryz.f163) Tryz.func163 M.body trivial ?_ rfl
 obtain ⟨Q0, hQ0⟩ : ∃ Q0, Q0 = bodyPost Tryz.prog Tryz.f163 (fun e W2 => (∃ v, e = Ending.returned v) ∧
   (((∀ x ∈ ps.l, x ∈ ord.l) ∧ Blw W1 W2) ∨ ((¬ ∀ x ∈ ps.l, x ∈ ord.l) ∧ ∃ W W', Blw W1 W ∧ Z W W' ∧ Blw W' W2))) := ⟨_, rfl⟩
 rw [← hQ0]
 have hres : ∀ (a : Go.Act) (W : World), (results Tryz.f163 a.tmps).run Tryz.prog W = .ok (.tuple #[]) W := fun a W => results_none rfl _ _ _
 -- the start
 have hnt : Tryz.f163.ntmps = 25 := by kernel_rfl
 obtain ⟨T0, hT0⟩ : ∃ T0 : Array Value, T0 = #[.func (.yield Lo) #[] #[]] ++ #[p1, p2] ++ Array.replicate (Tryz.f163.ntmps - (#[.func (.yield Lo) #[] #[]] ++ #[p1, p2] : Array Value).size) undef := ⟨_, rfl⟩
 rw [← hT0]
 rw [hnt] at hT0
 have hTs : T0.size = 25 := by rw [hT0]; simp
 have hT0' : T0 = #[.func (.yield Lo) #[] #[], p1, p2] ++ Array.replicate 22 undef := by rw [hT0]; rfl
 have up : ∀ {c : CV} {v : Value}, VR0 W1 A c v → VR W1 (fun k => A k ∨ W1.heap.size ≤ k) Hp.empty (fun _ => none) c v := fun hc => hc.up (fun k _ hk => ⟨.inl hk, not_own_empty _ k⟩)
 have hg0 : T0.getD 0 undef = .func (.yield Lo) #[] #[] := by rw [hT0', Array.getD_eq_getD_getElem?]; simp
 have hg1 : T0.getD (0 + 1) undef = p1 := by rw [hT0', Array.getD_eq_getD_getElem?]; simp
 have hg2 : T0.getD (0 + 1 + 1) undef = p2 := by rw [hT0', Array.getD_eq_getD_getElem?]; simp
 have hg3 : ∀ t, T0.getD (t + 1 + 1 + 1) undef = undef := fun t => by
  rw [hT0', Array.getD_eq_getD_getElem?, Array.getElem?_append_right (by simp), Array.getElem?_replicate]
  split <;> rfl
 obtain ⟨C1, hC1⟩ : ∃ C1, C1 = CV.rptr (E) 0 := ⟨_, rfl⟩
 obtain ⟨C2, hC2⟩ : ∃ C2, C2 = CV.rptr S 0 := ⟨_, rfl⟩
 have ha0 : argsS [.yl Lo, .rptr (E) 0, .rptr S 0] 0 = .yl Lo := by simp [argsS]
 have ha1 : argsS [.yl Lo, .rptr (E) 0, .rptr S 0] (0 + 1) = .rptr (E) 0 := by simp [argsS]
 have ha2 : argsS [.yl Lo, .rptr (E) 0, .rptr S 0] (0 + 1 + 1) = .rptr S 0 := by simp [argsS]
 have ha3 : ∀ t, argsS [.yl Lo, .rptr (E) 0, .rptr S 0] (t + 1 + 1 + 1) = undefC := fun t => by simp [argsS, List.getD]
 clear hT0 hT0' hnt
 refine wpIn_seq (code_in (σ := argsS [.yl Lo, .rptr (E) 0, .rptr S 0]) (l := []) (K := fun e σ l => e = .normal ∧ σ 0 = .yl Lo ∧ σ 1 = .rptr (E) 0 ∧ σ 2 = .rptr S 0 ∧ σ 7 = encIds ps ∧ σ 8 = .int .i64 ps.l.length ∧ σ 9 = .int .i64 (0 : Nat))
  hmix GS_closed M.c0 ?_ (rel_empty W1 (fun k => A k ∨ W1.heap.size ≤ k) fun k hk => .inr hk) (fun g => ⟨GS_closed g, up (hg g)⟩) ⟨hTs, rfl, fun t => ?_⟩ ?_)
 ·simp [argsS, hEl, hE1, hlm]
 ·rcases t with _ | _ | _ | t
  ·rw [hg0, ha0]; exact .yl _
  ·rw [hg1, ha1]; exact up h1
  ·rw [hg2, ha2]; exact up h2
  ·rw [hg3 t, ha3 t]; exact undef_ok
 rintro e a0 W0 μ0 σ0 l0 ⟨rfl, k0, k1, k2, k7, k8, k9⟩ ex0 rel0 s0
 have g0 : Gok GS W1 (fun k => A k ∨ W1.heap.size ≤ k) Hp.empty (fun _ => none) := fun g => ⟨GS_closed g, up (hg g)⟩
 have H0 : HdI E ps S Lo W1 0 a0 W0 := HdI.mk' hcE hcS (blw_rfl W1) ex0 (g0.ext ex0) s0 k0 k1 k2 k7 k8 k9
 clear k0 k1 k2 k7 k8 k9 s0 rel0 ex0 g0
 show (Code.block 0 (.loop (LP R1 R2 R3 R4))).wpIn Fence.wide n Tryz.prog Q0 a0 W0
 refine wpIn_block (wpIn_loop (fun a W => ∃ k, k ≤ ps.l.length ∧ HdI E ps S Lo W1 k a W ∧ ∀ x ∈ ps.l.take k, x ∈ ord.l) (fun a _ => match a.tmps.getD 9 undef with | .int _ k => ps.l.length - k.toNat | _ => 0) ⟨0, by omega, H0, by simp⟩ ?_)
 rintro a W ⟨k, hk, H, hall⟩
 obtain ⟨R, rel, gok, sr⟩ := H.sr
 by_cases hkl : k < ps.l.length
 ·obtain ⟨x, hx, hxm⟩ := get_of (l := ps.l) (k := k) hkl
  have hxo := hpo x hxm
  have hxl := eId_len hxo
  have e1 : IntKind.i64.wrap ((k : Int) + 1) = ((k + 1 : Nat) : Int) := by rw [IntKind.wrap_i64]; omega
  have hia : iaC (.sl 32) (encIds ps) (.int .i64 (k : Int)) = some (.rptr (eId x) 0) := by simp [encIds, hx]
  have hin := wInI_ok ord hord hol x hxo
  have hcord := closed_ids ord
  have hcx := closed_eId x
  have hst : ps.l.take (k + 1) = ps.l.take k ++ [x] := by rw [List.take_add_one, hx]; rfl
  obtain ⟨X, hX⟩ : ∃ X, X = eId x := ⟨_, rfl⟩
  rw [← hX] at hxl hia hin hcx
  have hspX : splice (rep 32 (.int .u8 0)) 0 X = X := splice_full (by rw [hxl]; rfl)
  by_cases hmem : x ∈ ord.l
  ·rw [decide_eq_true hmem] at hin
   refine code_in (σ := sgH E ps S Lo k) (l := []) (K := fun e σ l => e = .normal ∧ σ 0 = .yl Lo ∧ σ 1 = .rptr (E) 0 ∧ σ 2 = .rptr S 0 ∧ σ 7 = encIds ps ∧ σ 8 = .int .i64 ps.l.length ∧ σ 9 = .int .i64 ((k + 1 : Nat) : Int)) hmix GS_closed M.cL ?_ rel gok sr ?_
   ·unfold l163_0
    simp [sgH_0, sgH_1, sgH_2, sgH_7, sgH_8, sgH_9, hkl, hia, hxl, hspX, hSl, hS4', List.take_of_length_le]
    refine pure_call hin (by simp [closedL, CV.closed, hcord, hcx]) ?_
    simp [sgH_0, sgH_1, sgH_2, sgH_7, sgH_8, sgH_9, e1]
   ·rintro e a2 W2 μ2 σ2 l2 ⟨rfl, k0, k1, k2, k7, k8, k9⟩ ex2 rel2 s2
    have H2 : HdI E ps S Lo W1 (k + 1) a2 W2 := HdI.mk' hcE hcS H.blw ex2 (gok.ext ex2) s2 k0 k1 k2 k7 k8 k9
    refine ⟨⟨k + 1, by omega, H2, fun y hy => ?_⟩, ?_⟩
    ·rw [hst, List.mem_append, List.mem_singleton] at hy
     exact hy.elim (hall y) fun e => by rw [e]; exact hmem
    ·show (match a2.tmps.getD 9 undef with | .int _ k => ps.l.length - k.toNat | _ => 0) < (match a.tmps.getD 9 undef with | .int _ k => ps.l.length - k.toNat | _ => 0)
     rw [H2.t9, H.t9]
     simp only [Int.toNat_natCast]
     omega
  ·rw [decide_eq_false hmem] at hin
   have hno : ¬ ∀ y ∈ ps.l, y ∈ ord.l := fun h => hmem (h x hxm)
   suffices hs : (LP R1 R2 R3 R4).wpIn Fence.wide n Tryz.prog (fun e a W => e = .ret ∧ Q0 .ret a W) a W from wpIn_mono hs fun e a w ⟨he, h⟩ => by subst he; exact h
   unfold LP
   refine wpIn_seq (code_in (σ := sgH E ps S Lo k) (l := []) (K := fun e σ l => e = .normal ∧ l = [] ∧ σ 0 = .yl Lo ∧ σ 2 = .rptr S 0 ∧ σ 7 = encIds ps ∧ σ 9 = .int .i64 k ∧ σ 10 = .bool true) hmix GS_closed M.c1 ?_ rel gok sr ?_)
   ·simp [sgH_0, sgH_1, sgH_2, sgH_7, sgH_8, sgH_9, hkl]
   rintro e a1 W2 μ1 σ1 l1 ⟨rfl, rfl, k0, k2, k7, k9, k10⟩ ex1 rel1 s1
   have g1 := gok.ext ex1
   refine wpIn_seq (wpIn_cond_true (val_of s1 k10) (wpIn_skip ?_))
   refine wpIn_seq (wpIn_block (wpIn_seq ?_))
   refine code_in (σ := σ1) (l := []) (K := fun e σ l => e = .normal ∧ l = [.cells 32 X] ∧ σ 0 = .yl Lo ∧ σ 2 = .rptr S 0 ∧ σ 5 = .ptr 0 0 32) hmix GS_closed M.c2 ?_ rel1 g1 s1 ?_
   ·simp [k0, k2, k7, k9, hia, hxl, hspX, List.take_of_length_le]
   rintro e a2 W3 μ2 σ2 l2 ⟨rfl, rfl, j0, j2, j5⟩ ex2 rel2 s2
   refine wpIn_seq (wpIn_region_list ?_)
   rw [M.split]
   refine part_in (σ := σ2) hmix GS_closed M.dst3 M.ok3a (K := fun σ l => σ 18 = .bool true ∧ σ 19 = .yl Lo) ?_ rel2 (g1.ext ex2) s2 ?_
   ·simp [j0, j2, j5, hxl, hSl, hS4', List.take_of_length_le]
    refine pure_call hin (by simp [closedL, CV.closed, hcord, hcx]) ?_
    simp [j0, j5, hxl, List.take_of_length_le]
   rintro a3 W4 μ3 σ3 l3 ⟨i18, i19⟩ ex3 rel3 s3
   have hb4 : Blw W1 W4 := blw_tr H.blw (blw_ext ((ex1.trans ex2).trans ex3))
   have t18 := val_of s3 i18
   have t19 := yl_of s3 i19
   have hwant : Region.wanted o8 (yielded R3 a3.tmps) = true := by
    unfold Region.wanted yielded
    rw [M.o8_guard]
    simp only [M.o5_dst]
    have hlt : 18 < a3.tmps.size := by rw [s3.size]; omega
    have h18 : a3.tmps[18]? = some (.bool true) := by
     rw [Array.getD_eq_getD_getElem?, Array.getElem?_eq_getElem hlt] at t18
     rw [Array.getElem?_eq_getElem hlt]; simpa using t18
    simp [h18]
   unfold wpListIn
   rw [if_pos hwant]
   obtain ⟨fn, tmps, assign, body, hy, hR⟩ := hY (a3.tmps[20]?.getD undef) W4 hb4
   have hrun : (o8.semAt Fence.wide.round a3.eval).run Tryz.prog W4 = .ok (.round Lo fn tmps assign body) W4 := by
    rw [Fence.wide_round, Oper.semAt_none]
    unfold execOp
    rw [M.o8_op]
    have t19' : a3.tmps[19]?.getD undef = .func (.yield Lo) #[] #[] := by rw [← Array.getD_eq_getD_getElem?]; exact t19
    simp [go_sem, t19', hy]
    skip; done
   refine ⟨fun _ _ => trivial, ?_⟩
   rw [hrun, Oper.uponIn_round]
   refine ⟨fun hd => (by cases hd), round_any (hR.mono ?_)⟩
   rintro e W5 ⟨rfl, hz⟩
   show wpListIn Fence.wide n Tryz.prog R3 _ (R3.toList.drop 9 ++ []) (a3.put o8.dst (.bool false)) W5
   rw [M.o8_dst]
   obtain ⟨A5, hg5⟩ := hZ W4 W5 hb4 hz
   have up5 : ∀ {c : CV} {v : Value}, VR0 W5 A5 c v → VR W5 (fun k => A5 k ∨ W5.heap.size ≤ k) Hp.empty (fun _ => none) c v := fun hc => hc.up (fun k _ hk => ⟨.inl hk, not_own_empty _ k⟩)
   refine part_in (σ := fupd (fupd (fun _ => CV.bad) 18 (.bool true)) 21 (.bool false)) (l := []) hmix GS_closed M.dst3 M.ok3b (K := fun σ l => σ 23 = .bool true) ?_ (rel_empty W5 (fun k => A5 k ∨ W5.heap.size ≤ k) fun k hk => .inr hk) (fun g => ⟨GS_closed g, up5 (hg5 g)⟩) ⟨by simp [Act.put, s3.size], s3.defers, fun t => ?_⟩ ?_
   ·simp
   ·by_cases e21 : t = 21
    ·subst e21
     rw [fupd_same]
     have : (a3.put (some 21) (.bool false)).tmps.getD 21 undef = .bool false := by simp [Act.put, Array.getD_eq_getD_getElem?, s3.size]
     rw [this]; exact .bool _
    ·rw [fupd_ne _ _ _ _ e21]
     have e2 : (a3.put (some 21) (.bool false)).tmps.getD t undef = a3.tmps.getD t undef := by
      simp only [Act.put, Array.getD_eq_getD_getElem?, Array.getElem?_setIfInBounds_ne (Ne.symm e21)]
     rw [e2]
     by_cases e18 : t = 18
     ·subst e18; rw [fupd_same, t18]; exact .bool _
     ·rw [fupd_ne _ _ _ _ e18]; exact .bad _
   rintro a6 W6 μ6 σ6 l6 i23 ex6 rel6 s6
   refine wpListIn_nil ?_
   refine wpIn_cond_true (val_of s6 i23) (wpIn_ret ?_)
   refine ⟨rfl, ?_⟩
   rw [hQ0]
   exact ⟨s6.defers, _, hres _ _, ⟨_, rfl⟩, .inr ⟨hno, W4, W5, hb4, hz, blw_ext ex6⟩⟩
 ·have hke : k = ps.l.length := by omega
  rw [hke, List.take_length] at hall
  refine code_in (σ := sgH E ps S Lo k) (l := []) (K := fun e σ l => e = .exit 0) hmix GS_closed M.cL ?_ rel gok sr ?_
  ·unfold l163_0
   simp [sgH_8, sgH_9, hkl]
  ·rintro e a2 W2 μ2 σ2 l2 rfl ex2 rel2 s2
   show Q0 .normal a2 W2
   rw [hQ0]
   exact ⟨s2.defers, _, hres _ _, ⟨_, rfl⟩, .inl ⟨hall, blw_tr H.blw (blw_ext ex2)⟩⟩
end Op
end Go.CM

namespace Go.CM
open Go Go.Proofs Go.RowKit
set_option maxRecDepth 100000
section
variable {P : Program} {n : Nat}
theorem put_frame (D : List Deferred) (a : Go.Act) (d : Option Tmp) (v : Value) : ({ a with defers := a.defers ++ D } : Go.Act).put d v = { a.put d v with defers := (a.put d v).defers ++ D } := by cases d <;> rfl
theorem op_frame {D : List Deferred} {o : Oper} {a : Go.Act} {w : World} {K K' : Go.Act → World → Prop} {Q Q' : Exit → Go.Act → World → Prop} (hK : ∀ a w, K a w → K' { a with defers := a.defers ++ D } w)
  (hQ : ∀ e a w, e ≠ .normal → Q e a w → Q' e { a with defers := a.defers ++ D } w) (h : o.wp P a w K Q) : o.wpIn Fence.wide n P { a with defers := a.defers ++ D } w K' Q' := by
 unfold Oper.wp at h
 refine ⟨fun _ _ => trivial, ?_⟩
 show o.uponIn Fence.wide n P _ K' Q' ((execOp a.eval o).run P w)
 cases hx : (execOp a.eval o).run P w with
 | ok x w' =>
  rw [hx] at h
  cases x with
  | value v => show K' (Go.Act.put _ _ _) _; rw [put_frame]; exact hK _ _ h
  | skip => show K' (Go.Act.put _ _ _) _; rw [put_frame]; exact hK _ _ h
  | defer d =>
   show K' (Go.Act.put { tmps := a.tmps, defers := d :: (a.defers ++ D) } _ _) _
   have := put_frame D { tmps := a.tmps, defers := d :: a.defers } o.dst undef
   have h2 : ({ tmps := a.tmps, defers := d :: (a.defers ++ D) } : Go.Act).put o.dst undef = _ := this
   rw [h2]; exact hK _ _ h
  | enter f args =>
   refine ⟨fun hd => (by cases hd), (callsIn_wide.2 h).mono ?_⟩
   rintro (v | ch | _) w2 h2
   ·show K' (Go.Act.put _ _ _) _; rw [put_frame]; exact hK _ _ h2
   ·exact hQ _ _ _ (by simp) h2
   ·obtain ⟨a0, w0, hh⟩ := h2
    exact ⟨_, w0, hQ _ _ _ (by simp) hh⟩
  | row r args => exact ⟨fun hd => (by cases hd), fun c cs _ => let ⟨v, w', r, s⟩ := h c cs; ⟨v, w', (by show K' (Go.Act.put _ _ _) _; rw [put_frame]; exact hK _ _ r), stepsIn_wide.2 s⟩⟩
  | _ => exact h.elim
 | halt e w' =>
  rw [hx] at h
  cases e <;> first | exact hQ _ _ _ (by simp) h | exact h.elim
theorem list_frame {D : List Deferred} {all : Array Oper} {Q : Exit → Go.Act → World → Prop} : ∀ {l : List Oper} {a : Go.Act} {w : World},
  wpList P all (fun e a w => match e with | .normal => Q .normal { a with defers := a.defers ++ D } w | _ => False) l a w → wpListIn Fence.wide n P all Q l { a with defers := a.defers ++ D } w
 | [], a, w, h => wpListIn_nil h
 | o :: l, a, w, h => by
  unfold wpList at h
  unfold wpListIn
  split
  ·rename_i hw
   rw [if_pos hw] at h
   rcases h with h | ⟨_, a0, w0, hh⟩
   ·refine op_frame (fun a w hh => list_frame hh) (fun e a w he hh => ?_) h
    cases e <;> first | exact absurd rfl he | exact hh.elim
   ·exact hh.elim
  ·rename_i hw
   rw [if_neg hw] at h
   refine ⟨fun _ _ => trivial, ?_⟩
   rw [put_frame]
   exact list_frame h
variable {G : Nat → CV}
theorem part_frame (hmix : P.follows .mixedOrders = true) (hG : ∀ g, (G g).closed = true) {N n : Nat} {ops : Array Oper} (hN : ∀ (i : Nat) (o : Oper), ops[i]? = some o → dstOk N o.dst = true) {ss : List Stp} (hall : AllOk P ops ss ops.toList) {id : Nat}
  {σ : Sg} {l : Hl} {K : Sg → Hl → Prop} (hrun : runS P G ss σ l K) {D : List Deferred}
  {R : Nat → Prop} {B : Nat} {w : World} {μ : Mu} {a : Go.Act} {Q : Exit → Go.Act → World → Prop} (rel : Rel R B w (HL l) μ) (g : Gok G w R (HL l) μ) (s : SR N w R (HL l) μ σ { a with defers := [] }) (hd : a.defers = D)
  (hQ : ∀ a' w' μ' σ' l', K σ' l' → Ext w (HL l) μ w' (HL l') μ' → Rel R B w' (HL l') μ' → SR N w' R (HL l') μ' σ' { a' with defers := [] } → a'.defers = D → Q .normal a' w') : (Code.region id ops false).wpIn Fence.wide n P Q a w := by
 obtain ⟨σ', l', hev, _, hk⟩ := runS_ok hN hall hrun
 obtain ⟨tm, df⟩ := a
 subst hd
 refine wpIn_region_list ?_
 have := list_frame (P := P) (n := n) (D := df) (all := ops) (Q := Q) (l := ops.toList) (a := { tmps := tm, defers := [] }) (w := w)
  (sound hmix hG hev R B w μ _ _ rel g s fun a' w' μ' e1 r1 s1 => ?_)
 ·exact this
 ·show Q .normal _ _
  obtain ⟨tm', df'⟩ := a'
  have hd : df' = [] := s1.defers
  subst hd
  exact hQ _ w' μ' σ' l' hk e1 r1 s1 rfl
theorem fin_rel {R : Nat → Prop} {B : Nat} {w : World} {l : Hl} {μ : Mu} (rel : Rel R B w (HL l) μ) {b t : Nat} {v : Int} (hb : l[b]? = some (.cells 1 [.int .u8 v])) {tmps : Array Value} (hp : VR w R (HL l) μ (.ptr b 0 1) (tmps.getD t undef))
  {w' : World} (hw : ∀ k, B ≤ k → (∃ arr e fz, w.heap[k]? = some (.cells arr e fz)) → w'.heap[k]? = w.heap[k]?) (hs : w.heap.size ≤ w'.heap.size) {fn : Func} (hr : resC P (HL [.cells 1 [.int .u8 v]]) (fupd (fun _ => CV.bad) t (.ptr 0 0 1)) fn = some (.int .u8 v)) :
  (results fn tmps).run P w' = .ok (.int .u8 v) w' := by
 have hf : (HL l).f b = .cells 1 [.int .u8 v] := HL_cells.2 hb
 generalize hpv : tmps.getD t undef = pv at hp
 cases hp with
 | ptrGone _ _ _ a hg =>
  rcases hg with h | ⟨n, cs2, h, hlt⟩
  ·rw [hf] at h; cases h
  ·rw [hf] at h; injection h with h1 h2; omega
 | ptr _ _ _ cs2 m hb2 hm =>
  clear hb2 cs2
  have hbk := rel.blk b m hm
  have hB : B ≤ m.r := rel.base b m (by rw [hf]; rfl) hm
  rw [hf] at hbk
  obtain ⟨h1, h2, arr, e, fz, h3, h4, h5, h6⟩ := hbk
  have hf0 : (HL [.cells 1 [.int .u8 v]]).f 0 = .cells 1 [.int .u8 v] := HL_cells.2 rfl
  have hlen : ∀ b, 1 ≤ b → (HL [.cells 1 [.int .u8 v]]).f b = .none := fun b hb => by rw [HL_f, List.getElem?_eq_none (by simpa using hb)]
  have rel' : Rel (fun k => B ≤ k) B w' (HL [.cells 1 [.int .u8 v]]) (fun b => if b = 0 then some m else none) := by
   refine ⟨fun b' m' hm' => ?_, fun b1 b2 m1 m2 hl1 hl2 e1 e2 _ => ?_, fun b' m' hl hm' => ?_, fun b' hb' => hlen b' hb', fun k hk => hk, Nat.le_trans rel.size hs, fun b' hb' => ?_⟩
   ·by_cases e0 : b' = 0
    ·subst e0
     simp only [if_true, Option.some.injEq] at hm'
     subst hm'
     rw [hf0]
     refine ⟨h1, h2, arr, e, fz, (hw _ hB ⟨_, _, _, h3⟩).trans h3, h4, h5, fun j c hj => ?_⟩
     obtain ⟨x, a1, a2, a3⟩ := h6 j c hj
     refine ⟨x, a1, a2, ?_⟩
     rcases j with _ | j
     ·simp only [List.getElem?_cons_zero, Option.some.injEq] at hj
      subst hj
      cases a3
      exact .int _ _
     ·simp at hj
    ·simp [e0] at hm'
   ·by_cases c1 : b1 = 0
    ·by_cases c2 : b2 = 0
     ·omega
     ·simp [c2] at e2
    ·simp [c1] at e1
   ·by_cases e0 : b' = 0
    ·simp only [e0, if_true, Option.some.injEq] at hm'
     subst hm'
     exact hB
    ·simp [e0] at hm'
   ·have : b' ≠ 0 := fun e => by subst e; exact absurd hb' (by show ¬ (1 ≤ 0); omega)
    simp [this]
  have s' : SR tmps.size w' (fun k => B ≤ k) (HL [.cells 1 [.int .u8 v]]) (fun b => if b = 0 then some m else none) (fupd (fun _ => CV.bad) t (.ptr 0 0 1)) { tmps := tmps, defers := [] } := by
   refine ⟨rfl, rfl, fun i => ?_⟩
   by_cases ei : i = t
   ·subst ei
    rw [fupd_same]
    show VR _ _ _ _ _ (tmps.getD i undef)
    rw [hpv]
    exact .ptr 0 0 1 _ m hf0 rfl
   ·rw [fupd_ne _ _ _ _ ei]; exact .bad _
  obtain ⟨x, k1, k2⟩ := results_ok (P := P) rel' s' hr
  cases k2
  exact k1
end
def BB (B : Nat) (a b : World) : Prop := RowKit.Below B a b ∧ a.drawn ≤ b.drawn
theorem BB.of_blw {B : Nat} {a b : World} (h : Blw a b) (hB : B ≤ a.heap.size) : BB B a b := ⟨h.toBelow.mono hB, h.drawn⟩
theorem BB.tr {B : Nat} {a b c : World} (h : BB B a b) (k : BB B b c) : BB B a c := ⟨h.1.trans k.1, Nat.le_trans h.2 k.2⟩
theorem BB.put {B : Nat} (W : World) {l : Nat} (o : Obj) (hl : B ≤ l) (hB : B ≤ W.heap.size) : BB B W (W.putObj l o) :=
 ⟨(RowKit.Below.refl B W).grown (grownBy_putObj' W l o) hB (fun k e => by cases e; exact hl), Nat.le_refl _⟩
theorem BB.ext {R : Nat → Prop} {B : Nat} {w w' : World} {h h' : Hp} {μ μ' : Mu} (rel : Rel R B w h μ) (e : Ext w h μ w' h' μ') : BB B w w' :=
 ⟨⟨e.os, e.tape, e.output, e.size, fun k hk => e.keep k (Nat.lt_of_lt_of_le hk rel.size) fun ⟨b, m, h1, h2, h3⟩ => by have := rel.base b m h1 h2; omega⟩, e.drawn⟩
theorem BB.alloc {B : Nat} {a : World} (hB : B ≤ a.heap.size) (o : Obj) : BB B a (a.alloc o) := ⟨(RowKit.Below.refl B a).alloc hB o, Nat.le_refl _⟩
theorem BB.blw {a b : World} (h : BB a.heap.size a b) : Blw a b := ⟨h.1, h.2⟩
theorem own_cells {R : Nat → Prop} {B : Nat} {w : World} {l : Hl} {μ : Mu} (rel : Rel R B w (HL l) μ) (hl : ∀ (b : Nat) (c : CB), l[b]? = some c → ∃ n cs, c = CB.cells n cs) {k : Nat} (ho : Own (HL l) μ k) : ∃ arr e fz, w.heap[k]? = some (.cells arr e fz) := by
 obtain ⟨b, m, h1, h2, rfl⟩ := ho
 have hb := rel.blk b m h2
 rw [HL_f] at hb h1
 cases hlb : l[b]? with
 | none => rw [hlb] at h1; cases h1
 | some c =>
  rw [hlb] at hb
  obtain ⟨n, cs, rfl⟩ := hl b c hlb
  obtain ⟨_, _, arr, e, fz, h3, _⟩ := hb
  exact ⟨arr, e, fz, h3⟩
theorem ext_others {R : Nat → Prop} {B : Nat} {w w' : World} {l : Hl} {h' : Hp} {μ μ' : Mu} (rel : Rel R B w (HL l) μ) (hl : ∀ (b : Nat) (c : CB), l[b]? = some c → ∃ n cs, c = CB.cells n cs) (e : Ext w (HL l) μ w' h' μ') : KeepsOthers w w' := by
 refine ⟨e.size, fun k o hk ho => ?_⟩
 rw [e.keep k (Array.getElem?_eq_some_iff.1 hk).1 fun hw => ?_]
 ·exact hk
 ·obtain ⟨arr, t, fz, h3⟩ := own_cells rel hl hw
  rw [hk] at h3
  cases h3
  cases ho
namespace Op
open Sha
abbrev vS0 : List Stp := [sm 0 3 (.box (tm 0)), sm 1 4 (.box (tm 1)), sm 2 5 (.box (tm 2)), sm 3 6 (.alloc [.int .u8 0])]
abbrev vC1 : Cd := .seq (.reg [sm 0 7 (.fa 4 (tm 3)), sm 1 8 (.ld1 (tm 7)), sm 2 9 (.ldA 32 (tm 5)), sc 3 10 48 [(tm 8), (tm 9)]]) (.cond (tm 10) (.seq (.reg [se 0 (.st 1 (tm 6) (.const (.int .u8 5)))]) .ret) .skip)
abbrev vS3 : List Stp := [sm 0 11 (.ldA 5 (tm 3)), sm 1 12 (.ldA 11 (tm 4)), sc 2 13 119 [(tm 11), (tm 12)]]
abbrev vS5 : List Stp := [sm 0 15 (.fa 1 (tm 3)), sm 1 16 (.fa 2 (tm 15)), sm 2 17 (.ld1 (tm 16)), sm 3 18 (.fa 0 (tm 3)), sm 4 19 (.ld1 (tm 18)), sm 5 20 (.bin .eql 3 (tm 17) (tm 19))]
abbrev vS6 : List Stp := [se 0 (.st 1 (tm 6) (.const (.int .u8 8)))]
abbrev vS7 : List Stp := [se 0 (.st 1 (tm 6) (.const (.int .u8 1)))]
def hl6 (S E X : List CV) (v : Int) : Hl := [.cells 5 S, .cells 11 E, .cells 32 X, .cells 1 [.int .u8 v], .cells 5 S, .cells 11 E]
structure VOk (V0 V1 V2 V3 V4 V5 V6 V7 : Array Oper) (o4 : Oper) (t4 : TypeId) : Prop where
 body : Tryz.f87.body = some (.seq (.region 0 V0 false) (.seq (.seq (.region 1 V1 false) (.cond (.tmp 10) (.seq (.region 2 V2 false) .ret) .skip)) (.seq (.seq (.region 3 V3 false) (.block 0 (.rangeFunc (.tmp 13) #[14] .skip (.block 1 (.seq (.region 4 V4 false) .ret)))))
  (.seq (.seq (.region 5 V5 false) (.cond (.tmp 20) (.seq (.region 6 V6 false) .ret) .skip)) (.seq (.region 7 V7 false) .ret)))))
 c0 : comp Tryz.prog 21 (.region 0 V0 false) = some (.reg vS0)
 c1 : comp Tryz.prog 21 (.seq (.region 1 V1 false) (.cond (.tmp 10) (.seq (.region 2 V2 false) .ret) .skip)) = some vC1
 c3 : comp Tryz.prog 21 (.region 3 V3 false) = some (.reg vS3)
 l4 : V4.toList = [o4]
 o4_op : o4.op = .store t4 (.tmp 6) (.const (.int .u8 6))
 o4_dst : o4.dst = none
 o4_guard : o4.guard = none
 ok5 : AllOk Tryz.prog V5 vS5 V5.toList
 ok6 : AllOk Tryz.prog V6 vS6 V6.toList
 ok7 : AllOk Tryz.prog V7 vS7 V7.toList
 dst5 : ∀ (i : Nat) (o : Oper), V5[i]? = some o → dstOk 21 o.dst = true
 dst6 : ∀ (i : Nat) (o : Oper), V6[i]? = some o → dstOk 21 o.dst = true
 dst7 : ∀ (i : Nat) (o : Oper), V7[i]? = some o → dstOk 21 o.dst = true
 size4 : sizeT Tryz.prog t4 = some 1
theorem dst_all21 {R : Array Oper} (hall : (R.toList.all fun o => dstOk 21 o.dst) = true) (i : Nat) (o : Oper) (h : R[i]? = some o) : dstOk 21 o.dst = true := by
 exact List.all_eq_true.1 hall o (by rw [← Array.getElem?_toList] at h; exact List.mem_of_getElem? h)
theorem vOk : ∃ V0 V1 V2 V3 V4 V5 V6 V7 o4 t4, VOk V0 V1 V2 V3 V4 V5 V6 V7 o4 t4 :=
 ⟨opsC (subC ((Tryz.f87.body).getD .skip) [false]),
  opsC (subC ((Tryz.f87.body).getD .skip) [true, false, false]),
  opsC (subC ((Tryz.f87.body).getD .skip) [true, false, true, false, false]),
  opsC (subC ((Tryz.f87.body).getD .skip) [true, true, false, false]),
  opsC (subC ((Tryz.f87.body).getD .skip) [true, true, false, true, false, true, false, false]),
  opsC (subC ((Tryz.f87.body).getD .skip) [true, true, true, false, false]),
  opsC (subC ((Tryz.f87.body).getD .skip) [true, true, true, false, true, false, false]),
  opsC (subC ((Tryz.f87.body).getD .skip) [true, true, true, true, false]),
  ((opsC (subC ((Tryz.f87.body).getD .skip) [true, true, false, true, false, true, false, false])).toList).headD { op := .move (.tmp 0), dst := none, type := 0, pos := "", after := #[], guard := none },
  (match (((opsC (subC ((Tryz.f87.body).getD .skip) [true, true, false, true, false, true, false, false])).toList).headD { op := .move (.tmp 0), dst := none, type := 0, pos := "", after := #[], guard := none }).op with | .store t _ _ => t | _ => 0),
  ⟨by kernel_rfl, by kernel_rfl, by kernel_rfl, by kernel_rfl, by kernel_rfl, by kernel_rfl, by kernel_rfl, by kernel_rfl,
  allOk_stps (idx := [0, 1, 2, 3, 4, 5]) (by kernel_rfl) (by kernel_rfl), allOk_stps (idx := [0]) (by kernel_rfl) (by kernel_rfl), allOk_stps (idx := [0]) (by kernel_rfl) (by kernel_rfl),
  dst_all21 (by kernel_rfl), dst_all21 (by kernel_rfl), dst_all21 (by kernel_rfl), by kernel_rfl⟩⟩
theorem missing_own (S E : List CV) (hS : S.length = 5) (hE : E.length = 11) {l : Hl} {K : CV → Hl → Prop} (hK : K (.fn 163 [] [.ptr (l.length + 1) 0 11, .ptr l.length 0 5]) (l ++ [.cells 5 S, .cells 11 E])) :
  CallP Tryz.prog GS 119 [.ag S, .ag E] l (c := ⟨K⟩) := by
 apply call_intro c119_eq r119_eq
 unfold c119 r119
 simp [hS, hE]
 exact hK
theorem verd_res (v : Int) : resC Tryz.prog (HL [.cells 1 [.int .u8 v]]) (fupd (fun _ => CV.bad) 6 (.ptr 0 0 1)) Tryz.f87 = some (.int .u8 v) := by kernel_rfl
end Op
end Go.CM

namespace Go.CM
open Go Go.Proofs Go.RowKit
set_option maxRecDepth 100000
namespace Op
open Sha
theorem hl6_cells (S E X : List CV) (v : Int) : ∀ (b : Nat) (c : CB), (hl6 S E X v)[b]? = some c → ∃ n cs, c = CB.cells n cs := by
 intro b c h
 have hm := List.mem_of_getElem? h
 simp only [hl6, List.mem_cons, List.not_mem_nil, or_false] at hm
 rcases hm with rfl | rfl | rfl | rfl | rfl | rfl <;> exact ⟨_, _, rfl⟩
theorem round4 {V0 V1 V2 V3 V4 V5 V6 V7 : Array Oper} {o4 : Oper} {t4 : TypeId} (M : VOk V0 V1 V2 V3 V4 V5 V6 V7 o4 t4) {S E X : List CV} {F : Fence} (hF : ∀ f, F.fn f) {n : Nat} {R : Nat → Prop} {B : Nat} {W : World} {μ : Mu} {a : Go.Act}
  (rel : Rel R B W (HL (hl6 S E X 0)) μ) (h6 : VR W R (HL (hl6 S E X 0)) μ (.ptr 3 0 1) (a.tmps.getD 6 undef)) :
  (Code.block 1 (.seq (.region 4 V4 false) .ret)).wpIn F n Tryz.prog (fun e _ W' => e = .ret ∧ Ext W (HL (hl6 S E X 0)) μ W' (HL (hl6 S E X 6)) μ ∧ Rel R B W' (HL (hl6 S E X 6)) μ) a W := by
 refine wpIn_block (wpIn_seq (wpIn_region_list ?_))
 rw [M.l4]
 have hst : storeC Tryz.prog (HL (hl6 S E X 0)) t4 (.ptr 3 0 1) (.int .u8 6) = some (HL (hl6 S E X 6)) := by
  unfold storeC
  rw [M.size4]
  have hf : (HL (hl6 S E X 0)).f 3 = .cells 1 [.int .u8 0] := HL_cells.2 rfl
  simp only [CV.cells, hf]
  rw [if_pos (by simp), HL_set _ (by simp [hl6])]
  rfl
 obtain ⟨w', h1, h2, h3⟩ := store_ok (P := Tryz.prog) rel hst h6 (.int .u8 6)
 unfold wpListIn
 have hw : Region.wanted o4 (yielded V4 a.tmps) = true := by unfold Region.wanted; rw [M.o4_guard]
 rw [if_pos hw]
 refine ⟨fun f _ => hF f, ?_⟩
 have hrun : (execOp a.eval o4).run Tryz.prog W = .ok .skip w' := by
  have he : a.eval (.tmp 6) = a.tmps.getD 6 undef := rfl
  rw [← he] at h1
  have h1' : (Instr.storeAt t4 (a.eval (.tmp 6)) (a.eval (.const (.int .u8 6)))).run Tryz.prog W = .ok () w' := h1
  simp [execOp, M.o4_op, h1']
 rw [Oper.semAt_eq _ _ _ (fun c => by rw [M.o4_op]; exact fun h => by cases h), hrun, Oper.uponIn_skip, M.o4_dst]
 exact wpListIn_nil (wpIn_ret ⟨rfl, h2, h3⟩)
def verdN (x : List B) (ord : Ids) (ps : List (List B)) (cap ver : Int) : Int := if x ∈ ord.l then 5 else if ∀ p ∈ ps, p ∈ ord.l then (if ver = cap then 8 else 1) else 6
theorem fn2 {w : World} {R : Nat → Prop} {h : Hp} {μ : Mu} {f : FuncId} {c1 c2 : CV} {v : Value} (hv : VR w R h μ (.fn f [] [c1, c2]) v) : ∃ p1 p2, v = .func (.func f) #[] #[p1, p2] ∧ VR w R h μ c1 p1 ∧ VR w R h μ c2 p2 := by
 cases hv with
 | fn _ _ _ fs cs hf hc h1 h2 =>
  have e1 : fs = #[] := by apply Array.eq_empty_of_size_eq_zero; simpa using hf
  subst e1
  obtain ⟨cs⟩ := cs
  rcases cs with _ | ⟨p1, _ | ⟨p2, _ | ⟨p3, cs⟩⟩⟩
  ·simp at hc
  ·simp at hc
  ·exact ⟨p1, p2, rfl, h2 0 c1 p1 rfl rfl, h2 1 c2 p2 rfl rfl⟩
  ·simp at hc
theorem getD_at {l : List CV} {t : Nat} (h : t < l.length) : l.getD t undefC = l[t] := by simp [List.getD, h]
theorem getD_off {l : List CV} {t : Nat} (h : l.length ≤ t) : l.getD t undefC = undefC := by simp [List.getD, List.getElem?_eq_none h]
theorem miss_enters : Enters Tryz.prog 163 := by
 obtain ⟨R0, R1, R2, R3, R4, o8, M⟩ := mOk
 exact enters_of Tryz.func163 (by kernel_rfl) M.body
theorem blw_put {w3 W : World} {l : Nat} (o : Obj) (hb : Blw w3 W) (hl : w3.heap.size ≤ l) : Blw w3 (W.putObj l o) :=
 BB.blw ((BB.of_blw hb (Nat.le_refl _)).tr (BB.put W o hl hb.toBelow.size))
set_option maxHeartbeats 4000000 in
theorem verdict_E (E : List CV) (ps : Ids) (hcE : closedL E = true) (hEl : E.length = 11) (hE1 : ∀ h : 1 < E.length, E[1]'h = encIds ps) (hpo : okIds ps) (hpl : ps.l.length ≤ 1000000) (x : List B) (hx : x.length = 32) (ord : Ids) (hord : okIds ord) (hol : ord.l.length ≤ 1000000) (cap ver : Int) (parts heads : CV) (hp : parts.closed = true) (hh : heads.closed = true) :
  PureC Tryz.prog GS 87 [.ag (encSt cap ver parts heads ord), .ag E, .ag (eId x)] (.int .u8 (verdN x ord ps.l cap ver)) := by
 intro w A vs hg hvs hv
 obtain ⟨V0, V1, V2, V3, V4, V5, V6, V7, o4, t4, M⟩ := vOk
 obtain ⟨S, hS⟩ : ∃ S, S = encSt cap ver parts heads ord := ⟨_, rfl⟩
 have hcS : closedL S = true := by rw [hS]; exact closed_St hp hh
 have hSl : S.length = 5 := by rw [hS]; rfl
 have hS0 : ∀ h : 0 < S.length, S[0]'h = .int .i64 cap := fun h => by simp only [hS]; rfl
 have hS3 : ∀ h : 3 < S.length, S[3]'h = .int .i64 ver := fun h => by simp only [hS]; rfl
 have hS4 : ∀ h : 4 < S.length, S[4]'h = encIds ord := fun h => by simp only [hS]; rfl
 obtain ⟨X, hX⟩ : ∃ X, X = eId x := ⟨_, rfl⟩
 have hXl : X.length = 32 := by rw [hX]; exact eId_len hx
 have hcX : closedL X = true := by rw [hX]; exact closed_eId x
 have hin := wInI_ok ord hord hol x hx
 rw [← hX] at hin hv
 rw [← hS] at hv
 have hmix : Tryz.prog.follows .mixedOrders = true := Tryz.checked.mixed
 have hcord := closed_ids ord
 obtain ⟨N0, hN0⟩ : ∃ N0, N0 = verdN x ord ps.l cap ver := ⟨_, rfl⟩
 rw [← hN0]
 refine (callsIn_wide (n := 0)).1 (callsIn_of_wp_marks (fn := Tryz.f87) Tryz.func87 M.body trivial ?_ rfl)
 obtain ⟨Q0, hQ0⟩ : ∃ Q0, Q0 = bodyPostM Fence.wide 0 Tryz.prog Tryz.f87 (fun e w' => ∃ v, e = Ending.returned v ∧ Blw w w' ∧ VR0 w' (fun k => A k ∨ w.heap.size ≤ k) (.int .u8 N0) v) := ⟨_, rfl⟩
 rw [← hQ0]
 have hend : ∀ (a : Go.Act) (W : World) (v : Int), a.defers = [] → (results Tryz.f87 a.tmps).run Tryz.prog W = .ok (.int .u8 v) W → v = N0 → Blw w W → Q0 .ret a W := by
  intro a W v hd hr hvn hb
  rw [hQ0]
  show LeavesInM _ _ _ _ _ _ a.defers _ _
  rw [hd]
  exact ⟨_, hr, _, rfl, hb, by rw [hvn]; exact .int _ _⟩
 have hendD : ∀ (a : Go.Act) (W : World) (D : Nat) (v : Int), a.defers = [{ target := .collected D, args := #[] }] → W.heap[D]? = some (.deferred (some [])) → (results Tryz.f87 a.tmps).run Tryz.prog (W.putObj D (.deferred none)) = .ok (.int .u8 v) (W.putObj D (.deferred none)) → v = N0 → Blw w (W.putObj D (.deferred none)) → Q0 .ret a W := by
  intro a W D v hd hK hr hvn hb
  rw [hQ0]
  show LeavesInM _ _ _ _ _ _ a.defers _ _
  rw [hd]
  exact ⟨by simp, .inl ⟨_, _, rfl, run_takeDeferred hK, _, hr, _, rfl, hb, by rw [hvn]; exact .int _ _⟩⟩
 have up : ∀ {c : CV} {v : Value}, VR0 w A c v → VR w (fun k => A k ∨ w.heap.size ≤ k) Hp.empty (fun _ => none) c v := fun hc => hc.up (fun k _ hk => ⟨.inl hk, not_own_empty _ k⟩)
 have g : Gok GS w (fun k => A k ∨ w.heap.size ≤ k) Hp.empty (fun _ => none) := fun i => ⟨GS_closed i, up (hg i)⟩
 have hnt : Tryz.f87.ntmps = 21 := by kernel_rfl
 have rel := rel_empty w (fun k => A k ∨ w.heap.size ≤ k) fun k hk => .inr hk
 refine wpIn_seq (code_in (σ := argsS [.ag S, .ag E, .ag X]) (l := []) (K := fun e σ l => e = .normal ∧ l = [.cells 5 S, .cells 11 E, .cells 32 X, .cells 1 [.int .u8 0]] ∧ σ 3 = .ptr 0 0 5 ∧ σ 4 = .ptr 1 0 11 ∧ σ 5 = .ptr 2 0 32 ∧ σ 6 = .ptr 3 0 1)
  hmix GS_closed M.c0 ?_ rel g ⟨by rw [hnt]; simp [hvs], rfl, fun t => ?_⟩ ?_)
 ·simp [argsS, hSl, hEl, hXl]
 ·by_cases ht : t < ([.ag S, .ag E, .ag X] : List CV).length
  ·have ha := getD_at ht
   have hvt : (vs ++ Array.replicate (Tryz.f87.ntmps - vs.size) undef).getD t undef = vs[t]'(by rw [hvs]; exact ht) := by
    rw [Array.getD_eq_getD_getElem?, Array.getElem?_append_left (by rw [hvs]; exact ht)]
    simp [show t < vs.size by rw [hvs]; exact ht]
   show VR _ _ _ _ (([.ag S, .ag E, .ag X] : List CV).getD t undefC) _
   rw [ha, hvt]
   exact up (hv t _ _ (List.getElem?_eq_getElem ht) (by simp))
  ·have ha := getD_off (Nat.le_of_not_lt ht)
   have hvt : (vs ++ Array.replicate (Tryz.f87.ntmps - vs.size) undef).getD t undef = undef := by
    rw [Array.getD_eq_getD_getElem?, Array.getElem?_append_right (by rw [hvs]; exact Nat.le_of_not_lt ht), Array.getElem?_replicate]
    split <;> rfl
   show VR _ _ _ _ (([.ag S, .ag E, .ag X] : List CV).getD t undefC) _
   rw [ha, hvt]
   exact undef_ok
 rintro e a0 w0 μ0 σ0 l0 ⟨rfl, rfl, k3, k4, k5, k6⟩ ex0 rel0 s0
 have g0 := g.ext ex0
 by_cases hmem : x ∈ ord.l
 ·rw [decide_eq_true hmem] at hin
  have hN : (5 : Int) = N0 := by rw [hN0]; unfold verdN; rw [if_pos hmem]
  suffices hs : (Code.seq (.region 1 V1 false) (.cond (.tmp 10) (.seq (.region 2 V2 false) .ret) .skip)).wpIn Fence.wide 0 Tryz.prog (fun e a W => e = .ret ∧ Q0 .ret a W) a0 w0 from wpIn_seq (wpIn_mono hs fun e a w ⟨he, h⟩ => by subst he; exact h)
  refine code_in (σ := σ0) (K := fun e σ l => e = .ret ∧ l = [.cells 5 S, .cells 11 E, .cells 32 X, .cells 1 [.int .u8 5]] ∧ σ 6 = .ptr 3 0 1) hmix GS_closed M.c1 ?_ rel0 g0 s0 ?_
  ·simp [k3, k5, k6, hSl, hS4, hXl, List.take_of_length_le]
   refine pure_call hin (by simp [closedL, CV.closed, hcord, hcX]) ?_
   simp [k6]
  ·rintro e a1 w1 μ1 σ1 l1 ⟨rfl, rfl, j6⟩ ex1 rel1 s1
   have h6 := s1.val 6
   rw [j6] at h6
   exact ⟨rfl, hend a1 w1 5 s1.defers (fin_rel rel1 rfl h6 (fun _ _ _ => rfl) (Nat.le_refl _) (verd_res 5)) hN (blw_ext (ex0.trans ex1))⟩
 ·rw [decide_eq_false hmem] at hin
  refine wpIn_seq (code_in (σ := σ0) (K := fun e σ l => e = .normal ∧ l = [.cells 5 S, .cells 11 E, .cells 32 X, .cells 1 [.int .u8 0]] ∧ σ 3 = .ptr 0 0 5 ∧ σ 4 = .ptr 1 0 11 ∧ σ 6 = .ptr 3 0 1) hmix GS_closed M.c1 ?_ rel0 g0 s0 ?_)
  ·simp [k3, k5, k6, hSl, hS4, hXl, List.take_of_length_le]
   refine pure_call hin (by simp [closedL, CV.closed, hcord, hcX]) ?_
   simp [k3, k4, k6]
  rintro e a1 w1 μ1 σ1 l1 ⟨rfl, rfl, j3, j4, j6⟩ ex1 rel1 s1
  have g1 := g0.ext ex1
  show (Code.seq (.seq (.region 3 V3 false) (.block 0 (.rangeFunc (.tmp 13) #[14] .skip (.block 1 (.seq (.region 4 V4 false) .ret))))) _).wpIn Fence.wide 0 Tryz.prog Q0 a1 w1
  refine wpIn_seq (wpIn_seq (code_in (σ := σ1) (K := fun e σ l => e = .normal ∧ l = hl6 S E X 0 ∧ σ 3 = .ptr 0 0 5 ∧ σ 6 = .ptr 3 0 1 ∧ σ 13 = .fn 163 [] [.ptr 5 0 11, .ptr 4 0 5]) hmix GS_closed M.c3 ?_ rel1 g1 s1 ?_))
  ·simp [j3, j4, hSl, hEl, List.take_of_length_le]
   refine missing_own S E hSl hEl ?_
   simp [j3, j6, hl6]
  rintro e a3 w3 μ3 σ3 l3 ⟨rfl, rfl, i3, i6, i13⟩ ex3 rel3 s3
  have g3 := g1.ext ex3
  have hbw3 : Blw w w3 := blw_ext ((ex0.trans ex1).trans ex3)
  clear k3 k4 k5 k6 j3 j4 j6 s0 s1 rel0 rel1 ex0 ex1 ex3 g0 g1
  have h6 := s3.val 6
  rw [i6] at h6
  have h13 := s3.val 13
  rw [i13] at h13
  obtain ⟨p1, p2, hgv, hp1, hp2⟩ := fn2 h13
  have hr1 := ptr_ro rel3 (cs := E) (by rfl) hcE hp1
  have hr2 := ptr_ro rel3 (cs := S) (by rfl) hcS hp2
  have hszB : w.heap.size ≤ w3.heap.size := hbw3.toBelow.size
  have hW1b : ∀ {ob : Obj} {W1 : World}, W1 = (w3.alloc (.deferred (some []))).alloc ob → Blw w3 W1 ∧ W1.heap[w3.heap.size]? = some (.deferred (some [])) ∧ W1.heap.size = w3.heap.size + 2 := by
   intro ob W1 e
   subst e
   refine ⟨BB.blw ((BB.alloc (Nat.le_refl _) _).tr (BB.alloc (by simp) _)), ?_, by simp⟩
   exact (((RowKit.Below.refl (w3.heap.size + 1) (w3.alloc (.deferred (some [])))).alloc (by simp) ob).block w3.heap.size (by omega)).trans (World.alloc_heap_new _ _)
  show (Code.block 0 _).wpIn Fence.wide 0 Tryz.prog _ a3 w3
  refine wpIn_block (range1 (gf := 163) (lb := #[p1, p2]) (A := ∀ p ∈ ps.l, p ∈ ord.l) (B := ¬ ∀ p ∈ ps.l, p ∈ ord.l) hgv miss_enters rfl
   (fun Wp W' => Rel (fun k => A k ∨ w.heap.size ≤ k) w.heap.size Wp (HL (hl6 S E X 0)) μ3 ∧ Ext Wp (HL (hl6 S E X 0)) μ3 W' (HL (hl6 S E X 6)) μ3 ∧ Rel (fun k => A k ∨ w.heap.size ≤ k) w.heap.size W' (HL (hl6 S E X 6)) μ3)
   (fun Wp W' h => ext_others h.1 (hl6_cells S E X 0) h.2.1) ?_ ?_ ?_ ?_)
  ·intro fn y W hb
   obtain ⟨b1, _, _⟩ := hW1b rfl
   obtain ⟨e5, r5⟩ := rel_below rel3 (blw_put (l := w3.heap.size + 1) (.loop (recR fn a3.tmps #[14] (.block 1 (.seq (.region 4 V4 false) .ret)) w3.heap.size .busy none)) (blw_tr b1 hb) (by omega))
   refine wpIn_mono (round4 M (S := S) (E := E) (X := X) (fun _ => trivial) r5 ?_) ?_
   ·have h6' := VR.ext e5 h6
    have ht : (a3.tmps.setIfInBounds 14 y).getD 6 undef = a3.tmps.getD 6 undef := by simp only [Array.getD_eq_getD_getElem?, Array.getElem?_setIfInBounds_ne (show 14 ≠ 6 by omega)]
    rw [← ht] at h6'
    have hT : ∀ T : Array Value, T = a3.tmps.setIfInBounds 14 y → VR (W.putObj (w3.heap.size + 1) (.loop (recR fn a3.tmps #[14] (.block 1 (.seq (.region 4 V4 false) .ret)) w3.heap.size .busy none))) (fun k => A k ∨ w.heap.size ≤ k) (HL (hl6 S E X 0)) μ3 (.ptr 3 0 1) (T.getD 6 undef) := fun T e => by rw [e]; exact h6'
    exact hT _ (by simp)
   ·rintro e a' W' ⟨he, h1, h2⟩
    exact ⟨he, r5, h1, h2⟩
  ·intro fn W1 hW1 hY
   obtain ⟨b1, d1, z1⟩ := hW1b hW1
   rw [hS] at hr2
   refine (miss_call E ps hcE hEl hE1 hpo hpl ord hord hol cap ver parts heads hp hh (hr1.blw b1) (hr2.blw b1) (fun i => VR0.blw ((closed_vr (g3 i).2 (g3 i).1).up fun k _ hk => ⟨hk.1, not_own_empty _ k⟩) b1) hY ?_).mono ?_
   ·rintro W W' hb ⟨W3, ⟨r1, e1, r2⟩, rfl⟩
    have hWs := (blw_tr b1 hb).toBelow.size
    refine ⟨A, fun i => (hg i).blw (BB.blw ((((BB.of_blw hbw3 (Nat.le_refl _)).tr (BB.of_blw (blw_tr b1 hb) hszB)).tr (BB.put W _ (by omega) (by omega))).tr ((BB.ext r1 e1).tr (BB.put W3 _ (by omega) r2.size))))⟩
   ·rintro e W2 ⟨hv, hA | ⟨hn, W, W', hb, ⟨W3, ht, rfl⟩, hb2⟩⟩
    ·exact ⟨hv, .inl hA⟩
    ·exact ⟨hv, .inr ⟨hn, W, W3, hb, ht, hb2⟩⟩
  ·intro fn W1 W2 hW1 hA hb
   obtain ⟨b1, d1, z1⟩ := hW1b hW1
   generalize hW' : W2.putObj _ _ = W'
   have hb' : Blw w3 W' := by rw [← hW']; exact blw_put _ (blw_tr b1 hb) (by omega)
   have hD : W'.heap[w3.heap.size]? = some (.deferred (some [])) := by rw [← hW', World.putObj_heap_other (by omega)]; exact (hb.toBelow.block _ (by omega)).trans d1
   obtain ⟨e5, r5⟩ := rel_below rel3 hb'
   have s5 := s3.ext e5
   have g5 := g3.ext e5
   have hfin : ∀ (a6 : Go.Act) (W6 : World) (μ6 : Mu) (v : Int), Ext W' (HL (hl6 S E X 0)) μ3 W6 (HL (hl6 S E X v)) μ6 → Rel (fun k => A k ∨ w.heap.size ≤ k) w.heap.size W6 (HL (hl6 S E X v)) μ6 →
     VR W6 (fun k => A k ∨ w.heap.size ≤ k) (HL (hl6 S E X v)) μ6 (.ptr 3 0 1) (a6.tmps.getD 6 undef) → a6.defers = [{ target := .collected w3.heap.size, args := #[] }] → v = N0 → Q0 .ret a6 W6 := by
    intro a6 W6 μ6 v e6 r6 h6' hd hvn
    have hD6 : W6.heap[w3.heap.size]? = some (.deferred (some [])) := (ext_others r5 (hl6_cells S E X 0) e6).same _ _ hD rfl
    refine hendD a6 W6 w3.heap.size v hd hD6 (fin_rel r6 (b := 3) rfl h6' (fun k hk hc => World.putObj_heap_other (fun hkD => by obtain ⟨arr, e, fz, hc⟩ := hc; rw [hkD, hD6] at hc; cases hc)) (by simp) (verd_res v)) hvn ?_
    exact BB.blw ((((BB.of_blw hbw3 (Nat.le_refl _)).tr (BB.of_blw hb' hszB)).tr (BB.ext r5 e6)).tr (BB.put W6 _ hszB r6.size))
   show (Code.seq (.seq (.region 5 V5 false) (.cond (.tmp 20) (.seq (.region 6 V6 false) .ret) .skip)) (.seq (.region 7 V7 false) .ret)).wpIn Fence.wide 0 Tryz.prog Q0 { tmps := a3.tmps, defers := { target := .collected w3.heap.size, args := #[] } :: a3.defers } W'
   refine wpIn_seq (wpIn_seq (part_frame (σ := σ3) (D := [{ target := .collected w3.heap.size, args := #[] }]) hmix GS_closed M.dst5 M.ok5 (K := fun σ l => l = hl6 S E X 0 ∧ σ 6 = .ptr 3 0 1 ∧ σ 20 = .bool (decide (ver = cap))) ?_ r5 g5 ⟨s5.size, rfl, s5.val⟩ (by rw [s3.defers]) ?_))
   ·simp [i3, i6, hl6, hSl, hS0, hS3]
   rintro a5 W5 μ5 σ5 l5 ⟨rfl, j6, j20⟩ ex5 rel5 s5' hd5
   show (Code.cond (.tmp 20) (.seq (.region 6 V6 false) .ret) .skip).wpIn Fence.wide 0 Tryz.prog _ a5 W5
   by_cases hvc : ver = cap
   ·rw [decide_eq_true hvc] at j20
    refine wpIn_cond_true (val_of s5' j20) (wpIn_seq (part_frame (σ := σ5) hmix GS_closed M.dst6 M.ok6 (K := fun σ l => l = hl6 S E X 8 ∧ σ 6 = .ptr 3 0 1) ?_ rel5 (g5.ext ex5) s5' hd5 ?_))
    ·simp [j6, hl6]
    rintro a6 W6 μ6 σ6 l6 ⟨rfl, m6⟩ ex6 rel6 s6 hd6
    refine wpIn_ret (hfin a6 W6 μ6 8 (ex5.trans ex6) rel6 (by have := s6.val 6; rwa [m6] at this) hd6 ?_)
    rw [hN0]; unfold verdN; rw [if_neg hmem, if_pos hA, if_pos hvc]
   ·rw [decide_eq_false hvc] at j20
    refine wpIn_cond_false (val_of s5' j20) (wpIn_skip ?_)
    show (Code.seq (.region 7 V7 false) .ret).wpIn Fence.wide 0 Tryz.prog Q0 a5 W5
    refine wpIn_seq (part_frame (σ := σ5) hmix GS_closed M.dst7 M.ok7 (K := fun σ l => l = hl6 S E X 1 ∧ σ 6 = .ptr 3 0 1) ?_ rel5 (g5.ext ex5) s5' hd5 ?_)
    ·simp [j6, hl6]
    rintro a6 W6 μ6 σ6 l6 ⟨rfl, m6⟩ ex6 rel6 s6 hd6
    refine wpIn_ret (hfin a6 W6 μ6 1 (ex5.trans ex6) rel6 (by have := s6.val 6; rwa [m6] at this) hd6 ?_)
    rw [hN0]; unfold verdN; rw [if_neg hmem, if_pos hA, if_neg hvc]
  ·rintro fn W1 W W3 W2 hW1 hB hb ⟨r1, e1, r2⟩ hb2
   obtain ⟨b1, d1, z1⟩ := hW1b hW1
   have hWs := (blw_tr b1 hb).toBelow.size
   have hLW : w3.heap.size + 1 < W.heap.size := by have := hb.toBelow.size; omega
   obtain ⟨e5, r5⟩ := rel_below rel3 (blw_put (l := w3.heap.size + 1) (.loop (recR fn a3.tmps #[14] (.block 1 (.seq (.region 4 V4 false) .ret)) w3.heap.size .busy none)) (blw_tr b1 hb) (by omega))
   have hko := ext_others r1 (hl6_cells S E X 0) e1
   have hDW : W.heap[w3.heap.size]? = some (.deferred (some [])) := (hb.toBelow.block _ (by omega)).trans d1
   have hD3 : W3.heap[w3.heap.size]? = some (.deferred (some [])) := hko.same _ _ (by rw [World.putObj_heap_other (by omega)]; exact hDW) rfl
   have hL3 := hko.same _ _ (World.putObj_heap_same hLW) rfl
   have hD3s := (Array.getElem?_eq_some_iff.1 hD3).1
   have hb2s := hb2.toBelow.size
   simp only [World.putObj_size] at hb2s
   have hD2 : W2.heap[w3.heap.size]? = some (.deferred (some [])) := (hb2.toBelow.block _ (by simpa using hD3s)).trans (by rw [World.putObj_heap_other (by omega)]; exact hD3)
   show Q0 .ret { tmps := a3.tmps, defers := { target := .collected w3.heap.size, args := #[] } :: a3.defers } _
   refine hendD _ _ w3.heap.size 6 (by rw [s3.defers]) (by rw [World.putObj_heap_other (by omega)]; exact hD2) (fin_rel r2 (b := 3) rfl (VR.ext (e5.trans e1) h6) (fun k hk hc => ?_) (by simpa using hb2s) (verd_res 6)) ?_ ?_
   ·obtain ⟨arr, e, fz, hc⟩ := hc
    have hkD : k ≠ w3.heap.size := fun h => by rw [h, hD3] at hc; cases hc
    have hkL : k ≠ w3.heap.size + 1 := fun h => by rw [h, hL3] at hc; cases hc
    have hks := (Array.getElem?_eq_some_iff.1 hc).1
    rw [World.putObj_heap_other hkD, World.putObj_heap_other hkL, hb2.toBelow.block k (by simpa using hks), World.putObj_heap_other hkL]
   ·rw [hN0]; unfold verdN; rw [if_neg hmem, if_neg hB]
   ·have h3 : BB w.heap.size w W3 := (((BB.of_blw hbw3 (Nat.le_refl _)).tr (BB.of_blw (blw_tr b1 hb) hszB)).tr (BB.put W _ (by omega) (by omega))).tr (BB.ext r1 e1)
    have hs3 := r2.size
    exact BB.blw (((h3.tr (BB.put W3 _ (by omega) hs3)).tr (BB.of_blw hb2 (by simpa using hs3))).tr ((BB.put W2 _ (by omega) (by omega)).tr (BB.put _ _ hszB (by simp; omega))))
end Op
end Go.CM

namespace Go.CM
open Go Go.Proofs
set_option maxRecDepth 100000
open Sha Op
def idOfC : List CV → Option (List B)
 | [] => some []
 | .int .u8 n :: r => match decide (0 ≤ n) && decide (n < 256) with
  | true => match idOfC r with | some l => some (BitVec.ofNat 8 n.toNat :: l) | none => none
  | false => none
 | _ => none
theorem idOfC_ok : ∀ {e : List CV} {i : List B}, idOfC e = some i → e = eId i
 | [], i, h => by cases h; rfl
 | c :: r, i, h => by
  unfold idOfC at h
  split at h
  ·rename_i e1; cases e1
  ·rename_i n r' e1
   cases e1
   split at h
   ·rename_i hb
    split at h
    ·rename_i l hl
     cases h
     simp only [Bool.and_eq_true, decide_eq_true_eq] at hb
     rw [idOfC_ok hl]
     have : ((BitVec.ofNat 8 n.toNat).toNat : Int) = n := by
      rw [BitVec.toNat_ofNat, Nat.mod_eq_of_lt (by omega)]; omega
     simp only [eId, List.map_cons, e8, u, this]
    ·cases h
   ·cases h
  ·cases h
def idsOfL : List (List CV) → Option (List (List B))
 | [] => some []
 | e :: r => match idOfC e with
  | some i => match Nat.beq i.length 32 with
   | true => match idsOfL r with | some l => some (i :: l) | none => none
   | false => none
  | none => none
theorem idsOfL_ok : ∀ {es : List (List CV)} {l : List (List B)}, idsOfL es = some l → es = l.map eId ∧ ∀ i ∈ l, i.length = 32
 | [], l, h => by cases h; exact ⟨rfl, fun i hi => by cases hi⟩
 | e :: r, l, h => by
  unfold idsOfL at h
  split at h
  ·rename_i i hi
   split at h
   ·rename_i hb
    split at h
    ·rename_i l' hl
     cases h
     obtain ⟨h1, h2⟩ := idsOfL_ok hl
     refine ⟨by rw [idOfC_ok hi, h1]; rfl, fun x hx => ?_⟩
     rcases List.mem_cons.1 hx with h3 | h3
     ·rw [h3]; exact Nat.eq_of_beq_eq_true hb
     ·exact h2 x h3
    ·cases h
   ·cases h
  ·cases h
def idsOfC : CV → Option Ids
 | .nilS => some none
 | .rsl 32 es => match idsOfL es with | some l => (match Nat.ble l.length 100000 with | true => some (some l) | false => none) | none => none
 | _ => none
theorem idsOfC_ok {c : CV} {s : Ids} (h : idsOfC c = some s) : c = encIds s ∧ okIds s ∧ s.l.length ≤ 1000000 := by
 unfold idsOfC at h
 split at h
 ·cases h; exact ⟨rfl, fun i hi => (by cases hi), by simp [Sv.l]⟩
 ·split at h
  ·rename_i l hl
   split at h
   ·rename_i hb
    cases h
    obtain ⟨h1, h2⟩ := idsOfL_ok hl
    have := Nat.le_of_ble_eq_true hb
    exact ⟨by rw [h1]; rfl, h2, by show l.length ≤ _; omega⟩
   ·cases h
  ·cases h
 ·cases h
def beqB : List B → List B → Bool
 | [], [] => true
 | x :: a, y :: b => match Nat.beq x.toNat y.toNat with | true => beqB a b | false => false
 | _, _ => false
theorem beqB_iff : ∀ a b : List B, beqB a b = true ↔ a = b
 | [], [] => by simp [beqB]
 | [], y :: b => by simp [beqB]
 | x :: a, [] => by simp [beqB]
 | x :: a, y :: b => by
  unfold beqB
  split
  ·rename_i h
   have h1 := Nat.eq_of_beq_eq_true h
   rw [beqB_iff a b, List.cons.injEq]
   exact Iff.intro (fun h => And.intro (BitVec.eq_of_toNat_eq h1) h) (fun h => h.2)
  ·rename_i h
   refine Iff.intro (fun h => (by cases h)) (fun hh => ?_)
   injection hh with h1 h2
   rw [h1, Nat.beq_refl] at h
   cases h
def inB (x : List B) : List (List B) → Bool
 | [] => false
 | y :: r => match beqB x y with | true => true | false => inB x r
theorem inB_iff (x : List B) : ∀ l, inB x l = true ↔ x ∈ l
 | [] => by simp [inB]
 | y :: r => by
  unfold inB
  split
  ·rename_i h; simp [(beqB_iff x y).1 h]
  ·rename_i h
   have hne : x ≠ y := fun e => by rw [(beqB_iff x y).2 e] at h; cases h
   rw [inB_iff x r]; simp [hne]
def allIn (ord : List (List B)) : List (List B) → Bool
 | [] => true
 | p :: r => match inB p ord with | true => allIn ord r | false => false
theorem allIn_iff (ord : List (List B)) : ∀ ps, allIn ord ps = true ↔ ∀ p ∈ ps, p ∈ ord
 | [] => by simp [allIn]
 | p :: r => by
  unfold allIn
  split
  ·rename_i h; rw [allIn_iff ord r]; simp [(inB_iff p ord).1 h]
  ·rename_i h
   have hn : ¬ p ∈ ord := fun e => by rw [(inB_iff p ord).2 e] at h; cases h
   simp [hn]
def verdB (x : List B) (ord ps : List (List B)) (cap ver : Int) : Int := match inB x ord with
 | true => 5
 | false => match allIn ord ps with
  | true => (match decide (ver = cap) with | true => 8 | false => 1)
  | false => 6
theorem verdB_eq (x : List B) (ord : Ids) (ps : List (List B)) (cap ver : Int) : verdB x ord.l ps cap ver = verdN x ord ps cap ver := by
 unfold verdB verdN
 split
 ·rename_i h; rw [if_pos ((inB_iff _ _).1 h)]
 ·rename_i h
  rw [if_neg fun e => by rw [(inB_iff _ _).2 e] at h; cases h]
  split
  ·rename_i h2
   rw [if_pos ((allIn_iff _ _).1 h2)]
   split
   ·rename_i h3; rw [if_pos (of_decide_eq_true h3)]
   ·rename_i h3; rw [if_neg (of_decide_eq_false h3)]
  ·rename_i h2
   rw [if_neg fun e => by rw [(allIn_iff _ _).2 e] at h2; cases h2]
def verdF : List CV → Option CV
 | [.ag [.int .i64 cap, parts, heads, .int .i64 ver, ordC], .ag (e0 :: predC :: e2), .ag x] => match Nat.beq e2.length 9 && (parts.closed && (heads.closed && (e0.closed && closedL e2))) with
  | true => match idsOfC ordC with
   | some ord => match idsOfC predC with
    | some ps => match idOfC x with
     | some i => match Nat.beq i.length 32 with
      | true => some (.int .u8 (verdB i ord.l ps.l cap ver))
      | false => none
     | none => none
    | none => none
   | none => none
  | false => none
 | _ => none
abbrev verdO : FuncId × Bool × (List CV → Option CV) := (87, false, verdF)
theorem verdO_ok : OrcP Tryz.prog GS verdO := by
 intro args r h
 refine ⟨?_, fun h => by cases h⟩
 simp only [verdF] at h
 split at h
 ·rename_i cap parts heads ver ordC e0 predC e2 x
  split at h
  ·rename_i hc
   simp only [Bool.and_eq_true] at hc
   obtain ⟨c1, c2, c3, c4, c5⟩ := hc
   split at h
   ·rename_i ord ho
    split at h
    ·rename_i ps hp
     split at h
     ·rename_i i hi
      split at h
      ·rename_i hb
       cases h
       obtain ⟨o1, o2, o3⟩ := idsOfC_ok ho
       obtain ⟨q1, q2, q3⟩ := idsOfC_ok hp
       have hx := idOfC_ok hi
       rw [verdB_eq, hx, o1]
       have hcp : predC.closed = true := by rw [q1]; exact closed_ids ps
       exact verdict_E (e0 :: predC :: e2) ps (by simp [closedL, c4, c5, hcp]) (by have := Nat.eq_of_beq_eq_true c1; simp [this]) (fun _ => q1) q2 q3 i (Nat.eq_of_beq_eq_true hb) ord o2 o3 cap ver parts heads c2 c3
      ·cases h
     ·cases h
    ·cases h
   ·cases h
  ·cases h
 ·cases h
end Go.CM

namespace Go.CM
open Go Go.Proofs
set_option maxRecDepth 100000
namespace Fd
abbrev Id := List Int
def encId (x : Id) : List CV := x.map (.int .u8)
structure Queue where
 next : Int
 ids : Sv Id
 lag : Bool
 en : Bool
structure Feed where
 cap : Int
 ver : Int
 subs : Sv Queue
def encIds (s : Sv Id) : CV := encS 32 encId s
def encQ (q : Queue) : List CV := [.int .i64 q.next, encIds q.ids, .bool q.lag, .bool q.en]
def encSubs (s : Sv Queue) : CV := encS 4 encQ s
def encF (f : Feed) : CV := .ag [.int .i64 f.cap, .int .i64 f.ver, encSubs f.subs]
theorem closedL_ints (k : IntKind) (l : List Int) : closedL (l.map (.int k)) = true := by
 induction l with
 | nil => rfl
 | cons x l ih => simp [closedL, CV.closed, ih]
theorem closed_ids (s : Sv Id) : (encIds s).closed = true := closed_encS (fun x => closedL_ints _ x) s
theorem closed_Q (q : Queue) : closedL (encQ q) = true := by simp [encQ, closedL, CV.closed, closed_ids]
theorem closed_subs (s : Sv Queue) : (encSubs s).closed = true := closed_encS closed_Q s
theorem closed_F (f : Feed) : (encF f).closed = true := by simp [encF, CV.closed, closedL, closed_subs]
def liveL (l : List Queue) : Nat := (l.filter fun q => !q.en).length
def Feed.live (f : Feed) : Nat := liveL f.subs.l
theorem liveL_le (l : List Queue) : liveL l ≤ l.length := List.length_filter_le _ _
theorem live_take (l : List Queue) (k : Nat) (q : Queue) (h : l[k]? = some q) : liveL (l.take (k + 1)) = liveL (l.take k) + if q.en then 0 else 1 := by
 rw [List.take_add_one, h]
 simp only [liveL, List.filter_append, List.length_append, Option.toList_some]
 cases hq : q.en <;> simp [List.filter, hq]
set_option maxHeartbeats 1000000 in
theorem live_ok (f : Feed) (hl : f.subs.l.length ≤ 1000000) : PureC Tryz.prog GS 63 [encF f] (.int .i64 f.live) := by
 refine pure_of Tryz.checked.mixed GS_closed ?_
 apply call_intro c63_eq r63_eq
 unfold c63 r63
 simp [encF, encSubs]
 refine loop_up f.subs.l.length (fun k σ l => σ 7 = encS 4 encQ f.subs ∧ σ 8 = .int .i64 f.subs.l.length ∧ σ 9 = .int .i64 k ∧ σ 3 = .int .i64 (liveL (f.subs.l.take k))) ?_ (by simp [liveL])
 rintro k σ l hk ⟨h7, h8, h9, h3⟩
 unfold l63_0
 simp [h7, h8, h9, h3]
 refine kIf_intro (fun h => ?_) (fun h => ?_)
 ·simp only [decide_eq_true_eq] at h
  obtain ⟨q, hq, _⟩ := get_of h
  have hlt := live_take f.subs.l k q hq
  have hle : liveL (f.subs.l.take k) ≤ k := Nat.le_trans (liveL_le _) (List.length_take_le _ _)
  simp [hq, encQ, h7, h8, h9, h3]
  cases hqe : q.en <;> simp (disch := omega) [h7, h8, h9, h3, h, hlt, hqe, wrap_i64]
  trace_state
 ·simp [h, h3]
  have : k = f.subs.l.length := by simp at h; omega
  subst this
  rw [List.take_length]
  exact .same _ rfl
def okQ (f : Feed) (q : Queue) : Bool :=
 if q.next < 0 then false else if 1000000000 < q.next then false else if f.cap < (q.ids.l.length : Int) then false
 else if q.en then decide (q.ids.l = []) && !q.lag
 else if q.lag then decide (q.next + q.ids.l.length ≤ f.ver)
 else decide (q.next + q.ids.l.length = f.ver) || (decide (q.ids.l = []) && decide (f.ver < q.next))
theorem rd_bool {l : Hl} {b b' : Bool} (h : b = b') : Rd l (.bool b) (.bool b') := by subst h; exact .same _ rfl
theorem rd_int {l : Hl} {k : IntKind} {n n' : Int} (h : n = n') : Rd l (.int k n) (.int k n') := by subst h; exact .same _ rfl
set_option maxHeartbeats 1000000 in
theorem queue_ok (f : Feed) (q : Queue) (hc : f.cap ≤ 8) : PureC Tryz.prog GS 93 [encF f, .ag (encQ q)] (.bool (okQ f q)) := by
 refine pure_of Tryz.checked.mixed GS_closed ?_
 apply call_intro c93_eq r93_eq
 unfold c93 r93
 simp [encF, encIds, encSubs, encQ]
 by_cases h1 : q.next < 0
 ·simp [h1]; exact rd_bool (by simp [okQ, h1])
 by_cases h2 : 1000000000 < q.next
 ·simp [h1, h2]; exact rd_bool (by simp [okQ, h1, h2])
 by_cases h3 : f.cap < (q.ids.l.length : Int)
 ·simp [h1, h2, h3]; exact rd_bool (by simp [okQ, h1, h2, h3])
 have hw : IntKind.i64.wrap (q.next + q.ids.l.length) = q.next + q.ids.l.length := wrap_i64 (by omega) (by omega)
 have hw0 : IntKind.i64.wrap q.next = q.next := wrap_i64 (by omega) (by omega)
 cases he : q.en
 ·cases hl : q.lag
  ·by_cases h4 : q.next + q.ids.l.length = f.ver
   ·have hw4 : IntKind.i64.wrap f.ver = f.ver := by rw [← h4]; exact hw
    simp [h1, h2, h3, hw4, he, hl, h4]; exact rd_bool (by simp [okQ, h1, h2, h3, he, hl, h4])
   ·by_cases h5 : q.ids.l = []
    ·have h4' : ¬ q.next = f.ver := by simpa [h5] using h4
     have h3' : ¬ f.cap < 0 := by simpa [h5] using h3
     simp [h1, h2, h3', hw0, he, hl, h4', h5]; exact rd_bool (by simp [okQ, h1, h2, h3', he, hl, h4', h5])
    ·simp [h1, h2, h3, hw, he, hl, h4, h5]; exact rd_bool (by simp [okQ, h1, h2, h3, he, hl, h4, h5])
  ·simp [h1, h2, h3, hw, he, hl]; exact rd_bool (by simp [okQ, h1, h2, h3, he, hl])
 ·by_cases h5 : q.ids.l = []
  ·have h3' : ¬ f.cap < 0 := by simpa [h5] using h3
   simp [h1, h2, h3', he, h5]; exact rd_bool (by simp [okQ, h1, h2, h3', he, h5])
  ·simp [h1, h2, h3, hw, he, h5]; exact rd_bool (by simp [okQ, h1, h2, h3, he, h5])
def okFs (f : Feed) : Bool := f.subs.l.all (okQ f)
def chk (f : Feed) : Int :=
 if f.cap < 1 then 8 else if 8 < f.cap then 8 else if f.ver < 0 then 8 else if 1000000000 < f.ver then 8 else if 60 < (f.subs.l.length : Int) then 8 else if 4 < (f.live : Int) then 8
 else if okFs f then 0 else 8
theorem okFs_bad {f : Feed} {k : Nat} {q : Queue} (hq : f.subs.l[k]? = some q) (hb : okQ f q = false) : okFs f = false := by
 unfold okFs
 rw [List.all_eq_false]
 exact ⟨q, List.mem_of_getElem? hq, by simp [hb]⟩
theorem okFs_all {f : Feed} (h : ∀ k q, k < f.subs.l.length → f.subs.l[k]? = some q → okQ f q = true) : okFs f = true := by
 unfold okFs
 rw [List.all_eq_true]
 intro q hq
 obtain ⟨k, hk⟩ := List.getElem?_of_mem hq
 exact h k q (List.getElem?_eq_some_iff.1 hk).1 hk
set_option maxHeartbeats 1000000 in
theorem check_ok (f : Feed) (hl : f.subs.l.length ≤ 1000000) : PureC Tryz.prog GS 62 [encF f] (.int .i64 (chk f)) := by
 refine pure_of Tryz.checked.mixed GS_closed ?_
 apply call_intro c62_eq r62_eq
 unfold c62 r62
 simp [encF, encSubs]
 by_cases h1 : f.cap < 1
 ·simp [h1]; exact rd_int (by simp [chk, h1])
 by_cases h2 : 8 < f.cap
 ·simp [h1, h2]; exact rd_int (by simp [chk, h1, h2])
 by_cases h3 : f.ver < 0
 ·simp [h1, h2, h3]; exact rd_int (by simp [chk, h1, h2, h3])
 by_cases h4 : 1000000000 < f.ver
 ·simp [h1, h2, h3, h4]; exact rd_int (by simp [chk, h1, h2, h3, h4])
 by_cases h5 : 60 < (f.subs.l.length : Int)
 ·simp [h1, h2, h3, h4, h5]; exact rd_int (by simp [chk, h1, h2, h3, h4, h5])
 simp [h1, h2, h3, h4, h5]
 refine pure_call (live_ok f hl) (show closedL [encF f] = true by simp [closedL, closed_F]) ?_
 simp
 by_cases h6 : 4 < (f.live : Int)
 ·simp [h6]; exact rd_int (by simp [chk, h1, h2, h3, h4, h5, h6])
 simp [h6]
 have hchk : chk f = if okFs f then 0 else 8 := by simp [chk, h1, h2, h3, h4, h5, h6]
 refine loop_up f.subs.l.length (fun k σ l => σ 1 = .ptr 0 0 3 ∧ σ 35 = encS 4 encQ f.subs ∧ σ 36 = .int .i64 f.subs.l.length ∧ σ 37 = .int .i64 k ∧ (∃ rest, l = .cells 3 [.int .i64 f.cap, .int .i64 f.ver, encS 4 encQ f.subs] :: rest) ∧
  ∀ j q, j < k → f.subs.l[j]? = some q → okQ f q = true) ?_ (by simp [encF])
 rintro k σ l hk ⟨g1, g35, g36, g37, ⟨rest, rfl⟩, hok⟩
 unfold l62_0
 simp [g1, g35, g36, g37]
 refine kIf_intro (fun h => ?_) (fun h => ?_)
 ·simp only [decide_eq_true_eq] at h
  obtain ⟨q, hq, _⟩ := get_of h
  simp [hq, encQ, g1, g35, g36, g37]
  refine pure_call (queue_ok f q (by omega)) (show closedL [encF f, .ag (encQ q)] = true by simp [closedL, closed_F, CV.closed, closed_Q]) ?_
  cases hq2 : okQ f q
  ·simp
   exact rd_int (by rw [hchk, okFs_bad hq hq2]; rfl)
  ·simp (disch := omega) [g1, g35, g36, g37, wrap_i64, h]
   intro j q' hj hq'
   by_cases hjk : j = k
   ·subst hjk; rw [hq] at hq'; cases hq'; exact hq2
   ·exact hok j q' (by omega) hq'
 ·simp [h]
  have : k = f.subs.l.length := by simp at h; omega
  subst this
  exact rd_int (by rw [hchk, okFs_all hok]; rfl)
theorem id_neq {x y : Id} (hx : x.length = 32) (hy : y.length = 32) : binC Tryz.prog .neq 61 (.ag (encId x)) (.ag (encId y)) = some (.bool (!decide (x = y))) :=
 bin_ints_neq (e := 5) (by kernel_rfl) (by kernel_rfl) (by kernel_rfl) (by kernel_rfl) (by kernel_rfl) hx hy
theorem bool_eql (a b : Bool) : binC Tryz.prog .eql 4 (.bool a) (.bool b) = some (.bool (a == b)) := bin_bool_eql (by kernel_rfl) a b
theorem id_len {x : Id} (hx : x.length = 32) : (encId x).length = 32 := by simp [encId, hx]
def okIds (s : Sv Id) : Prop := ∀ x ∈ s.l, x.length = 32
def okQs (q : Queue) : Prop := okIds q.ids ∧ q.ids.l.length ≤ 1000000
def okF (f : Feed) : Prop := (∀ q ∈ f.subs.l, okQs q) ∧ f.subs.l.length ≤ 1000000
def num (f : Feed) (n : Int) : Int :=
 if chk f ≠ 0 then chk f else if n < 0 then 2 else if (f.subs.l.length : Int) ≤ n then 2 else match f.subs.l[n.toNat]? with | some q => if q.en then 34 else 0 | none => 2
set_option maxHeartbeats 1000000 in
theorem checkN_ok (f : Feed) (n : Int) (hl : f.subs.l.length ≤ 1000000) : PureC Tryz.prog GS 65 [encF f, .int .i64 n] (.int .i64 (num f n)) := by
 refine pure_of Tryz.checked.mixed GS_closed ?_
 apply call_intro c65_eq r65_eq
 unfold c65 r65
 simp [encF, encSubs]
 refine pure_call (check_ok f hl) (show closedL [encF f] = true by simp [closedL, closed_F]) ?_
 simp
 by_cases h1 : chk f = 0
 ·by_cases h2 : n < 0
  ·simp [h1, h2]; exact rd_int (by simp [num, h1, h2])
  ·by_cases h3 : (f.subs.l.length : Int) ≤ n
   ·simp [h1, h2, h3]; exact rd_int (by simp [num, h1, h2, h3])
   ·obtain ⟨q, hq, _⟩ := get_of (l := f.subs.l) (k := n.toNat) (by omega)
    have h2' : 0 ≤ n := by omega
    cases he : q.en <;> (simp [h1, h2, h3, h2', hq, he, encQ]; exact rd_int (by simp [num, h1, h2, h3, hq, he]))
 ·simp [h1]; exact rd_int (by simp [num, h1])
def zeroF : Feed := ⟨0, 0, none⟩
def newF (n : Int) : Feed × Int := if n < 1 then (zeroF, 2) else if 8 < n then (zeroF, 2) else (⟨n, 0, none⟩, 0)
theorem rd_F {l : Hl} {cs : List CV} {f : Feed} (h : cs = [.int .i64 f.cap, .int .i64 f.ver, encSubs f.subs]) : Rd l (.ag cs) (encF f) := by subst h; exact .same _ (closed_F f)
theorem rd_tu2 {l : Hl} {a b a' b' : CV} (h1 : Rd l a a') (h2 : Rd l b b') : Rd l (.tu [a, b]) (.tu [a', b']) := by
 refine .tu _ _ rfl fun j c c' hc hc' => ?_
 rcases j with _ | _ | j
 ·simp at hc hc'; subst hc hc'; exact h1
 ·simp at hc hc'; subst hc hc'; exact h2
 ·simp at hc
theorem rd_tu3 {l : Hl} {a b d a' b' d' : CV} (h1 : Rd l a a') (h2 : Rd l b b') (h3 : Rd l d d') : Rd l (.tu [a, b, d]) (.tu [a', b', d']) := by
 refine .tu _ _ rfl fun j c c' hc hc' => ?_
 rcases j with _ | _ | _ | j
 ·simp at hc hc'; subst hc hc'; exact h1
 ·simp at hc hc'; subst hc hc'; exact h2
 ·simp at hc hc'; subst hc hc'; exact h3
 ·simp at hc
set_option maxHeartbeats 1000000 in
theorem new_ok (n : Int) : PureC Tryz.prog GS 33 [.int .i64 n] (.tu [encF (newF n).1, .int .i64 (newF n).2]) := by
 refine pure_of Tryz.checked.mixed GS_closed ?_
 apply call_intro c33_eq r33_eq
 unfold c33 r33
 simp
 by_cases h1 : n < 1
 ·simp [h1]
  exact rd_tu2 (rd_F (by simp [newF, h1, zeroF, encSubs, encS])) (rd_int (by simp [newF, h1]))
 ·by_cases h2 : 8 < n
  ·simp [h1, h2]
   exact rd_tu2 (rd_F (by simp [newF, h1, h2, zeroF, encSubs, encS])) (rd_int (by simp [newF, h1, h2]))
  ·simp [h1, h2]
   exact rd_tu2 (rd_F (by simp [newF, h1, h2, encSubs, encS])) (rd_int (by simp [newF, h1, h2]))
theorem ids_nil (s : Sv Id) : binC Tryz.prog .eql 23 (encIds s) .nilS = some (.bool s.isNone) := bin_nil_eql (e := 61) (by kernel_rfl) 32 encId s
theorem subs_nil (s : Sv Queue) : binC Tryz.prog .eql 72 (encSubs s) .nilS = some (.bool s.isNone) := bin_nil_eql (e := 125) (by kernel_rfl) 4 encQ s
set_option maxHeartbeats 1000000 in
theorem cloneIds_ok (s : Sv Id) (hs : okIds s) (hl : s.l.length ≤ 1000000) : PureC Tryz.prog GS 61 [encIds s] (encIds s) := by
 refine pure_of Tryz.checked.mixed GS_closed ?_
 apply call_intro c61_eq r61_eq
 unfold c61 r61
 simp [ids_nil]
 cases s with
 | none => simp; exact .same _ rfl
 | some xs =>
  have hxs : xs.length ≤ 1000000 := hl
  simp
  rw [app_fresh (m := xs.length) (xs := xs.map encId) (by simp) (by simp [encIds]) (by simp) (by omega) (by omega) (by simp [roomMax]; omega)]
  simp
  refine AppK.keep ?_
  simp
  refine rd_rows (rest := []) (by simp) (by simp) (fun e he => ?_) ?_
  ·obtain ⟨x, hx, rfl⟩ := List.mem_map.1 he
   exact id_len (hs x hx)
  ·have := closed_ids (some xs)
   simpa [encIds, encS, CV.closed] using this
set_option maxHeartbeats 1000000 in
theorem cloneQ_own (s : Sv Queue) (hl : s.l.length ≤ 1000000) {l : Hl} {K : CV → Hl → Prop} (h0 : s = none → K .nilS l)
  (h1 : ∀ qs, s = some qs → K (.sl 4 l.length 0 qs.length qs.length (qs.length * 4)) (l ++ [.cells (qs.length * 4) (qs.map encQ).flatten])) : CallP Tryz.prog GS 94 [encSubs s] l (c := ⟨K⟩) := by
 apply call_intro c94_eq r94_eq
 unfold c94 r94
 simp [subs_nil]
 cases s with
 | none => simp; exact h0 rfl
 | some xs =>
  have hxs : xs.length ≤ 1000000 := hl
  simp
  rw [app_fresh (m := xs.length) (xs := xs.map encQ) (by simp) (by simp [encSubs]) (by simp) (by omega) (by omega) (by simp [roomMax]; omega)]
  simp
  refine AppK.keep ?_
  simp
  exact h1 xs rfl
theorem rows_Q (qs : List Queue) : ∀ e ∈ qs.map encQ, e.length = 4 := fun e he => by
 obtain ⟨q, _, rfl⟩ := List.mem_map.1 he; rfl
theorem cells_Q {qs : List Queue} {k : Nat} {q : Queue} (hq : qs[k]? = some q) : (qs.map encQ).flatten[k * 4]? = some (.int .i64 q.next) ∧ (qs.map encQ).flatten[k * 4 + 1]? = some (encIds q.ids) ∧
  (qs.map encQ).flatten[k * 4 + 2]? = some (.bool q.lag) ∧ (qs.map encQ).flatten[k * 4 + 3]? = some (.bool q.en) ∧ ((qs.map encQ).flatten.drop (k * 4)).take 4 = encQ q := by
 have hrow : (qs.map encQ)[k]? = some (encQ q) := by rw [List.getElem?_map, hq]; rfl
 exact ⟨flat_get (rows_Q qs) hrow (j := 0) (by omega), flat_get (rows_Q qs) hrow (j := 1) (by omega), flat_get (rows_Q qs) hrow (j := 2) (by omega), flat_get (rows_Q qs) hrow (j := 3) (by omega), flat_row (rows_Q qs) hrow⟩
theorem splice_Q {qs : List Queue} {k : Nat} {q : Queue} (hq : qs[k]? = some q) (j : Nat) (vs : List CV) (q' : Queue) (hj : j + vs.length ≤ 4) (h : splice (encQ q) j vs = encQ q') : splice (qs.map encQ).flatten (k * 4 + j) vs = ((qs.set k q').map encQ).flatten := by
 have hrow : (qs.map encQ)[k]? = some (encQ q) := by rw [List.getElem?_map, hq]; rfl
 rw [flat_splice (rows_Q qs) hrow (by omega), h, List.map_set]
theorem get_set {α : Type} {l : List α} {k : Nat} {x y : α} (h : l[k]? = some x) : (l.set k y)[k]? = some y := by
 rw [List.getElem?_set, if_pos rfl, if_pos (List.getElem?_eq_some_iff.1 h).1]
set_option maxHeartbeats 2000000 in
theorem twin_own (f : Feed) (hf : okF f) {l : Hl} {K : CV → Hl → Prop} (h0 : f.subs = none → ∀ x y, K (.ag [.int .i64 f.cap, .int .i64 f.ver, .nilS]) (l ++ [x, y]))
  (h1 : ∀ qs, f.subs = some qs → ∀ x y, K (.ag [.int .i64 f.cap, .int .i64 f.ver, .sl 4 (l.length + 2) 0 qs.length qs.length (qs.length * 4)]) (l ++ [x, y, .cells (qs.length * 4) (qs.map encQ).flatten])) :
  CallP Tryz.prog GS 64 [encF f] l (c := ⟨K⟩) := by
 apply call_intro c64_eq r64_eq
 unfold c64 r64
 simp [encF]
 refine cloneQ_own f.subs hf.2 (fun hn => ?_) (fun qs hs => ?_)
 ·simp
  refine loop_up 0 (fun k σ l' => σ 1 = .ptr l.length 0 3 ∧ σ 2 = .ptr (l.length + 1) 0 3 ∧ σ 10 = .int .i64 0 ∧ σ 11 = .int .i64 k ∧
   l' = l ++ [.cells 3 [.int .i64 f.cap, .int .i64 f.ver, .nilS], .cells 3 [.int .i64 0, .int .i64 0, .nilS]]) ?_ (by simp)
  rintro k σ l' hk ⟨g1, g2, g10, g11, rfl⟩
  obtain rfl : k = 0 := by omega
  obtain ⟨s, rfl⟩ := upds4 g1 g2 g10 g11
  clear g1 g2 g10 g11
  unfold l64_0
  simp
  exact h0 hn _ _
 ·simp
  have hq1 : qs.length ≤ 1000000 := by have := hf.2; rw [hs] at this; exact this
  refine loop_up qs.length (fun k σ l' => σ 1 = .ptr l.length 0 3 ∧ σ 2 = .ptr (l.length + 1) 0 3 ∧ σ 10 = .int .i64 qs.length ∧ σ 11 = .int .i64 k ∧
   l' = l ++ [.cells 3 [.int .i64 f.cap, .int .i64 f.ver, .sl 4 (l.length + 2) 0 qs.length qs.length (qs.length * 4)], .cells 3 [.int .i64 0, .int .i64 0, .nilS], .cells (qs.length * 4) (qs.map encQ).flatten]) ?_ (by simp)
  rintro k σ l' hk ⟨g1, g2, g10, g11, rfl⟩
  obtain ⟨s, rfl⟩ := upds4 g1 g2 g10 g11
  clear g1 g2 g10 g11
  unfold l64_0
  simp
  by_cases h : k < qs.length
  ·obtain ⟨q, hq, hqm⟩ := get_of h
   have hrow : (qs.map encQ)[k]? = some (encQ q) := by rw [List.getElem?_map, hq]; rfl
   have hg := flat_get (rows_Q qs) hrow (j := 1) (by omega)
   have hsp := flat_splice (rows_Q qs) hrow (j := 1) (vs := [encIds q.ids]) (by simp)
   have hsame : (qs.map encQ).set k (splice (encQ q) 1 [encIds q.ids]) = qs.map encQ := by
    apply List.ext_getElem?
    intro j
    rw [List.getElem?_set]
    by_cases hj : k = j
    ·subst hj; rw [if_pos rfl, if_pos (by simpa using h), hrow]; simp [encQ]
    ·rw [if_neg hj]
   rw [hsame] at hsp
   have hqq := hf.1 q (by rw [hs]; exact hqm)
   have hwk : IntKind.i64.wrap ((k : Int) + 1) = k + 1 := wrap_i64 (by omega) (by omega)
   simp [h, hg, encQ]
   refine pure_call (cloneIds_ok q.ids hqq.1 hqq.2) (show closedL [encIds q.ids] = true by simp [closedL, closed_ids]) ?_
   have hci : (encIds q.ids).cells = some [encIds q.ids] := cells_encS _
   have hle : k * 4 + 1 + 1 ≤ qs.length * 4 := by omega
   simp [h, hg, encQ, hci, hle, hwk, hsp]
  ·simp [h]
   exact h1 qs hs _ _
def newQ (n : Int) : Queue := ⟨n, none, false, false⟩
def sub (f : Feed) (from_ : Int) : Feed × Int × Int :=
 if chk f ≠ 0 then (zeroF, 0, chk f) else if from_ < f.ver then (zeroF, 0, 2) else if 1000000000 < from_ then (zeroF, 0, 2)
 else if (f.subs.l.length : Int) = 60 then (zeroF, 0, 18) else if (f.live : Int) = 4 then (zeroF, 0, 18)
 else ({ f with subs := some (f.subs.l ++ [newQ from_]) }, f.subs.l.length, 0)
theorem closedLL_rows (qs : List Queue) : closedLL (qs.map encQ) = true := by
 have := closed_subs (some qs)
 simpa [encSubs, encS, CV.closed] using this
theorem rd_subs {l : Hl} {b n cap sz : Nat} {qs : List Queue} (hb : l[b]? = some (.cells sz (qs.map encQ).flatten)) (hn : qs.length = n) : Rd l (.sl 4 b 0 n cap sz) (encSubs (some qs)) :=
 rd_rows (rest := []) (by simpa using hb) (by simp [hn]) (rows_Q qs) (closedLL_rows qs)
theorem rd_Fs {l : Hl} {f : Feed} {v : CV} (h : Rd l v (encSubs f.subs)) : Rd l (.ag [.int .i64 f.cap, .int .i64 f.ver, v]) (encF f) := by
 refine .ag _ _ rfl fun j c c' hc hc' => ?_
 rcases j with _ | _ | _ | j
 ·simp at hc hc'; subst hc hc'; exact .same _ rfl
 ·simp at hc hc'; subst hc hc'; exact .same _ rfl
 ·simp at hc hc'; subst hc hc'; exact h
 ·simp at hc
set_option maxHeartbeats 2000000 in
theorem subscribe_ok (f : Feed) (n : Int) (hf : okF f) : PureC Tryz.prog GS 34 [encF f, .int .i64 n] (.tu [encF (sub f n).1, .int .i64 (sub f n).2.1, .int .i64 (sub f n).2.2]) := by
 refine pure_of Tryz.checked.mixed GS_closed ?_
 apply call_intro c34_eq r34_eq
 unfold c34 r34
 simp [encF]
 refine pure_call (check_ok f hf.2) (show closedL [encF f] = true by simp [closedL, closed_F]) ?_
 have hz : ∀ l, Rd l (.ag [.int .i64 0, .int .i64 0, .nilS]) (encF zeroF) := fun l => .same _ (closed_F zeroF)
 simp
 by_cases h1 : chk f = 0
 ·by_cases h2 : n < f.ver
  ·simp [h1, h2]
   simp only [sub, h1, h2, ne_eq, not_true_eq_false, if_false, if_true]
   exact rd_tu3 (hz _) (.same _ rfl) (.same _ rfl)
  ·by_cases h3 : 1000000000 < n
   ·simp [h1, h2, h3]
    simp only [sub, h1, h2, h3, ne_eq, not_true_eq_false, if_false, if_true]
    exact rd_tu3 (hz _) (.same _ rfl) (.same _ rfl)
   ·have hsl : lenM (.sl 4) (encSubs f.subs) = some (.int .i64 f.subs.l.length) := len_encS _
    by_cases h4 : (f.subs.l.length : Int) = 60
    ·simp [h1, h2, h3, hsl, h4]
     simp only [sub, h1, h2, h3, h4, ne_eq, not_true_eq_false, if_false, if_true]
     exact rd_tu3 (hz _) (.same _ rfl) (.same _ rfl)
    ·simp [h1, h2, h3, hsl, h4]
     refine pure_call (live_ok f hf.2) (show closedL [encF f] = true by simp [closedL, closed_F]) ?_
     simp
     by_cases h5 : (f.live : Int) = 4
     ·simp [h5]
      simp only [sub, h1, h2, h3, h4, h5, ne_eq, not_true_eq_false, if_false, if_true]
      exact rd_tu3 (hz _) (.same _ rfl) (.same _ rfl)
     ·have hsub : sub f n = ({ f with subs := some (f.subs.l ++ [newQ n]) }, (f.subs.l.length : Int), (0 : Int)) := by
       simp only [sub, h1, h2, h3, h4, h5, ne_eq, not_true_eq_false, if_false]
      simp [h5]
      refine twin_own f hf (fun hn x y => ?_) (fun qs hs x y => ?_)
      ·simp
       rw [app_nil (xs := [encQ (newQ n)]) (by simp [contentsL, encQ, newQ, encIds, encS]) (by omega) (by omega) (by simp) (by simp [roomMax])]
       simp
       refine AppK.keep ?_
       simp [hsl, hsub]
       exact rd_tu3 (rd_Fs (f := { f with subs := _ }) (rd_subs (qs := f.subs.l ++ [newQ n]) (by simp [hn]) (by simp [hn]))) (.same _ rfl) (.same _ rfl)
      ·have hq1 : qs.length ≤ 1000000 := by have := hf.2; rw [hs] at this; exact this
       simp
       rw [app_own (es := qs.map encQ) (xs := [encQ (newQ n)]) (m := 1) (by simp) (by simp [contentsL, encQ, newQ, encIds, encS]) (by simp) (by simp) rfl (rows_Q qs) (by omega) (by omega) (by simp [roomMax]; omega)]
       simp
       refine AppK.keep ?_
       simp [hsl, hsub]
       exact rd_tu3 (rd_Fs (f := { f with subs := _ }) (rd_subs (qs := f.subs.l ++ [newQ n]) (by simp [hs]) (by simp [hs]))) (.same _ rfl) (.same _ rfl)
 ·simp [h1]
  simp only [sub, h1, ne_eq, not_false_eq_true, if_true]
  exact rd_tu3 (hz _) (.same _ rfl) (.same _ rfl)
def zeroId : Id := List.replicate 32 0
structure Taken where
 f : Feed
 kind : Int
 number : Int
 id : Id
 e : Int
def Taken.enc (t : Taken) : CV := .tu [encF t.f, .int .u8 t.kind, .int .i64 t.number, .ag (encId t.id), .int .i64 t.e]
def setQ (f : Feed) (k : Nat) (q : Queue) : Feed := { f with subs := some (f.subs.l.set k q) }
def take (f : Feed) (n : Int) : Taken :=
 if num f n ≠ 0 then ⟨zeroF, 0, 0, zeroId, num f n⟩ else
 match f.subs.l[n.toNat]? with
 | none => ⟨zeroF, 0, 0, zeroId, 38⟩
 | some q => match q.ids.l with
  | x :: r => ⟨setQ f n.toNat { q with next := q.next + 1, ids := some r }, 1, q.next, x, 0⟩
  | [] => if q.lag then ⟨setQ f n.toNat { q with lag := false, en := true }, 2, q.next, zeroId, 0⟩ else ⟨zeroF, 0, 0, zeroId, 38⟩
theorem rd_taken {l : Hl} {f : CV} {k n e : Int} {i : CV} {t : Taken} (h1 : Rd l f (encF t.f)) (h2 : k = t.kind) (h3 : n = t.number) (h4 : i = .ag (encId t.id)) (h5 : e = t.e) : Rd l (.tu [f, .int .u8 k, .int .i64 n, i, .int .i64 e]) t.enc := by
 subst h2 h3 h4 h5
 refine .tu _ _ rfl fun j c c' hc hc' => ?_
 rcases j with _ | _ | _ | _ | _ | j
 ·simp at hc hc'; subst hc hc'; exact h1
 ·simp at hc hc'; subst hc hc'; exact .same _ rfl
 ·simp at hc hc'; subst hc hc'; exact .same _ rfl
 ·simp at hc hc'; subst hc hc'; exact .same _ (by simp [CV.closed, encId, closedL_ints])
 ·simp at hc hc'; subst hc hc'; exact .same _ rfl
 ·simp at hc
theorem zero_id : encId zeroId = [.int .u8 0, .int .u8 0, .int .u8 0, .int .u8 0, .int .u8 0, .int .u8 0, .int .u8 0, .int .u8 0, .int .u8 0, .int .u8 0, .int .u8 0, .int .u8 0, .int .u8 0, .int .u8 0, .int .u8 0, .int .u8 0, .int .u8 0, .int .u8 0, .int .u8 0, .int .u8 0, .int .u8 0, .int .u8 0, .int .u8 0, .int .u8 0, .int .u8 0, .int .u8 0, .int .u8 0, .int .u8 0, .int .u8 0, .int .u8 0, .int .u8 0, .int .u8 0] := rfl
theorem chk_ok {f : Feed} (h : chk f = 0) {q : Queue} (hq : q ∈ f.subs.l) : okQ f q = true ∧ 0 ≤ q.next ∧ q.next ≤ 1000000000 := by
 have h1 : okFs f = true := by
  unfold chk at h
  repeat' split at h
  all_goals first | assumption | (exfalso; omega)
 have h2 : okQ f q = true := by
  unfold okFs at h1
  rw [List.all_eq_true] at h1
  exact h1 q hq
 refine ⟨h2, ?_⟩
 unfold okQ at h2
 repeat' split at h2
 all_goals first | cases h2; done | omega
theorem num_ok {f : Feed} {n : Int} (h : num f n = 0) : chk f = 0 ∧ 0 ≤ n ∧ ∃ q, f.subs.l[n.toNat]? = some q ∧ q.en = false := by
 unfold num at h
 split at h
 ·rename_i h1; exact absurd h h1
 rename_i h1
 split at h
 ·cases h
 split at h
 ·cases h
 split at h
 ·rename_i q hq
  split at h
  ·cases h
  ·rename_i he; exact ⟨by omega, by omega, q, hq, by simpa using he⟩
 ·cases h
theorem take_bad {f : Feed} {n : Int} (h : num f n ≠ 0) : take f n = ⟨zeroF, 0, 0, zeroId, num f n⟩ := by unfold take; rw [if_pos h]
theorem take_busy {f : Feed} {k : Nat} {q : Queue} (h : num f k = 0) (hq : f.subs.l[k]? = some q) (hi : q.ids.l = []) (hl : q.lag = false) : take f k = ⟨zeroF, 0, 0, zeroId, 38⟩ := by
 unfold take; rw [if_neg (by simpa using h), Int.toNat_natCast, hq]; simp only [hi, hl]; rfl
theorem take_lag {f : Feed} {k : Nat} {q : Queue} (h : num f k = 0) (hq : f.subs.l[k]? = some q) (hi : q.ids.l = []) (hl : q.lag = true) : take f k = ⟨setQ f k { q with lag := false, en := true }, 2, q.next, zeroId, 0⟩ := by
 unfold take; rw [if_neg (by simpa using h), Int.toNat_natCast, hq]; simp only [hi, hl]; rfl
theorem take_id {f : Feed} {k : Nat} {q : Queue} {x : Id} {r : List Id} (h : num f k = 0) (hq : f.subs.l[k]? = some q) (hi : q.ids.l = x :: r) : take f k = ⟨setQ f k { q with next := q.next + 1, ids := some r }, 1, q.next, x, 0⟩ := by
 unfold take; rw [if_neg (by simpa using h), Int.toNat_natCast, hq]; simp only [hi]
set_option maxHeartbeats 4000000 in
theorem take_ok (f : Feed) (n : Int) (hf : okF f) : PureC Tryz.prog GS 36 [encF f, .int .i64 n] (take f n).enc := by
 refine pure_of Tryz.checked.mixed GS_closed ?_
 apply call_intro c36_eq r36_eq
 unfold c36 r36
 simp [encF]
 refine pure_call (checkN_ok f n hf.2) (show closedL [encF f, .int .i64 n] = true by simp [closedL, closed_F, CV.closed]) ?_
 have hz : ∀ l, Rd l (.ag [.int .i64 0, .int .i64 0, .nilS]) (encF zeroF) := fun l => .same _ (closed_F zeroF)
 simp
 by_cases h1 : num f n = 0
 ·obtain ⟨hc, hn, q, hq, he⟩ := num_ok h1
  have hk : n.toNat < f.subs.l.length := (List.getElem?_eq_some_iff.1 hq).1
  have hqm := List.mem_of_getElem? hq
  obtain ⟨_, hq1, hq2⟩ := chk_ok hc hqm
  simp [h1]
  refine twin_own f hf (fun hs x y => ?_) (fun qs hs x y => ?_)
  ·rw [hs] at hk; simp at hk
  ·have hqs : f.subs.l = qs := by rw [hs]; rfl
   rw [hqs] at hq hk hqm
   have hnl : n < qs.length := by omega
   obtain ⟨k, rfl⟩ : ∃ k : Nat, n = k := ⟨n.toNat, by omega⟩
   simp only [Int.toNat_natCast] at hq hk
   obtain ⟨c0, c1, c2, c3, _⟩ := cells_Q hq
   have hle : k * 4 + 4 ≤ qs.length * 4 := by omega
   have hw : IntKind.i64.wrap (q.next + 1) = q.next + 1 := wrap_i64 (by omega) (by omega)
   have b0 : k * 4 + 1 ≤ qs.length * 4 := by omega
   have b1 : k * 4 + 1 + 1 ≤ qs.length * 4 := by omega
   have b2 : k * 4 + 2 + 1 ≤ qs.length * 4 := by omega
   have b3 : k * 4 + 3 + 1 ≤ qs.length * 4 := by omega
   have hlen : lenM (.sl 32) (encIds q.ids) = some (.int .i64 q.ids.l.length) := len_encS _
   have hq' : f.subs.l[k]? = some q := by rw [hqs]; exact hq
   simp [hnl, c0, c1]
   cases hids : q.ids.l with
   | nil =>
    cases hl : q.lag
    ·simp [hlen, hids, hl, c2]
     rw [take_busy h1 hq' hids hl]
     exact rd_taken (hz _) rfl rfl rfl rfl
    ·simp [hlen, hids, hl, c2]
     refine ⟨b2, b3, ?_⟩
     rw [splice_Q hq 2 [.bool false] { q with lag := false } (by simp) (by simp [encQ]), splice_Q (get_set hq) 3 [.bool true] { q with lag := false, en := true } (by simp) (by simp [encQ]), List.set_set]
     rw [take_lag h1 hq' hids hl]
     exact rd_taken (rd_Fs (f := setQ f k { q with lag := false, en := true }) (rd_subs (qs := f.subs.l.set k { q with lag := false, en := true }) (by simp [hqs]) (by simp [hqs]))) rfl rfl rfl rfl
   | cons x0 r =>
    obtain ⟨xs, hxs⟩ : ∃ xs, q.ids = some xs := by cases h : q.ids with | none => rw [h] at hids; cases hids | some xs => exact ⟨xs, rfl⟩
    have hx2 : xs = x0 :: r := by rw [hxs] at hids; exact hids
    subst hx2
    have hx0 : x0.length = 32 := (hf.1 q (by rw [hqs]; exact hqm)).1 x0 (by rw [hids]; simp)
    have hia : iaC (.sl 32) (encIds (some (x0 :: r))) (.int .i64 0) = some (.rptr (encId x0) 0) := by simp [encIds, ia_encS]
    have hsl : sliceM (.sl 32) (encIds (some (x0 :: r))) (some (.int .i64 1)) none none = some (encIds (some r)) := by
     unfold encIds; rw [slice_from (by omega) (by simp; omega)]; rfl
    have hci : ∀ s, (encIds s).cells = some [encIds s] := fun s => cells_encS _
    rw [hxs] at hlen c1
    simp at hlen
    have hpos : (0 : Int) < (r.length : Int) + 1 := by omega
    simp [hlen, hids, hxs, hia, hsl, hci, c1, b1, hpos, id_len hx0, List.take_of_length_le]
    rw [splice_Q hq 1 [encIds (some r)] { q with ids := some r } (by simp) (by simp [encQ])]
    obtain ⟨d0, d1, d2, d3, _⟩ := cells_Q (get_set (y := { q with ids := some r }) hq)
    have hsf := splice_full (cs := encId zeroId) (vs := encId x0) (by rw [id_len hx0]; rfl)
    rw [zero_id] at hsf
    have hsf2 := splice_full (cs := encId x0) (vs := encId x0) rfl
    have hs0 := splice_Q (get_set (y := { q with ids := some r }) hq) 0 [.int .i64 (q.next + 1)] { q with next := q.next + 1, ids := some r } (by simp) (by simp [encQ])
    rw [List.set_set, Nat.add_zero] at hs0
    simp [d0, hw, b0, id_len hx0, hsf, hsf2, hs0, List.take_of_length_le, -List.map_set]
    rw [take_id h1 hq' hids]
    exact rd_taken (rd_Fs (f := setQ f k { q with next := q.next + 1, ids := some r }) (rd_subs (qs := f.subs.l.set k { q with next := q.next + 1, ids := some r }) (by simp [hqs]) (by simp [hqs]))) rfl rfl rfl rfl
 ·simp [h1]
  rw [take_bad h1]
  exact rd_taken (hz _) rfl rfl rfl rfl
def ownIds (c : Nat) (r : Hl) (v : CV) (s : Sv Id) : Prop := match s with
 | none => v = .nilS
 | some xs => v = encIds (some xs) ∨ ∃ b, v = .sl 32 (b + c) 0 xs.length xs.length (xs.length * 32) ∧ r[b]? = some (.cells (xs.length * 32) (xs.map encId).flatten)
def isOwn : CV → Prop
 | .nilS => True
 | .sl .. => True
 | _ => False
def blkOf : CV → Option Nat
 | .sl _ b _ _ _ _ => some b
 | _ => none
def rowQ (v : CV) (q : Queue) : List CV := [.int .i64 q.next, v, .bool q.lag, .bool q.en]
def rowsQ (vs : List CV) (qs : List Queue) : List (List CV) := List.zipWith rowQ vs qs
theorem rowsQ_len (vs : List CV) (qs : List Queue) (h : vs.length = qs.length) : (rowsQ vs qs).length = qs.length := by simp [rowsQ, h]
theorem rowsQ_4 (vs : List CV) (qs : List Queue) : ∀ e ∈ rowsQ vs qs, e.length = 4 := fun e he => by
 obtain ⟨i, hi⟩ := List.getElem?_of_mem he
 simp only [rowsQ, List.getElem?_zipWith] at hi
 split at hi
 ·cases hi; rfl
 ·cases hi
theorem rowsQ_get {vs : List CV} {qs : List Queue} {i : Nat} {v : CV} {q : Queue} (hv : vs[i]? = some v) (hq : qs[i]? = some q) : (rowsQ vs qs)[i]? = some (rowQ v q) := by
 simp [rowsQ, List.getElem?_zipWith, hv, hq]
theorem rowsQ_set {vs : List CV} {qs : List Queue} {i : Nat} (v : CV) (q : Queue) : (rowsQ vs qs).set i (rowQ v q) = rowsQ (vs.set i v) (qs.set i q) := by
 apply List.ext_getElem?
 intro j
 simp only [rowsQ, List.getElem?_set, List.getElem?_zipWith, List.length_zipWith]
 by_cases hij : i = j
 ·subst hij
  simp only [if_true]
  by_cases h1 : i < vs.length <;> by_cases h2 : i < qs.length <;> simp [h1, h2] <;> omega
 ·simp [hij]
theorem rowsQ_cells {vs : List CV} {qs : List Queue} {i : Nat} {v : CV} {q : Queue} (hv : vs[i]? = some v) (hq : qs[i]? = some q) :
  (rowsQ vs qs).flatten[i * 4]? = some (.int .i64 q.next) ∧ (rowsQ vs qs).flatten[i * 4 + 1]? = some v ∧ (rowsQ vs qs).flatten[i * 4 + 2]? = some (.bool q.lag) ∧ (rowsQ vs qs).flatten[i * 4 + 3]? = some (.bool q.en) ∧
  ((rowsQ vs qs).flatten.drop (i * 4)).take 4 = rowQ v q := by
 have hrow := rowsQ_get hv hq
 have h4 := rowsQ_4 vs qs
 exact ⟨flat_get h4 hrow (j := 0) (by omega), flat_get h4 hrow (j := 1) (by omega), flat_get h4 hrow (j := 2) (by omega), flat_get h4 hrow (j := 3) (by omega), flat_row h4 hrow⟩
theorem rowsQ_splice {vs : List CV} {qs : List Queue} {i : Nat} {v : CV} {q : Queue} (hv : vs[i]? = some v) (hq : qs[i]? = some q) (j : Nat) (ws : List CV) (v' : CV) (q' : Queue) (hj : j + ws.length ≤ 4) (h : splice (rowQ v q) j ws = rowQ v' q') :
  splice (rowsQ vs qs).flatten (i * 4 + j) ws = (rowsQ (vs.set i v') (qs.set i q')).flatten := by
 rw [flat_splice (rowsQ_4 vs qs) (rowsQ_get hv hq) (by omega), h, rowsQ_set]
theorem rowsQ_flat {vs : List CV} {qs : List Queue} (h : vs.length = qs.length) : (rowsQ vs qs).flatten.length = qs.length * 4 := by
 rw [flat_len (rowsQ_4 vs qs), rowsQ_len vs qs h]
structure Nest (c : Nat) (r : Hl) (T : List Nat) (s : Nat) (vs : List CV) (qs : List Queue) : Prop where
 len : vs.length = qs.length
 row : r[s]? = some (.cells (qs.length * 4) (rowsQ vs qs).flatten)
 own : ∀ (i : Nat) (v : CV) (q : Queue), vs[i]? = some v → qs[i]? = some q → ownIds c r v q.ids
 far : ∀ (i : Nat) (v : CV) (b : Nat), vs[i]? = some v → blkOf v = some b → b ≠ s + c ∧ ∀ t ∈ T, b ≠ t + c
 apart : ∀ (i j : Nat) (v v' : CV) (b : Nat), i ≠ j → vs[i]? = some v → vs[j]? = some v' → blkOf v = some b → blkOf v' ≠ some b
 ts : s ∉ T
theorem ownIds.keep {c : Nat} {r r' : Hl} {v : CV} {x : Sv Id} (h : ownIds c r v x) (hk : ∀ b, blkOf v = some (b + c) → r'[b]? = r[b]?) : ownIds c r' v x := by
 cases x with
 | none => exact h
 | some xs =>
  rcases h with h | ⟨b, rfl, hb⟩
  ·exact .inl h
  ·exact .inr ⟨b, rfl, by rw [hk b rfl]; exact hb⟩
theorem ownIds.blk {c : Nat} {r : Hl} {v : CV} {x : Sv Id} (h : ownIds c r v x) {b : Nat} (hb : blkOf v = some b) : ∃ b', b = b' + c ∧ b' < r.length := by
 cases x with
 | none => rw [h] at hb; cases hb
 | some xs =>
  rcases h with h | ⟨b', rfl, h2⟩
  ·rw [h] at hb; cases hb
  ·cases hb
   exact ⟨b', rfl, get_lt h2⟩
theorem Nest.keep {c : Nat} {r r' : Hl} {T : List Nat} {s : Nat} {vs : List CV} {qs : List Queue} (N : Nest c r T s vs qs) (hk : ∀ b, b < r.length → b ∉ T → r'[b]? = r[b]?) : Nest c r' T s vs qs := by
 refine ⟨N.len, ?_, fun i v q hv hq => (N.own i v q hv hq).keep fun b hb => ?_, N.far, N.apart, N.ts⟩
 ·rw [hk s (get_lt N.row) N.ts]; exact N.row
 ·obtain ⟨b', h1, h2⟩ := (N.own i v q hv hq).blk hb
  obtain rfl : b' = b := by omega
  exact hk b' h2 (fun h => (N.far i v _ hv hb).2 b' h rfl)
theorem Nest.to {c : Nat} {r : Hl} {T T' : List Nat} {s : Nat} {vs : List CV} {qs : List Queue} (N : Nest c r T s vs qs) (h : ∀ t ∈ T', t ∈ T ∨ r.length ≤ t) : Nest c r T' s vs qs := by
 refine ⟨N.len, N.row, N.own, fun i v b hv hb => ⟨(N.far i v b hv hb).1, fun t ht => ?_⟩, N.apart, fun ht => ?_⟩
 ·rcases h t ht with h1 | h1
  ·exact (N.far i v b hv hb).2 t h1
  ·obtain ⟨q, hq⟩ : ∃ q, qs[i]? = some q := ⟨qs[i]'(by rw [← N.len]; exact (List.getElem?_eq_some_iff.1 hv).1), List.getElem?_eq_getElem _⟩
   obtain ⟨b', h2, h3⟩ := (N.own i v q hv hq).blk hb
   omega
 ·rcases h s ht with h1 | h1
  ·exact N.ts h1
  ·have := get_lt N.row; omega
theorem Nest.upd {c : Nat} {r r' : Hl} {T : List Nat} {s : Nat} {vs : List CV} {qs : List Queue} (N : Nest c r T s vs qs) {i : Nat} {v : CV} {q : Queue} (hv : vs[i]? = some v) (hq : qs[i]? = some q) {v' : CV} {q' : Queue}
  (hrow : r'[s]? = some (.cells (qs.length * 4) (rowsQ (vs.set i v') (qs.set i q')).flatten))
  (hk : ∀ b, b < r.length → b ≠ s → blkOf v ≠ some (b + c) → r'[b]? = r[b]?)
  (hown : ownIds c r' v' q'.ids) (hb : ∀ b, blkOf v' = some b → blkOf v = some b ∨ (r.length + c ≤ b ∧ b ≠ s + c ∧ ∀ t ∈ T, b ≠ t + c)) : Nest c r' T s (vs.set i v') (qs.set i q') := by
 have hi : i < vs.length := (List.getElem?_eq_some_iff.1 hv).1
 have hiq : i < qs.length := (List.getElem?_eq_some_iff.1 hq).1
 have fv : ∀ b, blkOf v' = some b → b ≠ s + c ∧ ∀ t ∈ T, b ≠ t + c := fun b h => by
  rcases hb b h with h1 | h1
  ·exact N.far i v b hv h1
  ·exact h1.2
 refine ⟨by simp [N.len], by simpa using hrow, fun j w p hw hp => ?_, fun j w b hw hbw => ?_, fun j k w w' b hjk hw hw' hbw => ?_, N.ts⟩
 ·by_cases hij : i = j
  ·subst hij
   rw [List.getElem?_set, if_pos rfl, if_pos hi] at hw
   rw [List.getElem?_set, if_pos rfl, if_pos hiq] at hp
   cases hw; cases hp; exact hown
  ·rw [List.getElem?_set, if_neg hij] at hw hp
   have ho := N.own j w p hw hp
   refine ho.keep fun b hbw => ?_
   obtain ⟨b', h1, h2⟩ := ho.blk hbw
   obtain rfl : b' = b := by omega
   exact hk b' h2 (fun h => (N.far j w _ hw hbw).1 (by rw [h])) (fun h => N.apart i j v w _ hij hv hw h hbw)
 ·by_cases hij : i = j
  ·subst hij
   rw [List.getElem?_set, if_pos rfl, if_pos hi] at hw
   cases hw; exact fv b hbw
  ·rw [List.getElem?_set, if_neg hij] at hw
   exact N.far j w b hw hbw
 ·by_cases hij : i = j
  ·subst hij
   rw [List.getElem?_set, if_pos rfl, if_pos hi] at hw
   rw [List.getElem?_set, if_neg hjk] at hw'
   cases hw
   intro hbw'
   rcases hb b hbw with h1 | ⟨h1, _⟩
   ·exact N.apart i k v w' b hjk hv hw' h1 hbw'
   ·obtain ⟨p, hp⟩ : ∃ p, qs[k]? = some p := ⟨qs[k]'(by rw [← N.len]; exact (List.getElem?_eq_some_iff.1 hw').1), List.getElem?_eq_getElem _⟩
    obtain ⟨b', h2, h3⟩ := (N.own k w' p hw' hp).blk hbw'
    omega
  ·rw [List.getElem?_set, if_neg hij] at hw
   by_cases hik : i = k
   ·subst hik
    rw [List.getElem?_set, if_pos rfl, if_pos hi] at hw'
    cases hw'
    intro hbw'
    rcases hb b hbw' with h1 | ⟨h1, _⟩
    ·exact N.apart j i w v b hjk hw hv hbw h1
    ·obtain ⟨p, hp⟩ : ∃ p, qs[j]? = some p := ⟨qs[j]'(by rw [← N.len]; exact (List.getElem?_eq_some_iff.1 hw).1), List.getElem?_eq_getElem _⟩
     obtain ⟨b', h2, h3⟩ := (N.own j w p hw hp).blk hbw
     omega
   ·rw [List.getElem?_set, if_neg hik] at hw'
    exact N.apart j k w w' b hjk hw hw' hbw
theorem ownIds.rd {c : Nat} {L r : Hl} (hc : L.length = c) {v : CV} {x : Sv Id} (h : ownIds c r v x) (hx : okIds x) : Rd (L ++ r) v (encIds x) := by
 cases x with
 | none => rw [h]; exact .same _ rfl
 | some xs =>
  rcases h with h | ⟨b, rfl, hb⟩
  ·rw [h]; exact .same _ (closed_ids _)
  refine rd_rows (rest := []) ?_ (by simp) (fun e he => ?_) ?_
  ·rw [List.append_nil, List.getElem?_append_right (by omega), show b + c - L.length = b by omega]; exact hb
  ·obtain ⟨y, hy, rfl⟩ := List.mem_map.1 he; exact id_len (hx y hy)
  ·have := closed_ids (some xs); simpa [encIds, encS, CV.closed] using this
theorem Nest.rd {c : Nat} {L r : Hl} (hc : L.length = c) {T : List Nat} {s : Nat} {vs : List CV} {qs : List Queue} (N : Nest c r T s vs qs) (hx : ∀ q ∈ qs, okIds q.ids) (cap sz : Nat) (hsz : sz = qs.length * 4) : Rd (L ++ r) (.sl 4 (s + c) 0 qs.length cap sz) (encSubs (some qs)) := by
 subst hsz
 refine .sl 4 (s + c) 0 qs.length cap _ (rowsQ vs qs).flatten _ ?_ (by simp) (rows_Q qs) (by rw [rowsQ_flat N.len]; omega) (fun i j e x x' he hj hxx => ?_)
 ·rw [List.getElem?_append_right (by omega), show s + c - L.length = s by omega]; exact N.row
 ·rw [List.getElem?_map] at he
  cases hq : qs[i]? with
  | none => rw [hq] at he; cases he
  | some q =>
   rw [hq] at he
   cases he
   have hi : i < vs.length := by rw [N.len]; exact (List.getElem?_eq_some_iff.1 hq).1
   obtain ⟨v, hv⟩ : ∃ v, vs[i]? = some v := ⟨vs[i], List.getElem?_eq_getElem hi⟩
   have hj4 : j < 4 := (List.getElem?_eq_some_iff.1 hj).1
   rw [Nat.zero_add, flat_get (rowsQ_4 vs qs) (rowsQ_get hv hq) hj4] at hxx
   rcases j with _ | _ | _ | _ | j
   ·simp [rowQ, encQ] at hxx hj; subst hxx hj; exact .same _ rfl
   ·simp [rowQ, encQ] at hxx hj; subst hxx hj; exact (N.own i v q hv hq).rd hc (hx q (List.mem_of_getElem? hq))
   ·simp [rowQ, encQ] at hxx hj; subst hxx hj; exact .same _ rfl
   ·simp [rowQ, encQ] at hxx hj; subst hxx hj; exact .same _ rfl
   ·omega
set_option maxHeartbeats 1000000 in
theorem cloneIds_own (s : Sv Id) (hl : s.l.length ≤ 1000000) {l : Hl} {K : CV → Hl → Prop} (h0 : s = none → K .nilS l)
  (h1 : ∀ xs, s = some xs → K (.sl 32 l.length 0 xs.length xs.length (xs.length * 32)) (l ++ [.cells (xs.length * 32) (xs.map encId).flatten])) : CallP Tryz.prog GS 61 [encIds s] l (c := ⟨K⟩) := by
 apply call_intro c61_eq r61_eq
 unfold c61 r61
 simp [ids_nil]
 cases s with
 | none => simp; exact h0 rfl
 | some xs =>
  have hxs : xs.length ≤ 1000000 := hl
  simp
  rw [app_fresh (m := xs.length) (xs := xs.map encId) (by simp) (by simp [encIds]) (by simp) (by omega) (by omega) (by simp [roomMax]; omega)]
  simp
  refine AppK.keep ?_
  simp
  exact h1 xs rfl
theorem gA {α : Type} (l r : List α) (i : Nat) : (l ++ r)[l.length + i]? = r[i]? := by
 rw [List.getElem?_append_right (by omega)]; congr 1; omega
theorem sA {α : Type} (l r : List α) (i : Nat) (x : α) : (l ++ r).set (l.length + i) x = l ++ r.set i x := by
 rw [List.set_append_right _ _ (by omega)]; congr 2; omega
theorem lt_get {α : Type} {l : List α} {i : Nat} {x : α} (h : l[i]? = some x) : i < l.length := (List.getElem?_eq_some_iff.1 h).1
theorem set_selfT {α : Type} {l : List α} {i : Nat} {x : α} (h : l[i]? = some x) : l.set i x = l := by
 apply List.ext_getElem?
 intro j
 rw [List.getElem?_set]
 by_cases hj : i = j
 ·subst hj; rw [if_pos rfl, if_pos (lt_get h), h]
 ·rw [if_neg hj]
theorem Nest.cons2 {c : Nat} {r : Hl} {s : Nat} {vs : List CV} {qs : List Queue} (N : Nest (c + 2) r [] s vs qs) (a b : CB) : Nest c (a :: b :: r) [] (s + 2) vs qs := by
 refine ⟨N.len, N.row, fun i v q hv hq => ?_, fun i v b hv hb => ⟨?_, fun t ht => by cases ht⟩, N.apart, by simp⟩
 ·have h := N.own i v q hv hq
  revert h
  cases q.ids with
  | none => exact id
  | some xs =>
   rintro (h | ⟨b', rfl, hb⟩)
   ·exact .inl h
   ·exact .inr ⟨b' + 2, by rw [show b' + 2 + c = b' + (c + 2) by omega], hb⟩
 ·have := (N.far i v b hv hb).1
  omega
theorem nest_start {c : Nat} (qs : List Queue) : Nest c [.cells (qs.length * 4) (qs.map encQ).flatten] [] 0 (qs.map fun q => encIds q.ids) qs := by
 refine ⟨by simp, ?_, fun i v q hv hq => ?_, fun i v b hv hb => ?_, fun i j v v' b hij hv hv' hb => ?_, by simp⟩
 ·have : rowsQ (qs.map fun q => encIds q.ids) qs = qs.map encQ := by
   unfold rowsQ
   rw [List.zipWith_map_left, List.zipWith_self]
   rfl
  rw [this]; rfl
 ·rw [List.getElem?_map, hq] at hv
  cases hv
  dsimp only
  unfold ownIds
  split
  ·rename_i h; rw [h]; rfl
  ·rename_i h; rw [h]; exact .inl rfl
 ·rw [List.getElem?_map] at hv
  cases hq : qs[i]? with
  | none => rw [hq] at hv; cases hv
  | some q =>
   rw [hq] at hv; cases hv
   dsimp only at hb
   cases h : q.ids <;> rw [h] at hb <;> cases hb
 ·rw [List.getElem?_map] at hv
  cases hq : qs[i]? with
  | none => rw [hq] at hv; cases hv
  | some q =>
   rw [hq] at hv; cases hv
   dsimp only at hb
   cases h : q.ids <;> rw [h] at hb <;> cases hb
set_option maxHeartbeats 4000000 in
theorem twin_nest (f : Feed) (hf : okF f) {l : Hl} {K : CV → Hl → Prop} (h0 : f.subs = none → ∀ x y, K (.ag [.int .i64 f.cap, .int .i64 f.ver, .nilS]) (l ++ [x, y]))
  (h1 : ∀ qs, f.subs = some qs → ∀ (rest : Hl) (s : Nat) (vs : List CV), Nest l.length rest [] s vs qs → (∀ v ∈ vs, isOwn v) → K (.ag [.int .i64 f.cap, .int .i64 f.ver, .sl 4 (s + l.length) 0 qs.length qs.length (qs.length * 4)]) (l ++ rest)) :
  CallP Tryz.prog GS 64 [encF f] l (c := ⟨K⟩) := by
 apply call_intro c64_eq r64_eq
 unfold c64 r64
 simp [encF]
 refine cloneQ_own f.subs hf.2 (fun hn => ?_) (fun qs hs => ?_)
 ·simp
  refine loop_up 0 (fun k σ l' => σ 1 = .ptr l.length 0 3 ∧ σ 2 = .ptr (l.length + 1) 0 3 ∧ σ 10 = .int .i64 0 ∧ σ 11 = .int .i64 k ∧
   l' = l ++ [.cells 3 [.int .i64 f.cap, .int .i64 f.ver, .nilS], .cells 3 [.int .i64 0, .int .i64 0, .nilS]]) ?_ (by simp)
  rintro k σ l' hk ⟨g1, g2, g10, g11, rfl⟩
  obtain rfl : k = 0 := by omega
  obtain ⟨s, rfl⟩ := upds4 g1 g2 g10 g11
  clear g1 g2 g10 g11
  unfold l64_0
  simp
  exact h0 hn _ _
 ·simp
  have hq1 : qs.length ≤ 1000000 := by have := hf.2; rw [hs] at this; exact this
  refine loop_up qs.length (fun k σ l' => σ 1 = .ptr l.length 0 3 ∧ σ 2 = .ptr (l.length + 1) 0 3 ∧ σ 10 = .int .i64 qs.length ∧ σ 11 = .int .i64 k ∧
   ∃ r vs, l' = l ++ (.cells 3 [.int .i64 f.cap, .int .i64 f.ver, .sl 4 (l.length + 2) 0 qs.length qs.length (qs.length * 4)] :: .cells 3 [.int .i64 0, .int .i64 0, .nilS] :: r) ∧
    Nest (l.length + 2) r [] 0 vs qs ∧ ∀ i v q, vs[i]? = some v → qs[i]? = some q → if i < k then isOwn v else v = encIds q.ids) ?_ ?_
  ·rintro k σ l' hk ⟨g1, g2, g10, g11, r, vs, rfl, N, hvs⟩
   obtain ⟨s, rfl⟩ := upds4 g1 g2 g10 g11
   clear g1 g2 g10 g11
   unfold l64_0
   simp
   by_cases h : k < qs.length
   ·obtain ⟨q, hq, hqm⟩ := get_of h
    obtain ⟨v, hv⟩ : ∃ v, vs[k]? = some v := ⟨vs[k]'(by rw [N.len]; exact h), List.getElem?_eq_getElem _⟩
    have hve : v = encIds q.ids := by simpa using hvs k v q hv hq
    subst hve
    obtain ⟨_, d1, _, _, _⟩ := rowsQ_cells hv hq
    have hrow := N.row
    have hqq := hf.1 q (by rw [hs]; exact hqm)
    have hwk : IntKind.i64.wrap ((k : Int) + 1) = k + 1 := wrap_i64 (by omega) (by omega)
    have hle : k * 4 + 1 + 1 ≤ qs.length * 4 := by omega
    have hr0 := get_lt hrow
    have hrr : ∀ X : CB, (r ++ [X])[0]? = some (.cells (qs.length * 4) (rowsQ vs qs).flatten) := fun X => by rw [List.getElem?_append_left hr0]; exact hrow
    have hrr0 : ∀ (X : CB) (h : 0 < (r ++ [X]).length), (r ++ [X])[0] = .cells (qs.length * 4) (rowsQ vs qs).flatten := fun X h => by
     have := hrr X; rw [List.getElem?_eq_getElem h] at this; exact Option.some.inj this
    simp [h, hrow, d1, gA]
    have own' : ∀ (v' : CV) (i : Nat) (w : CV) (p : Queue), isOwn v' → (vs.set k v')[i]? = some w → qs[i]? = some p → if i < k + 1 then isOwn w else w = encIds p.ids := by
     intro v' i w p ho hw hp
     by_cases hik : k = i
     ·subst hik
      rw [List.getElem?_set, if_pos rfl, if_pos (lt_get hv)] at hw
      cases hw
      rw [if_pos (by omega)]; exact ho
     ·rw [List.getElem?_set, if_neg hik] at hw
      have := hvs i w p hw hp
      by_cases h2 : i < k
      ·rw [if_pos h2] at this; rw [if_pos (by omega)]; exact this
      ·rw [if_neg h2] at this; rw [if_neg (by omega)]; exact this
    have hsetq : qs.set k q = qs := set_selfT hq
    refine cloneIds_own q.ids hqq.2 (fun hn => ?_) (fun xs hx => ?_)
    ·have hsp := rowsQ_splice hv hq 1 [.nilS] .nilS q (by simp) (by simp [rowQ])
     rw [hsetq] at hsp
     simp [h, hrow, d1, gA, sA, CV.cells, hle, hwk, hsp]
     refine ⟨vs.set k .nilS, ?_, fun i w p => own' .nilS i w p trivial⟩
     have := N.upd hv hq (v' := .nilS) (q' := q) (r' := r.set 0 (CB.cells (qs.length * 4) (rowsQ (vs.set k CV.nilS) qs).flatten)) (by rw [hsetq, List.getElem?_set, if_pos rfl, if_pos hr0]) (fun b hb hb0 _ => by rw [List.getElem?_set, if_neg (fun h => hb0 h.symm)]) (by rw [hn]; rfl) (fun b hb => by cases hb)
     rwa [hsetq] at this
    ·have hsp := rowsQ_splice hv hq 1 [.sl 32 (l.length + (r.length + 1 + 1)) 0 xs.length xs.length (xs.length * 32)] (.sl 32 (l.length + (r.length + 1 + 1)) 0 xs.length xs.length (xs.length * 32)) q (by simp) (by simp [rowQ])
     rw [hsetq] at hsp
     simp [h, hrow, d1, gA, sA, CV.cells, hle, hwk, hsp, hrr, hrr0]
     refine ⟨_, ?_, fun i w p => own' (.sl 32 (l.length + (r.length + 1 + 1)) 0 xs.length xs.length (xs.length * 32)) i w p trivial⟩
     have := N.upd hv hq (v' := .sl 32 (l.length + (r.length + 1 + 1)) 0 xs.length xs.length (xs.length * 32)) (q' := q) (r' := (r ++ [CB.cells (xs.length * 32) (List.map encId xs).flatten]).set 0
      (CB.cells (qs.length * 4) (rowsQ (vs.set k (CV.sl 32 (l.length + (r.length + 1 + 1)) 0 xs.length xs.length (xs.length * 32))) qs).flatten)) (by rw [hsetq, List.getElem?_set, if_pos rfl, if_pos (by simp)])
      (fun b hb hb0 _ => by rw [List.getElem?_set, if_neg (fun h => hb0 h.symm), List.getElem?_append_left hb])
      (by rw [hx]; refine .inr ⟨r.length, by congr 1; omega, ?_⟩; rw [List.getElem?_set, if_neg (by omega)]; simp)
      (fun b hb => .inr (by cases hb; refine ⟨by omega, by omega, fun t ht => by cases ht⟩))
     rwa [hsetq] at this
   ·simp [h]
    have := h1 qs hs _ _ vs (N.cons2 (.cells 3 [.int .i64 f.cap, .int .i64 f.ver, .sl 4 (l.length + 2) 0 qs.length qs.length (qs.length * 4)]) (.cells 3 [.int .i64 f.cap, .int .i64 f.ver, .sl 4 (l.length + 2) 0 qs.length qs.length (qs.length * 4)])) (fun v hv => by
     obtain ⟨i, hi⟩ := List.getElem?_of_mem hv
     obtain ⟨q, hq, _⟩ := get_of (show i < qs.length by rw [← N.len]; exact lt_get hi)
     have := hvs i v q hi hq
     rwa [if_pos (by have := lt_get hq; omega)] at this)
    rw [Nat.zero_add, Nat.add_comm 2] at this
    exact this
  ·simp
   refine ⟨_, nest_start qs, fun i v q hv hq => ?_⟩
   rw [List.getElem?_map, hq] at hv
   cases hv; rfl
def pubQ (cap ver : Int) (x : Id) (q : Queue) : Queue :=
 if q.en = true ∨ q.lag = true ∨ ver < q.next then q else if (q.ids.l.length : Int) = cap then { q with lag := true } else { q with ids := some (q.ids.l ++ [x]) }
def pubs (cap : Int) : Int → List Queue → List Id → List Queue
 | _, qs, [] => qs
 | ver, qs, x :: r => pubs cap (ver + 1) (qs.map (pubQ cap ver x)) r
def publish (f : Feed) (ids : List Id) : Feed × Int :=
 if chk f ≠ 0 then (zeroF, chk f) else if 60 < (ids.length : Int) ∨ 1000000000 < f.ver + ids.length then (zeroF, 4)
 else ({ f with ver := f.ver + ids.length, subs := f.subs.map fun qs => pubs f.cap f.ver qs ids }, 0)
def mix (f : Queue → Queue) (k : Nat) (qs : List Queue) : List Queue := (qs.take k).map f ++ qs.drop k
theorem mix_len (f : Queue → Queue) (k : Nat) (qs : List Queue) : (mix f k qs).length = qs.length := by
 simp [mix]; omega
theorem mix_0 (f : Queue → Queue) (qs : List Queue) : mix f 0 qs = qs := by simp [mix]
theorem mix_all {f : Queue → Queue} {k : Nat} {qs : List Queue} (h : qs.length ≤ k) : mix f k qs = qs.map f := by
 simp [mix, List.take_of_length_le h, List.drop_of_length_le h]
theorem mix_get {f : Queue → Queue} {k : Nat} {qs : List Queue} {q : Queue} (h : qs[k]? = some q) : (mix f k qs)[k]? = some q := by
 have := lt_get h
 unfold mix
 rw [List.getElem?_append_right (by simp; omega), List.getElem?_drop, ← h]
 congr 1
 simp; omega
theorem mix_set {f : Queue → Queue} {k : Nat} {qs : List Queue} {q : Queue} (h : qs[k]? = some q) : (mix f k qs).set k (f q) = mix f (k + 1) qs := by
 have hk := lt_get h
 unfold mix
 rw [List.set_append_right _ _ (by simp; omega), List.take_add_one, h]
 have : qs.drop k = q :: qs.drop (k + 1) := by rw [List.drop_eq_getElem_cons hk]; congr 1; exact (List.getElem?_eq_some_iff.1 h).2
 rw [this]
 have h0 : k - (List.map f (List.take k qs)).length = 0 := by simp; omega
 rw [h0]
 simp
theorem pubs_len (cap : Int) : ∀ (ids : List Id) (ver : Int) (qs : List Queue), (pubs cap ver qs ids).length = qs.length
 | [], _, _ => rfl
 | _ :: r, ver, qs => by rw [pubs, pubs_len cap r]; simp
theorem pubQ_skip {cap ver : Int} {x : Id} {q : Queue} (h : q.en = true ∨ q.lag = true ∨ ver < q.next) : pubQ cap ver x q = q := by unfold pubQ; rw [if_pos h]
theorem pubQ_lag {cap ver : Int} {x : Id} {q : Queue} (h : ¬(q.en = true ∨ q.lag = true ∨ ver < q.next)) (h2 : (q.ids.l.length : Int) = cap) : pubQ cap ver x q = { q with lag := true } := by unfold pubQ; rw [if_neg h, if_pos h2]
theorem pubQ_add {cap ver : Int} {x : Id} {q : Queue} (h : ¬(q.en = true ∨ q.lag = true ∨ ver < q.next)) (h2 : (q.ids.l.length : Int) ≠ cap) : pubQ cap ver x q = { q with ids := some (q.ids.l ++ [x]) } := by unfold pubQ; rw [if_neg h, if_neg h2]
def okN (m : Nat) (qs : List Queue) : Prop := ∀ q ∈ qs, okIds q.ids ∧ q.ids.l.length ≤ 1000000 + m
theorem pubQ_ok {cap ver : Int} {x : Id} {q : Queue} {m : Nat} (hx : x.length = 32) (h : okIds q.ids ∧ q.ids.l.length ≤ 1000000 + m) : okIds (pubQ cap ver x q).ids ∧ (pubQ cap ver x q).ids.l.length ≤ 1000000 + (m + 1) := by
 unfold pubQ
 split
 ·exact ⟨h.1, by omega⟩
 split
 ·exact ⟨h.1, by simp; omega⟩
 ·refine ⟨fun y hy => ?_, by simp; omega⟩
  simp at hy
  rcases hy with hy | rfl
  ·exact h.1 y hy
  ·exact hx
theorem len_own {c : Nat} {r : Hl} {v : CV} {s : Sv Id} (h : ownIds c r v s) : lenM (.sl 32) v = some (.int .i64 s.l.length) := by
 cases s with
 | none => rw [h]; rfl
 | some xs =>
  rcases h with h | ⟨b, rfl, hb⟩
  ·rw [h]; exact len_encS _
  ·rfl
theorem own_set {vs : List CV} {k : Nat} {v : CV} (h : ∀ w ∈ vs, isOwn w) (hv : isOwn v) : ∀ w ∈ vs.set k v, isOwn w := fun w hw => by
 rcases List.mem_or_eq_of_mem_set hw with h1 | h1
 ·exact h w h1
 ·rw [h1]; exact hv
set_option maxHeartbeats 8000000 in
theorem publish_ok (f : Feed) (ids : Sv Id) (hf : okF f) (hi : okIds ids) (hil : ids.l.length ≤ 1000000) : PureC Tryz.prog GS 35 [encF f, encIds ids] (.tu [encF (publish f ids.l).1, .int .i64 (publish f ids.l).2]) := by
 refine pure_of Tryz.checked.mixed GS_closed ?_
 apply call_intro c35_eq r35_eq
 unfold c35 r35
 simp [encF]
 refine pure_call (check_ok f hf.2) (show closedL [encF f] = true by simp [closedL, closed_F]) ?_
 have hz : ∀ l, Rd l (.ag [.int .i64 0, .int .i64 0, .nilS]) (encF zeroF) := fun l => .same _ (closed_F zeroF)
 have hlen : lenM (.sl 32) (encIds ids) = some (.int .i64 ids.l.length) := len_encS _
 simp
 by_cases h1 : chk f = 0
 ·have hver : 0 ≤ f.ver ∧ f.ver ≤ 1000000000 := by
   unfold chk at h1
   repeat' split at h1
   all_goals first | omega | cases h1
  have hw0 : IntKind.i64.wrap (1000000000 - (ids.l.length : Int)) = 1000000000 - (ids.l.length : Int) := wrap_i64 (by omega) (by omega)
  have hbad : (60 < (ids.l.length : Int) ∨ 1000000000 < f.ver + ids.l.length) → publish f ids.l = (zeroF, 4) := fun h => by
   unfold publish; rw [if_neg (by simp [h1]), if_pos h]
  by_cases h2 : 60 < (ids.l.length : Int)
  ·simp [h1, hlen, hw0, h2]
   rw [hbad (.inl h2)]
   exact rd_tu2 (hz _) (.same _ rfl)
  by_cases h3 : 1000000000 - (ids.l.length : Int) < f.ver
  ·simp [h1, hlen, hw0, h2, h3]
   rw [hbad (.inr (by omega))]
   exact rd_tu2 (hz _) (.same _ rfl)
  have hgood : publish f ids.l = ({ f with ver := f.ver + ids.l.length, subs := f.subs.map fun qs => pubs f.cap f.ver qs ids.l }, 0) := by
   unfold publish; rw [if_neg (by simp [h1]), if_neg (by omega)]
  simp [h1, hlen, hw0, h2, h3]
  refine twin_nest f hf (fun hs x y => ?_) (fun qs hs r0 s vs0 N0 ho0 => ?_)
  ·simp [hlen]
   refine loop_up ids.l.length (fun j σ l => σ 4 = .ptr 1 0 3 ∧ σ 7 = .ptr 4 0 3 ∧ σ 32 = encIds ids ∧ σ 33 = .int .i64 ids.l.length ∧ σ 34 = .int .i64 j ∧
    ∃ x0 x2 x3 rest, l = x0 :: .cells 3 [.int .i64 0, .int .i64 0, .nilS] :: x2 :: x3 :: .cells 3 [.int .i64 f.cap, .int .i64 (f.ver + j), .nilS] :: rest) ?_ (by simp)
   rintro j σ l hj ⟨g4, g7, g32, g33, g34, x0, x2, x3, rest, rfl⟩
   obtain ⟨σ, rfl⟩ := upds5 g4 g7 g32 g33 g34
   clear g4 g7 g32 g33 g34
   unfold l35_1
   simp
   by_cases h : j < ids.l.length
   ·obtain ⟨x, hx, hxm⟩ := get_of h
    have hx32 : x.length = 32 := hi x hxm
    have hia : iaC (.sl 32) (encIds ids) (.int .i64 j) = some (.rptr (encId x) 0) := by
     cases hh : ids with
     | none => rw [hh] at hx; simp at hx
     | some xs => rw [hh] at hx; simp at hx; simp [encIds, ia_encS, hx]
    have hsf := splice_full (cs := encId zeroId) (vs := encId x) (by rw [id_len hx32]; rfl)
    rw [zero_id] at hsf
    have hwj : IntKind.i64.wrap ((j : Int) + 1) = j + 1 := wrap_i64 (by omega) (by omega)
    have hwv : IntKind.i64.wrap (f.ver + (j : Int) + 1) = f.ver + j + 1 := wrap_i64 (by omega) (by omega)
    simp [h, hia, id_len hx32, List.take_of_length_le, hsf]
    refine loop_up 0 (fun k σ l => σ 4 = .ptr 1 0 3 ∧ σ 7 = .ptr 4 0 3 ∧ σ 32 = encIds ids ∧ σ 33 = .int .i64 ids.l.length ∧ σ 34 = .int .i64 j ∧ σ 40 = .int .i64 0 ∧ σ 41 = .int .i64 k ∧
     ∃ rest, l = x0 :: .cells 3 [.int .i64 0, .int .i64 0, .nilS] :: x2 :: x3 :: .cells 3 [.int .i64 f.cap, .int .i64 (f.ver + j), .nilS] :: rest) ?_ (by simp)
    rintro k σ l hk ⟨g4, g7, g32, g33, g34, g40, g41, rest2, rfl⟩
    obtain ⟨σ, rfl⟩ := upds7 g4 g7 g32 g33 g34 g40 g41
    clear g4 g7 g32 g33 g34 g40 g41
    obtain rfl : k = 0 := by omega
    unfold l35_0
    simp [h, hwj, hwv]
    omega
   ·simp [h]
    have hjl : j = ids.l.length := by omega
    rw [hgood, hjl, hs]
    have hF := rd_Fs (l := x0 :: CB.cells 3 [.int .i64 f.cap, .int .i64 (f.ver + ids.l.length), .nilS] :: x2 :: x3 :: CB.cells 3 [.int .i64 f.cap, .int .i64 (f.ver + ids.l.length), .nilS] :: rest) (f := { f with ver := f.ver + ids.l.length, subs := none }) (v := .nilS) (.same _ rfl)
    exact rd_tu2 hF (.same _ rfl)
  ·replace N0 : Nest 2 r0 [] s vs0 qs := N0
   have hfs : f.subs.l = qs := by rw [hs]; rfl
   obtain ⟨t, ht⟩ : ∃ t, t = r0.length := ⟨_, rfl⟩
   obtain ⟨n, hn⟩ : ∃ n, n = qs.length := ⟨_, rfl⟩
   have hn1 : n ≤ 1000000 := by rw [hn, ← hfs]; exact hf.2
   simp [hlen]
   rw [← ht, ← hn]
   refine loop_up ids.l.length (fun j σ l => σ 4 = .ptr 1 0 3 ∧ σ 7 = .ptr (t + 2) 0 3 ∧ σ 32 = encIds ids ∧ σ 33 = .int .i64 ids.l.length ∧ σ 34 = .int .i64 j ∧
    ∃ x0 rest vs qs', l = x0 :: .cells 3 [.int .i64 0, .int .i64 0, .nilS] :: rest ∧ rest[t]? = some (.cells 3 [.int .i64 f.cap, .int .i64 (f.ver + j), .sl 4 (s + 2) 0 n n (n * 4)]) ∧
     Nest 2 rest [t] s vs qs' ∧ (∀ v ∈ vs, isOwn v) ∧ qs'.length = n ∧ okN j qs' ∧ pubs f.cap (f.ver + j) qs' (ids.l.drop j) = pubs f.cap f.ver qs ids.l) ?_ ?_
   ·rintro j σ l hj ⟨g4, g7, g32, g33, g34, x0, rest, vs, qs', rfl, hg, N, hown, hlq, hok, hp⟩
    obtain ⟨σ, rfl⟩ := upds5 g4 g7 g32 g33 g34
    clear g4 g7 g32 g33 g34
    unfold l35_1
    simp
    by_cases h : j < ids.l.length
    ·obtain ⟨x, hx, hxm⟩ := get_of h
     have hx32 : x.length = 32 := hi x hxm
     have hia : iaC (.sl 32) (encIds ids) (.int .i64 j) = some (.rptr (encId x) 0) := by
      cases hh : ids with
      | none => rw [hh] at hx; simp at hx
      | some xs => rw [hh] at hx; simp at hx; simp [encIds, ia_encS, hx]
     have hsf := splice_full (cs := encId zeroId) (vs := encId x) (by rw [id_len hx32]; rfl)
     rw [zero_id] at hsf
     have htl := get_lt hg
     have hg1 : ∀ X : CB, (rest ++ [X])[t]? = some (.cells 3 [.int .i64 f.cap, .int .i64 (f.ver + j), .sl 4 (s + 2) 0 n n (n * 4)]) := fun X => by rw [List.getElem?_append_left htl]; exact hg
     obtain ⟨p, hpl⟩ : ∃ p, p = rest.length := ⟨_, rfl⟩
     have hpt : t ≠ p := by omega
     simp [h, hia, id_len hx32, List.take_of_length_le, hsf, hg1]
     rw [← hpl]
     refine loop_up n (fun k σ l => σ 4 = .ptr 1 0 3 ∧ σ 7 = .ptr (t + 2) 0 3 ∧ σ 9 = .ptr (p + 2) 0 32 ∧ σ 32 = encIds ids ∧ σ 33 = .int .i64 ids.l.length ∧ σ 34 = .int .i64 j ∧ σ 40 = .int .i64 n ∧ σ 41 = .int .i64 k ∧
      ∃ r vs, l = x0 :: .cells 3 [.int .i64 0, .int .i64 0, .nilS] :: r ∧ r[t]? = some (.cells 3 [.int .i64 f.cap, .int .i64 (f.ver + j), .sl 4 (s + 2) 0 n n (n * 4)]) ∧
       r[p]? = some (.cells 32 (encId x)) ∧ Nest 2 r [t, p] s vs (mix (pubQ f.cap (f.ver + j) x) k qs') ∧ ∀ v ∈ vs, isOwn v) ?_ ?_
     ·rintro k σ l hk ⟨g4, g7, g9, g32, g33, g34, g40, g41, r, vs1, rfl, hgr, hpr, N1, hown1⟩
      obtain ⟨σ, rfl⟩ := upds8 g4 g7 g9 g32 g33 g34 g40 g41
      clear g4 g7 g9 g32 g33 g34 g40 g41
      unfold l35_0
      simp
      by_cases h' : k < n
      ·obtain ⟨q, hq', hqm⟩ := get_of (show k < qs'.length by omega)
       have hq := mix_get (f := pubQ f.cap (f.ver + j) x) hq'
       have hms := mix_set (f := pubQ f.cap (f.ver + j) x) hq'
       have hQl : (mix (pubQ f.cap (f.ver + j) x) k qs').length = n := by rw [mix_len, hlq]
       obtain ⟨Q, hQ⟩ : ∃ Q, Q = mix (pubQ f.cap (f.ver + j) x) k qs' := ⟨_, rfl⟩
       rw [← hQ] at hq hms N1 hQl
       obtain ⟨v, hv⟩ : ∃ v, vs1[k]? = some v := ⟨vs1[k]'(by rw [N1.len, hQl]; exact h'), List.getElem?_eq_getElem _⟩
       have hov := hown1 v (List.mem_of_getElem? hv)
       have hoq := N1.own k v q hv hq
       have hlv := len_own hoq
       have hqk := hok q hqm
       obtain ⟨d0, d1, d2, d3, _⟩ := rowsQ_cells hv hq
       have hrow := N1.row
       rw [hQl] at hrow
       have hwk : IntKind.i64.wrap ((k : Int) + 1) = k + 1 := wrap_i64 (by omega) (by omega)
       have b1 : k * 4 + 1 + 1 ≤ n * 4 := by omega
       have b2 : k * 4 + 2 + 1 ≤ n * 4 := by omega
       have hskip : (q.en = true ∨ q.lag = true ∨ f.ver + j < q.next) → mix (pubQ f.cap (f.ver + j) x) (k + 1) qs' = Q := fun h => by
        rw [← hms, pubQ_skip h, set_selfT hq]
       have hts : t ≠ s := fun h => N1.ts (by simp [h])
       have hps : p ≠ s := fun h => N1.ts (by simp [h])
       cases he : q.en
       case true =>
        rw [he] at d3
        simp [h', hgr, hrow, d0, d2, d3, hwk]
        exact ⟨hpr, vs1, by rw [hskip (.inl he)]; exact N1, hown1⟩
       case false =>
       rw [he] at d3
       cases hl : q.lag
       case true =>
        rw [hl] at d2
        simp [h', hgr, hrow, d0, d2, d3, hwk]
        exact ⟨hpr, vs1, by rw [hskip (.inr (.inl hl))]; exact N1, hown1⟩
       case false =>
       rw [hl] at d2
       by_cases hnx : f.ver + j < q.next
       ·simp [h', hgr, hrow, d0, d2, d3, hwk, hnx]
        exact ⟨hpr, vs1, by rw [hskip (.inr (.inr hnx))]; exact N1, hown1⟩
       have hgo : ¬(q.en = true ∨ q.lag = true ∨ f.ver + j < q.next) := by simp [he, hl]; omega
       by_cases hcap : (q.ids.l.length : Int) = f.cap
       ·simp [h', hgr, hrow, d0, d1, d2, d3, hwk, hnx, hlv, hcap, b2]
        rw [rowsQ_splice hv hq 2 [.bool true] v { q with lag := true } (by simp) (by simp [rowQ])]
        have hst : ∀ (X : CB) (b : Nat), b ≠ s → (r.set s X)[b]? = r[b]? := fun X b hb => by rw [List.getElem?_set, if_neg (fun h => hb h.symm)]
        refine ⟨by rw [hst _ _ hts]; exact hgr, by rw [hst _ _ hps]; exact hpr, vs1.set k v, ?_, own_set hown1 hov⟩
        rw [← hms, pubQ_lag hgo hcap]
        exact N1.upd hv hq (by rw [hQl, List.getElem?_set, if_pos rfl, if_pos (get_lt hrow)]) (fun b _ hb _ => hst _ b hb) (hoq.keep fun b hb => hst _ _ fun h => (N1.far k v _ hv hb).1 (by rw [h])) (fun b hb => .inl hb)
       simp [h', hgr, hpr, hrow, d0, d1, d2, d3, hwk, hnx, hlv, hcap, b1, id_len hx32, List.take_of_length_le, hsf]
       have hpa : mix (pubQ f.cap (f.ver + j) x) (k + 1) qs' = Q.set k { q with ids := some (q.ids.l ++ [x]) } := by rw [← hms, pubQ_add hgo hcap]
       have N2 := N1.keep (r' := r ++ [.cells 32 (encId x)]) (fun b hb _ => List.getElem?_append_left hb)
       have hgr2 : (r ++ [CB.cells 32 (encId x)])[t]? = some (.cells 3 [.int .i64 f.cap, .int .i64 (f.ver + j), .sl 4 (s + 2) 0 n n (n * 4)]) := by rw [List.getElem?_append_left (get_lt hgr)]; exact hgr
       have hpr2 : (r ++ [CB.cells 32 (encId x)])[p]? = some (.cells 32 (encId x)) := by rw [List.getElem?_append_left (get_lt hpr)]; exact hpr
       have hlast : (r ++ [CB.cells 32 (encId x)])[r.length]? = some (.cells 32 (encId x)) := by simp
       obtain ⟨r2, hr2⟩ : ∃ r2, r2 = r ++ [CB.cells 32 (encId x)] := ⟨_, rfl⟩
       have hrl : r2.length = r.length + 1 := by rw [hr2]; simp
       rw [← hr2] at N2 hgr2 hpr2 hlast ⊢
       have hrow2 := N2.row
       rw [hQl] at hrow2
       have hoq2 := N2.own k v q hv hq
       have htk : List.take 32 (encId x) = encId x := List.take_of_length_le (by rw [id_len hx32]; omega)
       have hsl := get_lt hrow2
       cases hids : q.ids with
       | none =>
        rw [hids] at hoq2
        obtain rfl : v = .nilS := hoq2
        rw [app_nil (xs := [encId x]) (by simp [contentsL, hlast, htk]) (by omega) (by omega) (by simp) (by simp [roomMax])]
        simp
        refine AppK.keep ?_
        have hrow3 : ∀ X : CB, (r2 ++ [X])[s]? = some (.cells (n * 4) (rowsQ vs1 Q).flatten) := fun X => by rw [List.getElem?_append_left hsl]; exact hrow2
        simp [h', hrow3, b1, hwk]
        rw [rowsQ_splice hv hq 1 [_] (.sl 32 (r2.length + 1 + 1) 0 1 1 32) { q with ids := some [x] } (by simp) (by simp [rowQ])]
        have hst : ∀ (X Y : CB) (b : Nat), b < r2.length → b ≠ s → ((r2 ++ [Y]).set s X)[b]? = r2[b]? := fun X Y b hb hbs => by rw [List.getElem?_set, if_neg (fun h => hbs h.symm), List.getElem?_append_left hb]
        refine ⟨by rw [hst _ _ _ (get_lt hgr2) hts]; exact hgr2, by rw [hst _ _ _ (get_lt hpr2) hps]; exact hpr2, vs1.set k (.sl 32 (r2.length + 1 + 1) 0 1 1 32), ?_, own_set hown1 trivial⟩
        rw [hpa, hids]
        refine N2.upd hv hq (by rw [hQl, List.getElem?_set, if_pos rfl, if_pos (by simp; omega)]; rfl) (fun b hb hbs _ => hst _ _ b hb hbs) (.inr ⟨r2.length, rfl, ?_⟩) (fun b hb => .inr ?_)
        ·rw [List.getElem?_set, if_neg (by omega)]; simp
        ·cases hb
         refine ⟨by omega, by omega, fun u hu => ?_⟩
         have h1 := get_lt hgr2
         have h2 := get_lt hpr2
         simp at hu
         omega
       | some ys =>
        rw [hids] at hoq2
        rcases hoq2 with h | ⟨b, rfl, hb⟩
        ·rw [h] at hov; exact hov.elim
        rw [hids] at hqk
        have hyl : ys.length ≤ 1000000 + j := hqk.2
        rw [app_own (es := ys.map encId) (xs := [encId x]) (m := 1) (by simpa using hb) (by simp [contentsL, hlast, htk]) (by simp) rfl (by simp) (fun e he => by
         obtain ⟨y, hy, rfl⟩ := List.mem_map.1 he; exact id_len (hqk.1 y hy)) (by omega) (by omega) (by simp [roomMax]; omega)]
        simp
        refine AppK.keep ?_
        have hbs : b ≠ s := fun h => (N2.far k _ _ hv rfl).1 (by rw [h])
        have hrow3 : ∀ X : CB, (r2.set b X)[s]? = some (.cells (n * 4) (rowsQ vs1 Q).flatten) := fun X => by rw [List.getElem?_set, if_neg hbs]; exact hrow2
        simp [h', hrow3, b1, hwk]
        rw [rowsQ_splice hv hq 1 [_] (.sl 32 (b + 2) 0 (ys.length + 1) (ys.length + 1) ((ys.length + 1) * 32)) { q with ids := some (ys ++ [x]) } (by simp) (by simp [rowQ])]
        have hst : ∀ (X Y : CB) (b' : Nat), b' ≠ b → b' ≠ s → ((r2.set b Y).set s X)[b']? = r2[b']? := fun X Y b' hb hbs => by rw [List.getElem?_set, if_neg (fun h => hbs h.symm), List.getElem?_set, if_neg (fun h => hb h.symm)]
        have hbT := (N2.far k _ _ hv rfl).2
        have hbt : t ≠ b := fun h => hbT t (by simp) (by rw [h])
        have hbp : p ≠ b := fun h => hbT p (by simp) (by rw [h])
        refine ⟨by rw [hst _ _ _ hbt hts]; exact hgr2, by rw [hst _ _ _ hbp hps]; exact hpr2, vs1.set k (.sl 32 (b + 2) 0 (ys.length + 1) (ys.length + 1) ((ys.length + 1) * 32)), ?_, own_set hown1 trivial⟩
        rw [hpa, hids]
        refine N2.upd hv hq (by rw [hQl, List.getElem?_set, if_pos rfl, if_pos (by simp; omega)]; rfl) (fun b' hb' hbs hne => hst _ _ b' (fun h => hne (by rw [h]; rfl)) hbs) (.inr ⟨b, by simp, ?_⟩) (fun b' hb' => .inl (by cases hb'; rfl))
        rw [List.getElem?_set, if_neg (fun h => hbs h.symm), List.getElem?_set, if_pos rfl, if_pos (get_lt hb)]
        simp
      ·have hwj : IntKind.i64.wrap ((j : Int) + 1) = j + 1 := wrap_i64 (by omega) (by omega)
       have hwv : IntKind.i64.wrap (f.ver + (j : Int) + 1) = f.ver + j + 1 := wrap_i64 (by omega) (by omega)
       simp [h', hgr, hwj, hwv]
       have hkn : k = n := by omega
       rw [mix_all (by omega)] at N1
       have hst : ∀ (X : CB) (b : Nat), b ∉ [t, p] → (r.set t X)[b]? = r[b]? := fun X b hb => by rw [List.getElem?_set, if_neg (by simp at hb; omega)]
       refine ⟨h, _, _, ⟨rfl, rfl⟩, by rw [List.getElem?_set, if_pos rfl, if_pos (get_lt hgr), Int.add_assoc], vs1, _, (N1.keep fun b _ hb => hst _ b hb).to (fun u hu => .inl (by simp at hu ⊢; exact .inl hu)), hown1, by simp [hlq], fun q hq => ?_, ?_⟩
       ·obtain ⟨q', hq', rfl⟩ := List.mem_map.1 hq
        exact pubQ_ok hx32 (hok q' hq')
       ·rw [← hp, List.drop_eq_getElem_cons h, (List.getElem?_eq_some_iff.1 hx).2, pubs, Int.add_assoc]
     ·simp
      refine ⟨hg1 _, by rw [hpl]; simp, vs, ?_, hown⟩
      rw [mix_0]
      exact (N.to (T' := [t, p]) (fun b hb => by simp at hb ⊢; omega)).keep (fun b hb _ => List.getElem?_append_left hb)
    ·simp [h, hg]
     have hjl : j = ids.l.length := by omega
     rw [hgood]
     rw [hjl, List.drop_length] at hp
     have hp2 : qs' = pubs f.cap f.ver qs ids.l := hp
     rw [hjl]
     have hr := N.rd (L := [x0, CB.cells 3 [.int .i64 f.cap, .int .i64 (f.ver + ids.l.length), .sl 4 (s + 2) 0 n n (n * 4)]]) rfl (fun q hq => (hok q hq).1) n (n * 4) (by rw [hlq])
     rw [hlq, hp2] at hr
     have hF := rd_Fs (f := { f with ver := f.ver + ids.l.length, subs := some (pubs f.cap f.ver qs ids.l) }) hr
     rw [hs]
     exact rd_tu2 hF (.same _ rfl)
   ·simp
    refine ⟨_, _, ⟨rfl, rfl⟩, by rw [ht]; simp, vs0, qs, ?_, ho0, hn.symm, fun q hq => ?_, rfl⟩
    ·exact (N0.to (T' := [t]) (fun b hb => by simp at hb ⊢; omega)).keep (fun b hb _ => List.getElem?_append_left hb)
    ·exact hf.1 q (by rw [hfs]; exact hq)
 ·simp [h1]
  unfold publish
  rw [if_pos h1]
  exact rd_tu2 (hz _) (.same _ rfl)
theorem Nest.one {c : Nat} {r : Hl} {s : Nat} {v : CV} {q : Queue} (hrow : r[s]? = some (.cells 4 (rowQ v q))) (hown : ownIds c r v q.ids) (hb : ∀ b, blkOf v = some b → b ≠ s + c) : Nest c r [] s [v] [q] := by
 refine ⟨rfl, by simpa [rowsQ] using hrow, fun i w p hw hp => ?_, fun i w b hw hbw => ?_, fun i j w w' b hij hw hw' _ => ?_, by simp⟩
 ·cases i with
  | zero => simp at hw hp; subst hw hp; exact hown
  | succ i => simp at hw
 ·cases i with
  | zero => simp at hw; subst hw; exact ⟨hb b hbw, fun t ht => by cases ht⟩
  | succ i => simp at hw
 ·have h1 := lt_get hw
  have h2 := lt_get hw'
  simp at h1 h2
  omega
theorem Nest.push {c : Nat} {r r' : Hl} {T : List Nat} {s : Nat} {vs : List CV} {qs : List Queue} (N : Nest c r T s vs qs) {v : CV} {q : Queue} (hrow : r'[s]? = some (.cells ((qs.length + 1) * 4) (rowsQ (vs ++ [v]) (qs ++ [q])).flatten))
  (hk : ∀ b, b < r.length → b ≠ s → r'[b]? = r[b]?) (hown : ownIds c r' v q.ids) (hb : ∀ b, blkOf v = some b → r.length + c ≤ b ∧ b ≠ s + c ∧ ∀ t ∈ T, b ≠ t + c) : Nest c r' T s (vs ++ [v]) (qs ++ [q]) := by
 have key : ∀ i w, (vs ++ [v])[i]? = some w → vs[i]? = some w ∨ (i = vs.length ∧ w = v) := fun i w h => by
  by_cases hi : i < vs.length
  ·rw [List.getElem?_append_left hi] at h; exact .inl h
  ·have := lt_get h
   simp at this
   obtain rfl : i = vs.length := by omega
   simp at h
   exact .inr ⟨rfl, h.symm⟩
 have old : ∀ i w b, vs[i]? = some w → blkOf w = some b → b < r.length + c := fun i w b hw hbw => by
  obtain ⟨p, hp⟩ : ∃ p, qs[i]? = some p := ⟨qs[i]'(by rw [← N.len]; exact lt_get hw), List.getElem?_eq_getElem _⟩
  obtain ⟨b', h2, h3⟩ := (N.own i w p hw hp).blk hbw
  omega
 refine ⟨by simp [N.len], by simpa using hrow, fun i w p hw hp => ?_, fun i w b hw hbw => ?_, fun i j w w' b hij hw hw' hbw => ?_, N.ts⟩
 ·rcases key i w hw with h1 | ⟨rfl, rfl⟩
  ·have hi := lt_get h1
   rw [List.getElem?_append_left (by rw [← N.len]; exact hi)] at hp
   have ho := N.own i w p h1 hp
   refine ho.keep fun b hbw => ?_
   obtain ⟨b', h2, h3⟩ := ho.blk hbw
   obtain rfl : b' = b := by omega
   exact hk b' h3 fun h => (N.far i w _ h1 hbw).1 (by rw [h])
  ·rw [N.len] at hp
   simp at hp
   subst hp
   exact hown
 ·rcases key i w hw with h1 | ⟨rfl, rfl⟩
  ·exact N.far i w b h1 hbw
  ·exact (hb b hbw).2
 ·rcases key i w hw with h1 | ⟨rfl, rfl⟩ <;> rcases key j w' hw' with h2 | ⟨rfl, rfl⟩
  ·exact N.apart i j w w' b hij h1 h2 hbw
  ·intro h
   have h3 := old i w b h1 hbw
   have h4 := (hb b h).1
   omega
  ·intro h
   have h3 := old j w' b h2 h
   have h4 := (hb b hbw).1
   omega
  ·exact absurd rfl hij
def okI (m : Nat) (q : Queue) : Prop := okIds q.ids ∧ q.ids.l.length ≤ m
def okB (m : Nat) (f : Feed) : Prop := (∀ q ∈ f.subs.l, okI m q) ∧ f.subs.l.length ≤ m
theorem okI.mono {m n : Nat} {q : Queue} (h : okI m q) (hm : m ≤ n) : okI n q := ⟨h.1, Nat.le_trans h.2 hm⟩
theorem okB.mono {m n : Nat} {f : Feed} (h : okB m f) (hm : m ≤ n) : okB n f := ⟨fun q hq => (h.1 q hq).mono hm, Nat.le_trans h.2 hm⟩
theorem okB.ok {m : Nat} {f : Feed} (h : okB m f) (hm : m ≤ 1000000) : okF f :=
 ⟨fun q hq => ⟨(h.1 q hq).1, Nat.le_trans (h.1 q hq).2 hm⟩, Nat.le_trans h.2 hm⟩
theorem ty_id (r : List CV) (h : Ty Tryz.prog [61] r) : ∃ x : Id, r = encId x ∧ x.length = 32 := by
 have h1 := ty_array (e := 5) (n := 32) (by kernel_rfl) h
 obtain ⟨x, cs', rfl, hx, h2⟩ := ty_ints (k := .u8) (by kernel_rfl) 32 h1
 rw [ty_nil h2, List.append_nil]
 exact ⟨x, rfl, hx⟩
theorem ty_ids {ts : List TypeId} {cs : List CV} (h : Ty Tryz.prog (23 :: ts) cs) : ∃ (s : Sv Id) (cs' : List CV), cs = encIds s :: cs' ∧ s.l.length ≤ maxLen ∧ okIds s ∧ Ty Tryz.prog ts cs' :=
 ty_sl (e := 61) (by kernel_rfl) (by kernel_rfl) ty_id h
theorem tyA_ids {ts : List TypeId} {cs : List CV} (h : TyA Tryz.prog (23 :: ts) cs) : ∃ (s : Sv Id) (cs' : List CV), cs = encIds s :: cs' ∧ s.l.length ≤ maxLen ∧ okIds s ∧ TyA Tryz.prog ts cs' := by
 obtain ⟨c, cs', rfl, h1, h2⟩ := tyA_cons h
 obtain ⟨s, cs1, hs, hl, hi, h3⟩ := ty_ids (tyV_one (by kernel_rfl) h1)
 cases hs
 exact ⟨s, cs', rfl, hl, hi, h2⟩
theorem tyA_int {ts : List TypeId} {cs : List CV} (h : TyA Tryz.prog (3 :: ts) cs) : ∃ (n : Int) (cs' : List CV), cs = .int .i64 n :: cs' ∧ IntKind.i64.min ≤ n ∧ n ≤ IntKind.i64.max ∧ TyA Tryz.prog ts cs' := by
 obtain ⟨c, cs', rfl, h1, h2⟩ := tyA_cons h
 obtain ⟨n, cs1, hs, hl, hi, h3⟩ := ty_int (k := .i64) (by kernel_rfl) (tyV_one (by kernel_rfl) h1)
 cases hs
 exact ⟨n, cs', rfl, hl, hi, h2⟩
def OkQ (cap ver : Int) (q : Queue) : Prop :=
 0 ≤ q.next ∧ q.next ≤ 1000000000 ∧ (q.ids.l.length : Int) ≤ cap ∧
 (q.en = true → q.ids.l = [] ∧ q.lag = false) ∧ (q.en = false → q.lag = true → q.next + q.ids.l.length ≤ ver) ∧
 (q.en = false → q.lag = false → q.next + q.ids.l.length = ver ∨ (q.ids.l = [] ∧ ver < q.next))
theorem okQ_iff (f : Feed) (q : Queue) : okQ f q = true ↔ OkQ f.cap f.ver q := by
 unfold okQ OkQ
 by_cases h1 : q.next < 0
 ·simp [h1]; omega
 by_cases h2 : 1000000000 < q.next
 ·simp [h1, h2]; omega
 by_cases h3 : f.cap < (q.ids.l.length : Int)
 ·simp [h1, h2, h3]; omega
 by_cases hn : q.ids.l = []
 ·rw [hn] at h3 ⊢
  have h3' : ¬f.cap < 0 := by simpa using h3
  cases h4 : q.en <;> cases h5 : q.lag <;> simp [h1, h2, h3'] <;> omega
 ·cases h4 : q.en <;> cases h5 : q.lag <;> simp [h1, h2, h3, hn] <;> omega
structure Valid (f : Feed) : Prop where
 c1 : 1 ≤ f.cap
 c8 : f.cap ≤ 8
 v0 : 0 ≤ f.ver
 v9 : f.ver ≤ 1000000000
 len : f.subs.l.length ≤ 60
 live : f.live ≤ 4
 qs : ∀ q ∈ f.subs.l, OkQ f.cap f.ver q
theorem chk_iff (f : Feed) : chk f = 0 ↔ Valid f := by
 unfold chk
 constructor
 ·intro h
  have hall : okFs f = true := by
   repeat' split at h
   all_goals first | assumption | (exfalso; omega)
  have hq : ∀ q ∈ f.subs.l, OkQ f.cap f.ver q := fun q hq => by
   unfold okFs at hall
   rw [List.all_eq_true] at hall
   exact (okQ_iff f q).1 (hall q hq)
  repeat' split at h
  all_goals first | (exfalso; omega) | skip
  exact ⟨by omega, by omega, by omega, by omega, by omega, by omega, hq⟩
 ·rintro ⟨a, b, c, d, e, g, hq⟩
  have hall : okFs f = true := by
   unfold okFs
   rw [List.all_eq_true]
   exact fun q h => (okQ_iff f q).2 (hq q h)
  rw [if_neg (by omega), if_neg (by omega), if_neg (by omega), if_neg (by omega), if_neg (by omega), if_neg (by omega), if_pos hall]
theorem OkQ.pub {cap ver : Int} {q : Queue} (h : OkQ cap ver q) (hc : 1 ≤ cap) (x : Id) : OkQ cap (ver + 1) (pubQ cap ver x q) := by
 obtain ⟨h1, h2, h3, h4, h5, h6⟩ := h
 by_cases hs : q.en = true ∨ q.lag = true ∨ ver < q.next
 ·rw [pubQ_skip hs]
  refine ⟨h1, h2, h3, h4, fun a b => by have := h5 a b; omega, fun a b => ?_⟩
  rcases h6 a b with h | h
  ·rcases hs with e | e | e
   ·rw [a] at e; cases e
   ·rw [b] at e; cases e
   ·omega
  ·rcases Int.lt_or_le (ver + 1) q.next with e | e
   ·exact .inr ⟨h.1, e⟩
   ·refine .inl ?_
    have : q.ids.l.length = 0 := by rw [h.1]; rfl
    omega
 ·have hen : q.en = false := by cases he : q.en <;> simp_all
  have hlg : q.lag = false := by cases he : q.lag <;> simp_all
  have hnx : ¬ver < q.next := fun e => hs (.inr (.inr e))
  have heq : q.next + q.ids.l.length = ver := by
   rcases h6 hen hlg with e | e
   ·exact e
   ·exact absurd e.2 hnx
  by_cases hcap : (q.ids.l.length : Int) = cap
  ·rw [pubQ_lag hs hcap]
   refine ⟨h1, h2, h3, fun a => ?_, fun _ _ => ?_, fun _ a => by cases a⟩
   ·rw [hen] at a; cases a
   ·show q.next + (q.ids.l.length : Int) ≤ ver + 1
    omega
  ·rw [pubQ_add hs hcap]
   refine ⟨h1, h2, ?_, fun a => ?_, fun _ a => ?_, fun _ _ => .inl ?_⟩
   ·show ((q.ids.l ++ [x]).length : Int) ≤ cap
    simp; omega
   ·rw [hen] at a; cases a
   ·rw [hlg] at a; cases a
   ·show q.next + ((q.ids.l ++ [x]).length : Int) = ver + 1
    simp; omega
theorem pubQ_en (cap ver : Int) (x : Id) (q : Queue) : (pubQ cap ver x q).en = q.en := by
 unfold pubQ
 repeat' split
 all_goals rfl
theorem live_map {g : Queue → Queue} (hg : ∀ q, (g q).en = q.en) (qs : List Queue) : liveL (qs.map g) = liveL qs := by
 unfold liveL
 rw [List.filter_map, List.length_map]
 congr 2
 funext q
 simp [hg]
theorem pubs_ok (cap : Int) (hc : 1 ≤ cap) : ∀ (ids : List Id) (ver : Int) (qs : List Queue), (∀ q ∈ qs, OkQ cap ver q) → (∀ q ∈ pubs cap ver qs ids, OkQ cap (ver + ids.length) q) ∧ liveL (pubs cap ver qs ids) = liveL qs
 | [], ver, qs, h => ⟨by simpa [pubs] using h, rfl⟩
 | x :: r, ver, qs, h => by
  have := pubs_ok cap hc r (ver + 1) (qs.map (pubQ cap ver x)) (fun q hq => by
   obtain ⟨p, hp, rfl⟩ := List.mem_map.1 hq
   exact (h p hp).pub hc x)
  refine ⟨fun q hq => ?_, ?_⟩
  ·have h1 := this.1 q hq
   rw [show ver + ((x :: r).length : Int) = ver + 1 + r.length by simp; omega]
   exact h1
  ·rw [pubs, this.2, live_map (pubQ_en cap ver x)]
end Fd
end Go.CM
/-
 Feeds: validity is kept.
-/
namespace Go.CM
open Go Go.Proofs
set_option maxRecDepth 100000
namespace Fd
theorem publish_ok0 {f : Feed} (h : chk f = 0) {ids : List Id} (h1 : ids.length ≤ 60) (h2 : f.ver + ids.length ≤ 1000000000) :
  publish f ids = ({ f with ver := f.ver + ids.length, subs := f.subs.map fun qs => pubs f.cap f.ver qs ids }, 0) := by
 unfold publish; rw [if_neg (by simp [h]), if_neg (by omega)]
theorem publish_subs (f : Feed) (v : Int) (ids : List Id) : ({ f with ver := v, subs := f.subs.map fun qs => pubs f.cap f.ver qs ids } : Feed).subs.l = pubs f.cap f.ver f.subs.l ids := by
 cases hs : f.subs with
 | none =>
  show ([] : List Queue) = pubs f.cap f.ver [] ids
  exact (List.length_eq_zero_iff.1 (by rw [pubs_len]; rfl)).symm
 | some qs => rfl
theorem valid_publish {f : Feed} (h : chk f = 0) {ids : List Id} (h1 : ids.length ≤ 60) (h2 : f.ver + ids.length ≤ 1000000000) : chk (publish f ids).1 = 0 := by
 rw [publish_ok0 h h1 h2]
 have V := (chk_iff f).1 h
 obtain ⟨p1, p2⟩ := pubs_ok f.cap V.c1 ids f.ver f.subs.l V.qs
 have hv := V.live
 refine (chk_iff _).2 ⟨V.c1, V.c8, ?_, h2, ?_, ?_, ?_⟩
 ·have := V.v0
  show 0 ≤ f.ver + (ids.length : Int)
  omega
 ·rw [publish_subs, pubs_len]; exact V.len
 ·unfold Feed.live
  rw [publish_subs, p2]; exact hv
 ·rw [publish_subs]; exact p1
theorem live_set {qs : List Queue} {k : Nat} {q p : Queue} (hq : qs[k]? = some q) (h : q.en = true → p.en = true) : liveL (qs.set k p) ≤ liveL qs := by
 induction qs generalizing k with
 | nil => simp at hq
 | cons a l ih =>
  cases k with
  | zero =>
   simp at hq
   subst hq
   simp only [List.set_cons_zero, liveL, List.filter_cons]
   cases ha : a.en <;> cases hp : p.en <;> simp_all
  | succ k =>
   simp at hq
   have := ih hq
   simp only [List.set_cons_succ, liveL, List.filter_cons] at this ⊢
   split <;> simp <;> omega
theorem valid_setQ {f : Feed} (h : chk f = 0) {k : Nat} {q p : Queue} (hq : f.subs.l[k]? = some q) (he : q.en = true → p.en = true) (hp : OkQ f.cap f.ver p) : chk (setQ f k p) = 0 := by
 have V := (chk_iff f).1 h
 refine (chk_iff _).2 ⟨V.c1, V.c8, V.v0, V.v9, ?_, ?_, fun r hr => ?_⟩
 ·show (f.subs.l.set k p).length ≤ 60
  rw [List.length_set]; exact V.len
 ·show liveL (f.subs.l.set k p) ≤ 4
  exact Nat.le_trans (live_set hq he) V.live
 ·rcases List.mem_or_eq_of_mem_set (show r ∈ f.subs.l.set k p from hr) with h1 | h1
  ·exact V.qs r h1
  ·rw [h1]; exact hp
theorem OkQ.tk {cap ver : Int} {q : Queue} {x : Id} {r : List Id} (h : OkQ cap ver q) (hv : ver ≤ 1000000000) (hi : q.ids.l = x :: r) (he : q.en = false) : OkQ cap ver { q with next := q.next + 1, ids := some r } := by
 obtain ⟨h1, h2, h3, h4, h5, h6⟩ := h
 rw [hi] at h3 h5 h6
 simp at h3 h5 h6
 have hb : q.next + 1 + (r.length : Int) ≤ ver := by
  cases hl : q.lag
  ·have := h6 he hl; omega
  ·have := h5 he hl; omega
 refine ⟨?_, ?_, ?_, fun a => ?_, fun _ a => ?_, fun _ a => .inl ?_⟩
 ·show 0 ≤ q.next + 1; omega
 ·show q.next + 1 ≤ 1000000000; omega
 ·show (r.length : Int) ≤ cap; omega
 ·rw [he] at a; cases a
 ·show q.next + 1 + (r.length : Int) ≤ ver; omega
 ·show q.next + 1 + (r.length : Int) = ver
  have := h6 he a; omega
theorem OkQ.lg {cap ver : Int} {q : Queue} (h : OkQ cap ver q) (hi : q.ids.l = []) : OkQ cap ver { q with lag := false, en := true } := by
 obtain ⟨h1, h2, h3, _⟩ := h
 exact ⟨h1, h2, h3, fun _ => ⟨hi, rfl⟩, fun a => (by cases a), fun a => (by cases a)⟩
theorem valid_sub {f : Feed} (h : chk f = 0) {n : Int} (hn : (sub f n).2.2 = 0) : chk (sub f n).1 = 0 := by
 have V := (chk_iff f).1 h
 unfold sub at hn ⊢
 repeat' split at hn
 all_goals first | (exfalso; revert hn; simp; done) | skip
 all_goals first | (exfalso; simp_all; done) | skip
 rename_i a1 a2 a3 a4 a5
 rw [if_neg a1, if_neg a2, if_neg a3, if_neg a4, if_neg a5]
 have hl : liveL (f.subs.l ++ [newQ n]) = liveL f.subs.l + 1 := by simp [liveL, List.filter_append, newQ]
 have v1 := V.len
 have v2 := V.live
 have v3 := V.v0
 have v4 := V.c1
 unfold Feed.live at a5 v2
 refine (chk_iff _).2 ⟨V.c1, V.c8, V.v0, V.v9, ?_, ?_, fun r hr => ?_⟩
 ·show (f.subs.l ++ [newQ n]).length ≤ 60
  simp; omega
 ·show liveL (f.subs.l ++ [newQ n]) ≤ 4
  omega
 ·rcases List.mem_append.1 (show r ∈ f.subs.l ++ [newQ n] from hr) with h1 | h1
  ·exact V.qs r h1
  ·simp at h1; subst h1
   refine ⟨?_, ?_, ?_, fun a => (by cases a), fun _ a => (by cases a), fun _ _ => ?_⟩
   ·show 0 ≤ n; omega
   ·show n ≤ 1000000000; omega
   ·show ((0 : Nat) : Int) ≤ f.cap; omega
   ·show n + ((0 : Nat) : Int) = f.ver ∨ (([] : List Id) = [] ∧ f.ver < n)
    rcases Int.lt_or_le f.ver n with e | e
    ·exact .inr ⟨rfl, e⟩
    ·exact .inl (by omega)
end Fd
end Go.CM
/-
 Feeds: alive, id, ids.
-/
namespace Go.CM
open Go Go.Proofs
set_option maxRecDepth 100000
namespace Fd
def idOf (n : Nat) : Id := (n : Int) :: 0 :: 1 :: List.replicate 29 0
end Fd
end Go.CM
/-
 Feeds: the law FeedKeeps: one round, plain.
-/
namespace Go.CM
open Go Go.Proofs
set_option maxRecDepth 100000
namespace Fd
structure Now (m : Nat) (v : Int) (k : Nat) (f : Feed) : Prop where
 ok : chk f = 0
 b : okB m f
 ver : f.ver = v
 q : ∃ q, f.subs.l[k]? = some q ∧ q.next = v ∧ q.ids.l = [] ∧ q.lag = false ∧ q.en = false
end Fd
end Go.CM
/-
 Feeds: the law FeedKeeps, walked.
-/
namespace Go.CM
open Go Go.Proofs
set_option maxRecDepth 100000
namespace Fd
end Fd
end Go.CM
