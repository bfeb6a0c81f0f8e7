/-
  The canonical machine, part H: parts of values, copy, conversions, numbers, equality.
-/
import Derived.Test.YtfedhobckpgokaaCmG
import Derived.Laws.BytesString
import Derived.Lib.ConvBytes
namespace Go.CM
open Go
set_option linter.unusedVariables false
set_option linter.unusedSimpArgs false

section
variable {P : Program} {w : World} {R : Nat → Prop} {B : Nat} {h : Hp} {μ : Mu}

theorem part_ok {t : TypeId} {cs : List CV} {vs : Array Value} {off : Nat} {c : CV} (hp : partC P t cs off = some c) (hr : RowA w R h μ cs vs) :
    ∃ v, (∀ w2 : World, (part t vs off).run P w2 = .ok v w2) ∧ VR w R h μ c v := by
  unfold partC at hp
  cases hag : aggT P t with
  | none => rw [hag] at hp; cases hp
  | some b =>
    rw [hag] at hp
    cases b with
    | false =>
      simp only at hp
      obtain ⟨v, h1, _, h3⟩ := hr.2 off c hp
      exact ⟨v, fun w2 => by simp [part, run_isAgg hag, h1], h3⟩
    | true =>
      cases hn : sizeT P t with
      | none => rw [hn] at hp; cases hp
      | some n =>
        rw [hn] at hp
        simp only at hp
        split at hp
        · rename_i hle
          simp only [Option.some.injEq] at hp
          subst hp
          refine ⟨.agg (vs.extract off (off + n)), fun w2 => by simp [part, run_isAgg hag, run_sizeOf' hn], RowA.ag ⟨by simp; rw [hr.1]; omega, fun j c hj => ?_⟩⟩
          have hjn : j < n := by
            have := (List.getElem?_eq_some_iff.1 hj).1
            rw [List.length_take] at this; omega
          rw [List.getElem?_take_of_lt hjn, List.getElem?_drop] at hj
          obtain ⟨v, h1, h2, h3⟩ := hr.2 _ c hj
          refine ⟨v, ?_, h2, h3⟩
          rw [Array.getElem?_extract, if_pos (by rw [hr.1]; omega)]
          exact h1
        · cases hp

theorem ag_row {cs : List CV} {xv : Value} (hx : VR w R h μ (.ag cs) xv) : ∃ vs, xv = .agg vs ∧ RowA w R h μ cs vs := by
  cases hx with
  | ag _ vs hl h1 hv =>
    refine ⟨vs, rfl, hl, fun j c hj => ?_⟩
    have hlt : j < vs.size := by rw [hl]; exact (List.getElem?_eq_some_iff.1 hj).1
    exact ⟨vs[j], by simp [hlt], h1 j _ (by simp [hlt]), hv j c _ hj (by simp [hlt])⟩

theorem field_ok {t : TypeId} {cs : List CV} {f : Nat} {fd : Field} {c : CV} {xv : Value} (hf : fieldOf P t f = some fd) (hp : partC P fd.type cs fd.offset = some c) (hx : VR w R h μ (.ag cs) xv) :
    ∃ v, (Instr.field t xv f).run P w = .ok v w ∧ VR w R h μ c v := by
  obtain ⟨fs, hu, hfs⟩ := fieldOf_some hf
  obtain ⟨vs, rfl, hr⟩ := ag_row hx
  obtain ⟨v, h1, h2⟩ := part_ok (P := P) hp hr
  exact ⟨v, by simp [Instr.field, run_und hu, hfs, asAgg, h1], h2⟩

theorem index_ok {t : TypeId} {x ix c : CV} {xv iv : Value} (hc : indexC P t x ix = some c) (hx : VR w R h μ x xv) (hi : VR w R h μ ix iv) :
    ∃ v, (Instr.index t xv iv).run P w = .ok v w ∧ VR w R h μ c v := by
  unfold indexC at hc
  split at hc
  · rename_i n e cs i hu hix
    obtain ⟨k, rfl⟩ := asInt_ok hix hi
    cases hz : sizeT P e with
    | none => rw [hz] at hc; cases hc
    | some z =>
      rw [hz] at hc
      simp only at hc
      split at hc
      · rename_i hb
        obtain ⟨vs, rfl, hr⟩ := ag_row hx
        obtain ⟨v, h1, h2⟩ := part_ok (P := P) hc hr
        exact ⟨v, by simp [Instr.index, asIntOf, run_und hu, hb, run_sizeOf' hz, h1], h2⟩
      · cases hc
  · rename_i s i hu hix
    obtain ⟨k, rfl⟩ := asInt_ok hix hi
    split at hc
    · rename_i hb
      cases hx with
      | str bs =>
        cases hbi : bs.data.toList[i.toNat]? with
        | none => rw [hbi] at hc; cases hc
        | some b =>
          rw [hbi] at hc
          simp only [Option.map_some, Option.some.injEq] at hc
          subst hc
          have hlt : i.toNat < bs.size := by have := (List.getElem?_eq_some_iff.1 hbi).1; simpa using this
          have hget : bs[i.toNat]? = some b := by
            have hb2 := (List.getElem?_eq_some_iff.1 hbi).2
            rw [getElem?_pos bs i.toNat hlt]
            simp only [Option.some.injEq]
            rw [← hb2]
            rfl
          exact ⟨.int .u8 b.toNat, by simp [Instr.index, asIntOf, run_und hu, hb, hget], .int _ _⟩
    · cases hc
  · cases hc

theorem copy_ok (rel : Rel R B w h μ) {t u ty : TypeId} {d x c : CV} {dv xv : Value} {h' : Hp} (hc : copyC P h t d x = some (c, h')) (hd : VR w R h μ d dv) (hx : VR w R h μ x xv) :
    ∃ v w', (Builtin.copy_ #[t, u] ty #[dv, xv]).run P w = .ok v w' ∧ Ext w h μ w' h' μ ∧ Rel R B w' h' μ ∧ VR w' R h' μ c v := by
  unfold copyC at hc
  cases he : elemT P t with
  | none => rw [he] at hc; cases hc
  | some e =>
  rw [he] at hc
  simp only at hc
  cases hz : sizeT P e with
  | none => rw [hz] at hc; cases hc
  | some z =>
  rw [hz] at hc
  simp only at hc
  cases hco : contents h z x with
  | none => rw [hco] at hc; cases hc
  | some xn =>
  obtain ⟨xs, n⟩ := xn
  rw [hco] at hc
  simp only at hc
  have hte := elemT_some he
  obtain ⟨hxl, hlen, vs, hrow, hfc⟩ := contents_ok (P := P) rel hco hx
  split at hc
  · simp only [Option.some.injEq, Prod.mk.injEq] at hc
    obtain ⟨rfl, rfl⟩ := hc
    cases hd
    have h0 := hfc 0 (Nat.zero_le _) w (fun _ => rfl)
    refine ⟨goInt (0 : Nat), w, ?_, .refl _ _ _, rel, .int _ _⟩
    simp [Builtin.copy_, run_und hte, hlen, run_sizeOf' hz, h0]
  · rename_i z' b off len cap sz
    cases hb : h.f b with
    | cells m cs =>
      rw [hb] at hc
      simp only at hc
      split at hc
      · rename_i hcnd
        obtain ⟨rfl, rfl⟩ := hcnd
        simp only [Option.some.injEq, Prod.mk.injEq] at hc
        obtain ⟨rfl, rfl⟩ := hc
        cases hd with
        | slGone _ _ _ _ _ _ cap' a hl hcc hg =>
          exfalso
          rcases hg with hg | ⟨n', cs', hg, hlt⟩
          · rw [hg] at hb; cases hb
          · rw [hg] at hb; cases hb; omega
        | sl _ _ _ _ _ _ cap' cs' mm hb' hm hl ho hcc =>
          have hbk := rel.blk b mm hm
          rw [hb] at hbk
          obtain ⟨hclen, hT, _⟩ := hbk
          have hmul : min n len * z ≤ cap * z := Nat.mul_le_mul_right _ (by omega)
          have hmul2 : min n len * z ≤ n * z := Nat.mul_le_mul_right _ (by omega)
          have htl : (xs.take (min n len * z)).length = min n len * z := by rw [List.length_take]; omega
          have hmax : max m (off + (xs.take (min n len * z)).length) = m := by rw [htl]; omega
          obtain ⟨w', h1, h2, h3⟩ := write_ok (P := P) rel (cvs := xs.take (min n len * z)) (vs := vs.take (min n len * z)) (k := off) hb hm (by omega)
            (by rw [List.length_take, List.length_take, hrow.1]) (by rw [hmax]; omega) (fun j c hj => by
              have hlt : j < min n len * z := by have := (List.getElem?_eq_some_iff.1 hj).1; rwa [htl] at this
              rw [List.getElem?_take_of_lt hlt] at hj ⊢
              exact hrow.2 j c hj)
          rw [hmax] at h2 h3
          have hf := hfc (min n len) (by omega) w (fun _ => rfl)
          refine ⟨goInt (min n len : Nat), w', ?_, h2, h3, .int _ _⟩
          have hmin : Nat.min n len = min n len := rfl
          simp [Builtin.copy_, run_und hte, hlen, run_sizeOf' hz, hmin, hf, h1]
      · cases hc
    | _ => rw [hb] at hc; cases hc
  · cases hc

theorem bytesOf_ints : ∀ (cs : List CV) (vs : List Value) (bs : List UInt8), bytesOfC cs = some bs → vs.length = cs.length →
    (∀ (j : Nat) (c : CV), cs[j]? = some c → ∃ v : Value, vs[j]? = some v ∧ v.oneCell' = true ∧ VR w R h μ c v) →
    ∃ ns : List Int, vs = ns.map (Value.int .u8) ∧ bs = ns.map fun n => UInt8.ofNat n.toNat
  | [], [], bs, hb, _, _ => by
    simp only [bytesOfC, Option.some.injEq] at hb; subst hb
    exact ⟨[], rfl, rfl⟩
  | [], _ :: _, _, _, hl, _ => by simp at hl
  | _ :: _, [], _, _, hl, _ => by simp at hl
  | c :: cs, v :: vs, bs, hb, hl, hv => by
    obtain ⟨v0, hv0, _, hvr⟩ := hv 0 c rfl
    simp only [List.getElem?_cons_zero, Option.some.injEq] at hv0
    subst hv0
    cases hvr with
    | int k n =>
      cases k <;> simp only [bytesOfC] at hb <;> try (cases hb; done)
      cases hbs : bytesOfC cs with
      | none => rw [hbs] at hb; cases hb
      | some bs' =>
        rw [hbs] at hb
        simp only [Option.map_some, Option.some.injEq] at hb
        subst hb
        obtain ⟨ns, h1, h2⟩ := bytesOf_ints cs vs bs' hbs (by simpa using hl) (fun j c hj => hv (j + 1) c (by simpa using hj))
        exact ⟨n :: ns, by rw [h1]; rfl, by rw [h2]; rfl⟩
    | _ => simp [bytesOfC] at hb

theorem foldl_push : ∀ (ns : List Int) (s : ByteArray), (ns.foldl (fun r n => r.push (UInt8.ofNat n.toNat)) s).data.toList = s.data.toList ++ ns.map fun n => UInt8.ofNat n.toNat
  | [], s => by simp
  | n :: ns, s => by
    rw [List.foldl_cons, foldl_push ns]
    simp [ByteArray.push]

theorem convert_ok (rel : Rel R B w h μ) {s d : TypeId} {x c : CV} {xv : Value} (hc : convertC P h s d x = some c) (hx : VR w R h μ x xv) :
    ∃ v, (convert s d xv).run P w = .ok v w ∧ VR w R h μ c v := by
  unfold convertC at hc
  split at hc
  · rename_i ds k k' n hs hd
    simp only [Option.some.injEq] at hc; subst hc
    cases hx
    exact ⟨.int k (k.wrap n), by simp [convert, run_und hs, run_und hd, Conv.intToInt], .int _ _⟩
  · rename_i s' hs hd
    simp only [Option.some.injEq] at hc; subst hc
    cases hx with
    | str bs => exact ⟨.string bs, by simp [convert, run_und hs, run_und hd], .str _⟩
  · rename_i e hs hd hne1
    cases hue : P.underlying e with
    | none => rw [hue] at hc; cases hc
    | some de =>
      rw [hue] at hc
      split at hc
      · rename_i heq
        simp only [Option.some.injEq] at heq hc; subst heq hc
        cases hx
        refine ⟨.string ByteArray.empty, by simp [convert, run_und hs, run_und hd, run_und hue, Conv.bytesToString], ?_⟩
        exact .str ByteArray.empty
      · rename_i heq hnn
        simp only [Option.some.injEq] at heq; subst heq
        split at hc
        · cases hc
        · rename_i cs n hnstr hco
          cases hbs : bytesOfC cs with
          | none => rw [hbs] at hc; cases hc
          | some bs =>
            rw [hbs] at hc
            simp only [Option.map_some, Option.some.injEq] at hc; subst hc
            obtain ⟨hxl, hlen, vs, hrow, hfc⟩ := contents_ok (P := P) rel hco hx
            have hf := hfc n (Nat.le_refl _) w (fun _ => rfl)
            obtain ⟨ns, rfl, rfl⟩ := bytesOf_ints cs vs bs hbs hrow.1 hrow.2
            have htake : (ns.map (Value.int .u8)).take (n * 1) = ns.map (Value.int .u8) := List.take_of_length_le (by rw [hrow.1, hxl]; exact Nat.le_refl _)
            rw [htake] at hf
            have hform : ∃ a len cap, xv = .slice a len cap := by
              cases hx <;> first | exact ⟨_, _, _, rfl⟩ | (simp [contents] at hco; done) | (exact absurd rfl (hnstr _))
            obtain ⟨a, len, cap, rfl⟩ := hform
            simp only [Builtin.lenOf, Sem.run_pure, Result.ok.injEq] at hlen
            obtain ⟨rfl, _⟩ := hlen
            have hdata := foldl_push ns ByteArray.empty
            refine ⟨.string (ns.foldl (fun r n => r.push (UInt8.ofNat n.toNat)) ByteArray.empty), ?_, ?_⟩
            · rw [run_convert_bytes_string w s d e a len cap hs hue hd]
              cases a with
              | none =>
                simp only [Builtin.firstCells, Sem.run_pure, Result.ok.injEq] at hf
                have hvs : ns = [] := by
                  have := congrArg Array.toList hf.1
                  simpa using this.symm
                subst hvs
                simp [Conv.bytesToString]
              | some a =>
                simp only [Builtin.firstCells, Nat.mul_one] at hf
                exact run_bytesToString w a len cap ns hf
            · have : (ns.foldl (fun r n => r.push (UInt8.ofNat n.toNat)) ByteArray.empty).data.toList = ns.map fun n => UInt8.ofNat n.toNat := by rw [hdata]; rfl
              rw [← this]
              exact .str _
        · cases hc
      · cases hc
  · cases hc

theorem rel_more (rel : Rel R B w h μ) {w' : World} (hb : RowKit.Below w.heap.size w w') : Ext w h μ w' h μ ∧ Rel R B w' h μ := by
  have e : Ext w h μ w' h μ := ⟨⟨hb.os, hb.tape, hb.output, hb.size, fun k hk _ => hb.block k hk, fun _ ho => .inl ho, fun b sz cs m h1 h2 => .inl ⟨cs, h1, h2⟩, fun _ _ hg => hg, fun _ _ _ h1 h2 => ⟨h1, h2⟩, Nat.le_refl _⟩, fun _ _ hm => hm⟩
  refine ⟨e, fun b m hm => ?_, rel.inj, rel.base, rel.fresh, rel.up, Nat.le_trans rel.size hb.size, rel.mu⟩
  cases hl : live (h.f b) with
  | false => cases hc : h.f b <;> first | trivial | (rw [hc] at hl; cases hl)
  | true => exact (rel.blk b m hm).ext e.toExt0 (hb.block _ (rel.lt hl hm))

theorem bytesStr_ok (rel : Rel R B w h μ) {s d : TypeId} {x c : CV} {xv : Value} (hc : bytesStrC P s d x = some c) (hx : VR w R h μ x xv) :
    ∃ v w', (convert s d xv).run P w = .ok v w' ∧ Ext w h μ w' h μ ∧ Rel R B w' h μ ∧ VR w' R h μ c v := by
  unfold bytesStrC at hc
  split at hc
  · rename_i ds e s' hs hd
    split at hc
    · rename_i hu
      simp only [Option.some.injEq] at hc; subst hc
      cases hx with
      | str bs =>
        have hbel : RowKit.Below w.heap.size w (Lib.bytesWorld w e bs) := ⟨rfl, rfl, rfl, by rw [Lib.bytesWorld_size]; omega, fun k hk => Lib.bytesWorld_at_old w e bs k hk⟩
        obtain ⟨h1, h2⟩ := rel_more rel hbel
        refine ⟨_, _, Lib.run_convert_string_bytes w s d e bs hs hd hu, h1, h2, ?_⟩
        have hsz : bs.data.toList.length = bs.size := by simp
        have hown : ¬ Own h μ w.heap.size := by
          rintro ⟨b, m, hl, hm, he⟩
          have := rel.lt hl hm
          omega
        have hcap : bs.size ≤ grownCap w bs.size 0 e := grownCap_ge w bs.size 0 e
        have := VR.rsl (w := Lib.bytesWorld w e bs) (R := R) (h := h) (μ := μ) 1 (bs.data.toList.map fun b => [byteC b]) w.heap.size 0 (grownCap w bs.size 0 e) (fun i _ => .int .u8 (bs.data.toList.getD i 0).toNat)
          (by simpa using hcap) (fun e he => by obtain ⟨b, _, rfl⟩ := List.mem_map.1 he; rfl)
          (fun i j hi hj => by
            have hi' : i < bs.size := by simpa using hi
            have : j = 0 := by omega
            subst this
            exact ⟨by simpa using Lib.bytesWorld_cell w e bs i hi', rfl, rel.up _ rel.size, hown⟩)
          (fun i e he j c hj => by
            rw [List.getElem?_map] at he
            cases hb : bs.data.toList[i]? with
            | none => rw [hb] at he; cases he
            | some b =>
              rw [hb] at he
              simp only [Option.map_some, Option.some.injEq] at he; subst he
              cases j with
              | zero =>
                simp only [List.getElem?_cons_zero, Option.some.injEq] at hj; subst hj
                have : bs.data.toList.getD i 0 = b := by simp [List.getD, hb]
                rw [this]
                exact .int _ _
              | succ j => simp at hj)
        rw [List.length_map, hsz] at this
        exact this
    · cases hc
  · cases hc

theorem cap_ok {t ty : TypeId} {x c : CV} {xv : Value} (hc : capC P t x = some c) (hx : VR w R h μ x xv) : ∃ v, (Builtin.cap_ #[t] ty #[xv]).run P w = .ok v w ∧ VR w R h μ c v := by
  unfold capC at hc
  split at hc <;> (try (simp only [Option.some.injEq] at hc; subst hc))
  · rename_i n e hu
    exact ⟨goInt n, by simp [Builtin.cap_, run_und hu], .int _ _⟩
  · rename_i e hu
    cases hx
    exact ⟨goInt (0 : Nat), by simp [Builtin.cap_, run_und hu], .int _ _⟩
  · cases hc

theorem clear_ok (rel : Rel R B w h μ) {t ty : TypeId} {x : CV} {xv : Value} {h' : Hp} (hc : clearC P h t x = some h') (hx : VR w R h μ x xv) :
    ∃ w', (Builtin.clear_ #[t] ty #[xv]).run P w = .ok (.tuple #[]) w' ∧ Ext w h μ w' h' μ ∧ Rel R B w' h' μ := by
  unfold clearC at hc
  split at hc
  · rename_i e hu
    simp only [Option.some.injEq] at hc; subst hc
    cases hx
    exact ⟨w, by simp [Builtin.clear_, run_und hu], .refl _ _ _, rel⟩
  · rename_i e z hu
    simp only [Option.some.injEq] at hc; subst hc
    cases hx <;> exact ⟨w, by simp [Builtin.clear_, run_und hu], .refl _ _ _, rel⟩
  · rename_i e z b off len cap sz hu
    split at hc
    · rename_i hl0
      simp only [Option.some.injEq] at hc; subst hc
      subst hl0
      cases hx <;> exact ⟨w, by simp [Builtin.clear_, run_und hu], .refl _ _ _, rel⟩
    · rename_i hl0
      split at hc
      · rename_i zero m cs hz hb
        split at hc
        · rename_i hcnd
          obtain ⟨rfl, rfl⟩ := hcnd
          simp only [Option.some.injEq] at hc; subst hc
          cases hx with
          | slGone _ _ _ _ _ _ cap' a hl hcc hg =>
            exfalso
            rcases hg with hg | ⟨n', cs', hg, hlt⟩
            · rw [hg] at hb; cases hb
            · rw [hg] at hb; cases hb; omega
          | sl _ _ _ _ _ _ cap' cs' mm hb' hm hl ho hcc =>
            have hbk := rel.blk b mm hm
            rw [hb] at hbk
            obtain ⟨hclen, hT, _⟩ := hbk
            obtain ⟨v, hv, hr⟩ := zero_row (P := P) (w := w) (R := R) (h := h) (μ := μ) hz
            have hrr := repeat_row hr len
            have hmul : len * zero.length ≤ cap * zero.length := Nat.mul_le_mul_right _ hl
            have hrl : (repeatC zero len).length = len * zero.length := repeat_len len
            have hmax : max m (off + (repeatC zero len).length) = m := by rw [hrl]; omega
            have hzl : v.cells.size = zero.length := hr.1
            have hzc : (Builtin.zeroCells v.cells len) = (Array.range (len * zero.length)).map (v.cells[· % v.cells.size]!) := by
              unfold Builtin.zeroCells
              rw [hzl]
            obtain ⟨w', h1, h2, h3⟩ := write_ok (P := P) rel (cvs := repeatC zero len) (vs := (Builtin.zeroCells v.cells len).toList) (k := off) hb hm (by omega)
              (by rw [hzc, hrl]; simp) (by rw [hmax]; omega) (fun j c hj => by
                rw [hzc]
                obtain ⟨u, a1, a2, a3⟩ := hrr.2 j c hj
                exact ⟨u, by rw [Array.getElem?_toList]; exact a1, a2, a3⟩)
            rw [hmax] at h2 h3
            refine ⟨w', ?_, h2, h3⟩
            cases hlen : len with
            | zero => exact absurd hlen hl0
            | succ len' =>
              rw [hlen] at h1
              simp [Builtin.clear_, run_und hu, hv, h1]
        · cases hc
      · cases hc
  · cases hc

theorem appendZ_ok (rel : Rel R B w h μ) {t u ty : TypeId} {k : IntKind} {s x c : CV} {sv xv : Value} {h' : Hp} (hu : P.underlying u = some (.int k)) (ha : appendZC P h t s x = some (c, h')) (hs : VR w R h μ s sv) (hx : VR w R h μ x xv) :
    ∃ v w' μ', (Builtin.append_ #[t, u] ty #[sv, xv]).run P w = .ok v w' ∧ Ext w h μ w' h' μ' ∧ Rel R B w' h' μ' ∧ VR w' R h' μ' c v := by
  unfold appendZC at ha
  split at ha
  · rename_i e n he hi
    have hte := elemT_some he
    obtain ⟨kx, rfl⟩ := asInt_ok hi hx
    split at ha
    · rename_i z by_ zero hz hby hzero
      split at ha
      · rename_i hcond
        obtain ⟨hzl, hn0, hn63, hroom⟩ := hcond
        obtain ⟨i, zv, hinfo, hzv, hzs, _⟩ := zero_ok (P := P) (w := w) (R := R) (h := h) (μ := μ) hzero
        have hsize : i.size = z := by simpa [sizeT, hinfo] using hz
        have hbytes : i.bytes = by_ := by simpa [bytesT, hinfo] using hby
        have hwrap : IntKind.i64.wrap n = n := by
          simp [IntKind.wrap, IntKind.bits, IntKind.signed]; omega
        have hn : (n.toNat : Int) = n := by omega
        have hneg : ¬ (n < 0) := by omega
        have h48 : ¬ (2 ^ 48 < n * (by_ : Int)) := by
          have h1 : ((n.toNat * by_ : Nat) : Int) = n * by_ := by rw [Int.natCast_mul, hn]
          have h2 : ((n.toNat * by_ : Nat) : Int) ≤ ((140737488355328 : Nat) : Int) := Int.ofNat_le.2 hroom
          rw [h1] at h2
          omega
        have hrow : RowA w R h μ (repeatC zero n.toNat) (Builtin.zeroCells zv.cells n.toNat) := by
          obtain ⟨v, hv, hr⟩ := zero_row (P := P) (w := w) (R := R) (h := h) (μ := μ) hzero
          have hvz : v = zv := by
            have := hv w
            simp [zeroValue, typeInfo, hinfo, hzv] at this
            exact this.symm
          subst hvz
          have hrr := repeat_row hr n.toNat
          have hzc : (Builtin.zeroCells v.cells n.toNat) = (Array.range (n.toNat * zero.length)).map (v.cells[· % v.cells.size]!) := by
            unfold Builtin.zeroCells
            rw [hr.1]
          rw [hzc]
          exact hrr
        have hrl : (repeatC zero n.toNat).length = n.toNat * z := by rw [repeat_len, hzl]
        have hai : ∀ w2 : World, (Go.asInt (.int kx n)).run P w2 = .ok n w2 := fun w2 => rfl
        have h48' : ¬ (281474976710656 < n * (by_ : Int)) := by omega
        have hzr : ∀ w2 : World, (zeroValue e).run P w2 = .ok zv w2 := fun w2 => by simp [zeroValue, typeInfo, hinfo, hzv]
        have hz00 : n.toNat * z = 0 → Builtin.zeroCells zv.cells n.toNat = #[] := fun h0 => by
          apply Array.eq_empty_of_size_eq_zero
          unfold Builtin.zeroCells
          simp [hzs, hzl, h0]
        refine append_core rel hz hby ha hs hrl (vs := (Builtin.zeroCells zv.cells n.toNat).toList) ⟨by simpa using hrow.1, fun j c hj => by
          obtain ⟨v, a1, a2, a3⟩ := hrow.2 j c hj
          exact ⟨v, by rw [Array.getElem?_toList]; exact a1, a2, a3⟩⟩ (fun base sLen sCap w' hfit hst => ?_) (fun i' zv' hi' hzv' base sLen sCap olds ho hg hr hb => ?_)
        · by_cases h0 : n.toNat * z = 0
          · rw [hz00 h0] at hst
            cases base with
            | none =>
              subst hst
              simp [Builtin.append_, hai, run_und hte, run_und hu, run_sizeOf' hz, hwrap, hneg, typeInfo, hinfo, hbytes, hfit, h48', h0]
            | some a =>
              simp only at hst
              simp [Builtin.append_, hai, run_und hte, run_und hu, run_sizeOf' hz, hwrap, hneg, typeInfo, hinfo, hbytes, hfit, h48', h0, hst]
          · cases base with
            | none =>
              subst hst
              simp [Builtin.append_, hai, run_und hte, run_und hu, run_sizeOf' hz, hwrap, hneg, typeInfo, hinfo, hbytes, hfit, h48', h0, hzr]
            | some a =>
              simp only at hst
              simp [Builtin.append_, hai, run_und hte, run_und hu, run_sizeOf' hz, hwrap, hneg, typeInfo, hinfo, hbytes, hfit, h48', h0, hzr, hst]
        · rw [hinfo] at hi'
          cases hi'
          rw [hzv] at hzv'
          cases hzv'
          have hgs : ¬ (281474976710656 < Builtin.nextslicecap (sLen + n.toNat) sCap * i.bytes) := by
            have := growslice_fits (need := sLen + n.toNat) (old := sCap) (bytes := i.bytes) hg hr
            omega
          have hnf : ¬ (sLen + n.toNat ≤ sCap) := by omega
          have hmx : ¬ ((9223372036854775807 : Int) < ((sLen + n.toNat : Nat) : Int)) := by
            have h1 : (sLen + n.toNat) * 1 ≤ (sLen + n.toNat) * i.bytes := Nat.mul_le_mul_left _ hb
            unfold roomMax at hr
            omega
          have hmx' : ¬ ((9223372036854775807 : Int) < (sLen : Int) + max n 0) := by omega
          rw [hsize] at ho
          rw [hbytes] at hgs
          by_cases h0 : n.toNat * z = 0
          · have hlist : (olds ++ (Builtin.zeroCells zv.cells n.toNat).toList).toArray = olds.toArray := by rw [hz00 h0]; simp
            rw [hlist]
            simp [Builtin.append_, hai, run_und hte, run_und hu, run_sizeOf' hz, hwrap, hneg, typeInfo, hinfo, hbytes, hnf, h48', hmx, hmx', hgs, h0, hzr, ho, Question.forced, newRow, grownCap]
          · have hlist : (olds ++ (Builtin.zeroCells zv.cells n.toNat).toList).toArray = olds.toArray ++ Builtin.zeroCells zv.cells n.toNat := by simp
            rw [hlist]
            simp [Builtin.append_, hai, run_und hte, run_und hu, run_sizeOf' hz, hwrap, hneg, typeInfo, hinfo, hbytes, hnf, h48', hmx, hmx', hgs, h0, hzr, ho, Question.forced, newRow, grownCap]
      · cases ha
    · cases ha
  · cases ha

end
end Go.CM
