/-
  The canonical machine, part H: parts of values, copy, conversions, numbers, equality.
-/
import Derived.Test.YtfedhobckpgokaaCmG
import Derived.Laws.BytesString
namespace Go.CM
open Go
set_option linter.unusedVariables false
set_option linter.unusedSimpArgs false

section
variable {P : Program} {w : World} {R : Nat → Prop} {B : Nat} {h : Hp} {μ : Mu}

theorem part_ok {t : TypeId} {cs : List CV} {vs : Array Value} {off : Nat} {c : CV} (hp : partC P t cs off = some c) (hr : RowA w R h μ cs vs) :
    ∃ v, (∀ w2 : World, (part t vs off).run P w2 = .ok v w2) ∧ VR w R h μ c v := by
  unfold partC at hp
  cases hag : aggT P t with
  | none => rw [hag] at hp; cases hp
  | some b =>
    rw [hag] at hp
    cases b with
    | false =>
      simp only at hp
      obtain ⟨v, h1, _, h3⟩ := hr.2 off c hp
      exact ⟨v, fun w2 => by simp [part, run_isAgg hag, h1], h3⟩
    | true =>
      cases hn : sizeT P t with
      | none => rw [hn] at hp; cases hp
      | some n =>
        rw [hn] at hp
        simp only at hp
        split at hp
        · rename_i hle
          simp only [Option.some.injEq] at hp
          subst hp
          refine ⟨.agg (vs.extract off (off + n)), fun w2 => by simp [part, run_isAgg hag, run_sizeOf' hn], RowA.ag ⟨by simp; rw [hr.1]; omega, fun j c hj => ?_⟩⟩
          have hjn : j < n := by
            have := (List.getElem?_eq_some_iff.1 hj).1
            rw [List.length_take] at this; omega
          rw [List.getElem?_take_of_lt hjn, List.getElem?_drop] at hj
          obtain ⟨v, h1, h2, h3⟩ := hr.2 _ c hj
          refine ⟨v, ?_, h2, h3⟩
          rw [Array.getElem?_extract, if_pos (by rw [hr.1]; omega)]
          exact h1
        · cases hp

theorem ag_row {cs : List CV} {xv : Value} (hx : VR w R h μ (.ag cs) xv) : ∃ vs, xv = .agg vs ∧ RowA w R h μ cs vs := by
  cases hx with
  | ag _ vs hl h1 hv =>
    refine ⟨vs, rfl, hl, fun j c hj => ?_⟩
    have hlt : j < vs.size := by rw [hl]; exact (List.getElem?_eq_some_iff.1 hj).1
    exact ⟨vs[j], by simp [hlt], h1 j _ (by simp [hlt]), hv j c _ hj (by simp [hlt])⟩

theorem field_ok {t : TypeId} {cs : List CV} {f : Nat} {fd : Field} {c : CV} {xv : Value} (hf : fieldOf P t f = some fd) (hp : partC P fd.type cs fd.offset = some c) (hx : VR w R h μ (.ag cs) xv) :
    ∃ v, (Instr.field t xv f).run P w = .ok v w ∧ VR w R h μ c v := by
  obtain ⟨fs, hu, hfs⟩ := fieldOf_some hf
  obtain ⟨vs, rfl, hr⟩ := ag_row hx
  obtain ⟨v, h1, h2⟩ := part_ok (P := P) hp hr
  exact ⟨v, by simp [Instr.field, run_und hu, hfs, asAgg, h1], h2⟩

theorem index_ok {t : TypeId} {x ix c : CV} {xv iv : Value} (hc : indexC P t x ix = some c) (hx : VR w R h μ x xv) (hi : VR w R h μ ix iv) :
    ∃ v, (Instr.index t xv iv).run P w = .ok v w ∧ VR w R h μ c v := by
  unfold indexC at hc
  split at hc
  · rename_i n e cs i hu hix
    obtain ⟨k, rfl⟩ := asInt_ok hix hi
    cases hz : sizeT P e with
    | none => rw [hz] at hc; cases hc
    | some z =>
      rw [hz] at hc
      simp only at hc
      split at hc
      · rename_i hb
        obtain ⟨vs, rfl, hr⟩ := ag_row hx
        obtain ⟨v, h1, h2⟩ := part_ok (P := P) hc hr
        exact ⟨v, by simp [Instr.index, asIntOf, run_und hu, hb, run_sizeOf' hz, h1], h2⟩
      · cases hc
  · rename_i s i hu hix
    obtain ⟨k, rfl⟩ := asInt_ok hix hi
    split at hc
    · rename_i hb
      cases hx with
      | str bs =>
        cases hbi : bs.data.toList[i.toNat]? with
        | none => rw [hbi] at hc; cases hc
        | some b =>
          rw [hbi] at hc
          simp only [Option.map_some, Option.some.injEq] at hc
          subst hc
          have hlt : i.toNat < bs.size := by have := (List.getElem?_eq_some_iff.1 hbi).1; simpa using this
          have hget : bs[i.toNat]? = some b := by
            have hb2 := (List.getElem?_eq_some_iff.1 hbi).2
            rw [getElem?_pos bs i.toNat hlt]
            simp only [Option.some.injEq]
            rw [← hb2]
            rfl
          exact ⟨.int .u8 b.toNat, by simp [Instr.index, asIntOf, run_und hu, hb, hget], .int _ _⟩
    · cases hc
  · cases hc

theorem copy_ok (rel : Rel R B w h μ) {t u ty : TypeId} {d x c : CV} {dv xv : Value} {h' : Hp} (hc : copyC P h t d x = some (c, h')) (hd : VR w R h μ d dv) (hx : VR w R h μ x xv) :
    ∃ v w', (Builtin.copy_ #[t, u] ty #[dv, xv]).run P w = .ok v w' ∧ Ext w h μ w' h' μ ∧ Rel R B w' h' μ ∧ VR w' R h' μ c v := by
  unfold copyC at hc
  cases he : elemT P t with
  | none => rw [he] at hc; cases hc
  | some e =>
  rw [he] at hc
  simp only at hc
  cases hz : sizeT P e with
  | none => rw [hz] at hc; cases hc
  | some z =>
  rw [hz] at hc
  simp only at hc
  cases hco : contents h z x with
  | none => rw [hco] at hc; cases hc
  | some xn =>
  obtain ⟨xs, n⟩ := xn
  rw [hco] at hc
  simp only at hc
  have hte := elemT_some he
  obtain ⟨hxl, hlen, vs, hrow, hfc⟩ := contents_ok (P := P) rel hco hx
  split at hc
  · simp only [Option.some.injEq, Prod.mk.injEq] at hc
    obtain ⟨rfl, rfl⟩ := hc
    cases hd
    have h0 := hfc 0 (Nat.zero_le _) w (fun _ => rfl)
    refine ⟨goInt (0 : Nat), w, ?_, .refl _ _ _, rel, .int _ _⟩
    simp [Builtin.copy_, run_und hte, hlen, run_sizeOf' hz, h0]
  · rename_i z' b off len cap sz
    cases hb : h.f b with
    | cells m cs =>
      rw [hb] at hc
      simp only at hc
      split at hc
      · rename_i hcnd
        obtain ⟨rfl, rfl⟩ := hcnd
        simp only [Option.some.injEq, Prod.mk.injEq] at hc
        obtain ⟨rfl, rfl⟩ := hc
        cases hd with
        | slGone _ _ _ _ _ _ cap' a hl hcc hg =>
          exfalso
          rcases hg with hg | ⟨n', cs', hg, hlt⟩
          · rw [hg] at hb; cases hb
          · rw [hg] at hb; cases hb; omega
        | sl _ _ _ _ _ _ cap' cs' mm hb' hm hl ho hcc =>
          have hbk := rel.blk b mm hm
          rw [hb] at hbk
          obtain ⟨hclen, hT, _⟩ := hbk
          have hmul : min n len * z ≤ cap * z := Nat.mul_le_mul_right _ (by omega)
          have hmul2 : min n len * z ≤ n * z := Nat.mul_le_mul_right _ (by omega)
          have htl : (xs.take (min n len * z)).length = min n len * z := by rw [List.length_take]; omega
          have hmax : max m (off + (xs.take (min n len * z)).length) = m := by rw [htl]; omega
          obtain ⟨w', h1, h2, h3⟩ := write_ok (P := P) rel (cvs := xs.take (min n len * z)) (vs := vs.take (min n len * z)) (k := off) hb hm (by omega)
            (by rw [List.length_take, List.length_take, hrow.1]) (by rw [hmax]; omega) (fun j c hj => by
              have hlt : j < min n len * z := by have := (List.getElem?_eq_some_iff.1 hj).1; rwa [htl] at this
              rw [List.getElem?_take_of_lt hlt] at hj ⊢
              exact hrow.2 j c hj)
          rw [hmax] at h2 h3
          have hf := hfc (min n len) (by omega) w (fun _ => rfl)
          refine ⟨goInt (min n len : Nat), w', ?_, h2, h3, .int _ _⟩
          have hmin : Nat.min n len = min n len := rfl
          simp [Builtin.copy_, run_und hte, hlen, run_sizeOf' hz, hmin, hf, h1]
      · cases hc
    | _ => rw [hb] at hc; cases hc
  · cases hc

theorem bytesOf_ints : ∀ (cs : List CV) (vs : List Value) (bs : List UInt8), bytesOfC cs = some bs → vs.length = cs.length →
    (∀ (j : Nat) (c : CV), cs[j]? = some c → ∃ v : Value, vs[j]? = some v ∧ v.oneCell' = true ∧ VR w R h μ c v) →
    ∃ ns : List Int, vs = ns.map (Value.int .u8) ∧ bs = ns.map fun n => UInt8.ofNat n.toNat
  | [], [], bs, hb, _, _ => by
    simp only [bytesOfC, Option.some.injEq] at hb; subst hb
    exact ⟨[], rfl, rfl⟩
  | [], _ :: _, _, _, hl, _ => by simp at hl
  | _ :: _, [], _, _, hl, _ => by simp at hl
  | c :: cs, v :: vs, bs, hb, hl, hv => by
    obtain ⟨v0, hv0, _, hvr⟩ := hv 0 c rfl
    simp only [List.getElem?_cons_zero, Option.some.injEq] at hv0
    subst hv0
    cases hvr with
    | int k n =>
      cases k <;> simp only [bytesOfC] at hb <;> try (cases hb; done)
      cases hbs : bytesOfC cs with
      | none => rw [hbs] at hb; cases hb
      | some bs' =>
        rw [hbs] at hb
        simp only [Option.map_some, Option.some.injEq] at hb
        subst hb
        obtain ⟨ns, h1, h2⟩ := bytesOf_ints cs vs bs' hbs (by simpa using hl) (fun j c hj => hv (j + 1) c (by simpa using hj))
        exact ⟨n :: ns, by rw [h1]; rfl, by rw [h2]; rfl⟩
    | _ => simp [bytesOfC] at hb

theorem foldl_push : ∀ (ns : List Int) (s : ByteArray), (ns.foldl (fun r n => r.push (UInt8.ofNat n.toNat)) s).data.toList = s.data.toList ++ ns.map fun n => UInt8.ofNat n.toNat
  | [], s => by simp
  | n :: ns, s => by
    rw [List.foldl_cons, foldl_push ns]
    simp [ByteArray.push]

theorem convert_ok (rel : Rel R B w h μ) {s d : TypeId} {x c : CV} {xv : Value} (hc : convertC P h s d x = some c) (hx : VR w R h μ x xv) :
    ∃ v, (convert s d xv).run P w = .ok v w ∧ VR w R h μ c v := by
  unfold convertC at hc
  split at hc
  · rename_i ds k k' n hs hd
    simp only [Option.some.injEq] at hc; subst hc
    cases hx
    exact ⟨.int k (k.wrap n), by simp [convert, run_und hs, run_und hd, Conv.intToInt], .int _ _⟩
  · rename_i s' hs hd
    simp only [Option.some.injEq] at hc; subst hc
    cases hx with
    | str bs => exact ⟨.string bs, by simp [convert, run_und hs, run_und hd], .str _⟩
  · rename_i e hs hd hne1
    cases hue : P.underlying e with
    | none => rw [hue] at hc; cases hc
    | some de =>
      rw [hue] at hc
      split at hc
      · rename_i heq
        simp only [Option.some.injEq] at heq hc; subst heq hc
        cases hx
        refine ⟨.string ByteArray.empty, by simp [convert, run_und hs, run_und hd, run_und hue, Conv.bytesToString], ?_⟩
        exact .str ByteArray.empty
      · rename_i heq hnn
        simp only [Option.some.injEq] at heq; subst heq
        split at hc
        · cases hc
        · rename_i cs n hnstr hco
          cases hbs : bytesOfC cs with
          | none => rw [hbs] at hc; cases hc
          | some bs =>
            rw [hbs] at hc
            simp only [Option.map_some, Option.some.injEq] at hc; subst hc
            obtain ⟨hxl, hlen, vs, hrow, hfc⟩ := contents_ok (P := P) rel hco hx
            have hf := hfc n (Nat.le_refl _) w (fun _ => rfl)
            obtain ⟨ns, rfl, rfl⟩ := bytesOf_ints cs vs bs hbs hrow.1 hrow.2
            have htake : (ns.map (Value.int .u8)).take (n * 1) = ns.map (Value.int .u8) := List.take_of_length_le (by rw [hrow.1, hxl]; exact Nat.le_refl _)
            rw [htake] at hf
            have hform : ∃ a len cap, xv = .slice a len cap := by
              cases hx <;> first | exact ⟨_, _, _, rfl⟩ | (simp [contents] at hco; done) | (exact absurd rfl (hnstr _))
            obtain ⟨a, len, cap, rfl⟩ := hform
            simp only [Builtin.lenOf, Sem.run_pure, Result.ok.injEq] at hlen
            obtain ⟨rfl, _⟩ := hlen
            have hdata := foldl_push ns ByteArray.empty
            refine ⟨.string (ns.foldl (fun r n => r.push (UInt8.ofNat n.toNat)) ByteArray.empty), ?_, ?_⟩
            · rw [run_convert_bytes_string w s d e a len cap hs hue hd]
              cases a with
              | none =>
                simp only [Builtin.firstCells, Sem.run_pure, Result.ok.injEq] at hf
                have hvs : ns = [] := by
                  have := congrArg Array.toList hf.1
                  simpa using this.symm
                subst hvs
                simp [Conv.bytesToString]
              | some a =>
                simp only [Builtin.firstCells, Nat.mul_one] at hf
                exact run_bytesToString w a len cap ns hf
            · have : (ns.foldl (fun r n => r.push (UInt8.ofNat n.toNat)) ByteArray.empty).data.toList = ns.map fun n => UInt8.ofNat n.toNat := by rw [hdata]; rfl
              rw [← this]
              exact .str _
        · cases hc
      · cases hc
  · cases hc

end
end Go.CM
