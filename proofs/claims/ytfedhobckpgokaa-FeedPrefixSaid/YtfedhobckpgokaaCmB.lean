/-
  The canonical machine, part B: how a canonical state stands to a world; what keeps.
-/
import Derived.Test.YtfedhobckpgokaaCmA
import Derived.Laws.AppendOwn
import Derived.Laws.CopyRow
import Derived.Laws.IdiomCopy
import Derived.Laws.StructEq
namespace Go.CM
open Go
set_option linter.unusedVariables false
set_option linter.unusedSimpArgs false

structure M where
  r : Nat
  s : Nat
  T : Nat
abbrev Mu := Nat → Option M

def live : CB → Bool
  | .cells .. | .map .. | .iter .. => true
  | _ => false
/-- Maps and iterators keep their kind. -/
def kindC : CB → Nat
  | .map .. => 1
  | .iter .. => 2
  | _ => 0
def Own (h : Hp) (μ : Mu) (k : Nat) : Prop := ∃ b m, live (h.f b) = true ∧ μ b = some m ∧ m.r = k
def Gone (h : Hp) (b sz : Nat) : Prop := h.f b = .dead ∨ ∃ n cs, h.f b = .cells n cs ∧ sz < n

/-- A cell of memory that is only read. -/
structure Cell (w : World) (R : Nat → Prop) (h : Hp) (μ : Mu) (b o : Nat) (v : Value) : Prop where
  here : w.cell? ⟨b, o, none⟩ = some v
  one : v.oneCell' = true
  ro : R b
  free : ¬ Own h μ b

inductive VR (w : World) (R : Nat → Prop) (h : Hp) (μ : Mu) : CV → Value → Prop where
  | bool (b : Bool) : VR w R h μ (.bool b) (.bool b)
  | int (k : IntKind) (n : Int) : VR w R h μ (.int k n) (.int k n)
  | str (bs : ByteArray) : VR w R h μ (.str bs.data.toList) (.string bs)
  | nilP : VR w R h μ .nilP (.pointer none)
  | nilS : VR w R h μ .nilS (.slice none 0 0)
  | nilM : VR w R h μ .nilM (.map none)
  | nilF : VR w R h μ .nilF .nilFunc
  | nilI : VR w R h μ .nilI .nilIface
  | ag (cs : List CV) (vs : Array Value) (hl : vs.size = cs.length) (h1 : ∀ (j : Nat) (v : Value), vs[j]? = some v → v.oneCell' = true)
      (hv : ∀ (j : Nat) (c : CV) (v : Value), cs[j]? = some c → vs[j]? = some v → VR w R h μ c v) : VR w R h μ (.ag cs) (.agg vs)
  | tu (cs : List CV) (vs : Array Value) (hl : vs.size = cs.length)
      (hv : ∀ (j : Nat) (c : CV) (v : Value), cs[j]? = some c → vs[j]? = some v → VR w R h μ c v) : VR w R h μ (.tu cs) (.tuple vs)
  | ptr (b off sz : Nat) (cs : List CV) (m : M) (hb : h.f b = .cells sz cs) (hm : μ b = some m) :
      VR w R h μ (.ptr b off sz) (.pointer (some ⟨m.r, m.s + off, none⟩))
  | ptrGone (b off sz : Nat) (a : Addr) (hg : Gone h b sz) : VR w R h μ (.ptr b off sz) (.pointer (some a))
  | rptr (cs : List CV) (off blk o : Nat) (vals : Nat → Value) (hc : ∀ j, j < cs.length → Cell w R h μ blk (o + j) (vals j))
      (hv : ∀ (j : Nat) (c : CV), cs[j]? = some c → VR w R h μ c (vals j)) : VR w R h μ (.rptr cs off) (.pointer (some ⟨blk, o + off, none⟩))
  | sl (z b off len cap sz cap' : Nat) (cs : List CV) (m : M) (hb : h.f b = .cells sz cs) (hm : μ b = some m) (hl : len ≤ cap) (ho : off + cap * z ≤ sz)
      (hc : (off + cap * z < sz ∧ cap' = cap) ∨ (off + cap * z = sz ∧ cap ≤ cap' ∧ m.s + off + cap' * z ≤ m.T)) :
      VR w R h μ (.sl z b off len cap sz) (.slice (some ⟨m.r, m.s + off, none⟩) len cap')
  | slGone (z b off len cap sz cap' : Nat) (a : Addr) (hl : len ≤ cap) (hc : cap ≤ cap') (hg : Gone h b sz) : VR w R h μ (.sl z b off len cap sz) (.slice (some a) len cap')
  | rsl (z : Nat) (es : List (List CV)) (blk off cap : Nat) (vals : Nat → Nat → Value) (hl : es.length ≤ cap) (hz : ∀ e, e ∈ es → e.length = z)
      (hc : ∀ i j, i < es.length → j < z → Cell w R h μ blk (off + (i * z + j)) (vals i j))
      (hv : ∀ (i : Nat) (e : List CV), es[i]? = some e → ∀ (j : Nat) (c : CV), e[j]? = some c → VR w R h μ c (vals i j)) :
      VR w R h μ (.rsl z es) (.slice (some ⟨blk, off, none⟩) es.length cap)
  | rsl0 (z : Nat) (a : Addr) (cap : Nat) : VR w R h μ (.rsl z []) (.slice (some a) 0 cap)
  | fn (f : FuncId) (first captured : List CV) (fs cs : Array Value) (hf : fs.size = first.length) (hc : cs.size = captured.length)
      (h1 : ∀ (j : Nat) (c : CV) (v : Value), first[j]? = some c → fs[j]? = some v → VR w R h μ c v) (h2 : ∀ (j : Nat) (c : CV) (v : Value), captured[j]? = some c → cs[j]? = some v → VR w R h μ c v) :
      VR w R h μ (.fn f first captured) (.func (.func f) fs cs)
  | mp (b : Nat) (m : M) (hb : kindC (h.f b) = 1) (hm : μ b = some m) : VR w R h μ (.mp b) (.map (some m.r))
  | it (b : Nat) (m : M) (hb : kindC (h.f b) = 2) (hm : μ b = some m) : VR w R h μ (.it b) (.pointer (some ⟨m.r, 0, none⟩))
  | ifc (t : TypeId) (c : CV) (v : Value) (hv : VR w R h μ c v) : VR w R h μ (.ifc t c) (.iface t v)
  | bad (v : Value) : VR w R h μ .bad v

structure Ext0 (w : World) (h : Hp) (μ : Mu) (w' : World) (h' : Hp) (μ' : Mu) : Prop where
  os : w'.os = w.os
  tape : w'.tape = w.tape
  output : w'.output = w.output
  size : w.heap.size ≤ w'.heap.size
  keep : ∀ k, k < w.heap.size → ¬ Own h μ k → w'.heap[k]? = w.heap[k]?
  own : ∀ k, Own h' μ' k → Own h μ k ∨ w.heap.size ≤ k
  cells : ∀ b sz cs m, h.f b = .cells sz cs → μ b = some m → (∃ cs', h'.f b = .cells sz cs' ∧ μ' b = some m) ∨ Gone h' b sz
  gone : ∀ b sz, Gone h b sz → Gone h' b sz
  objs : ∀ b k m, kindC (h.f b) = k + 1 → μ b = some m → kindC (h'.f b) = k + 1 ∧ μ' b = some m
  n : h.n ≤ h'.n

structure Ext (w : World) (h : Hp) (μ : Mu) (w' : World) (h' : Hp) (μ' : Mu) : Prop extends Ext0 w h μ w' h' μ' where
  unm : ∀ b, b < h.n → μ b = none → μ' b = none

theorem Ext0.refl (w : World) (h : Hp) (μ : Mu) : Ext0 w h μ w h μ :=
  ⟨rfl, rfl, rfl, Nat.le_refl _, fun _ _ _ => rfl, fun _ h => .inl h, fun b sz cs m h1 h2 => .inl ⟨cs, h1, h2⟩, fun _ _ h => h, fun _ _ _ h1 h2 => ⟨h1, h2⟩, Nat.le_refl _⟩

theorem Ext.refl (w : World) (h : Hp) (μ : Mu) : Ext w h μ w h μ := ⟨.refl w h μ, fun _ _ h => h⟩

theorem Ext0.trans {w w1 w2 : World} {h h1 h2 : Hp} {μ μ1 μ2 : Mu} (a : Ext0 w h μ w1 h1 μ1) (b : Ext0 w1 h1 μ1 w2 h2 μ2) : Ext0 w h μ w2 h2 μ2 := by
  refine ⟨b.os.trans a.os, b.tape.trans a.tape, b.output.trans a.output, Nat.le_trans a.size b.size, ?_, ?_, ?_, fun _ _ hg => b.gone _ _ (a.gone _ _ hg), ?_, Nat.le_trans a.n b.n⟩
  · intro k hk hn
    rw [b.keep k (Nat.lt_of_lt_of_le hk a.size) (fun ho => (a.own k ho).elim hn (by omega)), a.keep k hk hn]
  · intro k hk
    rcases b.own k hk with h | h
    · exact a.own k h
    · exact .inr (Nat.le_trans a.size h)
  · intro blk sz cs m hb hm
    rcases a.cells blk sz cs m hb hm with ⟨cs', h3, h4⟩ | h3
    · exact b.cells blk sz cs' m h3 h4
    · exact .inr (b.gone _ _ h3)
  · intro blk k m hb hm
    obtain ⟨h3, h4⟩ := a.objs blk k m hb hm
    exact b.objs blk k m h3 h4

theorem Ext.trans {w w1 w2 : World} {h h1 h2 : Hp} {μ μ1 μ2 : Mu} (a : Ext w h μ w1 h1 μ1) (b : Ext w1 h1 μ1 w2 h2 μ2) : Ext w h μ w2 h2 μ2 :=
  ⟨a.toExt0.trans b.toExt0, fun blk hb hm => b.unm blk (Nat.lt_of_lt_of_le hb a.n) (a.unm blk hb hm)⟩

theorem Cell.ext {w w' : World} {h h' : Hp} {μ μ' : Mu} {R : Nat → Prop} {b o : Nat} {v : Value} (e : Ext0 w h μ w' h' μ') (c : Cell w R h μ b o v) : Cell w' R h' μ' b o v := by
  have hb : b < w.heap.size := World.block_lt_of_cell? _ _ c.here
  refine ⟨?_, c.one, c.ro, fun ho => ?_⟩
  · rw [World.cell?_of_block (w := w) (a := ⟨b, o, none⟩) (e.keep b hb c.free)]; exact c.here
  · rcases e.own b ho with h1 | h1
    · exact c.free h1
    · omega

theorem VR.ext0 {w w' : World} {h h' : Hp} {μ μ' : Mu} {R : Nat → Prop} {c : CV} {v : Value} (e : Ext0 w h μ w' h' μ') (hv : VR w R h μ c v) : VR w' R h' μ' c v := by
  induction hv with
  | bool b => exact .bool b
  | int k n => exact .int k n
  | str bs => exact .str bs
  | nilP => exact .nilP
  | nilS => exact .nilS
  | nilM => exact .nilM
  | nilF => exact .nilF
  | nilI => exact .nilI
  | ag cs vs hl h1 hv ih => exact .ag cs vs hl h1 ih
  | tu cs vs hl hv ih => exact .tu cs vs hl ih
  | ptr b off sz cs m hb hm =>
    rcases e.cells b sz cs m hb hm with ⟨cs', h1, h2⟩ | h1
    · exact .ptr b off sz cs' m h1 h2
    · exact .ptrGone b off sz _ h1
  | ptrGone b off sz a hg => exact .ptrGone b off sz a (e.gone _ _ hg)
  | rptr cs off blk o vals hc hv ih => exact .rptr cs off blk o vals (fun j hj => (hc j hj).ext e) ih
  | sl z b off len cap sz cap' cs m hb hm hl ho hc =>
    rcases e.cells b sz cs m hb hm with ⟨cs', h1, h2⟩ | h1
    · exact .sl z b off len cap sz cap' cs' m h1 h2 hl ho hc
    · exact .slGone z b off len cap sz cap' _ hl (by omega) h1
  | slGone z b off len cap sz cap' a hl hc hg => exact .slGone z b off len cap sz cap' a hl hc (e.gone _ _ hg)
  | rsl z es blk off cap vals hl hz hc hv ih => exact .rsl z es blk off cap vals hl hz (fun i j hi hj => (hc i j hi hj).ext e) ih
  | rsl0 z a cap => exact .rsl0 z a cap
  | fn f first captured fs cs hf hc h1 h2 ih1 ih2 => exact .fn f first captured fs cs hf hc ih1 ih2
  | mp b m hb hm =>
    obtain ⟨h1, h2⟩ := e.objs b 0 m hb hm
    exact .mp b m h1 h2
  | it b m hb hm =>
    obtain ⟨h1, h2⟩ := e.objs b 1 m hb hm
    exact .it b m h1 h2
  | ifc t c v hv ih => exact .ifc t c v ih
  | bad v => exact .bad v

theorem VR.ext {w w' : World} {h h' : Hp} {μ μ' : Mu} {R : Nat → Prop} {c : CV} {v : Value} (e : Ext w h μ w' h' μ') (hv : VR w R h μ c v) : VR w' R h' μ' c v := hv.ext0 e.toExt0

/-- What a block of the machine's is in the world. -/
def BlkOk (w : World) (R : Nat → Prop) (h : Hp) (μ : Mu) (m : M) : CB → Prop
  | .cells sz cs => cs.length = sz ∧ m.s + sz ≤ m.T ∧ ∃ arr e fz, w.heap[m.r]? = some (.cells arr e fz) ∧ arr.size = m.T ∧ (fz = (0, 0) ∨ m.T ≤ fz.1) ∧
      ∀ (j : Nat) (c : CV), cs[j]? = some c → ∃ v : Value, arr[m.s + j]? = some v ∧ v.oneCell' = true ∧ VR w R h μ c v
  | .map es ck => ∃ es', w.heap[m.r]? = some (.map es' ck) ∧ es'.size = es.length ∧
      ∀ (j : Nat) (k v : CV) (b : Nat), es[j]? = some (k, v, b) → ∃ x : MapEntry, es'[j]? = some x ∧ VR w R h μ k x.key ∧ VR w R h μ v x.val ∧ x.born = b
  | .iter s pos => ∃ bs : ByteArray, bs.data.toList = s ∧ w.heap[m.r]? = some (.stringIter bs pos)
  | _ => True

theorem BlkOk.ext {w w' : World} {h h' : Hp} {μ μ' : Mu} {R : Nat → Prop} {m : M} (e : Ext0 w h μ w' h' μ') (hw : w'.heap[m.r]? = w.heap[m.r]?) :
    ∀ {c : CB}, BlkOk w R h μ m c → BlkOk w' R h' μ' m c
  | .cells sz cs, ⟨h1, h2, arr, t, fz, h3, h4, h5, h6⟩ => ⟨h1, h2, arr, t, fz, hw.trans h3, h4, h5, fun j c hj => let ⟨v, a, b, d⟩ := h6 j c hj; ⟨v, a, b, d.ext0 e⟩⟩
  | .map es ck, ⟨es', h1, h2, h3⟩ => ⟨es', hw.trans h1, h2, fun j k v b hj => let ⟨x, a, b1, d, f⟩ := h3 j k v b hj; ⟨x, a, b1.ext0 e, d.ext0 e, f⟩⟩
  | .iter s pos, ⟨bs, h1, h2⟩ => ⟨bs, h1, hw.trans h2⟩
  | .none, _ => trivial
  | .dead, _ => trivial

structure Rel (R : Nat → Prop) (B : Nat) (w : World) (h : Hp) (μ : Mu) : Prop where
  blk : ∀ b m, μ b = some m → BlkOk w R h μ m (h.f b)
  inj : ∀ b b' m m', live (h.f b) = true → live (h.f b') = true → μ b = some m → μ b' = some m' → m.r = m'.r → b = b'
  base : ∀ b m, live (h.f b) = true → μ b = some m → B ≤ m.r
  fresh : ∀ b, h.n ≤ b → h.f b = .none
  up : ∀ k, B ≤ k → R k
  size : B ≤ w.heap.size
  mu : ∀ b, h.n ≤ b → μ b = none

theorem Rel.bn {R : Nat → Prop} {B : Nat} {w : World} {h : Hp} {μ : Mu} (rel : Rel R B w h μ) {b : Nat} {m : M} (hm : μ b = some m) : b < h.n := by
  rcases Nat.lt_or_ge b h.n with h1 | h1
  · exact h1
  · rw [rel.mu b h1] at hm; cases hm

theorem Rel.lt {R : Nat → Prop} {B : Nat} {w : World} {h : Hp} {μ : Mu} (rel : Rel R B w h μ) {b : Nat} {m : M} (hl : live (h.f b) = true) (hm : μ b = some m) : m.r < w.heap.size := by
  have hb := rel.blk b m hm
  cases hc : h.f b with
  | none => rw [hc] at hl; cases hl
  | dead => rw [hc] at hl; cases hl
  | cells sz cs =>
    rw [hc] at hb
    obtain ⟨_, _, arr, t, fz, h3, _⟩ := hb
    rcases Nat.lt_or_ge m.r w.heap.size with h | h
    · exact h
    · rw [Array.getElem?_eq_none h] at h3; cases h3
  | map es ck =>
    rw [hc] at hb
    obtain ⟨es', h3, _⟩ := hb
    rcases Nat.lt_or_ge m.r w.heap.size with h | h
    · exact h
    · rw [Array.getElem?_eq_none h] at h3; cases h3
  | iter s pos =>
    rw [hc] at hb
    obtain ⟨bs, _, h3⟩ := hb
    rcases Nat.lt_or_ge m.r w.heap.size with h | h
    · exact h
    · rw [Array.getElem?_eq_none h] at h3; cases h3

/-- One block is turned (or made), one may be struck; all others are as they were. -/
theorem Rel.upd {R : Nat → Prop} {B : Nat} {w w' : World} {h h' : Hp} {μ μ' : Mu} (rel : Rel R B w h μ) (e : Ext0 w h μ w' h' μ') (b0 : Nat)
    (hother : ∀ b, b ≠ b0 → live (h'.f b) = true → h'.f b = h.f b ∧ μ' b = μ b ∧ ∀ m, μ b = some m → w'.heap[m.r]? = w.heap[m.r]?)
    (hb0 : ∀ m, μ' b0 = some m → BlkOk w' R h' μ' m (h'.f b0))
    (hinj : ∀ b m m', b ≠ b0 → live (h'.f b) = true → live (h'.f b0) = true → μ b = some m → μ' b0 = some m' → m.r ≠ m'.r)
    (hbase : ∀ m, live (h'.f b0) = true → μ' b0 = some m → B ≤ m.r)
    (hfresh : ∀ b, h'.n ≤ b → h'.f b = .none) (hmu : ∀ b, h'.n ≤ b → μ' b = none) : Rel R B w' h' μ' := by
  refine ⟨?_, ?_, ?_, hfresh, rel.up, Nat.le_trans rel.size e.size, hmu⟩
  · intro b m hm
    by_cases hb : b = b0
    · subst hb; exact hb0 m hm
    · cases hl : live (h'.f b) with
      | false => cases hc : h'.f b <;> first | trivial | (rw [hc] at hl; cases hl)
      | true =>
        obtain ⟨h1, h2, h3⟩ := hother b hb hl
        rw [h2] at hm
        rw [h1]
        exact (rel.blk b m hm).ext e (h3 m hm)
  · intro b b' m m' hl hl' hm hm' hr
    by_cases hb : b = b0 <;> by_cases hb' : b' = b0
    · rw [hb, hb']
    · subst hb
      obtain ⟨h1, h2, h3⟩ := hother b' hb' hl'
      rw [h2] at hm'
      exact absurd hr.symm (hinj b' m' m hb' hl' hl hm' hm)
    · subst hb'
      obtain ⟨h1, h2, h3⟩ := hother b hb hl
      rw [h2] at hm
      exact absurd hr (hinj b m m' hb hl hl' hm hm')
    · obtain ⟨h1, h2, _⟩ := hother b hb hl
      obtain ⟨h3, h4, _⟩ := hother b' hb' hl'
      rw [h1] at hl; rw [h2] at hm; rw [h3] at hl'; rw [h4] at hm'
      exact rel.inj b b' m m' hl hl' hm hm' hr
  · intro b m hl hm
    by_cases hb : b = b0
    · subst hb; exact hbase m hl hm
    · obtain ⟨h1, h2, _⟩ := hother b hb hl
      rw [h1] at hl; rw [h2] at hm
      exact rel.base b m hl hm

/-- A new block. -/
theorem Rel.push {R : Nat → Prop} {B : Nat} {w w' : World} {h : Hp} {μ : Mu} (rel : Rel R B w h μ) (cs : List CV) (arr : Array Value) (t : TypeId)
    (hos : w'.os = w.os) (htape : w'.tape = w.tape) (hout : w'.output = w.output) (hheap : w'.heap = w.heap.push (.cells arr t (0, 0)))
    (hsz : cs.length ≤ arr.size) (hv : ∀ (j : Nat) (c : CV), cs[j]? = some c → ∃ v : Value, arr[j]? = some v ∧ v.oneCell' = true ∧ VR w R h μ c v) :
    Ext w h μ w' (h.push (.cells cs.length cs)) (fupd μ h.n (some ⟨w.heap.size, 0, arr.size⟩)) ∧
    Rel R B w' (h.push (.cells cs.length cs)) (fupd μ h.n (some ⟨w.heap.size, 0, arr.size⟩)) := by
  have hn : h.f h.n = .none := rel.fresh _ (Nat.le_refl _)
  have e : Ext w h μ w' (h.push (.cells cs.length cs)) (fupd μ h.n (some ⟨w.heap.size, 0, arr.size⟩)) := by
    refine ⟨⟨hos, htape, hout, by simp [hheap], ?_, ?_, ?_, ?_, ?_, ?_⟩, ?_⟩
    · intro k hk _
      rw [hheap, Array.getElem?_push, if_neg (by omega)]
    · rintro k ⟨b, m, hl, hm, rfl⟩
      by_cases hb : b = h.n
      · subst hb; simp at hm; subst hm; exact .inr (Nat.le_refl _)
      · rw [fupd_ne _ _ _ _ hb] at hm
        simp only [push_f, push_n, fupd_ne _ _ _ _ hb] at hl
        exact .inl ⟨b, m, hl, hm, rfl⟩
    · intro b sz cs' m hb hm
      have : b ≠ h.n := fun hh => by rw [hh, hn] at hb; cases hb
      exact .inl ⟨cs', by simp only [push_f, push_n, fupd_ne _ _ _ _ this]; exact hb, by rw [fupd_ne _ _ _ _ this]; exact hm⟩
    · rintro b sz (hb | ⟨n, cs', hb, hlt⟩)
      · have : b ≠ h.n := fun hh => by rw [hh, hn] at hb; cases hb
        exact .inl (by simp only [push_f, push_n, fupd_ne _ _ _ _ this]; exact hb)
      · have : b ≠ h.n := fun hh => by rw [hh, hn] at hb; cases hb
        exact .inr ⟨n, cs', by simp only [push_f, push_n, fupd_ne _ _ _ _ this]; exact hb, hlt⟩
    · intro b k m hb hm
      have : b ≠ h.n := fun hh => by rw [hh, hn] at hb; cases hb
      exact ⟨by simp only [push_f, push_n, fupd_ne _ _ _ _ this]; exact hb, by rw [fupd_ne _ _ _ _ this]; exact hm⟩
    · simp [push_f, push_n]
    · intro b hb hm
      rw [fupd_ne _ _ _ _ (by omega)]; exact hm
  refine ⟨e, rel.upd e.toExt0 h.n ?_ ?_ ?_ ?_ ?_ ?_⟩
  · intro b hb hl
    simp only [push_f, push_n, fupd_ne _ _ _ _ hb] at hl ⊢
    exact ⟨trivial, trivial, fun m hm => by rw [hheap, Array.getElem?_push, if_neg (by have := rel.lt hl hm; omega)]⟩
  · intro m hm
    simp at hm; subst hm
    simp only [push_f, push_n, fupd_same]
    refine ⟨rfl, by simpa using hsz, arr, t, (0, 0), by simp [hheap], rfl, .inl rfl, fun j c hj => ?_⟩
    obtain ⟨v, h1, h2, h3⟩ := hv j c hj
    exact ⟨v, by simpa using h1, h2, h3.ext e⟩
  · intro b m m' hb hl _ hm hm'
    simp only [push_f, push_n, fupd_ne _ _ _ _ hb] at hl
    simp at hm'; subst hm'
    have := rel.lt hl hm
    simp only [ne_eq]; omega
  · intro m _ hm
    simp at hm; subst hm
    exact rel.size
  · intro b hb
    simp only [push_f, push_n] at hb ⊢
    rw [fupd_ne _ _ _ _ (by omega)]
    exact rel.fresh b (by omega)
  · intro b hb
    simp only [push_f, push_n] at hb
    rw [fupd_ne _ _ _ _ (by omega)]
    exact rel.mu b (by omega)

/-- A block is written in place; it may grow. -/
theorem Rel.write {R : Nat → Prop} {B : Nat} {w w' : World} {h : Hp} {μ : Mu} (rel : Rel R B w h μ) {b sz sz' : Nat} {cs cs' : List CV} {m : M} {arr arr' : Array Value} {t : TypeId} {fz : Nat × Nat}
    (hb : h.f b = .cells sz cs) (hm : μ b = some m) (hr : w.heap[m.r]? = some (.cells arr t fz)) (hT : arr.size = m.T) (hfz : fz = (0, 0) ∨ m.T ≤ fz.1)
    (hos : w'.os = w.os) (htape : w'.tape = w.tape) (hout : w'.output = w.output) (hws : w'.heap.size = w.heap.size)
    (hwr : w'.heap[m.r]? = some (.cells arr' t fz)) (hwo : ∀ k, k ≠ m.r → w'.heap[k]? = w.heap[k]?) (ha : arr'.size = arr.size)
    (hl : cs'.length = sz') (hgrow : sz ≤ sz') (hfit : m.s + sz' ≤ m.T)
    (hv : ∀ (j : Nat) (c : CV), cs'[j]? = some c → ∃ v : Value, arr'[m.s + j]? = some v ∧ v.oneCell' = true ∧ VR w R h μ c v) :
    Ext w h μ w' (h.set b (.cells sz' cs')) μ ∧ Rel R B w' (h.set b (.cells sz' cs')) μ := by
  have hlive : live (h.f b) = true := by rw [hb]; rfl
  have e : Ext w h μ w' (h.set b (.cells sz' cs')) μ := by
    refine ⟨⟨hos, htape, hout, Nat.le_of_eq hws.symm, ?_, ?_, ?_, ?_, ?_, Nat.le_refl _⟩, fun _ _ hm => hm⟩
    · intro k hk hn
      exact hwo k (fun hh => hn ⟨b, m, hlive, hm, hh.symm⟩)
    · rintro k ⟨b', m', hl', hm', rfl⟩
      by_cases hbb : b' = b
      · subst hbb; exact .inl ⟨b', m', hlive, hm', rfl⟩
      · simp only [set_f, set_n, fupd_ne _ _ _ _ hbb] at hl'
        exact .inl ⟨b', m', hl', hm', rfl⟩
    · intro b' sz0 cs0 m' hb' hm'
      by_cases hbb : b' = b
      · subst hbb
        rw [hb] at hb'; cases hb'
        by_cases hs : sz' = sz
        · exact .inl ⟨cs', by simp [set_f, set_n, hs], hm'⟩
        · exact .inr (.inr ⟨sz', cs', by simp [set_f, set_n], by omega⟩)
      · exact .inl ⟨cs0, by simp only [set_f, set_n, fupd_ne _ _ _ _ hbb]; exact hb', hm'⟩
    · rintro b' s0 (hb' | ⟨n, cs0, hb', hlt⟩)
      · have hbb : b' ≠ b := fun hh => by rw [hh, hb] at hb'; cases hb'
        exact .inl (by simp only [set_f, set_n, fupd_ne _ _ _ _ hbb]; exact hb')
      · by_cases hbb : b' = b
        · subst hbb
          rw [hb] at hb'; cases hb'
          exact .inr ⟨sz', cs', by simp [set_f, set_n], by omega⟩
        · exact .inr ⟨n, cs0, by simp only [set_f, set_n, fupd_ne _ _ _ _ hbb]; exact hb', hlt⟩
    · intro b' k m' hb' hm'
      have hbb : b' ≠ b := fun hh => by rw [hh, hb] at hb'; cases hb'
      exact ⟨by simp only [set_f, set_n, fupd_ne _ _ _ _ hbb]; exact hb', hm'⟩
  refine ⟨e, rel.upd e.toExt0 b ?_ ?_ ?_ ?_ ?_ ?_⟩
  · intro b' hbb hl'
    simp only [set_f, set_n, fupd_ne _ _ _ _ hbb] at hl' ⊢
    exact ⟨trivial, trivial, fun m' hm' => hwo _ (fun hh => hbb (rel.inj b' b m' m hl' hlive hm' hm hh))⟩
  · intro m' hm'
    rw [hm] at hm'; cases hm'
    simp only [set_f, set_n, fupd_same]
    refine ⟨hl, hfit, arr', t, fz, hwr, ha.trans hT, hfz, fun j c hj => ?_⟩
    obtain ⟨v, h1, h2, h3⟩ := hv j c hj
    exact ⟨v, h1, h2, h3.ext e⟩
  · intro b' m' m'' hbb hl' _ hm' hm'' hh
    rw [hm] at hm''; cases hm''
    simp only [set_f, set_n, fupd_ne _ _ _ _ hbb] at hl'
    exact hbb (rel.inj b' b m' m hl' hlive hm' hm hh)
  · intro m' _ hm'
    exact rel.base b m' hlive hm'
  · intro b' hb'
    simp only [set_f, set_n] at hb' ⊢
    have hbb : b' ≠ b := fun hh => by
      have := rel.fresh b' hb'
      rw [hh, hb] at this; cases this
    rw [fupd_ne _ _ _ _ hbb]
    exact rel.fresh b' hb'
  · intro b' hb'
    exact rel.mu b' hb'

/-- A block moves to a new row, and grows. -/
theorem Rel.move {R : Nat → Prop} {B : Nat} {w w' : World} {h : Hp} {μ : Mu} (rel : Rel R B w h μ) {b sz sz' : Nat} {cs cs' : List CV} {m : M} {arr : Array Value} {t : TypeId}
    (hb : h.f b = .cells sz cs) (hm : μ b = some m)
    (hos : w'.os = w.os) (htape : w'.tape = w.tape) (hout : w'.output = w.output) (hheap : w'.heap = w.heap.push (.cells arr t (0, 0)))
    (hl : cs'.length = sz') (hgrow : sz < sz') (hfit : sz' ≤ arr.size)
    (hv : ∀ (j : Nat) (c : CV), cs'[j]? = some c → ∃ v : Value, arr[j]? = some v ∧ v.oneCell' = true ∧ VR w R h μ c v) :
    Ext w h μ w' (h.set b (.cells sz' cs')) (fupd μ b (some ⟨w.heap.size, 0, arr.size⟩)) ∧ Rel R B w' (h.set b (.cells sz' cs')) (fupd μ b (some ⟨w.heap.size, 0, arr.size⟩)) := by
  have hlive : live (h.f b) = true := by rw [hb]; rfl
  have e : Ext w h μ w' (h.set b (.cells sz' cs')) (fupd μ b (some ⟨w.heap.size, 0, arr.size⟩)) := by
    refine ⟨⟨hos, htape, hout, by simp [hheap], ?_, ?_, ?_, ?_, ?_, Nat.le_refl _⟩, ?_⟩
    · intro k hk hn
      rw [hheap, Array.getElem?_push, if_neg (by omega)]
    · rintro k ⟨b', m', hl', hm', rfl⟩
      by_cases hbb : b' = b
      · subst hbb; simp at hm'; subst hm'; exact .inr (Nat.le_refl _)
      · rw [fupd_ne _ _ _ _ hbb] at hm'
        simp only [set_f, set_n, fupd_ne _ _ _ _ hbb] at hl'
        exact .inl ⟨b', m', hl', hm', rfl⟩
    · intro b' sz0 cs0 m' hb' hm'
      by_cases hbb : b' = b
      · subst hbb
        rw [hb] at hb'; cases hb'
        exact .inr (.inr ⟨sz', cs', by simp [set_f, set_n], by omega⟩)
      · exact .inl ⟨cs0, by simp only [set_f, set_n, fupd_ne _ _ _ _ hbb]; exact hb', by rw [fupd_ne _ _ _ _ hbb]; exact hm'⟩
    · rintro b' s0 (hb' | ⟨n, cs0, hb', hlt⟩)
      · have hbb : b' ≠ b := fun hh => by rw [hh, hb] at hb'; cases hb'
        exact .inl (by simp only [set_f, set_n, fupd_ne _ _ _ _ hbb]; exact hb')
      · by_cases hbb : b' = b
        · subst hbb
          rw [hb] at hb'; cases hb'
          exact .inr ⟨sz', cs', by simp [set_f, set_n], by omega⟩
        · exact .inr ⟨n, cs0, by simp only [set_f, set_n, fupd_ne _ _ _ _ hbb]; exact hb', hlt⟩
    · intro b' k m' hb' hm'
      have hbb : b' ≠ b := fun hh => by rw [hh, hb] at hb'; cases hb'
      exact ⟨by simp only [set_f, set_n, fupd_ne _ _ _ _ hbb]; exact hb', by rw [fupd_ne _ _ _ _ hbb]; exact hm'⟩
    · intro b' _ hm'
      have hbb : b' ≠ b := fun hh => by rw [hh, hm] at hm'; cases hm'
      rw [fupd_ne _ _ _ _ hbb]; exact hm'
  refine ⟨e, rel.upd e.toExt0 b ?_ ?_ ?_ ?_ ?_ ?_⟩
  · intro b' hbb hl'
    simp only [set_f, set_n, fupd_ne _ _ _ _ hbb] at hl' ⊢
    exact ⟨trivial, trivial, fun m' hm' => by rw [hheap, Array.getElem?_push, if_neg (by have := rel.lt hl' hm'; omega)]⟩
  · intro m' hm'
    simp at hm'; subst hm'
    simp only [set_f, set_n, fupd_same]
    refine ⟨hl, by simpa using hfit, arr, t, (0, 0), by simp [hheap], rfl, .inl rfl, fun j c hj => ?_⟩
    obtain ⟨v, h1, h2, h3⟩ := hv j c hj
    exact ⟨v, by simpa using h1, h2, h3.ext e⟩
  · intro b' m' m'' hbb hl' _ hm' hm''
    simp only [set_f, set_n, fupd_ne _ _ _ _ hbb] at hl'
    simp at hm''; subst hm''
    have := rel.lt hl' hm'
    simp only [ne_eq]; omega
  · intro m' _ hm'
    simp at hm'; subst hm'
    exact rel.size
  · intro b' hb'
    simp only [set_f, set_n] at hb' ⊢
    have hbb : b' ≠ b := fun hh => by
      have := rel.fresh b' hb'
      rw [hh, hb] at this; cases this
    rw [fupd_ne _ _ _ _ hbb]
    exact rel.fresh b' hb'
  · intro b' hb'
    simp only [set_f, set_n] at hb'
    have hbb : b' ≠ b := fun hh => by
      have := rel.bn hm
      omega
    rw [fupd_ne _ _ _ _ hbb]
    exact rel.mu b' hb'

end Go.CM
