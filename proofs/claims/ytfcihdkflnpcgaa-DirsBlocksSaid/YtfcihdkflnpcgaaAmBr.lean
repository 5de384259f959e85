/- The bridge: a function's contract of the abstract machine gives the statement's form. Arguments are opened by their types. No program is named. -/
import Derived.Test.YtfcihdkflnpcgaaAmL
import Derived.Deep.Slices
import Derived.Deep.Fields
import Derived.ChangeArms
import Derived.ChangeSame
import Derived.ChangeSlices
import Derived.ChangeOld
import Derived.OpenShut
import Derived.Carry
import Derived.ProofKit
namespace Go.Proofs.Ytfcihdkflnpcgaa.Am
open Go.RowKit Lw Go.ChangeShapes Go.WideShapes Go.Deep

/-- Cells that read as data of type t are a row of some x. -/
structure DOpen {α : Type} (P : Program) (t : TypeId) (sz : Nat) (row : α → Nat → DC) (good : α → Prop) : Prop where
  cells : P.cellsOf t = sz
  pos : 0 < sz
  get : ∀ {H : Type} {enc : TypeId × Value → H} {w : World} {base : Nat} {spare : Nat → Bool} {held : Bool} {n : Nat} {cs : List Value} {y : DataW H × List MemPlace}, DataW.trod enc P w base spare held n t cs = some y →
    cs.length = sz ∧ ∃ x : α, good x ∧ ∀ j u, cs[j]? = some u → (row x j).rel w (· < w.heap.size) u

section
variable {P : Program} {t e : TypeId}
def strR (s : ByteArray) (_ : Nat) : DC := .c (.string s)
def boolR (b : Bool) (_ : Nat) : DC := .c (.bool b)
def intR (z : Int) (_ : Nat) : DC := .c (.int .i64 z)
def u64R (b : UInt64) (_ : Nat) : DC := .c (.int .u64 b.toNat)
def u16R (b : UInt16) (_ : Nat) : DC := .c (.int .u16 b.toNat)
def u32R' (b : UInt32) (_ : Nat) : DC := .c (.int .u32 b.toNat)
def Any {α : Type} (_ : α) : Prop := True
def strG (s : ByteArray) : Prop := s.size ≤ maxLen
def intG (z : Int) : Prop := -9223372036854775808 ≤ z ∧ z ≤ 9223372036854775807
def listG {α : Type} (g : α → Prop) (l : List α) : Prop := l.length ≤ maxLen ∧ ∀ x ∈ l, g x

theorem one_get {v u : Value} {j : Nat} (h : [v][j]? = some u) : j = 0 ∧ u = v := by
  cases j with
  | zero => exact ⟨rfl, by simpa using h.symm⟩
  | succ j => simp at h
theorem DOpen.str (hc : P.cellsOf t = 1) (ht : P.underlying t = some .string) : DOpen P t 1 strR strG := by
  refine ⟨hc, by decide, fun {H enc w base spare held n cs y} h => ?_⟩
  obtain ⟨s, rfl, _, hs⟩ := DataW.trod_string ht h
  exact ⟨rfl, s, hs, fun j u hu => by obtain ⟨_, rfl⟩ := one_get hu; exact ⟨rfl, rfl⟩⟩
theorem DOpen.bool (hc : P.cellsOf t = 1) (ht : P.underlying t = some .bool) : DOpen P t 1 boolR Any := by
  refine ⟨hc, by decide, fun {H enc w base spare held n cs y} h => ?_⟩
  obtain ⟨s, rfl, _⟩ := DataW.trod_bool ht h
  exact ⟨rfl, s, trivial, fun j u hu => by obtain ⟨_, rfl⟩ := one_get hu; exact ⟨rfl, rfl⟩⟩
theorem wf_bounds {k : IntKind} {z : Int} (h : (Lit.int k z).wf = true) : k.min ≤ z ∧ z ≤ k.max := by simpa [Lit.wf] using h
theorem DOpen.i64 (hc : P.cellsOf t = 1) (ht : P.underlying t = some (.int .i64)) : DOpen P t 1 intR intG := by
  refine ⟨hc, by decide, fun {H enc w base spare held n cs y} h => ?_⟩
  obtain ⟨z, rfl, _, hz⟩ := DataW.trod_int ht h
  refine ⟨rfl, z, ?_, fun j u hu => by obtain ⟨_, rfl⟩ := one_get hu; exact ⟨rfl, rfl⟩⟩
  have := wf_bounds hz
  rwa [show IntKind.i64.min = -9223372036854775808 by decide, show IntKind.i64.max = 9223372036854775807 by decide] at this
theorem DOpen.u8 (hc : P.cellsOf t = 1) (ht : P.underlying t = some (.int .u8)) : DOpen P t 1 byteR Any := by
  refine ⟨hc, by decide, fun {H enc w base spare held n cs y} h => ?_⟩
  obtain ⟨z, rfl, _, hz⟩ := DataW.trod_int ht h
  have := wf_bounds hz
  rw [show IntKind.u8.min = 0 by decide, show IntKind.u8.max = 255 by decide] at this
  refine ⟨rfl, UInt8.ofNat z.toNat, trivial, fun j u hu => ?_⟩
  obtain ⟨_, rfl⟩ := one_get hu
  refine ⟨?_, rfl⟩
  congr 1; simp; omega
theorem DOpen.u16 (hc : P.cellsOf t = 1) (ht : P.underlying t = some (.int .u16)) : DOpen P t 1 u16R Any := by
  refine ⟨hc, by decide, fun {H enc w base spare held n cs y} h => ?_⟩
  obtain ⟨z, rfl, _, hz⟩ := DataW.trod_int ht h
  have := wf_bounds hz
  rw [show IntKind.u16.min = 0 by decide, show IntKind.u16.max = 65535 by decide] at this
  refine ⟨rfl, UInt16.ofNat z.toNat, trivial, fun j u hu => ?_⟩
  obtain ⟨_, rfl⟩ := one_get hu
  refine ⟨?_, rfl⟩
  congr 1; simp; omega
theorem DOpen.u32 (hc : P.cellsOf t = 1) (ht : P.underlying t = some (.int .u32)) : DOpen P t 1 u32R' Any := by
  refine ⟨hc, by decide, fun {H enc w base spare held n cs y} h => ?_⟩
  obtain ⟨z, rfl, _, hz⟩ := DataW.trod_int ht h
  have := wf_bounds hz
  rw [show IntKind.u32.min = 0 by decide, show IntKind.u32.max = 4294967295 by decide] at this
  refine ⟨rfl, UInt32.ofNat z.toNat, trivial, fun j u hu => ?_⟩
  obtain ⟨_, rfl⟩ := one_get hu
  refine ⟨?_, rfl⟩
  congr 1; simp; omega
theorem DOpen.u64 (hc : P.cellsOf t = 1) (ht : P.underlying t = some (.int .u64)) : DOpen P t 1 u64R Any := by
  refine ⟨hc, by decide, fun {H enc w base spare held n cs y} h => ?_⟩
  obtain ⟨z, rfl, _, hz⟩ := DataW.trod_int ht h
  have := wf_bounds hz
  rw [show IntKind.u64.min = 0 by decide, show IntKind.u64.max = 18446744073709551615 by decide] at this
  refine ⟨rfl, UInt64.ofNat z.toNat, trivial, fun j u hu => ?_⟩
  obtain ⟨_, rfl⟩ := one_get hu
  refine ⟨?_, rfl⟩
  congr 1; simp; omega
def slR {α : Type} (sz : Nat) (row : α → Nat → DC) (d : α) (xs : List α) (_ : Nat) : DC := .sl sz xs.length (listC row d xs).cell
theorem spot_at {w : World} {a : Addr} {v : Value} (h : w.cell? a = some v) : ∃ b o, a = ⟨b, o, none⟩ ∧ b < w.heap.size := by
  obtain ⟨b, o, s⟩ := a
  unfold World.cell? at h
  split at h
  · rename_i c _ _ hg
    refine ⟨b, o, ?_, (Array.getElem?_eq_some_iff.1 hg).1⟩
    cases s with
    | none => rfl
    | some x => simp at h
  · cases h
theorem DOpen.slice {α : Type} {sz : Nat} {row : α → Nat → DC} {good : α → Prop} (h : DOpen P e sz row good) (d : α) (hc : P.cellsOf t = 1) (ht : P.underlying t = some (.slice e)) : DOpen P t 1 (slR sz row d) (listG good) := by
  refine ⟨hc, by decide, fun {H enc w base spare held n cs y} hh => ?_⟩
  rcases open_slice ht hh with ⟨rfl, _⟩ | ⟨a, len, cap, m, n, D, Pl, rfl, _, hl, hm, hmm, _, hi⟩
  · exact ⟨rfl, [], ⟨Nat.zero_le _, fun x hx => nomatch hx⟩, fun j u hu => by obtain ⟨_, rfl⟩ := one_get hu; exact ⟨none, 0, rfl, Nat.le_refl _, Nat.zero_le _, fun _ => rfl, fun h => absurd h (Nat.lt_irrefl 0)⟩⟩
  · have hlm : len ≤ m := by rw [hmm]; split <;> omega
    have hch : ∀ i : Fin len, ∃ x : α, good x ∧ ∃ cs' : List Value, cs'.length = sz ∧ (∀ j, j < sz → w.cell? ((a.add (i.1 * sz)).add j) = cs'[j]?) ∧ ∀ j u, cs'[j]? = some u → (row x j).rel w (· < w.heap.size) u := by
      intro i
      obtain ⟨cs', hcs, hx⟩ := hi i.1 (Nat.lt_of_lt_of_le i.2 hlm)
      rw [h.cells] at hcs
      obtain ⟨_, hcl, hat⟩ := World.cells?_some hcs
      obtain ⟨_, x, hg, hr⟩ := h.get hx
      exact ⟨x, hg, cs', hcl, hat, hr⟩
    obtain ⟨f, hf⟩ := Classical.axiomOfChoice hch
    refine ⟨rfl, List.ofFn f, ⟨by simp; omega, fun x hx => ?_⟩, fun j u hu => ?_⟩
    · obtain ⟨q, rfl⟩ := List.mem_ofFn.1 hx
      exact (hf q).1
    obtain ⟨_, rfl⟩ := one_get hu
    refine ⟨some a, cap, by simp, by simpa using hl, hm, (fun h => by cases h), fun h0 => ?_⟩
    have h0' : 0 < len := by simpa using h0
    obtain ⟨_, cs0, hcl0, hat0, _⟩ := hf ⟨0, h0'⟩
    have h00 := hat0 0 h.pos
    have hv : cs0[0]? = some (cs0[0]'(by have := h.pos; omega)) := List.getElem?_eq_getElem _
    rw [hv] at h00
    have e0 : (a.add (0 * sz)).add 0 = a := by simp [Addr.add]
    rw [show ((⟨0, h0'⟩ : Fin len).1) = 0 from rfl, e0] at h00
    obtain ⟨b, o, rfl, hb⟩ := spot_at h00
    refine ⟨b, o, rfl, hb, hb, fun i j hi' hj => ?_⟩
    have hil : i < len := by simpa using hi'
    obtain ⟨_, cs', hcl, hat, hr⟩ := hf ⟨i, hil⟩
    have hj' : cs'[j]? = some (cs'[j]'(by omega)) := List.getElem?_eq_getElem _
    refine ⟨cs'[j]'(by omega), ?_, ?_⟩
    · have := hat j hj
      rw [add_none', add_none'] at this
      rw [this, hj']
    · have := hr j _ hj'
      have hx : (List.ofFn f).getD i d = f ⟨i, hil⟩ := by
        rw [List.getD_eq_getElem?_getD, List.getElem?_eq_getElem (by simpa using hil)]
        simp
      show (row ((List.ofFn f).getD i d) j).rel w (· < w.heap.size) _
      rw [hx]; exact this

/-- Fields from a place on. -/
def DFields {α : Type} (P : Program) (fs : List Field) (off sz : Nat) (row : α → Nat → DC) (good : α → Prop) : Prop :=
  ∀ {H : Type} {enc : TypeId × Value → H} {w : World} {base : Nat} {spare : Nat → Bool} {held : Bool} {n : Nat} {cs : List Value}, (∀ f ∈ fs, ∃ y, DataW.trod enc P w base spare held n f.type ((cs.drop f.offset).take (P.cellsOf f.type)) = some y) →
    ∃ x : α, good x ∧ ∀ j u, j < sz → cs[off + j]? = some u → (row x j).rel w (· < w.heap.size) u
theorem DFields.nil {off : Nat} : DFields P [] off 0 (fun (_ : Unit) _ => .c undef) Any := by
  intro H enc w base spare held n cs h
  exact ⟨(), trivial, fun j u hj => absurd hj (Nat.not_lt_zero j)⟩
def pairR {α β : Type} (sz : Nat) (r1 : α → Nat → DC) (r2 : β → Nat → DC) (x : α × β) (j : Nat) : DC := if j < sz then r1 x.1 j else r2 x.2 (j - sz)
def pairG {α β : Type} (g1 : α → Prop) (g2 : β → Prop) (x : α × β) : Prop := g1 x.1 ∧ g2 x.2
theorem DFields.cons {α β : Type} {f : Field} {fs : List Field} {off s1 s2 : Nat} {r1 : α → Nat → DC} {r2 : β → Nat → DC} {g1 : α → Prop} {g2 : β → Prop} (ho : f.offset = off) (h1 : DOpen P f.type s1 r1 g1) (h2 : DFields P fs (off + s1) s2 r2 g2) : DFields P (f :: fs) off (s1 + s2) (pairR s1 r1 r2) (pairG g1 g2) := by
  intro H enc w base spare held n cs h
  obtain ⟨y, hy⟩ := h f (List.mem_cons_self ..)
  rw [h1.cells, ho] at hy
  obtain ⟨hl, x1, ga, hx1⟩ := h1.get hy
  obtain ⟨x2, gb, hx2⟩ := h2 (enc := enc) (w := w) (base := base) (spare := spare) (held := held) (n := n) (cs := cs) fun f' hf' => h f' (List.mem_cons_of_mem _ hf')
  refine ⟨(x1, x2), ⟨ga, gb⟩, fun j u hj hu => ?_⟩
  unfold pairR
  by_cases hlt : j < s1
  · rw [if_pos hlt]
    refine hx1 j u ?_
    rw [List.getElem?_take_of_lt hlt, List.getElem?_drop]; exact hu
  · rw [if_neg hlt]
    refine hx2 (j - s1) u (by omega) ?_
    rw [show off + s1 + (j - s1) = off + j by omega]; exact hu
theorem DOpen.struct {α : Type} {fs : List Field} {sz : Nat} {row : α → Nat → DC} {good : α → Prop} (hc : P.cellsOf t = sz) (hp : 0 < sz) (ht : P.underlying t = some (.struct fs.toArray)) (h : DFields P fs 0 sz row good) : DOpen P t sz row good := by
  refine ⟨hc, hp, fun {H enc w base spare held n cs y} hh => ?_⟩
  obtain ⟨xs, m, _, _, hl, hlen, hf⟩ := DataW.trod_struct ht hh
  rw [hc] at hl
  refine ⟨hl, ?_⟩
  obtain ⟨x, g, hx⟩ := h (enc := enc) (w := w) (base := base) (spare := spare) (held := held) (n := m) (cs := cs) (fun f hm => by
    obtain ⟨i, hi, e⟩ := List.getElem_of_mem hm
    have := hf i f (by simp [hi, e])
    have hi' : i < xs.length := by rw [hlen]; simpa using hi
    rw [List.getElem?_eq_getElem hi'] at this
    exact ⟨_, this⟩)
  refine ⟨x, g, fun j u hu => hx j u ?_ (by rw [Nat.zero_add]; exact hu)⟩
  have := (List.getElem?_eq_some_iff.1 hu).1; omega
theorem DOpen.map {α β : Type} {sz : Nat} {row : α → Nat → DC} {row' : β → Nat → DC} {good : α → Prop} {good' : β → Prop} (h : DOpen P t sz row good) (f : α → β) (hr : ∀ x j, j < sz → row x j = row' (f x) j) (hg : ∀ x, good x → good' (f x)) : DOpen P t sz row' good' := by
  refine ⟨h.cells, h.pos, fun {H enc w base spare held n cs y} hh => ?_⟩
  obtain ⟨hl, x, g, hx⟩ := h.get hh
  refine ⟨hl, f x, hg x g, fun j u hu => ?_⟩
  rw [← hr x j (by have := (List.getElem?_eq_some_iff.1 hu).1; omega)]
  exact hx j u hu

/-! ### Arguments -/
def rowA {α : Type} (row : α → Nat → DC) (x : α) : Nat → Nat → List A1
  | _, 0 => []
  | i, n + 1 => (row x i).toA :: rowA row x (i + 1) n
/-- An argument of type t is described by mk x, for some x. -/
def AOpen {α : Type} (P : Program) (t : TypeId) (mk : α → AV) (good : α → Prop) : Prop :=
  ∀ {H : Type} {enc : TypeId × Value → H} {w : World} {base : Nat} {v : Value} {d : DataW H} {p : List MemPlace}, Value.okWide P w .any base t v → DataW.Trod enc P w 0 (fun _ => true) true t v d p → ∃ x : α, good x ∧ ∀ ν, (mk x).rel w (· < w.heap.size) ν v
theorem okWide_one {w : World} {r : Reach} {base : Nat} {v : Value} (h : Value.okWide P w r base t v) (hs : ∀ fs, P.underlying t ≠ some (.struct fs)) (ha : ∀ n e, P.underlying t ≠ some (.array n e)) : v.cells.toList = [v] := by
  cases v with
  | agg cs =>
    exfalso
    unfold Value.okWide at h
    split at h
    · rename_i fs e; exact hs _ e
    · rename_i n e' e; exact ha _ _ e
    · unfold Cell.okWide at h
      split at h <;> simp_all [Cell.ok]
  | _ => rfl
theorem AOpen.one {α : Type} {row : α → Nat → DC} {good : α → Prop} (h : DOpen P t 1 row good) (hs : ∀ fs, P.underlying t ≠ some (.struct fs)) (ha : ∀ n e, P.underlying t ≠ some (.array n e)) : AOpen P t (fun x => .o (row x 0).toA) good := by
  intro H enc w base v d p hok ⟨m, hm⟩
  rw [okWide_one hok hs ha] at hm
  obtain ⟨_, x, g, hx⟩ := h.get hm
  exact ⟨x, g, fun ν => DC.toA_rel (hx 0 v rfl)⟩
theorem rowA_rel {α : Type} {row : α → Nat → DC} {x : α} {w : World} {S : Nat → Prop} {ν : Nat → Value} : ∀ {cs : List Value} {i : Nat}, (∀ j u, cs[j]? = some u → (row x (i + j)).rel w S u) → All2 (A1.rel w S ν) (rowA row x i cs.length) cs
  | [], _, _ => trivial
  | c :: cs, i, h => ⟨DC.toA_rel (h 0 c rfl), rowA_rel (cs := cs) (i := i + 1) fun j u hu => by rw [show i + 1 + j = i + (j + 1) by omega]; exact h (j + 1) u hu⟩
theorem AOpen.agg {α : Type} {sz : Nat} {row : α → Nat → DC} {good : α → Prop} (h : DOpen P t sz row good) (hs : (∃ fs, P.underlying t = some (.struct fs)) ∨ ∃ n e, P.underlying t = some (.array n e)) : AOpen P t (fun x => .g (rowA row x 0 sz)) good := by
  intro H enc w base v d p hok ⟨m, hm⟩
  have : ∃ cs, v = .agg cs := by
    unfold Value.okWide at hok
    rcases hs with ⟨fs, e⟩ | ⟨n, e', e⟩ <;> rw [e] at hok <;> exact ⟨_, hok.choose_spec.1⟩
  obtain ⟨cs, rfl⟩ := this
  obtain ⟨hl, x, g, hx⟩ := h.get hm
  refine ⟨x, g, fun ν => ⟨cs.toList, by simp, ?_⟩⟩
  have hl' : cs.toList.length = sz := hl
  rw [← hl']
  exact rowA_rel fun j u hu => by rw [Nat.zero_add]; exact hx j u hu

theorem After.below {ι : Type} {m : Nat} {pre : ι → Prop} {res : ι → AV} {gives : ι → List Chunk} {S S' : Nat → Prop} {ν ν' : Nat → Value} {w w' : World} {e : Ending} {x : ι} {u : Value} (h : After [] m pre res gives S ν w e w' x S' ν' u) : Below w.heap.size w w' :=
  ⟨h.fr.os, h.fr.tape, h.fr.output, h.fr.size, fun k hk => h.fr.block k hk fun hm => by simp [blks] at hm⟩
/-- A law holds of all arguments that a contract speaks of. -/
theorem law_calls {f : FuncId} {args : List AV} {w : World} {vs : List Value} (hcon : Con P f args [] 0 0 (fun _ : Unit => True) (fun _ => .o (.c (.bool true))) (fun _ => [])) (h : All2 (AV.rel w (· < w.heap.size) (fun _ => undef)) args vs) :
    Calls P f vs.toArray w fun e w' => e = .returned (.bool true) ∧ Below w.heap.size w w' :=
  Calls.mono (hcon.call w _ _ vs h (fun c hc => nomatch hc) List.nodup_nil (fun b hb => nomatch hb) fun b hb => hb) fun e w' ⟨x, S', ν', u, ha⟩ => ⟨by rw [ha.e, show u = .bool true from ha.res.1], ha.below⟩
end
end Go.Proofs.Ytfcihdkflnpcgaa.Am
