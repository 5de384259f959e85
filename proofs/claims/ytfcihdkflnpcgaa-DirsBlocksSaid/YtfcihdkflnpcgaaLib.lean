/- Slices and structs read as lists, and appends to own slices: lemmas for walks. No program is named. -/
import Derived.WalkKit
import Derived.Lib.Hide
import Derived.Deep.QuietTactic
import Derived.BigQuiet
import Derived.Deep.DeepCutAuto
import Derived.Deep.DeepFit
import Derived.Deep.RegionHeld3
import Derived.WalkSpells
import Derived.WalkLawsBesides
import Derived.Laws.AppendOwnNone
import Derived.Lib.AppendStr
import Derived.OneCell
import Derived.Deep.RegionLaw
import Derived.Deep.AppendLies
import Derived.Maps.AppendAt
import Derived.Laws.BytesArg
namespace Go.Proofs.Ytfcihdkflnpcgaa.Lw
open Go.RowKit

/-- The cells in the blocks of S are as they were. -/
structure Keep (S : Nat → Prop) (w w' : World) : Prop where
  size : w.heap.size ≤ w'.heap.size
  cell : ∀ b o, S b → b < w.heap.size → w'.cell? ⟨b, o, none⟩ = w.cell? ⟨b, o, none⟩
theorem Keep.refl (S : Nat → Prop) (w : World) : Keep S w w := ⟨Nat.le_refl _, fun _ _ _ _ => rfl⟩
theorem Keep.trans {S : Nat → Prop} {a b c : World} (h : Keep S a b) (h' : Keep S b c) : Keep S a c :=
  ⟨Nat.le_trans h.size h'.size, fun k o hs hk => (h'.cell k o hs (by have := h.size; omega)).trans (h.cell k o hs hk)⟩
theorem Keep.below {B : Nat} {S : Nat → Prop} {w w' : World} (h : Below B w w') (hS : ∀ b, S b → b < w.heap.size → b < B) : Keep S w w' :=
  ⟨h.size, fun b o hs hb => h.cell (p := ⟨b, o, none⟩) (hS b hs hb)⟩
theorem Keep.all {B : Nat} {S : Nat → Prop} {w w' : World} (h : Below B w w') (hB : w.heap.size ≤ B) : Keep S w w' :=
  ⟨h.size, fun b o _ hb => h.cell (p := ⟨b, o, none⟩) (by show b < B; omega)⟩
theorem Keep.grown {S : Nat → Prop} {w w' : World} {row : Option Nat} (h : w.grownBy w' row) (hS : ∀ b, S b → some b ≠ row) : Keep S w w' :=
  ⟨h.size, fun b _ hs hb => World.cell?_of_block (h.block b hb (hS b hs))⟩
theorem Keep.drewN (S : Nat → Prop) (w : World) (n : Nat) : Keep S w (w.drewN n) := ⟨Nat.le_refl _, fun _ _ _ _ => rfl⟩
theorem Keep.alloc (S : Nat → Prop) (w : World) (o : Obj) : Keep S w (w.alloc o) :=
  ⟨by simp, fun b _ _ hb => World.cell?_of_block (Below.heap_alloc w o b hb)⟩

/-- How an element of a slice lies in cells. -/
structure El (α : Type) where
  size : Nat
  rel : World → (Nat → Prop) → List Value → α → Prop
  len : ∀ {w S vs x}, rel w S vs x → vs.length = size
  mono : ∀ {w w' S S' vs x}, Keep S w w' → (∀ b, S b → b < w.heap.size → S' b) → rel w S vs x → rel w' S' vs x

def El.one {α : Type} (f : α → Value) : El α where
  size := 1
  rel _ _ vs x := vs = [f x]
  len := by rintro _ _ _ _ rfl; rfl
  mono := fun _ _ h => h

def u8 : El UInt8 := .one fun x => .int .u8 x.toNat
def u32 : El UInt32 := .one fun x => .int .u32 x.toNat
def u64 : El UInt64 := .one fun x => .int .u64 x.toNat
def i64 : El Int := .one fun x => .int .i64 x
def str : El ByteArray := .one fun x => .string x
def bool : El Bool := .one fun x => .bool x

/-- Element x lies at ⟨b, o⟩. -/
def El.At {α : Type} (E : El α) (w : World) (S : Nat → Prop) (b o : Nat) (x : α) : Prop :=
  ∃ vs, E.rel w S vs x ∧ ∀ j v, vs[j]? = some v → w.cell? ⟨b, o + j, none⟩ = some v

/-- The slice value reads as the list. -/
def El.Sl {α : Type} (E : El α) (w : World) (S : Nat → Prop) (A : Option Addr) (n : Nat) (xs : List α) : Prop :=
  n = xs.length ∧ (0 < n → ∃ b off, A = some ⟨b, off, none⟩ ∧ S b ∧ b < w.heap.size ∧ ∀ (i : Nat) (h : i < xs.length), E.At w S b (off + i * E.size) xs[i])

section
variable {α β : Type} {E : El α} {F : El β} {w w' : World} {S S' : Nat → Prop}
theorem El.At.mono {b o : Nat} {x : α} (h : E.At w S b o x) (hb : S b) (hb' : b < w.heap.size) (k : Keep S w w') (hS : ∀ b, S b → b < w.heap.size → S' b) : E.At w' S' b o x := by
  obtain ⟨vs, h1, h2⟩ := h
  exact ⟨vs, E.mono k hS h1, fun j v hv => by rw [k.cell _ _ hb hb']; exact h2 j v hv⟩

theorem El.Sl.mono {A : Option Addr} {n : Nat} {xs : List α} (h : E.Sl w S A n xs) (k : Keep S w w') (hS : ∀ b, S b → b < w.heap.size → S' b) : E.Sl w' S' A n xs := by
  refine ⟨h.1, fun hn => ?_⟩
  obtain ⟨b, off, rfl, hb, hb', hi⟩ := h.2 hn
  exact ⟨b, off, rfl, hS b hb hb', by have := k.size; omega, fun i hi' => (hi i hi').mono hb hb' k hS⟩
theorem El.Sl.keep {A : Option Addr} {n : Nat} {xs : List α} (h : E.Sl w S A n xs) (k : Keep S w w') : E.Sl w' S A n xs := h.mono k fun _ h _ => h
theorem El.Sl.drewN {A : Option Addr} {n : Nat} {xs : List α} (h : E.Sl w S A n xs) (k : Nat) : E.Sl (w.drewN k) S A n xs := h.keep (Keep.drewN _ _ _)
theorem El.Sl.alloc {A : Option Addr} {n : Nat} {xs : List α} (h : E.Sl w S A n xs) (o : Obj) : E.Sl (w.alloc o) S A n xs := h.keep (Keep.alloc _ _ _)
theorem El.Sl.below {A : Option Addr} {n : Nat} {xs : List α} (h : E.Sl w S A n xs) (k : Below w.heap.size w w') : E.Sl w' S A n xs := h.keep (Keep.all k (Nat.le_refl _))
theorem El.Sl.nil (w : World) (S : Nat → Prop) (A : Option Addr) : E.Sl w S A 0 [] := ⟨rfl, fun h => absurd h (by omega)⟩

theorem El.Sl.cut {A : Option Addr} {n lo m : Nat} {xs : List α} (h : E.Sl w S A n xs) (hm : lo + m ≤ n) : E.Sl w S (A.map fun a => a.add (lo * E.size)) m ((xs.drop lo).take m) := by
  have hl := h.1
  refine ⟨by simp; omega, fun hn => ?_⟩
  obtain ⟨b, off, rfl, hb, hb', hi⟩ := h.2 (by omega)
  refine ⟨b, off + lo * E.size, ?_, hb, hb', fun i hi' => ?_⟩
  · simp [Addr.add]
  · have hx : lo + i < xs.length := by simp at hi'; omega
    have := hi (lo + i) hx
    rw [Nat.add_mul, ← Nat.add_assoc] at this
    simpa using this

def El.slice (E : El α) : El (List α) where
  size := 1
  rel w S vs xs := ∃ A n c, vs = [.slice A n c] ∧ n ≤ c ∧ c ≤ maxLen ∧ E.Sl w S A n xs
  len := by rintro _ _ _ _ ⟨_, _, _, rfl, _⟩; rfl
  mono := by
    rintro w w' B B' vs x hc hB ⟨A, n, c, rfl, h1, h2, h3⟩
    exact ⟨A, n, c, rfl, h1, h2, h3.mono hc hB⟩

def El.prod (E : El α) (F : El β) : El (α × β) where
  size := E.size + F.size
  rel w S vs x := ∃ us ts, vs = us ++ ts ∧ E.rel w S us x.1 ∧ F.rel w S ts x.2
  len := by
    rintro _ _ _ _ ⟨us, ts, rfl, h1, h2⟩
    simp [E.len h1, F.len h2]
  mono := by
    rintro w w' B B' vs x hc hB ⟨us, ts, rfl, h1, h2⟩
    exact ⟨us, ts, rfl, E.mono hc hB h1, F.mono hc hB h2⟩

theorem El.Sl.at_ {A : Option Addr} {n : Nat} {xs : List α} (h : E.Sl w S A n xs) {k : Nat} (hk : k < xs.length) :
    ∃ b off, A = some ⟨b, off, none⟩ ∧ b < w.heap.size ∧ E.At w S b (off + k * E.size) xs[k] := by
  obtain ⟨b, off, h1, h2, h3, h4⟩ := h.2 (by have := h.1; omega)
  exact ⟨b, off, h1, h3, h4 k hk⟩

theorem El.At.of_one {f : α → Value} {b o : Nat} {x : α} (h : (El.one f).At w S b o x) : w.cell? ⟨b, o, none⟩ = some (f x) := by
  obtain ⟨vs, h1, h2⟩ := h
  have h1 : vs = [f x] := h1
  subst h1
  exact h2 0 _ rfl

theorem El.Sl.one_at {γ : Type} {f : γ → Value} {A : Option Addr} {n : Nat} {xs : List γ} (h : (El.one f).Sl w S A n xs) {k : Nat} (hk : k < xs.length) :
    ∃ b off, A = some ⟨b, off, none⟩ ∧ S b ∧ b < w.heap.size ∧ w.cell? ⟨b, off + k, none⟩ = some (f xs[k]) := by
  obtain ⟨b, off, h1, h2, h3, h4⟩ := h.2 (by have := h.1; omega)
  have := (h4 k hk).of_one
  rw [show k * (El.one f).size = k from Nat.mul_one k] at this
  exact ⟨b, off, h1, h2, h3, this⟩

theorem El.At.of_prod {b o : Nat} {x : α × β} (h : (E.prod F).At w S b o x) : E.At w S b o x.1 ∧ F.At w S b (o + E.size) x.2 := by
  obtain ⟨vs, ⟨us, ts, rfl, h1, h3⟩, h2⟩ := h
  refine ⟨⟨us, h1, fun j v hv => h2 j v ?_⟩, ⟨ts, h3, fun j v hv => ?_⟩⟩
  · have : j < us.length := (List.getElem?_eq_some_iff.1 hv).1
    rw [List.getElem?_append_left this]; exact hv
  · have := h2 (E.size + j) v (by rw [List.getElem?_append_right (by rw [E.len h1]; omega), E.len h1]; simpa using hv)
    rw [← Nat.add_assoc] at this; exact this

theorem El.At.of_slice {b o : Nat} {xs : List α} (h : (E.slice).At w S b o xs) : ∃ A n c, w.cell? ⟨b, o, none⟩ = some (.slice A n c) ∧ n ≤ c ∧ c ≤ maxLen ∧ E.Sl w S A n xs := by
  obtain ⟨vs, ⟨A, n, c, rfl, h1, h3, h4⟩, h2⟩ := h
  exact ⟨A, n, c, h2 0 _ rfl, h1, h3, h4⟩
end

/-- Draws alone. -/
def Dr (w w' : World) : Prop := ∃ n, w' = w.drewN n
theorem Dr.refl (w : World) : Dr w w := ⟨0, rfl⟩
theorem Dr.drewN {w w' : World} (h : Dr w w') (n : Nat) : Dr w (w'.drewN n) := by
  obtain ⟨m, rfl⟩ := h
  exact ⟨m + n, by simp [World.drewN, Nat.add_assoc]⟩
theorem Dr.drew {w w' : World} (h : Dr w w') : Dr w w'.drew := by
  obtain ⟨m, rfl⟩ := h
  exact ⟨m + 1, by simp [World.drewN, World.drew, Nat.add_assoc]⟩
theorem Dr.trans {a b c : World} (h : Dr a b) (h' : Dr b c) : Dr a c := by
  obtain ⟨m, rfl⟩ := h'
  exact h.drewN m
theorem Dr.keep {S : Nat → Prop} {w w' : World} (h : Dr w w') : Keep S w w' := by
  obtain ⟨m, rfl⟩ := h
  exact Keep.drewN _ _ _
def bytesV (l : List UInt8) : List Value := l.map fun b => .int .u8 b.toNat
theorem bytesV_length (l : List UInt8) : (bytesV l).length = l.length := by simp [bytesV]
theorem bytesV_append (l m : List UInt8) : bytesV (l ++ m) = bytesV l ++ bytesV m := by simp [bytesV]

/-- The facts on a slice type of a program. -/
structure SlTy (P : Program) (t e : TypeId) (size bytes : Nat) : Prop where
  und : P.underlying t = some (.slice e)
  inf : ∃ i z, P.info? e = some i ∧ i.zero = some z ∧ i.size = size ∧ i.bytes = bytes ∧ z.cells.size = size
  pos : 0 < size
theorem SlTy.mk' {P : Program} {t e : TypeId} {size bytes : Nat} {z : Value} (und : P.underlying t = some (.slice e))
    (h : (P.info? e).map (fun i => (i.zero, i.size, i.bytes)) = some (some z, size, bytes)) (hz : z.cells.size = size) (pos : 0 < size) : SlTy P t e size bytes := by
  obtain ⟨i, h1, h2, h3, h4⟩ := info_parts h
  exact ⟨und, ⟨i, z, h1, h2, h3, h4, hz⟩, pos⟩

section
variable {P : Program} {ops : Array Oper} {rest : List Oper} {o : Oper} {a : Act} {Q : Exit → Act → World → Prop}

/-- An owned row over a change elsewhere. -/
theorem ownsRow_below {w w' : World} {base e size n B : Nat} {v : Value} {xs : List Value} (h : w.ownsRow base e size v n xs) (k : Below B w w') (hB : w.heap.size ≤ B) : w'.ownsRow base e size v n xs := by
  refine ⟨h.1, ?_⟩
  rcases h.2 with hn | ⟨g, cap, cur, rfl, hb, hgg, rest⟩
  · exact .inl hn
  · refine .inr ⟨g, cap, cur, rfl, hb, ?_, rest⟩
    rw [k.block g (by have := (Array.getElem?_eq_some_iff.1 hgg).1; omega)]
    exact hgg

theorem ownsRow_base {w : World} {base base' e size n : Nat} {v : Value} {xs : List Value} (h : w.ownsRow base e size v n xs) (hb : base' ≤ base) : w.ownsRow base' e size v n xs := by
  refine ⟨h.1, ?_⟩
  rcases h.2 with hn | ⟨g, cap, cur, rfl, hb', rest⟩
  · exact .inl hn
  · exact .inr ⟨g, cap, cur, rfl, by omega, rest⟩

theorem below_grown {w0 w w' : World} {base e size n : Nat} {v : Value} {xs : List Value} (hb : Below base w0 w) (hB : base ≤ w.heap.size) (h : w.ownsRow base e size v n xs) (hg : w.grownBy w' v.ownBlock) : Below base w0 w' :=
  hb.grown hg hB fun k hk => (h.lt k hk).1

/-- What an owned row looks like as a source. -/
theorem ownsRow_src {w : World} {base e size n : Nat} {v : Value} {xs : List Value} (h : w.ownsRow base e size v n xs) :
    ∃ A c, v = .slice A n c ∧ n ≤ c ∧ c ≤ maxLen ∧ (A = none → c = 0) ∧ xs.length = n * size ∧ (0 < n → ∃ b off, A = some ⟨b, off, none⟩ ∧ b < w.heap.size ∧ base ≤ b ∧ ∀ j u, xs[j]? = some u → w.cell? ⟨b, off + j, none⟩ = some u) := by
  have hl := h.1
  rcases h.2 with ⟨rfl, rfl⟩ | ⟨g, cap, cur, rfl, hb, hg, hnc, hcm, hcs, htake⟩
  · exact ⟨none, 0, rfl, Nat.le_refl _, Nat.zero_le _, fun _ => rfl, hl, fun h => absurd h (by omega)⟩
  · refine ⟨_, cap, rfl, hnc, hcm, (fun h => by cases h), hl, fun _ => ⟨g, 0, rfl, (Array.getElem?_eq_some_iff.1 hg).1, hb, fun j u hu => ?_⟩⟩
    have := h.cells (g := g) rfl j u hu
    have e1 : (⟨g, 0, none⟩ : Addr).add j = ⟨g, 0 + j, none⟩ := by unfold Addr.add; split <;> simp_all
    rw [e1] at this; exact this

/-- A slice value that is kept by draws and by changes above. -/
theorem lit1_owns {w : World} {base e : Nat} {u : Value} (hb : base ≤ w.heap.size) : (w.alloc (.cells #[u] e)).ownsRow base e 1 (.slice (some ⟨w.heap.size, 0, none⟩) 1 1) 1 [u] :=
  World.ownsRow_lit w #[u] 1 hb (by simp [maxLen]) rfl

theorem bytesV_one (l : List UInt8) : ∀ u ∈ bytesV l, u.oneCell' = true := by
  intro u hu
  obtain ⟨b, _, rfl⟩ := List.mem_map.1 hu
  rfl

theorem grownBy_alloc {w w1 : World} {o : Obj} {row : Option Nat} (hg : (w.alloc o).grownBy w1 row) : w.grownBy w1 row :=
  ⟨hg.os, hg.tape, hg.output, by have := hg.size; simp at this; omega, fun k hk hne => by
    rw [hg.block k (by simp; omega) hne]; exact Below.heap_alloc _ _ _ hk⟩

theorem own_ne {w : World} {base e size n b T : Nat} {v : Value} {xs : List Value} {c : Array Value} {fr : Nat × Nat} (h : w.ownsRow base e size v n xs) (hb : w.heap[b]? = some (.cells c T fr)) (hT : T ≠ e) : v.ownBlock ≠ some b := by
  intro hv
  rcases h.2 with ⟨rfl, _⟩ | ⟨g, cap, cur, rfl, _, hg, _⟩
  · cases hv
  · have : g = b := by simpa [Value.ownBlock] using hv
    subst this
    rw [hg] at hb
    have := Option.some.inj hb
    simp at this
    exact hT this.2.1.symm

theorem row_at {w : World} {b i : Nat} {us : List Value} {e : TypeId} {fr : Nat × Nat} (hg : w.heap[b]? = some (.cells us.toArray e fr)) {u : Value} (hu : us[i]? = some u) : w.cell? ⟨b, i, none⟩ = some u := by
  rw [cell_of_row _ b i us.toArray e fr hg]; simpa using hu

theorem cell_alloc_new {w : World} {cs : List Value} {e i : Nat} {u : Value} (h : cs[i]? = some u) : (w.alloc (.cells cs.toArray e)).cell? ⟨w.heap.size, i, none⟩ = some u :=
  row_at (heap_alloc_new w _) h
theorem cell_alloc_two {w : World} {o : Obj} {cs : List Value} {e i : Nat} {u : Value} (h : cs[i]? = some u) : ((w.alloc o).alloc (.cells cs.toArray e)).cell? ⟨w.heap.size + 1, i, none⟩ = some u := by
  have : w.heap.size + 1 = (w.alloc o).heap.size := by simp
  rw [this]; exact cell_alloc_new h

/-- What an append leaves. -/
structure Appd (base e size : Nat) (w0 w w' : World) (v v' : Value) (m : Nat) (ys : List Value) : Prop where
  own : w'.ownsRow base e size v' m ys
  below : Below base w0 w'
  grown : w.grownBy w' v.ownBlock
  blk : v'.ownBlock = v.ownBlock ∨ ∀ k, v'.ownBlock = some k → w.heap.size ≤ k

theorem Appd.of_alloc {base e size : Nat} {w0 w w' : World} {v v' : Value} {m : Nat} {ys : List Value} {o : Obj} (h : Appd base e size w0 (w.alloc o) w' v v' m ys) : Appd base e size w0 w w' v v' m ys :=
  ⟨h.own, h.below, grownBy_alloc h.grown, h.blk.imp id fun h k hk => by have := h k hk; simp at this; omega⟩

/-- append(s, x): x a block of one element. -/
theorem wp_app1 {w w0 : World} {K : Act → World → Prop} (s x : Operand) (t e : TypeId) (size bytes : Nat)
    (ho : o.op = .call { callee := .builtin .append, args := #[s, x], argTypes := #[t, t] }) (T : SlTy P t e size bytes) (base n : Nat) (v : Value) (xs : List Value) (us : List Value) (g : Nat) {fr : Nat × Nat}
    (hs : a.eval s = v) (hx : a.eval x = .slice (some ⟨g, 0, none⟩) 1 1) (hg : w.heap[g]? = some (.cells us.toArray e fr)) (hown : w.ownsRow base e size v n xs) (hb : Below base w0 w) (hB : base ≤ w.heap.size)
    (hu : us.length = size) (h1 : ∀ u ∈ us, u.oneCell' = true) (hn : (n + 1) * bytes ≤ 140737488355328) (hn' : n < 9223372036854775807)
    (h : ∀ v' w', Appd base e size w0 w w' v v' (n + 1) (xs ++ us) → K (a.put o.dst v') w') :
    o.wp P a w K Q := by
  obtain ⟨i, z, hi, hz, hsz, hby, hzs⟩ := T.inf
  obtain ⟨v', w', hr, h2, h3, _, h5⟩ := run_append_own_at (P := P) w base t o.type e i z size bytes T.und hi hz hsz hby hzs T.pos v n xs hown ⟨g, 0, none⟩ 1 1 us (by omega)
    (fun j u hj => by
      have : (⟨g, 0, none⟩ : Addr).add j = ⟨g, j, none⟩ := by unfold Addr.add; split <;> simp_all
      rw [this]; exact row_at hg hj) h1 (by unfold maxLen; omega) hn hB
  unfold Oper.wp execOp
  simp only [ho, resolve, invoke, builtin, Sem.run_bind, Sem.run_pure, Result.andThen_ok, List.map_toArray, List.map_cons, List.map_nil, hs, hx, hr]
  exact h v' w' ⟨h2, below_grown hb hB hown h3, h3, h5.imp id fun e k hk => by rw [e] at hk; cases hk; exact Nat.le_refl _⟩

theorem wpList_app1 {w w0 : World} (hgd : o.guard = none) (s x : Operand) (t e : TypeId) (size bytes : Nat)
    (ho : o.op = .call { callee := .builtin .append, args := #[s, x], argTypes := #[t, t] }) (T : SlTy P t e size bytes) (base n : Nat) (v : Value) (xs : List Value) (us : List Value)
    (hs : a.eval s = v) (hx : a.eval x = .slice (some ⟨w.heap.size, 0, none⟩) 1 1) (hown : w.ownsRow base e size v n xs) (hb : Below base w0 w) (hB : base ≤ w.heap.size)
    (hu : us.length = size) (h1 : ∀ u ∈ us, u.oneCell' = true) (hn : (n + 1) * bytes ≤ 140737488355328) (hn' : n < 9223372036854775807)
    (h : ∀ v' w', Appd base e size w0 w w' v v' (n + 1) (xs ++ us) → wpList P ops Q rest (a.put o.dst v') w') :
    wpList P ops Q (o :: rest) a (w.alloc (.cells us.toArray e)) :=
  wpList_plain hgd fun _ hK => wp_app1 s x t e size bytes ho T base n v xs us w.heap.size hs hx (heap_alloc_new w _) (hown.alloc _) (hb.alloc hB _) (by simp; omega) hu h1 hn hn' fun v' w1 h2 => hK _ _ (h v' w1 h2.of_alloc)

theorem step_app1 {w w0 : World} {K : Act → World → Prop} {E : Prop} (hgd : o.guard = none) (s x : Operand) (t e : TypeId) (size bytes : Nat)
    (ho : o.op = .call { callee := .builtin .append, args := #[s, x], argTypes := #[t, t] }) (T : SlTy P t e size bytes) (base n : Nat) (v : Value) (xs : List Value) (us : List Value) (g : Nat) {fr : Nat × Nat}
    (hs : a.eval s = v) (hx : a.eval x = .slice (some ⟨g, 0, none⟩) 1 1) (hg : w.heap[g]? = some (.cells us.toArray e fr)) (hown : w.ownsRow base e size v n xs) (hb : Below base w0 w) (hB : base ≤ w.heap.size)
    (hu : us.length = size) (h1 : ∀ u ∈ us, u.oneCell' = true) (hn : (n + 1) * bytes ≤ 140737488355328) (hn' : n < 9223372036854775807)
    (h : ∀ v' w', Appd base e size w0 w w' v v' (n + 1) (xs ++ us) → K (a.put o.dst v') w') :
    if Region.wanted o (yielded ops a.tmps) = true then Oper.wp P o a w K Q else E := by
  have hw : Region.wanted o (yielded ops a.tmps) = true := by simp [Region.wanted, hgd]
  rw [if_pos hw]
  exact wp_app1 s x t e size bytes ho T base n v xs us g hs hx hg hown hb hB hu h1 hn hn' h

/-- make([]T, 0, n). -/
theorem wpList_mk0 {w w0 : World} (hgd : o.guard = none) (l c : Operand) (t e : TypeId) (size bytes : Nat) (hop : o.op = Op.makeSlice t l c) (T : SlTy P t e size bytes) (base n : Nat)
    (hl : a.eval l = .int .i64 0) (hc : a.eval c = .int .i64 n) (hb : Below base w0 w) (hB : base ≤ w.heap.size) (hn : bytes * n ≤ 281474976710656) (hn' : n ≤ 9223372036854775807)
    (h : ∀ w', w'.ownsRow base e size (.slice (some ⟨w.heap.size, 0, none⟩) 0 n) 0 [] → Below base w0 w' → Below w.heap.size w w' → wpList P ops Q rest (a.put o.dst (.slice (some ⟨w.heap.size, 0, none⟩) 0 n)) w') :
    wpList P ops Q (o :: rest) a w := by
  obtain ⟨i, z, hi, hz, hsz, hby, hzs⟩ := T.inf
  refine wpList_make_own w hgd l c t hop base e i z size T.und hi hz hsz .i64 .i64 n n hl hc rfl (by rw [hby]; exact hn) (by unfold maxLen; omega) hB fun w' h1 h2 => ?_
  exact h w' h1 (hb.grown h2 hB fun k hk => by cases hk) ⟨h2.os, h2.tape, h2.output, h2.size, fun k hk => h2.block k hk (by simp)⟩

/-- append(s, x...): x reads as news. -/
theorem wp_apps {w w0 : World} {K : Act → World → Prop} (s x : Operand) (t e : TypeId) (size bytes : Nat)
    (ho : o.op = .call { callee := .builtin .append, args := #[s, x], argTypes := #[t, t] }) (T : SlTy P t e size bytes) (base n : Nat) (v : Value) (xs : List Value)
    (A : Option Addr) (m c : Nat) (news : List Value)
    (hs : a.eval s = v) (hx : a.eval x = .slice A m c) (hA : A = none → c = 0) (hown : w.ownsRow base e size v n xs) (hb : Below base w0 w) (hB : base ≤ w.heap.size)
    (hl : news.length = m * size) (hnews : 0 < m → ∃ b off, A = some ⟨b, off, none⟩ ∧ ∀ j u, news[j]? = some u → w.cell? ⟨b, off + j, none⟩ = some u) (h1 : ∀ u ∈ news, u.oneCell' = true) (hmc : m ≤ c)
    (hn : (n + m) * bytes ≤ 140737488355328) (hn' : n + m ≤ 9223372036854775807)
    (h : ∀ v' w', Appd base e size w0 w w' v v' (n + m) (xs ++ news) → K (a.put o.dst v') w') :
    o.wp P a w K Q := by
  obtain ⟨i, z, hi, hz, hsz, hby, hzs⟩ := T.inf
  cases A with
  | none =>
    obtain rfl : c = 0 := hA rfl
    obtain rfl : m = 0 := by omega
    obtain rfl : news = [] := List.eq_nil_of_length_eq_zero (by omega)
    have hrun := run_append_owned_none (P := P) (w := w) base t o.type e i size T.und hi v n xs hown
    unfold Oper.wp
    simp [execOp, ho, resolve, invoke, builtin, hs, hx, hrun, Result.andThen]
    exact h v w ⟨by simpa using hown, hb, World.grownBy.refl _ _, .inl rfl⟩
  | some ad =>
    obtain ⟨v', w', hr, h2, h3, _, h5⟩ := run_append_own_at (P := P) w base t o.type e i z size bytes T.und hi hz hsz hby hzs T.pos v n xs hown ad m c news hl
      (fun j u hj => by
        have hjl : j < news.length := (List.getElem?_eq_some_iff.1 hj).1
        have hm : 0 < m := by
          rcases Nat.eq_zero_or_pos m with h0 | h0
          · subst h0; omega
          · exact h0
        obtain ⟨b, off, e1, hc⟩ := hnews hm
        obtain rfl := Option.some.inj e1
        have : (⟨b, off, none⟩ : Addr).add j = ⟨b, off + j, none⟩ := by unfold Addr.add; split <;> simp_all
        rw [this]; exact hc j u hj) h1 (by unfold maxLen; omega) hn hB
    unfold Oper.wp execOp
    simp only [ho, resolve, invoke, builtin, Sem.run_bind, Sem.run_pure, Result.andThen_ok, List.map_toArray, List.map_cons, List.map_nil, hs, hx, hr]
    exact h v' w' ⟨h2, below_grown hb hB hown h3, h3, h5.imp id fun e k hk => by rw [e] at hk; cases hk; exact Nat.le_refl _⟩

theorem wpList_apps {w w0 : World} (hgd : o.guard = none) (s x : Operand) (t e : TypeId) (size bytes : Nat)
    (ho : o.op = .call { callee := .builtin .append, args := #[s, x], argTypes := #[t, t] }) (T : SlTy P t e size bytes) (base n : Nat) (v : Value) (xs : List Value)
    (A : Option Addr) (m c : Nat) (news : List Value)
    (hs : a.eval s = v) (hx : a.eval x = .slice A m c) (hA : A = none → c = 0) (hown : w.ownsRow base e size v n xs) (hb : Below base w0 w) (hB : base ≤ w.heap.size)
    (hl : news.length = m * size) (hnews : 0 < m → ∃ b off, A = some ⟨b, off, none⟩ ∧ ∀ j u, news[j]? = some u → w.cell? ⟨b, off + j, none⟩ = some u) (h1 : ∀ u ∈ news, u.oneCell' = true) (hmc : m ≤ c)
    (hn : (n + m) * bytes ≤ 140737488355328) (hn' : n + m ≤ 9223372036854775807)
    (h : ∀ v' w', Appd base e size w0 w w' v v' (n + m) (xs ++ news) → wpList P ops Q rest (a.put o.dst v') w') :
    wpList P ops Q (o :: rest) a w :=
  wpList_plain hgd fun _ hK => wp_apps s x t e size bytes ho T base n v xs A m c news hs hx hA hown hb hB hl hnews h1 hmc hn hn' fun v' w1 h2 => hK _ _ (h v' w1 h2)

theorem step_apps {w w0 : World} {K : Act → World → Prop} {E : Prop} (hgd : o.guard = none) (s x : Operand) (t e : TypeId) (size bytes : Nat)
    (ho : o.op = .call { callee := .builtin .append, args := #[s, x], argTypes := #[t, t] }) (T : SlTy P t e size bytes) (base n : Nat) (v : Value) (xs : List Value)
    (A : Option Addr) (m c : Nat) (news : List Value)
    (hs : a.eval s = v) (hx : a.eval x = .slice A m c) (hA : A = none → c = 0) (hown : w.ownsRow base e size v n xs) (hb : Below base w0 w) (hB : base ≤ w.heap.size)
    (hl : news.length = m * size) (hnews : 0 < m → ∃ b off, A = some ⟨b, off, none⟩ ∧ ∀ j u, news[j]? = some u → w.cell? ⟨b, off + j, none⟩ = some u) (h1 : ∀ u ∈ news, u.oneCell' = true) (hmc : m ≤ c)
    (hn : (n + m) * bytes ≤ 140737488355328) (hn' : n + m ≤ 9223372036854775807)
    (h : ∀ v' w', Appd base e size w0 w w' v v' (n + m) (xs ++ news) → K (a.put o.dst v') w') :
    if Region.wanted o (yielded ops a.tmps) = true then Oper.wp P o a w K Q else E := by
  have hw : Region.wanted o (yielded ops a.tmps) = true := by simp [Region.wanted, hgd]
  rw [if_pos hw]
  exact wp_apps s x t e size bytes ho T base n v xs A m c news hs hx hA hown hb hB hl hnews h1 hmc hn hn' h

/-- append(s, x...): x a string. -/
theorem wp_appstr {w w0 : World} {K : Act → World → Prop} (s x : Operand) (t u e : TypeId)
    (ho : o.op = .call { callee := .builtin .append, args := #[s, x], argTypes := #[t, u] }) (T : SlTy P t e 1 1) (hu : P.underlying u = some .string) (hz0 : ∀ i, P.info? e = some i → i.zero = some (.int .u8 0)) (base n : Nat) (v : Value) (xs : List Value)
    (st : ByteArray) (hs : a.eval s = v) (hx : a.eval x = .string st) (hown : w.ownsRow base e 1 v n xs) (hb : Below base w0 w) (hB : base ≤ w.heap.size)
    (hn : n + st.size ≤ 140737488355328)
    (h : ∀ v' w', Appd base e 1 w0 w w' v v' (n + st.size) (xs ++ bytesV st.data.toList) → K (a.put o.dst v') w') :
    o.wp P a w K Q := by
  obtain ⟨i, z, hi, hz, hsz, hby, hzs⟩ := T.inf
  have hz8 := hz0 i hi
  obtain ⟨v', w', hr, h2, h3, h4⟩ := Lib.run_append_own_string (P := P) w base t u o.type e i T.und hu hi hz8 hsz hby v n xs hown st (by unfold maxLen; omega) hn hB
  have hblk : v'.ownBlock = v.ownBlock ∨ ∀ k, v'.ownBlock = some k → w.heap.size ≤ k := by
    rcases hown.2 with ⟨rfl, rfl⟩ | ⟨g, cap, cur, rfl, hbg, hg, hnc, hcm, hcs, htake⟩
    · have hx0 : xs = [] := List.eq_nil_of_length_eq_zero (by simpa using hown.1)
      subst hx0
      obtain ⟨v2, w2, hr2, h22, _, _⟩ := Lib.run_append_own_string (P := P) w w.heap.size t u o.type e i T.und hu hi hz8 hsz hby _ 0 [] (World.ownsRow_nil _ _ _ _) st (by unfold maxLen; omega) hn (Nat.le_refl _)
      rw [hr] at hr2
      injection hr2 with e1 e2
      subst e1
      exact .inr fun k hk => (h22.lt k hk).1
    · by_cases hroom : n + st.size ≤ cap
      · have hr2 := Lib.run_append_room_string (P := P) w t u o.type e i T.und hu hi hsz g n cap cur hg st hroom (by omega)
        rw [hr] at hr2
        injection hr2 with e1 e2
        subst e1
        exact .inl rfl
      · have hr2 := Lib.run_append_grow_string (P := P) w t u o.type e i (.int .u8 0) T.und hu hi hz8 ⟨g, 0, none⟩ n cap xs (by rw [hsz]; exact hown.1) (hown.cells (g := g) rfl) st (by omega) (by omega) (by rw [hby]; exact growslice_fits (by omega) (by omega))
        rw [hr] at hr2
        injection hr2 with e1 e2
        subst e1
        exact .inr fun k hk => by cases hk; exact Nat.le_refl _
  unfold Oper.wp execOp
  simp only [ho, resolve, invoke, builtin, Sem.run_bind, Sem.run_pure, Result.andThen_ok, List.map_toArray, List.map_cons, List.map_nil, hs, hx, hr]
  exact h v' w' ⟨h2, below_grown hb hB hown h3, h3, hblk⟩

theorem wpList_appstr {w w0 : World} (hgd : o.guard = none) (s x : Operand) (t u e : TypeId)
    (ho : o.op = .call { callee := .builtin .append, args := #[s, x], argTypes := #[t, u] }) (T : SlTy P t e 1 1) (hu : P.underlying u = some .string) (hz0 : ∀ i, P.info? e = some i → i.zero = some (.int .u8 0)) (base n : Nat) (v : Value) (xs : List Value)
    (st : ByteArray) (hs : a.eval s = v) (hx : a.eval x = .string st) (hown : w.ownsRow base e 1 v n xs) (hb : Below base w0 w) (hB : base ≤ w.heap.size)
    (hn : n + st.size ≤ 140737488355328)
    (h : ∀ v' w', Appd base e 1 w0 w w' v v' (n + st.size) (xs ++ bytesV st.data.toList) → wpList P ops Q rest (a.put o.dst v') w') :
    wpList P ops Q (o :: rest) a w :=
  wpList_plain hgd fun _ hK => wp_appstr s x t u e ho T hu hz0 base n v xs st hs hx hown hb hB hn fun v' w1 h2 => hK _ _ (h v' w1 h2)

theorem step_appstr {w w0 : World} {K : Act → World → Prop} {E : Prop} (hgd : o.guard = none) (s x : Operand) (t u e : TypeId)
    (ho : o.op = .call { callee := .builtin .append, args := #[s, x], argTypes := #[t, u] }) (T : SlTy P t e 1 1) (hu : P.underlying u = some .string) (hz0 : ∀ i, P.info? e = some i → i.zero = some (.int .u8 0)) (base n : Nat) (v : Value) (xs : List Value)
    (st : ByteArray) (hs : a.eval s = v) (hx : a.eval x = .string st) (hown : w.ownsRow base e 1 v n xs) (hb : Below base w0 w) (hB : base ≤ w.heap.size)
    (hn : n + st.size ≤ 140737488355328)
    (h : ∀ v' w', Appd base e 1 w0 w w' v v' (n + st.size) (xs ++ bytesV st.data.toList) → K (a.put o.dst v') w') :
    if Region.wanted o (yielded ops a.tmps) = true then Oper.wp P o a w K Q else E := by
  have hw : Region.wanted o (yielded ops a.tmps) = true := by simp [Region.wanted, hgd]
  rw [if_pos hw]
  exact wp_appstr s x t u e ho T hu hz0 base n v xs st hs hx hown hb hB hn h
end

/-- Only block bw, the row of v and new blocks have changed; the row of v' is that of v or new. -/
structure WStep (bw : Nat) (v v' : Value) (w w' : World) : Prop where
  size : w.heap.size ≤ w'.heap.size
  block : ∀ k, k < w.heap.size → k ≠ bw → some k ≠ v.ownBlock → w'.heap[k]? = w.heap[k]?
  blk : v'.ownBlock = v.ownBlock ∨ ∀ k, v'.ownBlock = some k → w.heap.size ≤ k
theorem WStep.refl (bw : Nat) (v : Value) (w : World) : WStep bw v v w w := ⟨Nat.le_refl _, fun _ _ _ _ => rfl, .inl rfl⟩
theorem WStep.trans {bw : Nat} {v v1 v2 : Value} {w w1 w2 : World} (h : WStep bw v v1 w w1) (h' : WStep bw v1 v2 w1 w2) : WStep bw v v2 w w2 := by
  refine ⟨Nat.le_trans h.size h'.size, fun k hk hb hv => ?_, ?_⟩
  · rw [h'.block k (by have := h.size; omega) hb ?_, h.block k hk hb hv]
    intro e
    rcases h.blk with e1 | e1
    · rw [e1] at e; exact hv e
    · have := e1 k e.symm; omega
  · rcases h'.blk with e1 | e1
    · rcases h.blk with e2 | e2
      · exact .inl (e1.trans e2)
      · exact .inr fun k hk => e2 k (e1 ▸ hk)
    · exact .inr fun k hk => Nat.le_trans h.size (e1 k hk)
theorem WStep.below {bw : Nat} {v : Value} {w w' : World} (h : Below w.heap.size w w') : WStep bw v v w w' := ⟨h.size, fun k hk _ _ => h.block k hk, .inl rfl⟩
theorem WStep.app {base e size bw : Nat} {w0 w w' : World} {v v' : Value} {m : Nat} {ys : List Value} (h : Appd base e size w0 w w' v v' m ys) (u : Value) : WStep bw v v' w (w'.setCell ⟨bw, 0, none⟩ u) :=
  ⟨by have := h.grown.size; simpa [World.setCell] using this, fun k hk hb hv => by rw [Below.heap_setCell _ _ _ _ hb]; exact h.grown.block k hk hv, h.blk⟩
theorem WStep.cell {bw : Nat} {v v' : Value} {w w' : World} (h : WStep bw v v' w w') {k o : Nat} (hk : k < w.heap.size) (hb : k ≠ bw) (hv : some k ≠ v.ownBlock) : w'.cell? ⟨k, o, none⟩ = w.cell? ⟨k, o, none⟩ :=
  World.cell?_of_block (h.block k hk hb hv)
/-- string(b) -/
theorem conv_str {P : Program} {w : World} {S : Nat → Prop} {src dst e : TypeId} (hs : P.underlying src = some (.slice e)) (he : P.underlying e = some (.int .u8)) (hd : P.underlying dst = some .string) {A : Option Addr} {n c : Nat} {bs : List UInt8} (h : u8.Sl w S A n bs) :
    (convert src dst (.slice A n c)).run P w = .ok (.string ⟨bs.toArray⟩) w := by
  have hn := h.1
  cases A with
  | none =>
    have h0 : n = 0 := by
      rcases Nat.eq_zero_or_pos n with h0 | h0
      · exact h0
      · obtain ⟨_, _, h1, _⟩ := h.2 h0; cases h1
    obtain rfl : bs = [] := List.eq_nil_of_length_eq_zero (by omega)
    exact run_convert_bytes_nil w src e hs he n c dst hd
  | some ad =>
    subst hn
    refine run_convert_bytes_back w src dst e ad c bs hs he hd fun j hj => ?_
    obtain ⟨b, off, h1, _, _, h3⟩ := h.one_at hj
    obtain rfl := Option.some.inj h1
    have : (⟨b, off, none⟩ : Addr).add j = ⟨b, off + j, none⟩ := by unfold Addr.add; split <;> simp_all
    rw [this]; exact h3

theorem callFunc_body {P : Program} {f : FuncId} {fn : Func} (hf : P.funcs[f]? = some fn) (hn : (fn.name == "runtime.NumGoroutine") = false) (hb : fn.body.isNone = false) (args : Array Value) (w : World) :
    (callFunc f args).run P w = .ok (.enter f args) w := by
  have hn' : fn.name ≠ "runtime.NumGoroutine" := by simpa using hn
  have hb' : fn.body ≠ none := by intro e; rw [e] at hb; cases hb
  simp [callFunc, Sem.run, program, bind, Sem.bind, hf, hn', hb', pure]
theorem ownsRow_at {w : World} {base e size n m c : Nat} {A : Option Addr} {xs : List Value} (h : w.ownsRow base e size (.slice A n c) m xs) (hm : 0 < m) :
    ∃ g, A = some ⟨g, 0, none⟩ ∧ base ≤ g ∧ g < w.heap.size ∧ ∀ j u, xs[j]? = some u → w.cell? ⟨g, j, none⟩ = some u := by
  rcases h.2 with ⟨_, h0⟩ | ⟨g, cap, cur, hv, hb, hg, _⟩
  · omega
  · injection hv with h1 h2 h3
    subst h1
    refine ⟨g, rfl, hb, (Array.getElem?_eq_some_iff.1 hg).1, fun j u hu => ?_⟩
    have := h.cells (g := g) rfl j u hu
    have e1 : (⟨g, 0, none⟩ : Addr).add j = ⟨g, j, none⟩ := by unfold Addr.add; split <;> simp_all
    rw [e1] at this; exact this

theorem ownsRow_wstep {w w' : World} {base base' e e' size size' n n' bw T : Nat} {u v v' : Value} {xs ys : List Value} {c : Array Value} {fr : Nat × Nat} (h : w.ownsRow base e size u n xs) (hs : WStep bw v v' w w')
    (hbw : w.heap[bw]? = some (.cells c T fr)) (hT : T ≠ e) (hown : w.ownsRow base' e' size' v n' ys) (he : e ≠ e') : w'.ownsRow base e size u n xs := by
  have hne := own_ne h hbw hT
  refine ⟨h.1, ?_⟩
  rcases h.2 with hn | ⟨g, cap, cur, rfl, hb, hgg, rest⟩
  · exact .inl hn
  · refine .inr ⟨g, cap, cur, rfl, hb, ?_, rest⟩
    rw [hs.block g (Array.getElem?_eq_some_iff.1 hgg).1 (fun e => hne (by rw [e]; rfl)) (Ne.symm (own_ne hown hgg he))]
    exact hgg
end Go.Proofs.Ytfcihdkflnpcgaa.Lw
