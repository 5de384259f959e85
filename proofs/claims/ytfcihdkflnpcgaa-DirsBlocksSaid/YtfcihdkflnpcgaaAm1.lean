/- An abstract machine for walks: data, states, what a state says of a frame and a world. No program is named. -/
import Derived.Test.YtfcihdkflnpcgaaLib
namespace Go.Proofs.Ytfcihdkflnpcgaa.Am
open Go.RowKit Lw

/-- What one cell of read-only data holds. -/
inductive DC where
  | c (v : Value)
  | sl (sz n : Nat) (cell : Nat → Nat → DC)
  | any

def DC.rel (w : World) (S : Nat → Prop) : DC → Value → Prop
  | .c v, u => u = v ∧ v.oneCell' = true
  | .any, u => u.oneCell' = true
  | .sl sz n cell, u => ∃ A c, u = .slice A n c ∧ n ≤ c ∧ c ≤ maxLen ∧ (A = none → c = 0) ∧
      (0 < n → ∃ b off, A = some ⟨b, off, none⟩ ∧ S b ∧ b < w.heap.size ∧
        ∀ i j, i < n → j < sz → ∃ u', w.cell? ⟨b, off + i * sz + j, none⟩ = some u' ∧ (cell i j).rel w S u')

/-- From (w, S) to (w', S'): the blocks of S are as they were. -/
structure Gr (w w' : World) (S S' : Nat → Prop) : Prop where
  size : w.heap.size ≤ w'.heap.size
  blk : ∀ b, S b → b < w.heap.size → w'.heap[b]? = w.heap[b]?
  sub : ∀ b, S b → S' b
theorem Gr.refl (w : World) (S : Nat → Prop) : Gr w w S S := ⟨Nat.le_refl _, fun _ _ _ => rfl, fun _ h => h⟩
theorem Gr.cell {w w' : World} {S S' : Nat → Prop} (g : Gr w w' S S') {b o : Nat} (hs : S b) (hb : b < w.heap.size) : w'.cell? ⟨b, o, none⟩ = w.cell? ⟨b, o, none⟩ :=
  World.cell?_of_block (g.blk b hs hb)

theorem DC.mono {w w' : World} {S S' : Nat → Prop} (g : Gr w w' S S') : ∀ {d : DC} {u : Value}, d.rel w S u → d.rel w' S' u := by
  intro d
  induction d with
  | c v => intro u h; exact h
  | any => intro u h; exact h
  | sl sz n cell ih =>
    rintro u ⟨A, c, rfl, h1, h2, h3, h4⟩
    refine ⟨A, c, rfl, h1, h2, h3, fun hn => ?_⟩
    obtain ⟨b, off, rfl, hs, hb, hc⟩ := h4 hn
    refine ⟨b, off, rfl, g.sub _ hs, Nat.lt_of_lt_of_le hb g.size, fun i j hi hj => ?_⟩
    obtain ⟨u', e, r⟩ := hc i j hi hj
    exact ⟨u', by rw [g.cell hs hb]; exact e, ih i j r⟩
theorem DC.one {w : World} {S : Nat → Prop} : ∀ {d : DC} {u : Value}, d.rel w S u → u.oneCell' = true := by
  intro d
  cases d with
  | c v => rintro u ⟨rfl, h⟩; exact h
  | any => exact id
  | sl sz n cell => rintro u ⟨A, c, rfl, _⟩; rfl

def All2 {α β : Type} (R : α → β → Prop) : List α → List β → Prop
  | [], [] => True
  | a :: as, b :: bs => R a b ∧ All2 R as bs
  | _, _ => False
section
variable {α β : Type} {R R' : α → β → Prop}
theorem All2.imp : ∀ {as : List α} {bs : List β}, (∀ a b, a ∈ as → R a b → R' a b) → All2 R as bs → All2 R' as bs
  | [], [], _, _ => trivial
  | _ :: _, _ :: _, h, ⟨h1, h2⟩ => ⟨h _ _ (List.mem_cons_self ..) h1, All2.imp (fun a b hm => h a b (List.mem_cons_of_mem _ hm)) h2⟩
  | [], _ :: _, _, h => h.elim
  | _ :: _, [], _, h => h.elim
theorem All2.length : ∀ {as : List α} {bs : List β}, All2 R as bs → as.length = bs.length
  | [], [], _ => rfl
  | _ :: _, _ :: _, ⟨_, h2⟩ => by simp [All2.length h2]
  | [], _ :: _, h => h.elim
  | _ :: _, [], h => h.elim
theorem All2.get : ∀ {as : List α} {bs : List β} {i : Nat} {a : α}, All2 R as bs → as[i]? = some a → ∃ b, bs[i]? = some b ∧ R a b
  | a :: as, b :: bs, 0, x, ⟨h1, _⟩, e => ⟨b, rfl, by cases e; exact h1⟩
  | a :: as, b :: bs, i + 1, x, ⟨_, h2⟩, e => All2.get (as := as) (bs := bs) (i := i) h2 e
  | [], [], _, _, _, e => by cases e
  | [], _ :: _, _, _, h, _ => h.elim
  | _ :: _, [], _, _, h, _ => h.elim
theorem All2.set : ∀ {as : List α} {bs : List β} {i : Nat} {a : α} {b : β}, All2 R as bs → R a b → All2 R (as.set i a) (bs.set i b)
  | [], [], _, _, _, _, _ => trivial
  | _ :: _, _ :: _, 0, _, _, ⟨_, h2⟩, h => ⟨h, h2⟩
  | _ :: as, _ :: bs, _ + 1, _, _, ⟨h1, h2⟩, h => ⟨h1, All2.set (as := as) (bs := bs) h2 h⟩
  | [], _ :: _, _, _, _, h, _ => h.elim
  | _ :: _, [], _, _, _, h, _ => h.elim
theorem All2.take : ∀ {as : List α} {bs : List β} (n : Nat), All2 R as bs → All2 R (as.take n) (bs.take n)
  | _, _, 0, _ => trivial
  | [], [], _ + 1, _ => trivial
  | _ :: as, _ :: bs, n + 1, ⟨h1, h2⟩ => ⟨h1, All2.take (as := as) (bs := bs) n h2⟩
  | [], _ :: _, _ + 1, h => h.elim
  | _ :: _, [], _ + 1, h => h.elim
theorem All2.drop : ∀ {as : List α} {bs : List β} (n : Nat), All2 R as bs → All2 R (as.drop n) (bs.drop n)
  | _, _, 0, h => h
  | [], [], _ + 1, _ => trivial
  | _ :: as, _ :: bs, n + 1, ⟨_, h2⟩ => All2.drop (as := as) (bs := bs) n h2
  | [], _ :: _, _ + 1, h => h.elim
  | _ :: _, [], _ + 1, h => h.elim
theorem All2.append : ∀ {as : List α} {bs : List β} {cs : List α} {ds : List β}, All2 R as bs → All2 R cs ds → All2 R (as ++ cs) (bs ++ ds)
  | [], [], _, _, _, h => h
  | _ :: as, _ :: bs, _, _, ⟨h1, h2⟩, h => ⟨h1, All2.append (as := as) (bs := bs) h2 h⟩
  | [], _ :: _, _, _, h, _ => h.elim
  | _ :: _, [], _, _, h, _ => h.elim
theorem All2.mem : ∀ {as : List α} {bs : List β} {b : β}, All2 R as bs → b ∈ bs → ∃ a ∈ as, R a b
  | _ :: as, _ :: bs, b, ⟨h1, h2⟩, h => by
    rcases List.mem_cons.1 h with rfl | h
    · exact ⟨_, List.mem_cons_self .., h1⟩
    · obtain ⟨a, ha, r⟩ := All2.mem (as := as) (bs := bs) h2 h
      exact ⟨a, List.mem_cons_of_mem _ ha, r⟩
  | [], [], _, _, h => by cases h
  | [], _ :: _, _, h, _ => h.elim
  | _ :: _, [], _, h, _ => h.elim
end

/-- What one cell, or a slot of one cell, holds. -/
inductive A1 where
  | c (v : Value)
  | sb (b : Bool)
  | ro (sz n : Nat) (cell : Nat → Nat → DC)
  | own (id : Nat)
  | ptr (id off : Nat)
  | eptr (sz : Nat) (cell : Nat → Nat → DC) (k off : Nat)
  | optr (id sz k off : Nat)
  | clo (f : FuncId) (caps : List (Nat × Nat))
  | any
  | vw (id sz off n cp : Nat)

def ptrRel (ν : Nat → Value) (p : Nat × Nat) (u : Value) : Prop := ∃ b, ν p.1 = .pointer (some ⟨b, 0, none⟩) ∧ u = .pointer (some ⟨b, p.2, none⟩)

def A1.rel (w : World) (S : Nat → Prop) (ν : Nat → Value) : A1 → Value → Prop
  | .c v, u => u = v ∧ v.oneCell' = true
  | .sb b, u => u = .bool b
  | .ro sz n cell, u => (DC.sl sz n cell).rel w S u
  | .own id, u => u = ν id ∧ (ν id).oneCell' = true
  | .ptr id off, u => ptrRel ν (id, off) u
  | .eptr sz cell k off, u => ∃ b o, u = .pointer (some ⟨b, o + off, none⟩) ∧ S b ∧ b < w.heap.size ∧ ∀ j, j < sz → ∃ u', w.cell? ⟨b, o + j, none⟩ = some u' ∧ (cell k j).rel w S u'
  | .optr id sz k off, u => ∃ g n cp, ν id = .slice (some ⟨g, 0, none⟩) n cp ∧ u = .pointer (some ⟨g, k * sz + off, none⟩)
  | .clo f caps, u => ∃ us, u = .func (.func f) #[] us.toArray ∧ All2 (ptrRel ν) caps us
  | .any, u => u.oneCell' = true
  | .vw id sz off n k, u => ∃ g N q o, ν id = .slice (some ⟨g, 0, none⟩) N q ∧ u = .slice (some ⟨g, o, none⟩) n k ∧ n ≤ k ∧ off + k = q ∧ (0 < k → o = off * sz)

def A1.lt (m : Nat) : A1 → Prop
  | .own id => id < m
  | .ptr id _ => id < m
  | .optr id _ _ _ => id < m
  | .clo _ caps => ∀ p ∈ caps, p.1 < m
  | .vw id _ _ _ _ => id < m
  | _ => True

theorem A1.mono {w w' : World} {S S' : Nat → Prop} {ν ν' : Nat → Value} {m : Nat} (g : Gr w w' S S') (hν : ∀ id, id < m → ν' id = ν id) {a : A1} {u : Value} (ha : a.lt m) (h : a.rel w S ν u) : a.rel w' S' ν' u := by
  cases a with
  | c v => exact h
  | sb b => exact h
  | ro sz n cell => exact DC.mono g h
  | own id => obtain ⟨h1, h2⟩ := h; exact ⟨by rw [hν _ ha]; exact h1, by rw [hν _ ha]; exact h2⟩
  | ptr id off => obtain ⟨b, h1, h2⟩ := h; exact ⟨b, by rw [← h1]; exact hν _ ha, h2⟩
  | eptr sz cell k off =>
    obtain ⟨b, o, rfl, hs, hb, hc⟩ := h
    refine ⟨b, o, rfl, g.sub _ hs, Nat.lt_of_lt_of_le hb g.size, fun j hj => ?_⟩
    obtain ⟨u', e, r⟩ := hc j hj
    exact ⟨u', by rw [g.cell hs hb]; exact e, DC.mono g r⟩
  | optr id sz k off => obtain ⟨b, n, cp, h1, h2⟩ := h; exact ⟨b, n, cp, by rw [← h1]; exact hν _ ha, h2⟩
  | clo f caps =>
    obtain ⟨us, rfl, h2⟩ := h
    refine ⟨us, rfl, h2.imp fun p u hp => ?_⟩
    rintro ⟨b, h3, h4⟩
    exact ⟨b, by rw [hν _ (ha p hp)]; exact h3, h4⟩
  | any => exact h
  | vw id sz off n c => obtain ⟨b, N, q, o, h1, h2⟩ := h; exact ⟨b, N, q, o, by rw [← h1]; exact hν _ ha, h2⟩
theorem A1.one {w : World} {S : Nat → Prop} {ν : Nat → Value} {a : A1} {u : Value} (h : a.rel w S ν u) : u.oneCell' = true := by
  cases a with
  | c v => obtain ⟨rfl, h⟩ := h; exact h
  | sb b => obtain rfl := h; rfl
  | ro sz n cell => exact DC.one h
  | own id => obtain ⟨rfl, h⟩ := h; exact h
  | ptr id off => obtain ⟨b, _, rfl⟩ := h; rfl
  | eptr sz cell k off => obtain ⟨b, o, rfl, _⟩ := h; rfl
  | optr id sz k off => obtain ⟨b, n, cp, _, rfl⟩ := h; rfl
  | clo f caps => obtain ⟨us, rfl, _⟩ := h; rfl
  | any => exact h
  | vw id sz off n c => obtain ⟨b, N, q, o, _, rfl, _⟩ := h; rfl
theorem A1.lt_mono {m m' : Nat} (hm : m ≤ m') {a : A1} (h : a.lt m) : a.lt m' := by
  cases a <;> first | exact trivial | exact Nat.lt_of_lt_of_le h hm | exact fun p hp => Nat.lt_of_lt_of_le (h p hp) hm

def DC.toA : DC → A1
  | .c v => .c v
  | .sl sz n cell => .ro sz n cell
  | .any => .any
theorem DC.toA_rel {w : World} {S : Nat → Prop} {ν : Nat → Value} {d : DC} {u : Value} (h : d.rel w S u) : d.toA.rel w S ν u := by cases d <;> exact h
theorem DC.toA_lt (m : Nat) (d : DC) : d.toA.lt m := by cases d <;> exact trivial

/-- What a slot holds: one cell, a struct, several results. -/
inductive AV where
  | o (a : A1)
  | g (as : List A1)
  | t (xs : List (Sum A1 (List A1)))

def aggRel (w : World) (S : Nat → Prop) (ν : Nat → Value) (as : List A1) (u : Value) : Prop := ∃ us, u = .agg us.toArray ∧ All2 (A1.rel w S ν) as us
def sumRel (w : World) (S : Nat → Prop) (ν : Nat → Value) : Sum A1 (List A1) → Value → Prop
  | .inl a, u => a.rel w S ν u
  | .inr as, u => aggRel w S ν as u
def AV.rel (w : World) (S : Nat → Prop) (ν : Nat → Value) : AV → Value → Prop
  | .o a, u => a.rel w S ν u
  | .g as, u => aggRel w S ν as u
  | .t xs, u => ∃ us, u = .tuple us.toArray ∧ All2 (sumRel w S ν) xs us
def sumLt (m : Nat) : Sum A1 (List A1) → Prop
  | .inl a => a.lt m
  | .inr as => ∀ a ∈ as, a.lt m
def AV.lt (m : Nat) : AV → Prop
  | .o a => a.lt m
  | .g as => ∀ a ∈ as, a.lt m
  | .t xs => ∀ x ∈ xs, sumLt m x
section
variable {w w' : World} {S S' : Nat → Prop} {ν ν' : Nat → Value} {m : Nat}
theorem aggRel.mono (g : Gr w w' S S') (hν : ∀ id, id < m → ν' id = ν id) {as : List A1} {u : Value} (ha : ∀ a ∈ as, a.lt m) (h : aggRel w S ν as u) : aggRel w' S' ν' as u := by
  obtain ⟨us, rfl, h⟩ := h
  exact ⟨us, rfl, h.imp fun a b hm => A1.mono g hν (ha a hm)⟩
theorem sumRel.mono (g : Gr w w' S S') (hν : ∀ id, id < m → ν' id = ν id) {x : Sum A1 (List A1)} {u : Value} (ha : sumLt m x) (h : sumRel w S ν x u) : sumRel w' S' ν' x u := by
  cases x with
  | inl a => exact A1.mono g hν ha h
  | inr as => exact aggRel.mono g hν ha h
theorem AV.mono (g : Gr w w' S S') (hν : ∀ id, id < m → ν' id = ν id) {x : AV} {u : Value} (ha : x.lt m) (h : x.rel w S ν u) : x.rel w' S' ν' u := by
  cases x with
  | o a => exact A1.mono g hν ha h
  | g as => exact aggRel.mono g hν ha h
  | t xs =>
    obtain ⟨us, rfl, h⟩ := h
    exact ⟨us, rfl, h.imp fun a b hm => sumRel.mono g hν (ha a hm)⟩
theorem sumLt_mono {m m' : Nat} (hm : m ≤ m') {x : Sum A1 (List A1)} (h : sumLt m x) : sumLt m' x := by
  cases x with
  | inl a => exact A1.lt_mono hm h
  | inr as => exact fun a ha => A1.lt_mono hm (h a ha)
theorem AV.lt_mono {m m' : Nat} (hm : m ≤ m') {x : AV} (h : x.lt m) : x.lt m' := by
  cases x with
  | o a => exact A1.lt_mono hm h
  | g as => exact fun a ha => A1.lt_mono hm (h a ha)
  | t xs => exact fun a ha => sumLt_mono hm (h a ha)
end

/-- The rows of a slice. -/
structure Ct where
  n : Nat
  cell : Nat → Nat → DC

inductive Chunk where
  | box (id T : Nat) (cells : List A1)
  | own (id E sz : Nat) (ct : Ct)
  | obj (id : Nat) (ob : Obj)
  | nest (id E : Nat) (ct : Ct) (j : Nat)

/-- The object that a value names. -/
def objBlk : Value → Option Nat
  | .pointer (some a) => some a.block
  | .map r => r
  | _ => none

def Chunk.id : Chunk → Nat
  | .box id _ _ => id
  | .own id _ _ _ => id
  | .obj id _ => id
  | .nest id _ _ _ => id
def Chunk.blk (ν : Nat → Value) : Chunk → Option Nat
  | .box id _ _ => match ν id with | .pointer (some a) => some a.block | _ => none
  | .own id _ _ _ => (ν id).ownBlock
  | .obj id _ => objBlk (ν id)
  | .nest id _ _ _ => (ν id).ownBlock
def Chunk.lt (m : Nat) : Chunk → Prop
  | .box id _ cells => id < m ∧ ∀ a ∈ cells, a.lt m
  | .own id _ _ _ => id < m
  | .obj id _ => id < m
  | .nest id _ _ j => id < m ∧ j < m
def isMapO : Obj → Bool
  | .map _ _ => true
  | _ => false
def Chunk.holds (w : World) (S : Nat → Prop) (ν : Nat → Value) : Chunk → Prop
  | .box id T cells => ∃ b us, ν id = .pointer (some ⟨b, 0, none⟩) ∧ w.heap[b]? = some (.cells us.toArray T (0, 0)) ∧ All2 (A1.rel w S ν) cells us
  | .own id E sz ct => ∃ xs, w.ownsRow 0 E sz (ν id) ct.n xs ∧ ∀ i j, i < ct.n → j < sz → ∃ u, xs[i * sz + j]? = some u ∧ (ct.cell i j).rel w S u
  | .obj id ob => ∃ b, (ν id = .pointer (some ⟨b, 0, none⟩) ∨ ν id = .map (some b)) ∧ w.heap[b]? = some ob ∧ (isMapO ob = true → ν id = .map (some b))
  | .nest id E ct j => ∃ xs, w.ownsRow 0 E 1 (ν id) (ct.n + 1) xs ∧ (∀ i, i < ct.n → ∃ u, xs[i]? = some u ∧ (ct.cell i 0).rel w S u) ∧ xs[ct.n]? = some (ν j) ∧ (ν j).oneCell' = true
def blks (ν : Nat → Value) (l : List Chunk) : List Nat := l.filterMap (Chunk.blk ν)
theorem blks_append (ν : Nat → Value) (l m : List Chunk) : blks ν (l ++ m) = blks ν l ++ blks ν m := List.filterMap_append
theorem blks_perm {ν : Nat → Value} {l m : List Chunk} (h : l.Perm m) : (blks ν l).Perm (blks ν m) := h.filterMap _
theorem blks_sub {ν : Nat → Value} {l m : List Chunk} (h : l.Sublist m) : (blks ν l).Sublist (blks ν m) := h.filterMap _

section
variable {w w' : World} {S S' : Nat → Prop} {ν ν' : Nat → Value} {m : Nat}
theorem Chunk.id_lt {ch : Chunk} (h : ch.lt m) : ch.id < m := by
  cases ch with
  | box id T cells => exact h.1
  | own id E sz ct => exact h
  | obj id ob => exact h
  | nest id E ct j => exact h.1
theorem Chunk.lt_mono {m m' : Nat} (hm : m ≤ m') {x : Chunk} (h : x.lt m) : x.lt m' := by
  cases x with
  | box id T cells => exact ⟨Nat.lt_of_lt_of_le h.1 hm, fun a ha => A1.lt_mono hm (h.2 a ha)⟩
  | own id E sz ct => exact Nat.lt_of_lt_of_le h hm
  | obj id ob => exact Nat.lt_of_lt_of_le h hm
  | nest id E ct j => exact ⟨Nat.lt_of_lt_of_le h.1 hm, Nat.lt_of_lt_of_le h.2 hm⟩
theorem Chunk.blk_eq (hν : ∀ id, id < m → ν' id = ν id) {ch : Chunk} (h : ch.lt m) : ch.blk ν' = ch.blk ν := by
  cases ch with
  | box id T cells => simp only [Chunk.blk]; rw [hν _ h.1]
  | own id E sz ct => simp only [Chunk.blk]; rw [hν _ h]
  | obj id ob => simp only [Chunk.blk]; rw [hν _ h]
  | nest id E ct j => simp only [Chunk.blk]; rw [hν _ h.1]
theorem blks_eq (hν : ∀ id, id < m → ν' id = ν id) : ∀ {l : List Chunk}, (∀ ch ∈ l, ch.lt m) → blks ν' l = blks ν l
  | [], _ => rfl
  | ch :: l, h => by
    simp only [blks, List.filterMap_cons]
    rw [Chunk.blk_eq hν (h ch (List.mem_cons_self ..))]
    have := blks_eq hν (l := l) fun c hc => h c (List.mem_cons_of_mem _ hc)
    simp only [blks] at this
    rw [this]
theorem mem_blks {l : List Chunk} {b : Nat} : b ∈ blks ν l ↔ ∃ ch ∈ l, ch.blk ν = some b := by simp [blks, List.mem_filterMap]
theorem Chunk.mono (g : Gr w w' S S') (hν : ∀ id, id < m → ν' id = ν id) {ch : Chunk} (hl : ch.lt m) (hb : ∀ b, ch.blk ν = some b → w'.heap[b]? = w.heap[b]?) (h : ch.holds w S ν) : ch.holds w' S' ν' := by
  cases ch with
  | box id T cells =>
    obtain ⟨b, us, h1, h2, h3⟩ := h
    refine ⟨b, us, by rw [hν _ hl.1]; exact h1, ?_, h3.imp fun a u hm => A1.mono g hν (hl.2 a hm)⟩
    rw [hb b (by simp [Chunk.blk, h1])]; exact h2
  | obj id ob =>
    obtain ⟨b, h1, h2, h3⟩ := h
    have e : ν' id = ν id := hν _ hl
    refine ⟨b, by rw [e]; exact h1, ?_, by rw [e]; exact h3⟩
    rw [hb b (by rcases h1 with h1 | h1 <;> simp [Chunk.blk, h1, objBlk])]; exact h2
  | own id E sz ct =>
    obtain ⟨xs, h1, h2⟩ := h
    refine ⟨xs, ?_, fun i j hi hj => ?_⟩
    · have e : ν' id = ν id := hν _ hl
      rw [e]
      refine ⟨h1.1, ?_⟩
      rcases h1.2 with hn | ⟨q, cap, cur, hv, hq, hg, rest⟩
      · exact .inl hn
      · exact .inr ⟨q, cap, cur, hv, hq, by rw [hb q (by simp [Chunk.blk, hv, Value.ownBlock])]; exact hg, rest⟩
    · obtain ⟨u, e, r⟩ := h2 i j hi hj
      exact ⟨u, e, DC.mono g r⟩
  | nest id E ct j =>
    obtain ⟨xs, h1, h2, h4, h5⟩ := h
    have e : ν' id = ν id := hν _ hl.1
    have e' : ν' j = ν j := hν _ hl.2
    refine ⟨xs, ?_, fun i hi => ?_, by rw [e']; exact h4, by rw [e']; exact h5⟩
    · rw [e]
      refine ⟨h1.1, ?_⟩
      rcases h1.2 with hn | ⟨q, cap, cur, hv, hq, hg, rest⟩
      · exact .inl hn
      · exact .inr ⟨q, cap, cur, hv, hq, by rw [hb q (by simp [Chunk.blk, hv, Value.ownBlock])]; exact hg, rest⟩
    · obtain ⟨u, e, r⟩ := h2 i hi
      exact ⟨u, e, DC.mono g r⟩
end

abbrev Env := List (Nat × AV)
structure AS where
  env : Env
  hp : List Chunk
  nid : Nat

/-- What does not change in a walk: the number of slots, the world at the call, the blocks that the call may write, those that it may read for ever; what the first m names stand for. -/
structure Cx where
  N : Nat
  w0 : World
  B0 : Nat → Prop
  S0 : Nat → Prop
  ν0 : Nat → Value
  m : Nat
  mks : Bool

structure Fr (B0 : Nat → Prop) (w w' : World) : Prop where
  os : w'.os = w.os
  tape : w'.tape = w.tape
  output : w'.output = w.output
  size : w.heap.size ≤ w'.heap.size
  block : ∀ k, k < w.heap.size → ¬ B0 k → w'.heap[k]? = w.heap[k]?
theorem Fr.refl (B0 : Nat → Prop) (w : World) : Fr B0 w w := ⟨rfl, rfl, rfl, Nat.le_refl _, fun _ _ _ => rfl⟩

/-- A mark among the deferred calls: its block lies shut off from all else, and holds no call. -/
def DOk (X : Cx) (S : Nat → Prop) (ν : Nat → Value) (hp : List Chunk) (w : World) (d : Deferred) : Prop :=
  ∃ D, d = { target := .collected D, args := #[] } ∧ w.heap[D]? = some (.deferred (some [])) ∧ X.w0.heap.size ≤ D ∧ ¬ S D ∧ D ∉ blks ν hp

structure Sat (X : Cx) (S : Nat → Prop) (ν : Nat → Value) (st : AS) (a : Act) (w : World) : Prop where
  defers : (∀ d ∈ a.defers, DOk X S ν st.hp w d) ∧ a.defers.Nodup ∧ (X.mks = false → a.defers = [])
  size : a.tmps.size = X.N
  env : ∀ p ∈ st.env, p.1 < X.N ∧ p.2.rel w S ν (a.tmps.getD p.1 undef)
  hp : ∀ ch ∈ st.hp, ch.holds w S ν
  nd : (blks ν st.hp).Nodup
  blk : ∀ b ∈ blks ν st.hp, b < w.heap.size ∧ ¬ S b ∧ (X.w0.heap.size ≤ b ∨ X.B0 b)
  imm : ∀ b, S b → b < w.heap.size ∧ (X.S0 b ∨ X.w0.heap.size ≤ b ∨ X.B0 b)
  imm0 : ∀ b, X.S0 b → S b
  frame : Fr X.B0 X.w0 w
  elt : ∀ p ∈ st.env, p.2.lt st.nid
  hlt : ∀ ch ∈ st.hp, ch.lt st.nid
  fix : ∀ i, i < X.m → ν i = X.ν0 i
  ge : X.m ≤ st.nid

theorem Sat.weak {X : Cx} {S : Nat → Prop} {ν : Nat → Value} {st st' : AS} {a : Act} {w : World} (h : Sat X S ν st a w) (he : ∀ p ∈ st'.env, p ∈ st.env) (hh : st'.hp.Sublist st.hp) (hn : st'.nid = st.nid) : Sat X S ν st' a w :=
  ⟨⟨fun d hd => let ⟨D, h1, h2, h3, h4, h5⟩ := h.defers.1 d hd; ⟨D, h1, h2, h3, h4, fun hm => h5 ((blks_sub hh).subset hm)⟩, h.defers.2⟩, h.size, fun p hp => h.env p (he p hp), fun c hc => h.hp c (hh.subset hc), h.nd.sublist (blks_sub hh), fun b hb => h.blk b ((blks_sub hh).subset hb), h.imm, h.imm0, h.frame,
    fun p hp => by rw [hn]; exact h.elt p (he p hp), fun c hc => by rw [hn]; exact h.hlt c (hh.subset hc), h.fix, by rw [hn]; exact h.ge⟩

/-- The world goes on: the chunks 'takes' become the chunks 'gives'; all other blocks are as they were. -/
theorem Sat.swap {X : Cx} {S S' : Nat → Prop} {ν ν' : Nat → Value} {st : AS} {a : Act} {w w' : World} {takes gives rest : List Chunk} {nid : Nat} (h : Sat X S ν st a w)
    (hp : st.hp.Perm (takes ++ rest)) (hf : Fr (fun b => b ∈ blks ν takes) w w') (hν : ∀ id, id < st.nid → ν' id = ν id)
    (hS : ∀ b, S b → S' b) (hS' : ∀ b, S' b → b < w'.heap.size ∧ (S b ∨ w.heap.size ≤ b ∨ b ∈ blks ν takes))
    (hg : ∀ ch ∈ gives, ch.holds w' S' ν') (hgn : (blks ν' gives).Nodup) (hgb : ∀ b ∈ blks ν' gives, b < w'.heap.size ∧ ¬ S' b ∧ (b ∈ blks ν takes ∨ w.heap.size ≤ b))
    (hgl : ∀ ch ∈ gives, ch.lt nid) (hn : st.nid ≤ nid) : Sat X S' ν' ⟨st.env, gives ++ rest, nid⟩ a w' := by
  have hmr : ∀ ch ∈ rest, ch ∈ st.hp := fun ch hc => hp.symm.subset (List.mem_append_right _ hc)
  have hnd : (blks ν takes ++ blks ν rest).Nodup := by
    have := (blks_perm (ν := ν) hp).nodup_iff.1 h.nd
    rw [blks_append] at this; exact this
  have hdj : ∀ b, b ∈ blks ν takes → b ∈ blks ν rest → False := fun b h1 h2 => (List.nodup_append.1 hnd).2.2 b h1 b h2 rfl
  have hmt : ∀ b ∈ blks ν takes, b ∈ blks ν st.hp := fun b hb => by
    obtain ⟨ch, hc, e⟩ := mem_blks.1 hb
    exact mem_blks.2 ⟨ch, hp.symm.subset (List.mem_append_left _ hc), e⟩
  have hmr' : ∀ b ∈ blks ν rest, b ∈ blks ν st.hp := fun b hb => by
    obtain ⟨ch, hc, e⟩ := mem_blks.1 hb
    exact mem_blks.2 ⟨ch, hmr ch hc, e⟩
  have gr : Gr w w' S S' := ⟨hf.size, fun b hs hb => hf.block b hb fun hm => (h.blk b (hmt b hm)).2.1 hs, hS⟩
  have hrb : blks ν' rest = blks ν rest := blks_eq hν fun ch hc => h.hlt ch (hmr ch hc)
  refine ⟨⟨fun d hd => ?_, h.defers.2⟩, h.size, fun p hp => ⟨(h.env p hp).1, AV.mono gr hν (h.elt p hp) (h.env p hp).2⟩, fun ch hc => ?_, ?_, fun b hb => ?_, fun b hb => ?_, fun b hb => hS b (h.imm0 b hb), ?_, fun p hp => AV.lt_mono hn (h.elt p hp), fun ch hc => ?_, fun i hi => (hν i (Nat.lt_of_lt_of_le hi h.ge)).trans (h.fix i hi), Nat.le_trans h.ge hn⟩
  · obtain ⟨D, h1, h2, h3, h4, h5⟩ := h.defers.1 d hd
    have hD : D < w.heap.size := (Array.getElem?_eq_some_iff.1 h2).1
    refine ⟨D, h1, (hf.block D hD fun hm => h5 (hmt D hm)).trans h2, h3, fun hs => ?_, fun hm => ?_⟩
    · rcases (hS' D hs).2 with h6 | h6 | h6
      · exact h4 h6
      · omega
      · exact h5 (hmt D h6)
    · rw [show (AS.mk st.env (gives ++ rest) nid).hp = gives ++ rest from rfl, blks_append] at hm
      rcases List.mem_append.1 hm with hm | hm
      · rcases (hgb D hm).2.2 with h6 | h6
        · exact h5 (hmt D h6)
        · omega
      · rw [hrb] at hm; exact h5 (hmr' D hm)
  · rcases List.mem_append.1 hc with hc | hc
    · exact hg ch hc
    · refine Chunk.mono gr hν (h.hlt ch (hmr ch hc)) (fun b hb => ?_) (h.hp ch (hmr ch hc))
      have hbr : b ∈ blks ν rest := mem_blks.2 ⟨ch, hc, hb⟩
      exact hf.block b (h.blk b (hmr' b hbr)).1 fun hm => hdj b hm hbr
  · show (blks ν' (gives ++ rest)).Nodup
    rw [blks_append]
    refine List.nodup_append.2 ⟨hgn, by rw [hrb]; exact (List.nodup_append.1 hnd).2.1, fun b hb c hc e => ?_⟩
    subst e
    rw [hrb] at hc
    rcases (hgb b hb).2.2 with h1 | h1
    · exact hdj b h1 hc
    · have := (h.blk b (hmr' b hc)).1; omega
  · rw [blks_append] at hb
    rcases List.mem_append.1 hb with hb | hb
    · obtain ⟨h1, h2, h3⟩ := hgb b hb
      refine ⟨h1, h2, ?_⟩
      rcases h3 with h3 | h3
      · exact (h.blk b (hmt b h3)).2.2
      · exact .inl (Nat.le_trans h.frame.size h3)
    · rw [hrb] at hb
      obtain ⟨h1, h2, h3⟩ := h.blk b (hmr' b hb)
      refine ⟨Nat.lt_of_lt_of_le h1 hf.size, fun hs => ?_, h3⟩
      rcases (hS' b hs).2 with h4 | h4 | h4
      · exact h2 h4
      · omega
      · exact hdj b h4 hb
  · obtain ⟨h1, h2⟩ := hS' b hb
    refine ⟨h1, ?_⟩
    rcases h2 with h2 | h2 | h2
    · exact (h.imm b h2).2
    · exact .inr (.inl (Nat.le_trans h.frame.size h2))
    · exact .inr ((h.blk b (hmt b h2)).2.2)
  · refine ⟨hf.os.trans h.frame.os, hf.tape.trans h.frame.tape, hf.output.trans h.frame.output, Nat.le_trans h.frame.size hf.size, fun k hk hB => ?_⟩
    rw [hf.block k (Nat.lt_of_lt_of_le hk h.frame.size), h.frame.block k hk hB]
    intro hm
    rcases (h.blk k (hmt k hm)).2.2 with h1 | h1
    · omega
    · exact hB h1
  · rcases List.mem_append.1 hc with hc | hc
    · exact hgl ch hc
    · exact Chunk.lt_mono hn (h.hlt ch (hmr ch hc))

def look : Env → Nat → Option AV
  | [], _ => none
  | (k, v) :: e, t => if Nat.beq k t then some v else look e t
def del : Env → Nat → Env
  | [], _ => []
  | (k, v) :: e, t => if Nat.beq k t then del e t else (k, v) :: del e t
theorem look_mem : ∀ {e : Env} {t : Nat} {v : AV}, look e t = some v → (t, v) ∈ e
  | (k, u) :: e, t, v, h => by
    simp only [look] at h
    split at h
    · rename_i hk
      have := Nat.eq_of_beq_eq_true hk
      subst this
      cases h
      exact List.mem_cons_self ..
    · exact List.mem_cons_of_mem _ (look_mem h)
theorem del_mem : ∀ {e : Env} {t : Nat} {p : Nat × AV}, p ∈ del e t → p ∈ e ∧ p.1 ≠ t
  | (k, u) :: e, t, p, h => by
    simp only [del] at h
    split at h
    · exact ⟨List.mem_cons_of_mem _ (del_mem h).1, (del_mem h).2⟩
    · rename_i hk
      rcases List.mem_cons.1 h with rfl | h
      · exact ⟨List.mem_cons_self .., fun e => hk (by show Nat.beq k t = true; rw [show k = t from e]; exact Nat.beq_refl t)⟩
      · exact ⟨List.mem_cons_of_mem _ (del_mem h).1, (del_mem h).2⟩

/-- A slot is written. -/
def AS.put (st : AS) (dst : Option Tmp) (v : AV) : AS :=
  match dst with
  | some d => ⟨(d, v) :: del st.env d, st.hp, st.nid⟩
  | none => st
theorem Sat.put {X : Cx} {S : Nat → Prop} {ν : Nat → Value} {st : AS} {a : Act} {w : World} (h : Sat X S ν st a w) {dst : Option Tmp} (hd : ∀ d, dst = some d → d < X.N) {v : AV} {u : Value} (hv : v.rel w S ν u) (hl : v.lt st.nid) : Sat X S ν (st.put dst v) (a.put dst u) w := by
  cases dst with
  | none => exact h
  | some d =>
    have hdN := hd d rfl
    refine ⟨h.defers, by simp [Act.put, h.size], fun p hp => ?_, h.hp, h.nd, h.blk, h.imm, h.imm0, h.frame, fun p hp => ?_, h.hlt, h.fix, h.ge⟩
    · rcases List.mem_cons.1 hp with rfl | hp
      · refine ⟨hdN, ?_⟩
        have : (a.tmps.setIfInBounds d u).getD d undef = u := by
          have : d < a.tmps.size := by rw [h.size]; exact hdN
          simp [this]
        show v.rel w S ν ((a.tmps.setIfInBounds d u).getD d undef)
        rw [this]; exact hv
      · obtain ⟨h1, h2⟩ := del_mem hp
        refine ⟨(h.env p h1).1, ?_⟩
        have : (a.tmps.setIfInBounds d u).getD p.1 undef = a.tmps.getD p.1 undef := by
          simp [Array.getElem?_setIfInBounds_ne (Ne.symm h2)]
        show p.2.rel w S ν ((a.tmps.setIfInBounds d u).getD p.1 undef)
        rw [this]; exact (h.env p h1).2
    · rcases List.mem_cons.1 hp with rfl | hp
      · exact hl
      · exact h.elt p (del_mem hp).1
/-- What is said of a slot is said anew. -/
theorem Sat.reput {X : Cx} {S : Nat → Prop} {ν : Nat → Value} {st : AS} {a : Act} {w : World} (h : Sat X S ν st a w) {t : Nat} {v : AV} (ht : t < X.N) (hv : v.rel w S ν (a.tmps.getD t undef)) (hl : v.lt st.nid) : Sat X S ν (st.put (some t) v) a w := by
  refine ⟨h.defers, h.size, fun p hp => ?_, h.hp, h.nd, h.blk, h.imm, h.imm0, h.frame, fun p hp => ?_, h.hlt, h.fix, h.ge⟩
  · rcases List.mem_cons.1 hp with rfl | hp
    · exact ⟨ht, hv⟩
    · exact h.env p (del_mem hp).1
  · rcases List.mem_cons.1 hp with rfl | hp
    · exact hl
    · exact h.elt p (del_mem hp).1
end Go.Proofs.Ytfcihdkflnpcgaa.Am
