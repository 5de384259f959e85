/- The abstract machine: operations that leave the world as it is. No program is named. -/
import Derived.Test.YtfcihdkflnpcgaaAm2
import Derived.Deep.MidRow
import Derived.ChangeKeysEq
namespace Go.Proofs.Ytfcihdkflnpcgaa.Am
open Go.RowKit Lw

def cellsC : List Value → Option (List A1)
  | [] => some []
  | v :: vs => match v.oneCell', cellsC vs with
    | true, some r => some (.c v :: r)
    | _, _ => none
def aconst (v : Value) : Option AV :=
  match v with
  | .agg cs => match cellsC cs.toList with
    | some r => some (.g r)
    | none => none
  | .tuple _ => none
  | v => some (.o (.c v))
def aop (st : AS) : Operand → Option AV
  | .tmp t => look st.env t
  | .const v => aconst v
  | .func f => some (.o (.c (.func (.func f) #[] #[])))
  | .global _ => none
def findBox (Kf : Nat → Bool) : List Chunk → Nat → Option (Nat × List A1)
  | [], _ => none
  | .box i T cells :: r, id => match Nat.beq i id, Kf id with
    | true, true => some (T, cells)
    | true, false => none
    | false, _ => findBox Kf r id
  | .own _ _ _ _ :: r, id => findBox Kf r id
  | .obj _ _ :: r, id => findBox Kf r id
  | .nest _ _ _ _ :: r, id => findBox Kf r id
def findOwn (Kf : Nat → Bool) : List Chunk → Nat → Option (Nat × Nat × Ct)
  | [], _ => none
  | .own i E sz ct :: r, id => match Nat.beq i id, Kf id with
    | true, true => some (E, sz, ct)
    | true, false => none
    | false, _ => findOwn Kf r id
  | .box _ _ _ :: r, id => findOwn Kf r id
  | .obj _ _ :: r, id => findOwn Kf r id
  | .nest _ _ _ _ :: r, id => findOwn Kf r id
def nth : List A1 → Nat → Option A1
  | [], _ => none
  | a :: _, 0 => some a
  | _ :: as, i + 1 => nth as i
def dropN : List A1 → Nat → Option (List A1)
  | as, 0 => some as
  | [], _ + 1 => none
  | _ :: as, i + 1 => dropN as i
def takeN : List A1 → Nat → Option (List A1)
  | _, 0 => some []
  | [], _ + 1 => none
  | a :: as, i + 1 => match takeN as i with
    | some r => some (a :: r)
    | none => none
def part1 (as : List A1) (off : Nat) (t : TI) : Option AV :=
  match t.agg with
  | false => match nth as off with
    | some a => some (.o a)
    | none => none
  | true => match dropN as off with
    | some r => match takeN r t.size with
      | some q => some (.g q)
      | none => none
    | none => none
/-- A row's cells from off on. -/
def rowN (cell : Nat → DC) : Nat → Nat → List A1
  | _, 0 => []
  | off, n + 1 => (cell off).toA :: rowN cell (off + 1) n
def row1 (cell : Nat → DC) (off sz : Nat) (t : TI) : Option AV :=
  match Nat.ble (off + t.size) sz, t.agg with
  | true, false => match cell off with
    | .c v => some (.o (.c v))
    | .sl s n c => some (.o (.ro s n c))
    | .any => some (.o .any)
  | true, true => some (.g (rowN cell off t.size))
  | false, _ => none

def field? : List (Nat × Nat × Nat) → Nat → Option (Nat × Nat × Nat)
  | [], _ => none
  | a :: _, 0 => some a
  | _ :: as, i + 1 => field? as i

def abool : A1 → Option Bool
  | .sb b => some b
  | .c (.bool b) => some b
  | _ => none
def abin (tb : Bool) (op : BinOp) (x y : A1) : Option (A1 × List Prop) :=
  match x, y with
  | .c (.int k m), .c (.int k' n) => abinInt op k m k' n
  | .c (.string s), .c (.string t) => abinStr op s t
  | _, _ => match tb, op, abool x, abool y with
    | true, .eql, some a, some b => some (.sb (a == b), [])
    | true, .neq, some a, some b => some (.sb (!(a == b)), [])
    | _, _, _, _ => none
def isBool : Option TI → Bool
  | some ⟨_, .bool, _, _, _, _⟩ => true
  | _ => false

def capsOf (st : AS) : List Operand → Option (List (Nat × Nat))
  | [] => some []
  | x :: xs => match aop st x, capsOf st xs with
    | some (.o (.ptr id off)), some r => some ((id, off) :: r)
    | _, _ => none

def setN : List A1 → Nat → A1 → Option (List A1)
  | [], _, _ => none
  | _ :: as, 0, x => some (x :: as)
  | a :: as, i + 1, x => match setN as i x with
    | some r => some (a :: r)
    | none => none
def fieldZ : List A1 → List (Nat × Nat × Nat) → List (Nat × AV) → Option (List A1)
  | z, _, [] => some z
  | z, fs, (i, v) :: r => match field? fs i, v with
    | some (_, off, 1), .o a => match setN z off a with
      | some z' => fieldZ z' fs r
      | none => none
    | _, _ => none
def partsOf (st : AS) : List (Nat × Operand) → Option (List (Nat × AV))
  | [] => some []
  | (i, x) :: r => match aop st x, partsOf st r with
    | some v, some q => some ((i, v) :: q)
    | _, _ => none

def optInt (st : AS) (d : Int) : Option Operand → Option Int
  | none => some d
  | some x => match aop st x with
    | some (.o (.c (.int _ n))) => some n
    | _ => none

def roCut (lo : Option Operand) (sz : Nat) (l h : Int) (cell : Nat → Nat → DC) : A1 := match lo with
  | none => .ro sz h.toNat cell
  | some _ => .ro sz (h.toNat - l.toNat) (fun i j => cell (l.toNat + i) j)
theorem roCut_eq {st : AS} {lo : Option Operand} {sz : Nat} {l h : Int} {cell : Nat → Nat → DC} (hl : optInt st 0 lo = some l) : roCut lo sz l h cell = .ro sz (h.toNat - l.toNat) (fun i j => cell (l.toNat + i) j) := by
  cases lo with
  | none => cases hl; simp [roCut]
  | some x => rfl
def o1 (r : Option (A1 × List Prop)) : Option (AV × List Prop) := match r with
  | some (a, ps) => some (.o a, ps)
  | none => none

def apure0 (T : Tys) (Kf : Nat → Bool) (o : Oper) (st : AS) : Option (AV × List Prop) :=
  match o.op with
  | .move x | .assign x => match aop st x with
    | some v => some (v, [])
    | none => none
  | .pick c a b => match aop st c with
    | some (.o (.c (.bool true))) => match aop st a with
      | some v => some (v, [])
      | none => none
    | some (.o (.c (.bool false))) => match aop st b with
      | some v => some (v, [])
      | none => none
    | _ => none
  | .nilCheck x => match aop st x with
    | some (.o (.ptr id off)) => some (.o (.ptr id off), [])
    | _ => none
  | .binOp op t x y _ => match aop st x, aop st y with
    | some (.o a), some (.o b) => o1 (abin (isBool (tlook T t)) op a b)
    | _, _ => none
  | .unOp .not _ x => match aop st x with
    | some (.o (.c (.bool b))) => some (.o (.c (.bool (!b))), [])
    | some (.o (.sb b)) => some (.o (.sb (!b)), [])
    | _ => none
  | .unOp .neg _ x => match aop st x with
    | some (.o (.c (.int k n))) => match arith k (0 - n) with
      | (m, ps) => some (.o (.c (.int k m)), ps)
    | _ => none
  | .convert src dst x => match tlook T src, tlook T dst, aop st x with
    | some _, some ⟨_, .int k, _, _, _, _⟩, some (.o (.c (.int _ n))) => match arith k n with
      | (m, ps) => some (.o (.c (.int k m)), ps)
    | _, _, _ => none
  | .fieldAddr s x f => match tlook T s, aop st x with
    | some ⟨_, .struct fs, _, _, _, _⟩, some (.o (.ptr id off)) => match field? fs f with
      | some (_, fo, _) => some (.o (.ptr id (off + fo)), [])
      | none => none
    | some ⟨_, .struct fs, _, _, _, _⟩, some (.o (.eptr sz cell k off)) => match field? fs f with
      | some (_, fo, _) => some (.o (.eptr sz cell k (off + fo)), [])
      | none => none
    | some ⟨_, .struct fs, _, _, _, _⟩, some (.o (.optr id sz k off)) => match field? fs f with
      | some (_, fo, _) => some (.o (.optr id sz k (off + fo)), [])
      | none => none
    | _, _ => none
  | .field s x f => match tlook T s, aop st x with
    | some ⟨_, .struct fs, _, _, _, _⟩, some (.g as) => match field? fs f with
      | some (ft, fo, _) => match tlook T ft with
        | some t => match part1 as fo t with
          | some v => some (v, [])
          | none => none
        | none => none
      | none => none
    | _, _ => none
  | .indexAddr t x i => match tlook T t, aop st x, aop st i with
    | some ⟨_, .slice e, _, _, _, _⟩, some (.o (.ro sz n cell)), some (.o (.c (.int _ k))) => match tlook T e with
      | some te => match Nat.beq sz te.size with
        | true => some (.o (.eptr sz cell k.toNat 0), [0 ≤ k ∧ k < n])
        | false => none
      | none => none
    | some ⟨_, .slice e, _, _, _, _⟩, some (.o (.own id)), some (.o (.c (.int _ k))) => match tlook T e, findOwn Kf st.hp id with
      | some te, some (_, sz, ct) => match Nat.beq sz te.size with
        | true => some (.o (.optr id sz k.toNat 0), [0 ≤ k ∧ k < ct.n])
        | false => none
      | _, _ => none
    | _, _, _ => none
  | .index t x i => match tlook T t, aop st x, aop st i with
    | some ⟨_, .str, _, _, _, _⟩, some (.o (.c (.string s))), some (.o (.c (.int _ k))) => some (.o (.c (.int .u8 ((s.data.toList.getD k.toNat 0).toNat : Int))), [0 ≤ k ∧ k < s.size])
    | _, _, _ => none
  | .slice t x lo hi mx => match tlook T t, aop st x with
    | some ⟨_, .str, _, _, _, _⟩, some (.o (.c (.string s))) => match mx, optInt st 0 lo, optInt st s.size hi with
      | none, some l, some h => some (.o (.c (.string (s.extract l.toNat h.toNat))), [0 ≤ l ∧ l ≤ h ∧ h ≤ s.size])
      | _, _, _ => none
    | some ⟨_, .slice e, _, _, _, _⟩, some (.o (.ro sz n cell)) => match tlook T e, optInt st 0 lo, optInt st n hi with
      | some te, some l, some h => match Nat.beq sz te.size, mx with
        | true, none => some (.o (roCut lo sz l h cell), [0 ≤ l ∧ l ≤ h ∧ h ≤ n])
        | true, some m => match aop st m, hi with
          | some (.o (.c (.int _ m))), some _ => some (.o (roCut lo sz l h cell), [0 ≤ l ∧ l ≤ h ∧ h ≤ m ∧ m ≤ n])
          | _, _ => none
        | false, _ => none
      | _, _, _ => none
    | _, _ => none
  | .load t x => match tlook T t, aop st x with
    | some ti, some (.o (.ptr id off)) => match findBox Kf st.hp id with
      | some (_, cells) => match part1 cells off ti with
        | some v => some (v, [])
        | none => none
      | none => none
    | some ti, some (.o (.eptr sz cell k off)) => match row1 (cell k) off sz ti with
      | some v => some (v, [])
      | none => none
    | some ti, some (.o (.optr id sz k off)) => match findOwn Kf st.hp id with
      | some (_, sz', ct) => match Nat.beq sz sz', row1 (ct.cell k) off sz ti with
        | true, some v => some (v, [k < ct.n])
        | _, _ => none
      | none => none
    | _, _ => none
  | .extract x i => match aop st x with
    | some (.t xs) => match xs[i]? with
      | some (.inl a) => some (.o a, [])
      | some (.inr as) => some (.g as, [])
      | none => none
    | _ => none
  | .build t parts => match tlook T t with
    | some ⟨_, .struct fs, _, _, z, _⟩ => match cellsC z, partsOf st parts.toList with
      | some zs, some ps => match fieldZ zs fs ps with
        | some r => some (.g r, [])
        | none => none
      | _, _ => none
    | _ => none
  | .makeFunc (.func f) first caps => match first.toList, capsOf st caps.toList with
    | [], some r => some (.o (.clo f r), [])
    | _, _ => none
  | .call c => match c.callee, c.args.toList, c.argTypes.toList with
    | .builtin .len, [x], [t] => match aop st x, tlook T t with
      | some (.o (.c (.string s))), some ⟨_, .str, _, _, _, _⟩ => some (.o (.c (.int .i64 (s.size : Nat))), [])
      | some (.o (.ro _ n _)), some ⟨_, .slice _, _, _, _, _⟩ => some (.o (.c (.int .i64 (n : Nat))), [])
      | some (.o (.own id)), some ⟨_, .slice _, _, _, _, _⟩ => match findOwn Kf st.hp id with
        | some (_, _, ct) => some (.o (.c (.int .i64 (ct.n : Nat))), [])
        | none => none
      | some (.o (.c (.slice _ n _))), some ⟨_, .slice _, _, _, _, _⟩ => some (.o (.c (.int .i64 (n : Nat))), [])
      | _, _ => none
    | .builtin .min, [x, y], _ => match aop st x, aop st y with
      | some (.o (.c (.int k m))), some (.o (.c (.int _ n))) => some (.o (.c (.int k (min m n))), [])
      | _, _ => none
    | .builtin .max, [x, y], _ => match aop st x, aop st y with
      | some (.o (.c (.int k m))), some (.o (.c (.int _ n))) => some (.o (.c (.int k (max m n))), [])
      | _, _ => none
    | _, _, _ => none
  | _ => none

/-- What a set of worlds that an operation may be carried out in have in common. -/
def Ag (Kf : Nat → Bool) (S : Nat → Prop) (ν : Nat → Value) (st : AS) (w w' : World) : Prop :=
  w.heap.size ≤ w'.heap.size ∧ ∀ b, (S b ∨ ∃ ch ∈ st.hp, Kf ch.id = true ∧ ch.blk ν = some b) → w'.heap[b]? = w.heap[b]?
theorem Ag.refl (Kf : Nat → Bool) (S : Nat → Prop) (ν : Nat → Value) (st : AS) (w : World) : Ag Kf S ν st w w := ⟨Nat.le_refl _, fun _ _ => rfl⟩
theorem Ag.gr {Kf : Nat → Bool} {S : Nat → Prop} {ν : Nat → Value} {st : AS} {w w' : World} (h : Ag Kf S ν st w w') : Gr w w' S S := ⟨h.1, fun b hs _ => h.2 b (.inl hs), fun _ h => h⟩

section
variable {P : Program} {T : Tys} {Kf : Nat → Bool} {X : Cx} {S : Nat → Prop} {ν : Nat → Value} {st : AS} {a : Act} {w : World}

theorem cellsC_ok : ∀ {l : List Value} {r : List A1}, cellsC l = some r → All2 (A1.rel w S ν) r l ∧ ∀ m, ∀ x ∈ r, x.lt m
  | [], r, h => by cases h; exact ⟨trivial, fun m x hx => by cases hx⟩
  | v :: vs, r, h => by
    simp only [cellsC] at h
    split at h
    · rename_i q h1 h2
      cases h
      obtain ⟨i1, i2⟩ := cellsC_ok h2
      exact ⟨⟨⟨rfl, h1⟩, i1⟩, fun m x hx => by
        rcases List.mem_cons.1 hx with rfl | hx
        · exact trivial
        · exact i2 m x hx⟩
    · cases h
theorem aconst_ok {v : Value} {av : AV} (h : aconst v = some av) (h1 : ∀ u, v ≠ .tuple u) : av.rel w S ν v ∧ ∀ m, av.lt m := by
  unfold aconst at h
  split at h
  · rename_i cs
    split at h
    · rename_i r hr
      cases h
      obtain ⟨i1, i2⟩ := cellsC_ok (w := w) (S := S) (ν := ν) hr
      exact ⟨⟨cs.toList, by simp, i1⟩, i2⟩
    · cases h
  · cases h
  · rename_i hn1 hn2
    cases h
    refine ⟨⟨rfl, ?_⟩, fun _ => trivial⟩
    cases v <;> first | rfl | exact absurd rfl (hn1 _) | exact absurd rfl (hn2 _)
theorem aop_ok (sat : Sat X S ν st a w) {x : Operand} {av : AV} (h : aop st x = some av) : av.rel w S ν (a.eval x) ∧ av.lt st.nid := by
  cases x with
  | tmp t =>
    have hm := look_mem h
    exact ⟨(sat.env _ hm).2, sat.elt _ hm⟩
  | const v =>
    have h' : aconst v = some av := h
    have := aconst_ok (w := w) (S := S) (ν := ν) h' (fun u e => by subst e; cases h')
    exact ⟨this.1, this.2 _⟩
  | func f => cases h; exact ⟨⟨rfl, rfl⟩, trivial⟩
  | global g => cases h

theorem findBox_ok : ∀ {l : List Chunk} {id T : Nat} {cells : List A1}, findBox Kf l id = some (T, cells) → Chunk.box id T cells ∈ l ∧ Kf id = true
  | .box i T' cs :: r, id, T, cells, h => by
    simp only [findBox] at h
    split at h
    · rename_i h1 h2
      cases h
      have := Nat.eq_of_beq_eq_true h1
      subst this
      exact ⟨List.mem_cons_self .., h2⟩
    · cases h
    · exact ⟨List.mem_cons_of_mem _ (findBox_ok h).1, (findBox_ok h).2⟩
  | .own _ _ _ _ :: r, id, T, cells, h => by
    simp only [findBox] at h
    exact ⟨List.mem_cons_of_mem _ (findBox_ok h).1, (findBox_ok h).2⟩
  | .nest _ _ _ _ :: r, id, T, cells, h => by
    simp only [findBox] at h
    exact ⟨List.mem_cons_of_mem _ (findBox_ok h).1, (findBox_ok h).2⟩
  | .obj _ _ :: r, id, T, cells, h => by
    simp only [findBox] at h
    exact ⟨List.mem_cons_of_mem _ (findBox_ok h).1, (findBox_ok h).2⟩
theorem findOwn_ok : ∀ {l : List Chunk} {id E sz : Nat} {ct : Ct}, findOwn Kf l id = some (E, sz, ct) → Chunk.own id E sz ct ∈ l ∧ Kf id = true
  | .own i E' sz' ct' :: r, id, E, sz, ct, h => by
    simp only [findOwn] at h
    split at h
    · rename_i h1 h2
      cases h
      have := Nat.eq_of_beq_eq_true h1
      subst this
      exact ⟨List.mem_cons_self .., h2⟩
    · cases h
    · exact ⟨List.mem_cons_of_mem _ (findOwn_ok h).1, (findOwn_ok h).2⟩
  | .box _ _ _ :: r, id, E, sz, ct, h => by
    simp only [findOwn] at h
    exact ⟨List.mem_cons_of_mem _ (findOwn_ok h).1, (findOwn_ok h).2⟩
  | .nest _ _ _ _ :: r, id, E, sz, ct, h => by
    simp only [findOwn] at h
    exact ⟨List.mem_cons_of_mem _ (findOwn_ok h).1, (findOwn_ok h).2⟩
  | .obj _ _ :: r, id, E, sz, ct, h => by
    simp only [findOwn] at h
    exact ⟨List.mem_cons_of_mem _ (findOwn_ok h).1, (findOwn_ok h).2⟩

theorem nth_eq : ∀ (l : List A1) (i : Nat), nth l i = l[i]?
  | [], _ => by simp [nth]
  | _ :: _, 0 => rfl
  | _ :: as, i + 1 => by simp [nth, nth_eq as i]
theorem dropN_eq : ∀ {l r : List A1} {i : Nat}, dropN l i = some r → r = l.drop i
  | l, r, 0, h => by cases l <;> (cases h; rfl)
  | [], r, i + 1, h => by cases h
  | _ :: as, r, i + 1, h => by simp only [dropN] at h; rw [dropN_eq h]; rfl
theorem takeN_eq : ∀ {l r : List A1} {i : Nat}, takeN l i = some r → r = l.take i ∧ r.length = i
  | l, r, 0, h => by cases l <;> (cases h; exact ⟨rfl, rfl⟩)
  | [], r, i + 1, h => by cases h
  | x :: as, r, i + 1, h => by
    simp only [takeN] at h
    split at h
    · rename_i q hq
      cases h
      obtain ⟨h1, h2⟩ := takeN_eq hq
      exact ⟨by rw [h1]; rfl, by simp [h2]⟩
    · cases h
theorem setN_eq : ∀ {l r : List A1} {i : Nat} {x : A1}, setN l i x = some r → r = l.set i x ∧ i < l.length
  | [], r, i, x, h => by cases h
  | _ :: as, r, 0, x, h => by cases h; exact ⟨rfl, by simp⟩
  | y :: as, r, i + 1, x, h => by
    simp only [setN] at h
    split at h
    · rename_i q hq
      cases h
      obtain ⟨h1, h2⟩ := setN_eq hq
      exact ⟨by rw [h1]; rfl, by simp; omega⟩
    · cases h
end
end Go.Proofs.Ytfcihdkflnpcgaa.Am
