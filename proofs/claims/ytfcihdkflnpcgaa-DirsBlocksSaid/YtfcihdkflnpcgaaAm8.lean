/- The abstract machine: operations that make or write memory. No program is named. -/
import Derived.Test.YtfcihdkflnpcgaaAm7
import Derived.Lib.ConvBytes
namespace Go.Proofs.Ytfcihdkflnpcgaa.Am
open Go.RowKit Lw

def takeBox (Kf : Nat → Bool) : List Chunk → Nat → Option (Nat × List A1 × List Chunk)
  | [], _ => none
  | .box i T cells :: r, id => match Nat.beq i id, Kf id with
    | true, true => some (T, cells, r)
    | true, false => none
    | false, _ => match takeBox Kf r id with
      | some (T', c', r') => some (T', c', .box i T cells :: r')
      | none => none
  | .own i E sz ct :: r, id => match takeBox Kf r id with
    | some (T', c', r') => some (T', c', .own i E sz ct :: r')
    | none => none
  | .obj i ob :: r, id => match takeBox Kf r id with
    | some (T', c', r') => some (T', c', .obj i ob :: r')
    | none => none
  | .nest i E ct j :: r, id => match takeBox Kf r id with
    | some (T', c', r') => some (T', c', .nest i E ct j :: r')
    | none => none
def takeOwn (Kf : Nat → Bool) : List Chunk → Nat → Option (Nat × Nat × Ct × List Chunk)
  | [], _ => none
  | .own i E sz ct :: r, id => match Nat.beq i id, Kf id with
    | true, true => some (E, sz, ct, r)
    | true, false => none
    | false, _ => match takeOwn Kf r id with
      | some (E', s', c', r') => some (E', s', c', .own i E sz ct :: r')
      | none => none
  | .box i T cells :: r, id => match takeOwn Kf r id with
    | some (E', s', c', r') => some (E', s', c', .box i T cells :: r')
    | none => none
  | .obj i ob :: r, id => match takeOwn Kf r id with
    | some (E', s', c', r') => some (E', s', c', .obj i ob :: r')
    | none => none
  | .nest i E ct j :: r, id => match takeOwn Kf r id with
    | some (E', s', c', r') => some (E', s', c', .nest i E ct j :: r')
    | none => none
/-- An object. -/
def takeObj (Kf : Nat → Bool) : List Chunk → Nat → Option (Obj × List Chunk)
  | [], _ => none
  | .obj i ob :: r, id => match Nat.beq i id, Kf id with
    | true, true => some (ob, r)
    | true, false => none
    | false, _ => match takeObj Kf r id with
      | some (o', r') => some (o', .obj i ob :: r')
      | none => none
  | .box i T cells :: r, id => match takeObj Kf r id with
    | some (o', r') => some (o', .box i T cells :: r')
    | none => none
  | .own i E sz ct :: r, id => match takeObj Kf r id with
    | some (o', r') => some (o', .own i E sz ct :: r')
    | none => none
  | .nest i E ct j :: r, id => match takeObj Kf r id with
    | some (o', r') => some (o', .nest i E ct j :: r')
    | none => none
/-- A slice with a link. -/
def takeNest (Kf : Nat → Bool) : List Chunk → Nat → Option (Nat × Ct × Nat × List Chunk)
  | [], _ => none
  | .nest i E ct j :: r, id => match Nat.beq i id, Kf id with
    | true, true => some (E, ct, j, r)
    | true, false => none
    | false, _ => match takeNest Kf r id with
      | some (E', c', j', r') => some (E', c', j', .nest i E ct j :: r')
      | none => none
  | .obj i ob :: r, id => match takeNest Kf r id with
    | some (E', c', j', r') => some (E', c', j', .obj i ob :: r')
    | none => none
  | .box i T cells :: r, id => match takeNest Kf r id with
    | some (E', c', j', r') => some (E', c', j', .box i T cells :: r')
    | none => none
  | .own i E sz ct :: r, id => match takeNest Kf r id with
    | some (E', c', j', r') => some (E', c', j', .own i E sz ct :: r')
    | none => none
theorem takeBox_perm {Kf : Nat → Bool} : ∀ {l : List Chunk} {id T : Nat} {cells : List A1} {r : List Chunk}, takeBox Kf l id = some (T, cells, r) → l.Perm (Chunk.box id T cells :: r) ∧ Kf id = true
  | .box i T' cs :: q, id, T, cells, r, h => by
    simp only [takeBox] at h
    split at h
    · rename_i h1 h2
      cases h
      have := Nat.eq_of_beq_eq_true h1
      subst this
      exact ⟨.refl _, h2⟩
    · cases h
    · split at h
      · rename_i T2 c2 r2 h2
        cases h
        obtain ⟨p, k⟩ := takeBox_perm h2
        exact ⟨(p.cons _).trans (.swap _ _ _), k⟩
      · cases h
  | .own i E sz ct :: q, id, T, cells, r, h => by
    simp only [takeBox] at h
    split at h
    · rename_i T2 c2 r2 h2
      cases h
      obtain ⟨p, k⟩ := takeBox_perm h2
      exact ⟨(p.cons _).trans (.swap _ _ _), k⟩
    · cases h
  | .nest _ _ _ _ :: q, id, T, cells, r, h => by
    simp only [takeBox] at h
    split at h
    · rename_i h2
      cases h
      obtain ⟨p, k⟩ := takeBox_perm h2
      exact ⟨(p.cons _).trans (.swap _ _ _), k⟩
    · cases h
  | .obj i ob :: q, id, T, cells, r, h => by
    simp only [takeBox] at h
    split at h
    · rename_i T2 c2 r2 h2
      cases h
      obtain ⟨p, k⟩ := takeBox_perm h2
      exact ⟨(p.cons _).trans (.swap _ _ _), k⟩
    · cases h
theorem takeOwn_perm {Kf : Nat → Bool} : ∀ {l : List Chunk} {id E sz : Nat} {ct : Ct} {r : List Chunk}, takeOwn Kf l id = some (E, sz, ct, r) → l.Perm (Chunk.own id E sz ct :: r) ∧ Kf id = true
  | .own i E' sz' ct' :: q, id, E, sz, ct, r, h => by
    simp only [takeOwn] at h
    split at h
    · rename_i h1 h2
      cases h
      have := Nat.eq_of_beq_eq_true h1
      subst this
      exact ⟨.refl _, h2⟩
    · cases h
    · split at h
      · rename_i h2
        cases h
        obtain ⟨p, k⟩ := takeOwn_perm h2
        exact ⟨(p.cons _).trans (.swap _ _ _), k⟩
      · cases h
  | .box i T cells :: q, id, E, sz, ct, r, h => by
    simp only [takeOwn] at h
    split at h
    · rename_i h2
      cases h
      obtain ⟨p, k⟩ := takeOwn_perm h2
      exact ⟨(p.cons _).trans (.swap _ _ _), k⟩
    · cases h
  | .nest _ _ _ _ :: q, id, E, sz, ct, r, h => by
    simp only [takeOwn] at h
    split at h
    · rename_i h2
      cases h
      obtain ⟨p, k⟩ := takeOwn_perm h2
      exact ⟨(p.cons _).trans (.swap _ _ _), k⟩
    · cases h
  | .obj i ob :: q, id, E, sz, ct, r, h => by
    simp only [takeOwn] at h
    split at h
    · rename_i h2
      cases h
      obtain ⟨p, k⟩ := takeOwn_perm h2
      exact ⟨(p.cons _).trans (.swap _ _ _), k⟩
    · cases h
theorem takeObj_perm {Kf : Nat → Bool} : ∀ {l : List Chunk} {id : Nat} {ob : Obj} {r : List Chunk}, takeObj Kf l id = some (ob, r) → l.Perm (Chunk.obj id ob :: r) ∧ Kf id = true
  | .obj i ob' :: q, id, ob, r, h => by
    simp only [takeObj] at h
    split at h
    · rename_i h1 h2
      cases h
      have := Nat.eq_of_beq_eq_true h1
      subst this
      exact ⟨.refl _, h2⟩
    · cases h
    · split at h
      · rename_i h2
        cases h
        obtain ⟨p, k⟩ := takeObj_perm h2
        exact ⟨(p.cons _).trans (.swap _ _ _), k⟩
      · cases h
  | .box i T cells :: q, id, ob, r, h => by
    simp only [takeObj] at h
    split at h
    · rename_i h2
      cases h
      obtain ⟨p, k⟩ := takeObj_perm h2
      exact ⟨(p.cons _).trans (.swap _ _ _), k⟩
    · cases h
  | .nest _ _ _ _ :: q, id, ob, r, h => by
    simp only [takeObj] at h
    split at h
    · rename_i h2
      cases h
      obtain ⟨p, k⟩ := takeObj_perm h2
      exact ⟨(p.cons _).trans (.swap _ _ _), k⟩
    · cases h
  | .own i E sz ct :: q, id, ob, r, h => by
    simp only [takeObj] at h
    split at h
    · rename_i h2
      cases h
      obtain ⟨p, k⟩ := takeObj_perm h2
      exact ⟨(p.cons _).trans (.swap _ _ _), k⟩
    · cases h
theorem takeNest_perm {Kf : Nat → Bool} : ∀ {l : List Chunk} {id E j : Nat} {ct : Ct} {r : List Chunk}, takeNest Kf l id = some (E, ct, j, r) → l.Perm (Chunk.nest id E ct j :: r) ∧ Kf id = true
  | .nest i E' ct' j' :: q, id, E, j, ct, r, h => by
    simp only [takeNest] at h
    split at h
    · rename_i h1 h2
      cases h
      have := Nat.eq_of_beq_eq_true h1
      subst this
      exact ⟨.refl _, h2⟩
    · cases h
    · split at h
      · rename_i h2
        cases h
        obtain ⟨p, k⟩ := takeNest_perm h2
        exact ⟨(p.cons _).trans (.swap _ _ _), k⟩
      · cases h
  | .box _ _ _ :: q, id, E, j, ct, r, h => by
    simp only [takeNest] at h
    split at h
    · rename_i h2
      cases h
      obtain ⟨p, k⟩ := takeNest_perm h2
      exact ⟨(p.cons _).trans (.swap _ _ _), k⟩
    · cases h
  | .own _ _ _ _ :: q, id, E, j, ct, r, h => by
    simp only [takeNest] at h
    split at h
    · rename_i h2
      cases h
      obtain ⟨p, k⟩ := takeNest_perm h2
      exact ⟨(p.cons _).trans (.swap _ _ _), k⟩
    · cases h
  | .obj _ _ :: q, id, E, j, ct, r, h => by
    simp only [takeNest] at h
    split at h
    · rename_i h2
      cases h
      obtain ⟨p, k⟩ := takeNest_perm h2
      exact ⟨(p.cons _).trans (.swap _ _ _), k⟩
    · cases h

def A1.toD : A1 → Option DC
  | .c v => some (.c v)
  | .sb b => some (.c (.bool b))
  | .ro sz n cell => some (.sl sz n cell)
  | .any => some .any
  | _ => none
def toDs : List A1 → Option (List DC)
  | [] => some []
  | a :: as => match a.toD, toDs as with
    | some d, some r => some (d :: r)
    | _, _ => none
theorem A1.toD_rel {w : World} {S : Nat → Prop} {ν : Nat → Value} {a : A1} {d : DC} {u : Value} (h : a.toD = some d) (hr : a.rel w S ν u) : d.rel w S u := by
  cases a <;> simp only [A1.toD] at h <;> cases h
  · exact hr
  · obtain rfl := hr; exact ⟨rfl, rfl⟩
  · exact hr
  · exact hr
theorem toDs_rel {w : World} {S : Nat → Prop} {ν : Nat → Value} : ∀ {as : List A1} {ds : List DC} {us : List Value}, toDs as = some ds → All2 (A1.rel w S ν) as us → All2 (DC.rel w S) ds us
  | [], ds, us, h, hr => by
    cases us with
    | nil => cases h; exact trivial
    | cons u us => exact hr.elim
  | a :: as, ds, us, h, hr => by
    cases us with
    | nil => exact hr.elim
    | cons u us =>
      simp only [toDs] at h
      split at h
      · rename_i d r h1 h2
        cases h
        exact ⟨A1.toD_rel h1 hr.1, toDs_rel h2 hr.2⟩
      · cases h

def nthD : List DC → Nat → DC
  | [], _ => .c undef
  | d :: _, 0 => d
  | _ :: ds, i + 1 => nthD ds i
def nthR : List (List DC) → Nat → List DC
  | [], _ => []
  | d :: _, 0 => d
  | _ :: ds, i + 1 => nthR ds i
def litC (rows : List (List DC)) : Ct := ⟨rows.length, fun i j => nthD (nthR rows i) j⟩
def appC (a b : Ct) : Ct := ⟨a.n + b.n, fun i j => if i < a.n then a.cell i j else b.cell (i - a.n) j⟩
def strC (s : ByteArray) : Ct := ⟨s.size, fun i _ => .c (.int .u8 (s.data.toList.getD i 0).toNat)⟩
def nilC : Ct := ⟨0, fun _ _ => .c undef⟩
def setC (c : Ct) (k off : Nat) (d : DC) : Ct := ⟨c.n, fun i j => if i = k ∧ j = off then d else c.cell i j⟩
def setRowC (c : Ct) (k off : Nat) (ds : List DC) : Ct := ⟨c.n, fun i j => if i = k ∧ off ≤ j ∧ j < off + ds.length then nthD ds (j - off) else c.cell i j⟩
def zeroC (n : Nat) (zero : List Value) : Ct := ⟨n, fun _ j => nthD (zero.map DC.c) j⟩
def dcByte : DC → UInt8
  | .c (.int _ z) => UInt8.ofNat z.toNat
  | _ => 0
def ctBytes (n : Nat) (cell : Nat → Nat → DC) : List UInt8 := (List.range n).map fun i => dcByte (cell i 0)

def rowsOf (st : AS) (sz : Nat) : Nat → List (Nat × Operand) → Option (List (List DC))
  | _, [] => some []
  | i, (j, x) :: r => match Nat.beq i j, aop st x, rowsOf st sz (i + 1) r with
    | true, some (.o a), some q => match Nat.beq sz 1, a.toD with
      | true, some d => some ([d] :: q)
      | _, _ => none
    | true, some (.g as), some q => match toDs as with
      | some ds => match Nat.beq ds.length sz with
        | true => some (ds :: q)
        | false => none
      | none => none
    | _, _, _ => none

def setMany : List A1 → Nat → List A1 → Option (List A1)
  | l, _, [] => some l
  | l, i, a :: as => match setN l i a with
    | some l' => setMany l' (i + 1) as
    | none => none
def storeC (cells : List A1) (off : Nat) (ti : TI) (v : AV) : Option (List A1) :=
  match ti.agg, v with
  | false, .o a => setN cells off a
  | true, .g as => match Nat.beq as.length ti.size with
    | true => setMany cells off as
    | false => none
  | _, _ => none

def srcOf (hp : List Chunk) (sz : Nat) (v : AV) : Option Ct :=
  match v with
  | .o (.own id) => match findOwn (fun _ => true) hp id with
    | some (_, sz', ct) => match Nat.beq sz sz' with
      | true => some ct
      | false => none
    | none => none
  | .o (.ro sz' n cell) => match Nat.beq sz sz' with
    | true => some ⟨n, cell⟩
    | false => none
  | .o (.c (.slice none 0 0)) => some nilC
  | _ => none

def AS.new (st : AS) (rest : List Chunk) (mk : Nat → Chunk) (dst : Option Tmp) (v : A1) : AS := (AS.mk st.env (mk st.nid :: rest) (st.nid + 1)).put dst (.o v)

def amem0 (T : Tys) (K : Nat → Bool) (o : Oper) (st : AS) : Option (AS × List Prop) :=
  match o.op with
  | .alloc e => match tlook T e with
    | some ti => match cellsC ti.zero with
      | some cs => some (st.new st.hp (fun i => .box i e cs) o.dst (.ptr st.nid 0), [])
      | none => none
    | none => none
  | .box e x => match aop st x with
    | some (.o v) => some (st.new st.hp (fun i => .box i e [v]) o.dst (.ptr st.nid 0), [])
    | some (.g as) => some (st.new st.hp (fun i => .box i e as) o.dst (.ptr st.nid 0), [])
    | _ => none
  | .buildSlice t len parts => match tlook T t with
    | some ⟨_, .slice e, _, _, _, _⟩ => match tlook T e with
      | some te => match rowsOf st te.size 0 parts.toList with
        | some rows => match Nat.beq rows.length len, Nat.ble (len * te.size) 16777216 with
          | true, true => some (st.new st.hp (fun i => .own i e te.size (litC rows)) o.dst (.own st.nid), [])
          | _, _ => none
        | none => none
      | none => none
    | _ => none
  | .store t x y => match o.dst, tlook T t, aop st x, aop st y with
    | none, some ti, some (.o (.ptr id off)), some v => match takeBox (fun i => !K i) st.hp id with
      | some (Tb, cells, rest) => match storeC cells off ti v with
        | some cells' => some (⟨st.env, .box id Tb cells' :: rest, st.nid⟩, [])
        | none => none
      | none => none
    | none, some ti, some (.o (.optr id sz k off)), some (.o v) => match takeOwn (fun i => !K i) st.hp id, ti.agg, v.toD with
      | some (E, sz', ct, rest), false, some d => match Nat.beq sz sz', Nat.blt off sz with
        | true, true => some (⟨st.env, .own id E sz (setC ct k off d) :: rest, st.nid⟩, [k < ct.n])
        | _, _ => none
      | _, _, _ => none
    | none, some ti, some (.o (.optr id sz k off)), some (.g as) => match takeOwn (fun i => !K i) st.hp id, ti.agg, toDs as with
      | some (E, sz', ct, rest), true, some ds => match Nat.beq sz sz', Nat.ble (off + ds.length) sz, Nat.beq ds.length ti.size with
        | true, true, true => some (⟨st.env, .own id E sz (setRowC ct k off ds) :: rest, st.nid⟩, [k < ct.n])
        | _, _, _ => none
      | _, _, _ => none
    | _, _, _, _ => none
  | .makeSlice t l c => match tlook T t, aop st c with
    | some ⟨_, .slice e, _, _, _, _⟩, some (.o (.c (.int _ n))) => match tlook T e, l with
      | some te, .const (.int _ 0) => some (st.new st.hp (fun i => .own i e te.size nilC) o.dst (.own st.nid), [0 ≤ n ∧ te.bytes * n ≤ 281474976710656 ∧ n ≤ 9223372036854775807])
      | some te, l => match aop st l with
        | some (.o (.c (.int _ m))) => some (st.new st.hp (fun i => .own i e te.size (zeroC n.toNat te.zero)) o.dst (.own st.nid), [m = n, 0 ≤ n ∧ te.bytes * n ≤ 281474976710656 ∧ n ≤ 9223372036854775807])
        | _ => none
      | _, _ => none
    | _, _ => none
  | .convert src dst x => match tlook T src, tlook T dst, aop st x with
    | some ⟨_, .str, _, _, _, _⟩, some ⟨_, .slice e, _, _, _, _⟩, some (.o (.c (.string s))) => match tlook T e with
      | some ⟨_, .int .u8, 1, _, _, _⟩ => some (st.put o.dst (.o (.ro 1 s.size (fun i _ => .c (.int .u8 (s.data.toList.getD i 0).toNat)))), [s.size ≤ 140737488355328])
      | _ => none
    | some ⟨_, .slice e, _, _, _, _⟩, some ⟨_, .str, _, _, _, _⟩, some v => match tlook T e, srcOf st.hp 1 v with
      | some ⟨_, .int .u8, _, _, _, _⟩, some ct => some (st.put o.dst (.o (.c (.string ⟨(ctBytes ct.n ct.cell).toArray⟩))), [∀ i, i < ct.n → ∃ b : UInt8, ct.cell i 0 = .c (.int .u8 b.toNat)])
      | _, _ => none
    | _, _, _ => none
  | .call c => match c.callee, c.args.toList, c.argTypes.toList with
    | .builtin .append, [s, x], [t, u] => match tlook T t, aop st s with
      | some ⟨_, .slice e, _, _, _, _⟩, some (.o (.own id)) => match tlook T e, takeOwn (fun i => !K i) st.hp id with
        | some te, some (E, sz, ct, rest) => match Nat.beq E e, Nat.beq sz te.size, Nat.ble 1 te.bytes, aop st x with
          | true, true, true, some (.o (.c (.string str))) => match tlook T u, te with
            | some ⟨_, .str, _, _, _, _⟩, ⟨_, .int .u8, 1, 1, [.int .u8 0], _⟩ => some (st.new rest (fun i => .own i e 1 (appC ct (strC str))) o.dst (.own st.nid), [ct.n + str.size ≤ 140737488355328])
            | _, _ => none
          | true, true, true, some v => match Nat.beq t u, srcOf rest sz v with
            | true, some src => some (st.new rest (fun i => .own i e te.size (appC ct src)) o.dst (.own st.nid), [(ct.n + src.n) * te.bytes ≤ 140737488355328])
            | _, _ => none
          | _, _, _, _ => none
        | _, _ => none
      | some ⟨_, .slice e, _, _, _, _⟩, some (.o (.c (.slice none 0 0))) => match tlook T e with
        | some te => match Nat.ble 1 te.bytes, aop st x with
          | true, some (.o (.c (.string str))) => match tlook T u, te with
            | some ⟨_, .str, _, _, _, _⟩, ⟨_, .int .u8, 1, 1, [.int .u8 0], _⟩ => some (st.new st.hp (fun i => .own i e 1 (appC nilC (strC str))) o.dst (.own st.nid), [str.size ≤ 140737488355328])
            | _, _ => none
          | true, some v => match Nat.beq t u, srcOf st.hp te.size v with
            | true, some src => some (st.new st.hp (fun i => .own i e te.size (appC nilC src)) o.dst (.own st.nid), [src.n * te.bytes ≤ 140737488355328])
            | _, _ => none
          | _, _ => none
        | none => none
      | _, _ => none
    | _, _, _ => none
  | _ => none
end Go.Proofs.Ytfcihdkflnpcgaa.Am
