/- The abstract machine: types, and operations that leave the world as it is. No program is named. -/
import Derived.Test.YtfcihdkflnpcgaaAm1
import Derived.IntWalk
import Derived.Laws.Bits64
import Derived.Laws.BitsAllLaws
namespace Go.Proofs.Ytfcihdkflnpcgaa.Am
open Go.RowKit Lw

inductive TK where
  | int (k : IntKind)
  | bool
  | str
  | slice (e : Nat)
  | struct (fs : List (Nat × Nat × Nat))
  | other
structure TI where
  id : Nat
  k : TK
  size : Nat
  bytes : Nat
  zero : List Value
  agg : Bool

def TK.ok (P : Program) (d : TypeDesc) : TK → Prop
  | .int k => d = .int k
  | .bool => d = .bool
  | .str => d = .string
  | .slice e => d = .slice e
  | .struct fs => ∃ arr : Array Field, d = .struct arr ∧ arr.toList.map (fun f => (f.type, f.offset)) = fs.map (fun p => (p.1, p.2.1)) ∧ ∀ p ∈ fs, (P.info? p.1).map (·.size) = some p.2.2 ∧ 0 < p.2.2
  | .other => True
structure TI.Ok (P : Program) (t : TI) : Prop where
  info : ∃ i z, P.info? t.id = some i ∧ i.size = t.size ∧ i.bytes = t.bytes ∧ i.zero = some z ∧ z.cells.toList = t.zero ∧ (∀ v ∈ t.zero, v.oneCell' = true) ∧ t.zero.length = t.size ∧ (t.agg = false → z.oneCell' = true) ∧ (t.agg = true → z = .agg t.zero.toArray)
  und : ∃ d, P.underlying t.id = some d ∧ TK.ok P d t.k ∧ d.isRow = t.agg
  pos : 0 < t.size
  one : t.agg = false → t.size = 1
abbrev Tys := List TI
def Tys.Ok (P : Program) (T : Tys) : Prop := ∀ t ∈ T, t.Ok P
def tlook : Tys → Nat → Option TI
  | [], _ => none
  | t :: T, i => if Nat.beq t.id i then some t else tlook T i
theorem tlook_some : ∀ {T : Tys} {i : Nat} {t : TI}, tlook T i = some t → t ∈ T ∧ t.id = i
  | t :: T, i, x, h => by
    simp only [tlook] at h
    split at h
    · rename_i hk; cases h; exact ⟨List.mem_cons_self .., Nat.eq_of_beq_eq_true hk⟩
    · exact ⟨List.mem_cons_of_mem _ (tlook_some h).1, (tlook_some h).2⟩
theorem Tys.Ok.get {P : Program} {T : Tys} (h : T.Ok P) {i : Nat} {t : TI} (e : tlook T i = some t) : t.Ok P ∧ t.id = i := ⟨h t (tlook_some e).1, (tlook_some e).2⟩

/-- A number of kind k: what it is, and what must hold that it is. -/
def arith (k : IntKind) (n : Int) : Int × List Prop :=
  match k with
  | .i64 => (n, [-9223372036854775808 ≤ n ∧ n ≤ 9223372036854775807])
  | .i32 => (n, [-2147483648 ≤ n ∧ n ≤ 2147483647])
  | .i16 => (n, [-32768 ≤ n ∧ n ≤ 32767])
  | .i8 => (n, [-128 ≤ n ∧ n ≤ 127])
  | .u64 => (n % 18446744073709551616, [])
  | .u32 => (n % 4294967296, [])
  | .u16 => (n % 65536, [])
  | .u8 => (n % 256, [])
theorem arith_wrap {k : IntKind} {n : Int} (h : ∀ p ∈ (arith k n).2, p) : k.wrap n = (arith k n).1 := by
  cases k <;> simp only [arith, List.mem_cons, List.mem_nil_iff, or_false, forall_eq, List.not_mem_nil, false_imp_iff, implies_true] at *
  · exact IntWalk.i8_in _ h
  · exact IntWalk.i16_in _ h
  · exact IntWalk.i32_in _ h
  · exact IntWalk.i64_in _ h
  · exact IntKind.wrap_u8 _
  · exact IntKind.wrap_u16 _
  · exact IntKind.wrap_u32 _
  · exact IntKind.wrap_u64 _
theorem arith_wrap' {k : IntKind} {n m : Int} {ps : List Prop} (e : arith k n = (m, ps)) (h : ∀ p ∈ ps, p) : k.wrap n = m := by
  have := arith_wrap (k := k) (n := n) (by rw [e]; exact h)
  rw [e] at this; exact this
def ubits (k : IntKind) : Option Nat :=
  match k with
  | .u64 => some 64
  | .u32 => some 32
  | .u16 => some 16
  | .u8 => some 8
  | _ => none
/-- The value of a number, with a claim. -/
def num (k : IntKind) (n : Int) (ps : List Prop) : Option (A1 × List Prop) := some (.c (.int k (arith k n).1), ps ++ (arith k n).2)

def abinInt (op : BinOp) (k : IntKind) (x : Int) (k' : IntKind) (y : Int) : Option (A1 × List Prop) :=
  match op with
  | .shl => match ubits k with
    | some b => some (.c (.int k ((x * 2 ^ y.toNat) % 2 ^ b)), [0 ≤ y])
    | none => none
  | .shr => match ubits k with
    | some b => some (.c (.int k (x / 2 ^ y.toNat)), [0 ≤ y ∧ y ≤ b, 0 ≤ x])
    | none => none
  | _ => if k = k' then
    match op with
    | .add => match arith k (x + y) with | (n, ps) => some (.c (.int k n), ps)
    | .sub => match arith k (x - y) with | (n, ps) => some (.c (.int k n), ps)
    | .mul => match arith k (x * y) with | (n, ps) => some (.c (.int k n), ps)
    | .quo => match arith k (x / y) with | (n, ps) => some (.c (.int k n), [0 ≤ x ∧ 0 < y] ++ ps)
    | .rem => some (.c (.int k (x % y)), [0 ≤ x ∧ 0 < y])
    | .eql => some (.sb (decide (x = y)), [])
    | .neq => some (.sb (!decide (x = y)), [])
    | .lss => some (.sb (decide (x < y)), [])
    | .leq => some (.sb (decide (x ≤ y)), [])
    | .gtr => some (.sb (decide (y < x)), [])
    | .geq => some (.sb (decide (y ≤ x)), [])
    | .and => match ubits k with
      | some b => some (.c (.int k ((x.toNat &&& y.toNat : Nat) : Int)), [0 ≤ x ∧ x < 2 ^ b, 0 ≤ y ∧ y < 2 ^ b])
      | none => none
    | .or => match ubits k with
      | some b => some (.c (.int k ((x.toNat ||| y.toNat : Nat) : Int)), [0 ≤ x ∧ x < 2 ^ b, 0 ≤ y ∧ y < 2 ^ b])
      | none => none
    | .xor => match ubits k with
      | some b => some (.c (.int k ((x.toNat ^^^ y.toNat : Nat) : Int)), [0 ≤ x ∧ x < 2 ^ b, 0 ≤ y ∧ y < 2 ^ b])
      | none => none
    | _ => none
    else none

theorem ubits_spec {k : IntKind} {b : Nat} (h : ubits k = some b) : k.bits = b ∧ ∀ n : Int, k.wrap n = n % 2 ^ b := by
  cases k <;> simp only [ubits] at h <;> cases h
  · exact ⟨rfl, fun n => by rw [IntKind.wrap_u8]; rfl⟩
  · exact ⟨rfl, fun n => by rw [IntKind.wrap_u16]; rfl⟩
  · exact ⟨rfl, fun n => by rw [IntKind.wrap_u32]; rfl⟩
  · exact ⟨rfl, fun n => by rw [IntKind.wrap_u64]; rfl⟩

theorem shl_mod (x : Int) (n b : Nat) : (x * 2 ^ min n b) % 2 ^ b = (x * 2 ^ n) % 2 ^ b := by
  rcases Nat.le_total n b with h | h
  · rw [Nat.min_eq_left h]
  · rw [Nat.min_eq_right h]
    obtain ⟨c, rfl⟩ := Nat.exists_eq_add_of_le h
    rw [Int.pow_add, ← Int.mul_assoc, Int.mul_right_comm, Int.mul_emod_left, Int.mul_emod_left]

theorem bits_and {b : Nat} {x y : Int} (hx : 0 ≤ x ∧ x < 2 ^ b) (hy : 0 ≤ y ∧ y < 2 ^ b) (f : Nat → Nat → Nat) (g : BitVec b → BitVec b → BitVec b) (hfg : ∀ u v : BitVec b, (g u v).toNat = f u.toNat v.toNat) :
    (((g (BitVec.ofInt b x) (BitVec.ofInt b y)).toNat : Nat) : Int) % 2 ^ b = ((f x.toNat y.toNat : Nat) : Int) := by
  have h1 : (BitVec.ofInt b x).toNat = x.toNat := by
    rw [BitVec.toNat_ofInt, Int.emod_eq_of_lt hx.1 (by rw [Int.natCast_pow]; exact hx.2)]
  have h2 : (BitVec.ofInt b y).toNat = y.toNat := by
    rw [BitVec.toNat_ofInt, Int.emod_eq_of_lt hy.1 (by rw [Int.natCast_pow]; exact hy.2)]
  rw [hfg, h1, h2]
  have := (g (BitVec.ofInt b x) (BitVec.ofInt b y)).isLt
  rw [hfg, h1, h2] at this
  refine Int.emod_eq_of_lt (by omega) ?_
  have h3 : ((2 ^ b : Nat) : Int) = (2 : Int) ^ b := by rw [Int.natCast_pow]; rfl
  omega

section
variable {P : Program} {w : World} {S : Nat → Prop} {ν : Nat → Value}

theorem abinInt_ok {op : BinOp} {k k' : IntKind} {x y : Int} {av : A1} {ps : List Prop} (t : TypeId) (h : abinInt op k x k' y = some (av, ps)) (hps : ∀ p ∈ ps, p) :
    ∃ u, av.rel w S ν u ∧ (∀ m, av.lt m) ∧ ∀ w', (binOp op t (.int k x) (.int k' y)).run P w' = .ok u w' := by
  unfold abinInt at h
  split at h
  · split at h
    · rename_i b hb
      cases h
      have h0 : 0 ≤ y := hps _ (by simp)
      obtain ⟨e1, e2⟩ := ubits_spec hb
      refine ⟨_, ⟨rfl, rfl⟩, fun _ => trivial, fun w' => ?_⟩
      simp only [binOp, Op.shift, if_neg (show ¬ y < 0 by omega), Sem.run_pure]
      rw [e2, e1, shl_mod]
    · cases h
  · split at h
    · rename_i b hb
      cases h
      have h0 : 0 ≤ y ∧ y ≤ b := hps _ (by simp)
      have h1 : 0 ≤ x := hps _ (by simp)
      obtain ⟨e1, e2⟩ := ubits_spec hb
      refine ⟨_, ⟨rfl, rfl⟩, fun _ => trivial, fun w' => ?_⟩
      simp only [binOp, Op.shift, if_neg (show ¬ y < 0 by omega), Sem.run_pure]
      rw [e1, Nat.min_eq_left (by omega), Int.fdiv_eq_ediv_of_nonneg _ (by exact Int.pow_nonneg (by decide))]
    · cases h
  · split at h
    · rename_i hs1 hs2 hk
      subst hk
      have hb : ∀ w', (binOp op t (.int k x) (.int k y)).run P w' = (match op with
        | .add | .sub | .mul => Op.intArith op k x y
        | .quo | .rem => Op.intDiv op k x y
        | .and | .or | .xor | .andNot => Op.intBits op k x y
        | _ => Op.intCmp op x y).run P w' := by
        intro w'
        cases op <;> first | (exact absurd rfl hs1) | (exact absurd rfl hs2) | (simp [binOp]; done)
      simp only [hb]
      split at h
      · rcases e : arith k (x + y) with ⟨n, qs⟩
        rw [e] at h
        cases h
        exact ⟨_, ⟨rfl, rfl⟩, fun _ => trivial, fun w' => by simp only [Op.intArith, Sem.run_pure, arith_wrap' e hps]⟩
      · rcases e : arith k (x - y) with ⟨n, qs⟩
        rw [e] at h
        cases h
        exact ⟨_, ⟨rfl, rfl⟩, fun _ => trivial, fun w' => by simp only [Op.intArith, Sem.run_pure, arith_wrap' e hps]⟩
      · rcases e : arith k (x * y) with ⟨n, qs⟩
        rw [e] at h
        cases h
        exact ⟨_, ⟨rfl, rfl⟩, fun _ => trivial, fun w' => by simp only [Op.intArith, Sem.run_pure, arith_wrap' e hps]⟩
      · rcases e : arith k (x / y) with ⟨n, qs⟩
        rw [e] at h
        cases h
        have h0 : 0 ≤ x ∧ 0 < y := hps _ (by simp)
        exact ⟨_, ⟨rfl, rfl⟩, fun _ => trivial, fun w' => by
          simp only [Op.intDiv, if_neg (show ¬ y = 0 by omega), Sem.run_pure]
          rw [Int.tdiv_eq_ediv_of_nonneg h0.1, arith_wrap' e fun p hp => hps p (by simp [hp])]⟩
      · cases h
        have h0 : 0 ≤ x ∧ 0 < y := hps _ (by simp)
        exact ⟨_, ⟨rfl, rfl⟩, fun _ => trivial, fun w' => by
          simp only [Op.intDiv, if_neg (show ¬ y = 0 by omega), Sem.run_pure]
          rw [Int.tmod_eq_emod_of_nonneg h0.1]⟩
      · cases h
        exact ⟨_, rfl, fun _ => trivial, fun w' => by simp only [Op.intCmp, Sem.run_pure]; rfl⟩
      · cases h
        exact ⟨_, rfl, fun _ => trivial, fun w' => by simp only [Op.intCmp, Sem.run_pure]; rfl⟩
      · cases h
        exact ⟨_, rfl, fun _ => trivial, fun w' => by simp only [Op.intCmp, Sem.run_pure]⟩
      · cases h
        exact ⟨_, rfl, fun _ => trivial, fun w' => by simp only [Op.intCmp, Sem.run_pure]⟩
      · cases h
        exact ⟨_, rfl, fun _ => trivial, fun w' => by simp only [Op.intCmp, Sem.run_pure]⟩
      · cases h
        exact ⟨_, rfl, fun _ => trivial, fun w' => by simp only [Op.intCmp, Sem.run_pure]⟩
      · split at h
        · rename_i b hbk
          cases h
          have hx : 0 ≤ x ∧ x < 2 ^ b := hps _ (by simp)
          have hy : 0 ≤ y ∧ y < 2 ^ b := hps _ (by simp)
          obtain ⟨e1, e2⟩ := ubits_spec hbk
          subst e1
          exact ⟨_, ⟨rfl, rfl⟩, fun _ => trivial, fun w' => by
            simp only [Op.intBits, Sem.run_pure]
            rw [e2, bits_and hx hy (· &&& ·) (· &&& ·) (fun u v => BitVec.toNat_and ..)]⟩
        · cases h
      · split at h
        · rename_i b hbk
          cases h
          have hx : 0 ≤ x ∧ x < 2 ^ b := hps _ (by simp)
          have hy : 0 ≤ y ∧ y < 2 ^ b := hps _ (by simp)
          obtain ⟨e1, e2⟩ := ubits_spec hbk
          subst e1
          exact ⟨_, ⟨rfl, rfl⟩, fun _ => trivial, fun w' => by
            simp only [Op.intBits, Sem.run_pure]
            rw [e2, bits_and hx hy (· ||| ·) (· ||| ·) (fun u v => BitVec.toNat_or ..)]⟩
        · cases h
      · split at h
        · rename_i b hbk
          cases h
          have hx : 0 ≤ x ∧ x < 2 ^ b := hps _ (by simp)
          have hy : 0 ≤ y ∧ y < 2 ^ b := hps _ (by simp)
          obtain ⟨e1, e2⟩ := ubits_spec hbk
          subst e1
          exact ⟨_, ⟨rfl, rfl⟩, fun _ => trivial, fun w' => by
            simp only [Op.intBits, Sem.run_pure]
            rw [e2, bits_and hx hy (· ^^^ ·) (· ^^^ ·) (fun u v => BitVec.toNat_xor ..)]⟩
        · cases h
      · cases h
    · cases h

def abinStr (op : BinOp) (s t : ByteArray) : Option (A1 × List Prop) :=
  match op with
  | .add => some (.c (.string (s ++ t)), [s.size + t.size ≤ 9223372036854775807])
  | .eql => some (.sb (decide (s = t)), [])
  | .neq => some (.sb (!decide (s = t)), [])
  | .lss => some (.sb (Op.bytesLess s.data.toList t.data.toList), [])
  | .leq => some (.sb (Op.bytesLess s.data.toList t.data.toList || decide (s = t)), [])
  | .gtr => some (.sb (!(Op.bytesLess s.data.toList t.data.toList || decide (s = t))), [])
  | .geq => some (.sb (!Op.bytesLess s.data.toList t.data.toList), [])
  | _ => none
theorem str_eq (s t : ByteArray) : (s.data.toList == t.data.toList) = decide (s = t) := by
  by_cases h : s = t
  · simp [h]
  · simp only [h, decide_false, beq_eq_false_iff_ne]
    intro e
    apply h
    cases s; cases t
    simp at e
    congr
theorem abinStr_ok {op : BinOp} {x y : ByteArray} {av : A1} {ps : List Prop} (t : TypeId) (h : abinStr op x y = some (av, ps)) (hps : ∀ p ∈ ps, p) :
    ∃ u, av.rel w S ν u ∧ (∀ m, av.lt m) ∧ ∀ w', (binOp op t (.string x) (.string y)).run P w' = .ok u w' := by
  unfold abinStr at h
  split at h
  · cases h
    have h0 : x.size + y.size ≤ 9223372036854775807 := hps _ (by simp)
    refine ⟨_, ⟨rfl, rfl⟩, fun _ => trivial, fun w' => ?_⟩
    have e : IntKind.i64.max = 9223372036854775807 := by decide
    simp only [binOp, Op.stringOp]
    rw [if_neg (by rw [e]; omega)]
    simp only [Sem.run_pure]
  all_goals first
    | (cases h; exact ⟨_, rfl, fun _ => trivial, fun w' => by simp only [binOp, Op.stringOp, Sem.run_pure, ByteArray.toList_eq, str_eq]⟩)
    | cases h
end
end Go.Proofs.Ytfcihdkflnpcgaa.Am
