/- The abstract machine: its operations, those on parts of slices among them. No program is named. -/
import Derived.Test.YtfcihdkflnpcgaaAmX
namespace Go.Proofs.Ytfcihdkflnpcgaa.Am
open Go.RowKit Lw

def vwCut (lo : Option Operand) (id sz off k : Nat) (l h : Int) : A1 := match lo with
  | none => .vw id sz off h.toNat k
  | some _ => .vw id sz (off + l.toNat) (h.toNat - l.toNat) (k - l.toNat)
theorem vwCut_eq {st : AS} {lo : Option Operand} {id sz off k : Nat} {l h : Int} (hl : optInt st 0 lo = some l) : vwCut lo id sz off k l h = .vw id sz (off + l.toNat) (h.toNat - l.toNat) (k - l.toNat) := by
  cases lo with
  | none => cases hl; simp [vwCut]
  | some x => rfl
def isSl : Option TI → Bool
  | some ⟨_, .slice _, _, _, _, _⟩ => true
  | _ => false
def isFn (_ : Option TI) : Bool := false
/-- Is it nil? -/
def anil (hp : List Chunk) : A1 → Option (Bool × List Prop)
  | .c (.slice none 0 0) => some (true, [])
  | .vw _ _ _ _ _ => some (false, [])
  | _ => none
/-- How many elements has it? -/
def anilN (hp : List Chunk) : A1 → Option Nat
  | .ro _ n _ => some n
  | .own id => match findOwn (fun _ => true) hp id with
    | some (_, _, ct) => some ct.n
    | none => none
  | _ => none
def partOk : Option Operand → Option Operand → Bool
  | none, some _ => false
  | _, _ => true
/-- A part from the beginning of a slice of one's own is no part to be dropped: it wants a view. -/
def partOk2 (lo hi mx : Option Operand) : Bool := match lo, mx with
  | none, none => false
  | _, _ => partOk hi mx
theorem partOk2_ok {lo hi mx : Option Operand} (h : partOk2 lo hi mx = true) : partOk hi mx = true := by
  cases lo <;> cases mx <;> first | exact h | cases h
def apureX (T : Tys) (_Kf : Nat → Bool) (o : Oper) (st : AS) : Option (AV × List Prop) :=
  match o.op with
  | .slice t x lo hi mx => match tlook T t, aop st x with
    | some ⟨_, .slice e, _, _, _, _⟩, some (.o (.vw id sz off n k)) => match tlook T e, optInt st 0 lo, optInt st n hi, mx with
      | some te, some l, some h, none => match Nat.beq sz te.size with
        | true => some (.o (vwCut lo id sz off k l h), [0 ≤ l ∧ l ≤ h ∧ h ≤ k])
        | _ => none
      | some te, some l, some h, some m => match aop st m, partOk hi (some m) with
        | some (.o (.c (.int _ m))), true => some (.o .any, [0 ≤ l ∧ l ≤ h ∧ h ≤ m ∧ m ≤ k])
        | _, _ => none
      | _, _, _, _ => none
    | some ⟨_, .slice e, _, _, _, _⟩, some (.o (.own id)) => match tlook T e, findOwn (fun _ => true) st.hp id with
      | some te, some (_, _, ct) => match optInt st 0 lo, optInt st ct.n hi, partOk2 lo hi mx with
        | some l, some h, true => match mx with
          | none => some (.o .any, [0 ≤ l ∧ l ≤ h ∧ h ≤ ct.n])
          | some m => match aop st m with
            | some (.o (.c (.int _ m))) => some (.o .any, [0 ≤ l ∧ l ≤ h ∧ h ≤ m ∧ m ≤ ct.n])
            | _ => none
        | _, _, _ => none
      | _, _ => none
    | some ⟨_, .slice e, _, _, _, _⟩, some (.o (.c (.slice none 0 0))) => match tlook T e, optInt st 0 lo, optInt st 0 hi, optInt st 0 mx with
      | some te, some l, some h, some m => match partOk hi mx with
        | true => some (.o (.c (.slice none 0 0)), [l = 0 ∧ h = 0 ∧ m = 0])
        | _ => none
      | _, _, _, _ => none
    | _, _ => none
  | .indexAddr t x i => match tlook T t, aop st x, aop st i with
    | some ⟨_, .slice e, _, _, _, _⟩, some (.o (.vw id sz off n _)), some (.o (.c (.int _ k))) => match tlook T e with
      | some te => match Nat.beq sz te.size with
        | true => some (.o (.optr id sz (off + k.toNat) 0), [0 ≤ k ∧ k < n])
        | false => none
      | none => none
    | _, _, _ => none
  | .binOp .eql t x (.const (.slice none 0 0)) _ => match isSl (tlook T t), aop st x with
    | true, some (.o v) => match anil st.hp v with
      | some (b, ps) => some (.o (.sb b), ps)
      | none => none
    | _, _ => none
  | .binOp .neq t x (.const (.slice none 0 0)) _ => match isSl (tlook T t), aop st x with
    | true, some (.o v) => match anil st.hp v with
      | some (b, ps) => some (.o (.sb (!b)), ps)
      | none => none
    | _, _ => none
  | .call c => match c.callee, c.args.toList, c.argTypes.toList with
    | .builtin .len, [x], [t] => match aop st x, tlook T t with
      | some (.o (.vw _ _ _ n _)), some ⟨_, .slice _, _, _, _, _⟩ => some (.o (.c (.int .i64 (n : Nat))), [])
      | _, _ => none
    | .builtin .cap, [x], [t] => match aop st x, tlook T t with
      | some (.o (.vw _ _ _ _ k)), some ⟨_, .slice _, _, _, _, _⟩ => some (.o (.c (.int .i64 (k : Nat))), [])
      | some (.o (.c (.slice _ _ k))), some ⟨_, .slice _, _, _, _, _⟩ => some (.o (.c (.int .i64 (k : Nat))), [])
      | _, _ => none
    | _, _, _ => none
  | _ => none
def amemX (T : Tys) (K : Nat → Bool) (o : Oper) (st : AS) : Option (AS × List Prop) :=
  match o.op with
  | .call c => match c.callee, c.args.toList, c.argTypes.toList with
    | .builtin .copy, [d, s], [t, _] => match tlook T t, aop st d, aop st s with
      | some ⟨_, .slice e, _, _, _, _⟩, some (.o (.vw id sz off n _)), some vs => match tlook T e, takeOwn (fun i => !K i) st.hp id, cutX st.hp sz vs n with
        | some te, some (E, sz', ct, rest), some (m, src, ps) => match Nat.beq sz te.size, Nat.beq sz' sz with
          | true, true => some ((AS.mk (viewE id st.nid st.env) (.own st.nid E sz (setRngC ct off src) :: rest) (st.nid + 1)).put o.dst (.o (.c (.int .i64 (min m n : Nat)))), (off ≤ ct.n) :: ps)
          | _, _ => none
        | _, _, _ => none
      | _, _, _ => none
    | .builtin .append, [d, s], [t, u] => match tlook T t, aop st d, aop st s with
      | some ⟨_, .slice e, _, _, _, _⟩, some (.o (.vw id sz off n k)), some vs => match tlook T e, takeOwn (fun i => !K i) st.hp id, srcX st.hp sz vs with
        | some te, some (E, sz', ct, rest), some (src, ps) => match Nat.beq sz te.size, Nat.beq sz' sz, Nat.beq t u with
          | true, true, true => some ((AS.mk (viewE id st.nid st.env) (.own st.nid E sz (setRngC ct (off + n) src) :: rest) (st.nid + 1)).put o.dst (.o (.vw st.nid sz off (n + src.n) k)), (n + src.n ≤ k) :: (off + n ≤ ct.n) :: ps)
          | _, _, _ => none
        | _, _, _ => none
      | some ⟨_, .slice e, _, _, _, _⟩, some (.o (.c (.slice none 0 0))), some (.o (.c (.int _ n))) => match tlook T e, tlook T u with
        | some te, some ⟨_, .int _, _, _, _, _⟩ => some (st.new st.hp (fun i => .own i e te.size (zeroC n.toNat te.zero)) o.dst (.own st.nid), [0 < n ∧ n * te.bytes ≤ 140737488355328 ∧ n ≤ 140737488355328])
        | _, _ => none
      | some ⟨_, .slice e, _, _, _, _⟩, some (.o (.c (.slice none 0 0))), some vs => match tlook T e with
        | some te => match srcX st.hp te.size vs, Nat.ble 1 te.bytes, Nat.beq t u with
          | some (src, ps), true, true => some (st.new st.hp (fun i => .own i e te.size (appC nilC src)) o.dst (.own st.nid), (src.n * te.bytes ≤ 140737488355328) :: ps)
          | _, _, _ => none
        | none => none
      | some ⟨_, .slice e, _, _, _, _⟩, some (.o (.own id)), some vs => match tlook T e, takeOwn (fun i => !K i) st.hp id with
        | some te, some (E, sz, ct, rest) => match srcX st.hp te.size vs, Nat.ble 1 te.bytes, Nat.beq t u, Nat.beq E e, Nat.beq sz te.size with
          | some (src, ps), true, true, true, true => some (st.new rest (fun i => .own i e te.size (appC ct src)) o.dst (.own st.nid), ((ct.n + src.n) * te.bytes ≤ 140737488355328) :: ps)
          | _, _, _, _, _ => none
        | _, _ => none
      | _, _, _ => none
    | .builtin .clear, [d], [t] => match o.dst, tlook T t, aop st d with
      | none, some ⟨_, .slice e, _, _, _, _⟩, some (.o (.vw id sz off n _)) => match tlook T e, takeOwn (fun i => !K i) st.hp id with
        | some te, some (E, sz', ct, rest) => match Nat.beq sz te.size, Nat.beq sz' sz with
          | true, true => some (⟨viewE id st.nid st.env, .own st.nid E sz (setRngC ct off (zeroC n te.zero)) :: rest, st.nid + 1⟩, [off ≤ ct.n])
          | _, _ => none
        | _, _ => none
      | _, _, _ => none
    | _, _, _ => none
  | _ => none
def apure (T : Tys) (Kf : Nat → Bool) (o : Oper) (st : AS) : Option (AV × List Prop) := match apure0 T Kf o st with
  | some r => some r
  | none => apureX T Kf o st
def amem (T : Tys) (K : Nat → Bool) (o : Oper) (st : AS) : Option (AS × List Prop) := match amem0 T K o st with
  | some r => some r
  | none => amemX T K o st

section
variable {P : Program} {T : Tys} {X : Cx} {S : Nat → Prop} {ν : Nat → Value} {st st' : AS} {a : Act} {w : World} {o : Oper} {av : AV} {ps : List Prop} {K Kf : Nat → Bool}
attribute [local irreducible] maxLen

theorem run_slice_gen (hT : T.Ok P) {t e : TypeId} {te : TI} (hu : P.underlying t = some (.slice e)) (he : tlook T e = some te) {A : Option Addr} {n c : Nat} {lo hi mx : Option Operand} {l h m : Int}
    (hl : (lo = none ∧ l = 0) ∨ ∃ y k, lo = some y ∧ a.eval y = .int k l) (hh : (hi = none ∧ h = n) ∨ ∃ y k, hi = some y ∧ a.eval y = .int k h) (hm : (mx = none ∧ m = c) ∨ ∃ y k, mx = some y ∧ a.eval y = .int k m) (hpo : partOk hi mx = true)
    (hb : 0 ≤ l ∧ l ≤ h ∧ h ≤ m ∧ m ≤ c) (w : World) : (Instr.sliceAt t (.slice A n c) (lo.map a.eval) (hi.map a.eval) (mx.map a.eval)).run P w = .ok (.slice (if m.toNat = l.toNat then A else A.map (·.add (l.toNat * te.size))) (h.toNat - l.toNat) (m.toNat - l.toNat)) w := by
  obtain ⟨m, rfl⟩ := Int.eq_ofNat_of_zero_le (show 0 ≤ m by omega)
  obtain ⟨h, rfl⟩ := Int.eq_ofNat_of_zero_le (show 0 ≤ h by omega)
  obtain ⟨l, rfl⟩ := Int.eq_ofNat_of_zero_le hb.1
  have e0 : m ≤ c := by omega
  have e1 : h ≤ m := by omega
  have e2 : l ≤ h := by omega
  have e3 : h ≤ c := by omega
  have hbd : (Instr.sliceBounds true n c (lo.map a.eval) (hi.map a.eval) (mx.map a.eval)).run P w = .ok (l, h, m) w := by
    rcases hm with ⟨rfl, hm0⟩ | ⟨y, k, rfl, hy⟩
    · obtain rfl : m = c := by omega
      rcases hl with ⟨rfl, hl0⟩ | ⟨y, k, rfl, hy⟩ <;> rcases hh with ⟨rfl, hh0⟩ | ⟨y', k', rfl, hy'⟩
      · obtain rfl : l = 0 := by omega
        obtain rfl : h = n := by omega
        simp [Instr.sliceBounds]
      · obtain rfl : l = 0 := by omega
        simp [Instr.sliceBounds, Instr.sliceBound, asIntOf, hy', e1]
      · obtain rfl : h = n := by omega
        simp [Instr.sliceBounds, Instr.sliceBound, asIntOf, hy, e2]
      · simp [Instr.sliceBounds, Instr.sliceBound, asIntOf, hy, hy', e1, e2]
    · rcases hh with ⟨rfl, hh0⟩ | ⟨y', k', rfl, hy'⟩
      · cases hpo
      · rcases hl with ⟨rfl, hl0⟩ | ⟨y, k, rfl, hy''⟩
        · obtain rfl : l = 0 := by omega
          simp [Instr.sliceBounds, Instr.sliceBound, asIntOf, hy', hy, e0, e1]
        · simp [Instr.sliceBounds, Instr.sliceBound, asIntOf, hy', hy, hy'', e0, e1, e2]
  simp only [Instr.sliceAt, Sem.run_bind, run_underlying hu w, Result.andThen_ok, Instr.slice, hbd, run_sizeOf' hT he w, Sem.run_pure, Int.toNat_natCast]

theorem exec_slice {t : TypeId} {x : Operand} {lo hi mx : Option Operand} (ho : o.op = .slice t x lo hi mx) : execOp a.eval o = (do pure (.value (← Instr.sliceAt t (a.eval x) (lo.map a.eval) (hi.map a.eval) (mx.map a.eval)))) := by
  unfold execOp; rw [ho]

theorem run_eql_nilL {t e : TypeId} (hu : P.underlying t = some (.slice e)) (A : Option Addr) (n c : Nat) (w : World) : (Op.equal t (.slice A n c) (.slice none 0 0)).run P w = .ok A.isNone w := by
  have : ∀ d, (Op.equalIn (d + 1) t (.slice A n c) (.slice none 0 0)).run P w = .ok A.isNone w := fun d => by
    rw [Op.equalIn, Sem.run_bind, run_underlying hu]
    cases A <;> simp
  exact this 9999
theorem anil_ok (sat : Sat X S ν st a w) {v : A1} {b : Bool} {u : Value} (h : anil st.hp v = some (b, ps)) (hps : ∀ p ∈ ps, p) (hv : v.rel w S ν u) : ∃ A n c, u = .slice A n c ∧ A.isNone = b := by
  unfold anil at h
  split at h
  · cases h; obtain ⟨rfl, _⟩ := hv; exact ⟨_, _, _, rfl, rfl⟩
  · cases h; obtain ⟨g, N, C, oo, v1, v2, v3, v4, v5⟩ := vw_at (w := w) (S := S) hv; exact ⟨_, _, _, v2, rfl⟩
  · cases h
theorem anilN_ok (sat : Sat X S ν st a w) {v : A1} {n : Nat} {u : Value} (h : anilN st.hp v = some n) (hv : v.rel w S ν u) : ∃ A m c, u = .slice A m c ∧ (A.isNone = true → n = 0) := by
  unfold anilN at h
  split at h
  · cases h
    obtain ⟨A, c, rfl, h1, h2, h3, h4⟩ := hv
    refine ⟨_, _, _, rfl, fun hA => ?_⟩
    cases A with
    | none => have := h3 rfl; omega
    | some x => cases hA
  · split at h
    · rename_i hf
      cases h
      obtain ⟨xs, o1, o2⟩ := sat.hp _ (findOwn_ok hf).1
      obtain ⟨rfl, _⟩ := hv
      rcases o1.2 with ⟨e1, e⟩ | ⟨g, cap, cur, e, _⟩
      · exact ⟨_, _, _, e1, fun _ => e⟩
      · exact ⟨_, _, _, e, fun h => by cases h⟩
    · cases h
  · cases h
theorem run_len_sl {t e : TypeId} (ht : P.underlying t = some (.slice e)) (A : Option Addr) (n c : Nat) (ty : TypeId) (w : World) : (Builtin.cap_ #[t] ty #[.slice A n c]).run P w = .ok (.int .i64 (c : Nat)) w := by
  simp [Builtin.cap_, run_underlying ht]
  rfl
theorem yl_cap {x : Operand} {t : TypeId} {n : Nat} {c : Call} (ho : o.op = .call c) (hc : c.callee = .builtin .cap) (hx : c.args.toList = [x]) (ht : c.argTypes.toList = [t]) (hav : av = .o (.c (.int .i64 (n : Nat))))
    (h : ∀ w', (Builtin.cap_ #[t] o.type #[a.eval x]).run P w' = .ok (.int .i64 (n : Nat)) w') : Yl P Kf S ν st a w o av := by
  subst hav
  have ht' : c.argTypes = #[t] := by rw [← Array.toList_inj]; exact ht
  refine yl_pure (v := .int .i64 (n : Nat)) ⟨rfl, rfl⟩ trivial fun w' => ?_
  obtain ⟨cs, e⟩ := exec_builtin (a := a) ho hc hx ht'
  rw [e]
  simp only [builtin, List.map_cons, List.map_nil, Sem.run_bind]
  rw [h w']
  simp
theorem exec_binOp {op : BinOp} {t t' : TypeId} {x y : Operand} (ho : o.op = .binOp op t x y t') : execOp a.eval o = (do pure (.value (← (do eqGuard op t x y (a.eval x) (a.eval y); binOp op t (a.eval x) (a.eval y) : Sem Value)))) := by
  unfold execOp; rw [ho]
theorem run_isnil {op : BinOp} {t e : TypeId} {x y : Operand} (hop : op = .eql ∨ op = .neq) (hu : P.underlying t = some (.slice e)) (A : Option Addr) (n c : Nat) (w : World) :
    (do eqGuard op t x y (.slice A n c) (.slice none 0 0); binOp op t (.slice A n c) (.slice none 0 0) : Sem Value).run P w = .ok (.bool (A.isNone == (op == .eql))) w := by
  rw [Sem.run_bind, eqGuard_one rfl (by intro e; cases e)]
  have he := run_eql_nilL (P := P) hu A n c w
  rcases hop with rfl | rfl
  · simp only [Result.andThen_ok, binOp, Sem.run_bind, he, Sem.run_pure]; cases A <;> rfl
  · simp only [Result.andThen_ok, binOp, Sem.run_bind, he, Sem.run_pure]; cases A <;> rfl
theorem isSl_ok (hT : T.Ok P) {t : TypeId} (h : isSl (tlook T t) = true) : ∃ e, P.underlying t = some (.slice e) := by
  unfold isSl at h
  split at h
  · rename_i ht; exact ⟨_, und_slice hT ht⟩
  · cases h

theorem apureX_ok (hT : T.Ok P) (h : apureX T Kf o st = some (av, ps)) (hps : ∀ p ∈ ps, p) (sat : Sat X S ν st a w) : Yl P Kf S ν st a w o av := by
  unfold apureX at h
  split at h
  · -- slice
    rename_i t x lo hi mx ho
    split at h
    · rename_i zi e z1 z2 z3 z4 id sz off n k ht hx
      obtain ⟨hd2, hd3⟩ := aop_ok sat hx
      obtain ⟨g, N, C, oo, v1, v2, v3, v4, v5⟩ := vw_at (w := w) (S := S) hd2
      split at h
      · rename_i te l hh he hl hhi
        split at h
        · rename_i hsz
          cases h
          rw [vwCut_eq hl]
          have hb : 0 ≤ l ∧ l ≤ hh ∧ hh ≤ k := hps _ (by simp)
          have hsz := Nat.eq_of_beq_eq_true hsz
          subst hsz
          refine y_ret (v := .slice (if (k : Int).toNat = l.toNat then some ⟨g, oo, none⟩ else (some ⟨g, oo, none⟩ : Option Addr).map (·.add (l.toNat * te.size))) (hh.toNat - l.toNat) ((k : Int).toNat - l.toNat)) ?_ hd3 (exec_slice ho) fun w' => by
            rw [v2]; exact run_slice_gen hT (und_slice hT ht) he (optInt_ok sat hl) (optInt_ok sat hhi) (.inl ⟨rfl, rfl⟩) (by cases hi <;> rfl) (by omega) w'
          rw [Int.toNat_natCast]
          by_cases hml : k = l.toNat
          · rw [if_pos hml]
            exact ⟨g, N, C, oo, v1, rfl, by omega, by omega, fun h => by omega⟩
          · rw [if_neg hml]
            refine ⟨g, N, C, oo + l.toNat * te.size, v1, by simp [add_none'], by omega, by omega, fun _ => ?_⟩
            rw [v5 (by omega), Nat.add_mul]
        · cases h
      · rename_i te l hh m he hl hhi
        split at h
        · rename_i km mv hm hpo
          cases h
          have hb : 0 ≤ l ∧ l ≤ hh ∧ hh ≤ mv ∧ mv ≤ k := hps _ (by simp)
          have hm1 : a.eval m = .int km mv := (aop_ok sat hm).1.1
          refine y_ret (v := .slice (if mv.toNat = l.toNat then some ⟨g, oo, none⟩ else (some ⟨g, oo, none⟩ : Option Addr).map (·.add (l.toNat * te.size))) (hh.toNat - l.toNat) (mv.toNat - l.toNat)) rfl trivial (exec_slice ho) fun w' => by
            rw [v2]; exact run_slice_gen hT (und_slice hT ht) he (optInt_ok sat hl) (optInt_ok sat hhi) (.inr ⟨m, km, rfl, hm1⟩) hpo hb w'
        · cases h
      · cases h
    · rename_i zi e z1 z2 z3 z4 id ht hx
      split at h
      · rename_i te _ _ ct he hf
        split at h
        · rename_i l hh hl hhi hpo0
          have hpo := partOk2_ok hpo0
          obtain ⟨A, c, hv, hc1, hc2⟩ := own_val sat hf
          obtain ⟨⟨hx1, _⟩, _⟩ := aop_ok sat hx
          split at h
          · cases h
            have hb : 0 ≤ l ∧ l ≤ hh ∧ hh ≤ ct.n := hps _ (by simp)
            refine y_ret (v := .slice (if (c : Int).toNat = l.toNat then A else A.map (·.add (l.toNat * te.size))) (hh.toNat - l.toNat) ((c : Int).toNat - l.toNat)) rfl trivial (exec_slice ho) fun w' => by
              rw [hx1, hv]; exact run_slice_gen hT (und_slice hT ht) he (optInt_ok sat hl) (optInt_ok sat hhi) (.inl ⟨rfl, rfl⟩) hpo (by omega) w'
          · rename_i m
            split at h
            · rename_i km mv hm
              cases h
              have hb : 0 ≤ l ∧ l ≤ hh ∧ hh ≤ mv ∧ mv ≤ ct.n := hps _ (by simp)
              have hm1 : a.eval m = .int km mv := (aop_ok sat hm).1.1
              refine y_ret (v := .slice (if mv.toNat = l.toNat then A else A.map (·.add (l.toNat * te.size))) (hh.toNat - l.toNat) (mv.toNat - l.toNat)) rfl trivial (exec_slice ho) fun w' => by
                rw [hx1, hv]; exact run_slice_gen hT (und_slice hT ht) he (optInt_ok sat hl) (optInt_ok sat hhi) (.inr ⟨m, km, rfl, hm1⟩) hpo (by omega) w'
            · cases h
        · cases h
      · cases h
    · rename_i zi e z1 z2 z3 z4 ht hx
      split at h
      · rename_i te l hh m he hl hhi hm
        split at h
        · rename_i hpo
          cases h
          have hb : l = 0 ∧ hh = 0 ∧ m = 0 := hps _ (by simp)
          obtain ⟨rfl, rfl, rfl⟩ := hb
          have hx1 : a.eval x = .slice none 0 0 := (aop_ok sat hx).1.1
          refine y_ret (v := .slice none 0 0) ⟨rfl, rfl⟩ trivial (exec_slice ho) fun w' => by
            rw [hx1]; exact run_slice_gen hT (und_slice hT ht) he (optInt_ok sat hl) (optInt_ok sat hhi) (optInt_ok sat hm) hpo (by omega) w'
        · cases h
      · cases h
    · cases h
  · -- indexAddr
    rename_i t x i ho
    split at h
    · rename_i zi e z1 z2 z3 z4 id sz off n k' ik k ht hx hi
      split at h
      · rename_i te he
        split at h
        · rename_i hsz
          cases h
          have hk : 0 ≤ k ∧ k < n := hps _ (by simp)
          have hsz := Nat.eq_of_beq_eq_true hsz
          subst hsz
          obtain ⟨hd2, hd3⟩ := aop_ok sat hx
          obtain ⟨g, N, C, oo, v1, v2, v3, v4, v5⟩ := vw_at (w := w) (S := S) hd2
          have h11 : a.eval i = .int ik k := (aop_ok sat hi).1.1
          refine y_ret (f := Instr.indexAt t (a.eval x) (a.eval i)) (v := .pointer (some ⟨g, (off + k.toNat) * te.size + 0, none⟩)) ⟨g, N, C, v1, rfl⟩ hd3 ?_ fun w' => by
            rw [h11, v2]
            have := run_indexAt_slice (P := P) hT (und_slice hT ht) he (b := g) (o := oo) (c := k') (ik := ik) hk w'
            rw [this, v5 (by omega), Nat.add_mul]; rfl
          unfold execOp; rw [ho]
        · cases h
      · cases h
    · cases h
  · -- == nil
    rename_i t x t' ho
    split at h
    · rename_i v hsl hx
      split at h
      · rename_i b ps' hn
        cases h
        obtain ⟨e, hu⟩ := isSl_ok hT hsl
        have hx1 : v.rel w S ν (a.eval x) := (aop_ok sat hx).1
        obtain ⟨A, n, c, e1, e2⟩ := anil_ok sat hn hps hx1
        refine y_ret (v := .bool b) rfl trivial (exec_binOp ho) fun w' => ?_
        rw [e1, ← e2]
        have := run_isnil (P := P) (op := .eql) (x := x) (y := .const (.slice none 0 0)) (.inl rfl) hu A n c w'
        rw [show (A.isNone == (BinOp.eql == BinOp.eql)) = A.isNone by cases A <;> rfl] at this
        exact this
      · cases h
    · cases h
  · rename_i t x t' ho
    split at h
    · rename_i v hsl hx
      split at h
      · rename_i b ps' hn
        cases h
        obtain ⟨e, hu⟩ := isSl_ok hT hsl
        have hx1 : v.rel w S ν (a.eval x) := (aop_ok sat hx).1
        obtain ⟨A, n, c, e1, e2⟩ := anil_ok sat hn hps hx1
        refine y_ret (v := .bool (!b)) rfl trivial (exec_binOp ho) fun w' => ?_
        rw [e1, ← e2]
        have := run_isnil (P := P) (op := .neq) (x := x) (y := .const (.slice none 0 0)) (.inr rfl) hu A n c w'
        rw [show (A.isNone == (BinOp.neq == BinOp.eql)) = !A.isNone by cases A <;> rfl] at this
        exact this
      · cases h
    · cases h
  · -- calls
    rename_i c ho
    split at h
    · rename_i x t hc hx ht
      split at h
      · rename_i id sz off n k zi e z1 z2 z3 z4 hxs hts
        cases h
        obtain ⟨g, N, C, oo, v1, v2, v3, v4, v5⟩ := vw_at (w := w) (S := S) (aop_ok sat hxs).1
        exact yl_len sat ho hc hx ht rfl fun w' => by rw [v2]; exact run_len_slice (und_slice hT hts) _ n k _ w'
      · cases h
    · rename_i x t hc hx ht
      split at h
      · rename_i id sz off n k zi e z1 z2 z3 z4 hxs hts
        cases h
        obtain ⟨g, N, C, oo, v1, v2, v3, v4, v5⟩ := vw_at (w := w) (S := S) (aop_ok sat hxs).1
        exact yl_cap ho hc hx ht rfl fun w' => by rw [v2]; exact run_len_sl (und_slice hT hts) _ n k _ w'
      · rename_i A n k zi e z1 z2 z3 z4 hxs hts
        cases h
        have h1 : a.eval x = .slice A n k := (aop_ok sat hxs).1.1
        exact yl_cap ho hc hx ht rfl fun w' => by rw [h1]; exact run_len_sl (und_slice hT hts) _ n k _ w'
      · cases h
    · cases h
  · cases h

theorem apure_ok (hT : T.Ok P) (h : apure T Kf o st = some (av, ps)) (hps : ∀ p ∈ ps, p) (sat : Sat X S ν st a w) : Yl P Kf S ν st a w o av := by
  unfold apure at h
  split at h
  · rename_i r hr; rw [h] at hr; exact apure0_ok hT hr hps sat
  · exact apureX_ok hT h hps sat

theorem amemX_ok (hT : T.Ok P) (h : amemX T K o st = some (st', ps)) (hps : ∀ p ∈ ps, p) : StepTo P K o st (· = st') := by
  unfold amemX at h
  split at h
  · rename_i c ho
    split at h
    · rename_i d s t t' hc hx ht
      split at h
      · rename_i zi e z1 z2 z3 z4 id sz off n k vs htt hd hs
        split at h
        · rename_i te E sz' ct rest m src qs he htk hsrc
          split at h
          · rename_i hsz hsz'
            have hsz := Nat.eq_of_beq_eq_true hsz
            have hsz' := Nat.eq_of_beq_eq_true hsz'
            subst hsz'; subst hsz
            cases h
            obtain ⟨q1, q2⟩ := cutX_ok (st := st) (hT.get he).1.pos hsrc fun p hp => hps p (List.mem_cons_of_mem _ hp)
            exact m_copy hT ho hc hx ht (und_slice hT htt) he hd rfl htk hs q1 q2 (hps _ (List.mem_cons_self ..))
          · cases h
        · cases h
      · cases h
    · rename_i d s t u hc hx ht
      split at h
      · rename_i zi e z1 z2 z3 z4 id sz off n k vs htt hd hs
        split at h
        · rename_i te E sz' ct rest src qs he htk hsrc
          split at h
          · rename_i hsz hsz' htu
            have hsz := Nat.eq_of_beq_eq_true hsz
            have hsz' := Nat.eq_of_beq_eq_true hsz'
            have htu := Nat.eq_of_beq_eq_true htu
            subst hsz'; subst htu; subst hsz
            cases h
            exact m_appIn hT ho hc hx ht (und_slice hT htt) he hd rfl htk hs (srcX_ok (hT.get he).1.pos hsrc fun p hp => hps p (List.mem_cons_of_mem _ (List.mem_cons_of_mem _ hp))) (hps _ (List.mem_cons_self ..)) (hps _ (List.mem_cons_of_mem _ (List.mem_cons_self ..)))
          · cases h
        · cases h
      · rename_i zi e z1 z2 z3 z4 kq n htt hd hs
        split at h
        · rename_i te zi' ik z1' z2' z3' z4' he hu
          cases h
          exact m_zeros hT ho hc hx ht (und_slice hT htt) (und_int hT hu) he hd hs (hps _ (by simp))
        · cases h
      · rename_i zi e z1 z2 z3 z4 vs hnn htt hd hs
        split at h
        · rename_i te he
          split at h
          · rename_i src qs hsrc hby htu
            have htu := Nat.eq_of_beq_eq_true htu
            subst htu
            cases h
            exact m_appendX hT ho hc hx ht (und_slice hT htt) he hd (.inr ⟨rfl, rfl, rfl⟩) hs (srcX_ok (hT.get he).1.pos hsrc fun p hp => hps p (List.mem_cons_of_mem _ hp)) (Nat.le_of_ble_eq_true hby) (by have h1 : src.n * te.bytes ≤ 140737488355328 := hps _ (List.mem_cons_self ..); simpa [nilC] using h1)
          · cases h
        · cases h
      · rename_i zi e z1 z2 z3 z4 id vs htt hd hs
        split at h
        · rename_i te E sz ct rest he htk
          split at h
          · rename_i src qs hsrc hby htu hE hsz
            have htu := Nat.eq_of_beq_eq_true htu
            have hE := Nat.eq_of_beq_eq_true hE
            have hsz := Nat.eq_of_beq_eq_true hsz
            subst htu; subst hE; subst hsz
            cases h
            exact m_appendX hT ho hc hx ht (und_slice hT htt) he hd (.inl ⟨id, rfl, htk⟩) hs (srcX_ok (hT.get he).1.pos hsrc fun p hp => hps p (List.mem_cons_of_mem _ hp)) (Nat.le_of_ble_eq_true hby) (hps _ (List.mem_cons_self ..))
          · cases h
        · cases h
      · cases h
    · rename_i d t hc hx ht
      split at h
      · rename_i zi e z1 z2 z3 z4 id sz off n k hdst htt hd
        split at h
        · rename_i te E sz' ct rest he htk
          split at h
          · rename_i hsz hsz'
            have hsz := Nat.eq_of_beq_eq_true hsz
            have hsz' := Nat.eq_of_beq_eq_true hsz'
            subst hsz'
            cases h
            exact m_clear hT ho hdst hc hx ht (und_slice hT htt) he hd hsz htk (hps _ (by simp))
          · cases h
        · cases h
      · cases h
    · cases h
  · cases h
theorem amem_ok (hT : T.Ok P) (h : amem T K o st = some (st', ps)) (hps : ∀ p ∈ ps, p) : StepTo P K o st (· = st') := by
  unfold amem at h
  split at h
  · rename_i r hr; rw [h] at hr; exact amem0_ok hT hr hps
  · exact amemX_ok hT h hps

/-- Is a slice nil? If it has elements it is not. -/
theorem m_isnil (hT : T.Ok P) {op : BinOp} {t t' : TypeId} {x : Operand} {v : A1} {n : Nat} (ho : o.op = .binOp op t x (.const (.slice none 0 0)) t') (hop : op = .eql ∨ op = .neq) (hsl : isSl (tlook T t) = true) (hx : aop st x = some (.o v)) (hn : anilN st.hp v = some n) :
    StepTo P K o st (fun s => ∃ b : Bool, (b = true → n = 0) ∧ s = st.put o.dst (.o (.c (.bool (b == (op == .eql)))))) := by
  intro X S ν a w Q K' hd sat hk
  obtain ⟨e, hu⟩ := isSl_ok hT hsl
  have hx1 : v.rel w S ν (a.eval x) := (aop_ok sat hx).1
  obtain ⟨A, m, c, e1, h1⟩ := anilN_ok sat hn hx1
  have hr := run_isnil (P := P) (op := op) (x := x) (y := .const (.slice none 0 0)) hop hu A m c w
  rw [← e1] at hr
  refine wp_value (w' := w) (u := .bool (A.isNone == (op == .eql))) ?_ (hk _ S ν _ _ ⟨A.isNone, h1, rfl⟩ (sat.put hd ⟨rfl, rfl⟩ trivial) ⟨Nat.le_refl _, fun _ h => h, fun ch hc hk => ⟨by rw [(AS.put_hp _ _ _).1]; exact hc, rfl⟩, fun _ _ => rfl⟩)
  rw [exec_binOp ho, Sem.run_bind]
  have hr' : (do eqGuard op t x (.const (.slice none 0 0)) (a.eval x) (a.eval (.const (.slice none 0 0))); binOp op t (a.eval x) (a.eval (.const (.slice none 0 0))) : Sem Value).run P w = .ok (.bool (A.isNone == (op == .eql))) w := hr
  rw [hr']; rfl
end
end Go.Proofs.Ytfcihdkflnpcgaa.Am
