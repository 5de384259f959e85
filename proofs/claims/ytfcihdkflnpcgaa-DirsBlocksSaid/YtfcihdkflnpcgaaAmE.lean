/- The abstract machine: the logic: plain regions, control, loops. No program is named. -/
import Derived.Test.YtfcihdkflnpcgaaAmY
import Derived.Sort.LoopGhostIn
import Derived.RangeFuncFrom
import Derived.RangeFuncCalls
namespace Go.Proofs.Ytfcihdkflnpcgaa.Am
open Go.RowKit Lw

/-- The fence of a round that fences nothing. -/
abbrev RF (l : Nat) : Fence := Fence.wide.inRound l
/-- A fence that fences nothing. -/
class Free (F : Fence) : Prop where
  out : F = Fence.wide ∨ ∃ l, F = RF l
instance : Free Fence.wide := ⟨.inl rfl⟩
instance (l : Nat) : Free (RF l) := ⟨.inr ⟨l, rfl⟩⟩
theorem Free.fn {F : Fence} (h : Free F) (f : FuncId) : F.fn f := by
  rcases h.out with rfl | ⟨l, rfl⟩ <;> exact trivial
theorem Free.depth {F : Fence} (h : Free F) : F.depth = none := by
  rcases h.out with rfl | ⟨l, rfl⟩ <;> rfl
theorem Free.sem {F : Fence} (h : Free F) {o : Oper} (hd : ∀ c, o.op ≠ .defer c) (ρ : Operand → Value) : Oper.semAt F.round ρ o = execOp ρ o := by
  rcases h.out with rfl | ⟨l, rfl⟩
  · exact Oper.semAt_none ..
  · rw [Fence.inRound_round]; exact Oper.semAt_some l _ _ hd
theorem Free.calls {F : Fence} (h : Free F) {n : Nat} {P : Program} {f : FuncId} {args : Array Value} {w : World} {R : Ending → World → Prop} (hc : Calls P f args w R) : CallsIn F n P f args w R := by
  rcases h.out with rfl | ⟨l, rfl⟩
  · exact callsIn_wide.2 hc
  · exact CallsIn.inRound l (callsIn_wide.2 hc)
/-- What an operation does outside of rounds it does in them. -/
theorem wp_free {F : Fence} (hF : Free F) {n : Nat} {P : Program} {Q : Exit → Act → World → Prop} {o : Oper} {a : Act} {w : World} {next next' : Act → World → Prop} (hd : ∀ c, o.op ≠ .defer c) (h : o.wp P a w next Q) (hn : ∀ a w, next a w → next' a w) : o.wpIn F n P a w next' Q := by
  refine ⟨fun f _ => hF.fn f, ?_⟩
  rw [hF.sem hd]
  have hdp : F.depth.isSome = true → 1 ≤ n := by rw [hF.depth]; intro h; cases h
  unfold Oper.wp at h
  revert h
  cases (execOp a.eval o).run P w with
  | ok x w' =>
    cases x with
    | value v => exact hn _ _
    | skip => exact hn _ _
    | defer d => exact hn _ _
    | enter f args =>
      intro h
      refine ⟨hdp, hF.calls (Calls.mono h fun e w' he => ?_)⟩
      cases e with
      | returned v => exact hn _ _ he
      | panicked c => exact he
      | outgrown => exact he
    | row r args =>
      intro h
      refine ⟨hdp, fun c cs _ => ?_⟩
      obtain ⟨v, w', h1, h2⟩ := h c cs
      refine ⟨v, w', hn _ _ h1, ?_⟩
      rcases hF.out with rfl | ⟨l, rfl⟩ <;> exact stepsIn_wide.2 h2
    | _ => exact False.elim
  | halt r w' =>
    cases r with
    | panic v => exact id
    | _ => exact False.elim

/-- In every frame and world that st describes, R. -/
def TE (X : Cx) (R : Act → World → Prop) (st : AS) : Prop := ∀ S ν a w, Sat X S ν st a w → R a w

def nthO : List Oper → Nat → Option Oper
  | [], _ => none
  | o :: _, 0 => some o
  | _ :: os, i + 1 => nthO os i
theorem nthO_eq : ∀ (l : List Oper) (i : Nat), nthO l i = l[i]?
  | [], _ => by simp [nthO]
  | _ :: _, 0 => rfl
  | _ :: l, i + 1 => by simp [nthO, nthO_eq l i]
def dstOk (N : Nat) (o : Oper) : Bool := match o.dst with
  | none => true
  | some d => Nat.blt d N
def aguard (all : List Oper) (st : AS) (o : Oper) : Option Bool :=
  match o.guard with
  | none => some true
  | some (j, want) => match nthO all j with
    | some oj => match oj.dst with
      | some t => match look st.env t with
        | some (.o (.c (.bool b))) => match b, want with
          | true, true => some true
          | false, false => some true
          | true, false => some false
          | false, true => some false
        | some (.t []) => some false
        | _ => none
      | none => none
    | none => none
def appP : List Prop → List Prop → List Prop
  | [], q => q
  | p :: ps, q => p :: appP ps q
theorem mem_appP {p : Prop} : ∀ {a b : List Prop}, p ∈ appP a b ↔ p ∈ a ∨ p ∈ b
  | [], b => by simp [appP]
  | q :: a, b => by simp [appP, mem_appP (a := a), or_assoc]

def appK {α : Type} : List Prop → List Prop → (List Prop → α) → α
  | [], q, k => k q
  | p :: ps, q, k => appK ps q fun l => k (p :: l)
theorem appK_eq {α : Type} : ∀ (a b : List Prop) (k : List Prop → α), appK a b k = k (appP a b)
  | [], _, _ => rfl
  | p :: ps, q, k => by rw [appK, appK_eq ps]; rfl
/-- The number, written out. -/
def normN {α : Type} (n : Nat) (k : Nat → α) : α := match n with
  | 0 => k 0 | 1 => k 1 | 2 => k 2 | 3 => k 3 | 4 => k 4 | 5 => k 5 | 6 => k 6 | 7 => k 7 | 8 => k 8 | 9 => k 9 | 10 => k 10 | 11 => k 11 | 12 => k 12 | 13 => k 13 | 14 => k 14 | 15 => k 15 | 16 => k 16 | 17 => k 17 | 18 => k 18 | 19 => k 19 | 20 => k 20 | 21 => k 21 | 22 => k 22 | 23 => k 23 | 24 => k 24 | 25 => k 25 | 26 => k 26 | 27 => k 27 | 28 => k 28 | 29 => k 29 | 30 => k 30 | 31 => k 31 | 32 => k 32 | 33 => k 33 | 34 => k 34 | 35 => k 35 | 36 => k 36 | 37 => k 37 | 38 => k 38 | 39 => k 39 | 40 => k 40 | 41 => k 41 | 42 => k 42 | 43 => k 43 | 44 => k 44 | 45 => k 45 | 46 => k 46 | 47 => k 47 | 48 => k 48 | 49 => k 49 | 50 => k 50 | 51 => k 51 | 52 => k 52 | 53 => k 53 | 54 => k 54 | 55 => k 55 | 56 => k 56 | 57 => k 57 | 58 => k 58 | 59 => k 59 | 60 => k 60 | 61 => k 61 | 62 => k 62 | 63 => k 63
  | n => k n
theorem normN_eq {α : Type} (n : Nat) (k : Nat → α) : normN n k = k n := by
  unfold normN
  split <;> rfl
def forceA {α : Type} (a : A1) (k : A1 → α) : α := match a with
  | .c v => k (.c v)
  | .sb b => k (.sb b)
  | .ro sz n cell => k (.ro sz n cell)
  | .own id => normN id fun id => k (.own id)
  | .ptr id off => normN id fun id => normN off fun off => k (.ptr id off)
  | .eptr sz cell i off => normN off fun off => k (.eptr sz cell i off)
  | .optr id sz i off => normN id fun id => normN off fun off => k (.optr id sz i off)
  | .any => k .any
  | .vw id sz off n c => normN id fun id => k (.vw id sz off n c)
  | .clo f caps => forceCaps caps fun caps => k (.clo f caps)
where
  forceCaps : List (Nat × Nat) → (List (Nat × Nat) → α) → α
  | [], k => k []
  | (i, off) :: r, k => normN i fun i => normN off fun off => forceCaps r fun r => k ((i, off) :: r)
def forceL {α : Type} : List A1 → (List A1 → α) → α
  | [], k => k []
  | a :: as, k => forceA a fun a => forceL as fun as => k (a :: as)
def forceT {α : Type} : List (Sum A1 (List A1)) → (List (Sum A1 (List A1)) → α) → α
  | [], k => k []
  | .inl a :: r, k => forceA a fun a => forceT r fun r => k (.inl a :: r)
  | .inr as :: r, k => forceL as fun as => forceT r fun r => k (.inr as :: r)
def forceV {α : Type} (v : AV) (k : AV → α) : α := match v with
  | .o a => forceA a fun a => k (.o a)
  | .g as => forceL as fun as => k (.g as)
  | .t xs => forceT xs fun xs => k (.t xs)
def forceE {α : Type} : Env → (Env → α) → α
  | [], k => k []
  | (t, v) :: e, k => forceV v fun v => forceE e fun e => k ((t, v) :: e)
def forceH {α : Type} : List Chunk → (List Chunk → α) → α
  | [], k => k []
  | .box id T cells :: r, k => normN id fun id => forceL cells fun cells => forceH r fun r => k (.box id T cells :: r)
  | .own id E sz ct :: r, k => normN id fun id => normN sz fun sz => forceH r fun r => k (.own id E sz ct :: r)
  | .obj id ob :: r, k => normN id fun id => forceH r fun r => k (.obj id ob :: r)
  | .nest id E ct j :: r, k => normN id fun id => normN j fun j => forceH r fun r => k (.nest id E ct j :: r)
def AS.force {α : Type} (st : AS) (k : AS → α) : α := match st with
  | ⟨e, h, n⟩ => forceE e fun e => forceH h fun h => normN n fun n => k ⟨e, h, n⟩
theorem forceCaps_eq {α : Type} : ∀ (l : List (Nat × Nat)) (k : List (Nat × Nat) → α), forceA.forceCaps l k = k l
  | [], _ => rfl
  | (i, off) :: r, k => by rw [forceA.forceCaps, normN_eq, normN_eq, forceCaps_eq r]
theorem forceA_eq {α : Type} (a : A1) (k : A1 → α) : forceA a k = k a := by
  cases a <;> simp only [forceA, normN_eq, forceCaps_eq]
theorem forceL_eq {α : Type} : ∀ (l : List A1) (k : List A1 → α), forceL l k = k l
  | [], _ => rfl
  | a :: as, k => by rw [forceL, forceA_eq, forceL_eq as]
theorem forceT_eq {α : Type} : ∀ (l : List (Sum A1 (List A1))) (k : List (Sum A1 (List A1)) → α), forceT l k = k l
  | [], _ => rfl
  | .inl a :: as, k => by rw [forceT, forceA_eq, forceT_eq as]
  | .inr a :: as, k => by rw [forceT, forceL_eq, forceT_eq as]
theorem forceV_eq {α : Type} (v : AV) (k : AV → α) : forceV v k = k v := by
  cases v <;> simp only [forceV, forceA_eq, forceL_eq, forceT_eq]
theorem forceE_eq {α : Type} : ∀ (l : Env) (k : Env → α), forceE l k = k l
  | [], _ => rfl
  | (t, v) :: e, k => by rw [forceE, forceV_eq, forceE_eq e]
theorem forceH_eq {α : Type} : ∀ (l : List Chunk) (k : List Chunk → α), forceH l k = k l
  | [], _ => rfl
  | .box id T cells :: r, k => by rw [forceH, normN_eq, forceL_eq, forceH_eq r]
  | .own id E sz ct :: r, k => by rw [forceH, normN_eq, normN_eq, forceH_eq r]
  | .obj id ob :: r, k => by rw [forceH, normN_eq, forceH_eq r]
  | .nest id E ct j :: r, k => by rw [forceH, normN_eq, normN_eq, forceH_eq r]
theorem AS.force_eq {α : Type} (st : AS) (k : AS → α) : st.force k = k st := by
  cases st
  simp only [AS.force, forceE_eq, forceH_eq, normN_eq]

def arun (T : Tys) (N : Nat) (all : List Oper) : List Oper → AS → List Prop → List Oper × AS × List Prop
  | [], st, ps => ([], st, ps)
  | o :: r, st, ps => match dstOk N o, aguard all st o with
    | true, some false => (st.put o.dst (.t [])).force fun s => arun T N all r s ps
    | true, some true => match apure T (fun _ => true) o st with
      | some (av, qs) => appK qs ps fun ps => (st.put o.dst av).force fun s => arun T N all r s ps
      | none => match amem T (fun _ => false) o st with
        | some (st', qs) => appK qs ps fun ps => st'.force fun s => arun T N all r s ps
        | none => (o :: r, st, ps)
    | _, _ => (o :: r, st, ps)
/-- All of them. -/
def AllP : List Prop → Prop
  | [] => True
  | [p] => p
  | p :: ps => p ∧ AllP ps
theorem AllP.mem : ∀ {ps : List Prop}, AllP ps → ∀ p ∈ ps, p
  | [], _, _, h => by cases h
  | [p], h, q, hq => by rw [List.mem_singleton.1 hq]; exact h
  | p :: q :: ps, h, r, hr => by
    rcases List.mem_cons.1 hr with rfl | hr
    · exact h.1
    · exact AllP.mem h.2 r hr

section
variable {F : Fence} {P : Program} {T : Tys} {X : Cx} {st st' : AS} {Q : Exit → Act → World → Prop} {ops : Array Oper} {R : Act → World → Prop}

theorem dstOk_spec {N : Nat} {o : Oper} (h : dstOk N o = true) : ∀ d, o.dst = some d → d < N := by
  intro d hd
  unfold dstOk at h
  rw [hd] at h
  exact Nat.le_of_ble_eq_true h
theorem aguard_ok {S : Nat → Prop} {ν : Nat → Value} {a : Act} {w : World} (sat : Sat X S ν st a w) {o : Oper} {b : Bool} (h : aguard ops.toList st o = some b) : Region.wanted o (yielded ops a.tmps) = b := by
  unfold aguard at h
  unfold Region.wanted
  split at h
  · rename_i hg; rw [hg]; cases h; rfl
  · rename_i j want hg
    rw [hg]
    split at h
    · rename_i oj hoj
      split at h
      · rename_i t ht
        have hy : yielded ops a.tmps j = match a.tmps[t]? with | some (.bool b) => some b | _ => none := by
          rw [nthO_eq] at hoj
          have : ops[j]? = some oj := by rw [← Array.getElem?_toList]; exact hoj
          unfold yielded
          simp [this, ht]
          rfl
        split at h
        · rename_i b' hl
          have hm := sat.env _ (look_mem hl)
          have hv : a.tmps.getD t undef = .bool b' := hm.2.1
          have hlt : t < a.tmps.size := by rw [sat.size]; exact hm.1
          have hq : a.tmps[t]? = some (.bool b') := by
            rw [Array.getElem?_eq_getElem hlt]; simp [hlt] at hv; rw [hv]
          simp only [hy, hq]
          split at h <;> cases h <;> rfl
        · rename_i hl
          cases h
          have hm := sat.env _ (look_mem hl)
          obtain ⟨us, hv, hu⟩ := hm.2
          have hlt : t < a.tmps.size := by rw [sat.size]; exact hm.1
          have hus : us = [] := by
            cases us with
            | nil => rfl
            | cons u us => exact hu.elim
          subst hus
          have hq : a.tmps[t]? = some (.tuple #[]) := by
            rw [Array.getElem?_eq_getElem hlt]; simp [hlt] at hv; rw [hv]
          simp only [hy, hq]
          rfl
        · cases h
      · cases h
    · cases h

theorem apure_nd {o : Oper} {x : AV × List Prop} {Kf : Nat → Bool} (h : apure T Kf o st = some x) : ∀ c, o.op ≠ .defer c := by
  intro c hc
  simp [apure, apure0, apureX, hc] at h
theorem amem_nd {o : Oper} {x : AS × List Prop} {Kf : Nat → Bool} (h : amem T Kf o st = some x) : ∀ c, o.op ≠ .defer c := by
  intro c hc
  simp [amem, amem0, amemX, hc] at h
theorem apure_wp [hF : Free F] (hT : T.Ok P) {o : Oper} {av : AV} {ps : List Prop} {Kf : Nat → Bool} (h : apure T Kf o st = some (av, ps)) (hps : ∀ p ∈ ps, p) {S : Nat → Prop} {ν : Nat → Value} {a : Act} {w : World} (sat : Sat X S ν st a w) (hd : ∀ d, o.dst = some d → d < X.N) {K' : Act → World → Prop} (hk : TE X K' (st.put o.dst av)) : o.wpIn F 0 P a w K' Q := by
  obtain ⟨u, h1, h2, h3⟩ := apure_ok hT h hps sat
  exact wp_free hF (apure_nd h) (wp_value (h3 w (Ag.refl _ _ _ _ _)) (hk S ν _ w (sat.put hd h1 h2))) fun _ _ h => h

/-- As many operations of a plain region as the machine can carry out. -/
theorem TE.run_aux [hF : Free F] (hT : T.Ok P) : ∀ {rest : List Oper} {st : AS} {acc : List Prop} {rest' : List Oper} {st' : AS} {ps : List Prop}, arun T X.N ops.toList rest st acc = (rest', st', ps) → (∀ p ∈ ps, p) → TE X (wpListIn F 0 P ops Q rest') st' → TE X (wpListIn F 0 P ops Q rest) st ∧ ∀ p ∈ acc, p
  | [], st, acc, rest', st', ps, h, hps, hk => by
    simp only [arun] at h
    cases h
    exact ⟨hk, hps⟩
  | o :: r, st, acc, rest', st', ps, h, hps, hk => by
    simp only [arun, AS.force_eq, appK_eq] at h
    split at h
    · rename_i hd hg
      obtain ⟨h1, h2⟩ := TE.run_aux hT h hps hk
      refine ⟨fun S ν a w sat => ?_, h2⟩
      have hw := aguard_ok sat hg
      simp only [wpListIn, hw]
      exact ⟨fun f _ => hF.fn f, h1 S ν _ w (sat.put (dstOk_spec hd) ⟨[], rfl, trivial⟩ (fun x hx => by cases hx))⟩
    · rename_i hd hg
      split at h
      · rename_i av qs ha
        obtain ⟨h1, h2⟩ := TE.run_aux hT h hps hk
        refine ⟨fun S ν a w sat => ?_, fun p hp => h2 p (mem_appP.2 (.inr hp))⟩
        have hw := aguard_ok sat hg
        simp only [wpListIn, hw, if_true]
        exact (apure_wp hT ha (fun p hp => h2 p (mem_appP.2 (.inl hp))) sat (dstOk_spec hd) h1)
      · split at h
        · rename_i st1 qs ha
          obtain ⟨h1, h2⟩ := TE.run_aux hT h hps hk
          refine ⟨fun S ν a w sat => ?_, fun p hp => h2 p (mem_appP.2 (.inr hp))⟩
          have hw := aguard_ok sat hg
          simp only [wpListIn, hw, if_true]
          refine wp_free hF (amem_nd ha) (amem_ok hT ha (fun p hp => h2 p (mem_appP.2 (.inl hp))) X S ν a w Q _ (dstOk_spec hd) sat fun s2 S2 ν2 a2 w2 e hs _ => ?_) fun _ _ h => h
          subst e
          exact h1 S2 ν2 a2 w2 hs
        · cases h; exact ⟨hk, hps⟩
    · cases h; exact ⟨hk, hps⟩
theorem TE.run [hF : Free F] (hT : T.Ok P) {N : Nat} {l rest rest' : List Oper} {ps : List Prop} (hN : X.N = N) (h : st.force (fun s => arun T N l rest s []) = (rest', st', ps)) (hps : AllP ps) (hk : TE X (wpListIn F 0 P l.toArray Q rest') st') : TE X (wpListIn F 0 P l.toArray Q rest) st := by
  subst hN
  rw [AS.force_eq] at h
  exact (TE.run_aux (ops := l.toArray) hT (by simpa using h) hps.mem hk).1
theorem TE.norm (h : st.force (fun s => s) = st') (hk : TE X R st') : TE X R st := by
  rw [AS.force_eq] at h; subst h; exact hk

/-- One operation by a law of its own. -/
theorem TE.step [hF : Free F] {l : List Oper} {o : Oper} {rest : List Oper} {R' : AS → Prop} {N : Nat} (hN : X.N = N) (hd : dstOk N o = true) (hg : aguard l st o = some true) (hnd : ∀ c, o.op ≠ .defer c) (h : StepTo P (fun _ => false) o st R') (hk : ∀ s, R' s → TE X (wpListIn F 0 P l.toArray Q rest) s) : TE X (wpListIn F 0 P l.toArray Q (o :: rest)) st := by
  subst hN
  intro S ν a w sat
  have hw := aguard_ok (ops := l.toArray) sat (by simpa using hg)
  simp only [wpListIn, hw, if_true]
  exact wp_free hF hnd (h X S ν a w Q _ (dstOk_spec hd) sat fun s2 S2 ν2 a2 w2 e hs _ => hk s2 e S2 ν2 a2 w2 hs) fun _ _ h => h

theorem TE.done {l : List Oper} (h : TE X (Q .normal) st) : TE X (wpListIn F 0 P l.toArray Q []) st := h
theorem TE.region {id : Nat} {l : List Oper} (h : TE X (wpListIn F 0 P l.toArray Q l) st) : TE X ((Code.region id l.toArray false).wpIn F 0 P Q) st := fun S ν a w sat => wpIn_region_lit (h S ν a w sat)
theorem TE.seq {x y : Code} (h : TE X (x.wpIn F 0 P (Exit.then (y.wpIn F 0 P Q) Q)) st) : TE X ((Code.seq x y).wpIn F 0 P Q) st := fun S ν a w sat => wpIn_seq (h S ν a w sat)
theorem TE.skip (h : TE X (Q .normal) st) : TE X (Code.skip.wpIn F 0 P Q) st := fun S ν a w sat => wpIn_skip (h S ν a w sat)
theorem TE.block {id : Nat} {c : Code} (h : TE X (c.wpIn F 0 P (Exit.inBlock id Q)) st) : TE X ((Code.block id c).wpIn F 0 P Q) st := fun S ν a w sat => wpIn_block (h S ν a w sat)
theorem TE.exit {id : Nat} (h : TE X (Q (.exit id)) st) : TE X ((Code.exit id).wpIn F 0 P Q) st := fun S ν a w sat => wpIn_exit (h S ν a w sat)
theorem TE.ret (h : TE X (Q .ret) st) : TE X (Code.ret.wpIn F 0 P Q) st := fun S ν a w sat => wpIn_ret (h S ν a w sat)
theorem TE.label {l : Nat} (h : TE X (Q .normal) st) : TE X ((Code.label l).wpIn F 0 P Q) st := fun S ν a w sat => wpIn_label (h S ν a w sat)
theorem TE.cond_true {c : Operand} {x y : Code} (hc : aop st c = some (.o (.c (.bool true)))) (h : TE X (x.wpIn F 0 P Q) st) : TE X ((Code.cond c x y).wpIn F 0 P Q) st :=
  fun S ν a w sat => wpIn_cond_true (aop_ok sat hc).1.1 (h S ν a w sat)
theorem TE.cond_false {c : Operand} {x y : Code} (hc : aop st c = some (.o (.c (.bool false)))) (h : TE X (y.wpIn F 0 P Q) st) : TE X ((Code.cond c x y).wpIn F 0 P Q) st :=
  fun S ν a w sat => wpIn_cond_false (aop_ok sat hc).1.1 (h S ν a w sat)
theorem TE.cond_split {t : Nat} {b : Bool} {x y : Code} (hc : look st.env t = some (.o (.sb b))) (ht : b = true → TE X (x.wpIn F 0 P Q) st) (hf : b = false → TE X (y.wpIn F 0 P Q) st) : TE X ((Code.cond (.tmp t) x y).wpIn F 0 P Q) st := by
  intro S ν a w sat
  have : a.eval (.tmp t) = .bool b := (sat.env _ (look_mem hc)).2
  exact wpIn_cond_split this (fun e => ht e S ν a w sat) (fun e => hf e S ν a w sat)

theorem TE.thenN {K : Act → World → Prop} (h : TE X K st) : TE X (Exit.then K Q .normal) st := h
theorem TE.thenE {K : Act → World → Prop} {i : Nat} (h : TE X (Q (.exit i)) st) : TE X (Exit.then K Q (.exit i)) st := h
theorem TE.thenR {K : Act → World → Prop} (h : TE X (Q .ret) st) : TE X (Exit.then K Q .ret) st := h
theorem TE.inN {i : Nat} (h : TE X (Q .normal) st) : TE X (Exit.inBlock i Q .normal) st := h
theorem TE.inR {i : Nat} (h : TE X (Q .ret) st) : TE X (Exit.inBlock i Q .ret) st := h
theorem TE.inHit {i : Nat} (h : TE X (Q .normal) st) : TE X (Exit.inBlock i Q (.exit i)) st := fun S ν a w sat => by
  show Exit.inBlock i Q (.exit i) a w
  simp only [Exit.inBlock, if_true]; exact h S ν a w sat
theorem TE.inMiss {i j : Nat} (hj : Nat.beq j i = false) (h : TE X (Q (.exit j)) st) : TE X (Exit.inBlock i Q (.exit j)) st := fun S ν a w sat => by
  have : ¬ j = i := fun e => by subst e; rw [Nat.beq_refl] at hj; cases hj
  show Exit.inBlock i Q (.exit j) a w
  simp only [Exit.inBlock, this, if_false]; exact h S ν a w sat

/-- A bool that is not yet decided. -/
theorem TE.split {t : Nat} {b : Bool} (hc : look st.env t = some (.o (.sb b))) (ht : b = true → TE X R (st.put (some t) (.o (.c (.bool true))))) (hf : b = false → TE X R (st.put (some t) (.o (.c (.bool false))))) : TE X R st := by
  intro S ν a w sat
  have hm := sat.env _ (look_mem hc)
  have hv : a.tmps.getD t undef = .bool b := hm.2
  have key : ∀ b', b = b' → Sat X S ν (st.put (some t) (.o (.c (.bool b')))) a w := by
    rintro b' rfl
    exact sat.reput hm.1 ⟨hv, rfl⟩ trivial
  cases b
  · exact hf rfl S ν a w (key _ rfl)
  · exact ht rfl S ν a w (key _ rfl)

/-! ### A state that says less -/
def A1.ren (f : Nat → Nat) : A1 → A1
  | .own id => .own (f id)
  | .ptr id off => .ptr (f id) off
  | .optr id sz k off => .optr (f id) sz k off
  | .vw id sz off n k => .vw (f id) sz off n k
  | .clo g caps => .clo g (caps.map fun p => (f p.1, p.2))
  | a => a
def sumRen (f : Nat → Nat) : Sum A1 (List A1) → Sum A1 (List A1)
  | .inl a => .inl (a.ren f)
  | .inr as => .inr (as.map (A1.ren f))
def AV.ren (f : Nat → Nat) : AV → AV
  | .o a => .o (a.ren f)
  | .g as => .g (as.map (A1.ren f))
  | .t xs => .t (xs.map (sumRen f))
def Chunk.ren (f : Nat → Nat) : Chunk → Chunk
  | .box id T cells => .box (f id) T (cells.map (A1.ren f))
  | .own id E sz ct => .own (f id) E sz ct
  | .obj id ob => .obj (f id) ob
  | .nest id E ct j => .nest (f id) E ct (f j)

theorem All2.map_iff {α β γ : Type} {R : β → γ → Prop} {R' : α → γ → Prop} {f : α → β} (h : ∀ a c, R (f a) c ↔ R' a c) : ∀ {as : List α} {cs : List γ}, All2 R (as.map f) cs ↔ All2 R' as cs
  | [], [] => Iff.rfl
  | [], _ :: _ => Iff.rfl
  | _ :: _, [] => Iff.rfl
  | a :: as, c :: cs => by simp only [List.map_cons, All2]; rw [h, All2.map_iff h (as := as)]
theorem ptrRel_ren {ν : Nat → Value} {f : Nat → Nat} (p : Nat × Nat) (u : Value) : ptrRel ν (f p.1, p.2) u ↔ ptrRel (fun i => ν (f i)) p u := Iff.rfl
theorem A1.rel_ren {w : World} {S : Nat → Prop} {ν : Nat → Value} {f : Nat → Nat} (a : A1) (u : Value) : (a.ren f).rel w S ν u ↔ a.rel w S (fun i => ν (f i)) u := by
  cases a <;> try exact Iff.rfl
  rename_i g caps
  show (∃ us, _) ↔ ∃ us, _
  refine exists_congr fun us => and_congr Iff.rfl ?_
  exact All2.map_iff fun p u => ptrRel_ren p u
theorem sumRel_ren {w : World} {S : Nat → Prop} {ν : Nat → Value} {f : Nat → Nat} (x : Sum A1 (List A1)) (u : Value) : sumRel w S ν (sumRen f x) u ↔ sumRel w S (fun i => ν (f i)) x u := by
  cases x with
  | inl a => exact A1.rel_ren a u
  | inr as =>
    show (∃ us, _) ↔ ∃ us, _
    exact exists_congr fun us => and_congr Iff.rfl (All2.map_iff fun a u => A1.rel_ren a u)
theorem AV.rel_ren {w : World} {S : Nat → Prop} {ν : Nat → Value} {f : Nat → Nat} (x : AV) (u : Value) : (x.ren f).rel w S ν u ↔ x.rel w S (fun i => ν (f i)) u := by
  cases x with
  | o a => exact A1.rel_ren a u
  | g as =>
    show (∃ us, _) ↔ ∃ us, _
    exact exists_congr fun us => and_congr Iff.rfl (All2.map_iff fun a u => A1.rel_ren a u)
  | t xs =>
    show (∃ us, _) ↔ ∃ us, _
    exact exists_congr fun us => and_congr Iff.rfl (All2.map_iff fun a u => sumRel_ren a u)
theorem Chunk.blk_ren {ν : Nat → Value} {f : Nat → Nat} (c : Chunk) : (c.ren f).blk ν = c.blk (fun i => ν (f i)) := by cases c <;> rfl
theorem Chunk.holds_ren {w : World} {S : Nat → Prop} {ν : Nat → Value} {f : Nat → Nat} (c : Chunk) : (c.ren f).holds w S ν ↔ c.holds w S (fun i => ν (f i)) := by
  cases c with
  | own id E sz ct => exact Iff.rfl
  | obj id ob => exact Iff.rfl
  | nest id E ct j => exact Iff.rfl
  | box id T cells =>
    show (∃ b us, _) ↔ ∃ b us, _
    exact exists_congr fun b => exists_congr fun us => and_congr Iff.rfl (and_congr Iff.rfl (All2.map_iff fun a u => A1.rel_ren a u))
theorem blks_ren {ν : Nat → Value} {f : Nat → Nat} : ∀ (l : List Chunk), blks ν (l.map (Chunk.ren f)) = blks (fun i => ν (f i)) l
  | [] => rfl
  | c :: l => by
    have := blks_ren (ν := ν) (f := f) l
    unfold blks at *
    rw [List.map_cons, List.filterMap_cons, List.filterMap_cons, Chunk.blk_ren, this]

def LeA (a b : A1) : Prop := ∀ w S ν u, a.rel w S ν u → b.rel w S ν u
def LeV (a b : AV) : Prop := ∀ w S ν u, a.rel w S ν u → b.rel w S ν u
theorem LeA.refl (a : A1) : LeA a a := fun _ _ _ _ h => h
theorem LeV.refl (a : AV) : LeV a a := fun _ _ _ _ h => h
theorem LeV.one {a b : A1} (h : LeA a b) : LeV (.o a) (.o b) := h
theorem LeA.bool (b : Bool) : LeA (.sb b) (.c (.bool b)) := fun _ _ _ _ h => ⟨h, rfl⟩
theorem LeA.bool' {b c : Bool} (h : b = c) : LeA (.sb b) (.c (.bool c)) := h ▸ LeA.bool b
theorem LeA.sb {b c : Bool} (h : b = c) : LeA (.sb b) (.sb c) := h ▸ LeA.refl _
theorem LeA.unbool {b c : Bool} (h : b = c) : LeA (.c (.bool b)) (.sb c) := fun _ _ _ _ h' => h ▸ h'.1
theorem LeA.cc {u v : Value} (h : u = v) : LeA (.c u) (.c v) := h ▸ LeA.refl _
theorem LeA.int {k : IntKind} {m n : Int} (h : m = n) : LeA (.c (.int k m)) (.c (.int k n)) := h ▸ LeA.refl _
theorem LeA.str {s t : ByteArray} (h : s = t) : LeA (.c (.string s)) (.c (.string t)) := h ▸ LeA.refl _
/-- Whatever the one says of a cell the other says. -/
def LeX (a b : DC) : Prop := ∀ w S u, a.rel w S u → b.rel w S u
theorem LeX.refl (a : DC) : LeX a a := fun _ _ _ h => h
theorem LeX.of_eq {a b : DC} (h : a = b) : LeX a b := h ▸ LeX.refl a
theorem LeX.trans {a b c : DC} (h : LeX a b) (k : LeX b c) : LeX a c := fun w S u x => k w S u (h w S u x)
theorem LeX.nil {sz n : Nat} {cell : Nat → Nat → DC} (h : n = 0) : LeX (.c (.slice none 0 0)) (.sl sz n cell) := by
  subst h
  rintro w S u ⟨rfl, _⟩
  exact ⟨none, 0, rfl, Nat.le_refl _, Nat.zero_le _, fun _ => rfl, fun h => absurd h (by decide)⟩
structure LeD (sz n : Nat) (cell : Nat → Nat → DC) (n' : Nat) (cell' : Nat → Nat → DC) : Prop where
  en : n = n'
  ec : ∀ i j, i < n → j < sz → LeX (cell i j) (cell' i j)
theorem LeD.refl {sz n : Nat} {cell : Nat → Nat → DC} : LeD sz n cell n cell := ⟨rfl, fun _ _ _ _ => LeX.refl _⟩
theorem LeX.sl {sz n n' : Nat} {cell cell' : Nat → Nat → DC} (h : LeD sz n cell n' cell') : LeX (.sl sz n cell) (.sl sz n' cell') := by
  rintro w S u ⟨A, c, rfl, h1, h2, h3, h4⟩
  obtain ⟨rfl, hc⟩ := h
  refine ⟨A, c, rfl, h1, h2, h3, fun hn => ?_⟩
  obtain ⟨b, off, e, hs, hb, hh⟩ := h4 hn
  refine ⟨b, off, e, hs, hb, fun i j hi hj => ?_⟩
  obtain ⟨u, e1, e2⟩ := hh i j hi hj
  exact ⟨u, e1, hc i j hi hj _ _ _ e2⟩
theorem LeA.ro {sz n n' : Nat} {cell cell' : Nat → Nat → DC} (h : LeD sz n cell n' cell') : LeA (.ro sz n cell) (.ro sz n' cell') := by
  rintro w S ν u ⟨A, c, rfl, h1, h2, h3, h4⟩
  obtain ⟨rfl, hc⟩ := h
  refine ⟨A, c, rfl, h1, h2, h3, fun hn => ?_⟩
  obtain ⟨b, off, e, hs, hb, hh⟩ := h4 hn
  refine ⟨b, off, e, hs, hb, fun i j hi hj => ?_⟩
  obtain ⟨u, e1, e2⟩ := hh i j hi hj
  exact ⟨u, e1, hc i j hi hj _ _ _ e2⟩
theorem LeA.ronil {sz : Nat} {cell : Nat → Nat → DC} : LeA (.c (.slice none 0 0)) (.ro sz 0 cell) := by
  rintro w S ν u ⟨rfl, _⟩
  exact ⟨none, 0, rfl, Nat.le_refl _, Nat.zero_le _, fun _ => rfl, fun h => absurd h (by decide)⟩
theorem LeA.ronil' {sz n : Nat} {cell : Nat → Nat → DC} (h : n = 0) : LeA (.c (.slice none 0 0)) (.ro sz n cell) := h ▸ LeA.ronil
def LeC : Chunk → Chunk → Prop
  | .box i T cs, .box i' T' cs' => i = i' ∧ T = T' ∧ All2 LeA cs cs'
  | .own i E sz ct, .own i' E' sz' ct' => i = i' ∧ E = E' ∧ sz = sz' ∧ LeD sz ct.n ct.cell ct'.n ct'.cell
  | .obj i ob, .obj i' ob' => i = i' ∧ ob = ob'
  | .nest i E ct j, .nest i' E' ct' j' => i = i' ∧ E = E' ∧ j = j' ∧ LeD 1 ct.n ct.cell ct'.n ct'.cell
  | _, _ => False
theorem All2.comp {α β γ : Type} {R : α → β → Prop} {R1 : α → γ → Prop} {R2 : β → γ → Prop} (h : ∀ a b c, R a b → R1 a c → R2 b c) : ∀ {as : List α} {bs : List β} {cs : List γ}, All2 R as bs → All2 R1 as cs → All2 R2 bs cs
  | [], [], [], _, _ => trivial
  | a :: as, b :: bs, c :: cs, ⟨h1, h2⟩, ⟨h3, h4⟩ => ⟨h a b c h1 h3, All2.comp h (as := as) h2 h4⟩
  | [], [], _ :: _, _, h => h.elim
  | _ :: _, _ :: _, [], _, h => h.elim
  | [], _ :: _, _, h, _ => h.elim
  | _ :: _, [], _, h, _ => h.elim
theorem LeC.holds {c c' : Chunk} (h : LeC c c') {w : World} {S : Nat → Prop} {ν : Nat → Value} (hc : c.holds w S ν) : c'.holds w S ν ∧ c'.blk ν = c.blk ν := by
  cases c with
  | box i T cs =>
    cases c' with
    | own => exact h.elim
    | obj => exact h.elim
    | nest => exact h.elim
    | box i' T' cs' =>
      obtain ⟨rfl, rfl, h3⟩ := h
      obtain ⟨b, us, h4, h5, h6⟩ := hc
      exact ⟨⟨b, us, h4, h5, All2.comp (fun a b c h7 h8 => h7 _ _ _ _ h8) h3 h6⟩, rfl⟩
  | own i E sz ct =>
    cases c' with
    | box => exact h.elim
    | obj => exact h.elim
    | nest => exact h.elim
    | own i' E' sz' ct' =>
      obtain ⟨rfl, rfl, rfl, h3, h4⟩ := h
      obtain ⟨xs, h5, h6⟩ := hc
      refine ⟨⟨xs, by rw [← h3]; exact h5, fun i j hi hj => ?_⟩, rfl⟩
      rw [← h3] at hi
      obtain ⟨u, e1, e2⟩ := h6 i j hi hj
      exact ⟨u, e1, h4 i j hi hj _ _ _ e2⟩
  | obj i ob =>
    cases c' with
    | box => exact h.elim
    | own => exact h.elim
    | nest => exact h.elim
    | obj i' ob' =>
      obtain ⟨rfl, rfl⟩ := h
      exact ⟨hc, rfl⟩
  | nest i E ct j =>
    cases c' with
    | box => exact h.elim
    | own => exact h.elim
    | obj => exact h.elim
    | nest i' E' ct' j' =>
      obtain ⟨rfl, rfl, rfl, h3, h4⟩ := h
      obtain ⟨xs, h5, h6, h7⟩ := hc
      refine ⟨⟨xs, by rw [← h3]; exact h5, fun i hi => ?_, by rw [← h3]; exact h7⟩, rfl⟩
      rw [← h3] at hi
      obtain ⟨u, e1, e2⟩ := h6 i hi
      exact ⟨u, e1, h4 i 0 hi Nat.zero_lt_one _ _ _ e2⟩

theorem perm_erase {α : Type} : ∀ (l : List α) (i : Nat) (h : i < l.length), l.Perm (l[i] :: l.eraseIdx i)
  | _ :: _, 0, _ => .refl _
  | a :: l, i + 1, h => by
    have := perm_erase l i (by simpa using h)
    simp only [List.getElem_cons_succ, List.eraseIdx_cons_succ]
    exact (this.cons a).trans (.swap _ _ _)
def EnvLe (env : Env) : Env → Prop
  | [] => True
  | (t, v) :: r => (∃ u, look env t = some u ∧ LeV u v) ∧ EnvLe env r
def SubH : List Chunk → List Chunk → Prop
  | _, [] => True
  | hp, c' :: r => ∃ i c, hp[i]? = some c ∧ LeC c c' ∧ SubH (hp.eraseIdx i) r
theorem EnvLe.mem {env : Env} : ∀ {env' : Env}, EnvLe env env' → ∀ p ∈ env', ∃ u, look env p.1 = some u ∧ LeV u p.2
  | [], _, p, hp => by cases hp
  | (t, v) :: r, h, p, hp => by
    rcases List.mem_cons.1 hp with rfl | hp
    · exact h.1
    · exact EnvLe.mem h.2 p hp
theorem SubH.spec {w : World} {S : Nat → Prop} {ν : Nat → Value} : ∀ {hp' hp : List Chunk}, SubH hp hp' → (∀ c ∈ hp, c.holds w S ν) → (blks ν hp).Nodup → (∀ c ∈ hp', c.holds w S ν) ∧ (blks ν hp').Nodup ∧ ∀ b ∈ blks ν hp', b ∈ blks ν hp
  | [], hp, _, _, _ => ⟨(fun c hc => nomatch hc), List.nodup_nil, (fun b hb => nomatch hb)⟩
  | c' :: r, hp, ⟨i, c, hi, hle, hsub⟩, hh, hn => by
    have hmem : c ∈ hp := List.mem_of_getElem? hi
    obtain ⟨hlt, hget⟩ := List.getElem?_eq_some_iff.1 hi
    have hperm : hp.Perm (c :: hp.eraseIdx i) := by
      rw [← hget]; exact perm_erase hp i hlt
    obtain ⟨h1, h2⟩ := hle.holds (hh c hmem)
    have hn' : (blks ν (c :: hp.eraseIdx i)).Nodup := (blks_perm hperm).nodup_iff.1 hn
    have hsubl : (hp.eraseIdx i).Sublist hp := List.eraseIdx_sublist ..
    obtain ⟨i1, i2, i3⟩ := SubH.spec hsub (fun x hx => hh x (hsubl.subset hx)) (hn.sublist (blks_sub hsubl))
    refine ⟨fun x hx => ?_, ?_, fun b hb => ?_⟩
    · rcases List.mem_cons.1 hx with rfl | hx
      · exact h1
      · exact i1 x hx
    · unfold blks at hn' i2 i3 ⊢
      rw [List.filterMap_cons] at hn' ⊢
      rw [h2]
      cases hq : c.blk ν with
      | none => exact i2
      | some b =>
        rw [hq] at hn'
        refine List.nodup_cons.2 ⟨fun hm => (List.nodup_cons.1 hn').1 (i3 b hm), i2⟩
    · have hall : ∀ b ∈ blks ν (c :: hp.eraseIdx i), b ∈ blks ν hp := fun b hb => (blks_perm hperm).symm.subset hb
      obtain ⟨x, hx, e⟩ := mem_blks.1 hb
      rcases List.mem_cons.1 hx with rfl | hx
      · exact mem_blks.2 ⟨c, hmem, by rw [← h2]; exact e⟩
      · exact (blks_sub hsubl).subset (i3 b (mem_blks.2 ⟨x, hx, e⟩))

def A1.ltB (m : Nat) : A1 → Bool
  | .own id => Nat.blt id m
  | .ptr id _ => Nat.blt id m
  | .optr id _ _ _ => Nat.blt id m
  | .vw id _ _ _ _ => Nat.blt id m
  | .clo _ caps => caps.all fun p => Nat.blt p.1 m
  | _ => true
def allB {α : Type} (f : α → Bool) : List α → Bool
  | [] => true
  | a :: as => match f a with
    | true => allB f as
    | false => false
def sumLtB (m : Nat) : Sum A1 (List A1) → Bool
  | .inl a => a.ltB m
  | .inr as => allB (A1.ltB m) as
def AV.ltB (m : Nat) : AV → Bool
  | .o a => a.ltB m
  | .g as => allB (A1.ltB m) as
  | .t xs => allB (sumLtB m) xs
def Chunk.ltB (m : Nat) : Chunk → Bool
  | .box id _ cells => match Nat.blt id m with
    | true => allB (A1.ltB m) cells
    | false => false
  | .own id _ _ _ => Nat.blt id m
  | .obj id _ => Nat.blt id m
  | .nest id _ _ j => match Nat.blt id m with
    | true => Nat.blt j m
    | false => false
def AS.wf (N : Nat) (st : AS) : Bool := match allB (fun p => match Nat.blt p.1 N with
    | true => p.2.ltB st.nid
    | false => false) st.env with
  | true => allB (Chunk.ltB st.nid) st.hp
  | false => false
theorem allB_ok {α : Type} {f : α → Bool} : ∀ {l : List α}, allB f l = true → ∀ x ∈ l, f x = true
  | [], _, _, h => by cases h
  | a :: as, h, x, hx => by
    simp only [allB] at h
    split at h
    · rename_i h1
      rcases List.mem_cons.1 hx with rfl | hx
      · exact h1
      · exact allB_ok h x hx
    · cases h
theorem blt_lt {a b : Nat} (h : Nat.blt a b = true) : a < b := Nat.le_of_ble_eq_true h
theorem A1.ltB_ok {m : Nat} {a : A1} (h : a.ltB m = true) : a.lt m := by
  cases a <;> first | exact trivial | exact blt_lt h | exact fun p hp => blt_lt (List.all_eq_true.1 h p hp)
theorem AV.ltB_ok {m : Nat} {a : AV} (h : a.ltB m = true) : a.lt m := by
  cases a with
  | o a => exact A1.ltB_ok h
  | g as => exact fun a ha => A1.ltB_ok (allB_ok h a ha)
  | t xs =>
    intro x hx
    have := allB_ok h x hx
    cases x with
    | inl a => exact A1.ltB_ok this
    | inr as => exact fun a ha => A1.ltB_ok (allB_ok this a ha)
theorem Chunk.ltB_ok {m : Nat} {c : Chunk} (h : c.ltB m = true) : c.lt m := by
  cases c with
  | box id T cells =>
    simp only [Chunk.ltB] at h
    split at h
    · rename_i h1; exact ⟨blt_lt h1, fun a ha => A1.ltB_ok (allB_ok h a ha)⟩
    · cases h
  | own id E sz ct => exact blt_lt h
  | obj id ob => exact blt_lt h
  | nest id E ct j =>
    simp only [Chunk.ltB] at h
    split at h
    · rename_i h1; exact ⟨blt_lt h1, blt_lt h⟩
    · cases h
theorem AS.wf_ok {N : Nat} {st : AS} (h : st.wf N = true) : (∀ p ∈ st.env, p.1 < N ∧ p.2.lt st.nid) ∧ ∀ c ∈ st.hp, c.lt st.nid := by
  simp only [AS.wf] at h
  split at h
  · rename_i h1
    refine ⟨fun p hp => ?_, fun c hc => Chunk.ltB_ok (allB_ok h c hc)⟩
    have := allB_ok h1 p hp
    split at this
    · rename_i h2; exact ⟨blt_lt h2, AV.ltB_ok this⟩
    · cases this
  · cases h

/-- st' says less than st; ids of st' are names of ids of st. -/
structure Ent (X : Cx) (g : Nat → Nat) (st st' : AS) : Prop where
  wf : st'.wf X.N = true
  gfix : (∀ i, i < X.m → g i = i) ∧ X.m ≤ st'.nid
  env : EnvLe st.env (st'.env.map fun p => (p.1, p.2.ren g))
  hp : SubH st.hp (st'.hp.map (Chunk.ren g))
theorem Ent.sat {g : Nat → Nat} (h : Ent X g st st') {S : Nat → Prop} {ν : Nat → Value} {a : Act} {w : World} (sat : Sat X S ν st a w) : Sat X S (fun i => ν (g i)) st' a w := by
  obtain ⟨w1, w2⟩ := AS.wf_ok h.wf
  obtain ⟨s1, s2, s3⟩ := SubH.spec h.hp sat.hp sat.nd
  rw [blks_ren] at s2 s3
  refine ⟨⟨fun d hd => let ⟨D, d1, d2, d3, d4, d5⟩ := sat.defers.1 d hd; ⟨D, d1, d2, d3, d4, fun hm => d5 (s3 D hm)⟩, sat.defers.2⟩, sat.size, fun p hp => ⟨(w1 p hp).1, ?_⟩, fun c hc => ?_, s2, fun b hb => sat.blk b (s3 b hb), sat.imm, sat.imm0, sat.frame, fun p hp => (w1 p hp).2, w2, fun i hi => by rw [h.gfix.1 i hi]; exact sat.fix i hi, h.gfix.2⟩
  · obtain ⟨u, h1, h2⟩ := h.env.mem (p.1, p.2.ren g) (List.mem_map.2 ⟨p, hp, rfl⟩)
    exact (AV.rel_ren _ _).1 (h2 _ _ _ _ (sat.env _ (look_mem h1)).2)
  · exact (Chunk.holds_ren _).1 (s1 _ (List.mem_map.2 ⟨c, hc, rfl⟩))
theorem TE.ent {g : Nat → Nat} (h : Ent X g st st') (hk : TE X R st') : TE X R st := fun _ _ a w sat => hk _ _ a w (h.sat sat)

/-- The beginning of a loop's next round. -/
def Again (X : Cx) {ι : Type} (pre : ι → Prop) (inv : ι → AS) (μ : ι → Nat) (n : Nat) (a : Act) (w : World) : Prop := ∃ y S ν, pre y ∧ μ y < n ∧ Sat X S ν (inv y) a w
theorem TE.again {ι : Type} {pre : ι → Prop} {inv : ι → AS} {μ : ι → Nat} {n : Nat} (y : ι) (hy : pre y) (hμ : μ y < n) (g : Nat → Nat) (h : Ent X g st (inv y)) : TE X (Again X pre inv μ n) st :=
  fun _ _ _ _ sat => ⟨y, _, _, hy, hμ, h.sat sat⟩
theorem TE.loop {ι : Type} (pre : ι → Prop) (inv : ι → AS) (μ : ι → Nat) (x0 : ι) (h0 : pre x0) (g : Nat → Nat) (he : Ent X g st (inv x0)) {c : Code}
    (round : ∀ x, pre x → TE X (c.wpIn F 0 P (Exit.then (Again X pre inv μ (μ x)) Q)) (inv x)) : TE X ((Code.loop c).wpIn F 0 P Q) st := by
  intro S ν a w sat
  refine wpIn_loop_ghost (fun n a w => ∃ y S ν, pre y ∧ μ y = n ∧ Sat X S ν (inv y) a w) (μ x0) ⟨x0, _, _, h0, rfl, he.sat sat⟩ ?_
  rintro n a w ⟨y, S, ν, hy, rfl, hs⟩
  refine Code.wpIn_mono (fun e a' w' q => ?_) (round y hy S ν a w hs)
  cases e with
  | normal =>
    obtain ⟨y', S', ν', h1, h2, h3⟩ := q
    exact ⟨μ y', h2, y', S', ν', h1, rfl, h3⟩
  | _ => exact q
end
end Go.Proofs.Ytfcihdkflnpcgaa.Am
