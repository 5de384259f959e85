/- Texts of this claim, joined. -/
import Derived.Test.YtmeapfckibbbbaaGreatDoorPk2
import Derived.Laws.StructEq
import Derived.Lib.Overlaps
import GoSem.Core.Utf8
import Derived.Laws.NewFold
import Derived.MapKept
import Derived.WideLaws
import Derived.Lib.SlTrimSet
import Derived.Lib.ParseIntB
import Derived.Lib.Strings
import Derived.Lib.ParseIntBCases
import Derived.Lib.IndexMore
import Derived.Lib.ItoaMem
import Derived.Lib.Bytealg
import Derived.Lib.Split
import Derived.Lib.Join
import Derived.ScopeJumps
import Derived.Deep.Slices
import Derived.Deep.Fields
import Derived.ChangeArms
import Derived.ChangeSame
import Derived.ChangeSlices
import Derived.ChangeOld
import Derived.OpenShut
import Derived.Carry
import Derived.ProofKit
import Derived.Lib.Atoi
import Derived.LaidLaws
set_option linter.unusedSimpArgs false
set_option linter.unusedVariables false
/- The abstract machine: ranges over iterators. The iterator's code is walked in place, at each yield the body of the loop. No program is named. -/
namespace Go.Proofs.YtmeapfckibbbbaaGreatDoor.Am
open Go.RowKit Lw

section
variable {P : Program} {X : Cx} {st st' : AS} {S S' : Nat → Prop} {ν ν' : Nat → Value} {a a' : Act} {w w' : World} {Q : Exit → Act → World → Prop} {R : Act → World → Prop}

/-- The context of a part that is run at a state, with N slots: it may turn the state's chunks. -/
abbrev cxAt (mk : Bool) (N : Nat) (S : Nat → Prop) (ν : Nat → Value) (st : AS) (w : World) : Cx := ⟨N, w, fun b => b ∈ blks ν st.hp, S, ν, st.nid, mk⟩

theorem Sat.enter (mk : Bool) (h : Sat X S ν st a w) {N : Nat} {env : Env} (hd : a'.defers = []) (hs : a'.tmps.size = N) (he : ∀ p ∈ env, p.1 < N ∧ p.2.rel w S ν (a'.tmps.getD p.1 undef) ∧ p.2.lt st.nid) : Sat (cxAt mk N S ν st w) S ν ⟨env, st.hp, st.nid⟩ a' w :=
  ⟨by rw [hd]; exact ⟨(fun d hd => nomatch hd), List.nodup_nil, fun _ => rfl⟩, hs, fun p hp => ⟨(he p hp).1, (he p hp).2.1⟩, h.hp, h.nd, fun b hb => ⟨(h.blk b hb).1, (h.blk b hb).2.1, .inr hb⟩, fun b hb => ⟨(h.imm b hb).1, .inl hb⟩, fun _ h => h, Fr.refl _ _, fun p hp => (he p hp).2.2, h.hlt, fun _ _ => rfl, Nat.le_refl _⟩

theorem Sat.leave {N : Nat} {mk : Bool} (h : Sat X S ν st a w) (h' : Sat (cxAt mk N S ν st w) S' ν' st' a' w') : Sat X S' ν' ⟨st.env, st'.hp, st'.nid⟩ a w' := by
  have := h.swap (takes := st.hp) (rest := []) (gives := st'.hp) (nid := st'.nid) (S' := S') (ν' := ν') (w' := w') (by simp) h'.frame h'.fix h'.imm0 (fun b hb => (h'.imm b hb)) h'.hp h'.nd (fun b hb => ⟨(h'.blk b hb).1, (h'.blk b hb).2.1, (h'.blk b hb).2.2.symm⟩) h'.hlt h'.ge
  simpa using this

/-- A block that is no chunk's, no reader's, no mark's becomes another one. -/
theorem Sat.turn (h : Sat X S ν st a w) {l : Nat} {o o' : Obj} (hl : w.heap[l]? = some o) (ho : ∀ d, o ≠ .deferred d) (h0 : X.w0.heap.size ≤ l) (hS : ¬ S l) (hb : l ∉ blks ν st.hp) : Sat X S ν st a (w.putObj l o') := by
  have gr : Gr w (w.putObj l o') S S := ⟨by simp, fun b hb _ => World.putObj_heap_other fun e => hS (e ▸ hb), fun _ h => h⟩
  refine ⟨⟨fun d hd => ?_, h.defers.2⟩, h.size, fun p hp => ⟨(h.env p hp).1, AV.mono gr (fun _ _ => rfl) (h.elt p hp) (h.env p hp).2⟩, fun c hc => Chunk.mono gr (fun _ _ => rfl) (h.hlt c hc) (fun b hb' => World.putObj_heap_other fun e => hb (mem_blks.2 ⟨c, hc, e ▸ hb'⟩)) (h.hp c hc), h.nd, fun b hb => ?_, fun b hb => ?_, h.imm0, ?_, h.elt, h.hlt, h.fix, h.ge⟩
  · obtain ⟨D, e, f1, f2, f3, f4⟩ := h.defers.1 d hd
    refine ⟨D, e, ?_, f2, f3, f4⟩
    rw [World.putObj_heap_other fun (e : D = l) => ?_]
    · exact f1
    · rw [e, hl] at f1; exact ho _ (Option.some.inj f1)
  · have := h.blk b hb; rw [World.putObj_size]; exact this
  · have := h.imm b hb; rw [World.putObj_size]; exact this
  · refine ⟨h.frame.os, h.frame.tape, h.frame.output, by rw [World.putObj_size]; exact h.frame.size, fun k hk hB => ?_⟩
    rw [World.putObj_heap_other (by omega)]; exact h.frame.block k hk hB

/-- More blocks are laid. -/
theorem Sat.grow (h : Sat X S ν st a w) (hf : Fr (fun _ => False) w w') : Sat X S ν st a w' := by
  have := h.swap (takes := []) (rest := st.hp) (gives := []) (nid := st.nid) (S' := S) (ν' := ν) (w' := w') (.refl _) ⟨hf.os, hf.tape, hf.output, hf.size, fun k hk _ => hf.block k hk id⟩ (fun _ _ => rfl) (fun _ h => h) (fun b hb => ⟨Nat.lt_of_lt_of_le (h.imm b hb).1 hf.size, .inl hb⟩) (fun c hc => nomatch hc) List.nodup_nil (fun b hb => nomatch hb) (fun c hc => nomatch hc) (Nat.le_refl _)
  simpa using this
/-- A mark more. -/
theorem Sat.mark (h : Sat X S ν st a w) {D : Nat} (hD : w.heap[D]? = some (.deferred (some []))) (h0 : X.w0.heap.size ≤ D) (hS : ¬ S D) (hb : D ∉ blks ν st.hp) (hn : { target := .collected D, args := #[] } ∉ a.defers) (hmk : X.mks = true) : Sat X S ν st { a with defers := { target := .collected D, args := #[] } :: a.defers } w :=
  ⟨⟨fun d hd => by
      rcases List.mem_cons.1 hd with rfl | hd
      · exact ⟨D, rfl, hD, h0, hS, hb⟩
      · exact h.defers.1 d hd, List.nodup_cons.2 ⟨hn, h.defers.2.1⟩, fun e => by rw [hmk] at e; cases e⟩, h.size, h.env, h.hp, h.nd, h.blk, h.imm, h.imm0, h.frame, h.elt, h.hlt, h.fix, h.ge⟩

/-- A loop goes on: its record is r, at block l; C is the context of the iterator, with N slots. -/
structure Looping (P : Program) (X : Cx) (E : Env) (ps : List Tmp) (asg body : Code) (l : Nat) (a1 : Act) (pend : Option Code) (N : Nat) (C : Cx) : Prop where
  go : ∃ S ν st w fn D, Sat X S ν st a1 w ∧ st.env = E ∧ C = cxAt false N S ν st w ∧ X.w0.heap.size ≤ l ∧ ¬ S l ∧ l ∉ blks ν st.hp ∧
    w.heap[l]? = some (.loop { state := if pend.isNone then .ready else .done, pending := pend, fn := fn, tmps := a1.tmps, params := ps.toArray, assign := asg, body := body, defers := D })
end

section
variable {P : Program} {X C : Cx} {E : Env} {ps : List Tmp} {asg body : Code} {l N : Nat} {a1 : Act} {pend : Option Code} {S S' : Nat → Prop} {ν ν' : Nat → Value} {a a' : Act} {w w' : World} {st st' : AS} {Q : Exit → Act → World → Prop} {K : Act → World → Prop}

/-- What is so of the loop in a world of the iterator's. -/
theorem Looping.now (L : Looping P X E ps asg body l a1 pend N C) (sat : Sat C S ν st a w) : Sat X S ν ⟨E, st.hp, st.nid⟩ a1 w ∧ X.w0.heap.size ≤ l ∧ ¬ S l ∧ l ∉ blks ν st.hp ∧
    ∃ fn D, w.heap[l]? = some (.loop { state := if pend.isNone then .ready else .done, pending := pend, fn := fn, tmps := a1.tmps, params := ps.toArray, assign := asg, body := body, defers := D }) := by
  obtain ⟨S0, ν0, s0, w0, fn, D, h0, rfl, rfl, h1, h2, h3, h4⟩ := L.go
  have hlt : l < w0.heap.size := (Array.getElem?_eq_some_iff.1 h4).1
  refine ⟨h0.leave sat, h1, fun hs => ?_, fun hm => ?_, fn, D, (sat.frame.block l hlt h3).trans h4⟩
  · rcases (sat.imm l hs).2 with h | h | h
    · exact h2 h
    · exact absurd (show w0.heap.size ≤ l from h) (by omega)
    · exact h3 h
  · rcases (sat.blk l hm).2.2 with h | h
    · exact absurd (show w0.heap.size ≤ l from h) (by omega)
    · exact h3 h

theorem capV_lt {m : Nat} : ∀ {caps : List (Nat × Nat)}, (∀ p ∈ caps, p.1 < m) → ∀ (k : Nat) (v : AV), (capV caps)[k]? = some v → v.lt m
  | [], _, k, v, h => by simp [capV] at h
  | (id, off) :: r, hc, 0, v, h => by
    simp only [capV, List.getElem?_cons_zero, Option.some.injEq] at h
    subst h
    exact hc (id, off) (List.mem_cons_self ..)
  | (id, off) :: r, hc, k + 1, v, h => capV_lt (caps := r) (fun p hp => hc p (List.mem_cons_of_mem _ hp)) k v (by simpa [capV] using h)
theorem acallee_lt (sat : Sat X S ν st a w) {ce : Callee} {f : FuncId} {caps : List AV} (h : acallee st ce = some (f, caps)) : ∀ (k : Nat) (v : AV), caps[k]? = some v → v.lt st.nid := by
  unfold acallee at h
  split at h
  · split at h
    · split at h
      · cases h; intro k v hk; simp at hk
      · cases h
    · rename_i hx
      cases h
      exact capV_lt (aop_ok sat hx).2
    · cases h
  · cases h

/-- A range over an iterator. -/
theorem TE.range {g : Operand} {ps : List Tmp} {asg body : Code} {gf : FuncId} {caps : List AV} {ifn : Func} {ic : Code} {N : Nat} (hg : acallee st (.value g) = some (gf, caps)) (hf : P.funcs[gf]? = some ifn) (hb : ifn.body = some ic) (hn : (ifn.name == "runtime.NumGoroutine") = false) (hN : ifn.ntmps = N) (hw : Nat.ble (1 + caps.length) N = true) (hmk : X.mks = true)
    (h : ∀ l a1 w0 B0 S0 ν0, Looping P X st.env ps asg body l a1 none N ⟨N, w0, B0, S0, ν0, st.nid, false⟩ → TE ⟨N, w0, B0, S0, ν0, st.nid, false⟩ (ic.wpIn Fence.wide 0 P (postR P ifn (rangePost Fence.wide 0 P l Q a1))) ⟨env0 0 (.o (.c (.func (.yield l) #[] #[])) :: caps), st.hp, st.nid⟩) :
    TE X ((Code.rangeFunc g ps.toArray asg body).wpIn Fence.wide 0 P Q) st := by
  intro S ν a w sat
  refine wpIn_rangeFunc fun fn _ => ?_
  obtain ⟨xf, us, e1, e2, e3⟩ := acallee_ok sat hg
  have e4 := acallee_lt sat hg
  obtain ⟨rec, hrec⟩ : ∃ rec : Loop, rec = { state := .ready, pending := none, fn := fn, tmps := a.tmps, params := ps.toArray, assign := asg, body := body, defers := w.heap.size } := ⟨_, rfl⟩
  obtain ⟨W, hW⟩ : ∃ W, (w.alloc (.deferred (some []))).alloc (.loop rec) = W := ⟨_, rfl⟩
  have hD : W.heap[w.heap.size]? = some (.deferred (some [])) := by
    rw [← hW]; exact (Below.heap_alloc _ _ _ (by simp)).trans (World.alloc_heap_new w _)
  have hL : W.heap[w.heap.size + 1]? = some (.loop rec) := by
    rw [← hW]; have := World.alloc_heap_new (w.alloc (.deferred (some []))) (.loop rec); rwa [World.size_alloc] at this
  have fr : Fr (fun _ => False) w W := by
    rw [← hW]
    refine ⟨rfl, rfl, rfl, by simp; omega, fun k hk _ => ?_⟩
    exact (Below.heap_alloc _ _ _ (by simp; omega)).trans (Below.heap_alloc _ _ _ hk)
  have sat1 : Sat X S ν st { a with defers := { target := .collected w.heap.size, args := #[] } :: a.defers } W := by
    refine (sat.grow fr).mark hD sat.frame.size (fun hs => ?_) (fun hm => ?_) (fun hm => ?_) hmk
    · have := (sat.imm _ hs).1; omega
    · have := (sat.blk _ hm).1; omega
    · obtain ⟨D, d1, d2, _⟩ := sat.defers.1 _ hm
      cases d1
      have := (Array.getElem?_eq_some_iff.1 d2).1; omega
  have L : Looping P X st.env ps asg body (w.heap.size + 1) { a with defers := { target := .collected w.heap.size, args := #[] } :: a.defers } none N (cxAt false N S ν st W) := by
    refine ⟨S, ν, st, W, fn, w.heap.size, sat1, rfl, rfl, ?_, fun hs => ?_, fun hm => ?_, by rw [hL, hrec]; rfl⟩
    · have := sat.frame.size; omega
    · have := (sat.imm _ hs).1; omega
    · have := (sat.blk _ hm).1; omega
  have hsz : (#[.func (.yield (w.heap.size + 1)) #[] #[]] ++ us.toArray : Array Value).toList = .func (.yield (w.heap.size + 1)) #[] #[] :: us := by simp
  refine ⟨w.heap.size + 1, [{ target := .collected w.heap.size, args := #[] }], W, { target := .fn (.func gf) us.toArray, args := #[.func (.yield (w.heap.size + 1)) #[] #[]] }, W, gf, #[.func (.yield (w.heap.size + 1)) #[] #[]] ++ us.toArray, W, ?_, ?_, fun _ _ => trivial, ?_, (fun h => nomatch h), callsIn_of_wp_marks (F := Fence.wide) (n := 0) hf hb trivial (Code.wpIn_mono (fun _ _ _ h => postR_M h) ?_)⟩
  · rw [← hW, hrec]; exact run_enterLoop_outer _ _ _ _ _
  · cases e1
    simp only [resolve, e2, Deferred.ofValue, rangeCall, Sem.run_pure]
    simp [Act.eval]
  · simp only [invoke]
    exact callFunc_body hf hn (by rw [hb]; rfl) _ W
  · have hle := e3.length
    have hw' : 1 + caps.length ≤ N := Nat.le_of_ble_eq_true hw
    refine h _ _ W (fun b => b ∈ blks ν st.hp) S ν L S ν _ W (sat1.enter false (N := N) rfl (by simp; omega) fun p hp => ?_)
    obtain ⟨k, h1, h2⟩ := env0_mem hp
    rw [Nat.zero_add] at h1
    have gr : Gr w W S S := ⟨fr.size, fun b _ hb => fr.block b hb id, fun _ h => h⟩
    rw [h1]
    cases k with
    | zero =>
      have h2' : p.2 = .o (.c (.func (.yield (w.heap.size + 1)) #[] #[])) := by simpa using h2.symm
      rw [h2']
      exact ⟨by omega, ⟨by simp [Array.getElem?_append], rfl⟩, trivial⟩
    | succ k =>
      have h2' : caps[k]? = some p.2 := by simpa using h2
      have hk : k < caps.length := (List.getElem?_eq_some_iff.1 h2').1
      obtain ⟨u, h3, h4⟩ := e3.get h2'
      have hlt : p.2.lt st.nid := e4 k p.2 h2'
      refine ⟨by omega, ?_, hlt⟩
      have hk' : k < us.length := (List.getElem?_eq_some_iff.1 h3).1
      have hu : us[k] = u := by rw [List.getElem?_eq_getElem hk'] at h3; exact Option.some.inj h3
      have : (#[Value.func (.yield (w.heap.size + 1)) #[] #[]] ++ us.toArray ++ Array.replicate (ifn.ntmps - (#[Value.func (.yield (w.heap.size + 1)) #[] #[]] ++ us.toArray : Array Value).size) undef).getD (k + 1) undef = u := by
        have hk2 : k + 1 < us.length + 1 := by omega
        simp [Array.getElem?_append, hk', hk2, hu]
      rw [this]
      exact AV.mono gr (fun _ _ => rfl) hlt h4

/-- The slots of the loop's variables are filled. -/
def putPs : List Tmp → List AV → AS → AS
  | t :: ts, v :: vs, st => putPs ts vs (st.put (some t) v)
  | _, _, st => st
theorem Sat.putPs {S : Nat → Prop} {ν : Nat → Value} {w : World} : ∀ {ts : List Tmp} {vs : List AV} {us : List Value} {st : AS} {a : Act}, Sat X S ν st a w → All2 (AV.rel w S ν) vs us → (∀ v ∈ vs, v.lt st.nid) → (∀ t ∈ ts, t < X.N) →
    Sat X S ν (putPs ts vs st) { a with tmps := (ts.zip us).foldl (fun r (p : Tmp × Value) => r.setIfInBounds p.1 p.2) a.tmps } w
  | [], vs, us, st, a, h, _, _, _ => by cases vs <;> exact h
  | t :: ts, [], [], st, a, h, _, _, _ => h
  | t :: ts, [], _ :: _, st, a, h, hr, _, _ => hr.elim
  | t :: ts, _ :: _, [], st, a, h, hr, _, _ => hr.elim
  | t :: ts, v :: vs, u :: us, st, a, h, hr, hl, ht => by
    have h1 := h.put (dst := some t) (fun d hd => by cases hd; exact ht t (List.mem_cons_self ..)) hr.1 (hl v (List.mem_cons_self ..))
    exact Sat.putPs (ts := ts) (vs := vs) (us := us) h1 hr.2 (fun v' hv => by rw [(AS.put_hp _ _ _).2]; exact hl v' (List.mem_cons_of_mem _ hv)) (fun t' h' => ht t' (List.mem_cons_of_mem _ h'))

/-- The post of one round: behind it the iterator goes on with the answer true, or, where the loop is left by a jump, with false. -/
structure Rnd (P : Program) (X C : Cx) (E : Env) (ps : List Tmp) (asg body : Code) (l : Nat) (a1 : Act) (N : Nat) (Ei : Env) (dst : Option Tmp) (K : Act → World → Prop) (Qr : Exit → Act → World → Prop) (C' : Cx) : Prop where
  normal : ∀ {st}, TE C K ((AS.mk Ei st.hp st.nid).put dst (.o (.c (.bool true)))) → TE C' (Qr .normal) st
  ret : ∀ {st}, (∀ w0 B0 S0 ν0, Looping P X E ps asg body l a1 (some .ret) N ⟨N, w0, B0, S0, ν0, st.nid, false⟩ → TE ⟨N, w0, B0, S0, ν0, st.nid, false⟩ K ((AS.mk Ei st.hp st.nid).put dst (.o (.c (.bool false))))) → TE C' (Qr .ret) st
  exit : ∀ {st id}, (∀ w0 B0 S0 ν0, Looping P X E ps asg body l a1 (some (.exit id)) N ⟨N, w0, B0, S0, ν0, st.nid, false⟩ → TE ⟨N, w0, B0, S0, ν0, st.nid, false⟩ K ((AS.mk Ei st.hp st.nid).put dst (.o (.c (.bool false))))) → TE C' (Qr (.exit id)) st
  panic : PanicOk Qr
/-- The assignment to the loop's variables is done: the round begins. -/
def Begin (P : Program) (l : Nat) (body : Code) (Qr : Exit → Act → World → Prop) (a : Act) (w : World) : Prop := ∃ w', (Instr.beginRound l).run P w = .ok () w' ∧ body.wpIn (RF l) 0 P Qr a w'
structure Rnd0 (P : Program) (X C : Cx) (E : Env) (ps : List Tmp) (asg body : Code) (l : Nat) (a1 : Act) (N : Nat) (Ei : Env) (dst : Option Tmp) (K : Act → World → Prop) (Qr : Exit → Act → World → Prop) (C' : Cx) : Prop where
  begin : ∀ {st}, (∀ w0 B0 S0 ν0, Rnd P X C E ps asg body l a1 N Ei dst K Qr ⟨C'.N, w0, B0, S0, ν0, st.nid, false⟩ → TE ⟨C'.N, w0, B0, S0, ν0, st.nid, false⟩ (body.wpIn (RF l) 0 P Qr) st) → TE C' (Begin P l body Qr) st

def allLtB (N : Nat) : List Nat → Bool
  | [] => true
  | t :: r => match Nat.blt t N with
    | true => allLtB N r
    | false => false
theorem allLtB_ok {N : Nat} : ∀ {ts : List Nat}, allLtB N ts = true → ∀ t ∈ ts, t < N
  | [], _, t, h => nomatch h
  | x :: r, h, t, ht => by
    simp only [allLtB] at h
    split at h
    · rename_i hb
      rcases List.mem_cons.1 ht with rfl | ht
      · exact Nat.le_of_ble_eq_true hb
      · exact allLtB_ok h t ht
    · cases h
theorem aops_lt {st : AS} {a : Act} {w : World} {S : Nat → Prop} {ν : Nat → Value} (sat : Sat X S ν st a w) : ∀ {xs : List Operand} {vs : List AV}, aops st xs = some vs → ∀ v ∈ vs, v.lt st.nid
  | [], vs, h, v, hv => by cases h; cases hv
  | x :: xs, vs, h, v, hv => by
    simp only [aops] at h
    split at h
    · rename_i u r h1 h2
      cases h
      rcases List.mem_cons.1 hv with rfl | hv
      · exact (aop_ok sat h1).2
      · exact aops_lt sat h2 v hv
    · cases h

/-- A call of yield: a round. -/
theorem yield_op (L : Looping P X E ps asg body l a1 none N C) {o : Oper} {c : Call} {x : Operand} {vs : List AV} {Nx : Nat} (ho : o.op = .call c) (hc : c.callee = .value x) (hx : aop st x = some (.o (.c (.func (.yield l) #[] #[])))) (hv : aops st c.args.toList = some vs) (hlen : Nat.beq vs.length ps.length = true) (hN : X.N = Nx) (hps : allLtB Nx ps = true)
    (hd : ∀ d, o.dst = some d → d < C.N) (K : Act → World → Prop)
    (h : ∀ Qr w0 B0 S0 ν0, Rnd0 P X C E ps asg body l a1 N st.env o.dst K Qr ⟨Nx, w0, B0, S0, ν0, st.nid, false⟩ → TE ⟨Nx, w0, B0, S0, ν0, st.nid, false⟩ (asg.wpIn (RF l) 0 P (Exit.then (Begin P l body Qr) (fun _ _ _ => False))) (putPs ps vs ⟨E, st.hp, st.nid⟩))
    (sat : Sat C S ν st a w) : o.wpIn Fence.wide 0 P a w K Q := by
  subst hN
  obtain ⟨b1, b2, b3, b4, fn, D, b5⟩ := L.now sat
  have hNC : C.N = N := by obtain ⟨_, _, _, _, _, _, _, _, e, _⟩ := L.go; rw [e]
  have hmkC : C.mks = false := by obtain ⟨_, _, _, _, _, _, _, _, e, _⟩ := L.go; rw [e]
  have hvs := aops_ok sat hv
  have hvl := aops_lt sat hv
  have ha : a.eval x = .func (.yield l) #[] #[] := (aop_ok sat hx).1.1
  have hsz : (c.args.map a.eval).size = ps.toArray.size := by
    have h1 := hvs.length
    have h2 := Nat.eq_of_beq_eq_true hlen
    simp at h1 ⊢; omega
  have hrun : (execOp a.eval o).run P w = .ok (.round l fn ((ps.toArray.zip (c.args.map a.eval)).foldl (fun ts (t, v) => ts.setIfInBounds t v) a1.tmps) asg body) w := by
    unfold execOp
    rw [ho]
    simp only [resolve, hc, ha, Deferred.ofValue, Sem.run_bind, Sem.run_pure, Result.andThen_ok, invoke]
    have := run_yield (P := P) (args := c.args.map a.eval) b5 hsz
    simpa using this
  refine ⟨fun _ _ => trivial, ?_⟩
  rw [show Fence.wide.round = none from rfl, Oper.semAt_none, hrun]
  obtain ⟨Rr, hRr⟩ : ∃ Rr : Ending → World → Prop, Rr = fun (e : Ending) w'' => match e with
      | .returned v => K (a.put o.dst v) w''
      | .panicked chain => Q (.panic chain) a w''
      | .outgrown => LetsOut Q := ⟨_, rfl⟩
  refine ⟨(fun h => nomatch h), RoundIn.mono (R := Rr) (roundIn_of_wpIn trivial ?_) (fun e w' h => by rw [hRr] at h; cases e <;> exact h)⟩
  have hbase : Sat (cxAt false X.N S ν ⟨E, st.hp, st.nid⟩ w) S ν ⟨E, st.hp, st.nid⟩ { tmps := a1.tmps, defers := [] } w := b1.enter false rfl b1.size fun p hp => ⟨(b1.env p hp).1, (b1.env p hp).2, b1.elt p hp⟩
  have hput := hbase.putPs hvs hvl (allLtB_ok hps)
  have hzip : ((ps.toArray.zip (c.args.map a.eval)).foldl (fun ts (t, v) => ts.setIfInBounds t v) a1.tmps) = (ps.zip (c.args.toList.map a.eval)).foldl (fun r (p : Tmp × Value) => r.setIfInBounds p.1 p.2) a1.tmps := by
    rw [← Array.foldl_toList]
    simp
  rw [hzip]
  refine h (roundPost P l Rr) w (fun b => b ∈ blks ν st.hp) S ν ⟨?_⟩ S ν _ w hput
  -- the round begins
  intro sta hgo S1 ν1 a1' w1 sat1
  have hlt : l < w.heap.size := (Array.getElem?_eq_some_iff.1 b5).1
  have c1 : w1.heap[l]? = _ := (sat1.frame.block l hlt b4).trans b5
  have c2 : ¬ S1 l := fun hs => by
    rcases (sat1.imm l hs).2 with h | h | h
    · exact b3 h
    · exact absurd (show w.heap.size ≤ l from h) (by omega)
    · exact b4 h
  have c3 : l ∉ blks ν1 sta.hp := fun hm => by
    rcases (sat1.blk l hm).2.2 with h | h
    · exact absurd (show w.heap.size ≤ l from h) (by omega)
    · exact b4 h
  have c4 : Sat X S1 ν1 ⟨E, sta.hp, sta.nid⟩ a1 w1 := b1.leave (mk := false) (N := X.N) sat1
  refine ⟨_, run_beginRound c1 rfl, ?_⟩
  obtain ⟨w2, hw2⟩ : ∃ w2, w2 = w1.putObj l (.loop { state := .busy, pending := none, fn := fn, tmps := a1.tmps, params := ps.toArray, assign := asg, body := body, defers := D }) := ⟨_, rfl⟩
  have e2 : w2.heap[l]? = some (.loop { state := .busy, pending := none, fn := fn, tmps := a1.tmps, params := ps.toArray, assign := asg, body := body, defers := D }) := by
    rw [hw2]; exact World.putObj_heap_same (Array.getElem?_eq_some_iff.1 c1).1
  have c5 : Sat X S1 ν1 ⟨E, sta.hp, sta.nid⟩ a1 w2 := by rw [hw2]; exact c4.turn c1 (fun _ h => nomatch h) b2 c2 c3
  have gr : Gr w1 w2 S1 S1 := ⟨by rw [hw2]; simp, fun b hb _ => by rw [hw2]; exact World.putObj_heap_other fun e => c2 (e ▸ hb), fun _ h => h⟩
  have c6 : Sat (cxAt false X.N S1 ν1 ⟨E, sta.hp, sta.nid⟩ w2) S1 ν1 ⟨sta.env, sta.hp, sta.nid⟩ a1' w2 := c5.enter false (sat1.defers.2.2 rfl) sat1.size fun p hp => ⟨(sat1.env p hp).1, AV.mono gr (fun _ _ => rfl) (sat1.elt p hp) (sat1.env p hp).2, sat1.elt p hp⟩
  have hlt2 : l < w2.heap.size := (Array.getElem?_eq_some_iff.1 e2).1
  show body.wpIn (RF l) 0 P (roundPost P l Rr) a1' _
  rw [← hw2]
  -- the end of the round
  have fin : ∀ {S3 : Nat → Prop} {ν3 : Nat → Value} {st3 : AS} {a3 : Act} {w3 : World}, Sat (cxAt false X.N S1 ν1 ⟨E, sta.hp, sta.nid⟩ w2) S3 ν3 st3 a3 w3 →
      w3.heap[l]? = some (.loop { state := .busy, pending := none, fn := fn, tmps := a1.tmps, params := ps.toArray, assign := asg, body := body, defers := D }) ∧ ¬ S3 l ∧ l ∉ blks ν3 st3.hp ∧ Sat X S3 ν3 ⟨E, st3.hp, st3.nid⟩ a1 w3 ∧
        (∀ k, k < w.heap.size → k ∉ blks ν st.hp → k ≠ l → w3.heap[k]? = w.heap[k]?) ∧ w3.os = w.os ∧ w3.tape = w.tape ∧ w3.output = w.output ∧ w.heap.size ≤ w3.heap.size ∧ (∀ i, i < st.nid → ν3 i = ν i) ∧ (∀ b, S b → S3 b) ∧ st.nid ≤ st3.nid ∧
        (∀ b, S3 b → S b ∨ w.heap.size ≤ b ∨ b ∈ blks ν st.hp) ∧ (∀ b, b ∈ blks ν3 st3.hp → w.heap.size ≤ b ∨ b ∈ blks ν st.hp) := by
    intro S3 ν3 st3 a3 w3 sat3
    have hsz12 : w2.heap.size = w1.heap.size := by rw [hw2]; simp
    have s01 : w.heap.size ≤ w1.heap.size := sat1.frame.size
    refine ⟨(sat3.frame.block l hlt2 c3).trans e2, fun hs => ?_, fun hm => ?_, c5.leave sat3, fun k hk hb hkl => ?_, ?_, ?_, ?_, ?_, fun i hi => ?_, fun b hb => sat3.imm0 b (sat1.imm0 b hb), Nat.le_trans sat1.ge sat3.ge, fun b hb => ?_, fun b hb => ?_⟩
    · rcases (sat3.imm l hs).2 with h | h | h
      · exact c2 h
      · exact absurd (show w2.heap.size ≤ l from h) (by omega)
      · exact c3 h
    · rcases (sat3.blk l hm).2.2 with h | h
      · exact absurd (show w2.heap.size ≤ l from h) (by omega)
      · exact c3 h
    · have hk2 : k < w2.heap.size := by omega
      have hk3 : k ∉ blks ν1 sta.hp := fun hm => by
        rcases (sat1.blk k hm).2.2 with h | h
        · exact absurd (show w.heap.size ≤ k from h) (by omega)
        · exact hb h
      rw [sat3.frame.block k hk2 hk3, hw2, World.putObj_heap_other hkl]
      exact sat1.frame.block k hk hb
    · rw [sat3.frame.os, hw2]; exact sat1.frame.os
    · rw [sat3.frame.tape, hw2]; exact sat1.frame.tape
    · rw [sat3.frame.output, hw2]; exact sat1.frame.output
    · have := sat3.frame.size; have h' : w2.heap.size ≤ w3.heap.size := this; omega
    · rw [sat3.fix i (Nat.lt_of_lt_of_le hi sat1.ge)]; exact sat1.fix i hi
    · rcases (sat3.imm b hb).2 with h | h | h
      · rcases (sat1.imm b h).2 with h | h | h
        · exact .inl h
        · exact .inr (.inl h)
        · exact .inr (.inr h)
      · exact .inr (.inl (by have : w2.heap.size ≤ b := h; omega))
      · rcases (sat1.blk b h).2.2 with h | h
        · exact .inr (.inl h)
        · exact .inr (.inr h)
    · rcases (sat3.blk b hb).2.2 with h | h
      · exact .inl (by have : w2.heap.size ≤ b := h; omega)
      · rcases (sat1.blk b h).2.2 with h | h
        · exact .inl h
        · exact .inr h
  have stop : ∀ {S3 : Nat → Prop} {ν3 : Nat → Value} {st3 : AS} {a3 : Act} {w3 : World} (j : Code), Sat (cxAt false X.N S1 ν1 ⟨E, sta.hp, sta.nid⟩ w2) S3 ν3 st3 a3 w3 →
      (∀ w0 B0 S0 ν0, Looping P X E ps asg body l a1 (some j) N ⟨N, w0, B0, S0, ν0, st3.nid, false⟩ → TE ⟨N, w0, B0, S0, ν0, st3.nid, false⟩ K ((AS.mk st.env st3.hp st3.nid).put o.dst (.o (.c (.bool false))))) →
      ∃ v w', (Instr.endRound l (some j)).run P w3 = .ok v w' ∧ Rr (.returned v) w' := by
    intro S3 ν3 st3 a3 w3 j sat3 hk
    obtain ⟨f1, f2, f3, f4, f5, f6, f7, f8, f9, f10, f11, f12, f13, f14⟩ := fin sat3
    refine ⟨_, _, run_endRound (some j) f1, ?_⟩
    rw [hRr]
    show K (a.put o.dst (.bool false)) _
    obtain ⟨w4, hw4⟩ : ∃ w4, w4 = w3.putObj l (.loop { state := .done, pending := some j, fn := fn, tmps := a1.tmps, params := ps.toArray, assign := asg, body := body, defers := D }) := ⟨_, rfl⟩
    have g4 : w4.heap[l]? = some (.loop { state := .done, pending := some j, fn := fn, tmps := a1.tmps, params := ps.toArray, assign := asg, body := body, defers := D }) := by
      rw [hw4]; exact World.putObj_heap_same (Array.getElem?_eq_some_iff.1 f1).1
    have g5 : Sat X S3 ν3 ⟨E, st3.hp, st3.nid⟩ a1 w4 := by rw [hw4]; exact f4.turn f1 (fun _ h => nomatch h) b2 f2 f3
    have gr4 : Gr w w4 S S3 := ⟨by rw [hw4, World.putObj_size]; exact f9, fun b hb hlt => by
      have hne : b ≠ l := fun e => b3 (by rw [← e]; exact hb)
      rw [hw4, World.putObj_heap_other hne]
      exact f5 b hlt (fun hm => (sat.blk b hm).2.1 hb) hne, f11⟩
    have g6 : Sat (cxAt false N S3 ν3 ⟨E, st3.hp, st3.nid⟩ w4) S3 ν3 ⟨st.env, st3.hp, st3.nid⟩ a w4 := g5.enter false (sat.defers.2.2 hmkC) (by rw [sat.size]; exact hNC) fun p hp =>
      ⟨by rw [← hNC]; exact (sat.env p hp).1, AV.mono gr4 (fun i hi => f10 i hi) (sat.elt p hp) (sat.env p hp).2, AV.lt_mono f12 (sat.elt p hp)⟩
    have g9 := hk w4 (fun b => b ∈ blks ν3 st3.hp) S3 ν3 ⟨S3, ν3, ⟨E, st3.hp, st3.nid⟩, w4, fn, D, g5, rfl, rfl, b2, f2, f3, g4⟩ S3 ν3 _ w4 (g6.put (dst := o.dst) (fun d hd' => by show d < N; rw [← hNC]; exact hd d hd') (v := .o (.c (.bool false))) (u := .bool false) ⟨rfl, rfl⟩ trivial)
    rw [hw4] at g9; exact g9
  refine hgo w2 (fun b => b ∈ blks ν1 sta.hp) S1 ν1 ⟨?_, ?_, ?_, ?_⟩ S1 ν1 a1' w2 c6
  · intro st3 hk S3 ν3 a3 w3 sat3
    obtain ⟨f1, f2, f3, f4, f5, f6, f7, f8, f9, f10, f11, f12, f13, f14⟩ := fin sat3
    refine ⟨_, _, run_endRound none f1, ?_⟩
    rw [hRr]
    show K (a.put o.dst (.bool true)) _
    obtain ⟨w4, hw4⟩ : ∃ w4, w4 = w3.putObj l (.loop { state := .ready, pending := none, fn := fn, tmps := a1.tmps, params := ps.toArray, assign := asg, body := body, defers := D }) := ⟨_, rfl⟩
    have g5 : Sat X S3 ν3 ⟨E, st3.hp, st3.nid⟩ a1 w4 := by rw [hw4]; exact f4.turn f1 (fun _ h => nomatch h) b2 f2 f3
    have g4 : w4.heap[l]? = some (.loop { state := .ready, pending := none, fn := fn, tmps := a1.tmps, params := ps.toArray, assign := asg, body := body, defers := D }) := by
      rw [hw4]; exact World.putObj_heap_same (Array.getElem?_eq_some_iff.1 f1).1
    have g6 : Fr (fun b => b ∈ blks ν st.hp) w w4 := by
      refine ⟨by rw [hw4]; exact f6, by rw [hw4]; exact f7, by rw [hw4]; exact f8, by rw [hw4, World.putObj_size]; exact f9, fun k hk hb => ?_⟩
      by_cases e : k = l
      · rw [e, g4, b5]; rfl
      · rw [hw4, World.putObj_heap_other e]; exact f5 k hk hb e
    have g7 := sat.swap (takes := st.hp) (rest := []) (gives := st3.hp) (nid := st3.nid) (S' := S3) (ν' := ν3) (w' := w4) (by simp) g6 f10 f11 (fun b hb => ⟨(g5.imm b hb).1, f13 b hb⟩) g5.hp g5.nd (fun b hb => ⟨(g5.blk b hb).1, (g5.blk b hb).2.1, (f14 b hb).symm⟩) g5.hlt f12
    have g8 : Sat C S3 ν3 ⟨st.env, st3.hp, st3.nid⟩ a w4 := by simpa using g7
    have g9 := hk S3 ν3 _ w4 (g8.put (dst := o.dst) hd (v := .o (.c (.bool true))) (u := .bool true) ⟨rfl, rfl⟩ trivial)
    rw [hw4] at g9; exact g9
  · intro st3 hk S3 ν3 a3 w3 sat3
    exact stop .ret sat3 hk
  · intro st3 id hk S3 ν3 a3 w3 sat3
    exact stop (.exit id) sat3 hk
  · exact fun d v c a w h => h

theorem TE.yield (L : Looping P X E ps asg body l a1 none N C) {lo rest : List Oper} {o : Oper} {c : Call} {x : Operand} {vs : List AV} {Nx Nc : Nat} (hC : C.N = Nc) (hd : dstOk Nc o = true) (hg : aguard lo st o = some true) (ho : o.op = .call c) (hc : c.callee = .value x) (hx : aop st x = some (.o (.c (.func (.yield l) #[] #[])))) (hv : aops st c.args.toList = some vs) (hlen : Nat.beq vs.length ps.length = true) (hN : X.N = Nx) (hps : allLtB Nx ps = true)
    (h : ∀ Qr w0 B0 S0 ν0, Rnd0 P X C E ps asg body l a1 N st.env o.dst (wpListIn Fence.wide 0 P lo.toArray Q rest) Qr ⟨Nx, w0, B0, S0, ν0, st.nid, false⟩ → TE ⟨Nx, w0, B0, S0, ν0, st.nid, false⟩ (asg.wpIn (RF l) 0 P (Exit.then (Begin P l body Qr) (fun _ _ _ => False))) (putPs ps vs ⟨E, st.hp, st.nid⟩)) :
    TE C (wpListIn Fence.wide 0 P lo.toArray Q (o :: rest)) st := by
  subst hC
  intro S ν a w sat
  have hw := aguard_ok (ops := lo.toArray) sat (by simpa using hg)
  simp only [wpListIn, hw, if_true]
  exact yield_op L ho hc hx hv hlen hN hps (dstOk_spec hd) _ h sat

theorem iter_leaves (L : Looping P X E ps asg body l a1 pend N C) {ifn : Func} (hr : ifn.results.toList = []) (sat : Sat C S ν st a w) {R : Ending → World → Prop} (h : ∀ v, R (.returned v) w) : LeavesInM Fence.wide 0 P ifn a.tmps R a.defers .returning w := by
  have hmk : C.mks = false := by obtain ⟨_, _, _, _, _, _, _, _, e, _⟩ := L.go; rw [e]
  rw [sat.defers.2.2 hmk]
  refine ⟨.tuple #[], ?_, h _⟩
  unfold results
  rw [show ifn.results = #[] by rw [← Array.toList_inj]; exact hr]
  simp [Sem.run_bind, Sem.run_pure]
/-- The iterator returns: all rounds went. -/
theorem TE.iterEnd (L : Looping P X E ps asg body l a1 none N C) {ifn : Func} {e : Exit} (he : e = .normal ∨ e = .ret) (hr : ifn.results.toList = []) (h : TE X (Q .normal) ⟨E, st.hp, st.nid⟩) : TE C (postR P ifn (rangePost Fence.wide 0 P l Q a1) e) st := by
  intro S ν a w sat
  obtain ⟨b1, b2, b3, b4, fn, D, b5⟩ := L.now sat
  have key : LeavesInM Fence.wide 0 P ifn a.tmps (rangePost Fence.wide 0 P l Q a1) a.defers .returning w :=
    iter_leaves L hr sat fun v => ⟨_, _, run_endLoop b5 (by simp), h S ν a1 _ (b1.turn b5 (fun _ h => nomatch h) b2 b3 b4)⟩
  rcases he with rfl | rfl <;> exact key
/-- The iterator returns: a round has left the loop by a jump. -/
theorem TE.iterStop {j : Code} (L : Looping P X E ps asg body l a1 (some j) N C) {ifn : Func} {e : Exit} (he : e = .normal ∨ e = .ret) (hr : ifn.results.toList = []) (h : TE X (j.wpIn Fence.wide 0 P Q) ⟨E, st.hp, st.nid⟩) : TE C (postR P ifn (rangePost Fence.wide 0 P l Q a1) e) st := by
  intro S ν a w sat
  obtain ⟨b1, b2, b3, b4, fn, D, b5⟩ := L.now sat
  have key : LeavesInM Fence.wide 0 P ifn a.tmps (rangePost Fence.wide 0 P l Q a1) a.defers .returning w :=
    iter_leaves L hr sat fun v => ⟨_, _, run_endLoop b5 (by simp), h S ν a1 _ (b1.turn b5 (fun _ h => nomatch h) b2 b3 b4)⟩
  rcases he with rfl | rfl <;> exact key
end
end Go.Proofs.YtmeapfckibbbbaaGreatDoor.Am
/- The abstract machine: what must hold that one state says less than another is reckoned out. No program is named. -/
namespace Go.Proofs.YtmeapfckibbbbaaGreatDoor.Am
open Go.RowKit Lw

def leCaps (g : Nat → Nat) : List (Nat × Nat) → List (Nat × Nat) → Bool
  | [], [] => true
  | (i, o) :: r, (j, o') :: r' => match Nat.beq i (g j), Nat.beq o o' with
    | true, true => leCaps g r r'
    | _, _ => false
  | _, _ => false
def leA1 (g : Nat → Nat) : A1 → A1 → Option (List Prop)
  | .c u, .c v => some [u = v]
  | .sb b, .sb c => some [b = c]
  | .sb b, .c v => some [.bool b = v]
  | .c v, .sb b => some [v = .bool b]
  | .own i, .own j => match Nat.beq i (g j) with
    | true => some []
    | false => none
  | .ptr i o, .ptr j o' => match Nat.beq i (g j), Nat.beq o o' with
    | true, true => some []
    | _, _ => none
  | .ro sz n c, .ro sz' n' c' => match Nat.beq sz sz' with
    | true => some [LeD sz n c n' c']
    | false => none
  | .c v, .ro _ n _ => some [v = .slice none 0 0, n = 0]
  | .clo f caps, .clo f' caps' => match Nat.beq f f', leCaps g caps caps' with
    | true, true => some []
    | _, _ => none
  | .optr i sz k o, .optr j sz' k' o' => match Nat.beq i (g j), Nat.beq o o' with
    | true, true => some [sz = sz', k = k']
    | _, _ => none
  | .vw i sz off n c, .vw j sz' off' n' c' => match Nat.beq i (g j) with
    | true => some [sz = sz', off = off', n = n', c = c']
    | _ => none
  | .eptr sz cell k off, .eptr sz' cell' k' off' => some [A1.eptr sz cell k off = A1.eptr sz' cell' k' off']
  | _, .any => some []
  | _, _ => none
def leL (g : Nat → Nat) : List A1 → List A1 → Option (List Prop)
  | [], [] => some []
  | a :: as, b :: bs => match leA1 g a b, leL g as bs with
    | some p, some q => some (appP p q)
    | _, _ => none
  | _, _ => none
def leS (g : Nat → Nat) : List (Sum A1 (List A1)) → List (Sum A1 (List A1)) → Option (List Prop)
  | [], [] => some []
  | .inl a :: as, .inl b :: bs => match leA1 g a b, leS g as bs with
    | some p, some q => some (appP p q)
    | _, _ => none
  | .inr a :: as, .inr b :: bs => match leL g a b, leS g as bs with
    | some p, some q => some (appP p q)
    | _, _ => none
  | _, _ => none
def leV (g : Nat → Nat) : AV → AV → Option (List Prop)
  | .o a, .o b => leA1 g a b
  | .g as, .g bs => leL g as bs
  | .t as, .t bs => leS g as bs
  | _, _ => none
def leVs (g : Nat → Nat) : List AV → List AV → Option (List Prop)
  | [], [] => some []
  | a :: as, b :: bs => match leV g a b, leVs g as bs with
    | some p, some q => some (appP p q)
    | _, _ => none
  | _, _ => none
def leE (g : Nat → Nat) (e : Env) : Env → Option (List Prop)
  | [] => some []
  | (t, v) :: r => match look e t with
    | some u => match leV g u v, leE g e r with
      | some p, some q => some (appP p q)
      | _, _ => none
    | none => none
def takeC : List Chunk → Nat → Option (Chunk × List Chunk)
  | [], _ => none
  | c :: r, id => match Nat.beq c.id id with
    | true => some (c, r)
    | false => match takeC r id with
      | some (d, r') => some (d, c :: r')
      | none => none
def leC1 (g : Nat → Nat) : Chunk → Chunk → Option (List Prop)
  | .box _ T cs, .box _ T' cs' => match Nat.beq T T' with
    | true => leL g cs cs'
    | false => none
  | .own _ E sz ct, .own _ E' sz' ct' => match Nat.beq E E', Nat.beq sz sz' with
    | true, true => some [LeD sz ct.n ct.cell ct'.n ct'.cell]
    | _, _ => none
  | .obj _ ob, .obj _ ob' => some [ob = ob']
  | .nest _ E ct j, .nest _ E' ct' j' => match Nat.beq E E', Nat.beq j (g j') with
    | true, true => some [LeD 1 ct.n ct.cell ct'.n ct'.cell]
    | _, _ => none
  | .stat _ b sz cell, .stat _ b' sz' cell' => match Nat.beq b b', Nat.beq sz sz' with
    | true, true => some [cell = cell']
    | _, _ => none
  | _, _ => none
/-- The chunks tk (their names turned) are among hp; what is left of hp. -/
def takeP (g : Nat → Nat) : List Chunk → List Chunk → Option (List Chunk × List Prop)
  | hp, [] => some (hp, [])
  | hp, c' :: r => match takeC hp (g c'.id) with
    | some (c, rest) => match leC1 g c c', takeP g rest r with
      | some p, some (left, q) => some (left, appP p q)
      | _, _ => none
    | none => none

section
variable {g : Nat → Nat} {ps : List Prop}
theorem appP_split {p q : List Prop} (h : ∀ x ∈ appP p q, x) : (∀ x ∈ p, x) ∧ ∀ x ∈ q, x := ⟨fun x hx => h x (mem_appP.2 (.inl hx)), fun x hx => h x (mem_appP.2 (.inr hx))⟩
theorem leCaps_ok : ∀ {c c' : List (Nat × Nat)}, leCaps g c c' = true → c = c'.map fun p => (g p.1, p.2)
  | [], [], _ => rfl
  | (i, o) :: r, (j, o') :: r', h => by
    simp only [leCaps] at h
    split at h
    · rename_i h1 h2
      rw [List.map_cons, ← leCaps_ok h, Nat.eq_of_beq_eq_true h1, Nat.eq_of_beq_eq_true h2]
    · cases h
  | [], _ :: _, h => nomatch h
  | _ :: _, [], h => nomatch h
theorem leA1_ok {a b : A1} (h : leA1 g a b = some ps) (hp : ∀ p ∈ ps, p) : LeA a (b.ren g) := by
  unfold leA1 at h
  split at h
  · cases h; exact LeA.cc (hp _ (List.mem_cons_self ..))
  · cases h; exact LeA.sb (hp _ (List.mem_cons_self ..))
  · rename_i b' v
    cases h
    have e := hp _ (List.mem_cons_self ..)
    subst e
    exact LeA.bool b'
  · rename_i v b'
    cases h
    have e := hp _ (List.mem_cons_self ..)
    subst e
    exact LeA.unbool rfl
  · split at h
    · rename_i h1; cases h; exact LeA.rown (Nat.eq_of_beq_eq_true h1)
    · cases h
  · split at h
    · rename_i h1 h2; cases h; rw [Nat.eq_of_beq_eq_true h2]; exact LeA.rptr (Nat.eq_of_beq_eq_true h1)
    · cases h
  · split at h
    · rename_i h1
      cases h
      have e := Nat.eq_of_beq_eq_true h1
      subst e
      exact LeA.rro (hp _ (List.mem_cons_self ..))
    · cases h
  · cases h
    have e1 := hp _ (List.mem_cons_self ..)
    have e2 := hp _ (List.mem_cons_of_mem _ (List.mem_cons_self ..))
    subst e1
    exact LeA.rronil e2
  · split at h
    · rename_i h1 h2
      cases h
      have e := Nat.eq_of_beq_eq_true h1
      subst e
      exact LeA.rclo (by show A1.clo _ _ = A1.clo _ (List.map _ _); rw [← leCaps_ok h2])
    · cases h
  · split at h
    · rename_i h1 h2
      cases h
      have e1 := hp _ (List.mem_cons_self ..)
      have e2 := hp _ (List.mem_cons_of_mem _ (List.mem_cons_self ..))
      subst e1 e2
      rw [Nat.eq_of_beq_eq_true h2, Nat.eq_of_beq_eq_true h1]
      exact LeA.refl _
    · cases h
  · split at h
    · rename_i h1
      cases h
      have e1 := hp _ (List.mem_cons_self ..)
      have e2 := hp _ (List.mem_cons_of_mem _ (List.mem_cons_self ..))
      have e3 := hp _ (List.mem_cons_of_mem _ (List.mem_cons_of_mem _ (List.mem_cons_self ..)))
      have e4 := hp _ (List.mem_cons_of_mem _ (List.mem_cons_of_mem _ (List.mem_cons_of_mem _ (List.mem_cons_self ..))))
      subst e1 e2 e3 e4
      rw [Nat.eq_of_beq_eq_true h1]
      exact LeA.refl _
    · cases h
  · cases h
    have e := hp _ (List.mem_cons_self ..)
    rw [e]; exact LeA.refl _
  · exact fun w S ν u h => A1.one h
  · cases h
theorem leL_ok : ∀ {as bs : List A1} {ps : List Prop}, leL g as bs = some ps → (∀ p ∈ ps, p) → All2 LeA as (bs.map (A1.ren g))
  | [], [], _, _, _ => trivial
  | a :: as, b :: bs, ps, h, hp => by
    simp only [leL] at h
    split at h
    · rename_i p q h1 h2
      cases h
      obtain ⟨k1, k2⟩ := appP_split hp
      exact ⟨leA1_ok h1 k1, leL_ok h2 k2⟩
    · cases h
  | [], _ :: _, _, h, _ => nomatch h
  | _ :: _, [], _, h, _ => nomatch h
theorem leS_ok : ∀ {as bs : List (Sum A1 (List A1))} {ps : List Prop}, leS g as bs = some ps → (∀ p ∈ ps, p) → All2 LeS as (bs.map (sumRen g))
  | [], [], _, _, _ => trivial
  | .inl a :: as, .inl b :: bs, ps, h, hp => by
    simp only [leS] at h
    split at h
    · rename_i p q h1 h2
      cases h
      obtain ⟨k1, k2⟩ := appP_split hp
      exact ⟨leA1_ok h1 k1, leS_ok h2 k2⟩
    · cases h
  | .inr a :: as, .inr b :: bs, ps, h, hp => by
    simp only [leS] at h
    split at h
    · rename_i p q h1 h2
      cases h
      obtain ⟨k1, k2⟩ := appP_split hp
      exact ⟨leL_ok h1 k1, leS_ok h2 k2⟩
    · cases h
  | [], _ :: _, _, h, _ => nomatch h
  | .inl _ :: _, [], _, h, _ => nomatch h
  | .inr _ :: _, [], _, h, _ => nomatch h
  | .inl _ :: _, .inr _ :: _, _, h, _ => nomatch h
  | .inr _ :: _, .inl _ :: _, _, h, _ => nomatch h
theorem leV_ok {a b : AV} (h : leV g a b = some ps) (hp : ∀ p ∈ ps, p) : LeV a (b.ren g) := by
  unfold leV at h
  split at h
  · exact LeV.r (leA1_ok h hp)
  · exact LeV.rg (leL_ok h hp)
  · exact LeV.rt (leS_ok h hp)
  · cases h
theorem leVs_ok : ∀ {as bs : List AV} {ps : List Prop}, leVs g as bs = some ps → (∀ p ∈ ps, p) → All2 LeV as (bs.map (AV.ren g))
  | [], [], _, _, _ => trivial
  | a :: as, b :: bs, ps, h, hp => by
    simp only [leVs] at h
    split at h
    · rename_i p q h1 h2
      cases h
      obtain ⟨k1, k2⟩ := appP_split hp
      exact ⟨leV_ok h1 k1, leVs_ok h2 k2⟩
    · cases h
  | [], _ :: _, _, h, _ => nomatch h
  | _ :: _, [], _, h, _ => nomatch h
theorem leE_ok {e : Env} : ∀ {r : Env} {ps : List Prop}, leE g e r = some ps → (∀ p ∈ ps, p) → EnvLe e (r.map fun p => (p.1, p.2.ren g))
  | [], _, _, _ => trivial
  | (t, v) :: r, ps, h, hp => by
    simp only [leE] at h
    split at h
    · rename_i u hu
      split at h
      · rename_i p q h1 h2
        cases h
        obtain ⟨k1, k2⟩ := appP_split hp
        exact ⟨⟨u, hu, leV_ok h1 k1⟩, leE_ok h2 k2⟩
      · cases h
    · cases h
theorem takeC_ok : ∀ {hp : List Chunk} {id : Nat} {c : Chunk} {r : List Chunk}, takeC hp id = some (c, r) → c.id = id ∧ ∃ i, hp[i]? = some c ∧ hp.eraseIdx i = r
  | x :: hp, id, c, r, h => by
    simp only [takeC] at h
    split at h
    · rename_i h1; cases h; exact ⟨Nat.eq_of_beq_eq_true h1, 0, rfl, rfl⟩
    · split at h
      · rename_i d r' h2
        cases h
        obtain ⟨k1, i, k2, k3⟩ := takeC_ok h2
        exact ⟨k1, i + 1, by simpa using k2, by rw [List.eraseIdx_cons_succ, k3]⟩
      · cases h
theorem leC1_ok {c c' : Chunk} (h : leC1 g c c' = some ps) (hp : ∀ p ∈ ps, p) (hid : c.id = g c'.id) : LeC c (c'.ren g) := by
  unfold leC1 at h
  split at h
  · split at h
    · rename_i h1; exact ⟨hid, Nat.eq_of_beq_eq_true h1, leL_ok h hp⟩
    · cases h
  · split at h
    · rename_i h1 h2
      cases h
      exact ⟨hid, Nat.eq_of_beq_eq_true h1, Nat.eq_of_beq_eq_true h2, hp _ (List.mem_cons_self ..)⟩
    · cases h
  · cases h; exact ⟨hid, hp _ (List.mem_cons_self ..)⟩
  · split at h
    · rename_i h1 h2
      cases h
      exact ⟨hid, Nat.eq_of_beq_eq_true h1, Nat.eq_of_beq_eq_true h2, hp _ (List.mem_cons_self ..)⟩
    · cases h
  · split at h
    · rename_i h1 h2
      cases h
      exact ⟨hid, Nat.eq_of_beq_eq_true h1, Nat.eq_of_beq_eq_true h2, hp _ (List.mem_cons_self ..)⟩
    · cases h
  · cases h
theorem takeP_ok : ∀ {tk hp left : List Chunk} {ps : List Prop}, takeP g hp tk = some (left, ps) → (∀ p ∈ ps, p) → TakeH hp (tk.map (Chunk.ren g)) left
  | [], hp, left, ps, h, _ => by cases h; exact TakeH.rnil
  | c' :: r, hp, left, ps, h, hh => by
    simp only [takeP] at h
    split at h
    · rename_i c rest h1
      split at h
      · rename_i p left' q h2 h3
        cases h
        obtain ⟨k1, k2⟩ := appP_split hh
        obtain ⟨j1, i, j2, j3⟩ := takeC_ok h1
        exact ⟨i, c, j2, leC1_ok h2 k1 j1, by rw [j3]; exact takeP_ok h3 k2⟩
      · cases h
    · cases h
theorem takeP_sub : ∀ {tk hp left : List Chunk} {ps : List Prop}, takeP g hp tk = some (left, ps) → (∀ p ∈ ps, p) → SubH hp (tk.map (Chunk.ren g))
  | [], hp, left, ps, h, _ => SubH.rnil
  | c' :: r, hp, left, ps, h, hh => by
    simp only [takeP] at h
    split at h
    · rename_i c rest h1
      split at h
      · rename_i p left' q h2 h3
        cases h
        obtain ⟨k1, k2⟩ := appP_split hh
        obtain ⟨j1, i, j2, j3⟩ := takeC_ok h1
        exact ⟨i, c, j2, leC1_ok h2 k1 j1, by rw [j3]; exact takeP_sub h3 k2⟩
      · cases h
    · cases h
end

def entP (N m : Nat) (st st' : AS) : Option (List Prop) := match st'.wf N, Nat.ble m st'.nid with
  | true, true => match leE (gEnv m st st') st.env st'.env, takeP (gEnv m st st') st.hp st'.hp with
    | some p, some (_, q) => some (appP p q)
    | _, _ => none
  | _, _ => none
section
variable {F : Fence} {P : Program} {T : Tys} {X : Cx} {st st' : AS} {Q : Exit → Act → World → Prop} {R : Act → World → Prop} {K : Nat → Bool}
theorem Ent.of {N m : Nat} {ps : List Prop} (hN : X.N = N) (hm : X.m = m) (h : entP N m st st' = some ps) (hp : AllP ps) : Ent X (gEnv X.m st st') st st' := by
  subst hN hm
  unfold entP at h
  split at h
  · rename_i h1 h2
    split at h
    · rename_i p left q h3 h4
      cases h
      obtain ⟨k1, k2⟩ := appP_split hp.mem
      exact Ent.auto h1 h2 (leE_ok h3 k1) (takeP_sub h4 k2)
    · cases h
  · cases h
def postP (T : Tys) (m : Nat) (fn : Func) (st : AS) (res : AV) (gives : List Chunk) : Option (List Prop) := match ares T st fn.results.toList with
  | some rvs => match retV rvs with
    | some rv => match leV (gOf m st.hp gives (appN (pairV rv res) (idsN m))) rv res, takeP (gOf m st.hp gives (appN (pairV rv res) (idsN m))) st.hp gives with
      | some p, some (_, q) => some (appP p q)
      | _, _ => none
    | none => none
  | none => none
theorem TE.ret' {ι : Type} {fn : Func} {takes : List Chunk} {pre : ι → Prop} {res : ι → AV} {gives : ι → List Chunk} {e : Exit} (he : e = .normal ∨ e = .ret) (hB : X.B0 = fun b => b ∈ blks X.ν0 takes) (hT : T.Ok P) (x : ι) (hpre : pre x) {m : Nat} {ps : List Prop} (hm : X.m = m) (h : postP T m fn st (res x) (gives x) = some ps) (hp : AllP ps) : TE X (postR P fn (RetR X takes pre res gives) e) st := by
  subst hm
  unfold postP at h
  split at h
  · rename_i rvs h1
    split at h
    · rename_i rv h2
      split at h
      · rename_i p left q h3 h4
        cases h
        obtain ⟨k1, k2⟩ := appP_split hp.mem
        exact TE.post he hB x hpre _ hT h1 h2 (leV_ok h3 k1) (takeP_sub h4 k2) gOf_fix
      · cases h
    · cases h
  · cases h

theorem AllP.go {ps : List Prop} (h : AllP ps) : AllP ps := h
def callP (st : AS) (c : Call) (f : FuncId) (args : List AV) (takes : List Chunk) (m : Nat) : Option ((Nat → Nat) × List Chunk × List Prop) := match acallee st c.callee, aops st c.args.toList with
  | some (f', caps), some vs => match allLt (gOf 0 st.hp takes (pairVs (vs ++ caps) args)) m st.nid with
    | true => match leVs (gOf 0 st.hp takes (pairVs (vs ++ caps) args)) (vs ++ caps) args, takeP (gOf 0 st.hp takes (pairVs (vs ++ caps) args)) st.hp takes with
      | some p, some (left, q) => some (gOf 0 st.hp takes (pairVs (vs ++ caps) args), left, (f' = f) :: appP p q)
      | _, _ => none
    | false => none
  | _, _ => none
theorem callP_ok {c : Call} {f : FuncId} {args : List AV} {takes : List Chunk} {m : Nat} {g : Nat → Nat} {left : List Chunk} {ps : List Prop} (h : callP st c f args takes m = some (g, left, ps)) (hp : AllP ps) : ∃ caps vs, acallee st c.callee = some (f, caps) ∧ aops st c.args.toList = some vs ∧ All2 LeV (vs ++ caps) (args.map (AV.ren g)) ∧ TakeH st.hp (takes.map (Chunk.ren g)) left ∧ ∀ i, i < m → g i < st.nid := by
  unfold callP at h
  split at h
  · rename_i f' caps vs h1 h2
    split at h
    · rename_i h4
      split at h
      · rename_i p left' q h5 h6
        cases h
        have e := hp.mem _ (List.mem_cons_self ..)
        obtain ⟨k1, k2⟩ := appP_split fun x hx => hp.mem x (List.mem_cons_of_mem _ hx)
        subst e
        exact ⟨caps, vs, h1, h2, leVs_ok h5 k1, takeP_ok h6 k2, allLt_ok h4⟩
      · cases h
    · cases h
  · cases h
/-- A call by a contract. -/
theorem TE.callW [Free F] {ι : Type} {f : FuncId} {args : List AV} {takes : List Chunk} {m M : Nat} {pre : ι → Prop} {res : ι → AV} {gives : ι → List Chunk} (hcon : Con P f args takes m M pre res gives) {l : List Oper} {o : Oper} {c : Call} {rest : List Oper} {N : Nat} (hN : X.N = N) (hd : dstOk N o = true) (hgd : aguard l st o = some true) (ho : o.op = .call c)
    {g : Nat → Nat} {left : List Chunk} {ps : List Prop} (h : callP st c f args takes m = some (g, left, ps)) (hp : AllP ps) (hk : ∀ x, pre x → TE X (wpListIn F 0 P l.toArray Q rest) (st.called left g m M o.dst (res x) (gives x))) : TE X (wpListIn F 0 P l.toArray Q (o :: rest)) st := by
  obtain ⟨caps, vs, h1, h2, h3, h4, h5⟩ := callP_ok h hp
  exact TE.call hcon hN hd hgd ho g h1 h2 h3 h4 h5 hk
theorem StepL.callW {ι : Type} {f : FuncId} {args : List AV} {takes : List Chunk} {m M : Nat} {pre : ι → Prop} {res : ι → AV} {gives : ι → List Chunk} (hcon : Con P f args takes m M pre res gives) {i fuel : Nat} {l : List Oper} {lb lb' : List Bool} {o : Oper} {c : Call} {N : Nat} (hN : X.N = N) (hi : nthO l i = some o) (hd : dstOk N o = true) (hgd : aguard l st o = some true) (ho : o.op = .call c)
    {g : Nat → Nat} {left : List Chunk} {ps : List Prop} (h : callP st c f args takes m = some (g, left, ps)) (hp : AllP ps) (hK : allK K g takes = true) (hb : normB (setB lb i) some = some lb') (hk : ∀ x, pre x → TL F P X l Q K fuel lb' (st.called left g m M o.dst (res x) (gives x))) : StepL F P X l Q K fuel lb st i :=
  fun hh => by
    obtain ⟨caps, vs, h1, h2, h3, h4, h5⟩ := callP_ok h hp
    refine StepAt.call hcon hN hi hd hgd ho g h1 h2 h3 h4 (allK_ok hK) h5 fun x hx' => ?_
    rw [normB_eq] at hb
    cases hb
    have := hk x hx' ⟨hh.1, by rw [setB_len, hh.2]⟩
    rw [setB_arr]; exact this

/-- What is known of numbers and contents, for 'simp only'. -/
theorem NS : (∀ s : ByteArray, (s = ByteArray.mk #[]) = (s.size = 0)) ∧ (∀ n : Nat, ((n : Int)).toNat = n) ∧ (∀ p : Prop, ∀ [Decidable p], (decide p = true) = p) ∧ (∀ p : Prop, ∀ [Decidable p], (decide p = false) = ¬p) ∧ (∀ b : Bool, ((!b) = true) = (b = false)) ∧ (∀ b : Bool, ((!b) = false) = (b = true)) ∧
    (∀ a b : Bool, ((a || b) = true) = (a = true ∨ b = true)) ∧ (∀ a b : Bool, ((a && b) = true) = (a = true ∧ b = true)) ∧ (∀ a b : Bool, ((a || b) = false) = (a = false ∧ b = false)) ∧ (∀ a b : Bool, ((a && b) = false) = (a = false ∨ b = false)) ∧ (∀ p : Prop, (¬¬p) = p) ∧
    (∀ a b : Nat, ((a : Int) < (b : Int)) = (a < b)) ∧ (∀ a b : Nat, ((a : Int) ≤ (b : Int)) = (a ≤ b)) ∧ (∀ a b : Nat, ((a : Int) = (b : Int)) = (a = b)) ∧ (∀ a b : Int, (¬ a < b) = (b ≤ a)) ∧ (∀ a b : Int, (¬ a ≤ b) = (b < a)) ∧ (∀ a b : Nat, (¬ a < b) = (b ≤ a)) ∧ (∀ a b : Nat, (¬ a ≤ b) = (b < a)) ∧
    (∀ l : List UInt8, (bytesC l).n = l.length) ∧ (∀ {α : Type} (f : α → Nat → DC) (d : α) (l : List α), (listC f d l).n = l.length) := by
  refine ⟨fun s => propext (strnil_iff s), fun n => rfl, fun p _ => decide_eq_true_eq, fun p _ => propext decide_eq_false_iff_not, fun b => by cases b <;> decide, fun b => by cases b <;> decide, fun a b => by cases a <;> cases b <;> decide, fun a b => by cases a <;> cases b <;> decide, fun a b => by cases a <;> cases b <;> decide, fun a b => by cases a <;> cases b <;> decide, fun p => propext Classical.not_not, fun a b => propext Int.ofNat_lt, fun a b => propext Int.ofNat_le, fun a b => propext Int.natCast_inj, fun a b => propext Int.not_lt, fun a b => propext Int.not_le, fun a b => propext Nat.not_lt, fun a b => propext Nat.not_le, fun l => rfl, fun f d l => rfl⟩
theorem OS : (AllP [] = True) ∧ (∀ p : Prop, AllP [p] = p) ∧ (∀ (p q : Prop) (r : List Prop), AllP (p :: q :: r) = (p ∧ AllP (q :: r))) ∧ (∀ l : List UInt8, (bytesC l).n = l.length) ∧ (∀ {α : Type} (f : α → Nat → DC) (d : α) (l : List α), (listC f d l).n = l.length) ∧ (∀ l : List (List DC), (litC l).n = l.length) ∧ (∀ a b : Ct, (appC a b).n = a.n + b.n) ∧ (nilC.n = 0) ∧
    (∀ s : ByteArray, (strC s).n = s.size) ∧ (∀ n z, (zeroC n z).n = n) ∧ (∀ c k o d, (setC c k o d).n = c.n) ∧ (∀ {α : Type} (a : α) (l : List α), (a :: l).length = l.length + 1) ∧ (∀ {α : Type}, ([] : List α).length = 0) ∧ (∀ {α : Type} (a b : List α), (a ++ b).length = a.length + b.length) ∧ (∀ {α β : Type} (f : α → β) (l : List α), (l.map f).length = l.length) ∧ (∀ n : Nat, ((n : Int)).toNat = n) ∧ ((2 : Int) ^ Int.toNat 1 = 2) ∧ (∀ c n, (headC c n).n = n) ∧ (∀ c p n, (partC c p n).n = n) ∧ (∀ c p s, (setRngC c p s).n = max c.n (p + s.n)) := by
  refine ⟨rfl, fun _ => rfl, fun _ _ _ => rfl, fun _ => rfl, fun _ _ _ => rfl, fun _ => rfl, fun _ _ => rfl, rfl, fun _ => rfl, fun _ _ => rfl, fun _ _ _ _ => rfl, fun _ _ => rfl, rfl, fun _ _ => List.length_append, fun _ _ => List.length_map _, fun _ => rfl, rfl, fun _ _ => rfl, fun _ _ _ => rfl, fun _ _ _ => rfl⟩
theorem LeD.lit {α : Type} {f : α → Nat → DC} {d : α} {sz n : Nat} {rs : List (List DC)} {l : List α} (hn : n = l.length) (h : RowsOk f sz rs l) : LeD sz (litC rs).n (litC rs).cell n (listC f d l).cell := by
  subst hn
  exact listC_lit h
theorem TE.rgo [Free F] (hT : T.Ok P) {N id : Nat} {l rest' : List Oper} {ps : List Prop} (hN : X.N = N) (h : st.force (fun s => arun T N l l s []) = (rest', st', ps)) (hps : AllP ps) (hk : TE X (wpListIn F 0 P l.toArray Q rest') st') : TE X ((Code.region id l.toArray false).wpIn F 0 P Q) st := TE.region (TE.run hT hN h hps hk)
end
/-! Short names of the control rules. -/
abbrev t1 := @TE.seq
abbrev t2 := @TE.done
abbrev t3 := @TE.thenN
abbrev t4 := @TE.inN
abbrev t5 := @TE.skip
abbrev t6 := @TE.block
abbrev t7 := @TE.ret
abbrev t8 := @TE.thenR
abbrev t9 := @TE.inR
abbrev tA := @TE.exit
abbrev tB := @TE.thenE
abbrev tC := @TE.inHit
abbrev tD := @TE.inMiss
abbrev tE := @TE.label
abbrev tF := @TE.goto
abbrev tG := @TE.thenG
abbrev tH := @TE.inG
abbrev tI := @TE.jumpN
abbrev tJ := @TE.jumpR
abbrev tK := @TE.jumpE
abbrev tL := @TE.jumpG
end Go.Proofs.YtmeapfckibbbbaaGreatDoor.Am
/- The abstract machine: slices seen as parts, loops whose state is reckoned out, structs compared. No program is named. -/
namespace Go.Proofs.YtmeapfckibbbbaaGreatDoor.Am
open Go.RowKit Lw

abbrev U : Unit → Prop := fun _ => True
abbrev G0 : Unit → List Chunk := fun _ => []
def ownA (id sz n C : Nat) : A1 → A1
  | .own i => match Nat.beq i id with
    | true => .vw id sz 0 n C
    | false => .own i
  | a => a
def ownL (id sz n C : Nat) : List A1 → List A1
  | [] => []
  | a :: as => ownA id sz n C a :: ownL id sz n C as
def ownV (id sz n C : Nat) : AV → AV
  | .o a => .o (ownA id sz n C a)
  | .g as => .g (ownL id sz n C as)
  | v => v
def ownE (id sz n C : Nat) : Env → Env
  | [] => []
  | (t, v) :: e => (t, ownV id sz n C v) :: ownE id sz n C e
section
variable {F : Fence} {P : Program} {T : Tys} {X : Cx} {S : Nat → Prop} {ν : Nat → Value} {st st' : AS} {a : Act} {w : World} {Q : Exit → Act → World → Prop} {R : Act → World → Prop} {K : Nat → Bool}
theorem ownA_rel {id g sz n C : Nat} (h1 : ν id = .slice (some ⟨g, 0, none⟩) n C) (hn : n ≤ C) {a : A1} {u : Value} (h : a.rel w S ν u) : (ownA id sz n C a).rel w S ν u := by
  unfold ownA
  split
  · split
    · rename_i hi
      have hi := Nat.eq_of_beq_eq_true hi
      subst hi
      obtain ⟨rfl, _⟩ := h
      exact ⟨g, n, C, 0, h1, h1, hn, by omega, fun _ => by omega⟩
    · exact h
  · exact h
theorem ownA_lt {id sz n C m : Nat} {a : A1} (h : a.lt m) : (ownA id sz n C a).lt m := by
  unfold ownA
  split
  · split
    · rename_i hi
      have hi := Nat.eq_of_beq_eq_true hi
      subst hi; exact h
    · exact h
  · exact h
theorem ownL_rel {id g sz n C : Nat} (h1 : ν id = .slice (some ⟨g, 0, none⟩) n C) (hn : n ≤ C) : ∀ {as : List A1} {us : List Value}, All2 (A1.rel w S ν) as us → All2 (A1.rel w S ν) (ownL id sz n C as) us
  | [], [], _ => trivial
  | _ :: _, _ :: _, ⟨a1, a2⟩ => ⟨ownA_rel h1 hn a1, ownL_rel h1 hn a2⟩
  | [], _ :: _, h => h.elim
  | _ :: _, [], h => h.elim
theorem ownL_lt {id sz n C m : Nat} : ∀ {as : List A1}, (∀ a ∈ as, a.lt m) → ∀ a ∈ ownL id sz n C as, a.lt m
  | _ :: _, h, x, hx => by
    rcases List.mem_cons.1 hx with rfl | hx
    · exact ownA_lt (h _ (List.mem_cons_self ..))
    · exact ownL_lt (fun a ha => h a (List.mem_cons_of_mem _ ha)) x hx
theorem ownV_rel {id g sz n C : Nat} (h1 : ν id = .slice (some ⟨g, 0, none⟩) n C) (hn : n ≤ C) {v : AV} {u : Value} (h : v.rel w S ν u) : (ownV id sz n C v).rel w S ν u := by
  cases v with
  | o a => exact ownA_rel (w := w) (S := S) h1 hn h
  | g as => obtain ⟨us, e, r⟩ := h; exact ⟨us, e, ownL_rel h1 hn r⟩
  | t xs => exact h
theorem ownV_lt {id sz n C m : Nat} {v : AV} (h : v.lt m) : (ownV id sz n C v).lt m := by
  cases v with
  | o a => exact ownA_lt h
  | g as => exact ownL_lt h
  | t xs => exact h
theorem ownE_mem {id sz n C : Nat} : ∀ {e : Env} {p : Nat × AV}, p ∈ ownE id sz n C e → ∃ v, (p.1, v) ∈ e ∧ p.2 = ownV id sz n C v
  | (t, v) :: e, p, h => by
    rcases List.mem_cons.1 h with rfl | h
    · exact ⟨v, List.mem_cons_self .., rfl⟩
    · obtain ⟨v, h1, h2⟩ := ownE_mem h
      exact ⟨v, List.mem_cons_of_mem _ h1, h2⟩
theorem Sat.view (id : Nat) {E sz : Nat} {ct : Ct} (htk : findOwn (fun _ => true) st.hp id = some (E, sz, ct)) (hpos : 0 < ct.n) (sat : Sat X S ν st a w) : ∃ C, ct.n ≤ C ∧ C ≤ 9223372036854775807 ∧ Sat X S ν ⟨ownE id sz ct.n C st.env, st.hp, st.nid⟩ a w := by
  obtain ⟨xs, o1, o2⟩ := sat.hp _ (findOwn_ok htk).1
  have hor := o1.2
  rcases hor with ⟨_, e⟩ | ⟨g, cap, cur, e, _, hg, hnc, hcm, _⟩
  · omega
  · refine ⟨cap, hnc, by unfold maxLen at hcm; omega, Sat.reenv (e := st.env) sat fun p hp => ?_⟩
    obtain ⟨v, h1, h2⟩ := ownE_mem hp
    exact ⟨v, h1, fun u hu => by rw [h2]; exact ownV_rel e hnc hu, fun hl => by rw [h2]; exact ownV_lt hl⟩
/-- A slice of the call's own is seen as a part of what it lies in. -/
theorem TE.view (id : Nat) {E sz : Nat} {ct : Ct} (htk : findOwn (fun _ => true) st.hp id = some (E, sz, ct)) (hpos : 0 < ct.n) (h : ∀ C, ct.n ≤ C → C ≤ 9223372036854775807 → TE X R ⟨ownE id sz ct.n C st.env, st.hp, st.nid⟩) : TE X R st := by
  intro S ν a w sat
  obtain ⟨C, h1, h2, h3⟩ := sat.view id htk hpos
  exact h C h1 h2 S ν a w h3
/-- A part that begins where the whole begins is a slice of the call's own. -/
theorem TE.shut (t : Nat) {id sz n k E : Nat} {ct : Ct} {rest : List Chunk} (hl : look st.env t = some (.o (.vw id sz 0 n k))) (htk : takeOwn (fun _ => true) st.hp id = some (E, sz, ct, rest)) (h0 : 0 < k) (hn : n ≤ ct.n)
    (h : TE X R ((AS.mk st.env (.own st.nid E sz (headC ct n) :: rest) (st.nid + 1)).put (some t) (.o (.own st.nid)))) : TE X R st := by
  intro S ν a w sat
  obtain ⟨ht, hv⟩ := sat.env _ (look_mem hl)
  obtain ⟨g, N, C, oo, v1, v2, v3, v4, v5⟩ := vw_at (w := w) (S := S) hv
  obtain ⟨hp, _⟩ := takeOwn_perm htk
  have hm : Chunk.own id E sz ct ∈ st.hp := hp.symm.subset (List.mem_cons_self ..)
  obtain ⟨xs, h1, h2⟩ := sat.hp _ hm
  obtain ⟨hN, cur, hg, hnc, hcm, hcs, htake, hxl⟩ := own_at h1 v1
  have hoo : oo = 0 := by rw [v5 h0]; omega
  subst hoo
  have hkC : k = C := by omega
  subst hkC
  have hlt := sat.hlt _ hm
  have hbk : (Chunk.own id E sz ct).blk ν = some g := by simp [Chunk.blk, v1, Value.ownBlock]
  have hblk : blks ν [Chunk.own id E sz ct] = [g] := by simp [blks, hbk]
  have hbs := sat.blk g (mem_blks.2 ⟨_, hm, hbk⟩)
  have hb : n * sz ≤ ct.n * sz := Nat.mul_le_mul_right _ hn
  have hb1 : ct.n * sz ≤ k * sz := Nat.mul_le_mul_right _ hnc
  refine h S (upd ν st.nid (.slice (some ⟨g, 0, none⟩) n k)) a w (Sat.reput ?_ ht (v := .o (.own st.nid)) ⟨by rw [upd_same]; exact v2, by rw [upd_same]; rfl⟩ (Nat.lt_succ_self _))
  refine sat.swap (nid := st.nid + 1) (takes := [.own id E sz ct]) (gives := [.own st.nid E sz (headC ct n)]) hp (Fr.refl _ _) upd_lt (fun _ h => h) (fun b hb => ⟨(sat.imm b hb).1, .inl hb⟩) (fun ch hc => ?_) ?_ (fun b hb => ?_) (fun ch hc => ?_) (Nat.le_succ _)
  · rw [List.mem_singleton.1 hc]
    refine ⟨xs.take (n * sz), ⟨?_, .inr ⟨g, k, cur, upd_same _ _ _, Nat.zero_le _, hg, by show n ≤ k; omega, hcm, hcs, ?_⟩⟩, fun i j hi hj => ?_⟩
    · rw [List.length_take, hxl]; show _ = n * sz; omega
    · rw [← htake, List.take_take, Nat.min_eq_left hb]; rfl
    · have hi : i < n := hi
      have hb2 : (i + 1) * sz ≤ n * sz := Nat.mul_le_mul_right _ hi
      rw [Nat.add_mul, Nat.one_mul] at hb2
      obtain ⟨u, u1, u2⟩ := h2 i j (by omega) hj
      exact ⟨u, by rw [List.getElem?_take, if_pos (by omega)]; exact u1, u2⟩
  · simp [blks, Chunk.blk, upd_same, Value.ownBlock]
  · have : b = g := by simpa [blks, Chunk.blk, upd_same, Value.ownBlock] using hb
    subst this
    exact ⟨hbs.1, hbs.2.1, .inl (by rw [hblk]; simp)⟩
  · rw [List.mem_singleton.1 hc]; exact Nat.lt_succ_self _

/-! Loops. -/
def dsts : Code → List Nat
  | .region _ ops _ => ops.toList.filterMap (·.dst)
  | .seq x y => dsts x ++ dsts y
  | .cond _ x y => dsts x ++ dsts y
  | .block _ x => dsts x
  | .loop x => dsts x
  | .rangeFunc _ ps x y => ps.toList ++ (dsts x ++ dsts y)
  | .scope x => dsts x
  | _ => []
def memN : List Nat → Nat → Bool
  | [], _ => false
  | a :: l, i => match Nat.beq a i with
    | true => true
    | false => memN l i
def dropE (ts : List Nat) : Env → Env
  | [] => []
  | (t, v) :: e => match memN ts t with
    | true => dropE ts e
    | false => (t, v) :: dropE ts e
def dropH (ids : List Nat) : List Chunk → List Chunk
  | [] => []
  | c :: r => match memN ids c.id with
    | true => dropH ids r
    | false => c :: dropH ids r
def appE : Env → Env → Env
  | [], e => e
  | p :: r, e => p :: appE r e
def appH : List Chunk → List Chunk → List Chunk
  | [], e => e
  | p :: r, e => p :: appH r e
/-- A loop: what its rounds do not write stays as it is; es, hs: what they write. -/
theorem TE.loopG [Free F] {ι : Type} (pre : ι → Prop) (es : ι → Env) (ids : List Nat) (hs : ι → List Chunk) (μ : ι → Nat) (x0 : ι) {c : Code} {E0 : Env} {H0 : List Chunk} {n0 : Nat}
    (hE : st.force (fun s => forceE (dropE (dsts c) s.env) fun e => forceH (dropH ids s.hp) fun h => AS.mk e h s.nid) = ⟨E0, H0, n0⟩)
    (h0 : pre x0) (he : Ent X (gEnv X.m st ⟨appE (es x0) E0, appH (hs x0) H0, n0⟩) st ⟨appE (es x0) E0, appH (hs x0) H0, n0⟩)
    (round : ∀ x, pre x → TE X (c.wpIn F 0 P (Exit.then (Again X pre (fun x => ⟨appE (es x) E0, appH (hs x) H0, n0⟩) μ (μ x)) Q)) ⟨appE (es x) E0, appH (hs x) H0, n0⟩) : TE X ((Code.loop c).wpIn F 0 P Q) st :=
  TE.loop' pre (fun x => ⟨appE (es x) E0, appH (hs x) H0, n0⟩) μ x0 h0 he round

/-! Two, three, four operations that may come up. -/
theorem TL.two [Free F] {l : List Oper} {i j : Nat} {fuel : Nat} {lb : List Bool} (hr : readyL lb 0 l lb = [i, j]) (h1 : StepL F P X l Q K fuel lb st i) (h2 : StepL F P X l Q K fuel lb st j) : TL F P X l Q K (fuel + 1) lb st := TL.branch hr ⟨h1, h2⟩
theorem TL.three [Free F] {l : List Oper} {i j k : Nat} {fuel : Nat} {lb : List Bool} (hr : readyL lb 0 l lb = [i, j, k]) (h1 : StepL F P X l Q K fuel lb st i) (h2 : StepL F P X l Q K fuel lb st j) (h3 : StepL F P X l Q K fuel lb st k) : TL F P X l Q K (fuel + 1) lb st := TL.branch hr ⟨h1, h2, h3⟩
theorem TL.four [Free F] {l : List Oper} {i j k m : Nat} {fuel : Nat} {lb : List Bool} (hr : readyL lb 0 l lb = [i, j, k, m]) (h1 : StepL F P X l Q K fuel lb st i) (h2 : StepL F P X l Q K fuel lb st j) (h3 : StepL F P X l Q K fuel lb st k) (h4 : StepL F P X l Q K fuel lb st m) : TL F P X l Q K (fuel + 1) lb st := TL.branch hr ⟨h1, h2, h3, h4⟩
/-! Structs of cells are compared. -/
def eqCell (k : TK) : A1 → A1 → Option Bool
  | .c (.int j m), .c (.int j' n) => match k, decide (j = j') with
    | .int _, true => some (decide (m = n))
    | _, _ => none
  | .c (.string s), .c (.string t) => match k with
    | .str => some (decide (s = t))
    | _ => none
  | x, y => match k, abool x, abool y with
    | .bool, some a, some b => some (decide (a = b))
    | _, _, _ => none
def eqCells (T : Tys) (as bs : List A1) : List (Nat × Nat × Nat) → Option Bool
  | [] => some true
  | (ft, off, _) :: r => match tlook T ft, nth as off, nth bs off with
    | some ti, some a, some b => match eqCell ti.k a b, eqCells T as bs r with
      | some p, some q => some (p && q)
      | _, _ => none
    | _, _, _ => none
def eqOkB (P : Program) (t : TypeId) : Bool := (P.fieldsOf t).toList.all (fun f => f.name != "_") && !P.stoodInHeld t && !P.eqGuardType P.depth t
theorem eqCell_ok (hT : T.Ok P) {ft : Nat} {ti : TI} (ht : tlook T ft = some ti) {x y : A1} {b : Bool} {u v : Value} (h : eqCell ti.k x y = some b) (hx : x.rel w S ν u) (hy : y.rel w S ν v) (d : Nat) (w' : World) : (Op.equalIn (d + 1) ft u v).run P w' = .ok b w' ∧ ti.agg = false := by
  obtain ⟨hti, hid⟩ := hT.get ht
  obtain ⟨dd, hu, hk, hrow⟩ := hti.und
  rw [hid] at hu
  unfold eqCell at h
  split at h
  · split at h
    · rename_i k' hkk hj
      cases h
      obtain ⟨rfl, _⟩ := hx
      obtain ⟨rfl, _⟩ := hy
      have hj := of_decide_eq_true hj
      subst hj
      rw [hkk] at hk
      have hk : dd = .int _ := hk
      subst hk
      exact ⟨by rw [run_equalIn_int w' d ft _ _ _ _ hu]; rfl, hrow.symm⟩
    · cases h
  · split at h
    · rename_i hkk
      cases h
      obtain ⟨rfl, _⟩ := hx
      obtain ⟨rfl, _⟩ := hy
      rw [hkk] at hk
      have hk : dd = .string := hk
      subst hk
      refine ⟨?_, hrow.symm⟩
      rw [run_equalIn_string w' d ft _ _ hu]
      congr 1
      rw [ByteArray.toList_eq, ByteArray.toList_eq]; exact str_eq _ _
    · cases h
  · split at h
    · rename_i a' b' hkk ha hb
      cases h
      obtain rfl := abool_ok ha hx
      obtain rfl := abool_ok hb hy
      rw [hkk] at hk
      have hk : dd = .bool := hk
      subst hk
      exact ⟨by rw [run_equalIn_bool' w' d ft _ _ hu]; rfl, hrow.symm⟩
    · cases h
theorem eqFields_ok (hT : T.Ok P) {as bs : List A1} {us vs : List Value} (hu : All2 (A1.rel w S ν) as us) (hv : All2 (A1.rel w S ν) bs vs) (d : Nat) (w' : World) : ∀ {l : List Field} {fs : List (Nat × Nat × Nat)} {b : Bool}, l.map (fun f => (f.type, f.offset)) = fs.map (fun p => (p.1, p.2.1)) → (∀ f ∈ l, f.name ≠ "_") → eqCells T as bs fs = some b →
    (Op.eqFields (d + 1) us.toArray vs.toArray l).run P w' = .ok b w'
  | [], [], b, _, _, h => by cases h; rfl
  | f :: l, (ft, off, z) :: fs, b, hm, hn, h => by
    obtain ⟨h1, h2⟩ := List.cons.inj hm
    have e1 : f.type = ft := (Prod.mk.inj h1).1
    have e2 : f.offset = off := (Prod.mk.inj h1).2
    subst e1 e2
    simp only [eqCells] at h
    split at h
    · rename_i ti x y ht hx hy
      split at h
      · rename_i p q hp hq
        cases h
        rw [nth_eq] at hx hy
        obtain ⟨u, u1, u2⟩ := hu.get hx
        obtain ⟨v, v1, v2⟩ := hv.get hy
        obtain ⟨k1, k2⟩ := eqCell_ok hT ht hp u2 v2 d w'
        have hag : (isAgg f.type).run P w' = .ok false w' := by
          obtain ⟨hti, hid⟩ := hT.get ht
          obtain ⟨dd, hund, _, hrow⟩ := hti.und
          rw [hid] at hund
          rw [k2] at hrow
          have : P.underlying f.type = some dd := hund
          simp [isAgg, run_underlying this]
          cases dd <;> first | rfl | cases hrow
        have ih := eqFields_ok hT hu hv d w' (l := l) (fs := fs) h2 (fun f hf => hn f (List.mem_cons_of_mem _ hf)) hq
        have hu' : (us.toArray)[f.offset]? = some u := by simpa using u1
        have hv' : (vs.toArray)[f.offset]? = some v := by simpa using v1
        simp only [Op.eqFields, if_pos (hn f (List.mem_cons_self ..)), part, Sem.run_bind, hag, Result.andThen_ok, Bool.false_eq_true, if_false, hu', hv', Sem.run_pure, k1]
        cases p
        · rfl
        · simpa using ih
      · cases h
    · cases h
  | [], _ :: _, _, h, _, _ => nomatch h
  | _ :: _, [], _, h, _, _ => nomatch h
theorem m_eqS (hT : T.Ok P) {o : Oper} {op : BinOp} {t t' : TypeId} {x y : Operand} {zi z1 z2 : Nat} {z3 : List Value} {z4 : Bool} {fs : List (Nat × Nat × Nat)} {as bs : List A1} {b : Bool} (hok : eqOkB P t = true) (ho : o.op = .binOp op t x y t') (hop : op = .eql ∨ op = .neq) (ht : tlook T t = some ⟨zi, .struct fs, z1, z2, z3, z4⟩)
    (hx : aop st x = some (.g as)) (hy : aop st y = some (.g bs)) (h : eqCells T as bs fs = some b) : StepTo P K o st (· = st.put o.dst (.o (.sb (b == (op == .eql))))) := by
  intro X S ν a w Q K' hd sat hk
  obtain ⟨⟨us, e1, r1⟩, _⟩ := aop_ok sat hx
  obtain ⟨⟨vs, e2, r2⟩, _⟩ := aop_ok sat hy
  obtain ⟨arr, hund, hm, _⟩ := und_struct hT ht
  have hf : P.fieldsOf t = arr := by unfold Program.fieldsOf; rw [hund]
  unfold eqOkB at hok
  rw [hf] at hok
  simp only [Bool.and_eq_true, Bool.not_eq_true'] at hok
  obtain ⟨⟨k1, k2⟩, k3⟩ := hok
  have hr := eqFields_ok hT r1 r2 9998 w hm (fun f hf => by simpa using List.all_eq_true.1 k1 f hf) h
  have hst := run_equalIn_struct (P := P) w 9999 t us.toArray vs.toArray (by rw [hf]; exact hund) k2
  rw [hf, hr] at hst
  refine wp_value (w' := w) (u := .bool (b == (op == .eql))) ?_ (hk _ S ν _ _ rfl (sat.put hd rfl trivial) ⟨Nat.le_refl _, fun _ h => h, fun ch hc hk => ⟨by rw [(AS.put_hp _ _ _).1]; exact hc, rfl⟩, fun _ _ => rfl⟩)
  rw [exec_binOp ho, Sem.run_bind, e1, e2]
  have : (do eqGuard op t x y (.agg us.toArray) (.agg vs.toArray); binOp op t (.agg us.toArray) (.agg vs.toArray) : Sem Value).run P w = .ok (.bool (b == (op == .eql))) w := by
    rw [Sem.run_bind, run_eqGuard_agg w op t x y _ _ k3, Result.andThen_ok]
    rcases hop with rfl | rfl
    · rw [run_eql_struct, hst]; cases b <;> rfl
    · rw [run_neq_struct, hst]; cases b <;> rfl
  rw [this]; rfl
end
end Go.Proofs.YtmeapfckibbbbaaGreatDoor.Am
/- The abstract machine: the model's own entry for slices.overlaps. No program is named. -/
namespace Go.Proofs.YtmeapfckibbbbaaGreatDoor.Am
open Go.RowKit Lw
theorem bytes_app {a b : Ct} {x y z : List UInt8} (h : LeDC 1 a (bytesC x)) (k : LeDC 1 b (bytesC y)) (e : z = x ++ y) : LeDC 1 (appC a b) (bytesC z) := by
  subst e; exact (LeDC.app h k).trans (listC_app x y)
theorem byte_lit {z : Int} {b : UInt8} (h : z = b.toNat) : LeDC 1 (litC [[.c (.int .u8 z)]]) (bytesC [b]) := listC_one b (byte_nth h)
theorem LeD.zero {sz n n' : Nat} {c c' : Nat → Nat → DC} (h : n = 0) (h' : n' = 0) : LeD sz n c n' c' := by subst h h'; exact ⟨rfl, fun i j hi => absurd hi (Nat.not_lt_zero _)⟩
section
variable {P : Program} {T : Tys} {st : AS} {o : Oper} {K : Nat → Bool}
/-- One operation of a drawn region by a law of its own. -/
theorem StepL.law {F : Fence} {X : Cx} {Q : Exit → Act → World → Prop} {R' : AS → Prop} {i fuel : Nat} {l : List Oper} {lb lb' : List Bool} {o : Oper} {N : Nat} (hN : X.N = N) (hi : nthO l i = some o) (hd : dstOk N o = true) (hnd : ∀ c, o.op ≠ .defer c) (hg : aguard l st o = some true) (h : StepTo P K o st R') (hb : normB (setB lb i) some = some lb') (hk : ∀ s, R' s → TL F P X l Q K fuel lb' s) : StepL F P X l Q K fuel lb st i :=
  fun hh => by
    subst hN
    refine ⟨o, by rw [← Array.getElem?_toList, ← nthO_eq]; exact hi, hd, hnd, by simpa using hg, R', h, fun s hs => ?_⟩
    rw [normB_eq] at hb
    cases hb
    have := hk s hs ⟨hh.1, by rw [setB_len, hh.2]⟩
    rw [setB_arr]; exact this
end
end Go.Proofs.YtmeapfckibbbbaaGreatDoor.Am
/- The abstract machine: ranges over strings. No program is named. -/
namespace Go.Proofs.YtmeapfckibbbbaaGreatDoor.Am
open Go.RowKit Lw
section
variable {F : Fence} {P : Program} {T : Tys} {X : Cx} {S : Nat → Prop} {ν : Nat → Value} {st : AS} {a : Act} {w : World} {o : Oper} {K : Nat → Bool} {Q : Exit → Act → World → Prop}
end
end Go.Proofs.YtmeapfckibbbbaaGreatDoor.Am
/- The abstract machine: maps whose keys are strings. No program is named. -/
namespace Go.Proofs.YtmeapfckibbbbaaGreatDoor.Am
open Go.RowKit Lw
section
variable {F : Fence} {P : Program} {T : Tys} {X : Cx} {S : Nat → Prop} {ν : Nat → Value} {st : AS} {a : Act} {w : World} {o : Oper} {K : Nat → Bool} {Q : Exit → Act → World → Prop}
/-- The keys of a map's entries. -/
def KeysM (es : Array MapEntry) (ns : List ByteArray) : Prop := es.toList.map (·.key) = ns.map Value.string
theorem KeysM.size {es : Array MapEntry} {ns : List ByteArray} (h : KeysM es ns) : es.size = ns.length := by
  have := congrArg List.length h
  simpa using this
end
end Go.Proofs.YtmeapfckibbbbaaGreatDoor.Am
/- The abstract machine: a slice whose last element is a slice of the call's own. No program is named. -/
namespace Go.Proofs.YtmeapfckibbbbaaGreatDoor.Am
open Go.RowKit Lw
section
variable {F : Fence} {P : Program} {X : Cx} {R : Act → World → Prop} {st : AS} {S : Nat → Prop} {ν : Nat → Value} {a : Act} {w : World} {ops : Array Oper} {Q : Exit → Act → World → Prop} {K : Nat → Bool}
section
variable {T : Tys} {o : Oper}
end
end
end Go.Proofs.YtmeapfckibbbbaaGreatDoor.Am
/- The abstract machine: tables that are laid at a known place. No program is named. -/
namespace Go.Proofs.YtmeapfckibbbbaaGreatDoor.Am
open Go.RowKit Lw
def findStat : List Chunk → Nat → Option (Nat × (Nat → DC))
  | [], _ => none
  | .stat _ b sz cell :: r, g => match Nat.beq b g with
    | true => some (sz, cell)
    | false => findStat r g
  | .box _ _ _ :: r, g => findStat r g
  | .own _ _ _ _ :: r, g => findStat r g
  | .obj _ _ :: r, g => findStat r g
  | .nest _ _ _ _ :: r, g => findStat r g
theorem findStat_ok : ∀ {l : List Chunk} {g sz : Nat} {cell : Nat → DC}, findStat l g = some (sz, cell) → ∃ i, Chunk.stat i g sz cell ∈ l
  | .stat i b s c :: r, g, sz, cell, h => by
    simp only [findStat] at h
    split at h
    · rename_i h1
      have := Nat.eq_of_beq_eq_true h1
      subst this
      cases h
      exact ⟨i, List.mem_cons_self ..⟩
    · obtain ⟨k, hk⟩ := findStat_ok h
      exact ⟨k, List.mem_cons_of_mem _ hk⟩
  | .box _ _ _ :: r, g, sz, cell, h => by obtain ⟨k, hk⟩ := findStat_ok (l := r) h; exact ⟨k, List.mem_cons_of_mem _ hk⟩
  | .own _ _ _ _ :: r, g, sz, cell, h => by obtain ⟨k, hk⟩ := findStat_ok (l := r) h; exact ⟨k, List.mem_cons_of_mem _ hk⟩
  | .obj _ _ :: r, g, sz, cell, h => by obtain ⟨k, hk⟩ := findStat_ok (l := r) h; exact ⟨k, List.mem_cons_of_mem _ hk⟩
  | .nest _ _ _ _ :: r, g, sz, cell, h => by obtain ⟨k, hk⟩ := findStat_ok (l := r) h; exact ⟨k, List.mem_cons_of_mem _ hk⟩
section
variable {P : Program} {T : Tys} {st : AS} {o : Oper} {K : Nat → Bool}
/-- An element of an array that lies in a box of its own. -/
theorem m_boxIdx (hT : T.Ok P) {t e n id : Nat} {te : TI} {x i : Operand} {ik : IntKind} {z : Int} (ho : o.op = .indexAddr t x i) (hu : P.underlying t = some (.array n e)) (he : tlook T e = some te) (hsz : te.size = 1) (hx : aop st x = some (.o (.ptr id 0))) (hi : aop st i = some (.o (.c (.int ik z)))) (hr : 0 ≤ z ∧ z < n) : StepTo P K o st (· = st.put o.dst (.o (.ptr id z.toNat))) := by
  intro X S ν a w Q K' hd sat hk
  obtain ⟨⟨b, e1, e2⟩, hlt⟩ := aop_ok sat hx
  have hz : a.eval i = .int ik z := (aop_ok sat hi).1.1
  refine wp_value (w' := w) (u := .pointer (some ⟨b, z.toNat, none⟩)) ?_ (hk _ S ν _ _ rfl (sat.put hd (v := .o (.ptr id z.toNat)) ⟨b, e1, rfl⟩ hlt) ⟨Nat.le_refl _, fun _ h => h, fun ch hc hk => ⟨by rw [(AS.put_hp _ _ _).1]; exact hc, rfl⟩, fun _ _ => rfl⟩)
  unfold execOp
  rw [ho]
  simp [Instr.indexAt, Instr.sureAddr, asIntOf, Sem.run_bind, Sem.run_pure, Result.andThen_ok, run_underlying hu w, e2, hz, hr, run_sizeOf' hT he w, hsz, Addr.add]
  intro _; omega
end
section
variable {F : Fence} {P : Program} {T : Tys} {X : Cx} {st st' : AS} {Q : Exit → Act → World → Prop} {R : Act → World → Prop}
end
end Go.Proofs.YtmeapfckibbbbaaGreatDoor.Am
/- The abstract machine: a slot is forgotten; small laws of contents. No program is named. -/
namespace Go.Proofs.YtmeapfckibbbbaaGreatDoor.Am
open Go.RowKit Lw
theorem dropE_sub {ts : List Nat} : ∀ {e : Env} {p : Nat × AV}, p ∈ dropE ts e → p ∈ e
  | [], _, h => h
  | (i, v) :: e, p, h => by
    unfold dropE at h
    split at h
    · exact List.mem_cons_of_mem _ (dropE_sub h)
    · rcases List.mem_cons.1 h with h | h
      · exact List.mem_cons.2 (.inl h)
      · exact List.mem_cons_of_mem _ (dropE_sub h)
theorem TE.drop (t : Nat) {X : Cx} {R : Act → World → Prop} {st st2 : AS} (hst : (AS.mk (dropE [t] st.env) st.hp st.nid).force some = some st2) (h : TE X R st2) : TE X R st := by
  rw [AS.force_eq] at hst
  cases hst
  exact fun S ν a w sat => h S ν a w (sat.weak (fun p hp => dropE_sub hp) (List.Sublist.refl _) rfl)
def onlyE (ts : List Nat) : Env → Env
  | [] => []
  | (i, v) :: e => match memN ts i with
    | true => (i, v) :: onlyE ts e
    | false => onlyE ts e
theorem onlyE_sub {ts : List Nat} : ∀ {e : Env} {p : Nat × AV}, p ∈ onlyE ts e → p ∈ e
  | [], _, h => h
  | (i, v) :: e, p, h => by
    unfold onlyE at h
    split at h
    · rcases List.mem_cons.1 h with h | h
      · exact List.mem_cons.2 (.inl h)
      · exact List.mem_cons_of_mem _ (onlyE_sub h)
    · exact List.mem_cons_of_mem _ (onlyE_sub h)
/-- All slots but some are forgotten. -/
theorem TE.only (ts : List Nat) {X : Cx} {R : Act → World → Prop} {st st2 : AS} (hst : (AS.mk (onlyE ts st.env) st.hp st.nid).force some = some st2) (h : TE X R st2) : TE X R st := by
  rw [AS.force_eq] at hst
  cases hst
  exact fun S ν a w sat => h S ν a w (sat.weak (fun p hp => onlyE_sub hp) (List.Sublist.refl _) rfl)
/-- The string of bytes. -/
abbrev sB (b : List UInt8) : ByteArray := ⟨b.toArray⟩
theorem sB_size (b : List UInt8) : (sB b).size = b.length := by simp [ByteArray.size]
theorem str_ext' {a b : ByteArray} (h : a.data.toList = b.data.toList) : a = b := by
  cases a; cases b; simp_all [Array.toList_inj]
theorem sB_ext (b : List UInt8) (l h : Nat) : (sB b).extract l h = sB ((b.drop l).take (h - l)) := by
  refine str_ext' ?_
  simp
theorem sB_inj {a b : List UInt8} : sB a = sB b ↔ a = b := ⟨fun h => congrArg (fun s : ByteArray => s.data.toList) h, fun h => by rw [h]⟩
theorem sB_app (a b : List UInt8) : sB a ++ sB b = sB (a ++ b) := by
  refine str_ext' ?_
  simp
theorem cb_str (b : List UInt8) : ByteArray.mk (ctBytes b.length (bytesC b).cell).toArray = sB b := congrArg (fun l : List UInt8 => ByteArray.mk l.toArray) (ctBytes_bytesC b)
theorem lit1_str (z : Int) : ByteArray.mk (ctBytes (0 + 1) (litC [[DC.c (Value.int IntKind.u8 z)]]).cell).toArray = sB [UInt8.ofNat z.toNat] := rfl
end Go.Proofs.YtmeapfckibbbbaaGreatDoor.Am
/- The abstract machine: library contracts that leave the world below as it was and read laid variables; tables of structs; errors. No program is named. -/
namespace Go.Proofs.YtmeapfckibbbbaaGreatDoor.Am
open Go.RowKit Lw
def allStat : List Chunk → Bool
  | [] => true
  | .stat _ _ _ _ :: r => allStat r
  | .box _ _ _ :: _ => false
  | .own _ _ _ _ :: _ => false
  | .obj _ _ :: _ => false
  | .nest _ _ _ _ :: _ => false
theorem allStat_blks {ν : Nat → Value} : ∀ {l : List Chunk}, allStat l = true → blks ν l = []
  | [], _ => rfl
  | .stat _ _ _ _ :: r, h => by
    have := allStat_blks (ν := ν) (l := r) h
    unfold blks at this ⊢
    rw [List.filterMap_cons]; exact this
  | .box _ _ _ :: _, h => nomatch h
  | .own _ _ _ _ :: _, h => nomatch h
  | .obj _ _ :: _, h => nomatch h
  | .nest _ _ _ _ :: _, h => nomatch h
theorem stat_keep {w w' : World} {S S' : Nat → Prop} {ν ν' : Nat → Value} (g : Gr w w' S S') : ∀ {l : List Chunk}, allStat l = true → (∀ c ∈ l, c.holds w S ν) → ∀ c ∈ l, c.holds w' S' ν'
  | [], _, _, c, hc => nomatch hc
  | .stat i b sz cell :: r, h, hh, c, hc => by
    rcases List.mem_cons.1 hc with rfl | hc
    · obtain ⟨h1, h2, h3, cs, T, fr, h4, h5⟩ := hh _ (List.mem_cons_self ..)
      refine ⟨g.sub _ h1, Nat.lt_of_lt_of_le h2 g.size, fun j hj => ?_, cs, T, fr, by rw [g.blk _ h1 h2]; exact h4, h5⟩
      obtain ⟨u, e, r⟩ := h3 j hj
      exact ⟨u, by rw [g.cell h1 h2]; exact e, DC.mono g r⟩
    · exact stat_keep g (l := r) h (fun c hc => hh c (List.mem_cons_of_mem _ hc)) c hc
  | .box _ _ _ :: _, h, _, _, _ => nomatch h
  | .own _ _ _ _ :: _, h, _, _, _ => nomatch h
  | .obj _ _ :: _, h, _, _, _ => nomatch h
  | .nest _ _ _ _ :: _, h, _, _, _ => nomatch h
section
variable {P : Program} {T : Tys} {st : AS} {o : Oper} {K : Nat → Bool}
/-- A function of the library that leaves what was there as it was, and may read laid variables. -/
theorem con_below {ι : Type} {f : FuncId} {args : List AV} {takes : List Chunk} {m M : Nat} {pre : ι → Prop} {res : ι → AV} {fn : Func} (hf : P.funcs[f]? = some fn) (hn : (fn.name == "runtime.NumGoroutine") = false) (hb : fn.body.isNone = false) (hst : allStat takes = true) (wfT : allB (Chunk.ltB m) takes = true) (le : m ≤ M) (wf : ∀ x, (res x).ltB M = true) (wfG : allB (Chunk.ltB M) takes = true)
    (h : ∀ w S ν vs, All2 (AV.rel w S ν) args vs → (∀ c ∈ takes, c.holds w S ν) → Calls P f vs.toArray w fun e w' => ∃ x u, e = .returned u ∧ pre x ∧ (∀ w' S' ν', (res x).rel w' S' ν' u) ∧ Below w.heap.size w w') : Con P f args takes m M pre res (fun _ => takes) := by
  refine ⟨⟨fn, hf, hn, hb⟩, wfT, le, fun x => ⟨wf x, wfG⟩, fun w S ν vs ha ht _ _ hS => Calls.mono (h w S ν vs ha ht) ?_⟩
  rintro e w' ⟨x, u, he, hp, hr, hbl⟩
  have e0 : blks ν takes = [] := allStat_blks hst
  refine ⟨x, S, ν, u, he, hp, hr _ _ _, ⟨hbl.os, hbl.tape, hbl.output, hbl.size, fun k hk _ => hbl.block k hk⟩, fun _ _ => rfl, fun _ h => h, fun b hb => ⟨Nat.lt_of_lt_of_le (hS b hb) hbl.size, .inl hb⟩, stat_keep ⟨hbl.size, fun b hs hb => hbl.block b hb, fun _ h => h⟩ hst ht, ?_, ?_⟩
  · rw [e0]; exact List.nodup_nil
  · intro b hb; rw [e0] at hb; exact nomatch hb
/-- A laid table is loaded whole. -/
theorem m_statLoad (hT : T.Ok P) {t g sz : Nat} {ti : TI} {cell : Nat → DC} {av : AV} (ho : o.op = .load t (.global g)) (ht : tlook T t = some ti) (hf : findStat st.hp g = some (sz, cell)) (hr : row1 cell 0 sz ti = some av) : StepTo P K o st (· = st.put o.dst av) := by
  intro X S ν a w Q K' hd sat hk
  obtain ⟨c, hc⟩ := findStat_ok hf
  obtain ⟨h1, h2, h3, _⟩ := sat.hp _ hc
  obtain ⟨u, k1, k2, k3⟩ := load_row (ν := ν) hT ht (b := g) (o := 0) (off := 0) hr (fun j hj => by rw [Nat.zero_add]; exact h3 j hj)
  refine wp_value (w' := w) (u := u) ?_ (hk _ S ν _ _ rfl (sat.put hd k1 (k2 _)) ⟨Nat.le_refl _, fun _ h => h, fun ch hc hk => ⟨by rw [(AS.put_hp _ _ _).1]; exact hc, rfl⟩, fun _ _ => rfl⟩)
  unfold execOp
  rw [ho]
  have ev : a.eval (.global g) = .pointer (some ⟨g, 0, none⟩) := rfl
  have k4 := k3 w rfl
  simp only [ev, Sem.run_bind, show (Instr.loadAt t (.pointer (some ⟨g, 0, none⟩))).run P w = .ok u w from k4, Result.andThen_ok, Sem.run_pure]
/-- An element of an array of structs that a slot holds. -/
theorem m_aggIdx (hT : T.Ok P) {t e n : Nat} {te : TI} {x i : Operand} {as bs : List A1} {ik : IntKind} {z : Int} (ho : o.op = .index t x i) (hu : P.underlying t = some (.array n e)) (he : tlook T e = some te) (hagg : te.agg = true) (hx : aop st x = some (.g as)) (hi : aop st i = some (.o (.c (.int ik z)))) (hb : (as.drop (z.toNat * te.size)).take te.size = bs) (hr : 0 ≤ z ∧ z < n) : StepTo P K o st (· = st.put o.dst (.g bs)) := by
  intro X S ν a w Q K' hd sat hk
  obtain ⟨⟨us, e1, r1⟩, hlt⟩ := aop_ok sat hx
  have hz : a.eval i = .int ik z := (aop_ok sat hi).1.1
  subst hb
  obtain ⟨ht2, hid⟩ := hT.get he
  obtain ⟨d, hu2, _, hrow⟩ := ht2.und
  rw [hid] at hu2
  have ha : (isAgg e).run P w = .ok true w := by
    unfold isAgg
    rw [Sem.run_bind, run_underlying hu2 w]
    rw [hagg] at hrow
    cases d <;> simp_all [TypeDesc.isRow]
  refine wp_value (w' := w) (u := .agg ((us.drop (z.toNat * te.size)).take te.size).toArray) ?_ (hk _ S ν _ _ rfl (sat.put hd (v := .g ((as.drop (z.toNat * te.size)).take te.size)) ⟨_, rfl, (r1.drop _).take _⟩ (fun b hb => hlt b (List.mem_of_mem_drop (List.mem_of_mem_take hb)))) ⟨Nat.le_refl _, fun _ h => h, fun ch hc hk => ⟨by rw [(AS.put_hp _ _ _).1]; exact hc, rfl⟩, fun _ _ => rfl⟩)
  unfold execOp
  rw [ho]
  have hext : us.toArray.extract (z.toNat * te.size) (z.toNat * te.size + te.size) = ((us.drop (z.toNat * te.size)).take te.size).toArray := by
    rw [← Array.toList_inj]; simp
  simp [Instr.index, asIntOf, Sem.run_bind, Sem.run_pure, Result.andThen_ok, run_underlying hu w, e1, hz, hr, run_sizeOf' hT he w, part, ha, hext]
theorem run_ifnil {op : BinOp} {t : TypeId} {x : Operand} (hop : op = .eql ∨ op = .neq) (hu : P.underlying t = some (.interface (P.methodsAt t))) (tp : TypeId) (p : Value) (w : World) :
    (do eqGuard op t x (.const .nilIface) (.iface tp p) .nilIface; binOp op t (.iface tp p) .nilIface : Sem Value).run P w = .ok (.bool (op == .neq)) w := by
  rcases hop with rfl | rfl
  · rw [Sem.run_bind, show (eqGuard .eql t x (.const .nilIface) (.iface tp p) .nilIface).run P w = .ok () w from rfl, Result.andThen_ok, run_eql_held_nil w t tp p hu]; rfl
  · rw [Sem.run_bind, show (eqGuard .neq t x (.const .nilIface) (.iface tp p) .nilIface).run P w = .ok () w from rfl, Result.andThen_ok, run_neq_held_nil w t tp p hu]; rfl
theorem run_nilnil {op : BinOp} {t : TypeId} {x : Operand} (hop : op = .eql ∨ op = .neq) (hu : P.underlying t = some (.interface (P.methodsAt t))) (w : World) :
    (do eqGuard op t x (.const .nilIface) .nilIface .nilIface; binOp op t .nilIface .nilIface : Sem Value).run P w = .ok (.bool (op == .eql)) w := by
  have hg : (eqGuard op t x (.const .nilIface) .nilIface .nilIface).run P w = .ok () w := by
    unfold eqGuard
    rcases hop with rfl | rfl <;> simp [Sem.run_pure]
  rw [Sem.run_bind, hg, Result.andThen_ok]
  rcases hop with rfl | rfl
  · rw [run_eql_nil_nil w t hu]; rfl
  · rw [run_neq_nil_nil w t hu]; rfl
/-- An error that is compared with nil. -/
theorem m_ifNil {op : BinOp} {t t' : TypeId} {x : Operand} {v : Value} {b : Bool} (ho : o.op = .binOp op t x (.const .nilIface) t') (hop : op = .eql ∨ op = .neq) (hu : P.underlying t = some (.interface (P.methodsAt t))) (hx : aop st x = some (.o (.c v))) (hv : v = .nilIface ∧ b = true ∨ (∃ tp p, v = .iface tp p) ∧ b = false) : StepTo P K o st (· = st.put o.dst (.o (.c (.bool (b == (op == .eql)))))) := by
  intro X S ν a w Q K' hd sat hk
  have hz : a.eval x = v := (aop_ok sat hx).1.1
  refine wp_value (w' := w) (u := .bool (b == (op == .eql))) ?_ (hk _ S ν _ _ rfl (sat.put hd (v := .o (.c (.bool (b == (op == .eql))))) ⟨rfl, rfl⟩ trivial) ⟨Nat.le_refl _, fun _ h => h, fun ch hc hk => ⟨by rw [(AS.put_hp _ _ _).1]; exact hc, rfl⟩, fun _ _ => rfl⟩)
  rw [exec_binOp ho, Sem.run_bind, hz]
  rcases hv with ⟨rfl, rfl⟩ | ⟨⟨tp, p, rfl⟩, rfl⟩
  · have hr : (do eqGuard op t x (.const .nilIface) .nilIface (a.eval (.const .nilIface)); binOp op t .nilIface (a.eval (.const .nilIface)) : Sem Value).run P w = .ok (.bool (op == .eql)) w := run_nilnil hop hu w
    rw [hr]
    rcases hop with rfl | rfl <;> rfl
  · have hr : (do eqGuard op t x (.const .nilIface) (.iface tp p) (a.eval (.const .nilIface)); binOp op t (.iface tp p) (a.eval (.const .nilIface)) : Sem Value).run P w = .ok (.bool (op == .neq)) w := run_ifnil hop hu tp p w
    rw [hr]
    rcases hop with rfl | rfl <;> rfl
/-- One operation alone. -/
theorem m_pure (hT : T.Ok P) {av : AV} {ps : List Prop} (h : apure T (fun _ => true) o st = some (av, ps)) (hps : AllP ps) : StepTo P K o st (· = st.put o.dst av) := by
  intro X S ν a w Q K' hd sat hk
  obtain ⟨u, h1, h2, h3⟩ := apure_ok hT h hps.mem sat
  exact wp_value (w' := w) (u := u) (h3 w (Ag.refl _ _ _ _ _)) (hk _ S ν _ _ rfl (sat.put hd h1 h2) ⟨Nat.le_refl _, fun _ h => h, fun ch hc hk => ⟨by rw [(AS.put_hp _ _ _).1]; exact hc, rfl⟩, fun _ _ => rfl⟩)
theorem wrap_i64 {n : Int} (h : -9223372036854775808 ≤ n ∧ n ≤ 9223372036854775807) : IntKind.i64.wrap n = n :=
  arith_wrap' (k := .i64) rfl fun p hp => by
    obtain rfl := List.mem_singleton.1 hp
    exact h
end
end Go.Proofs.YtmeapfckibbbbaaGreatDoor.Am
/- The words as plain functions of bytes: names and numbers. No program is named. -/
namespace Go.Proofs.YtmeapfckibbbbaaGreatDoor.Wo
abbrev Bs := List UInt8
abbrev lowC (c : UInt8) : Bool := decide (97 ≤ c.toNat ∧ c.toNat ≤ 122)
abbrev digC (c : UInt8) : Bool := decide (48 ≤ c.toNat ∧ c.toNat ≤ 57)
abbrev wordC (c : UInt8) : Bool := lowC c || digC c || decide (c.toNat = 45)
def nameI (l : Bs) : Bool := decide (1 ≤ l.length ∧ l.length ≤ 16) && lowC (l.getD 0 0) && l.all wordC
abbrev wordL : Bs := [97, 98, 99, 100, 101, 102, 103, 104, 105, 106, 107, 108, 109, 110, 111, 112, 113, 114, 115, 116, 117, 118, 119, 120, 121, 122, 48, 49, 50, 51, 52, 53, 54, 55, 56, 57, 45]
abbrev digL : Bs := [48, 49, 50, 51, 52, 53, 54, 55, 56, 57]
theorem word_in : ∀ c : UInt8, wordL.contains c = wordC c := by
  intro c
  have : ∀ n : Fin 256, wordL.contains (UInt8.ofNat n.1) = wordC (UInt8.ofNat n.1) := by decide +kernel
  have h := this ⟨c.toNat, c.toNat_lt⟩
  simpa using h
theorem dig_in : ∀ c : UInt8, digL.contains c = digC c := by
  intro c
  have : ∀ n : Fin 256, digL.contains (UInt8.ofNat n.1) = digC (UInt8.ofNat n.1) := by decide +kernel
  have h := this ⟨c.toNat, c.toNat_lt⟩
  simpa using h
theorem dropW_nil {p : UInt8 → Bool} : ∀ {l : Bs}, l.dropWhile p = [] ↔ l.all p = true
  | [] => by simp
  | c :: l => by
    rw [List.dropWhile_cons, List.all_cons]
    by_cases h : p c = true
    · rw [if_pos h, h, Bool.true_and]; exact dropW_nil
    · rw [if_neg h]; simp [h]
theorem trim_nil (l cs : Bs) : Lib.trimS l cs = [] ↔ l.all (cs.contains ·) = true := by
  unfold Lib.trimS Lib.trimLeftS Lib.trimRightS
  rw [dropW_nil]
  constructor
  · intro h
    by_cases h2 : (l.reverse.dropWhile (cs.contains ·)) = []
    · have := dropW_nil.1 h2
      simpa using this
    · exfalso
      have h3 := List.head_dropWhile_not (cs.contains ·) (l := l.reverse) h2
      have h4 : (l.reverse.dropWhile (cs.contains ·)).head h2 ∈ (l.reverse.dropWhile (cs.contains ·)).reverse := by simp
      have h5 := List.all_eq_true.1 h _ h4
      rw [h3] at h5; cases h5
  · intro h
    have h2 : l.reverse.dropWhile (cs.contains ·) = [] := dropW_nil.2 (by simpa using h)
    rw [h2]; rfl
/-- A number without its sign. -/
def bodyI (l : Bs) : Bs := if l.head? = some 45 then l.tail else l
def decI (l : Bs) : Bool := !(bodyI l).isEmpty && (bodyI l).all digC && (decide ((bodyI l).getD 0 0 ≠ 48) || decide (l = [48]))
theorem pre_body (l : Bs) : Lib.trimPrefix l [45] = bodyI l := by
  unfold Lib.trimPrefix Lib.hasPrefix bodyI
  cases l with
  | nil => rfl
  | cons c r =>
    by_cases h : c = 45
    · subst h; rfl
    · have h2 : ([45] : Bs).isPrefixOf (c :: r) = false := by simp [List.isPrefixOf, Ne.symm h]
      rw [h2]
      simp [h]
def natI (l : Bs) : Nat := l.foldl (fun n c => 10 * n + (c.toNat - 48)) 0
def valI (l : Bs) : Int := if l.head? = some 45 then -(natI l.tail : Int) else natI l
def intI (l : Bs) (low high : Int) : Int × Int := if decI l = false then (0, 6) else if valI l < -9223372036854775808 ∨ 9223372036854775807 < valI l ∨ valI l < low ∨ high < valI l then (0, 7) else (valI l, 0)
end Go.Proofs.YtmeapfckibbbbaaGreatDoor.Wo
/- The words as plain functions of bytes: numbers in decimal form. No program is named. -/
namespace Go.Proofs.YtmeapfckibbbbaaGreatDoor.Wo
def natF (acc : Nat) (l : Bs) : Nat := l.foldl (fun n c => 10 * n + (c.toNat - 48)) acc
theorem natF_ge : ∀ (l : Bs) (acc : Nat), acc ≤ natF acc l
  | [], _ => Nat.le_refl _
  | c :: l, acc => Nat.le_trans (by omega) (natF_ge l (10 * acc + (c.toNat - 48)))
theorem natF_app (acc : Nat) (a b : Bs) : natF acc (a ++ b) = natF (natF acc a) b := by unfold natF; rw [List.foldl_append]
theorem parseM_dig : ∀ (l : Bs) (acc : Nat), acc ≤ 18446744073709551615 → l.all digC = true → Lib.parseUintM 18446744073709551615 acc l = if natF acc l ≤ 18446744073709551615 then .ok (natF acc l) else .range
  | [], acc, h, _ => by
    rw [show natF acc [] = acc from rfl, if_pos h]; rfl
  | c :: l, acc, h, hd => by
    rw [List.all_cons, Bool.and_eq_true] at hd
    have hc : 48 ≤ c.toNat ∧ c.toNat ≤ 57 := by simpa using hd.1
    have hs : natF acc (c :: l) = natF (10 * acc + (c.toNat - 48)) l := rfl
    have hg := natF_ge l (10 * acc + (c.toNat - 48))
    rw [Lib.parseUintM, if_pos hc, hs]
    by_cases h1 : 1844674407370955162 ≤ acc
    · rw [if_pos h1, if_neg (by omega)]
    · rw [if_neg h1]
      by_cases h2 : 18446744073709551615 < acc * 10 + (c.toNat - 48)
      · rw [if_pos h2, if_neg (by omega)]
      · rw [if_neg h2, Nat.mul_comm acc 10]
        exact parseM_dig l _ (by omega) hd.2
theorem dec_spec {l : Bs} (h : decI l = true) : bodyI l ≠ [] ∧ (bodyI l).all digC = true ∧ ((bodyI l).getD 0 0 ≠ 48 ∨ l = [48]) := by
  unfold decI at h
  simp only [Bool.and_eq_true, Bool.not_eq_true', Bool.or_eq_true, decide_eq_true_eq] at h
  exact ⟨fun e => by rw [e] at h; simp at h, h.1.2, h.2⟩
/-- What ParseInt makes of a number in decimal form. -/
theorem parse_dec {l : Bs} (h : decI l = true) : Lib.parseIntB 64 l = if valI l < -9223372036854775808 ∨ 9223372036854775807 < valI l then .range else .ok (valI l) := by
  obtain ⟨h1, h2, _⟩ := dec_spec h
  cases l with
  | nil => exact absurd rfl h1
  | cons c r =>
    by_cases hc : c = 45
    · subst hc
      have hb : bodyI (45 :: r) = r := rfl
      rw [hb] at h1 h2
      have hv : valI (45 :: r) = -(natF 0 r : Int) := rfl
      have hp : Lib.parseUintB 64 r = if natF 0 r ≤ 18446744073709551615 then .ok (natF 0 r) else .range := by
        unfold Lib.parseUintB
        rw [if_neg h1]; exact parseM_dig r 0 (by decide) h2
      rw [hv]
      show (match Lib.parseUintB 64 r with | .syntax => Lib.NumEnd.syntax | .range => .range | .ok u => if ¬ (45 : UInt8).toNat = 45 ∧ 2 ^ (64 - 1) ≤ u then .range else if (45 : UInt8).toNat = 45 ∧ 2 ^ (64 - 1) < u then .range else .ok (if (45 : UInt8).toNat = 45 then -(u : Int) else u)) = _
      rw [hp]
      generalize natF 0 r = z
      by_cases hz : z ≤ 18446744073709551615
      · rw [if_pos hz]
        show (if ¬ (45 : Nat) = 45 ∧ 9223372036854775808 ≤ z then Lib.NumEnd.range else if (45 : Nat) = 45 ∧ 9223372036854775808 < z then .range else .ok (if (45 : Nat) = 45 then -(z : Int) else z)) = _
        rw [if_neg (by omega)]
        by_cases h3 : 9223372036854775808 < z
        · rw [if_pos ⟨rfl, h3⟩, if_pos (by omega)]
        · rw [if_neg (by omega), if_pos rfl, if_neg (by omega)]
      · rw [if_neg hz, if_pos (by omega)]
    · have hb : bodyI (c :: r) = c :: r := by unfold bodyI; rw [if_neg (by simpa using hc)]
      rw [hb] at h1 h2
      have hc2 : 48 ≤ c.toNat ∧ c.toNat ≤ 57 := by
        have h3 := h2
        rw [List.all_cons, Bool.and_eq_true] at h3
        simpa using h3.1
      have hv : valI (c :: r) = (natF 0 (c :: r) : Int) := by unfold valI; rw [if_neg (by simpa using hc)]; rfl
      have hp : Lib.parseUintB 64 (c :: r) = if natF 0 (c :: r) ≤ 18446744073709551615 then .ok (natF 0 (c :: r)) else .range := by
        unfold Lib.parseUintB
        rw [if_neg h1]; exact parseM_dig (c :: r) 0 (by decide) h2
      rw [hv]
      show (match Lib.parseUintB 64 (if c.toNat = 43 ∨ c.toNat = 45 then r else c :: r) with | .syntax => Lib.NumEnd.syntax | .range => .range | .ok u => if ¬ c.toNat = 45 ∧ 2 ^ (64 - 1) ≤ u then .range else if c.toNat = 45 ∧ 2 ^ (64 - 1) < u then .range else .ok (if c.toNat = 45 then -(u : Int) else u)) = _
      rw [if_neg (by omega), hp]
      generalize natF 0 (c :: r) = z
      by_cases hz : z ≤ 18446744073709551615
      · rw [if_pos hz]
        show (if ¬ c.toNat = 45 ∧ 9223372036854775808 ≤ z then Lib.NumEnd.range else if c.toNat = 45 ∧ 9223372036854775808 < z then .range else .ok (if c.toNat = 45 then -(z : Int) else z)) = _
        by_cases h3 : 9223372036854775808 ≤ z
        · rw [if_pos ⟨by omega, h3⟩, if_pos (by omega)]
        · rw [if_neg (by omega), if_neg (by omega), if_neg (by omega), if_neg (by omega)]
      · rw [if_neg hz, if_pos (by omega)]
end Go.Proofs.YtmeapfckibbbbaaGreatDoor.Wo
/- The words as plain functions of bytes: quoted forms. No program is named. -/
namespace Go.Proofs.YtmeapfckibbbbaaGreatDoor.Wo
abbrev plainC (c : UInt8) : Bool := decide (32 ≤ c.toNat ∧ c.toNat ≤ 126 ∧ c.toNat ≠ 34 ∧ c.toNat ≠ 92)
def ltrI (c : UInt8) : UInt8 := if c.toNat = 34 then 34 else if c.toNat = 92 then 92 else if c.toNat = 10 then 110 else if c.toNat = 13 then 114 else if c.toNat = 9 then 116 else 0
/-- The byte that a letter stands for. -/
def bytI (c : UInt8) : Option UInt8 := if c.toNat = 34 then some 34 else if c.toNat = 92 then some 92 else if c.toNat = 110 then some 10 else if c.toNat = 114 then some 13 else if c.toNat = 116 then some 9 else none
abbrev hexL : Bs := [48, 49, 50, 51, 52, 53, 54, 55, 56, 57, 97, 98, 99, 100, 101, 102]
def hexC (n : Nat) : UInt8 := hexL.getD n 0
def idxH (c : UInt8) : Option Nat := if 48 ≤ c.toNat ∧ c.toNat ≤ 57 then some (c.toNat - 48) else if 97 ≤ c.toNat ∧ c.toNat ≤ 102 then some (c.toNat - 87) else none
def escI (c : UInt8) : Bs := if plainC c = true then [c] else if ltrI c ≠ 0 then [92, ltrI c] else [92, 120, hexC (c.toNat / 16), hexC (c.toNat % 16)]
def quoteI (l : Bs) : Bs := 34 :: (l.flatMap escI ++ [34])
/-- An escape, without its backslash: its byte, and how many bytes it has; 0: there is none. -/
def unescI (s : Bs) : UInt8 × Nat := match s with
  | [] => (0, 0)
  | a :: r => match bytI a with
    | some c => (c, 1)
    | none => if a.toNat ≠ 120 then (0, 0) else match r with
      | h :: l :: _ => match idxH h, idxH l with
        | some x, some y => if plainC (UInt8.ofNat (16 * x + y)) = true ∨ ltrI (UInt8.ofNat (16 * x + y)) ≠ 0 then (0, 0) else (UInt8.ofNat (16 * x + y), 3)
        | _, _ => (0, 0)
      | _ => (0, 0)
/-- What stands first: a byte between quotes, and how many bytes its form has; 0: none. -/
def decI1 (s : Bs) : UInt8 × Nat := match s with
  | [] => (0, 0)
  | a :: r => if a.toNat = 92 then (if (unescI r).2 = 0 then (0, 0) else ((unescI r).1, (unescI r).2 + 1)) else if plainC a = true then (a, 1) else (0, 0)
theorem fin_all {p : UInt8 → Prop} (h : ∀ n : Fin 256, p (UInt8.ofNat n.1)) : ∀ c, p c := fun c => by
  have := h ⟨c.toNat, c.toNat_lt⟩
  simpa using this
theorem byt_let : ∀ c : UInt8, ltrI c ≠ 0 → bytI (ltrI c) = some c ∧ plainC c = false := by
  refine fin_all ?_
  decide +kernel
theorem let_byt (a c : UInt8) (h : bytI a = some c) : ltrI c = a ∧ ltrI c ≠ 0 ∧ plainC c = false ∧ a.toNat ≠ 120 := by
  have key : ∀ a : UInt8, (bytI a).all (fun c => decide (ltrI c = a ∧ ltrI c ≠ 0 ∧ plainC c = false ∧ a.toNat ≠ 120)) = true := by
    refine fin_all ?_
    decide +kernel
  have := key a
  rw [h] at this
  exact of_decide_eq_true this
theorem idx_hex : ∀ n : Fin 16, idxH (hexC n.1) = some n.1 ∧ bytI 120 = none := by decide
theorem hex_idx : ∀ c : UInt8, ∀ x, idxH c = some x → x < 16 ∧ hexC x = c := by
  intro c x h
  have : ∀ c : UInt8, ∀ x : Fin 16, idxH c = some x.1 → hexC x.1 = c := by
    refine fin_all ?_
    decide +kernel
  have hx : x < 16 := by
    unfold idxH at h
    repeat' split at h
    all_goals first
      | (cases h; omega)
      | cases h
  exact ⟨hx, this c ⟨x, hx⟩ h⟩
theorem dec_bs (r : Bs) : decI1 (92 :: r) = if (unescI r).2 = 0 then (0, 0) else ((unescI r).1, (unescI r).2 + 1) := rfl
theorem unesc_x (h l : UInt8) (r : Bs) : unescI (120 :: h :: l :: r) = match idxH h, idxH l with | some x, some y => (if plainC (UInt8.ofNat (16 * x + y)) = true ∨ ltrI (UInt8.ofNat (16 * x + y)) ≠ 0 then (0, 0) else (UInt8.ofNat (16 * x + y), 3)) | _, _ => (0, 0) := rfl
/-- What is written for a byte is read as it. -/
theorem dec_esc (c : UInt8) (r : Bs) : decI1 (escI c ++ r) = (c, (escI c).length) := by
  unfold escI
  by_cases hp : plainC c = true
  · rw [if_pos hp]
    have h92 : c.toNat ≠ 92 := by
      have := of_decide_eq_true hp
      omega
    show (if c.toNat = 92 then _ else if plainC c = true then (c, 1) else _) = _
    rw [if_neg h92, if_pos hp]; rfl
  · rw [if_neg hp]
    by_cases hl : ltrI c ≠ 0
    · rw [if_pos hl]
      have hu : unescI (ltrI c :: r) = (c, 1) := by
        unfold unescI
        dsimp only
        rw [(byt_let c hl).1]
      show decI1 (92 :: (ltrI c :: r)) = _
      rw [dec_bs, hu]; rfl
    · rw [if_neg hl]
      have h1 := (idx_hex ⟨c.toNat / 16, by have := c.toNat_lt; omega⟩).1
      have h2 := (idx_hex ⟨c.toNat % 16, by omega⟩).1
      have hc : UInt8.ofNat (16 * (c.toNat / 16) + c.toNat % 16) = c := by
        rw [Nat.div_add_mod]; simp
      have hu : unescI (120 :: hexC (c.toNat / 16) :: hexC (c.toNat % 16) :: r) = (c, 3) := by
        rw [unesc_x, h1, h2]
        dsimp only
        rw [hc, if_neg (fun h => h.elim hp hl)]
      show decI1 (92 :: (120 :: hexC (c.toNat / 16) :: hexC (c.toNat % 16) :: r)) = _
      rw [dec_bs, hu]; rfl
/-- What is read is what is written for the byte. -/
theorem esc_dec {s : Bs} (h : (decI1 s).2 ≠ 0) : s = escI (decI1 s).1 ++ s.drop (decI1 s).2 ∧ (escI (decI1 s).1).length = (decI1 s).2 := by
  unfold decI1 at h ⊢
  match s with
  | [] => exact absurd rfl h
  | a :: r =>
    dsimp only at h ⊢
    by_cases ha : a.toNat = 92
    · rw [if_pos ha] at h ⊢
      have ha' : a = 92 := UInt8.toNat_inj.1 ha
      subst ha'
      by_cases hu : (unescI r).2 = 0
      · rw [if_pos hu] at h; exact absurd rfl h
      · rw [if_neg hu] at h ⊢
        dsimp only
        unfold unescI at hu ⊢
        match r with
        | [] => exact absurd rfl hu
        | b :: r2 =>
          dsimp only at hu ⊢
          cases hb : bytI b with
          | some c =>
            obtain ⟨k1, k2, k3, _⟩ := let_byt b c hb
            dsimp only
            unfold escI
            rw [if_neg (by rw [k3]; decide), if_pos k2, k1]
            exact ⟨rfl, rfl⟩
          | none =>
            rw [hb] at hu
            dsimp only at hu ⊢
            by_cases hx : b.toNat ≠ 120
            · rw [if_pos hx] at hu; exact absurd rfl hu
            · rw [if_neg hx] at hu ⊢
              have hb' : b = 120 := UInt8.toNat_inj.1 (Decidable.not_not.1 hx)
              subst hb'
              match r2 with
              | [] => exact absurd rfl hu
              | [_] => exact absurd rfl hu
              | p :: q :: r3 =>
                dsimp only at hu ⊢
                cases hp : idxH p with
                | none => rw [hp] at hu; exact absurd rfl hu
                | some x =>
                  cases hq : idxH q with
                  | none => rw [hp, hq] at hu; exact absurd rfl hu
                  | some y =>
                    rw [hp, hq] at hu
                    dsimp only at hu ⊢
                    by_cases hk : plainC (UInt8.ofNat (16 * x + y)) = true ∨ ltrI (UInt8.ofNat (16 * x + y)) ≠ 0
                    · rw [if_pos hk] at hu; exact absurd rfl hu
                    · rw [if_neg hk]
                      obtain ⟨x1, x2⟩ := hex_idx p x hp
                      obtain ⟨y1, y2⟩ := hex_idx q y hq
                      have ht : (UInt8.ofNat (16 * x + y)).toNat = 16 * x + y := by simp; omega
                      dsimp only
                      unfold escI
                      rw [if_neg (fun h => hk (.inl h)), if_neg (fun h => hk (.inr h)), ht, show (16 * x + y) / 16 = x by omega, show (16 * x + y) % 16 = y by omega, x2, y2]
                      exact ⟨rfl, rfl⟩
    · rw [if_neg ha] at h ⊢
      by_cases hp : plainC a = true
      · rw [if_pos hp]
        unfold escI
        dsimp only
        rw [if_pos hp]; exact ⟨rfl, rfl⟩
      · rw [if_neg hp] at h; exact absurd rfl h
end Go.Proofs.YtmeapfckibbbbaaGreatDoor.Wo
/- The words as plain functions of bytes: what stands between quotes. No program is named. -/
namespace Go.Proofs.YtmeapfckibbbbaaGreatDoor.Wo
theorem dec_le (s : Bs) : (decI1 s).2 ≤ s.length := by
  by_cases h : (decI1 s).2 = 0
  · omega
  · obtain ⟨h1, h2⟩ := esc_dec h
    have := congrArg List.length h1
    rw [List.length_append, h2, List.length_drop] at this
    omega
/-- The bytes up to the quote at the end, and how many bytes their form has with it. -/
def unqG (s : Bs) : Option (Bs × Nat) := match s with
  | [] => none
  | a :: r => if a.toNat = 34 then some ([], 1) else if h : (decI1 (a :: r)).2 = 0 then none else (unqG ((a :: r).drop (decI1 (a :: r)).2)).map fun x => ((decI1 (a :: r)).1 :: x.1, (decI1 (a :: r)).2 + x.2)
termination_by s.length
decreasing_by rw [List.length_drop]; simp only [List.length_cons]; omega
def finQ (out : Bs) (i : Nat) (x : Option (Bs × Nat)) : Bs × Nat := match x with
  | none => ([], 0)
  | some y => (out ++ y.1, i + y.2)
def unqI (s : Bs) : Bs × Nat := match s with
  | [] => ([], 0)
  | a :: r => if a.toNat = 34 then finQ [] 1 (unqG r) else ([], 0)
theorem unqG_nil : unqG [] = none := by rw [unqG]
theorem drop_at {l : Bs} {i : Nat} (h : i < l.length) : l.drop i = l.getD i 0 :: l.drop (i + 1) := by
  rw [List.drop_eq_getElem_cons h, List.getD_eq_getElem?_getD, List.getElem?_eq_getElem h]; rfl
theorem unqG_q {l : Bs} {i : Nat} (h : i < l.length) (hq : (l.getD i 0).toNat = 34) : unqG (l.drop i) = some ([], 1) := by
  rw [drop_at h, unqG, if_pos hq]
theorem unqG_no {l : Bs} {i : Nat} (h : i < l.length) (hq : (l.getD i 0).toNat ≠ 34) (hd : (decI1 (l.drop i)).2 = 0) : unqG (l.drop i) = none := by
  rw [drop_at h] at hd ⊢
  rw [unqG, if_neg hq, dif_pos hd]
theorem unqG_yes {l : Bs} {i : Nat} (h : i < l.length) (hq : (l.getD i 0).toNat ≠ 34) (hd : (decI1 (l.drop i)).2 ≠ 0) (out : Bs) : finQ out i (unqG (l.drop i)) = finQ (out ++ [(decI1 (l.drop i)).1]) (i + (decI1 (l.drop i)).2) (unqG (l.drop (i + (decI1 (l.drop i)).2))) := by
  have e : unqG (l.drop i) = (unqG (l.drop (i + (decI1 (l.drop i)).2))).map fun x => ((decI1 (l.drop i)).1 :: x.1, (decI1 (l.drop i)).2 + x.2) := by
    rw [← List.drop_drop]
    rw [drop_at h] at hd ⊢
    rw [unqG, if_neg hq, dif_neg hd]
  rw [e]
  cases unqG (l.drop (i + (decI1 (l.drop i)).2)) with
  | none => rfl
  | some x => simp [finQ]; omega
end Go.Proofs.YtmeapfckibbbbaaGreatDoor.Wo
/- The words as plain functions of bytes: bare words, lengths. No program is named. -/
namespace Go.Proofs.YtmeapfckibbbbaaGreatDoor.Wo
abbrev bareC (c : UInt8) : Bool := plainC c && decide (c.toNat ≠ 32)
def bareI (l : Bs) : Bool := decide (l ≠ []) && l.all bareC
theorem esc_len (c : UInt8) : 1 ≤ (escI c).length ∧ (escI c).length ≤ 4 := by
  unfold escI
  split
  · exact by simp
  · split
    · exact by simp
    · exact by simp
theorem escs_len (l : Bs) : (l.flatMap escI).length ≤ 4 * l.length := by
  induction l with
  | nil => exact Nat.le_refl _
  | cons c l ih =>
    have := (esc_len c).2
    rw [List.flatMap_cons, List.length_append, List.length_cons]
    omega
theorem escs_snoc {l : Bs} {q : Nat} (h : q < l.length) : (l.take (q + 1)).flatMap escI = (l.take q).flatMap escI ++ escI (l.getD q 0) := by
  rw [List.take_add_one, List.flatMap_append, List.getD_eq_getElem?_getD, List.getElem?_eq_getElem h]
  simp
theorem esc_p {c : UInt8} (h : plainC c = true) : escI c = [c] := by unfold escI; rw [if_pos h]
theorem esc_l {c : UInt8} (h : plainC c = false) (k : (ltrI c).toNat ≠ 0) : escI c = [92, ltrI c] := by
  unfold escI
  rw [if_neg (by rw [h]; decide), if_pos (fun e => k (by rw [e]; rfl))]
theorem esc_x {c : UInt8} (h : plainC c = false) (k : (ltrI c).toNat = 0) : escI c = [92, 120, hexC (c.toNat / 16), hexC (c.toNat % 16)] := by
  unfold escI
  rw [if_neg (by rw [h]; decide), if_neg (fun e => e (UInt8.toNat_inj.1 k))]
end Go.Proofs.YtmeapfckibbbbaaGreatDoor.Wo
/- The words as plain functions of bytes: the fields of a line. No program is named. -/
namespace Go.Proofs.YtmeapfckibbbbaaGreatDoor.Wo
abbrev Fld := Bs × Bool
abbrev notSp (c : UInt8) : Bool := decide (c.toNat ≠ 32)
/-- The bytes up to the first space. -/
def wordI (s : Bs) : Bs := s.takeWhile notSp
/-- The field that stands first, and how many bytes it has. -/
def fieldI (s : Bs) : Option (Fld × Nat) := if (unqI s).2 ≠ 0 then some (((unqI s).1, true), (unqI s).2) else if bareI (wordI s) = true then some ((wordI s, false), (wordI s).length) else none
def fieldsI (s : Bs) : Option (List Fld) := match fieldI s with
  | none => none
  | some x => match h : s.drop x.2 with
    | [] => some [x.1]
    | c :: r => if c.toNat ≠ 32 then none else (fieldsI r).map (x.1 :: ·)
termination_by s.length
decreasing_by
  have := congrArg List.length h
  rw [List.length_drop, List.length_cons] at this
  omega
def longF (x : Fld) : Bool := decide (2000 < x.1.length)
def splitI (l : Bs) : List Fld × Int := if 8192 < l.length then ([], 3) else if l = [] then ([], 0) else match fieldsI l with
  | none => ([], 6)
  | some fs => if fs.any longF = true ∨ 64 < fs.length then ([], 3) else (fs, 0)
theorem fieldsI_no {s : Bs} (h : fieldI s = none) : fieldsI s = none := by rw [fieldsI, h]
theorem fieldsI_end {s : Bs} {x : Fld × Nat} (h : fieldI s = some x) (hd : s.length ≤ x.2) : fieldsI s = some [x.1] := by
  rw [fieldsI, h]
  dsimp only
  split
  · rfl
  · rename_i c r hh
    have := congrArg List.length hh
    rw [List.length_drop, List.length_cons] at this
    omega
theorem fieldsI_at {s : Bs} {x : Fld × Nat} (h : fieldI s = some x) (hd : x.2 < s.length) : fieldsI s = if (s.getD x.2 0).toNat ≠ 32 then none else (fieldsI (s.drop (x.2 + 1))).map (x.1 :: ·) := by
  rw [fieldsI, h]
  dsimp only
  split
  · rename_i hh
    have := congrArg List.length hh
    rw [List.length_drop, List.length_nil] at this
    omega
  · rename_i c r hh
    have e := drop_at hd
    rw [hh] at e
    injection e with e1 e2
    rw [e1, e2]
theorem getD_drop (l : Bs) (a b : Nat) : (l.drop a).getD b 0 = l.getD (a + b) 0 := by
  rw [List.getD_eq_getElem?_getD, List.getD_eq_getElem?_getD, List.getElem?_drop]
section
variable {l : Bs} {i n : Nat} {out : List Fld} {f : Fld}
theorem fields_none (hf : fieldI (l.drop i) = none) (g : (fieldsI (l.drop i)).map (out ++ ·) = fieldsI l) : fieldsI l = none := by
  rw [← g, fieldsI_no hf]; rfl
theorem fields_end (hf : fieldI (l.drop i) = some (f, n)) (g : (fieldsI (l.drop i)).map (out ++ ·) = fieldsI l) (h : l.length ≤ i + n) : fieldsI l = some (out ++ [f]) := by
  rw [← g, fieldsI_end hf (by rw [List.length_drop]; dsimp only; omega)]; rfl
theorem fields_bad (hf : fieldI (l.drop i) = some (f, n)) (g : (fieldsI (l.drop i)).map (out ++ ·) = fieldsI l) (h : i + n < l.length) (hc : (l.getD (i + n) 0).toNat ≠ 32) : fieldsI l = none := by
  rw [← g, fieldsI_at hf (by rw [List.length_drop]; dsimp only; omega), getD_drop, if_pos hc]; rfl
theorem fields_more (hf : fieldI (l.drop i) = some (f, n)) (g : (fieldsI (l.drop i)).map (out ++ ·) = fieldsI l) (h : i + n < l.length) (hc : (l.getD (i + n) 0).toNat = 32) : (fieldsI (l.drop (i + n + 1))).map ((out ++ [f]) ++ ·) = fieldsI l := by
  rw [← g, fieldsI_at hf (by rw [List.length_drop]; dsimp only; omega), getD_drop, if_neg (fun k => k hc), List.drop_drop]
  dsimp only
  rw [show i + (n + 1) = i + n + 1 by omega]
  cases fieldsI (l.drop (i + n + 1)) with
  | none => rfl
  | some x => simp
end
end Go.Proofs.YtmeapfckibbbbaaGreatDoor.Wo
/- The words as plain functions of bytes: what Cut gives at a space. No program is named. -/
namespace Go.Proofs.YtmeapfckibbbbaaGreatDoor.Wo
theorem index_sp (s : Bs) : (Go.Lib.index s [32] = -1 ∧ wordI s = s) ∨ (0 ≤ Go.Lib.index s [32] ∧ wordI s = s.take (Go.Lib.index s [32]).toNat) := by
  induction s with
  | nil => exact .inl ⟨by decide, rfl⟩
  | cons c r ih =>
    unfold Go.Lib.index
    by_cases hc : c.toNat = 32
    · obtain rfl : c = 32 := UInt8.toNat_inj.1 hc
      refine .inr ⟨?_, ?_⟩
      · simp
      · simp [wordI]
    · have hc2 : (32 : UInt8) ≠ c := fun e => hc (by rw [← e]; rfl)
      have hw : wordI (c :: r) = c :: wordI r := by
        unfold wordI
        rw [List.takeWhile_cons, show notSp c = true from decide_eq_true hc]
        rfl
      have hp : List.isPrefixOf [32] (c :: r) = false := by simp [List.isPrefixOf, hc2]
      rw [hp, hw]
      rcases ih with ⟨h1, h2⟩ | ⟨h1, h2⟩
      · refine .inl ⟨?_, by rw [h2]⟩
        rw [h1]; rfl
      · have hne : (Go.Lib.index r [32] == -1) = false := by simp; omega
        refine .inr ⟨?_, ?_⟩
        · rw [hne]; simp; omega
        · rw [hne, h2]
          simp only [Bool.false_eq_true, if_false]
          rw [show (Go.Lib.index r [32] + 1).toNat = (Go.Lib.index r [32]).toNat + 1 by omega, List.take_succ_cons]
theorem cut_sp (s : Bs) : (Go.Lib.cut s [32]).1 = wordI s := by
  unfold Go.Lib.cut
  rcases index_sp s with ⟨h1, h2⟩ | ⟨h1, h2⟩
  · rw [h1, h2]; simp
  · rw [if_pos (by omega), h2]
end Go.Proofs.YtmeapfckibbbbaaGreatDoor.Wo
/- The words as plain functions of bytes: lists of numbers. No program is named. -/
namespace Go.Proofs.YtmeapfckibbbbaaGreatDoor.Wo
abbrev okN (n : Int) : Bool := decide (0 ≤ n ∧ n ≤ 1000000000)
/-- 6, if the numbers up to k do not ascend. -/
def formI (l : List Int) : Nat → Int
  | 0 => 0
  | k + 1 => if 0 < k ∧ l.getD k 0 ≤ l.getD (k - 1) 0 then 6 else formI l k
/-- How many numbers go on a run behind a. -/
def runG (a : Int) : List Int → Nat
  | [] => 0
  | b :: r => if b = a + 1 then runG b r + 1 else 0
def runS (a : Int) (n : Nat) : Bs := Lib.itoa a ++ if n = 0 then [] else 45 :: Lib.itoa (a + n)
def listX : List Int → Bs
  | [] => []
  | a :: r => runS a (runG a r) ++ (match h : r.drop (runG a r) with
    | [] => []
    | b :: r' => 44 :: listX (b :: r'))
termination_by l => l.length
decreasing_by
  have := congrArg List.length h
  rw [List.length_drop] at this
  simp only [List.length_cons] at this ⊢
  omega
def tailG : List Int → Bs
  | [] => []
  | b :: r => 44 :: listX (b :: r)
theorem listG_cons (a : Int) (r : List Int) : listX (a :: r) = runS a (runG a r) ++ tailG (r.drop (runG a r)) := by
  rw [listX]
  split <;> rename_i h <;> rw [h] <;> rfl
def listI (l : List Int) : Bs × Int := if 500 < l.length then ([], 3) else if l.all okN = false then ([], 7) else if formI l l.length ≠ 0 then ([], 6) else if l = [] then ([45], 0) else (listX l, 0)
theorem formI_01 (l : List Int) (k : Nat) : formI l k = 0 ∨ formI l k = 6 := by
  induction k with
  | zero => exact .inl rfl
  | succ k ih => unfold formI; split; exact .inr rfl; exact ih
theorem formI_bad {l : List Int} {k : Nat} (h1 : 0 < k) (h2 : l.getD k 0 ≤ l.getD (k - 1) 0) : ∀ n, k < n → formI l n = 6 := by
  intro n hn
  induction n with
  | zero => omega
  | succ n ih =>
    unfold formI
    split
    · rfl
    · rename_i h
      rcases Nat.lt_or_ge k n with h3 | h3
      · exact ih h3
      · obtain rfl : k = n := by omega
        exact absurd ⟨h1, h2⟩ h
theorem allN_ok {l : List Int} (h : ∀ k, k < l.length → 0 ≤ l.getD k 0 ∧ l.getD k 0 ≤ 1000000000) : l.all okN = true := by
  rw [List.all_eq_true]
  intro x hx
  obtain ⟨i, hi, rfl⟩ := List.mem_iff_getElem.1 hx
  have := h i hi
  rw [List.getD_eq_getElem?_getD, List.getElem?_eq_getElem hi] at this
  exact decide_eq_true this
theorem allN_no {l : List Int} {k : Nat} (hk : k < l.length) (h : ¬ (0 ≤ l.getD k 0 ∧ l.getD k 0 ≤ 1000000000)) : l.all okN = false := by
  refine Bool.eq_false_iff.2 fun e => ?_
  have := List.all_eq_true.1 e l[k] (List.getElem_mem hk)
  rw [List.getD_eq_getElem?_getD, List.getElem?_eq_getElem hk] at h
  exact h (of_decide_eq_true this)
theorem drop_cons (l : List Int) {i : Nat} (h : i < l.length) : l.drop i = l.getD i 0 :: l.drop (i + 1) := by
  rw [List.drop_eq_getElem_cons h, List.getD_eq_getElem?_getD, List.getElem?_eq_getElem h]
  rfl
/-- The run at i has k numbers behind its first. -/
theorem runG_at {l : List Int} : ∀ {k i : Nat} {a : Int}, i + k < l.length → l.getD i 0 = a → (∀ j, j < k → l.getD (i + j + 1) 0 = a + j + 1) → (i + k + 1 < l.length → l.getD (i + k + 1) 0 ≠ a + k + 1) → runG a (l.drop (i + 1)) = k
  | 0, i, a, h1, h2, _, h3 => by
    rcases Nat.lt_or_ge (i + 1) l.length with h | h
    · rw [drop_cons l h, runG, if_neg (by have := h3 h; simpa using this)]
    · rw [List.drop_of_length_le h]; rfl
  | k + 1, i, a, h1, h2, h4, h3 => by
    have h5 : l.getD (i + 1) 0 = a + 1 := by have := h4 0 (Nat.zero_lt_succ k); simpa using this
    rw [drop_cons l (by omega), runG, if_pos h5, runG_at (k := k) (i := i + 1) (a := l.getD (i + 1) 0) (by omega) rfl ?_ ?_]
    · intro j hj
      have := h4 (j + 1) (by omega)
      rw [h5, show i + 1 + j + 1 = i + (j + 1) + 1 by omega, this]
      omega
    · intro h e
      refine h3 (by omega) ?_
      rw [show i + (k + 1) + 1 = i + 1 + k + 1 by omega, e, h5]
      omega
theorem list_at {l : List Int} {k i : Nat} {a : Int} (h1 : i + k < l.length) (h2 : l.getD i 0 = a) (h4 : ∀ j, j < k → l.getD (i + j + 1) 0 = a + j + 1) (h3 : i + k + 1 < l.length → l.getD (i + k + 1) 0 ≠ a + k + 1) : listX (l.drop i) = runS a k ++ tailG (l.drop (i + k + 1)) := by
  rw [drop_cons l (by omega), listG_cons, h2, runG_at h1 h2 h4 h3, List.drop_drop]
  congr 3
  omega
theorem list_step {l : List Int} {k i : Nat} {a : Int} {out : Bs} (p : out ++ tailG (l.drop i) = listX l) (h1 : i + k < l.length) (h2 : l.getD i 0 = a) (h4 : ∀ j, j < k → l.getD (i + j + 1) 0 = a + j + 1) (h3 : i + k + 1 < l.length → l.getD (i + k + 1) 0 ≠ a + k + 1) : (out ++ [44] ++ runS a k) ++ tailG (l.drop (i + k + 1)) = listX l := by
  rw [← p, show tailG (l.drop i) = 44 :: listX (l.drop i) from by rw [drop_cons l (show i < l.length by omega)]; rfl, list_at h1 h2 h4 h3]
  simp
theorem list_zero {l : List Int} {k : Nat} {a : Int} (h1 : k < l.length) (h2 : l.getD 0 0 = a) (h4 : ∀ j, j < k → l.getD (j + 1) 0 = a + j + 1) (h3 : k + 1 < l.length → l.getD (k + 1) 0 ≠ a + k + 1) : runS a k ++ tailG (l.drop (k + 1)) = listX l := by
  have := list_at (l := l) (i := 0) (k := k) (a := a) (by omega) h2 (fun j hj => by rw [Nat.zero_add]; exact h4 j hj) (fun h => by rw [Nat.zero_add] at h ⊢; exact h3 h)
  rw [Nat.zero_add] at this
  rw [← this]; rfl
theorem runS_0 (a : Int) : runS a 0 = Lib.itoa a := by unfold runS; rw [if_pos rfl, List.append_nil]
theorem runS_k (a : Int) {k : Nat} (h : k ≠ 0) : runS a k = Lib.itoa a ++ 45 :: Lib.itoa (a + k) := by unfold runS; rw [if_neg h]
end Go.Proofs.YtmeapfckibbbbaaGreatDoor.Wo
/- The words as plain functions of bytes: decimal forms, their order, the next one. No program is named. -/
namespace Go.Proofs.YtmeapfckibbbbaaGreatDoor.Wo
/-- A decimal form without a sign. -/
def dgsI (a : Bs) : Bool := decI a && decide (a.head? ≠ some 45)
structure Dgs (a : Bs) : Prop where
  ne : a ≠ []
  all : ∀ c ∈ a, 48 ≤ c.toNat ∧ c.toNat ≤ 57
  lead : a.head? ≠ some 48 ∨ a = [48]
theorem dgs_iff {a : Bs} : dgsI a = true ↔ Dgs a := by
  unfold dgsI
  rw [Bool.and_eq_true, decide_eq_true_iff]
  constructor
  · rintro ⟨h1, h2⟩
    obtain ⟨h3, h4, h5⟩ := dec_spec h1
    have hb : bodyI a = a := if_neg h2
    rw [hb] at h3 h4 h5
    refine ⟨h3, fun c hc => of_decide_eq_true (List.all_eq_true.1 h4 c hc), h5.imp (fun h e => h ?_) id⟩
    cases a with
    | nil => cases e
    | cons c r => simpa using e
  · rintro ⟨h1, h2, h3⟩
    have h4 : a.head? ≠ some 45 := by
      cases a with
      | nil => exact absurd rfl h1
      | cons c r => intro e; have := h2 c (List.mem_cons_self ..); simp at e; subst e; revert this; decide
    refine ⟨?_, h4⟩
    unfold decI
    rw [show bodyI a = a from if_neg h4]
    cases a with
    | nil => exact absurd rfl h1
    | cons c r =>
      rw [show (List.isEmpty (c :: r)) = false from rfl, show (c :: r).all digC = true from List.all_eq_true.2 fun x hx => decide_eq_true (h2 x hx)]
      simp only [Bool.not_false, Bool.true_and, Bool.or_eq_true, decide_eq_true_eq]
      rcases h3 with h | h
      · exact .inl fun e => h (by simpa using e)
      · exact .inr h
theorem natF_mul (acc : Nat) : ∀ (l : Bs), natF acc l = acc * 10 ^ l.length + natF 0 l := by
  intro l
  induction l generalizing acc with
  | nil => simp [natF]
  | cons c r ih =>
    show natF (10 * acc + (c.toNat - 48)) r = _ + natF (10 * 0 + (c.toNat - 48)) r
    rw [ih, ih (10 * 0 + (c.toNat - 48)), List.length_cons, Nat.pow_succ]
    rw [Nat.add_mul, Nat.mul_zero, Nat.zero_add, Nat.add_assoc]
    congr 1
    rw [Nat.mul_comm 10 acc, Nat.mul_assoc, Nat.mul_comm 10]
theorem nat_snoc (l : Bs) (c : UInt8) : natI (l ++ [c]) = 10 * natI l + (c.toNat - 48) := by
  show natF 0 (l ++ [c]) = _
  rw [natF_app]; rfl
theorem nat_app (l r : Bs) : natI (l ++ r) = natI l * 10 ^ r.length + natI r := by
  show natF 0 (l ++ r) = _
  rw [natF_app, natF_mul]; rfl
theorem nat_lt : ∀ {a : Bs}, (∀ c ∈ a, 48 ≤ c.toNat ∧ c.toNat ≤ 57) → natI a < 10 ^ a.length
  | [], _ => by decide
  | c :: r, h => by
    have ih := nat_lt (a := r) fun x hx => h x (List.mem_cons_of_mem _ hx)
    have hc := h c (List.mem_cons_self ..)
    have := nat_app [c] r
    rw [List.singleton_append] at this
    have h1 : natI [c] = c.toNat - 48 := by simp [natI]
    rw [this, h1, List.length_cons, Nat.pow_succ]
    have : (c.toNat - 48) * 10 ^ r.length ≤ 9 * 10 ^ r.length := Nat.mul_le_mul_right _ (by omega)
    omega
theorem nat_ge {a : Bs} (h : Dgs a) (h2 : 2 ≤ a.length) : 10 ^ (a.length - 1) ≤ natI a := by
  cases a with
  | nil => exact absurd rfl h.ne
  | cons c r =>
    have hc := h.all c (List.mem_cons_self ..)
    have hne : c ≠ 48 := by
      rcases h.lead with h1 | h1
      · exact fun e => h1 (by rw [e]; rfl)
      · rw [h1] at h2; exact absurd h2 (by decide)
    have hn : c.toNat ≠ 48 := fun e => hne (UInt8.toNat_inj.1 e)
    have := nat_app [c] r
    rw [List.singleton_append] at this
    have h1 : natI [c] = c.toNat - 48 := by simp [natI]
    rw [this, h1, List.length_cons, Nat.add_sub_cancel]
    have : 1 * 10 ^ r.length ≤ (c.toNat - 48) * 10 ^ r.length := Nat.mul_le_mul_right _ (by omega)
    omega
theorem nat_len {a b : Bs} (ha : Dgs a) (hb : Dgs b) (h : a.length < b.length) : natI a < natI b := by
  have h0 : 1 ≤ a.length := List.length_pos_iff.2 ha.ne
  have h1 := nat_lt ha.all
  have h2 := nat_ge hb (by omega)
  have : 10 ^ a.length ≤ 10 ^ (b.length - 1) := Nat.pow_le_pow_right (by decide) (by omega)
  omega
theorem cmp_nat : ∀ {a b : Bs}, (∀ c ∈ a, 48 ≤ c.toNat ∧ c.toNat ≤ 57) → (∀ c ∈ b, 48 ≤ c.toNat ∧ c.toNat ≤ 57) → a.length = b.length → (Lib.compareBytes a b < 0 ↔ natI a < natI b) ∧ (0 < Lib.compareBytes a b ↔ natI b < natI a) ∧ (Lib.compareBytes a b = 0 ↔ a = b)
  | [], [], _, _, _ => by simp [Lib.compareBytes]
  | [], _ :: _, _, _, h => by cases h
  | _ :: _, [], _, _, h => by cases h
  | x :: a, y :: b, ha, hb, h => by
    have hl : a.length = b.length := by simpa using h
    have ih := cmp_nat (a := a) (b := b) (fun c hc => ha c (List.mem_cons_of_mem _ hc)) (fun c hc => hb c (List.mem_cons_of_mem _ hc)) hl
    have hx := ha x (List.mem_cons_self ..)
    have hy := hb y (List.mem_cons_self ..)
    have ea := nat_app [x] a
    have eb := nat_app [y] b
    rw [List.singleton_append] at ea eb
    have h1 : natI [x] = x.toNat - 48 := by simp [natI]
    have h2 : natI [y] = y.toNat - 48 := by simp [natI]
    rw [h1] at ea
    rw [h2] at eb
    have la := nat_lt (a := a) (fun c hc => ha c (List.mem_cons_of_mem _ hc))
    have lb := nat_lt (a := b) (fun c hc => hb c (List.mem_cons_of_mem _ hc))
    rw [ea, eb, Lib.compareBytes, hl]
    rw [hl] at la
    have step : ∀ {p q : Nat}, p < q → p * 10 ^ b.length + 10 ^ b.length ≤ q * 10 ^ b.length := fun {p q} hpq => by
      have := Nat.mul_le_mul_right (10 ^ b.length) (Nat.succ_le_of_lt hpq)
      rw [Nat.succ_mul] at this
      exact this
    by_cases hxy : x < y
    · have h3 : x.toNat - 48 < y.toNat - 48 := by have := UInt8.lt_iff_toNat_lt.1 hxy; omega
      have := step h3
      rw [if_pos hxy]
      refine ⟨⟨fun _ => by omega, fun _ => by decide⟩, ⟨fun k => absurd k (by decide), fun k => by omega⟩, ⟨fun k => absurd k (by decide), fun k => ?_⟩⟩
      injection k with k1 _
      subst k1
      omega
    · rw [if_neg hxy]
      by_cases hyx : y < x
      · have h3 : y.toNat - 48 < x.toNat - 48 := by have := UInt8.lt_iff_toNat_lt.1 hyx; omega
        have := step h3
        rw [if_pos hyx]
        refine ⟨⟨fun k => absurd k (by decide), fun k => by omega⟩, ⟨fun _ => by omega, fun _ => by decide⟩, ⟨fun k => absurd k (by decide), fun k => ?_⟩⟩
        injection k with k1 _
        subst k1
        omega
      · have : x = y := UInt8.toNat_inj.1 (by
          have h3 : ¬ x.toNat < y.toNat := fun k => hxy (UInt8.lt_iff_toNat_lt.2 k)
          have h4 : ¬ y.toNat < x.toNat := fun k => hyx (UInt8.lt_iff_toNat_lt.2 k)
          omega)
        subst this
        rw [if_neg hyx]
        refine ⟨ih.1.trans ?_, ih.2.1.trans ?_, ih.2.2.trans ?_⟩
        · omega
        · omega
        · simp
/-- How two decimal forms compare: by length, then byte by byte. -/
def cmpI (a b : Bs) : Int := if a.length ≠ b.length then (a.length : Int) - b.length else Lib.compareBytes a b
theorem cmp_spec {a b : Bs} (ha : Dgs a) (hb : Dgs b) : (cmpI a b < 0 ↔ natI a < natI b) ∧ (0 < cmpI a b ↔ natI b < natI a) ∧ (cmpI a b = 0 ↔ a = b) := by
  unfold cmpI
  by_cases h : a.length ≠ b.length
  · rw [if_pos h]
    rcases Nat.lt_or_ge a.length b.length with h1 | h1
    · have := nat_len ha hb h1
      refine ⟨by omega, by omega, ⟨fun k => by omega, fun k => absurd (congrArg List.length k) h⟩⟩
    · have := nat_len hb ha (by omega)
      refine ⟨by omega, by omega, ⟨fun k => by omega, fun k => absurd (congrArg List.length k) h⟩⟩
  · rw [if_neg h]
    exact cmp_nat ha.all hb.all (Decidable.not_not.1 h)
theorem nat_inj {a b : Bs} (ha : Dgs a) (hb : Dgs b) (h : natI a = natI b) : a = b := by
  have := cmp_spec ha hb
  exact this.2.2.1 (by omega)
theorem nat_nines (k : Nat) : natI (List.replicate k 57) + 1 = 10 ^ k ∧ natI (List.replicate k 48) = 0 := by
  induction k with
  | zero => decide
  | succ k ih =>
    rw [List.replicate_succ', List.replicate_succ', nat_snoc, nat_snoc, Nat.pow_succ]
    have e1 : (57 : UInt8).toNat - 48 = 9 := rfl
    have e2 : (48 : UInt8).toNat - 48 = 0 := rfl
    rw [e1, e2]
    omega
/-- The next number: what stands ahead of the nines at the end is one more. -/
theorem next_one {p : Bs} {x : UInt8} {k : Nat} (h : Dgs (p ++ [x] ++ List.replicate k 57)) (hx : x.toNat ≠ 57) : Dgs (p ++ [x + 1] ++ List.replicate k 48) ∧ natI (p ++ [x + 1] ++ List.replicate k 48) = natI (p ++ [x] ++ List.replicate k 57) + 1 := by
  have hc := h.all x (by simp)
  have h1 : (x + 1).toNat = x.toNat + 1 := by
    rw [UInt8.toNat_add]
    show (x.toNat + 1) % 256 = _
    omega
  have ⟨n1, n2⟩ := nat_nines k
  refine ⟨⟨by simp, fun c hc' => ?_, ?_⟩, ?_⟩
  · rcases List.mem_append.1 hc' with hc' | hc'
    · rcases List.mem_append.1 hc' with hc' | hc'
      · exact h.all c (by simp [hc'])
      · simp only [List.mem_singleton] at hc'
        subst hc'
        omega
    · have := List.eq_of_mem_replicate hc'
      subst this
      decide
  · cases p with
    | nil =>
      refine .inl fun e => ?_
      simp only [List.nil_append, List.singleton_append, List.head?_cons, Option.some.injEq] at e
      have := congrArg UInt8.toNat e
      rw [h1] at this
      have : (48 : UInt8).toNat = 48 := rfl
      omega
    | cons c r =>
      rcases h.lead with h2 | h2
      · exact .inl h2
      · have := congrArg List.length h2
        simp at this
  · rw [nat_app (p ++ [x + 1]), nat_app (p ++ [x]), nat_snoc, nat_snoc, n2, h1, List.length_replicate, List.length_replicate]
    rw [show x.toNat + 1 - 48 = (x.toNat - 48) + 1 by omega, ← Nat.add_assoc, Nat.succ_mul]
    omega
theorem next_all {k : Nat} (hk : 0 < k) : Dgs (49 :: List.replicate k 48) ∧ natI (49 :: List.replicate k 48) = natI (List.replicate k 57) + 1 := by
  have ⟨n1, n2⟩ := nat_nines k
  refine ⟨⟨by simp, fun c hc => ?_, .inl (by show some (49 : UInt8) ≠ some 48; decide)⟩, ?_⟩
  · rcases List.mem_cons.1 hc with rfl | hc
    · decide
    · have := List.eq_of_mem_replicate hc
      subst this
      decide
  · have := nat_app [49] (List.replicate k 48)
    rw [List.singleton_append] at this
    have h1 : natI [49] = 1 := rfl
    rw [this, n2, List.length_replicate, h1]
    omega
theorem dec_nat (n : Nat) : Dgs (Lib.decDigits n) ∧ natI (Lib.decDigits n) = n := by
  induction n using Nat.strongRecOn with
  | _ n ih =>
    by_cases h : n < 10
    · rw [Lib.decDigits, dif_pos h]
      have : (UInt8.ofNat (48 + n)).toNat = 48 + n := by
        rw [UInt8.toNat_ofNat']
        omega
      refine ⟨⟨by simp, fun c hc => by have := List.mem_singleton.1 hc; subst this; omega, ?_⟩, ?_⟩
      · rcases Nat.eq_zero_or_pos n with h0 | h0
        · subst h0; exact .inr rfl
        · refine .inl fun e => ?_
          have := congrArg UInt8.toNat (Option.some.inj e)
          have e48 : (48 : UInt8).toNat = 48 := rfl
          omega
      · have := nat_snoc [] (UInt8.ofNat (48 + n))
        rw [List.nil_append] at this
        rw [this]
        have : natI [] = 0 := rfl
        omega
    · rw [Lib.decDigits, dif_neg h]
      obtain ⟨h1, h2⟩ := ih (n / 10) (by omega)
      have : (UInt8.ofNat (48 + n % 10)).toNat = 48 + n % 10 := by
        rw [UInt8.toNat_ofNat']
        omega
      refine ⟨⟨by simp, fun c hc => ?_, ?_⟩, ?_⟩
      · rcases List.mem_append.1 hc with hc | hc
        · exact h1.all c hc
        · have := List.mem_singleton.1 hc; subst this; omega
      · rcases h1.lead with h3 | h3
        · refine .inl ?_
          rw [List.head?_append]
          cases hd : (Lib.decDigits (n / 10)).head? with
          | none => exact absurd (List.head?_eq_none_iff.1 hd) h1.ne
          | some c => rw [hd] at h3; exact h3
        · rw [h3] at h2
          have : natI [48] = 0 := rfl
          omega
      · rw [nat_snoc, h2]; omega
theorem itoa_nat (n : Nat) : Dgs (Lib.itoa n) ∧ natI (Lib.itoa n) = n := by
  rw [Lib.itoa_nonneg]; exact dec_nat n
theorem nat_itoa {a : Bs} (h : Dgs a) : Lib.itoa (natI a : Int) = a :=
  nat_inj (itoa_nat _).1 h (itoa_nat _).2
theorem itoa_ne (n : Int) : Lib.itoa n ≠ [] := by
  unfold Lib.itoa
  split
  · simp
  · exact (dec_nat _).1.ne
/-- Decimal forms and numbers: what is written is read. -/
theorem itoa_dec (n : Int) : decI (Lib.itoa n) = true ∧ valI (Lib.itoa n) = n := by
  unfold Lib.itoa
  split
  · rename_i h
    obtain ⟨h1, h2⟩ := dec_nat n.natAbs
    refine ⟨?_, ?_⟩
    · have hd := dgs_iff.2 h1
      have hne : Lib.decDigits n.natAbs ≠ [48] := fun e => by
        rw [e] at h2
        have : natI [48] = 0 := rfl
        omega
      unfold dgsI at hd
      rw [Bool.and_eq_true, decide_eq_true_iff] at hd
      obtain ⟨h3, h4⟩ := hd
      obtain ⟨h5, h6, h7⟩ := dec_spec h3
      rw [show bodyI (Lib.decDigits n.natAbs) = Lib.decDigits n.natAbs from if_neg h4] at h5 h6 h7
      unfold decI
      rw [show bodyI (45 :: Lib.decDigits n.natAbs) = Lib.decDigits n.natAbs from rfl, h6, decide_eq_true (show _ from h7.resolve_right hne)]
      cases hx : Lib.decDigits n.natAbs with
      | nil => exact absurd hx h5
      | cons c r => rfl
    · show -(natI (Lib.decDigits n.natAbs) : Int) = n
      rw [h2]; omega
  · rename_i h
    obtain ⟨h1, h2⟩ := dec_nat n.toNat
    have hd := dgs_iff.2 h1
    unfold dgsI at hd
    rw [Bool.and_eq_true, decide_eq_true_iff] at hd
    refine ⟨hd.1, ?_⟩
    unfold valI
    rw [if_neg hd.2, h2]; omega
/-- What is read is what is written. -/
theorem dec_itoa {s : Bs} (h : decI s = true) : Lib.itoa (valI s) = s := by
  by_cases hs : s.head? = some 45
  · obtain ⟨h5, h6, h7⟩ := dec_spec h
    cases s with
    | nil => cases hs
    | cons c r =>
      obtain rfl : c = 45 := by simpa using hs
      rw [show bodyI (45 :: r) = r from rfl] at h5 h6 h7
      have hr : Dgs r := ⟨h5, fun c hc => of_decide_eq_true (List.all_eq_true.1 h6 c hc), .inl fun e => by
        rcases h7 with h7 | h7
        · cases r with
          | nil => cases e
          | cons x y => exact h7 (by simpa using e)
        · cases h7⟩
      have hne : natI r ≠ 0 := fun e => by
        have h0 : natI [48] = 0 := rfl
        have := nat_inj hr ⟨by simp, by decide, .inr rfl⟩ (e.trans h0.symm)
        subst this
        rcases h7 with h7 | h7
        · exact h7 rfl
        · cases h7
      show Lib.itoa (-(natI r : Int)) = _
      rw [Lib.itoa_neg _ (by omega)]
      have := nat_itoa hr
      rw [Lib.itoa_nonneg] at this
      rw [this]
  · have : Dgs s := dgs_iff.1 (by unfold dgsI; rw [h, decide_eq_true hs]; rfl)
    unfold valI
    rw [if_neg hs]
    exact nat_itoa this
end Go.Proofs.YtmeapfckibbbbaaGreatDoor.Wo
/- The words as plain functions of bytes: a string cut at a byte; list expressions read. No program is named. -/
namespace Go.Proofs.YtmeapfckibbbbaaGreatDoor.Wo
def partsG (c : UInt8) (acc : Bs) : Bs → List Bs
  | [] => [acc]
  | x :: r => if x = c then acc :: partsG c [] r else partsG c (acc ++ [x]) r
/-- A string cut at a byte. -/
abbrev partsI (c : UInt8) (s : Bs) : List Bs := partsG c [] s
theorem parts_miss {c : UInt8} : ∀ {s acc : Bs}, (∀ x ∈ s, x ≠ c) → partsG c acc s = [acc ++ s]
  | [], acc, _ => by simp [partsG]
  | x :: r, acc, h => by
    rw [partsG, if_neg (h x (List.mem_cons_self ..)), parts_miss fun y hy => h y (List.mem_cons_of_mem _ hy)]
    simp
theorem parts_hit {c : UInt8} {t : Bs} : ∀ {s acc : Bs}, (∀ x ∈ s, x ≠ c) → partsG c acc (s ++ c :: t) = (acc ++ s) :: partsI c t
  | [], acc, _ => by rw [List.nil_append, partsG, if_pos rfl, List.append_nil]
  | x :: r, acc, h => by
    rw [List.cons_append, partsG, if_neg (h x (List.mem_cons_self ..)), parts_hit fun y hy => h y (List.mem_cons_of_mem _ hy)]
    simp
/-- Where the first c stands. -/
theorem index_c (c : UInt8) (s : Bs) : (Go.Lib.index s [c] = -1 ∧ ∀ x ∈ s, x ≠ c) ∨ ∃ i : Nat, Go.Lib.index s [c] = i ∧ i < s.length ∧ (∀ x ∈ s.take i, x ≠ c) ∧ s = s.take i ++ c :: s.drop (i + 1) := by
  induction s with
  | nil => exact .inl ⟨rfl, fun x hx => nomatch hx⟩
  | cons a r ih =>
    unfold Go.Lib.index
    by_cases hc : c = a
    · subst hc
      refine .inr ⟨0, by simp, by simp, by simp, by simp⟩
    · have hp : List.isPrefixOf [c] (a :: r) = false := by simp [List.isPrefixOf, hc]
      rw [hp]
      simp only [Bool.false_eq_true, if_false]
      rcases ih with ⟨h1, h2⟩ | ⟨i, h1, h2, h3, h4⟩
      · refine .inl ⟨by rw [h1]; rfl, fun x hx => ?_⟩
        rcases List.mem_cons.1 hx with rfl | hx
        · exact fun e => hc e.symm
        · exact h2 x hx
      · refine .inr ⟨i + 1, ?_, by simp; omega, ?_, ?_⟩
        · rw [h1]
          have : ((i : Int) == -1) = false := by simp <;> omega
          rw [this]
          simp
        · intro x hx
          rw [List.take_succ_cons] at hx
          rcases List.mem_cons.1 hx with rfl | hx
          · exact fun e => hc e.symm
          · exact h3 x hx
        · rw [List.take_succ_cons, List.cons_append, List.drop_succ_cons, ← h4]
theorem splitK_parts (c : UInt8) : ∀ (k : Nat) (s : Bs), Go.Lib.count s [c] ≤ k → Go.Lib.splitK [c] 0 k s = partsI c s := by
  intro k
  induction k with
  | zero =>
    intro s h
    rcases index_c c s with ⟨h1, h2⟩ | ⟨i, h1, h2, h3, h4⟩
    · rw [partsI, parts_miss h2]; rfl
    · rw [Go.Lib.count_hit (by simp) h1] at h
      omega
  | succ k ih =>
    intro s h
    unfold Go.Lib.splitK
    rcases index_c c s with ⟨h1, h2⟩ | ⟨i, h1, h2, h3, h4⟩
    · rw [h1, partsI, parts_miss h2]; rfl
    · rw [Go.Lib.count_hit (by simp) h1, List.length_singleton] at h
      have : (Go.Lib.index s [c] == -1) = false := by rw [h1]; simp <;> omega
      rw [this, h1]
      simp only [Bool.false_eq_true, if_false, List.length_singleton, Int.toNat_natCast, Nat.add_zero]
      rw [ih _ (by omega)]
      conv => rhs; rw [h4]
      show _ = partsG c [] (s.take i ++ c :: s.drop (i + 1))
      rw [parts_hit h3]
      rfl
theorem split_parts (c : UInt8) (s : Bs) : Go.Lib.split s [c] = partsI c s := splitK_parts c _ s (Nat.le_refl _)
theorem parts_ne (c : UInt8) : ∀ (s acc : Bs), partsG c acc s ≠ []
  | [], acc => by simp [partsG]
  | x :: r, acc => by
    rw [partsG]
    split
    · simp
    · exact parts_ne c r _
theorem parts_len (c : UInt8) : ∀ (s acc : Bs), (partsG c acc s).length ≤ s.length + 1
  | [], acc => by simp [partsG]
  | x :: r, acc => by
    rw [partsG]
    split
    · have := parts_len c r []
      simp only [List.length_cons]; omega
    · have := parts_len c r (acc ++ [x])
      simp only [List.length_cons]; omega
theorem parts_size (c : UInt8) : ∀ (s acc : Bs), ∀ p ∈ partsG c acc s, p.length ≤ acc.length + s.length
  | [], acc, p, h => by simp [partsG] at h; subst h; simp
  | x :: r, acc, p, h => by
    rw [partsG] at h
    split at h
    · rcases List.mem_cons.1 h with rfl | h
      · simp
      · have := parts_size c r [] p h
        simp at this ⊢; omega
    · have := parts_size c r _ p h
      simp at this ⊢; omega
/-- A run: its first and its last number. -/
def runI (p : Bs) : Option (Nat × Nat) := match Go.Lib.cut p [45] with
  | (a, b, is) => if is = false then (if dgsI a = true then some (natI a, natI a) else none) else if dgsI a = true ∧ dgsI b = true ∧ natI a < natI b then some (natI a, natI b) else none
theorem cutB_c (c : UInt8) (s : Bs) : (Go.Lib.cut s [c] = (s, [], false) ∧ ∀ x ∈ s, x ≠ c) ∨ ∃ i : Nat, Go.Lib.cut s [c] = (s.take i, s.drop (i + 1), true) ∧ i < s.length ∧ (∀ x ∈ s.take i, x ≠ c) ∧ s = s.take i ++ c :: s.drop (i + 1) := by
  unfold Go.Lib.cut
  rcases index_c c s with ⟨h1, h2⟩ | ⟨i, h1, h2, h3, h4⟩
  · refine .inl ⟨?_, h2⟩
    rw [h1]; rfl
  · refine .inr ⟨i, ?_, h2, h3, h4⟩
    rw [h1]
    simp
/-- What a run is, of the parts between the signs. -/
theorem run_parts (p : Bs) : runI p = match partsI 45 p with
    | [a] => if dgsI a = true then some (natI a, natI a) else none
    | [a, b] => if dgsI a = true ∧ dgsI b = true ∧ natI a < natI b then some (natI a, natI b) else none
    | _ => none := by
  unfold runI
  rcases cutB_c 45 p with ⟨h1, h2⟩ | ⟨i, h1, h2, h3, h4⟩
  · rw [h1, partsI, parts_miss h2]; rfl
  · rw [h1]
    conv => rhs; rw [h4]
    rw [partsI, parts_hit h3, List.nil_append]
    dsimp only
    rw [if_neg (by decide)]
    rcases cutB_c 45 (p.drop (i + 1)) with ⟨g1, g2⟩ | ⟨j, g1, g2, g3, g4⟩
    · rw [partsI, parts_miss g2]; rfl
    · have hm : (45 : UInt8) ∈ p.drop (i + 1) := by rw [g4]; simp
      rw [if_neg fun e => by have := (dgs_iff.1 e.2.1).all 45 hm; revert this; decide]
      rw [show partsI 45 (p.drop (i + 1)) = (p.drop (i + 1)).take j :: partsI 45 ((p.drop (i + 1)).drop (j + 1)) from by
        conv => lhs; rw [g4]
        rw [partsI, parts_hit g3, List.nil_append]]
      cases hx : partsI 45 ((p.drop (i + 1)).drop (j + 1)) with
      | nil => exact absurd hx (parts_ne _ _ _)
      | cons y ys => rfl
def afterI : Option Nat → Nat → Bool
  | none, _ => true
  | some z, x => decide (z + 1 < x)
def runsI : Option Nat → List Bs → Option (List (Nat × Nat))
  | _, [] => some []
  | last, p :: ps => match runI p with
    | none => none
    | some (x, y) => if afterI last x = true then (runsI (some y) ps).map ((x, y) :: ·) else none
def runN (x : Nat × Nat) : List Int := (List.range (x.2 + 1 - x.1)).map fun i => ((x.1 + i : Nat) : Int)
def flatR (R : List (Nat × Nat)) : List Int := R.flatMap runN
def lastR (R : List (Nat × Nat)) : Nat := (R.getLastD (0, 0)).2
def parseI (s : Bs) : List Int × Int := if s = [45] then ([], 0) else match runsI none (partsI 44 s) with
  | none => ([], 6)
  | some R => if 1000000000 < lastR R then ([], 7) else if 500 < (flatR R).length then ([], 3) else (flatR R, 0)
theorem runN_len (x : Nat × Nat) : (runN x).length = x.2 + 1 - x.1 := by simp [runN]
theorem run_le {p : Bs} {x y : Nat} (h : runI p = some (x, y)) : x ≤ y := by
  unfold runI at h
  split at h
  split at h
  · split at h
    · cases h; exact Nat.le_refl _
    · cases h
  · split at h
    · rename_i k; cases h; omega
    · cases h
/-- All numbers of runs are at most the last one, and each run ascends. -/
theorem runs_le : ∀ {ps : List Bs} {last : Option Nat} {R : List (Nat × Nat)}, runsI last ps = some R → ∀ q ∈ R, q.1 ≤ q.2 ∧ q.2 ≤ lastR R
  | [], _, R, h => by cases h; intro q hq; cases hq
  | p :: ps, last, R, h => by
    rw [runsI] at h
    split at h
    · cases h
    · rename_i x y hr
      split at h
      · cases hR : runsI (some y) ps with
        | none => rw [hR] at h; cases h
        | some R' =>
          rw [hR] at h
          cases h
          have ih := runs_le hR
          have hxy := run_le hr
          intro q hq
          cases R' with
          | nil =>
            rcases List.mem_cons.1 hq with rfl | hq
            · exact ⟨hxy, Nat.le_refl _⟩
            · cases hq
          | cons z zs =>
            have hl : lastR ((x, y) :: z :: zs) = lastR (z :: zs) := rfl
            rw [hl]
            rcases List.mem_cons.1 hq with rfl | hq
            · refine ⟨hxy, ?_⟩
              have h1 := ih z (List.mem_cons_self ..)
              cases ps with
              | nil => cases hR
              | cons p2 ps2 =>
                rw [runsI] at hR
                split at hR
                · cases hR
                · split at hR
                  · rename_i x2 y2 h2 ha
                    cases hR2 : runsI (some y2) ps2 with
                    | none => rw [hR2] at hR; cases hR
                    | some R2 =>
                      rw [hR2] at hR
                      injection hR with hR
                      injection hR with e1 e2
                      subst e1
                      have := of_decide_eq_true ha
                      dsimp only at h1 ⊢
                      omega
                  · cases hR
            · exact ih q hq
      · cases h
end Go.Proofs.YtmeapfckibbbbaaGreatDoor.Wo
/- The words as plain functions of bytes: what is written is read, what is read is what is written. No program is named. -/
namespace Go.Proofs.YtmeapfckibbbbaaGreatDoor.Wo
theorem esc_head (c : UInt8) : ∃ a t, escI c = a :: t ∧ a.toNat ≠ 34 := by
  unfold escI
  split
  · rename_i h
    exact ⟨c, [], rfl, (of_decide_eq_true h).2.2.1⟩
  · split
    · exact ⟨92, _, rfl, by decide⟩
    · exact ⟨92, _, rfl, by decide⟩
theorem unqG_esc : ∀ (l r : Bs), unqG (l.flatMap escI ++ 34 :: r) = some (l, (l.flatMap escI).length + 1)
  | [], r => by
    rw [List.flatMap_nil, List.nil_append, unqG, if_pos (by decide)]; rfl
  | c :: l, r => by
    obtain ⟨a, t, h1, h2⟩ := esc_head c
    have hd := dec_esc c (l.flatMap escI ++ 34 :: r)
    have hl := (esc_len c).1
    rw [List.flatMap_cons, List.append_assoc]
    have hs : escI c ++ (l.flatMap escI ++ 34 :: r) = a :: (t ++ (l.flatMap escI ++ 34 :: r)) := by rw [h1]; rfl
    rw [hs, unqG, if_neg h2, ← hs]
    rw [dif_neg (by rw [hd]; dsimp only; omega), hd]
    dsimp only
    rw [List.drop_left, unqG_esc l r]
    simp [Nat.add_assoc]
theorem unq_quote (x r : Bs) : unqI (quoteI x ++ r) = (x, (quoteI x).length) := by
  unfold quoteI
  show (if (34 : UInt8).toNat = 34 then finQ [] 1 (unqG ((x.flatMap escI ++ [34]) ++ r)) else ([], 0)) = _
  rw [if_pos (by decide), List.append_assoc, List.singleton_append, unqG_esc]
  simp [finQ]
  omega
theorem unqG_back : ∀ (n : Nat) (s : Bs) (x : Bs) (k : Nat), s.length ≤ n → unqG s = some (x, k) → s = x.flatMap escI ++ 34 :: s.drop k ∧ k = (x.flatMap escI).length + 1
  | n, [], x, k, _, h => by rw [unqG] at h; cases h
  | 0, a :: r, x, k, hn, h => by simp at hn
  | n + 1, a :: r, x, k, hn, h => by
    rw [unqG] at h
    split at h
    · rename_i ha
      obtain rfl : a = 34 := UInt8.toNat_inj.1 ha
      cases h
      exact ⟨rfl, rfl⟩
    · split at h
      · cases h
      · rename_i ha hd
        have hd' : (decI1 (a :: r)).2 ≠ 0 := hd
        obtain ⟨e1, e2⟩ := esc_dec hd'
        cases hg : unqG ((a :: r).drop (decI1 (a :: r)).2) with
        | none => rw [hg] at h; cases h
        | some y =>
          rw [hg] at h
          simp only [Option.map_some, Option.some.injEq, Prod.mk.injEq] at h
          obtain ⟨rfl, rfl⟩ := h
          obtain ⟨f1, f2⟩ := unqG_back n _ y.1 y.2 (by rw [List.length_drop]; simp at hn ⊢; omega) hg
          refine ⟨?_, ?_⟩
          · rw [List.flatMap_cons, List.append_assoc]
            rw [List.drop_drop] at f1
            rw [← f1]
            exact e1
          · rw [List.flatMap_cons, List.length_append, e2, f2]; omega
theorem unq_back {s : Bs} (h : (unqI s).2 ≠ 0) : s = quoteI (unqI s).1 ++ s.drop (unqI s).2 ∧ (quoteI (unqI s).1).length = (unqI s).2 := by
  cases s with
  | nil => exact absurd rfl h
  | cons a r =>
    unfold unqI at h ⊢
    dsimp only at h ⊢
    split at h
    · rename_i ha
      obtain rfl : a = 34 := UInt8.toNat_inj.1 ha
      rw [if_pos ha]
      cases hg : unqG r with
      | none => rw [hg] at h; exact absurd rfl h
      | some y =>
        obtain ⟨f1, f2⟩ := unqG_back r.length r y.1 y.2 (Nat.le_refl _) hg
        rw [Nat.add_comm] at f2
        simp only [finQ, List.nil_append]
        refine ⟨?_, ?_⟩
        · unfold quoteI
          rw [show 1 + y.2 = y.2 + 1 from Nat.add_comm _ _, List.drop_succ_cons, List.cons_append, List.append_assoc, List.singleton_append, ← f1]
        · unfold quoteI
          rw [List.length_cons, List.length_append, List.length_singleton]
          omega
    · exact absurd rfl h
/-- How a field stands in a line. -/
def wordOf (f : Fld) : Bs := if f.2 = true then quoteI f.1 else f.1
def goodF (f : Fld) : Bool := f.2 || bareI f.1
def lineI : List Fld → Bs
  | [] => []
  | f :: r => wordOf f ++ (match r with
    | [] => []
    | g :: r' => 32 :: lineI (g :: r'))
theorem lineI_one (f : Fld) : lineI [f] = wordOf f := by simp [lineI]
theorem lineI_more (f g : Fld) (r : List Fld) : lineI (f :: g :: r) = wordOf f ++ 32 :: lineI (g :: r) := by rw [lineI]
theorem bare_spec {l : Bs} (h : bareI l = true) : l ≠ [] ∧ ∀ c ∈ l, plainC c = true ∧ c.toNat ≠ 32 := by
  unfold bareI at h
  rw [Bool.and_eq_true] at h
  refine ⟨of_decide_eq_true h.1, fun c hc => ?_⟩
  have := List.all_eq_true.1 h.2 c hc
  rw [Bool.and_eq_true] at this
  exact ⟨this.1, of_decide_eq_true this.2⟩
theorem word_ne {f : Fld} (h : goodF f = true) : wordOf f ≠ [] := by
  unfold wordOf
  split
  · exact fun e => nomatch e
  · rename_i hq
    unfold goodF at h
    rw [Bool.or_eq_true] at h
    exact (bare_spec (h.resolve_left hq)).1
theorem wordI_app {l r : Bs} (h : ∀ c ∈ l, c.toNat ≠ 32) (hr : r = [] ∨ ∃ t, r = 32 :: t) : wordI (l ++ r) = l := by
  unfold wordI
  rw [List.takeWhile_append_of_pos (fun c hc => decide_eq_true (h c hc))]
  rcases hr with rfl | ⟨t, rfl⟩
  · simp
  · rw [List.takeWhile_cons, if_neg (by decide)]
    simp
theorem unq_bare {l r : Bs} (h : bareI l = true) : (unqI (l ++ r)).2 = 0 := by
  obtain ⟨h1, h2⟩ := bare_spec h
  cases l with
  | nil => exact absurd rfl h1
  | cons c t =>
    have := (of_decide_eq_true (h2 c (List.mem_cons_self ..)).1).2.2.1
    show (if c.toNat = 34 then _ else ([], 0) : Bs × Nat).2 = 0
    rw [if_neg this]
theorem field_word {f : Fld} (h : goodF f = true) {r : Bs} (hr : r = [] ∨ ∃ t, r = 32 :: t) : fieldI (wordOf f ++ r) = some (f, (wordOf f).length) := by
  obtain ⟨x, q⟩ := f
  cases q with
  | true =>
    show fieldI (quoteI x ++ r) = some ((x, true), (quoteI x).length)
    unfold fieldI
    rw [unq_quote, if_pos (show (quoteI x).length ≠ 0 from fun e => nomatch e)]
  | false =>
    have hb : bareI x = true := h
    show fieldI (x ++ r) = some ((x, false), x.length)
    unfold fieldI
    rw [if_neg (fun k => k (unq_bare hb)), wordI_app (fun c hc => ((bare_spec hb).2 c hc).2) hr, if_pos hb]
/-- The fields of a line that was written are these. -/
theorem fields_line : ∀ {l : List Fld}, l ≠ [] → (∀ f ∈ l, goodF f = true) → fieldsI (lineI l) = some l
  | [], h, _ => absurd rfl h
  | [f], _, hg => by
    have h1 := field_word (hg f (List.mem_cons_self ..)) (r := []) (.inl rfl)
    rw [List.append_nil] at h1
    rw [lineI_one, fieldsI_end h1 (Nat.le_refl _)]
  | f :: g :: r, _, hg => by
    have h1 := field_word (hg f (List.mem_cons_self ..)) (r := 32 :: lineI (g :: r)) (.inr ⟨_, rfl⟩)
    have h2 := fields_line (l := g :: r) (by simp) (fun x hx => hg x (List.mem_cons_of_mem _ hx))
    have h3 : (wordOf f ++ 32 :: lineI (g :: r)).drop ((wordOf f).length + 1) = lineI (g :: r) := by rw [← List.drop_drop, List.drop_left]; rfl
    rw [lineI_more, fieldsI_at h1 (by simp)]
    dsimp only
    rw [h3, h2, show ((wordOf f ++ 32 :: lineI (g :: r)).getD (wordOf f).length 0) = 32 from by simp [List.getD_eq_getElem?_getD]]
    rfl
theorem field_back {s : Bs} {f : Fld} {n : Nat} (h : fieldI s = some (f, n)) : s = wordOf f ++ s.drop n ∧ (wordOf f).length = n ∧ goodF f = true := by
  unfold fieldI at h
  split at h
  · rename_i hn
    cases h
    obtain ⟨h1, h2⟩ := unq_back hn
    exact ⟨h1, h2, rfl⟩
  · split at h
    · rename_i hb
      cases h
      refine ⟨?_, rfl, hb⟩
      show s = wordI s ++ s.drop (wordI s).length
      have := List.takeWhile_append_dropWhile (p := notSp) (l := s)
      conv => lhs; rw [← this]
      unfold wordI
      congr 1
      conv => rhs; rw [← this]
      rw [List.drop_append_of_le_length (by simp [this])]
      simp [this]
    · cases h
/-- The line of the fields that were read is what was read. -/
theorem line_fields : ∀ (n : Nat) (s : Bs) (l : List Fld), s.length ≤ n → fieldsI s = some l → lineI l = s ∧ l ≠ [] ∧ ∀ f ∈ l, goodF f = true
  | n, s, l, hn, h => by
    cases hf : fieldI s with
    | none => rw [fieldsI_no hf] at h; cases h
    | some y =>
      obtain ⟨f, k⟩ := y
      obtain ⟨h1, h2, h3⟩ := field_back hf
      have hw := word_ne h3
      rcases Nat.lt_or_ge k s.length with hk | hk
      · rw [fieldsI_at hf hk] at h
        split at h
        · cases h
        · rename_i hc
          have hc : (s.getD k 0).toNat = 32 := Decidable.not_not.1 hc
          cases hr : fieldsI (s.drop (k + 1)) with
          | none => rw [hr] at h; cases h
          | some l' =>
            rw [hr] at h
            cases h
            cases n with
            | zero => omega
            | succ n =>
              obtain ⟨g1, g2, g3⟩ := line_fields n (s.drop (k + 1)) l' (by rw [List.length_drop]; omega) hr
              refine ⟨?_, by simp, fun x hx => ?_⟩
              · cases l' with
                | nil => exact absurd rfl g2
                | cons g r =>
                  rw [lineI_more, g1]
                  conv => rhs; rw [h1, drop_at hk]
                  rw [show s.getD k 0 = 32 from UInt8.toNat_inj.1 hc]
              · rcases List.mem_cons.1 hx with rfl | hx
                · exact h3
                · exact g3 x hx
      · rw [fieldsI_end hf hk] at h
        cases h
        refine ⟨?_, by simp, fun x hx => ?_⟩
        · rw [lineI_one]
          conv => rhs; rw [h1, List.drop_of_length_le hk]
          simp
        · rcases List.mem_cons.1 hx with rfl | hx
          · exact h3
          · cases hx
def joinI (l : List Fld) : Bs × Int := if 64 < l.length ∨ l.any longF = true then ([], 3) else if l.all goodF = false then ([], 6) else if 8192 < (lineI l).length then ([], 3) else (lineI l, 0)
theorem line_nil {l : List Fld} (hg : ∀ f ∈ l, goodF f = true) (h : lineI l = []) : l = [] := by
  cases l with
  | nil => rfl
  | cons f r =>
    have hw := word_ne (hg f (List.mem_cons_self ..))
    cases r with
    | nil => rw [lineI_one] at h; exact absurd h hw
    | cons g r => rw [lineI_more] at h; exact absurd (List.append_eq_nil_iff.1 h).1 hw
theorem split_join {l : List Fld} {t : Bs} (h : joinI l = (t, 0)) : splitI t = (l, 0) := by
  unfold joinI at h
  split at h
  · cases h
  · rename_i h1
    split at h
    · cases h
    · rename_i h2
      split at h
      · cases h
      · rename_i h3
        injection h with e1 _
        subst e1
        have hg : ∀ f ∈ l, goodF f = true := fun f hf => List.all_eq_true.1 (by simpa using h2) f hf
        unfold splitI
        rw [if_neg h3]
        by_cases h0 : lineI l = []
        · rw [if_pos h0, line_nil hg h0]
        · have hl : l ≠ [] := fun e => h0 (by rw [e]; rfl)
          rw [if_neg h0, fields_line hl hg]
          dsimp only
          rw [if_neg (fun k => h1 k.symm)]
theorem join_split {s : Bs} {l : List Fld} (h : splitI s = (l, 0)) : joinI l = (s, 0) := by
  unfold splitI at h
  split at h
  · cases h
  · rename_i h1
    split at h
    · rename_i h2
      cases h
      subst h2
      rfl
    · split at h
      · cases h
      · rename_i fs hf
        split at h
        · cases h
        · rename_i h3
          cases h
          obtain ⟨g1, g2, g3⟩ := line_fields s.length s l (Nat.le_refl _) hf
          unfold joinI
          rw [if_neg (fun k => h3 k.symm), List.all_eq_true.2 g3, if_neg (by decide), g1, if_neg h1]
end Go.Proofs.YtmeapfckibbbbaaGreatDoor.Wo
/- The words as plain functions of bytes: lists and their expressions are inverse to each other. No program is named. -/
namespace Go.Proofs.YtmeapfckibbbbaaGreatDoor.Wo
def upN (x : Int) : Nat → List Int
  | 0 => [x]
  | n + 1 => x :: upN (x + 1) n
theorem runN_up (x n : Nat) : (List.range (n + 1)).map (fun i => ((x + i : Nat) : Int)) = upN x n := by
  induction n generalizing x with
  | zero => rfl
  | succ n ih =>
    rw [List.range_succ_eq_map, List.map_cons, List.map_map]
    show _ :: _ = _ :: upN _ n
    rw [show ((x : Int) + 1) = ((x + 1 : Nat) : Int) from by omega, ← ih (x + 1)]
    congr 1
    refine List.map_congr_left fun i _ => ?_
    show ((x + (i + 1) : Nat) : Int) = _
    rw [show x + (i + 1) = x + 1 + i by omega]
theorem runN_eq {q : Nat × Nat} (h : q.1 ≤ q.2) : runN q = upN q.1 (q.2 - q.1) := by
  unfold runN
  rw [show q.2 + 1 - q.1 = (q.2 - q.1) + 1 by omega, runN_up]
def ascL : List Int → Prop
  | [] => True
  | [_] => True
  | a :: b :: r => a < b ∧ ascL (b :: r)
theorem asc_iff (l : List Int) : ascL l ↔ ∀ k, k + 1 < l.length → l.getD k 0 < l.getD (k + 1) 0 := by
  induction l with
  | nil => exact ⟨fun _ k h => absurd h (Nat.not_lt_zero _), fun _ => trivial⟩
  | cons a r ih =>
    cases r with
    | nil => exact ⟨fun _ k h => absurd h (by simp), fun _ => trivial⟩
    | cons b r =>
      show (a < b ∧ ascL (b :: r)) ↔ _
      rw [ih]
      constructor
      · rintro ⟨h1, h2⟩ k hk
        cases k with
        | zero => exact h1
        | succ k => exact h2 k (by simpa using hk)
      · intro h
        exact ⟨h 0 (by simp), fun k hk => h (k + 1) (by simpa using hk)⟩
theorem form_asc (l : List Int) : formI l l.length = 0 ↔ ascL l := by
  rw [asc_iff]
  constructor
  · intro h k hk
    refine Decidable.byContradiction fun hn => ?_
    have := formI_bad (l := l) (k := k + 1) (Nat.succ_pos _) (by rw [Nat.add_sub_cancel]; omega) l.length hk
    rw [h] at this
    cases this
  · intro h
    have key : ∀ n, n ≤ l.length → formI l n = 0 := by
      intro n
      induction n with
      | zero => intro _; rfl
      | succ n ih =>
        intro hn
        unfold formI
        rw [if_neg (fun k => ?_), ih (by omega)]
        have := h (n - 1) (by omega)
        rw [show n - 1 + 1 = n by omega] at this
        omega
    exact key _ (Nat.le_refl _)
theorem asc_up {t : List Int} (h : ascL t) : ∀ (n : Nat) (x : Int), (∀ b ∈ t.head?, x + n < b) → ascL (upN x n ++ t)
  | 0, x, hb => by
    cases t with
    | nil => trivial
    | cons b r => exact ⟨by have := hb b rfl; simpa using this, h⟩
  | n + 1, x, hb => by
    have ih := asc_up h n (x + 1) (fun b h' => by have := hb b h'; omega)
    cases n with
    | zero => exact ⟨by omega, ih⟩
    | succ n => exact ⟨by omega, ih⟩
theorem runG_up {t : List Int} : ∀ (n : Nat) (x : Int), (∀ b ∈ t.head?, b ≠ x + n + 1) → ∃ r, upN x n ++ t = x :: r ∧ runG x r = n ∧ r.drop n = t
  | 0, x, hb => by
    refine ⟨t, rfl, ?_, rfl⟩
    cases t with
    | nil => rfl
    | cons b r => rw [runG, if_neg (by have := hb b rfl; simpa using this)]
  | n + 1, x, hb => by
    obtain ⟨r, h1, h2, h3⟩ := runG_up (t := t) n (x + 1) (fun b h' => by have := hb b h'; omega)
    refine ⟨(x + 1) :: r, ?_, ?_, h3⟩
    · rw [← h1]; rfl
    · rw [runG, if_pos rfl, h2]
/-- Runs that stand apart. -/
def goodR : List (Nat × Nat) → Prop
  | [] => True
  | [q] => q.1 ≤ q.2
  | q :: p :: r => q.1 ≤ q.2 ∧ q.2 + 1 < p.1 ∧ goodR (p :: r)
def runT (q : Nat × Nat) : Bs := runS q.1 (q.2 - q.1)
def joinR : List (Nat × Nat) → Bs
  | [] => []
  | q :: r => runT q ++ (match r with
    | [] => []
    | p :: r' => 44 :: joinR (p :: r'))
theorem goodR_one {q : Nat × Nat} {r : List (Nat × Nat)} (h : goodR (q :: r)) : q.1 ≤ q.2 ∧ goodR r ∧ ∀ p ∈ r.head?, q.2 + 1 < p.1 := by
  cases r with
  | nil => exact ⟨h, trivial, fun p hp => nomatch hp⟩
  | cons p r => exact ⟨h.1, h.2.2, fun x hx => by cases hx; exact h.2.1⟩
theorem flat_cons (q : Nat × Nat) (r : List (Nat × Nat)) : flatR (q :: r) = runN q ++ flatR r := by simp [flatR]
theorem flat_head {q : Nat × Nat} {r : List (Nat × Nat)} (h : q.1 ≤ q.2) : (flatR (q :: r)).head? = some (q.1 : Int) := by
  rw [flat_cons, runN_eq h]
  cases q.2 - q.1 <;> rfl
theorem flat_asc : ∀ {R : List (Nat × Nat)}, goodR R → ascL (flatR R)
  | [], _ => trivial
  | q :: r, h => by
    obtain ⟨h1, h2, h3⟩ := goodR_one h
    rw [flat_cons, runN_eq h1]
    refine asc_up (flat_asc h2) _ _ fun b hb => ?_
    cases r with
    | nil => cases hb
    | cons p r =>
      rw [flat_head (goodR_one h2).1] at hb
      have := h3 p rfl
      cases hb
      omega
theorem list_flat : ∀ {R : List (Nat × Nat)}, goodR R → listX (flatR R) = joinR R
  | [], _ => by rw [show flatR [] = [] from rfl, listX]; rfl
  | q :: r, h => by
    obtain ⟨h1, h2, h3⟩ := goodR_one h
    have hb : ∀ b ∈ (flatR r).head?, b ≠ (q.1 : Int) + ((q.2 - q.1 : Nat) : Int) + 1 := fun b hb => by
      cases r with
      | nil => cases hb
      | cons p r =>
        rw [flat_head (goodR_one h2).1] at hb
        have := h3 p rfl
        cases hb
        omega
    obtain ⟨t, g1, g2, g3⟩ := runG_up (t := flatR r) (q.2 - q.1) q.1 hb
    have ih := list_flat h2
    rw [flat_cons, runN_eq h1, g1, listG_cons, g2, g3]
    cases r with
    | nil => rfl
    | cons p r =>
      show runT q ++ tailG (flatR (p :: r)) = runT q ++ 44 :: joinR (p :: r)
      congr 1
      have hh := flat_head (r := r) (goodR_one h2).1
      cases hf : flatR (p :: r) with
      | nil => rw [hf] at hh; cases hh
      | cons a s =>
        show 44 :: listX (a :: s) = 44 :: joinR (p :: r)
        rw [← hf, ih]
/-- The runs of numbers that ascend. -/
theorem runs_of : ∀ (n : Nat) (l : List Int), l.length ≤ n → ascL l → (∀ a ∈ l, 0 ≤ a) → ∃ R, goodR R ∧ flatR R = l
  | _, [], _, _, _ => ⟨[], trivial, rfl⟩
  | 0, a :: r, h, _, _ => by simp at h
  | n + 1, a :: r, h, hs, h0 => by
    have ha := h0 a (List.mem_cons_self ..)
    have key : ∀ (r : List Int) (a : Int), ascL (a :: r) → ∃ t, a :: r = upN a (runG a r) ++ t ∧ t.length ≤ r.length ∧ ascL t ∧ (∀ x ∈ t, x ∈ r) ∧ ∀ b ∈ t.head?, a + (runG a r : Nat) + 1 < b := by
      intro r
      induction r with
      | nil => exact fun a _ => ⟨[], rfl, Nat.le_refl _, trivial, fun x hx => hx, fun b hb => nomatch hb⟩
      | cons b r ih =>
        intro a hs
        by_cases hb : b = a + 1
        · subst hb
          obtain ⟨t, g1, g2, g3, g4, g5⟩ := ih (a + 1) hs.2
          refine ⟨t, ?_, by simp; omega, g3, fun x hx => List.mem_cons_of_mem _ (g4 x hx), fun y hy => ?_⟩
          · rw [runG, if_pos rfl]
            show a :: ((a + 1) :: r) = a :: (upN (a + 1) (runG (a + 1) r) ++ t)
            rw [← g1]
          · rw [runG, if_pos rfl]
            have := g5 y hy
            omega
        · refine ⟨b :: r, ?_, Nat.le_refl _, hs.2, fun x hx => hx, fun y hy => ?_⟩
          · rw [runG, if_neg hb]; rfl
          · cases hy
            rw [runG, if_neg hb]
            have := hs.1
            omega
    obtain ⟨t, g1, g2, g3, g4, g5⟩ := key r a hs
    obtain ⟨R, k1, k2⟩ := runs_of n t (by simp at h; omega) g3 (fun x hx => h0 x (List.mem_cons_of_mem _ (g4 x hx)))
    have e1 : ((a.toNat : Nat) : Int) = a := by omega
    refine ⟨(a.toNat, a.toNat + runG a r) :: R, ?_, ?_⟩
    · cases R with
      | nil => show a.toNat ≤ a.toNat + runG a r; omega
      | cons p R =>
        refine ⟨by dsimp only; omega, ?_, k1⟩
        have := flat_head (r := R) (goodR_one k1).1
        rw [k2] at this
        have := g5 _ this
        dsimp only
        omega
    · rw [flat_cons, runN_eq (by dsimp only; omega), k2]
      dsimp only
      rw [e1, Nat.add_sub_cancel_left, ← g1]
theorem dec_no {n : Nat} {c : UInt8} (hc : c.toNat < 48) : ∀ x ∈ Lib.itoa (n : Int), x ≠ c := fun x hx e => by
  have := (itoa_nat n).1.all x hx
  subst e
  omega
theorem runT_no (q : Nat × Nat) : ∀ x ∈ runT q, x ≠ 44 := by
  intro x hx
  unfold runT runS at hx
  rcases List.mem_append.1 hx with hx | hx
  · exact dec_no (by decide) x hx
  · split at hx
    · cases hx
    · rcases List.mem_cons.1 hx with rfl | hx
      · decide
      · rw [show ((q.1 : Int) + ((q.2 - q.1 : Nat) : Int)) = ((q.1 + (q.2 - q.1) : Nat) : Int) from by omega] at hx
        exact dec_no (by decide) x hx
theorem run_runT {q : Nat × Nat} (h : q.1 ≤ q.2) : runI (runT q) = some q := by
  obtain ⟨x, y⟩ := q
  dsimp only at h
  unfold runT runS
  dsimp only
  obtain ⟨d1, d2⟩ := itoa_nat x
  rw [run_parts]
  by_cases hxy : y - x = 0
  · rw [if_pos hxy, List.append_nil, partsI, parts_miss (dec_no (by decide)), List.nil_append]
    dsimp only
    rw [if_pos (dgs_iff.2 d1), d2]
    congr 2
    omega
  · obtain ⟨e1, e2⟩ := itoa_nat y
    rw [if_neg hxy, show ((x : Int) + ((y - x : Nat) : Int)) = (y : Int) from by omega, partsI, parts_hit (dec_no (by decide)), partsI, parts_miss (dec_no (by decide)), List.nil_append, List.nil_append]
    dsimp only
    rw [if_pos ⟨dgs_iff.2 d1, dgs_iff.2 e1, by omega⟩, d2, e2]
theorem runT_run {p : Bs} {q : Nat × Nat} (h : runI p = some q) : runT q = p := by
  unfold runI at h
  rcases cutB_c 45 p with ⟨h1, h2⟩ | ⟨i, h1, h2, h3, h4⟩
  · rw [h1] at h
    dsimp only at h
    rw [if_pos rfl] at h
    split at h
    · rename_i hd
      cases h
      unfold runT runS
      dsimp only
      rw [Nat.sub_self, if_pos rfl, List.append_nil, nat_itoa (dgs_iff.1 hd)]
    · cases h
  · rw [h1] at h
    dsimp only at h
    rw [if_neg (by decide)] at h
    split at h
    · rename_i hd
      obtain ⟨d1, d2, d3⟩ := hd
      cases h
      unfold runT runS
      dsimp only
      rw [if_neg (by omega), nat_itoa (dgs_iff.1 d1), show ((natI (p.take i) : Int) + ((natI (p.drop (i + 1)) - natI (p.take i) : Nat) : Int)) = (natI (p.drop (i + 1)) : Int) from by omega, nat_itoa (dgs_iff.1 d2)]
      exact h4.symm
    · cases h
theorem parts_join : ∀ {R : List (Nat × Nat)}, R ≠ [] → partsI 44 (joinR R) = R.map runT
  | [], h => absurd rfl h
  | [q], _ => by
    show partsI 44 (runT q ++ []) = _
    rw [List.append_nil, partsI, parts_miss (runT_no q)]; rfl
  | q :: p :: r, _ => by
    show partsI 44 (runT q ++ 44 :: joinR (p :: r)) = _
    rw [partsI, parts_hit (runT_no q), parts_join (R := p :: r) (by simp)]; rfl
theorem join_parts : ∀ (n : Nat) (s : Bs) (R : List (Nat × Nat)), s.length ≤ n → partsI 44 s = R.map runT → joinR R = s
  | n, s, R, hn, h => by
    rcases index_c 44 s with ⟨h1, h2⟩ | ⟨i, h1, h2, h3, h4⟩
    · rw [partsI, parts_miss h2, List.nil_append] at h
      cases R with
      | nil => cases h
      | cons q r =>
        cases r with
        | nil =>
          injection h with h5 _
          show runT q ++ [] = s
          rw [List.append_nil, h5]
        | cons p r => cases h
    · have h5 : partsI 44 s = s.take i :: partsI 44 (s.drop (i + 1)) := by
        conv => lhs; rw [h4]
        rw [partsI, parts_hit h3, List.nil_append]
      rw [h5] at h
      cases R with
      | nil => cases h
      | cons q r =>
        injection h with h6 h7
        cases n with
        | zero => omega
        | succ n =>
          have ih := join_parts n (s.drop (i + 1)) r (by rw [List.length_drop]; omega) h7
          cases r with
          | nil => exact absurd h7 (parts_ne _ _ _)
          | cons p r =>
            show runT q ++ 44 :: joinR (p :: r) = s
            rw [ih, ← h6]
            exact h4.symm
theorem runs_join : ∀ {R : List (Nat × Nat)} {last : Option Nat}, goodR R → (∀ q ∈ R.head?, afterI last q.1 = true) → runsI last (R.map runT) = some R
  | [], _, _, _ => rfl
  | q :: r, last, h, ha => by
    obtain ⟨h1, h2, h3⟩ := goodR_one h
    rw [List.map_cons, runsI, run_runT h1]
    dsimp only
    rw [if_pos (ha q rfl), runs_join (last := some q.2) h2 fun p hp => by show decide (q.2 + 1 < p.1) = true; exact decide_eq_true (h3 p hp)]
    rfl
theorem join_runs : ∀ {ps : List Bs} {last : Option Nat} {R : List (Nat × Nat)}, runsI last ps = some R → ps = R.map runT ∧ goodR R ∧ ∀ q ∈ R.head?, afterI last q.1 = true
  | [], _, R, h => by cases h; exact ⟨rfl, trivial, fun q hq => nomatch hq⟩
  | p :: ps, last, R, h => by
    rw [runsI] at h
    split at h
    · cases h
    · rename_i x y hr
      split at h
      · rename_i hl
        cases hR : runsI (some y) ps with
        | none => rw [hR] at h; cases h
        | some R' =>
          rw [hR] at h
          cases h
          obtain ⟨g1, g2, g3⟩ := join_runs hR
          have hxy := run_le hr
          refine ⟨?_, ?_, fun q hq => by cases hq; exact hl⟩
          · rw [List.map_cons, runT_run hr, ← g1]
          · cases R' with
            | nil => exact hxy
            | cons z zs => exact ⟨hxy, of_decide_eq_true (g3 z rfl), g2⟩
      · cases h
theorem last_mem : ∀ {R : List (Nat × Nat)}, goodR R → R ≠ [] → ((lastR R : Nat) : Int) ∈ flatR R
  | [], _, h => absurd rfl h
  | [q], h, _ => by
    show (q.2 : Int) ∈ flatR [q]
    rw [flat_cons]
    have h : q.1 ≤ q.2 := h
    refine List.mem_append.2 (.inl (List.mem_map.2 ⟨q.2 - q.1, List.mem_range.2 (by omega), by rw [show q.1 + (q.2 - q.1) = q.2 by omega]⟩))
  | q :: p :: r, h, _ => by
    rw [flat_cons]
    exact List.mem_append.2 (.inr (last_mem (R := p :: r) h.2.2 (by simp)))
theorem join_head {q : Nat × Nat} {r : List (Nat × Nat)} : joinR (q :: r) ≠ [45] := by
  have h1 := (itoa_nat q.1).1
  cases hi : Lib.itoa (q.1 : Int) with
  | nil => exact absurd hi h1.ne
  | cons c t =>
    intro e
    unfold joinR runT runS at e
    rw [hi] at e
    have hc := h1.all c (by rw [hi]; exact List.mem_cons_self ..)
    rw [List.cons_append, List.cons_append] at e
    injection e with e _
    subst e
    revert hc
    decide
/-- What is written of a list is read as it. -/
theorem parse_list {l : List Int} {w : Bs} (h : listI l = (w, 0)) : parseI w = (l, 0) := by
  unfold listI at h
  split at h
  · cases h
  · rename_i h1
    split at h
    · cases h
    · rename_i h2
      split at h
      · cases h
      · rename_i h3
        split at h
        · rename_i h4
          subst h4
          cases h
          rfl
        · rename_i h4
          cases h
          have h2 : ∀ a ∈ l, 0 ≤ a ∧ a ≤ 1000000000 := fun a ha => of_decide_eq_true (List.all_eq_true.1 (Bool.not_eq_false _ ▸ h2 : l.all okN = true) a ha)
          have h3 := (form_asc l).1 (Decidable.not_not.1 h3)
          obtain ⟨R, k1, k2⟩ := runs_of l.length l (Nat.le_refl _) h3 fun a ha => (h2 a ha).1
          have hR : R ≠ [] := fun e => h4 (by rw [← k2, e]; rfl)
          rw [← k2, list_flat k1]
          unfold parseI
          cases R with
          | nil => exact absurd rfl hR
          | cons q r =>
            rw [if_neg join_head, parts_join hR, runs_join k1 fun _ _ => rfl]
            dsimp only
            have hm := last_mem k1 hR
            rw [k2] at hm
            have := (h2 _ hm).2
            rw [if_neg (by omega), k2, if_neg h1]
theorem flat_ok {R : List (Nat × Nat)} (h : ∀ q ∈ R, q.1 ≤ q.2 ∧ q.2 ≤ lastR R) (hl : lastR R ≤ 1000000000) : (flatR R).all okN = true := by
  rw [List.all_eq_true]
  intro a ha
  obtain ⟨q, hq, ha⟩ := List.mem_flatMap.1 ha
  obtain ⟨i, hi, rfl⟩ := List.mem_map.1 ha
  have := List.mem_range.1 hi
  have := h q hq
  exact decide_eq_true ⟨by omega, by omega⟩
/-- What is read as a list is what is written of it. -/
theorem list_parse {s : Bs} {m : List Int} (h : parseI s = (m, 0)) : listI m = (s, 0) := by
  unfold parseI at h
  split at h
  · rename_i h0
    cases h
    rw [h0]; rfl
  · split at h
    · cases h
    · rename_i R hR
      split at h
      · cases h
      · rename_i h1
        split at h
        · cases h
        · rename_i h2
          cases h
          obtain ⟨g1, g2, _⟩ := join_runs hR
          have hne : R ≠ [] := fun e => parts_ne 44 s [] (by have g1 : partsG 44 [] s = _ := g1; rw [g1, e]; rfl)
          unfold listI
          rw [if_neg h2, flat_ok (runs_le hR) (by omega), if_neg (by decide), if_neg (fun k => k ((form_asc _).2 (flat_asc g2))), if_neg (fun e => ?_), list_flat g2, join_parts s.length s R (Nat.le_refl _) g1]
          have := last_mem g2 hne
          rw [e] at this
          cases this
end Go.Proofs.YtmeapfckibbbbaaGreatDoor.Wo
/- The words as plain functions of bytes: a line of fields, put together. No program is named. -/
namespace Go.Proofs.YtmeapfckibbbbaaGreatDoor.Wo
theorem line_join (l : List Fld) : lineI l = Go.Lib.join (l.map wordOf) [32] := by
  induction l with
  | nil => rfl
  | cons f r ih =>
    cases r with
    | nil => rw [lineI_one, List.map_cons, List.map_nil, Go.Lib.join_one]
    | cons g r =>
      rw [lineI_more, ih]
      simp only [List.map_cons]
      rw [Go.Lib.join_cons, Go.Lib.join_cons]
      simp [Go.Lib.joinTail]
theorem word_len {f : Fld} (h : longF f = false) : (wordOf f).length ≤ 8002 := by
  have h : f.1.length ≤ 2000 := Nat.le_of_not_lt (of_decide_eq_false h)
  unfold wordOf
  split
  · unfold quoteI
    have := escs_len f.1
    rw [List.length_cons, List.length_append, List.length_singleton]
    omega
  · omega
theorem line_len : ∀ {l : List Fld}, (∀ f ∈ l, longF f = false) → (lineI l).length ≤ 8003 * l.length
  | [], _ => Nat.le_refl _
  | [f], h => by
    rw [lineI_one]
    have := word_len (h f (List.mem_cons_self ..))
    simp; omega
  | f :: g :: r, h => by
    have h1 := word_len (h f (List.mem_cons_self ..))
    have h2 := line_len (l := g :: r) fun x hx => h x (List.mem_cons_of_mem _ hx)
    rw [lineI_more, List.length_append, List.length_cons, List.length_cons (as := g :: r)]
    omega
def formF (l : List Fld) : Int := if l.all goodF = true then 0 else 6
theorem takeF {l : List Fld} {q : Nat} (h : q < l.length) : l.take (q + 1) = l.take q ++ [l.getD q ([], false)] := by
  rw [List.take_add_one, List.getD_eq_getElem?_getD, List.getElem?_eq_getElem h]
  rfl
theorem formF_good {l : List Fld} {f : Fld} (h : goodF f = true) : formF (l ++ [f]) = formF l := by
  unfold formF
  rw [List.all_append, List.all_cons, List.all_nil, h, Bool.and_true, Bool.and_true]
theorem formF_bad {l : List Fld} {f : Fld} (h : goodF f = false) : formF (l ++ [f]) = 6 := by
  unfold formF
  rw [List.all_append, List.all_cons, List.all_nil, h, Bool.false_and, Bool.and_false]
  rfl
theorem long_any {l : List Fld} {q : Nat} (hq : q < l.length) (h : 2000 < (l.getD q ([], false)).1.length) : l.any longF = true := by
  rw [List.any_eq_true]
  refine ⟨l[q], List.getElem_mem hq, ?_⟩
  rw [List.getD_eq_getElem?_getD, List.getElem?_eq_getElem hq] at h
  exact decide_eq_true h
theorem short_all {l : List Fld} (h : ∀ k, k < l.length → (l.getD k ([], false)).1.length ≤ 2000) : l.any longF = false := by
  rw [List.any_eq_false]
  intro x hx
  obtain ⟨i, hi, rfl⟩ := List.mem_iff_getElem.1 hx
  have := h i hi
  rw [List.getD_eq_getElem?_getD, List.getElem?_eq_getElem hi] at this
  unfold longF
  simpa using this
end Go.Proofs.YtmeapfckibbbbaaGreatDoor.Wo
/- The words as plain functions of bytes: the nines at the end of a decimal form. No program is named. -/
namespace Go.Proofs.YtmeapfckibbbbaaGreatDoor.Wo
abbrev nineC (c : UInt8) : Bool := decide (c.toNat = 57)
/-- How many nines stand at the end. -/
def nines (l : Bs) : Nat := (l.reverse.takeWhile nineC).length
theorem nines_some {p : Bs} {x : UInt8} (k : Nat) (hx : x.toNat ≠ 57) : nines (p ++ [x] ++ List.replicate k 57) = k := by
  unfold nines
  rw [List.reverse_append, List.reverse_replicate, List.takeWhile_append_of_pos (fun c hc => by rw [List.eq_of_mem_replicate hc]; decide), List.reverse_append]
  simp [List.takeWhile_cons, hx]
theorem nines_all (k : Nat) : nines (List.replicate k 57) = k := by
  unfold nines
  rw [List.reverse_replicate, List.takeWhile_replicate, if_pos (by decide)]
  simp
theorem tail_nine {l : Bs} {i : Nat} (h : ∀ k, i ≤ k → k < l.length → (l.getD k 0).toNat = 57) : l.drop i = List.replicate (l.length - i) 57 := by
  refine List.ext_getElem (by simp) fun j h1 h2 => ?_
  rw [List.length_drop] at h1
  have := h (i + j) (by omega) (by omega)
  rw [List.getD_eq_getElem?_getD, List.getElem?_eq_getElem (by omega)] at this
  rw [List.getElem_drop, List.getElem_replicate]
  exact UInt8.toNat_inj.1 this
theorem nines_at {l : Bs} {i : Nat} (hi : i < l.length) (hx : (l.getD i 0).toNat ≠ 57) (h : ∀ k, i + 1 ≤ k → k < l.length → (l.getD k 0).toNat = 57) : nines l = l.length - 1 - i ∧ l = l.take i ++ [l.getD i 0] ++ List.replicate (nines l) 57 := by
  have ht := tail_nine h
  have hl : l = l.take i ++ [l.getD i 0] ++ List.replicate (l.length - (i + 1)) 57 := by
    rw [← ht, List.append_assoc, List.singleton_append, ← drop_at hi, List.take_append_drop]
  have hn : nines l = l.length - (i + 1) := by
    conv => lhs; rw [hl]
    exact nines_some _ hx
  refine ⟨by omega, ?_⟩
  rw [hn]
  exact hl
theorem nines_none {l : Bs} (h : ∀ k, k < l.length → (l.getD k 0).toNat = 57) : nines l = l.length ∧ l = List.replicate (nines l) 57 := by
  have ht := tail_nine (l := l) (i := 0) fun k _ hk => h k hk
  rw [List.drop_zero, Nat.sub_zero] at ht
  have hn : nines l = l.length := by
    conv => lhs; rw [ht]
    exact nines_all _
  exact ⟨hn, by rw [hn]; exact ht⟩
theorem nines_le (l : Bs) : nines l ≤ l.length := by
  unfold nines
  have := (List.takeWhile_sublist nineC (l := l.reverse)).length_le
  rw [List.length_reverse] at this
  exact this
/-- What a form is, of the nines at its end. -/
theorem nines_form (l : Bs) : (nines l = l.length ∧ l = List.replicate (nines l) 57) ∨ (nines l < l.length ∧ (l.getD (l.length - 1 - nines l) 0).toNat ≠ 57 ∧ l = l.take (l.length - 1 - nines l) ++ [l.getD (l.length - 1 - nines l) 0] ++ List.replicate (nines l) 57) := by
  have key : ∀ n, n ≤ l.length → (∀ k, n ≤ k → k < l.length → (l.getD k 0).toNat = 57) → (nines l = l.length ∧ l = List.replicate (nines l) 57) ∨ (nines l < l.length ∧ (l.getD (l.length - 1 - nines l) 0).toNat ≠ 57 ∧ l = l.take (l.length - 1 - nines l) ++ [l.getD (l.length - 1 - nines l) 0] ++ List.replicate (nines l) 57) := by
    intro n
    induction n with
    | zero => exact fun _ h => .inl (nines_none fun k hk => h k (Nat.zero_le _) hk)
    | succ n ih =>
      intro hn h
      by_cases hx : (l.getD n 0).toNat = 57
      · refine ih (by omega) fun k h1 h2 => ?_
        rcases Nat.lt_or_ge n k with h3 | h3
        · exact h k h3 h2
        · obtain rfl : k = n := by omega
          exact hx
      · obtain ⟨h1, h2⟩ := nines_at (by omega) hx h
        have h3 : l.length - 1 - nines l = n := by omega
        refine .inr ⟨by omega, ?_, ?_⟩
        · rw [h3]; exact hx
        · rw [h3]; exact h2
  exact key l.length (Nat.le_refl _) fun k h1 h2 => absurd h1 (by omega)
theorem next_lt {a b n : Bs} (hb : Dgs b) (hn : Dgs n ∧ natI n = natI a + 1) : decide (cmpI n b < 0) = decide (natI a + 1 < natI b) := by
  have := (cmp_spec hn.1 hb).1
  rw [hn.2] at this
  exact decide_eq_decide.2 this
end Go.Proofs.YtmeapfckibbbbaaGreatDoor.Wo
/- The abstract machine: shifts and bits of signed numbers that are not negative. No program is named. -/
namespace Go.Proofs.YtmeapfckibbbbaaGreatDoor.Am
open Go.RowKit Lw
section
variable {P : Program} {K : Nat → Bool} {o : Oper} {st : AS}
theorem m_shlI {t t' : TypeId} {x y : Operand} {z s : Int} {k : IntKind} (ho : o.op = .binOp .shl t x y t') (hx : aop st x = some (.o (.c (.int .i64 z)))) (hy : aop st y = some (.o (.c (.int k s)))) (hs : 0 ≤ s ∧ s ≤ 64) (hz : -9223372036854775808 ≤ z * 2 ^ s.toNat ∧ z * 2 ^ s.toNat ≤ 9223372036854775807) : StepTo P K o st (· = st.put o.dst (.o (.c (.int .i64 (z * 2 ^ s.toNat))))) := by
  intro X S ν a w Q K' hdst sat hk
  have e1 : a.eval x = .int .i64 z := (aop_ok sat hx).1.1
  have e2 : a.eval y = .int k s := (aop_ok sat hy).1.1
  refine wp_value (w' := w) (u := .int .i64 (z * 2 ^ s.toNat)) ?_ (hk _ S ν _ _ rfl (sat.put hdst (v := .o (.c (.int .i64 (z * 2 ^ s.toNat)))) ⟨rfl, rfl⟩ trivial) ⟨Nat.le_refl _, fun _ h => h, fun ch hc hk => ⟨by rw [(AS.put_hp _ _ _).1]; exact hc, rfl⟩, fun _ _ => rfl⟩)
  rw [exec_binOp ho, Sem.run_bind, Sem.run_bind, e1, e2, show (eqGuard .shl t x y (.int .i64 z) (.int k s)).run P w = .ok () w from rfl, Result.andThen_ok]
  have hb : (binOp .shl t (.int .i64 z) (.int k s)).run P w = .ok (.int .i64 (z * 2 ^ s.toNat)) w := by
    show (Op.shift .shl .i64 z k s).run P w = _
    simp only [Op.shift, if_neg (show ¬ s < 0 by omega), Sem.run_pure]
    rw [show IntKind.i64.bits = 64 from rfl, Nat.min_eq_left (show s.toNat ≤ 64 by omega), wrap_i64 hz]
  rw [hb]; rfl
theorem m_orI {t t' : TypeId} {x y : Operand} {z d : Int} (ho : o.op = .binOp .or t x y t') (hx : aop st x = some (.o (.c (.int .i64 z)))) (hy : aop st y = some (.o (.c (.int .i64 d)))) (hz : 0 ≤ z ∧ z < 9223372036854775808) (hd : 0 ≤ d ∧ d < 9223372036854775808) : StepTo P K o st (· = st.put o.dst (.o (.c (.int .i64 ((z.toNat ||| d.toNat : Nat) : Int))))) := by
  intro X S ν a w Q K' hdst sat hk
  have e1 : a.eval x = .int .i64 z := (aop_ok sat hx).1.1
  have e2 : a.eval y = .int .i64 d := (aop_ok sat hy).1.1
  refine wp_value (w' := w) (u := .int .i64 ((z.toNat ||| d.toNat : Nat) : Int)) ?_ (hk _ S ν _ _ rfl (sat.put hdst (v := .o (.c (.int .i64 ((z.toNat ||| d.toNat : Nat) : Int)))) ⟨rfl, rfl⟩ trivial) ⟨Nat.le_refl _, fun _ h => h, fun ch hc hk => ⟨by rw [(AS.put_hp _ _ _).1]; exact hc, rfl⟩, fun _ _ => rfl⟩)
  rw [exec_binOp ho, Sem.run_bind, Sem.run_bind, e1, e2, show (eqGuard .or t x y (.int .i64 z) (.int .i64 d)).run P w = .ok () w from rfl, Result.andThen_ok]
  have hb : (binOp .or t (.int .i64 z) (.int .i64 d)).run P w = .ok (.int .i64 ((z.toNat ||| d.toNat : Nat) : Int)) w := by
    show (Op.intBits .or .i64 z d).run P w = _
    simp only [Op.intBits, Sem.run_pure]
    have h1 : (BitVec.ofInt 64 z).toNat = z.toNat := by
      rw [BitVec.toNat_ofInt]; omega
    have h2 : (BitVec.ofInt 64 d).toNat = d.toNat := by
      rw [BitVec.toNat_ofInt]; omega
    have h3 : z.toNat ||| d.toNat < 2 ^ 63 := Nat.or_lt_two_pow (by omega) (by omega)
    show Result.ok (Value.int .i64 (IntKind.i64.wrap ((BitVec.ofInt 64 z ||| BitVec.ofInt 64 d).toNat : Nat))) w = _
    rw [BitVec.toNat_or, h1, h2, wrap_i64 (by omega)]
  rw [hb]; rfl
end
end Go.Proofs.YtmeapfckibbbbaaGreatDoor.Am
/- The abstract machine: a scope with labels that are jumped to, back and forward. No program is named. -/
namespace Go.Proofs.YtmeapfckibbbbaaGreatDoor.Am
open Go.RowKit Lw
/-- As Q; by a goto to label l: J l. -/
def jumpF (J : Nat → Act → World → Prop) (Q : Exit → Act → World → Prop) : Exit → Act → World → Prop
  | .goto l, a, w => J l a w
  | e, a, w => Q e a w
theorem wp_scope_fam {P : Program} {a : Act} {w : World} {Q : Exit → Act → World → Prop} {ι : Type} {c : Code} (rest : ι → Code) (lab : ι → Nat) (J : ι → Act → World → Prop) (μ : ι → Nat) (hf : ∀ x, findLabel c (lab x) = some (rest x))
    (first : c.wp P (jumpF (fun l a w => ∃ x, lab x = l ∧ J x a w) Q) a w)
    (pass : ∀ x a w, J x a w → (rest x).wp P (jumpF (fun l a' w' => ∃ y, lab y = l ∧ J y a' w' ∧ μ y < μ x) Q) a w) : (Code.scope c).wp P Q a w := by
  intro b k cs
  have hg : ∀ x, gotoIn (lab x) (.inScope c :: k) = some (.code (rest x) :: .inScope c :: k) := fun x => by simp [gotoIn, hf x]
  have key : ∀ n x a w, μ x = n → J x a w → ∃ e a' w', Q e a' w' ∧ Arrives P (lone (b.at a (.code (rest x) :: .inScope c :: k)) cs w) b k cs e a' w' := by
    intro n
    induction n using Nat.strongRecOn with
    | _ n ih =>
      intro x a w hn hJ
      obtain ⟨e, a₁, w₁, hq, harr⟩ := pass x a w hJ b (.inScope c :: k) cs
      cases e with
      | normal => exact ⟨.normal, a₁, w₁, hq, Steps.trans harr (.one step_inScope)⟩
      | exit id => exact ⟨.exit id, a₁, w₁, hq, fun k' hk => harr k' (by simp [exitTo, hk])⟩
      | goto l' =>
        obtain ⟨y, rfl, hJ', hlt⟩ := hq
        obtain ⟨e₂, a₂, w₂, hq₂, harr₂⟩ := ih _ (by omega) y a₁ w₁ rfl hJ'
        exact ⟨e₂, a₂, w₂, hq₂, .of_steps (harr _ (hg y)) harr₂⟩
      | ret => exact ⟨_, a₁, w₁, hq, harr⟩
      | panic ch => exact ⟨_, a₁, w₁, hq, harr⟩
      | outgrown => exact ⟨_, a₁, w₁, hq, harr⟩
  obtain ⟨e, a₁, w₁, hq, harr⟩ := first b (.inScope c :: k) cs
  cases e with
  | normal => exact ⟨.normal, a₁, w₁, hq, .head step_scope (Steps.trans harr (.one step_inScope))⟩
  | exit id => exact ⟨.exit id, a₁, w₁, hq, fun k' hk => .head step_scope (harr k' (by simp [exitTo, hk]))⟩
  | goto l' =>
    obtain ⟨y, rfl, hJ'⟩ := hq
    obtain ⟨e₂, a₂, w₂, hq₂, harr₂⟩ := key _ y a₁ w₁ rfl hJ'
    exact ⟨e₂, a₂, w₂, hq₂, .of_steps (.head step_scope (harr _ (hg y))) harr₂⟩
  | ret => exact ⟨_, a₁, w₁, hq, .of_steps (.one step_scope) harr⟩
  | panic ch => exact ⟨_, a₁, w₁, hq, .of_steps (.one step_scope) harr⟩
  | outgrown => exact ⟨_, a₁, w₁, hq, .of_steps (.one step_scope) harr⟩
section
variable {P : Program} {X : Cx} {st : AS} {Q : Exit → Act → World → Prop}
/-- A scope: inv says how things stand at each jump, lab which label it goes to; a jump from a jump lowers μ. -/
theorem TE.scopeF {ι : Type} (rest : ι → Code) (lab : ι → Nat) (pre : ι → Prop) (inv : ι → AS) (μ : ι → Nat) {c : Code} (hf : ∀ x, findLabel c (lab x) = some (rest x))
    (first : TE X (c.wpIn Fence.wide 0 P (jumpF (fun l => At X (fun x => lab x = l ∧ pre x) inv) Q)) st)
    (pass : ∀ x, pre x → TE X ((rest x).wpIn Fence.wide 0 P (jumpF (fun l => At X (fun y => lab y = l ∧ pre y ∧ μ y < μ x) inv) Q)) (inv x)) : TE X ((Code.scope c).wpIn Fence.wide 0 P Q) st := by
  intro S ν a w sat
  refine wpIn_wide.2 (wp_scope_fam rest lab (fun x a w => At X (fun y => y = x ∧ pre x) inv a w) μ hf ?_ ?_)
  · refine Code.wp_mono (fun e a' w' q => ?_) (wpIn_wide.1 (first S ν a w sat))
    cases e with
    | goto l' =>
      obtain ⟨y, S', ν', ⟨h1, h2⟩, hs⟩ := q
      exact ⟨y, h1, y, S', ν', ⟨rfl, h2⟩, hs⟩
    | _ => exact q
  · rintro x a w ⟨y, S', ν', ⟨rfl, hy⟩, hs⟩
    refine Code.wp_mono (fun e a' w' q => ?_) (wpIn_wide.1 (pass y hy S' ν' a w hs))
    cases e with
    | goto l' =>
      obtain ⟨z, S', ν', ⟨h1, h2, h3⟩, hs⟩ := q
      exact ⟨z, h1, ⟨z, S', ν', ⟨rfl, h2⟩, hs⟩, h3⟩
    | _ => exact q
def labS {α β : Type} (l1 l2 : Nat) : Sum α β → Nat
  | .inl _ => l1
  | .inr _ => l2
/-- A scope with two labels. -/
theorem TE.scope2 {α β : Type} (l1 l2 : Nat) (pre : Sum α β → Prop) (inv : Sum α β → AS) (μ : Sum α β → Nat) {c r1 r2 : Code} (h1 : findLabel c l1 = some r1) (h2 : findLabel c l2 = some r2)
    (first : TE X (c.wpIn Fence.wide 0 P (jumpF (fun l => At X (fun x => labS l1 l2 x = l ∧ pre x) inv) Q)) st)
    (pass1 : ∀ x, pre (.inl x) → TE X (r1.wpIn Fence.wide 0 P (jumpF (fun l => At X (fun y => labS l1 l2 y = l ∧ pre y ∧ μ y < μ (.inl x)) inv) Q)) (inv (.inl x)))
    (pass2 : ∀ x, pre (.inr x) → TE X (r2.wpIn Fence.wide 0 P (jumpF (fun l => At X (fun y => labS l1 l2 y = l ∧ pre y ∧ μ y < μ (.inr x)) inv) Q)) (inv (.inr x))) : TE X ((Code.scope c).wpIn Fence.wide 0 P Q) st := by
  refine TE.scopeF (fun x => match x with | .inl _ => r1 | .inr _ => r2) (labS l1 l2) pre inv μ ?_ first ?_
  · rintro (x | x)
    · exact h1
    · exact h2
  · rintro (x | x) h
    · exact pass1 x h
    · exact pass2 x h
/-- A scope with two labels; the first part runs into the first one, what stands behind the first one runs into the second one. -/
theorem TE.scope2' {α β : Type} (l1 l2 : Nat) (pre : Sum α β → Prop) (inv : Sum α β → AS) (μ : Sum α β → Nat) {c r1 r2 : Code} (h1 : findLabel c l1 = some (.seq .skip r1)) (h2 : findLabel c l2 = some (.seq .skip r2))
    (first : (∀ x, pre (.inl x) → TE X (r1.wpIn Fence.wide 0 P (jumpF (fun l => At X (fun x => labS l1 l2 x = l ∧ pre x) inv) Q)) (inv (.inl x))) → TE X (c.wpIn Fence.wide 0 P (jumpF (fun l => At X (fun x => labS l1 l2 x = l ∧ pre x) inv) Q)) st)
    (pass1 : ∀ x, pre (.inl x) → (∀ y, pre (.inr y) → μ (.inr y) < μ (.inl x) → TE X (r2.wpIn Fence.wide 0 P (jumpF (fun l => At X (fun z => labS l1 l2 z = l ∧ pre z ∧ μ z < μ (.inl x)) inv) Q)) (inv (.inr y))) → TE X (r1.wpIn Fence.wide 0 P (jumpF (fun l => At X (fun y => labS l1 l2 y = l ∧ pre y ∧ μ y < μ (.inl x)) inv) Q)) (inv (.inl x)))
    (pass2 : ∀ x, pre (.inr x) → TE X (r2.wpIn Fence.wide 0 P (jumpF (fun l => At X (fun y => labS l1 l2 y = l ∧ pre y ∧ μ y < μ (.inr x)) inv) Q)) (inv (.inr x))) : TE X ((Code.scope c).wpIn Fence.wide 0 P Q) st := by
  have p1 : ∀ x, pre (.inl x) → TE X (r1.wpIn Fence.wide 0 P (jumpF (fun l => At X (fun y => labS l1 l2 y = l ∧ pre y ∧ μ y < μ (.inl x)) inv) Q)) (inv (.inl x)) := fun x hx => pass1 x hx fun y hy hm S ν a w sat => Code.wpIn_mono (fun e a' w' q => by
    cases e with
    | goto l' =>
      obtain ⟨z, S', ν', ⟨g1, g2, g3⟩, hs⟩ := q
      exact ⟨z, S', ν', ⟨g1, g2, Nat.lt_trans g3 hm⟩, hs⟩
    | _ => exact q) (pass2 y hy S ν a w sat)
  refine TE.scope2 l1 l2 pre inv μ h1 h2 (first fun x hx S ν a w sat => Code.wpIn_mono (fun e a' w' q => ?_) (p1 x hx S ν a w sat)) (fun x hx => TE.seq (TE.skip (TE.thenN (p1 x hx)))) (fun x hx => TE.seq (TE.skip (TE.thenN (pass2 x hx))))
  cases e with
  | goto l' =>
    obtain ⟨z, S', ν', ⟨g1, g2, g3⟩, hs⟩ := q
    exact ⟨z, S', ν', ⟨g1, g2⟩, hs⟩
  | _ => exact q
variable {J : Nat → Act → World → Prop} {l : Nat}
theorem TE.jfN (h : TE X (Q .normal) st) : TE X (jumpF J Q .normal) st := h
theorem TE.jfR (h : TE X (Q .ret) st) : TE X (jumpF J Q .ret) st := h
theorem TE.jfE {i : Nat} (h : TE X (Q (.exit i)) st) : TE X (jumpF J Q (.exit i)) st := h
theorem TE.jfG (h : TE X (J l) st) : TE X (jumpF J Q (.goto l)) st := h
theorem PanicOk.jumpF (h : PanicOk Q) : PanicOk (Am.jumpF J Q) := h
end
end Go.Proofs.YtmeapfckibbbbaaGreatDoor.Am
/- The bridge: a function's contract of the abstract machine gives the statement's form. Arguments are opened by their types. No program is named. -/
namespace Go.Proofs.YtmeapfckibbbbaaGreatDoor.Am
open Go.RowKit Lw Go.ChangeShapes Go.WideShapes Go.Deep

/-- Cells that read as data of type t are a row of some x. -/
structure DOpen {α : Type} (P : Program) (t : TypeId) (sz : Nat) (row : α → Nat → DC) (good : α → Prop) : Prop where
  cells : P.cellsOf t = sz
  pos : 0 < sz
  get : ∀ {H : Type} {enc : TypeId × Value → H} {w : World} {base : Nat} {spare : Nat → Bool} {held : Bool} {n : Nat} {cs : List Value} {y : DataW H × List MemPlace}, DataW.trod enc P w base spare held n t cs = some y →
    cs.length = sz ∧ ∃ x : α, good x ∧ ∀ j u, cs[j]? = some u → (row x j).rel w (· < w.heap.size) u

section
variable {P : Program} {t e : TypeId}
def strR (s : ByteArray) (_ : Nat) : DC := .c (.string s)
def boolR (b : Bool) (_ : Nat) : DC := .c (.bool b)
def intR (z : Int) (_ : Nat) : DC := .c (.int .i64 z)
def u64R (b : UInt64) (_ : Nat) : DC := .c (.int .u64 b.toNat)
def u16R (b : UInt16) (_ : Nat) : DC := .c (.int .u16 b.toNat)
def u32R' (b : UInt32) (_ : Nat) : DC := .c (.int .u32 b.toNat)
def Any {α : Type} (_ : α) : Prop := True
def strG (s : ByteArray) : Prop := s.size ≤ maxLen
def intG (z : Int) : Prop := -9223372036854775808 ≤ z ∧ z ≤ 9223372036854775807
def listG {α : Type} (g : α → Prop) (l : List α) : Prop := l.length ≤ maxLen ∧ ∀ x ∈ l, g x

theorem one_get {v u : Value} {j : Nat} (h : [v][j]? = some u) : j = 0 ∧ u = v := by
  cases j with
  | zero => exact ⟨rfl, by simpa using h.symm⟩
  | succ j => simp at h
theorem DOpen.str (hc : P.cellsOf t = 1) (ht : P.underlying t = some .string) : DOpen P t 1 strR strG := by
  refine ⟨hc, by decide, fun {H enc w base spare held n cs y} h => ?_⟩
  obtain ⟨s, rfl, _, hs⟩ := DataW.trod_string ht h
  exact ⟨rfl, s, hs, fun j u hu => by obtain ⟨_, rfl⟩ := one_get hu; exact ⟨rfl, rfl⟩⟩
theorem DOpen.bool (hc : P.cellsOf t = 1) (ht : P.underlying t = some .bool) : DOpen P t 1 boolR Any := by
  refine ⟨hc, by decide, fun {H enc w base spare held n cs y} h => ?_⟩
  obtain ⟨s, rfl, _⟩ := DataW.trod_bool ht h
  exact ⟨rfl, s, trivial, fun j u hu => by obtain ⟨_, rfl⟩ := one_get hu; exact ⟨rfl, rfl⟩⟩
theorem wf_bounds {k : IntKind} {z : Int} (h : (Lit.int k z).wf = true) : k.min ≤ z ∧ z ≤ k.max := by simpa [Lit.wf] using h
theorem DOpen.i64 (hc : P.cellsOf t = 1) (ht : P.underlying t = some (.int .i64)) : DOpen P t 1 intR intG := by
  refine ⟨hc, by decide, fun {H enc w base spare held n cs y} h => ?_⟩
  obtain ⟨z, rfl, _, hz⟩ := DataW.trod_int ht h
  refine ⟨rfl, z, ?_, fun j u hu => by obtain ⟨_, rfl⟩ := one_get hu; exact ⟨rfl, rfl⟩⟩
  have := wf_bounds hz
  rwa [show IntKind.i64.min = -9223372036854775808 by decide, show IntKind.i64.max = 9223372036854775807 by decide] at this
theorem DOpen.u8 (hc : P.cellsOf t = 1) (ht : P.underlying t = some (.int .u8)) : DOpen P t 1 byteR Any := by
  refine ⟨hc, by decide, fun {H enc w base spare held n cs y} h => ?_⟩
  obtain ⟨z, rfl, _, hz⟩ := DataW.trod_int ht h
  have := wf_bounds hz
  rw [show IntKind.u8.min = 0 by decide, show IntKind.u8.max = 255 by decide] at this
  refine ⟨rfl, UInt8.ofNat z.toNat, trivial, fun j u hu => ?_⟩
  obtain ⟨_, rfl⟩ := one_get hu
  refine ⟨?_, rfl⟩
  congr 1; simp; omega
theorem DOpen.u16 (hc : P.cellsOf t = 1) (ht : P.underlying t = some (.int .u16)) : DOpen P t 1 u16R Any := by
  refine ⟨hc, by decide, fun {H enc w base spare held n cs y} h => ?_⟩
  obtain ⟨z, rfl, _, hz⟩ := DataW.trod_int ht h
  have := wf_bounds hz
  rw [show IntKind.u16.min = 0 by decide, show IntKind.u16.max = 65535 by decide] at this
  refine ⟨rfl, UInt16.ofNat z.toNat, trivial, fun j u hu => ?_⟩
  obtain ⟨_, rfl⟩ := one_get hu
  refine ⟨?_, rfl⟩
  congr 1; simp; omega
theorem DOpen.u32 (hc : P.cellsOf t = 1) (ht : P.underlying t = some (.int .u32)) : DOpen P t 1 u32R' Any := by
  refine ⟨hc, by decide, fun {H enc w base spare held n cs y} h => ?_⟩
  obtain ⟨z, rfl, _, hz⟩ := DataW.trod_int ht h
  have := wf_bounds hz
  rw [show IntKind.u32.min = 0 by decide, show IntKind.u32.max = 4294967295 by decide] at this
  refine ⟨rfl, UInt32.ofNat z.toNat, trivial, fun j u hu => ?_⟩
  obtain ⟨_, rfl⟩ := one_get hu
  refine ⟨?_, rfl⟩
  congr 1; simp; omega
theorem DOpen.u64 (hc : P.cellsOf t = 1) (ht : P.underlying t = some (.int .u64)) : DOpen P t 1 u64R Any := by
  refine ⟨hc, by decide, fun {H enc w base spare held n cs y} h => ?_⟩
  obtain ⟨z, rfl, _, hz⟩ := DataW.trod_int ht h
  have := wf_bounds hz
  rw [show IntKind.u64.min = 0 by decide, show IntKind.u64.max = 18446744073709551615 by decide] at this
  refine ⟨rfl, UInt64.ofNat z.toNat, trivial, fun j u hu => ?_⟩
  obtain ⟨_, rfl⟩ := one_get hu
  refine ⟨?_, rfl⟩
  congr 1; simp; omega
def slR {α : Type} (sz : Nat) (row : α → Nat → DC) (d : α) (xs : List α) (_ : Nat) : DC := .sl sz xs.length (listC row d xs).cell
theorem spot_at {w : World} {a : Addr} {v : Value} (h : w.cell? a = some v) : ∃ b o, a = ⟨b, o, none⟩ ∧ b < w.heap.size := by
  obtain ⟨b, o, s⟩ := a
  unfold World.cell? at h
  split at h
  · rename_i c _ _ hg
    refine ⟨b, o, ?_, (Array.getElem?_eq_some_iff.1 hg).1⟩
    cases s with
    | none => rfl
    | some x => simp at h
  · cases h
theorem DOpen.slice {α : Type} {sz : Nat} {row : α → Nat → DC} {good : α → Prop} (h : DOpen P e sz row good) (d : α) (hc : P.cellsOf t = 1) (ht : P.underlying t = some (.slice e)) : DOpen P t 1 (slR sz row d) (listG good) := by
  refine ⟨hc, by decide, fun {H enc w base spare held n cs y} hh => ?_⟩
  rcases open_slice ht hh with ⟨rfl, _⟩ | ⟨a, len, cap, m, n, D, Pl, rfl, _, hl, hm, hmm, _, hi⟩
  · exact ⟨rfl, [], ⟨Nat.zero_le _, fun x hx => nomatch hx⟩, fun j u hu => by obtain ⟨_, rfl⟩ := one_get hu; exact ⟨none, 0, rfl, Nat.le_refl _, Nat.zero_le _, fun _ => rfl, fun h => absurd h (Nat.lt_irrefl 0)⟩⟩
  · have hlm : len ≤ m := by rw [hmm]; split <;> omega
    have hch : ∀ i : Fin len, ∃ x : α, good x ∧ ∃ cs' : List Value, cs'.length = sz ∧ (∀ j, j < sz → w.cell? ((a.add (i.1 * sz)).add j) = cs'[j]?) ∧ ∀ j u, cs'[j]? = some u → (row x j).rel w (· < w.heap.size) u := by
      intro i
      obtain ⟨cs', hcs, hx⟩ := hi i.1 (Nat.lt_of_lt_of_le i.2 hlm)
      rw [h.cells] at hcs
      obtain ⟨_, hcl, hat⟩ := World.cells?_some hcs
      obtain ⟨_, x, hg, hr⟩ := h.get hx
      exact ⟨x, hg, cs', hcl, hat, hr⟩
    obtain ⟨f, hf⟩ := Classical.axiomOfChoice hch
    refine ⟨rfl, List.ofFn f, ⟨by simp; omega, fun x hx => ?_⟩, fun j u hu => ?_⟩
    · obtain ⟨q, rfl⟩ := List.mem_ofFn.1 hx
      exact (hf q).1
    obtain ⟨_, rfl⟩ := one_get hu
    refine ⟨some a, cap, by simp, by simpa using hl, hm, (fun h => by cases h), fun h0 => ?_⟩
    have h0' : 0 < len := by simpa using h0
    obtain ⟨_, cs0, hcl0, hat0, _⟩ := hf ⟨0, h0'⟩
    have h00 := hat0 0 h.pos
    have hv : cs0[0]? = some (cs0[0]'(by have := h.pos; omega)) := List.getElem?_eq_getElem _
    rw [hv] at h00
    have e0 : (a.add (0 * sz)).add 0 = a := by simp [Addr.add]
    rw [show ((⟨0, h0'⟩ : Fin len).1) = 0 from rfl, e0] at h00
    obtain ⟨b, o, rfl, hb⟩ := spot_at h00
    refine ⟨b, o, rfl, hb, hb, fun i j hi' hj => ?_⟩
    have hil : i < len := by simpa using hi'
    obtain ⟨_, cs', hcl, hat, hr⟩ := hf ⟨i, hil⟩
    have hj' : cs'[j]? = some (cs'[j]'(by omega)) := List.getElem?_eq_getElem _
    refine ⟨cs'[j]'(by omega), ?_, ?_⟩
    · have := hat j hj
      rw [add_none', add_none'] at this
      rw [this, hj']
    · have := hr j _ hj'
      have hx : (List.ofFn f).getD i d = f ⟨i, hil⟩ := by
        rw [List.getD_eq_getElem?_getD, List.getElem?_eq_getElem (by simpa using hil)]
        simp
      show (row ((List.ofFn f).getD i d) j).rel w (· < w.heap.size) _
      rw [hx]; exact this

/-- Fields from a place on. -/
def DFields {α : Type} (P : Program) (fs : List Field) (off sz : Nat) (row : α → Nat → DC) (good : α → Prop) : Prop :=
  ∀ {H : Type} {enc : TypeId × Value → H} {w : World} {base : Nat} {spare : Nat → Bool} {held : Bool} {n : Nat} {cs : List Value}, (∀ f ∈ fs, ∃ y, DataW.trod enc P w base spare held n f.type ((cs.drop f.offset).take (P.cellsOf f.type)) = some y) →
    ∃ x : α, good x ∧ ∀ j u, j < sz → cs[off + j]? = some u → (row x j).rel w (· < w.heap.size) u
theorem DFields.nil {off : Nat} : DFields P [] off 0 (fun (_ : Unit) _ => .c undef) Any := by
  intro H enc w base spare held n cs h
  exact ⟨(), trivial, fun j u hj => absurd hj (Nat.not_lt_zero j)⟩
def pairR {α β : Type} (sz : Nat) (r1 : α → Nat → DC) (r2 : β → Nat → DC) (x : α × β) (j : Nat) : DC := if j < sz then r1 x.1 j else r2 x.2 (j - sz)
def pairG {α β : Type} (g1 : α → Prop) (g2 : β → Prop) (x : α × β) : Prop := g1 x.1 ∧ g2 x.2
theorem DFields.cons {α β : Type} {f : Field} {fs : List Field} {off s1 s2 : Nat} {r1 : α → Nat → DC} {r2 : β → Nat → DC} {g1 : α → Prop} {g2 : β → Prop} (ho : f.offset = off) (h1 : DOpen P f.type s1 r1 g1) (h2 : DFields P fs (off + s1) s2 r2 g2) : DFields P (f :: fs) off (s1 + s2) (pairR s1 r1 r2) (pairG g1 g2) := by
  intro H enc w base spare held n cs h
  obtain ⟨y, hy⟩ := h f (List.mem_cons_self ..)
  rw [h1.cells, ho] at hy
  obtain ⟨hl, x1, ga, hx1⟩ := h1.get hy
  obtain ⟨x2, gb, hx2⟩ := h2 (enc := enc) (w := w) (base := base) (spare := spare) (held := held) (n := n) (cs := cs) fun f' hf' => h f' (List.mem_cons_of_mem _ hf')
  refine ⟨(x1, x2), ⟨ga, gb⟩, fun j u hj hu => ?_⟩
  unfold pairR
  by_cases hlt : j < s1
  · rw [if_pos hlt]
    refine hx1 j u ?_
    rw [List.getElem?_take_of_lt hlt, List.getElem?_drop]; exact hu
  · rw [if_neg hlt]
    refine hx2 (j - s1) u (by omega) ?_
    rw [show off + s1 + (j - s1) = off + j by omega]; exact hu
theorem DOpen.struct {α : Type} {fs : List Field} {sz : Nat} {row : α → Nat → DC} {good : α → Prop} (hc : P.cellsOf t = sz) (hp : 0 < sz) (ht : P.underlying t = some (.struct fs.toArray)) (h : DFields P fs 0 sz row good) : DOpen P t sz row good := by
  refine ⟨hc, hp, fun {H enc w base spare held n cs y} hh => ?_⟩
  obtain ⟨xs, m, _, _, hl, hlen, hf⟩ := DataW.trod_struct ht hh
  rw [hc] at hl
  refine ⟨hl, ?_⟩
  obtain ⟨x, g, hx⟩ := h (enc := enc) (w := w) (base := base) (spare := spare) (held := held) (n := m) (cs := cs) (fun f hm => by
    obtain ⟨i, hi, e⟩ := List.getElem_of_mem hm
    have := hf i f (by simp [hi, e])
    have hi' : i < xs.length := by rw [hlen]; simpa using hi
    rw [List.getElem?_eq_getElem hi'] at this
    exact ⟨_, this⟩)
  refine ⟨x, g, fun j u hu => hx j u ?_ (by rw [Nat.zero_add]; exact hu)⟩
  have := (List.getElem?_eq_some_iff.1 hu).1; omega
theorem DOpen.map {α β : Type} {sz : Nat} {row : α → Nat → DC} {row' : β → Nat → DC} {good : α → Prop} {good' : β → Prop} (h : DOpen P t sz row good) (f : α → β) (hr : ∀ x j, j < sz → row x j = row' (f x) j) (hg : ∀ x, good x → good' (f x)) : DOpen P t sz row' good' := by
  refine ⟨h.cells, h.pos, fun {H enc w base spare held n cs y} hh => ?_⟩
  obtain ⟨hl, x, g, hx⟩ := h.get hh
  refine ⟨hl, f x, hg x g, fun j u hu => ?_⟩
  rw [← hr x j (by have := (List.getElem?_eq_some_iff.1 hu).1; omega)]
  exact hx j u hu

/-! ### Arguments -/
def rowA {α : Type} (row : α → Nat → DC) (x : α) : Nat → Nat → List A1
  | _, 0 => []
  | i, n + 1 => (row x i).toA :: rowA row x (i + 1) n
/-- An argument of type t is described by mk x, for some x. -/
def AOpen {α : Type} (P : Program) (t : TypeId) (mk : α → AV) (good : α → Prop) : Prop :=
  ∀ {H : Type} {enc : TypeId × Value → H} {w : World} {base : Nat} {v : Value} {d : DataW H} {p : List MemPlace}, Value.okWide P w .any base t v → DataW.Trod enc P w 0 (fun _ => true) true t v d p → ∃ x : α, good x ∧ ∀ ν, (mk x).rel w (· < w.heap.size) ν v
theorem okWide_one {w : World} {r : Reach} {base : Nat} {v : Value} (h : Value.okWide P w r base t v) (hs : ∀ fs, P.underlying t ≠ some (.struct fs)) (ha : ∀ n e, P.underlying t ≠ some (.array n e)) : v.cells.toList = [v] := by
  cases v with
  | agg cs =>
    exfalso
    unfold Value.okWide at h
    split at h
    · rename_i fs e; exact hs _ e
    · rename_i n e' e; exact ha _ _ e
    · unfold Cell.okWide at h
      split at h <;> simp_all [Cell.ok]
  | _ => rfl
theorem AOpen.one {α : Type} {row : α → Nat → DC} {good : α → Prop} (h : DOpen P t 1 row good) (hs : ∀ fs, P.underlying t ≠ some (.struct fs)) (ha : ∀ n e, P.underlying t ≠ some (.array n e)) : AOpen P t (fun x => .o (row x 0).toA) good := by
  intro H enc w base v d p hok ⟨m, hm⟩
  rw [okWide_one hok hs ha] at hm
  obtain ⟨_, x, g, hx⟩ := h.get hm
  exact ⟨x, g, fun ν => DC.toA_rel (hx 0 v rfl)⟩
theorem rowA_rel {α : Type} {row : α → Nat → DC} {x : α} {w : World} {S : Nat → Prop} {ν : Nat → Value} : ∀ {cs : List Value} {i : Nat}, (∀ j u, cs[j]? = some u → (row x (i + j)).rel w S u) → All2 (A1.rel w S ν) (rowA row x i cs.length) cs
  | [], _, _ => trivial
  | c :: cs, i, h => ⟨DC.toA_rel (h 0 c rfl), rowA_rel (cs := cs) (i := i + 1) fun j u hu => by rw [show i + 1 + j = i + (j + 1) by omega]; exact h (j + 1) u hu⟩
theorem AOpen.agg {α : Type} {sz : Nat} {row : α → Nat → DC} {good : α → Prop} (h : DOpen P t sz row good) (hs : (∃ fs, P.underlying t = some (.struct fs)) ∨ ∃ n e, P.underlying t = some (.array n e)) : AOpen P t (fun x => .g (rowA row x 0 sz)) good := by
  intro H enc w base v d p hok ⟨m, hm⟩
  have : ∃ cs, v = .agg cs := by
    unfold Value.okWide at hok
    rcases hs with ⟨fs, e⟩ | ⟨n, e', e⟩ <;> rw [e] at hok <;> exact ⟨_, hok.choose_spec.1⟩
  obtain ⟨cs, rfl⟩ := this
  obtain ⟨hl, x, g, hx⟩ := h.get hm
  refine ⟨x, g, fun ν => ⟨cs.toList, by simp, ?_⟩⟩
  have hl' : cs.toList.length = sz := hl
  rw [← hl']
  exact rowA_rel fun j u hu => by rw [Nat.zero_add]; exact hx j u hu

theorem After.below {ι : Type} {m : Nat} {pre : ι → Prop} {res : ι → AV} {gives : ι → List Chunk} {S S' : Nat → Prop} {ν ν' : Nat → Value} {w w' : World} {e : Ending} {x : ι} {u : Value} (h : After [] m pre res gives S ν w e w' x S' ν' u) : Below w.heap.size w w' :=
  ⟨h.fr.os, h.fr.tape, h.fr.output, h.fr.size, fun k hk => h.fr.block k hk fun hm => by simp [blks] at hm⟩
end
end Go.Proofs.YtmeapfckibbbbaaGreatDoor.Am
/- The words as plain functions of bytes: a list expression read, step by step. No program is named. -/
namespace Go.Proofs.YtmeapfckibbbbaaGreatDoor.Wo
theorem decFrom_dig : ∀ {a : Bs} (acc : Nat), (∀ c ∈ a, 48 ≤ c.toNat ∧ c.toNat ≤ 57) → Go.Lib.decFrom acc a = some (natF acc a)
  | [], acc, _ => rfl
  | c :: r, acc, h => by
    have hc := h c (List.mem_cons_self ..)
    rw [Go.Lib.decFrom, show Go.Lib.digitVal c = some (c.toNat - 48) from by unfold Go.Lib.digitVal; rw [if_pos (by omega)]]
    dsimp only
    rw [decFrom_dig _ fun x hx => h x (List.mem_cons_of_mem _ hx)]
    show some (natF (acc * 10 + (c.toNat - 48)) r) = some (natF (10 * acc + (c.toNat - 48)) r)
    rw [Nat.mul_comm]
theorem atoi_dgs {a : Bs} (h : Dgs a) : Go.Lib.atoi a = some (natI a : Int) := by
  cases a with
  | nil => exact absurd rfl h.ne
  | cons c r =>
    have hc := h.all c (List.mem_cons_self ..)
    have h1 : (c == 45) = false := by
      rw [beq_eq_false_iff_ne]
      intro e; subst e; revert hc; decide
    have h2 : (c == 43) = false := by
      rw [beq_eq_false_iff_ne]
      intro e; subst e; revert hc; decide
    unfold Go.Lib.atoi
    dsimp only
    rw [h1, h2]
    rw [if_neg (by decide), if_neg (by decide)]
    unfold Go.Lib.decNat
    rw [if_neg (by simp : ¬ (List.isEmpty (c :: r)) = true), decFrom_dig 0 h.all]
    rfl
def nat2 (e : Bs × Bs) : Nat × Nat := (natI e.1, natI e.2)
abbrev e0 : Bs × Bs := ([], [])
structure RunsAt (P : List Bs) (i : Nat) (E : List (Bs × Bs)) (last : Bs) : Prop where
  le : i ≤ P.length
  len : E.length = i
  all : ∀ e ∈ E, Dgs e.1 ∧ Dgs e.2
  lastE : E ≠ [] → E.getLastD e0 = ((E.getLastD e0).1, last) ∧ Dgs last
  run : (runsI (if i = 0 then none else some (natI last)) (P.drop i)).map (E.map nat2 ++ ·) = runsI none P
theorem runs_start (P : List Bs) : RunsAt P 0 [] [] := ⟨Nat.zero_le _, rfl, (fun e he => by cases he), fun h => absurd rfl h, by rw [if_pos rfl, List.drop_zero]; cases runsI none P <;> rfl⟩
section
variable {P : List Bs} {i : Nat} {E : List (Bs × Bs)} {last : Bs}
theorem drop_str (h : i < P.length) : P.drop i = P.getD i [] :: P.drop (i + 1) := by
  rw [List.drop_eq_getElem_cons h, List.getD_eq_getElem?_getD, List.getElem?_eq_getElem h]; rfl
theorem runs_none (g : RunsAt P i E last) (hi : i < P.length) (h : runI (P.getD i []) = none) : runsI none P = none := by
  rw [← g.run, drop_str hi, runsI, h]; rfl
theorem runs_after (g : RunsAt P i E last) (hi : i < P.length) {x y : Nat} (h : runI (P.getD i []) = some (x, y)) (h0 : i ≠ 0) (ha : ¬ natI last + 1 < x) : runsI none P = none := by
  rw [← g.run, drop_str hi, runsI, h]
  dsimp only
  rw [if_neg h0, if_neg (by show ¬ decide (natI last + 1 < x) = true; rw [decide_eq_true_iff]; exact ha)]
  rfl
theorem runs_more (g : RunsAt P i E last) (hi : i < P.length) {a b : Bs} (h : runI (P.getD i []) = some (natI a, natI b)) (ha : Dgs a) (hb : Dgs b) (hl : i ≠ 0 → natI last + 1 < natI a) : RunsAt P (i + 1) (E ++ [(a, b)]) b := by
  refine ⟨by omega, by rw [List.length_append, g.len]; rfl, fun e he => ?_, fun _ => ⟨by simp, hb⟩, ?_⟩
  · rcases List.mem_append.1 he with he | he
    · exact g.all e he
    · rw [List.mem_singleton.1 he]; exact ⟨ha, hb⟩
  · rw [← g.run, drop_str hi]
    conv => rhs; rw [runsI, h]
    dsimp only
    rw [if_neg (Nat.succ_ne_zero i)]
    have : afterI (if i = 0 then none else some (natI last)) (natI a) = true := by
      by_cases h0 : i = 0
      · rw [if_pos h0]; rfl
      · rw [if_neg h0]; exact decide_eq_true (hl h0)
    rw [if_pos this, List.map_append]
    cases runsI (some (natI b)) (P.drop (i + 1)) with
    | none => rfl
    | some R => simp [nat2]
theorem runs_end (g : RunsAt P i E last) (hi : P.length ≤ i) : runsI none P = some (E.map nat2) := by
  rw [← g.run, List.drop_of_length_le hi]
  simp [runsI]
end
theorem run_a {p : Bs} (h : ∀ x ∈ p, x ≠ 45) (hc : Go.Lib.cut p [45] = (p, [], false)) : runI p = if decI p = true then some (natI p, natI p) else none := by
  unfold runI
  rw [hc]
  dsimp only
  rw [if_pos rfl]
  have : dgsI p = decI p := by
    unfold dgsI
    rw [decide_eq_true, Bool.and_true]
    intro e
    cases p with
    | nil => cases e
    | cons c r => simp at e; exact h c (List.mem_cons_self ..) e
  rw [this]
theorem no_head {p : Bs} (h : ∀ x ∈ p, x ≠ 45) : p.head? ≠ some 45 := by
  intro e
  cases p with
  | nil => cases e
  | cons c r => simp at e; exact h c (List.mem_cons_self ..) e
theorem dgs_of {p : Bs} (h : p.head? ≠ some 45) (hd : decI p = true) : Dgs p := dgs_iff.1 (by unfold dgsI; rw [hd, decide_eq_true h]; rfl)
theorem dgs_no {p : Bs} (h : Dgs p) : decI p = true ∧ p.head? ≠ some 45 := by
  have := dgs_iff.2 h
  unfold dgsI at this
  rw [Bool.and_eq_true, decide_eq_true_iff] at this
  exact this
theorem run_b {p a b : Bs} (hc : Go.Lib.cut p [45] = (a, b, true)) : (¬ (Dgs a ∧ Dgs b ∧ natI a < natI b) → runI p = none) ∧ (Dgs a → Dgs b → natI a < natI b → runI p = some (natI a, natI b)) := by
  unfold runI
  rw [hc]
  dsimp only
  rw [if_neg (by decide)]
  refine ⟨fun h => if_neg fun k => h ⟨dgs_iff.1 k.1, dgs_iff.1 k.2.1, k.2.2⟩, fun h1 h2 h3 => if_pos ⟨dgs_iff.2 h1, dgs_iff.2 h2, h3⟩⟩
theorem parse_none {s : Bs} (h : s ≠ [45]) (hr : runsI none (partsI 44 s) = none) : parseI s = ([], 6) := by
  unfold parseI
  rw [if_neg h, hr]
theorem last_nat {E : List (Bs × Bs)} {last : Bs} (h : E.getLastD e0 = ((E.getLastD e0).1, last)) : lastR (E.map nat2) = natI last := by
  unfold lastR
  cases E with
  | nil =>
    have : last = [] := by have := congrArg Prod.snd h; exact this.symm
    subst this; rfl
  | cons x r =>
    rw [List.getLastD_eq_getLast?, List.getLast?_map]
    rw [List.getLastD_eq_getLast?] at h
    cases hg : (x :: r).getLast? with
    | none => simp at hg
    | some e =>
      rw [hg] at h
      simp only [Option.getD_some] at h
      rw [h]; rfl
theorem flat_snoc (R : List (Nat × Nat)) (q : Nat × Nat) : flatR (R ++ [q]) = flatR R ++ runN q := by simp [flatR]
theorem flat_take_le (R : List (Nat × Nat)) (k : Nat) : (flatR (R.take k)).length ≤ (flatR R).length := by
  conv => rhs; rw [← List.take_append_drop k R]
  unfold flatR
  rw [List.flatMap_append, List.length_append]
  omega
theorem dgs_short {a : Bs} (h : Dgs a) (hn : natI a ≤ 1000000000) : a.length ≤ 18 := by
  refine Nat.le_of_not_lt fun hl => ?_
  have h1 := nat_ge h (by omega)
  have h2 : 10 ^ 18 ≤ 10 ^ (a.length - 1) := Nat.pow_le_pow_right (by decide) (by omega)
  have h3 : (10 : Nat) ^ 18 = 1000000000000000000 := by decide
  omega
theorem takeE {E : List (Bs × Bs)} {q : Nat} (h : q < E.length) : (E.take (q + 1)).map nat2 = (E.take q).map nat2 ++ [nat2 (E.getD q e0)] := by
  rw [List.take_add_one, List.map_append, List.getD_eq_getElem?_getD, List.getElem?_eq_getElem h]
  rfl
theorem getE_mem {E : List (Bs × Bs)} {q : Nat} (h : q < E.length) : E.getD q e0 ∈ E := by
  rw [List.getD_eq_getElem?_getD, List.getElem?_eq_getElem h]
  exact List.getElem_mem h
theorem getP_mem {P : List Bs} {q : Nat} (h : q < P.length) : P.getD q [] ∈ P := by
  rw [List.getD_eq_getElem?_getD, List.getElem?_eq_getElem h]
  exact List.getElem_mem h
def upR (x k : Nat) : List Int := (List.range k).map fun i => ((x + i : Nat) : Int)
theorem upR_snoc (x k : Nat) : upR x (k + 1) = upR x k ++ [((x + k : Nat) : Int)] := by
  unfold upR
  rw [List.range_succ, List.map_append]
  rfl
theorem upR_len (x k : Nat) : (upR x k).length = k := by simp [upR]
theorem upR_run {q : Nat × Nat} {k : Nat} (h : q.2 + 1 - q.1 = k) : upR q.1 k = runN q := by rw [← h]; rfl
end Go.Proofs.YtmeapfckibbbbaaGreatDoor.Wo
/- The abstract machine: a law's contract over a laid table. No program is named. -/
namespace Go.Proofs.YtmeapfckibbbbaaGreatDoor.Am
open Go.RowKit Lw
section
variable {P : Program}
/-- A law holds of all arguments that a contract speaks of, where tables lie as they were laid. -/
theorem law_callsG {f : FuncId} {args : List AV} {takes : List Chunk} {m M : Nat} {w : World} {vs : List Value} {gives : Unit → List Chunk} (hst : allStat takes = true) (hcon : Con P f args takes m M (fun _ : Unit => True) (fun _ => .o (.c (.bool true))) gives) (h : All2 (AV.rel w (· < w.heap.size) (fun _ => undef)) args vs)
    (ht : ∀ c ∈ takes, c.holds w (· < w.heap.size) (fun _ => undef)) : Calls P f vs.toArray w fun e w' => e = .returned (.bool true) ∧ Below w.heap.size w w' := by
  have e0 : blks (fun _ => undef) takes = [] := allStat_blks hst
  refine Calls.mono (hcon.call w _ _ vs h ht (by rw [e0]; exact List.nodup_nil) (fun b hb => by rw [e0] at hb; exact nomatch hb) fun b hb => hb) fun e w' ⟨x, S', ν', u, ha⟩ => ⟨by rw [ha.e, show u = .bool true from ha.res.1], ⟨ha.fr.os, ha.fr.tape, ha.fr.output, ha.fr.size, fun k hk => ha.fr.block k hk fun hm => ?_⟩⟩
  rw [e0] at hm; exact nomatch hm
/-- A variable as it lies. -/
theorem stat_of_var {w : World} {P : Program} {name : String} {g sz : Nat} {cs : Array Value} {ν : Nat → Value} {cell : Nat → DC} (i : Nat) (hv : w.var? P name = some cs) (hg : P.globalNamed name = some g) (hs : cs.size = sz) (hc : ∀ j u, j < sz → cs[j]? = some u → (cell j).rel w (· < w.heap.size) u) : (Chunk.stat i g sz cell).holds w (· < w.heap.size) ν := by
  have h0 := hv
  unfold World.var? at hv
  rw [hg] at hv
  simp only [Option.bind_some] at hv
  split at hv
  · rename_i cs' T fr hh
    cases hv
    have hlt : g < w.heap.size := (Array.getElem?_eq_some_iff.1 hh).1
    refine ⟨hlt, hlt, fun j hj => ?_, _, _, _, hh, hs⟩
    have h1 := World.var?_cell hg h0 j
    have h2 : cs[j]? = some cs[j] := Array.getElem?_eq_getElem (by omega)
    rw [h2] at h1
    exact ⟨_, h1, hc j _ hj h2⟩
  · cases hv
end
end Go.Proofs.YtmeapfckibbbbaaGreatDoor.Am
