/- The abstract machine: ranges over iterators. The iterator's code is walked in place, at each yield the body of the loop. No program is named. -/
import Derived.Test.YtfcihdkflnpcgaaAmK
namespace Go.Proofs.Ytfcihdkflnpcgaa.Am
open Go.RowKit Lw

section
variable {P : Program} {X : Cx} {st st' : AS} {S S' : Nat → Prop} {ν ν' : Nat → Value} {a a' : Act} {w w' : World} {Q : Exit → Act → World → Prop} {R : Act → World → Prop}

/-- The context of a part that is run at a state, with N slots: it may turn the state's chunks. -/
abbrev cxAt (mk : Bool) (N : Nat) (S : Nat → Prop) (ν : Nat → Value) (st : AS) (w : World) : Cx := ⟨N, w, fun b => b ∈ blks ν st.hp, S, ν, st.nid, mk⟩

theorem Sat.enter (mk : Bool) (h : Sat X S ν st a w) {N : Nat} {env : Env} (hd : a'.defers = []) (hs : a'.tmps.size = N) (he : ∀ p ∈ env, p.1 < N ∧ p.2.rel w S ν (a'.tmps.getD p.1 undef) ∧ p.2.lt st.nid) : Sat (cxAt mk N S ν st w) S ν ⟨env, st.hp, st.nid⟩ a' w :=
  ⟨by rw [hd]; exact ⟨(fun d hd => nomatch hd), List.nodup_nil, fun _ => rfl⟩, hs, fun p hp => ⟨(he p hp).1, (he p hp).2.1⟩, h.hp, h.nd, fun b hb => ⟨(h.blk b hb).1, (h.blk b hb).2.1, .inr hb⟩, fun b hb => ⟨(h.imm b hb).1, .inl hb⟩, fun _ h => h, Fr.refl _ _, fun p hp => (he p hp).2.2, h.hlt, fun _ _ => rfl, Nat.le_refl _⟩

theorem Sat.leave {N : Nat} {mk : Bool} (h : Sat X S ν st a w) (h' : Sat (cxAt mk N S ν st w) S' ν' st' a' w') : Sat X S' ν' ⟨st.env, st'.hp, st'.nid⟩ a w' := by
  have := h.swap (takes := st.hp) (rest := []) (gives := st'.hp) (nid := st'.nid) (S' := S') (ν' := ν') (w' := w') (by simp) h'.frame h'.fix h'.imm0 (fun b hb => (h'.imm b hb)) h'.hp h'.nd (fun b hb => ⟨(h'.blk b hb).1, (h'.blk b hb).2.1, (h'.blk b hb).2.2.symm⟩) h'.hlt h'.ge
  simpa using this

/-- A block that is no chunk's, no reader's, no mark's becomes another one. -/
theorem Sat.turn (h : Sat X S ν st a w) {l : Nat} {o o' : Obj} (hl : w.heap[l]? = some o) (ho : ∀ d, o ≠ .deferred d) (h0 : X.w0.heap.size ≤ l) (hS : ¬ S l) (hb : l ∉ blks ν st.hp) : Sat X S ν st a (w.putObj l o') := by
  have gr : Gr w (w.putObj l o') S S := ⟨by simp, fun b hb _ => World.putObj_heap_other fun e => hS (e ▸ hb), fun _ h => h⟩
  refine ⟨⟨fun d hd => ?_, h.defers.2⟩, h.size, fun p hp => ⟨(h.env p hp).1, AV.mono gr (fun _ _ => rfl) (h.elt p hp) (h.env p hp).2⟩, fun c hc => Chunk.mono gr (fun _ _ => rfl) (h.hlt c hc) (fun b hb' => World.putObj_heap_other fun e => hb (mem_blks.2 ⟨c, hc, e ▸ hb'⟩)) (h.hp c hc), h.nd, fun b hb => ?_, fun b hb => ?_, h.imm0, ?_, h.elt, h.hlt, h.fix, h.ge⟩
  · obtain ⟨D, e, f1, f2, f3, f4⟩ := h.defers.1 d hd
    refine ⟨D, e, ?_, f2, f3, f4⟩
    rw [World.putObj_heap_other fun (e : D = l) => ?_]
    · exact f1
    · rw [e, hl] at f1; exact ho _ (Option.some.inj f1)
  · have := h.blk b hb; rw [World.putObj_size]; exact this
  · have := h.imm b hb; rw [World.putObj_size]; exact this
  · refine ⟨h.frame.os, h.frame.tape, h.frame.output, by rw [World.putObj_size]; exact h.frame.size, fun k hk hB => ?_⟩
    rw [World.putObj_heap_other (by omega)]; exact h.frame.block k hk hB

/-- More blocks are laid. -/
theorem Sat.grow (h : Sat X S ν st a w) (hf : Fr (fun _ => False) w w') : Sat X S ν st a w' := by
  have := h.swap (takes := []) (rest := st.hp) (gives := []) (nid := st.nid) (S' := S) (ν' := ν) (w' := w') (.refl _) ⟨hf.os, hf.tape, hf.output, hf.size, fun k hk _ => hf.block k hk id⟩ (fun _ _ => rfl) (fun _ h => h) (fun b hb => ⟨Nat.lt_of_lt_of_le (h.imm b hb).1 hf.size, .inl hb⟩) (fun c hc => nomatch hc) List.nodup_nil (fun b hb => nomatch hb) (fun c hc => nomatch hc) (Nat.le_refl _)
  simpa using this
/-- A mark more. -/
theorem Sat.mark (h : Sat X S ν st a w) {D : Nat} (hD : w.heap[D]? = some (.deferred (some []))) (h0 : X.w0.heap.size ≤ D) (hS : ¬ S D) (hb : D ∉ blks ν st.hp) (hn : { target := .collected D, args := #[] } ∉ a.defers) (hmk : X.mks = true) : Sat X S ν st { a with defers := { target := .collected D, args := #[] } :: a.defers } w :=
  ⟨⟨fun d hd => by
      rcases List.mem_cons.1 hd with rfl | hd
      · exact ⟨D, rfl, hD, h0, hS, hb⟩
      · exact h.defers.1 d hd, List.nodup_cons.2 ⟨hn, h.defers.2.1⟩, fun e => by rw [hmk] at e; cases e⟩, h.size, h.env, h.hp, h.nd, h.blk, h.imm, h.imm0, h.frame, h.elt, h.hlt, h.fix, h.ge⟩

/-- A loop goes on: its record is r, at block l; C is the context of the iterator, with N slots. -/
structure Looping (P : Program) (X : Cx) (E : Env) (ps : List Tmp) (asg body : Code) (l : Nat) (a1 : Act) (pend : Option Code) (N : Nat) (C : Cx) : Prop where
  go : ∃ S ν st w fn D, Sat X S ν st a1 w ∧ st.env = E ∧ C = cxAt false N S ν st w ∧ X.w0.heap.size ≤ l ∧ ¬ S l ∧ l ∉ blks ν st.hp ∧
    w.heap[l]? = some (.loop { state := if pend.isNone then .ready else .done, pending := pend, fn := fn, tmps := a1.tmps, params := ps.toArray, assign := asg, body := body, defers := D })
end

section
variable {P : Program} {X C : Cx} {E : Env} {ps : List Tmp} {asg body : Code} {l N : Nat} {a1 : Act} {pend : Option Code} {S S' : Nat → Prop} {ν ν' : Nat → Value} {a a' : Act} {w w' : World} {st st' : AS} {Q : Exit → Act → World → Prop} {K : Act → World → Prop}

/-- What is so of the loop in a world of the iterator's. -/
theorem Looping.now (L : Looping P X E ps asg body l a1 pend N C) (sat : Sat C S ν st a w) : Sat X S ν ⟨E, st.hp, st.nid⟩ a1 w ∧ X.w0.heap.size ≤ l ∧ ¬ S l ∧ l ∉ blks ν st.hp ∧
    ∃ fn D, w.heap[l]? = some (.loop { state := if pend.isNone then .ready else .done, pending := pend, fn := fn, tmps := a1.tmps, params := ps.toArray, assign := asg, body := body, defers := D }) := by
  obtain ⟨S0, ν0, s0, w0, fn, D, h0, rfl, rfl, h1, h2, h3, h4⟩ := L.go
  have hlt : l < w0.heap.size := (Array.getElem?_eq_some_iff.1 h4).1
  refine ⟨h0.leave sat, h1, fun hs => ?_, fun hm => ?_, fn, D, (sat.frame.block l hlt h3).trans h4⟩
  · rcases (sat.imm l hs).2 with h | h | h
    · exact h2 h
    · exact absurd (show w0.heap.size ≤ l from h) (by omega)
    · exact h3 h
  · rcases (sat.blk l hm).2.2 with h | h
    · exact absurd (show w0.heap.size ≤ l from h) (by omega)
    · exact h3 h

theorem capV_lt {m : Nat} : ∀ {caps : List (Nat × Nat)}, (∀ p ∈ caps, p.1 < m) → ∀ (k : Nat) (v : AV), (capV caps)[k]? = some v → v.lt m
  | [], _, k, v, h => by simp [capV] at h
  | (id, off) :: r, hc, 0, v, h => by
    simp only [capV, List.getElem?_cons_zero, Option.some.injEq] at h
    subst h
    exact hc (id, off) (List.mem_cons_self ..)
  | (id, off) :: r, hc, k + 1, v, h => capV_lt (caps := r) (fun p hp => hc p (List.mem_cons_of_mem _ hp)) k v (by simpa [capV] using h)
theorem acallee_lt (sat : Sat X S ν st a w) {ce : Callee} {f : FuncId} {caps : List AV} (h : acallee st ce = some (f, caps)) : ∀ (k : Nat) (v : AV), caps[k]? = some v → v.lt st.nid := by
  unfold acallee at h
  split at h
  · split at h
    · split at h
      · cases h; intro k v hk; simp at hk
      · cases h
    · rename_i hx
      cases h
      exact capV_lt (aop_ok sat hx).2
    · cases h
  · cases h

/-- A range over an iterator. -/
theorem TE.range {g : Operand} {ps : List Tmp} {asg body : Code} {gf : FuncId} {caps : List AV} {ifn : Func} {ic : Code} {N : Nat} (hg : acallee st (.value g) = some (gf, caps)) (hf : P.funcs[gf]? = some ifn) (hb : ifn.body = some ic) (hn : (ifn.name == "runtime.NumGoroutine") = false) (hN : ifn.ntmps = N) (hw : Nat.ble (1 + caps.length) N = true) (hmk : X.mks = true)
    (h : ∀ l a1 w0 B0 S0 ν0, Looping P X st.env ps asg body l a1 none N ⟨N, w0, B0, S0, ν0, st.nid, false⟩ → TE ⟨N, w0, B0, S0, ν0, st.nid, false⟩ (ic.wpIn Fence.wide 0 P (postR P ifn (rangePost Fence.wide 0 P l Q a1))) ⟨env0 0 (.o (.c (.func (.yield l) #[] #[])) :: caps), st.hp, st.nid⟩) :
    TE X ((Code.rangeFunc g ps.toArray asg body).wpIn Fence.wide 0 P Q) st := by
  intro S ν a w sat
  refine wpIn_rangeFunc fun fn _ => ?_
  obtain ⟨xf, us, e1, e2, e3⟩ := acallee_ok sat hg
  have e4 := acallee_lt sat hg
  obtain ⟨rec, hrec⟩ : ∃ rec : Loop, rec = { state := .ready, pending := none, fn := fn, tmps := a.tmps, params := ps.toArray, assign := asg, body := body, defers := w.heap.size } := ⟨_, rfl⟩
  obtain ⟨W, hW⟩ : ∃ W, (w.alloc (.deferred (some []))).alloc (.loop rec) = W := ⟨_, rfl⟩
  have hD : W.heap[w.heap.size]? = some (.deferred (some [])) := by
    rw [← hW]; exact (Below.heap_alloc _ _ _ (by simp)).trans (World.alloc_heap_new w _)
  have hL : W.heap[w.heap.size + 1]? = some (.loop rec) := by
    rw [← hW]; have := World.alloc_heap_new (w.alloc (.deferred (some []))) (.loop rec); rwa [World.size_alloc] at this
  have fr : Fr (fun _ => False) w W := by
    rw [← hW]
    refine ⟨rfl, rfl, rfl, by simp; omega, fun k hk _ => ?_⟩
    exact (Below.heap_alloc _ _ _ (by simp; omega)).trans (Below.heap_alloc _ _ _ hk)
  have sat1 : Sat X S ν st { a with defers := { target := .collected w.heap.size, args := #[] } :: a.defers } W := by
    refine (sat.grow fr).mark hD sat.frame.size (fun hs => ?_) (fun hm => ?_) (fun hm => ?_) hmk
    · have := (sat.imm _ hs).1; omega
    · have := (sat.blk _ hm).1; omega
    · obtain ⟨D, d1, d2, _⟩ := sat.defers.1 _ hm
      cases d1
      have := (Array.getElem?_eq_some_iff.1 d2).1; omega
  have L : Looping P X st.env ps asg body (w.heap.size + 1) { a with defers := { target := .collected w.heap.size, args := #[] } :: a.defers } none N (cxAt false N S ν st W) := by
    refine ⟨S, ν, st, W, fn, w.heap.size, sat1, rfl, rfl, ?_, fun hs => ?_, fun hm => ?_, by rw [hL, hrec]; rfl⟩
    · have := sat.frame.size; omega
    · have := (sat.imm _ hs).1; omega
    · have := (sat.blk _ hm).1; omega
  have hsz : (#[.func (.yield (w.heap.size + 1)) #[] #[]] ++ us.toArray : Array Value).toList = .func (.yield (w.heap.size + 1)) #[] #[] :: us := by simp
  refine ⟨w.heap.size + 1, [{ target := .collected w.heap.size, args := #[] }], W, { target := .fn (.func gf) us.toArray, args := #[.func (.yield (w.heap.size + 1)) #[] #[]] }, W, gf, #[.func (.yield (w.heap.size + 1)) #[] #[]] ++ us.toArray, W, ?_, ?_, fun _ _ => trivial, ?_, (fun h => nomatch h), callsIn_of_wp_marks (F := Fence.wide) (n := 0) hf hb trivial (Code.wpIn_mono (fun _ _ _ h => postR_M h) ?_)⟩
  · rw [← hW, hrec]; exact run_enterLoop_outer _ _ _ _ _
  · cases e1
    simp only [resolve, e2, Deferred.ofValue, rangeCall, Sem.run_pure]
    simp [Act.eval]
  · simp only [invoke]
    exact callFunc_body hf hn (by rw [hb]; rfl) _ W
  · have hle := e3.length
    have hw' : 1 + caps.length ≤ N := Nat.le_of_ble_eq_true hw
    refine h _ _ W (fun b => b ∈ blks ν st.hp) S ν L S ν _ W (sat1.enter false (N := N) rfl (by simp; omega) fun p hp => ?_)
    obtain ⟨k, h1, h2⟩ := env0_mem hp
    rw [Nat.zero_add] at h1
    have gr : Gr w W S S := ⟨fr.size, fun b _ hb => fr.block b hb id, fun _ h => h⟩
    rw [h1]
    cases k with
    | zero =>
      have h2' : p.2 = .o (.c (.func (.yield (w.heap.size + 1)) #[] #[])) := by simpa using h2.symm
      rw [h2']
      exact ⟨by omega, ⟨by simp [Array.getElem?_append], rfl⟩, trivial⟩
    | succ k =>
      have h2' : caps[k]? = some p.2 := by simpa using h2
      have hk : k < caps.length := (List.getElem?_eq_some_iff.1 h2').1
      obtain ⟨u, h3, h4⟩ := e3.get h2'
      have hlt : p.2.lt st.nid := e4 k p.2 h2'
      refine ⟨by omega, ?_, hlt⟩
      have hk' : k < us.length := (List.getElem?_eq_some_iff.1 h3).1
      have hu : us[k] = u := by rw [List.getElem?_eq_getElem hk'] at h3; exact Option.some.inj h3
      have : (#[Value.func (.yield (w.heap.size + 1)) #[] #[]] ++ us.toArray ++ Array.replicate (ifn.ntmps - (#[Value.func (.yield (w.heap.size + 1)) #[] #[]] ++ us.toArray : Array Value).size) undef).getD (k + 1) undef = u := by
        have hk2 : k + 1 < us.length + 1 := by omega
        simp [Array.getElem?_append, hk', hk2, hu]
      rw [this]
      exact AV.mono gr (fun _ _ => rfl) hlt h4

/-- The slots of the loop's variables are filled. -/
def putPs : List Tmp → List AV → AS → AS
  | t :: ts, v :: vs, st => putPs ts vs (st.put (some t) v)
  | _, _, st => st
theorem Sat.putPs {S : Nat → Prop} {ν : Nat → Value} {w : World} : ∀ {ts : List Tmp} {vs : List AV} {us : List Value} {st : AS} {a : Act}, Sat X S ν st a w → All2 (AV.rel w S ν) vs us → (∀ v ∈ vs, v.lt st.nid) → (∀ t ∈ ts, t < X.N) →
    Sat X S ν (putPs ts vs st) { a with tmps := (ts.zip us).foldl (fun r (p : Tmp × Value) => r.setIfInBounds p.1 p.2) a.tmps } w
  | [], vs, us, st, a, h, _, _, _ => by cases vs <;> exact h
  | t :: ts, [], [], st, a, h, _, _, _ => h
  | t :: ts, [], _ :: _, st, a, h, hr, _, _ => hr.elim
  | t :: ts, _ :: _, [], st, a, h, hr, _, _ => hr.elim
  | t :: ts, v :: vs, u :: us, st, a, h, hr, hl, ht => by
    have h1 := h.put (dst := some t) (fun d hd => by cases hd; exact ht t (List.mem_cons_self ..)) hr.1 (hl v (List.mem_cons_self ..))
    exact Sat.putPs (ts := ts) (vs := vs) (us := us) h1 hr.2 (fun v' hv => by rw [(AS.put_hp _ _ _).2]; exact hl v' (List.mem_cons_of_mem _ hv)) (fun t' h' => ht t' (List.mem_cons_of_mem _ h'))

/-- The post of one round: behind it the iterator goes on with the answer true, or, where the loop is left by a jump, with false. -/
structure Rnd (P : Program) (X C : Cx) (E : Env) (ps : List Tmp) (asg body : Code) (l : Nat) (a1 : Act) (N : Nat) (Ei : Env) (dst : Option Tmp) (K : Act → World → Prop) (Qr : Exit → Act → World → Prop) (C' : Cx) : Prop where
  normal : ∀ {st}, TE C K ((AS.mk Ei st.hp st.nid).put dst (.o (.c (.bool true)))) → TE C' (Qr .normal) st
  ret : ∀ {st}, (∀ w0 B0 S0 ν0, Looping P X E ps asg body l a1 (some .ret) N ⟨N, w0, B0, S0, ν0, st.nid, false⟩ → TE ⟨N, w0, B0, S0, ν0, st.nid, false⟩ K ((AS.mk Ei st.hp st.nid).put dst (.o (.c (.bool false))))) → TE C' (Qr .ret) st
  exit : ∀ {st id}, (∀ w0 B0 S0 ν0, Looping P X E ps asg body l a1 (some (.exit id)) N ⟨N, w0, B0, S0, ν0, st.nid, false⟩ → TE ⟨N, w0, B0, S0, ν0, st.nid, false⟩ K ((AS.mk Ei st.hp st.nid).put dst (.o (.c (.bool false))))) → TE C' (Qr (.exit id)) st
  panic : PanicOk Qr
/-- The assignment to the loop's variables is done: the round begins. -/
def Begin (P : Program) (l : Nat) (body : Code) (Qr : Exit → Act → World → Prop) (a : Act) (w : World) : Prop := ∃ w', (Instr.beginRound l).run P w = .ok () w' ∧ body.wpIn (RF l) 0 P Qr a w'
structure Rnd0 (P : Program) (X C : Cx) (E : Env) (ps : List Tmp) (asg body : Code) (l : Nat) (a1 : Act) (N : Nat) (Ei : Env) (dst : Option Tmp) (K : Act → World → Prop) (Qr : Exit → Act → World → Prop) (C' : Cx) : Prop where
  begin : ∀ {st}, (∀ w0 B0 S0 ν0, Rnd P X C E ps asg body l a1 N Ei dst K Qr ⟨C'.N, w0, B0, S0, ν0, st.nid, false⟩ → TE ⟨C'.N, w0, B0, S0, ν0, st.nid, false⟩ (body.wpIn (RF l) 0 P Qr) st) → TE C' (Begin P l body Qr) st

def allLtB (N : Nat) : List Nat → Bool
  | [] => true
  | t :: r => match Nat.blt t N with
    | true => allLtB N r
    | false => false
theorem allLtB_ok {N : Nat} : ∀ {ts : List Nat}, allLtB N ts = true → ∀ t ∈ ts, t < N
  | [], _, t, h => nomatch h
  | x :: r, h, t, ht => by
    simp only [allLtB] at h
    split at h
    · rename_i hb
      rcases List.mem_cons.1 ht with rfl | ht
      · exact Nat.le_of_ble_eq_true hb
      · exact allLtB_ok h t ht
    · cases h
theorem aops_lt {st : AS} {a : Act} {w : World} {S : Nat → Prop} {ν : Nat → Value} (sat : Sat X S ν st a w) : ∀ {xs : List Operand} {vs : List AV}, aops st xs = some vs → ∀ v ∈ vs, v.lt st.nid
  | [], vs, h, v, hv => by cases h; cases hv
  | x :: xs, vs, h, v, hv => by
    simp only [aops] at h
    split at h
    · rename_i u r h1 h2
      cases h
      rcases List.mem_cons.1 hv with rfl | hv
      · exact (aop_ok sat h1).2
      · exact aops_lt sat h2 v hv
    · cases h

/-- A call of yield: a round. -/
theorem yield_op (L : Looping P X E ps asg body l a1 none N C) {o : Oper} {c : Call} {x : Operand} {vs : List AV} {Nx : Nat} (ho : o.op = .call c) (hc : c.callee = .value x) (hx : aop st x = some (.o (.c (.func (.yield l) #[] #[])))) (hv : aops st c.args.toList = some vs) (hlen : Nat.beq vs.length ps.length = true) (hN : X.N = Nx) (hps : allLtB Nx ps = true)
    (hd : ∀ d, o.dst = some d → d < C.N) (K : Act → World → Prop)
    (h : ∀ Qr w0 B0 S0 ν0, Rnd0 P X C E ps asg body l a1 N st.env o.dst K Qr ⟨Nx, w0, B0, S0, ν0, st.nid, false⟩ → TE ⟨Nx, w0, B0, S0, ν0, st.nid, false⟩ (asg.wpIn (RF l) 0 P (Exit.then (Begin P l body Qr) (fun _ _ _ => False))) (putPs ps vs ⟨E, st.hp, st.nid⟩))
    (sat : Sat C S ν st a w) : o.wpIn Fence.wide 0 P a w K Q := by
  subst hN
  obtain ⟨b1, b2, b3, b4, fn, D, b5⟩ := L.now sat
  have hNC : C.N = N := by obtain ⟨_, _, _, _, _, _, _, _, e, _⟩ := L.go; rw [e]
  have hmkC : C.mks = false := by obtain ⟨_, _, _, _, _, _, _, _, e, _⟩ := L.go; rw [e]
  have hvs := aops_ok sat hv
  have hvl := aops_lt sat hv
  have ha : a.eval x = .func (.yield l) #[] #[] := (aop_ok sat hx).1.1
  have hsz : (c.args.map a.eval).size = ps.toArray.size := by
    have h1 := hvs.length
    have h2 := Nat.eq_of_beq_eq_true hlen
    simp at h1 ⊢; omega
  have hrun : (execOp a.eval o).run P w = .ok (.round l fn ((ps.toArray.zip (c.args.map a.eval)).foldl (fun ts (t, v) => ts.setIfInBounds t v) a1.tmps) asg body) w := by
    unfold execOp
    rw [ho]
    simp only [resolve, hc, ha, Deferred.ofValue, Sem.run_bind, Sem.run_pure, Result.andThen_ok, invoke]
    have := run_yield (P := P) (args := c.args.map a.eval) b5 hsz
    simpa using this
  refine ⟨fun _ _ => trivial, ?_⟩
  rw [show Fence.wide.round = none from rfl, Oper.semAt_none, hrun]
  obtain ⟨Rr, hRr⟩ : ∃ Rr : Ending → World → Prop, Rr = fun (e : Ending) w'' => match e with
      | .returned v => K (a.put o.dst v) w''
      | .panicked chain => Q (.panic chain) a w''
      | .outgrown => LetsOut Q := ⟨_, rfl⟩
  refine ⟨(fun h => nomatch h), RoundIn.mono (R := Rr) (roundIn_of_wpIn trivial ?_) (fun e w' h => by rw [hRr] at h; cases e <;> exact h)⟩
  have hbase : Sat (cxAt false X.N S ν ⟨E, st.hp, st.nid⟩ w) S ν ⟨E, st.hp, st.nid⟩ { tmps := a1.tmps, defers := [] } w := b1.enter false rfl b1.size fun p hp => ⟨(b1.env p hp).1, (b1.env p hp).2, b1.elt p hp⟩
  have hput := hbase.putPs hvs hvl (allLtB_ok hps)
  have hzip : ((ps.toArray.zip (c.args.map a.eval)).foldl (fun ts (t, v) => ts.setIfInBounds t v) a1.tmps) = (ps.zip (c.args.toList.map a.eval)).foldl (fun r (p : Tmp × Value) => r.setIfInBounds p.1 p.2) a1.tmps := by
    rw [← Array.foldl_toList]
    simp
  rw [hzip]
  refine h (roundPost P l Rr) w (fun b => b ∈ blks ν st.hp) S ν ⟨?_⟩ S ν _ w hput
  -- the round begins
  intro sta hgo S1 ν1 a1' w1 sat1
  have hlt : l < w.heap.size := (Array.getElem?_eq_some_iff.1 b5).1
  have c1 : w1.heap[l]? = _ := (sat1.frame.block l hlt b4).trans b5
  have c2 : ¬ S1 l := fun hs => by
    rcases (sat1.imm l hs).2 with h | h | h
    · exact b3 h
    · exact absurd (show w.heap.size ≤ l from h) (by omega)
    · exact b4 h
  have c3 : l ∉ blks ν1 sta.hp := fun hm => by
    rcases (sat1.blk l hm).2.2 with h | h
    · exact absurd (show w.heap.size ≤ l from h) (by omega)
    · exact b4 h
  have c4 : Sat X S1 ν1 ⟨E, sta.hp, sta.nid⟩ a1 w1 := b1.leave (mk := false) (N := X.N) sat1
  refine ⟨_, run_beginRound c1 rfl, ?_⟩
  obtain ⟨w2, hw2⟩ : ∃ w2, w2 = w1.putObj l (.loop { state := .busy, pending := none, fn := fn, tmps := a1.tmps, params := ps.toArray, assign := asg, body := body, defers := D }) := ⟨_, rfl⟩
  have e2 : w2.heap[l]? = some (.loop { state := .busy, pending := none, fn := fn, tmps := a1.tmps, params := ps.toArray, assign := asg, body := body, defers := D }) := by
    rw [hw2]; exact World.putObj_heap_same (Array.getElem?_eq_some_iff.1 c1).1
  have c5 : Sat X S1 ν1 ⟨E, sta.hp, sta.nid⟩ a1 w2 := by rw [hw2]; exact c4.turn c1 (fun _ h => nomatch h) b2 c2 c3
  have gr : Gr w1 w2 S1 S1 := ⟨by rw [hw2]; simp, fun b hb _ => by rw [hw2]; exact World.putObj_heap_other fun e => c2 (e ▸ hb), fun _ h => h⟩
  have c6 : Sat (cxAt false X.N S1 ν1 ⟨E, sta.hp, sta.nid⟩ w2) S1 ν1 ⟨sta.env, sta.hp, sta.nid⟩ a1' w2 := c5.enter false (sat1.defers.2.2 rfl) sat1.size fun p hp => ⟨(sat1.env p hp).1, AV.mono gr (fun _ _ => rfl) (sat1.elt p hp) (sat1.env p hp).2, sat1.elt p hp⟩
  have hlt2 : l < w2.heap.size := (Array.getElem?_eq_some_iff.1 e2).1
  show body.wpIn (RF l) 0 P (roundPost P l Rr) a1' _
  rw [← hw2]
  -- the end of the round
  have fin : ∀ {S3 : Nat → Prop} {ν3 : Nat → Value} {st3 : AS} {a3 : Act} {w3 : World}, Sat (cxAt false X.N S1 ν1 ⟨E, sta.hp, sta.nid⟩ w2) S3 ν3 st3 a3 w3 →
      w3.heap[l]? = some (.loop { state := .busy, pending := none, fn := fn, tmps := a1.tmps, params := ps.toArray, assign := asg, body := body, defers := D }) ∧ ¬ S3 l ∧ l ∉ blks ν3 st3.hp ∧ Sat X S3 ν3 ⟨E, st3.hp, st3.nid⟩ a1 w3 ∧
        (∀ k, k < w.heap.size → k ∉ blks ν st.hp → k ≠ l → w3.heap[k]? = w.heap[k]?) ∧ w3.os = w.os ∧ w3.tape = w.tape ∧ w3.output = w.output ∧ w.heap.size ≤ w3.heap.size ∧ (∀ i, i < st.nid → ν3 i = ν i) ∧ (∀ b, S b → S3 b) ∧ st.nid ≤ st3.nid ∧
        (∀ b, S3 b → S b ∨ w.heap.size ≤ b ∨ b ∈ blks ν st.hp) ∧ (∀ b, b ∈ blks ν3 st3.hp → w.heap.size ≤ b ∨ b ∈ blks ν st.hp) := by
    intro S3 ν3 st3 a3 w3 sat3
    have hsz12 : w2.heap.size = w1.heap.size := by rw [hw2]; simp
    have s01 : w.heap.size ≤ w1.heap.size := sat1.frame.size
    refine ⟨(sat3.frame.block l hlt2 c3).trans e2, fun hs => ?_, fun hm => ?_, c5.leave sat3, fun k hk hb hkl => ?_, ?_, ?_, ?_, ?_, fun i hi => ?_, fun b hb => sat3.imm0 b (sat1.imm0 b hb), Nat.le_trans sat1.ge sat3.ge, fun b hb => ?_, fun b hb => ?_⟩
    · rcases (sat3.imm l hs).2 with h | h | h
      · exact c2 h
      · exact absurd (show w2.heap.size ≤ l from h) (by omega)
      · exact c3 h
    · rcases (sat3.blk l hm).2.2 with h | h
      · exact absurd (show w2.heap.size ≤ l from h) (by omega)
      · exact c3 h
    · have hk2 : k < w2.heap.size := by omega
      have hk3 : k ∉ blks ν1 sta.hp := fun hm => by
        rcases (sat1.blk k hm).2.2 with h | h
        · exact absurd (show w.heap.size ≤ k from h) (by omega)
        · exact hb h
      rw [sat3.frame.block k hk2 hk3, hw2, World.putObj_heap_other hkl]
      exact sat1.frame.block k hk hb
    · rw [sat3.frame.os, hw2]; exact sat1.frame.os
    · rw [sat3.frame.tape, hw2]; exact sat1.frame.tape
    · rw [sat3.frame.output, hw2]; exact sat1.frame.output
    · have := sat3.frame.size; have h' : w2.heap.size ≤ w3.heap.size := this; omega
    · rw [sat3.fix i (Nat.lt_of_lt_of_le hi sat1.ge)]; exact sat1.fix i hi
    · rcases (sat3.imm b hb).2 with h | h | h
      · rcases (sat1.imm b h).2 with h | h | h
        · exact .inl h
        · exact .inr (.inl h)
        · exact .inr (.inr h)
      · exact .inr (.inl (by have : w2.heap.size ≤ b := h; omega))
      · rcases (sat1.blk b h).2.2 with h | h
        · exact .inr (.inl h)
        · exact .inr (.inr h)
    · rcases (sat3.blk b hb).2.2 with h | h
      · exact .inl (by have : w2.heap.size ≤ b := h; omega)
      · rcases (sat1.blk b h).2.2 with h | h
        · exact .inl h
        · exact .inr h
  have stop : ∀ {S3 : Nat → Prop} {ν3 : Nat → Value} {st3 : AS} {a3 : Act} {w3 : World} (j : Code), Sat (cxAt false X.N S1 ν1 ⟨E, sta.hp, sta.nid⟩ w2) S3 ν3 st3 a3 w3 →
      (∀ w0 B0 S0 ν0, Looping P X E ps asg body l a1 (some j) N ⟨N, w0, B0, S0, ν0, st3.nid, false⟩ → TE ⟨N, w0, B0, S0, ν0, st3.nid, false⟩ K ((AS.mk st.env st3.hp st3.nid).put o.dst (.o (.c (.bool false))))) →
      ∃ v w', (Instr.endRound l (some j)).run P w3 = .ok v w' ∧ Rr (.returned v) w' := by
    intro S3 ν3 st3 a3 w3 j sat3 hk
    obtain ⟨f1, f2, f3, f4, f5, f6, f7, f8, f9, f10, f11, f12, f13, f14⟩ := fin sat3
    refine ⟨_, _, run_endRound (some j) f1, ?_⟩
    rw [hRr]
    show K (a.put o.dst (.bool false)) _
    obtain ⟨w4, hw4⟩ : ∃ w4, w4 = w3.putObj l (.loop { state := .done, pending := some j, fn := fn, tmps := a1.tmps, params := ps.toArray, assign := asg, body := body, defers := D }) := ⟨_, rfl⟩
    have g4 : w4.heap[l]? = some (.loop { state := .done, pending := some j, fn := fn, tmps := a1.tmps, params := ps.toArray, assign := asg, body := body, defers := D }) := by
      rw [hw4]; exact World.putObj_heap_same (Array.getElem?_eq_some_iff.1 f1).1
    have g5 : Sat X S3 ν3 ⟨E, st3.hp, st3.nid⟩ a1 w4 := by rw [hw4]; exact f4.turn f1 (fun _ h => nomatch h) b2 f2 f3
    have gr4 : Gr w w4 S S3 := ⟨by rw [hw4, World.putObj_size]; exact f9, fun b hb hlt => by
      have hne : b ≠ l := fun e => b3 (by rw [← e]; exact hb)
      rw [hw4, World.putObj_heap_other hne]
      exact f5 b hlt (fun hm => (sat.blk b hm).2.1 hb) hne, f11⟩
    have g6 : Sat (cxAt false N S3 ν3 ⟨E, st3.hp, st3.nid⟩ w4) S3 ν3 ⟨st.env, st3.hp, st3.nid⟩ a w4 := g5.enter false (sat.defers.2.2 hmkC) (by rw [sat.size]; exact hNC) fun p hp =>
      ⟨by rw [← hNC]; exact (sat.env p hp).1, AV.mono gr4 (fun i hi => f10 i hi) (sat.elt p hp) (sat.env p hp).2, AV.lt_mono f12 (sat.elt p hp)⟩
    have g9 := hk w4 (fun b => b ∈ blks ν3 st3.hp) S3 ν3 ⟨S3, ν3, ⟨E, st3.hp, st3.nid⟩, w4, fn, D, g5, rfl, rfl, b2, f2, f3, g4⟩ S3 ν3 _ w4 (g6.put (dst := o.dst) (fun d hd' => by show d < N; rw [← hNC]; exact hd d hd') (v := .o (.c (.bool false))) (u := .bool false) ⟨rfl, rfl⟩ trivial)
    rw [hw4] at g9; exact g9
  refine hgo w2 (fun b => b ∈ blks ν1 sta.hp) S1 ν1 ⟨?_, ?_, ?_, ?_⟩ S1 ν1 a1' w2 c6
  · intro st3 hk S3 ν3 a3 w3 sat3
    obtain ⟨f1, f2, f3, f4, f5, f6, f7, f8, f9, f10, f11, f12, f13, f14⟩ := fin sat3
    refine ⟨_, _, run_endRound none f1, ?_⟩
    rw [hRr]
    show K (a.put o.dst (.bool true)) _
    obtain ⟨w4, hw4⟩ : ∃ w4, w4 = w3.putObj l (.loop { state := .ready, pending := none, fn := fn, tmps := a1.tmps, params := ps.toArray, assign := asg, body := body, defers := D }) := ⟨_, rfl⟩
    have g5 : Sat X S3 ν3 ⟨E, st3.hp, st3.nid⟩ a1 w4 := by rw [hw4]; exact f4.turn f1 (fun _ h => nomatch h) b2 f2 f3
    have g4 : w4.heap[l]? = some (.loop { state := .ready, pending := none, fn := fn, tmps := a1.tmps, params := ps.toArray, assign := asg, body := body, defers := D }) := by
      rw [hw4]; exact World.putObj_heap_same (Array.getElem?_eq_some_iff.1 f1).1
    have g6 : Fr (fun b => b ∈ blks ν st.hp) w w4 := by
      refine ⟨by rw [hw4]; exact f6, by rw [hw4]; exact f7, by rw [hw4]; exact f8, by rw [hw4, World.putObj_size]; exact f9, fun k hk hb => ?_⟩
      by_cases e : k = l
      · rw [e, g4, b5]; rfl
      · rw [hw4, World.putObj_heap_other e]; exact f5 k hk hb e
    have g7 := sat.swap (takes := st.hp) (rest := []) (gives := st3.hp) (nid := st3.nid) (S' := S3) (ν' := ν3) (w' := w4) (by simp) g6 f10 f11 (fun b hb => ⟨(g5.imm b hb).1, f13 b hb⟩) g5.hp g5.nd (fun b hb => ⟨(g5.blk b hb).1, (g5.blk b hb).2.1, (f14 b hb).symm⟩) g5.hlt f12
    have g8 : Sat C S3 ν3 ⟨st.env, st3.hp, st3.nid⟩ a w4 := by simpa using g7
    have g9 := hk S3 ν3 _ w4 (g8.put (dst := o.dst) hd (v := .o (.c (.bool true))) (u := .bool true) ⟨rfl, rfl⟩ trivial)
    rw [hw4] at g9; exact g9
  · intro st3 hk S3 ν3 a3 w3 sat3
    exact stop .ret sat3 hk
  · intro st3 id hk S3 ν3 a3 w3 sat3
    exact stop (.exit id) sat3 hk
  · exact fun d v c a w h => h

theorem TE.yield (L : Looping P X E ps asg body l a1 none N C) {lo rest : List Oper} {o : Oper} {c : Call} {x : Operand} {vs : List AV} {Nx Nc : Nat} (hC : C.N = Nc) (hd : dstOk Nc o = true) (hg : aguard lo st o = some true) (ho : o.op = .call c) (hc : c.callee = .value x) (hx : aop st x = some (.o (.c (.func (.yield l) #[] #[])))) (hv : aops st c.args.toList = some vs) (hlen : Nat.beq vs.length ps.length = true) (hN : X.N = Nx) (hps : allLtB Nx ps = true)
    (h : ∀ Qr w0 B0 S0 ν0, Rnd0 P X C E ps asg body l a1 N st.env o.dst (wpListIn Fence.wide 0 P lo.toArray Q rest) Qr ⟨Nx, w0, B0, S0, ν0, st.nid, false⟩ → TE ⟨Nx, w0, B0, S0, ν0, st.nid, false⟩ (asg.wpIn (RF l) 0 P (Exit.then (Begin P l body Qr) (fun _ _ _ => False))) (putPs ps vs ⟨E, st.hp, st.nid⟩)) :
    TE C (wpListIn Fence.wide 0 P lo.toArray Q (o :: rest)) st := by
  subst hC
  intro S ν a w sat
  have hw := aguard_ok (ops := lo.toArray) sat (by simpa using hg)
  simp only [wpListIn, hw, if_true]
  exact yield_op L ho hc hx hv hlen hN hps (dstOk_spec hd) _ h sat

theorem iter_leaves (L : Looping P X E ps asg body l a1 pend N C) {ifn : Func} (hr : ifn.results.toList = []) (sat : Sat C S ν st a w) {R : Ending → World → Prop} (h : ∀ v, R (.returned v) w) : LeavesInM Fence.wide 0 P ifn a.tmps R a.defers .returning w := by
  have hmk : C.mks = false := by obtain ⟨_, _, _, _, _, _, _, _, e, _⟩ := L.go; rw [e]
  rw [sat.defers.2.2 hmk]
  refine ⟨.tuple #[], ?_, h _⟩
  unfold results
  rw [show ifn.results = #[] by rw [← Array.toList_inj]; exact hr]
  simp [Sem.run_bind, Sem.run_pure]
/-- The iterator returns: all rounds went. -/
theorem TE.iterEnd (L : Looping P X E ps asg body l a1 none N C) {ifn : Func} {e : Exit} (he : e = .normal ∨ e = .ret) (hr : ifn.results.toList = []) (h : TE X (Q .normal) ⟨E, st.hp, st.nid⟩) : TE C (postR P ifn (rangePost Fence.wide 0 P l Q a1) e) st := by
  intro S ν a w sat
  obtain ⟨b1, b2, b3, b4, fn, D, b5⟩ := L.now sat
  have key : LeavesInM Fence.wide 0 P ifn a.tmps (rangePost Fence.wide 0 P l Q a1) a.defers .returning w :=
    iter_leaves L hr sat fun v => ⟨_, _, run_endLoop b5 (by simp), h S ν a1 _ (b1.turn b5 (fun _ h => nomatch h) b2 b3 b4)⟩
  rcases he with rfl | rfl <;> exact key
/-- The iterator returns: a round has left the loop by a jump. -/
theorem TE.iterStop {j : Code} (L : Looping P X E ps asg body l a1 (some j) N C) {ifn : Func} {e : Exit} (he : e = .normal ∨ e = .ret) (hr : ifn.results.toList = []) (h : TE X (j.wpIn Fence.wide 0 P Q) ⟨E, st.hp, st.nid⟩) : TE C (postR P ifn (rangePost Fence.wide 0 P l Q a1) e) st := by
  intro S ν a w sat
  obtain ⟨b1, b2, b3, b4, fn, D, b5⟩ := L.now sat
  have key : LeavesInM Fence.wide 0 P ifn a.tmps (rangePost Fence.wide 0 P l Q a1) a.defers .returning w :=
    iter_leaves L hr sat fun v => ⟨_, _, run_endLoop b5 (by simp), h S ν a1 _ (b1.turn b5 (fun _ h => nomatch h) b2 b3 b4)⟩
  rcases he with rfl | rfl <;> exact key
end
end Go.Proofs.Ytfcihdkflnpcgaa.Am
