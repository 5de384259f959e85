/- Texts of this claim, joined. -/
import Derived.Test.YthhpofehcnjmmaaPk2
import Derived.Laws.StructEq
import Derived.Lib.Overlaps
import GoSem.Core.Utf8
import Derived.Laws.NewFold
import Derived.Deep.Slices
import Derived.Deep.Fields
import Derived.ChangeArms
import Derived.ChangeSame
import Derived.ChangeSlices
import Derived.ChangeOld
import Derived.OpenShut
import Derived.Carry
import Derived.ProofKit
import Derived.Lib.Join
import Derived.MapKept
import Derived.WideLaws
import Derived.ScopeJumps
set_option linter.unusedSimpArgs false
set_option linter.unusedVariables false
namespace Go.Proofs.Ythhpofehcnjmmaa.Am
open Go.RowKit Lw

section
variable {P : Program} {X : Cx} {st st' : AS} {S S' : Nat → Prop} {ν ν' : Nat → Value} {a a' : Act} {w w' : World} {Q : Exit → Act → World → Prop} {R : Act → World → Prop}

abbrev cxAt (mk : Bool) (N : Nat) (S : Nat → Prop) (ν : Nat → Value) (st : AS) (w : World) : Cx := ⟨N, w, fun b => b ∈ blks ν st.hp, S, ν, st.nid, mk⟩

theorem Sat.enter (mk : Bool) (h : Sat X S ν st a w) {N : Nat} {env : Env} (hd : a'.defers = []) (hs : a'.tmps.size = N) (he : ∀ p ∈ env, p.1 < N ∧ p.2.rel w S ν (a'.tmps.getD p.1 undef) ∧ p.2.lt st.nid) : Sat (cxAt mk N S ν st w) S ν ⟨env, st.hp, st.nid⟩ a' w :=
  ⟨by rw [hd]; exact ⟨(fun d hd => nomatch hd), List.nodup_nil, fun _ => rfl⟩, hs, fun p hp => ⟨(he p hp).1, (he p hp).2.1⟩, h.hp, h.nd, fun b hb => ⟨(h.blk b hb).1, (h.blk b hb).2.1, .inr hb⟩, fun b hb => ⟨(h.imm b hb).1, .inl hb⟩, fun _ h => h, Fr.refl _ _, fun p hp => (he p hp).2.2, h.hlt, fun _ _ => rfl, Nat.le_refl _⟩

theorem Sat.leave {N : Nat} {mk : Bool} (h : Sat X S ν st a w) (h' : Sat (cxAt mk N S ν st w) S' ν' st' a' w') : Sat X S' ν' ⟨st.env, st'.hp, st'.nid⟩ a w' := by
  have := h.swap (takes := st.hp) (rest := []) (gives := st'.hp) (nid := st'.nid) (S' := S') (ν' := ν') (w' := w') (by simp) h'.frame h'.fix h'.imm0 (fun b hb => (h'.imm b hb)) h'.hp h'.nd (fun b hb => ⟨(h'.blk b hb).1, (h'.blk b hb).2.1, (h'.blk b hb).2.2.symm⟩) h'.hlt h'.ge
  simpa using this

theorem Sat.turn (h : Sat X S ν st a w) {l : Nat} {o o' : Obj} (hl : w.heap[l]? = some o) (ho : ∀ d, o ≠ .deferred d) (h0 : X.w0.heap.size ≤ l) (hS : ¬ S l) (hb : l ∉ blks ν st.hp) : Sat X S ν st a (w.putObj l o') := by
  have gr : Gr w (w.putObj l o') S S := ⟨by simp, fun b hb _ => World.putObj_heap_other fun e => hS (e ▸ hb), fun _ h => h⟩
  refine ⟨⟨fun d hd => ?_, h.defers.2⟩, h.size, fun p hp => ⟨(h.env p hp).1, AV.mono gr (fun _ _ => rfl) (h.elt p hp) (h.env p hp).2⟩, fun c hc => Chunk.mono gr (fun _ _ => rfl) (h.hlt c hc) (fun b hb' => World.putObj_heap_other fun e => hb (mem_blks.2 ⟨c, hc, e ▸ hb'⟩)) (h.hp c hc), h.nd, fun b hb => ?_, fun b hb => ?_, h.imm0, ?_, h.elt, h.hlt, h.fix, h.ge⟩
  · obtain ⟨D, e, f1, f2, f3, f4⟩ := h.defers.1 d hd
    refine ⟨D, e, ?_, f2, f3, f4⟩
    rw [World.putObj_heap_other fun (e : D = l) => ?_]
    · exact f1
    · rw [e, hl] at f1; exact ho _ (Option.some.inj f1)
  · have := h.blk b hb; rw [World.putObj_size]; exact this
  · have := h.imm b hb; rw [World.putObj_size]; exact this
  · refine ⟨h.frame.os, h.frame.tape, h.frame.output, by rw [World.putObj_size]; exact h.frame.size, fun k hk hB => ?_⟩
    rw [World.putObj_heap_other (by omega)]; exact h.frame.block k hk hB

theorem Sat.grow (h : Sat X S ν st a w) (hf : Fr (fun _ => False) w w') : Sat X S ν st a w' := by
  have := h.swap (takes := []) (rest := st.hp) (gives := []) (nid := st.nid) (S' := S) (ν' := ν) (w' := w') (.refl _) ⟨hf.os, hf.tape, hf.output, hf.size, fun k hk _ => hf.block k hk id⟩ (fun _ _ => rfl) (fun _ h => h) (fun b hb => ⟨Nat.lt_of_lt_of_le (h.imm b hb).1 hf.size, .inl hb⟩) (fun c hc => nomatch hc) List.nodup_nil (fun b hb => nomatch hb) (fun c hc => nomatch hc) (Nat.le_refl _)
  simpa using this
theorem Sat.mark (h : Sat X S ν st a w) {D : Nat} (hD : w.heap[D]? = some (.deferred (some []))) (h0 : X.w0.heap.size ≤ D) (hS : ¬ S D) (hb : D ∉ blks ν st.hp) (hn : { target := .collected D, args := #[] } ∉ a.defers) (hmk : X.mks = true) : Sat X S ν st { a with defers := { target := .collected D, args := #[] } :: a.defers } w :=
  ⟨⟨fun d hd => by
      rcases List.mem_cons.1 hd with rfl | hd
      · exact ⟨D, rfl, hD, h0, hS, hb⟩
      · exact h.defers.1 d hd, List.nodup_cons.2 ⟨hn, h.defers.2.1⟩, fun e => by rw [hmk] at e; cases e⟩, h.size, h.env, h.hp, h.nd, h.blk, h.imm, h.imm0, h.frame, h.elt, h.hlt, h.fix, h.ge⟩

structure Looping (P : Program) (X : Cx) (E : Env) (ps : List Tmp) (asg body : Code) (l : Nat) (a1 : Act) (pend : Option Code) (N : Nat) (C : Cx) : Prop where
  go : ∃ S ν st w fn D, Sat X S ν st a1 w ∧ st.env = E ∧ C = cxAt false N S ν st w ∧ X.w0.heap.size ≤ l ∧ ¬ S l ∧ l ∉ blks ν st.hp ∧
    w.heap[l]? = some (.loop { state := if pend.isNone then .ready else .done, pending := pend, fn := fn, tmps := a1.tmps, params := ps.toArray, assign := asg, body := body, defers := D })
end

section
variable {P : Program} {X C : Cx} {E : Env} {ps : List Tmp} {asg body : Code} {l N : Nat} {a1 : Act} {pend : Option Code} {S S' : Nat → Prop} {ν ν' : Nat → Value} {a a' : Act} {w w' : World} {st st' : AS} {Q : Exit → Act → World → Prop} {K : Act → World → Prop}

theorem Looping.now (L : Looping P X E ps asg body l a1 pend N C) (sat : Sat C S ν st a w) : Sat X S ν ⟨E, st.hp, st.nid⟩ a1 w ∧ X.w0.heap.size ≤ l ∧ ¬ S l ∧ l ∉ blks ν st.hp ∧
    ∃ fn D, w.heap[l]? = some (.loop { state := if pend.isNone then .ready else .done, pending := pend, fn := fn, tmps := a1.tmps, params := ps.toArray, assign := asg, body := body, defers := D }) := by
  obtain ⟨S0, ν0, s0, w0, fn, D, h0, rfl, rfl, h1, h2, h3, h4⟩ := L.go
  have hlt : l < w0.heap.size := (Array.getElem?_eq_some_iff.1 h4).1
  refine ⟨h0.leave sat, h1, fun hs => ?_, fun hm => ?_, fn, D, (sat.frame.block l hlt h3).trans h4⟩
  · rcases (sat.imm l hs).2 with h | h | h
    · exact h2 h
    · exact absurd (show w0.heap.size ≤ l from h) (by omega)
    · exact h3 h
  · rcases (sat.blk l hm).2.2 with h | h
    · exact absurd (show w0.heap.size ≤ l from h) (by omega)
    · exact h3 h

theorem capV_lt {m : Nat} : ∀ {caps : List (Nat × Nat)}, (∀ p ∈ caps, p.1 < m) → ∀ (k : Nat) (v : AV), (capV caps)[k]? = some v → v.lt m
  | [], _, k, v, h => by simp [capV] at h
  | (id, off) :: r, hc, 0, v, h => by
    simp only [capV, List.getElem?_cons_zero, Option.some.injEq] at h
    subst h
    exact hc (id, off) (List.mem_cons_self ..)
  | (id, off) :: r, hc, k + 1, v, h => capV_lt (caps := r) (fun p hp => hc p (List.mem_cons_of_mem _ hp)) k v (by simpa [capV] using h)
theorem acallee_lt (sat : Sat X S ν st a w) {ce : Callee} {f : FuncId} {caps : List AV} (h : acallee st ce = some (f, caps)) : ∀ (k : Nat) (v : AV), caps[k]? = some v → v.lt st.nid := by
  unfold acallee at h
  split at h
  · split at h
    · split at h
      · cases h; intro k v hk; simp at hk
      · cases h
    · rename_i hx
      cases h
      exact capV_lt (aop_ok sat hx).2
    · cases h
  · cases h

theorem TE.range {g : Operand} {ps : List Tmp} {asg body : Code} {gf : FuncId} {caps : List AV} {ifn : Func} {ic : Code} {N : Nat} (hg : acallee st (.value g) = some (gf, caps)) (hf : P.funcs[gf]? = some ifn) (hb : ifn.body = some ic) (hn : (ifn.name == "runtime.NumGoroutine") = false) (hN : ifn.ntmps = N) (hw : Nat.ble (1 + caps.length) N = true) (hmk : X.mks = true)
    (h : ∀ l a1 w0 B0 S0 ν0, Looping P X st.env ps asg body l a1 none N ⟨N, w0, B0, S0, ν0, st.nid, false⟩ → TE ⟨N, w0, B0, S0, ν0, st.nid, false⟩ (ic.wpIn Fence.wide 0 P (postR P ifn (rangePost Fence.wide 0 P l Q a1))) ⟨env0 0 (.o (.c (.func (.yield l) #[] #[])) :: caps), st.hp, st.nid⟩) :
    TE X ((Code.rangeFunc g ps.toArray asg body).wpIn Fence.wide 0 P Q) st := by
  intro S ν a w sat
  refine wpIn_rangeFunc fun fn _ => ?_
  obtain ⟨xf, us, e1, e2, e3⟩ := acallee_ok sat hg
  have e4 := acallee_lt sat hg
  obtain ⟨rec, hrec⟩ : ∃ rec : Loop, rec = { state := .ready, pending := none, fn := fn, tmps := a.tmps, params := ps.toArray, assign := asg, body := body, defers := w.heap.size } := ⟨_, rfl⟩
  obtain ⟨W, hW⟩ : ∃ W, (w.alloc (.deferred (some []))).alloc (.loop rec) = W := ⟨_, rfl⟩
  have hD : W.heap[w.heap.size]? = some (.deferred (some [])) := by
    rw [← hW]; exact (Below.heap_alloc _ _ _ (by simp)).trans (World.alloc_heap_new w _)
  have hL : W.heap[w.heap.size + 1]? = some (.loop rec) := by
    rw [← hW]; have := World.alloc_heap_new (w.alloc (.deferred (some []))) (.loop rec); rwa [World.size_alloc] at this
  have fr : Fr (fun _ => False) w W := by
    rw [← hW]
    refine ⟨rfl, rfl, rfl, by simp; omega, fun k hk _ => ?_⟩
    exact (Below.heap_alloc _ _ _ (by simp; omega)).trans (Below.heap_alloc _ _ _ hk)
  have sat1 : Sat X S ν st { a with defers := { target := .collected w.heap.size, args := #[] } :: a.defers } W := by
    refine (sat.grow fr).mark hD sat.frame.size (fun hs => ?_) (fun hm => ?_) (fun hm => ?_) hmk
    · have := (sat.imm _ hs).1; omega
    · have := (sat.blk _ hm).1; omega
    · obtain ⟨D, d1, d2, _⟩ := sat.defers.1 _ hm
      cases d1
      have := (Array.getElem?_eq_some_iff.1 d2).1; omega
  have L : Looping P X st.env ps asg body (w.heap.size + 1) { a with defers := { target := .collected w.heap.size, args := #[] } :: a.defers } none N (cxAt false N S ν st W) := by
    refine ⟨S, ν, st, W, fn, w.heap.size, sat1, rfl, rfl, ?_, fun hs => ?_, fun hm => ?_, by rw [hL, hrec]; rfl⟩
    · have := sat.frame.size; omega
    · have := (sat.imm _ hs).1; omega
    · have := (sat.blk _ hm).1; omega
  have hsz : (#[.func (.yield (w.heap.size + 1)) #[] #[]] ++ us.toArray : Array Value).toList = .func (.yield (w.heap.size + 1)) #[] #[] :: us := by simp
  refine ⟨w.heap.size + 1, [{ target := .collected w.heap.size, args := #[] }], W, { target := .fn (.func gf) us.toArray, args := #[.func (.yield (w.heap.size + 1)) #[] #[]] }, W, gf, #[.func (.yield (w.heap.size + 1)) #[] #[]] ++ us.toArray, W, ?_, ?_, fun _ _ => trivial, ?_, (fun h => nomatch h), callsIn_of_wp_marks (F := Fence.wide) (n := 0) hf hb trivial (Code.wpIn_mono (fun _ _ _ h => postR_M h) ?_)⟩
  · rw [← hW, hrec]; exact run_enterLoop_outer _ _ _ _ _
  · cases e1
    simp only [resolve, e2, Deferred.ofValue, rangeCall, Sem.run_pure]
    simp [Act.eval]
  · simp only [invoke]
    exact callFunc_body hf hn (by rw [hb]; rfl) _ W
  · have hle := e3.length
    have hw' : 1 + caps.length ≤ N := Nat.le_of_ble_eq_true hw
    refine h _ _ W (fun b => b ∈ blks ν st.hp) S ν L S ν _ W (sat1.enter false (N := N) rfl (by simp; omega) fun p hp => ?_)
    obtain ⟨k, h1, h2⟩ := env0_mem hp
    rw [Nat.zero_add] at h1
    have gr : Gr w W S S := ⟨fr.size, fun b _ hb => fr.block b hb id, fun _ h => h⟩
    rw [h1]
    cases k with
    | zero =>
      have h2' : p.2 = .o (.c (.func (.yield (w.heap.size + 1)) #[] #[])) := by simpa using h2.symm
      rw [h2']
      exact ⟨by omega, ⟨by simp [Array.getElem?_append], rfl⟩, trivial⟩
    | succ k =>
      have h2' : caps[k]? = some p.2 := by simpa using h2
      have hk : k < caps.length := (List.getElem?_eq_some_iff.1 h2').1
      obtain ⟨u, h3, h4⟩ := e3.get h2'
      have hlt : p.2.lt st.nid := e4 k p.2 h2'
      refine ⟨by omega, ?_, hlt⟩
      have hk' : k < us.length := (List.getElem?_eq_some_iff.1 h3).1
      have hu : us[k] = u := by rw [List.getElem?_eq_getElem hk'] at h3; exact Option.some.inj h3
      have : (#[Value.func (.yield (w.heap.size + 1)) #[] #[]] ++ us.toArray ++ Array.replicate (ifn.ntmps - (#[Value.func (.yield (w.heap.size + 1)) #[] #[]] ++ us.toArray : Array Value).size) undef).getD (k + 1) undef = u := by
        have hk2 : k + 1 < us.length + 1 := by omega
        simp [Array.getElem?_append, hk', hk2, hu]
      rw [this]
      exact AV.mono gr (fun _ _ => rfl) hlt h4

def putPs : List Tmp → List AV → AS → AS
  | t :: ts, v :: vs, st => putPs ts vs (st.put (some t) v)
  | _, _, st => st
theorem Sat.putPs {S : Nat → Prop} {ν : Nat → Value} {w : World} : ∀ {ts : List Tmp} {vs : List AV} {us : List Value} {st : AS} {a : Act}, Sat X S ν st a w → All2 (AV.rel w S ν) vs us → (∀ v ∈ vs, v.lt st.nid) → (∀ t ∈ ts, t < X.N) →
    Sat X S ν (putPs ts vs st) { a with tmps := (ts.zip us).foldl (fun r (p : Tmp × Value) => r.setIfInBounds p.1 p.2) a.tmps } w
  | [], vs, us, st, a, h, _, _, _ => by cases vs <;> exact h
  | t :: ts, [], [], st, a, h, _, _, _ => h
  | t :: ts, [], _ :: _, st, a, h, hr, _, _ => hr.elim
  | t :: ts, _ :: _, [], st, a, h, hr, _, _ => hr.elim
  | t :: ts, v :: vs, u :: us, st, a, h, hr, hl, ht => by
    have h1 := h.put (dst := some t) (fun d hd => by cases hd; exact ht t (List.mem_cons_self ..)) hr.1 (hl v (List.mem_cons_self ..))
    exact Sat.putPs (ts := ts) (vs := vs) (us := us) h1 hr.2 (fun v' hv => by rw [(AS.put_hp _ _ _).2]; exact hl v' (List.mem_cons_of_mem _ hv)) (fun t' h' => ht t' (List.mem_cons_of_mem _ h'))

structure Rnd (P : Program) (X C : Cx) (E : Env) (ps : List Tmp) (asg body : Code) (l : Nat) (a1 : Act) (N : Nat) (Ei : Env) (dst : Option Tmp) (K : Act → World → Prop) (Qr : Exit → Act → World → Prop) (C' : Cx) : Prop where
  normal : ∀ {st}, TE C K ((AS.mk Ei st.hp st.nid).put dst (.o (.c (.bool true)))) → TE C' (Qr .normal) st
  ret : ∀ {st}, (∀ w0 B0 S0 ν0, Looping P X E ps asg body l a1 (some .ret) N ⟨N, w0, B0, S0, ν0, st.nid, false⟩ → TE ⟨N, w0, B0, S0, ν0, st.nid, false⟩ K ((AS.mk Ei st.hp st.nid).put dst (.o (.c (.bool false))))) → TE C' (Qr .ret) st
  exit : ∀ {st id}, (∀ w0 B0 S0 ν0, Looping P X E ps asg body l a1 (some (.exit id)) N ⟨N, w0, B0, S0, ν0, st.nid, false⟩ → TE ⟨N, w0, B0, S0, ν0, st.nid, false⟩ K ((AS.mk Ei st.hp st.nid).put dst (.o (.c (.bool false))))) → TE C' (Qr (.exit id)) st
  panic : PanicOk Qr
def Begin (P : Program) (l : Nat) (body : Code) (Qr : Exit → Act → World → Prop) (a : Act) (w : World) : Prop := ∃ w', (Instr.beginRound l).run P w = .ok () w' ∧ body.wpIn (RF l) 0 P Qr a w'
structure Rnd0 (P : Program) (X C : Cx) (E : Env) (ps : List Tmp) (asg body : Code) (l : Nat) (a1 : Act) (N : Nat) (Ei : Env) (dst : Option Tmp) (K : Act → World → Prop) (Qr : Exit → Act → World → Prop) (C' : Cx) : Prop where
  begin : ∀ {st}, (∀ w0 B0 S0 ν0, Rnd P X C E ps asg body l a1 N Ei dst K Qr ⟨C'.N, w0, B0, S0, ν0, st.nid, false⟩ → TE ⟨C'.N, w0, B0, S0, ν0, st.nid, false⟩ (body.wpIn (RF l) 0 P Qr) st) → TE C' (Begin P l body Qr) st

def allLtB (N : Nat) : List Nat → Bool
  | [] => true
  | t :: r => match Nat.blt t N with
    | true => allLtB N r
    | false => false
theorem allLtB_ok {N : Nat} : ∀ {ts : List Nat}, allLtB N ts = true → ∀ t ∈ ts, t < N
  | [], _, t, h => nomatch h
  | x :: r, h, t, ht => by
    simp only [allLtB] at h
    split at h
    · rename_i hb
      rcases List.mem_cons.1 ht with rfl | ht
      · exact Nat.le_of_ble_eq_true hb
      · exact allLtB_ok h t ht
    · cases h
theorem aops_lt {st : AS} {a : Act} {w : World} {S : Nat → Prop} {ν : Nat → Value} (sat : Sat X S ν st a w) : ∀ {xs : List Operand} {vs : List AV}, aops st xs = some vs → ∀ v ∈ vs, v.lt st.nid
  | [], vs, h, v, hv => by cases h; cases hv
  | x :: xs, vs, h, v, hv => by
    simp only [aops] at h
    split at h
    · rename_i u r h1 h2
      cases h
      rcases List.mem_cons.1 hv with rfl | hv
      · exact (aop_ok sat h1).2
      · exact aops_lt sat h2 v hv
    · cases h

theorem yield_op (L : Looping P X E ps asg body l a1 none N C) {o : Oper} {c : Call} {x : Operand} {vs : List AV} {Nx : Nat} (ho : o.op = .call c) (hc : c.callee = .value x) (hx : aop st x = some (.o (.c (.func (.yield l) #[] #[])))) (hv : aops st c.args.toList = some vs) (hlen : Nat.beq vs.length ps.length = true) (hN : X.N = Nx) (hps : allLtB Nx ps = true)
    (hd : ∀ d, o.dst = some d → d < C.N) (K : Act → World → Prop)
    (h : ∀ Qr w0 B0 S0 ν0, Rnd0 P X C E ps asg body l a1 N st.env o.dst K Qr ⟨Nx, w0, B0, S0, ν0, st.nid, false⟩ → TE ⟨Nx, w0, B0, S0, ν0, st.nid, false⟩ (asg.wpIn (RF l) 0 P (Exit.then (Begin P l body Qr) (fun _ _ _ => False))) (putPs ps vs ⟨E, st.hp, st.nid⟩))
    (sat : Sat C S ν st a w) : o.wpIn Fence.wide 0 P a w K Q := by
  subst hN
  obtain ⟨b1, b2, b3, b4, fn, D, b5⟩ := L.now sat
  have hNC : C.N = N := by obtain ⟨_, _, _, _, _, _, _, _, e, _⟩ := L.go; rw [e]
  have hmkC : C.mks = false := by obtain ⟨_, _, _, _, _, _, _, _, e, _⟩ := L.go; rw [e]
  have hvs := aops_ok sat hv
  have hvl := aops_lt sat hv
  have ha : a.eval x = .func (.yield l) #[] #[] := (aop_ok sat hx).1.1
  have hsz : (c.args.map a.eval).size = ps.toArray.size := by
    have h1 := hvs.length
    have h2 := Nat.eq_of_beq_eq_true hlen
    simp at h1 ⊢; omega
  have hrun : (execOp a.eval o).run P w = .ok (.round l fn ((ps.toArray.zip (c.args.map a.eval)).foldl (fun ts (t, v) => ts.setIfInBounds t v) a1.tmps) asg body) w := by
    unfold execOp
    rw [ho]
    simp only [resolve, hc, ha, Deferred.ofValue, Sem.run_bind, Sem.run_pure, Result.andThen_ok, invoke]
    have := run_yield (P := P) (args := c.args.map a.eval) b5 hsz
    simpa using this
  refine ⟨fun _ _ => trivial, ?_⟩
  rw [show Fence.wide.round = none from rfl, Oper.semAt_none, hrun]
  obtain ⟨Rr, hRr⟩ : ∃ Rr : Ending → World → Prop, Rr = fun (e : Ending) w'' => match e with
      | .returned v => K (a.put o.dst v) w''
      | .panicked chain => Q (.panic chain) a w''
      | .outgrown => LetsOut Q := ⟨_, rfl⟩
  refine ⟨(fun h => nomatch h), RoundIn.mono (R := Rr) (roundIn_of_wpIn trivial ?_) (fun e w' h => by rw [hRr] at h; cases e <;> exact h)⟩
  have hbase : Sat (cxAt false X.N S ν ⟨E, st.hp, st.nid⟩ w) S ν ⟨E, st.hp, st.nid⟩ { tmps := a1.tmps, defers := [] } w := b1.enter false rfl b1.size fun p hp => ⟨(b1.env p hp).1, (b1.env p hp).2, b1.elt p hp⟩
  have hput := hbase.putPs hvs hvl (allLtB_ok hps)
  have hzip : ((ps.toArray.zip (c.args.map a.eval)).foldl (fun ts (t, v) => ts.setIfInBounds t v) a1.tmps) = (ps.zip (c.args.toList.map a.eval)).foldl (fun r (p : Tmp × Value) => r.setIfInBounds p.1 p.2) a1.tmps := by
    rw [← Array.foldl_toList]
    simp
  rw [hzip]
  refine h (roundPost P l Rr) w (fun b => b ∈ blks ν st.hp) S ν ⟨?_⟩ S ν _ w hput
  -- the round begins
  intro sta hgo S1 ν1 a1' w1 sat1
  have hlt : l < w.heap.size := (Array.getElem?_eq_some_iff.1 b5).1
  have c1 : w1.heap[l]? = _ := (sat1.frame.block l hlt b4).trans b5
  have c2 : ¬ S1 l := fun hs => by
    rcases (sat1.imm l hs).2 with h | h | h
    · exact b3 h
    · exact absurd (show w.heap.size ≤ l from h) (by omega)
    · exact b4 h
  have c3 : l ∉ blks ν1 sta.hp := fun hm => by
    rcases (sat1.blk l hm).2.2 with h | h
    · exact absurd (show w.heap.size ≤ l from h) (by omega)
    · exact b4 h
  have c4 : Sat X S1 ν1 ⟨E, sta.hp, sta.nid⟩ a1 w1 := b1.leave (mk := false) (N := X.N) sat1
  refine ⟨_, run_beginRound c1 rfl, ?_⟩
  obtain ⟨w2, hw2⟩ : ∃ w2, w2 = w1.putObj l (.loop { state := .busy, pending := none, fn := fn, tmps := a1.tmps, params := ps.toArray, assign := asg, body := body, defers := D }) := ⟨_, rfl⟩
  have e2 : w2.heap[l]? = some (.loop { state := .busy, pending := none, fn := fn, tmps := a1.tmps, params := ps.toArray, assign := asg, body := body, defers := D }) := by
    rw [hw2]; exact World.putObj_heap_same (Array.getElem?_eq_some_iff.1 c1).1
  have c5 : Sat X S1 ν1 ⟨E, sta.hp, sta.nid⟩ a1 w2 := by rw [hw2]; exact c4.turn c1 (fun _ h => nomatch h) b2 c2 c3
  have gr : Gr w1 w2 S1 S1 := ⟨by rw [hw2]; simp, fun b hb _ => by rw [hw2]; exact World.putObj_heap_other fun e => c2 (e ▸ hb), fun _ h => h⟩
  have c6 : Sat (cxAt false X.N S1 ν1 ⟨E, sta.hp, sta.nid⟩ w2) S1 ν1 ⟨sta.env, sta.hp, sta.nid⟩ a1' w2 := c5.enter false (sat1.defers.2.2 rfl) sat1.size fun p hp => ⟨(sat1.env p hp).1, AV.mono gr (fun _ _ => rfl) (sat1.elt p hp) (sat1.env p hp).2, sat1.elt p hp⟩
  have hlt2 : l < w2.heap.size := (Array.getElem?_eq_some_iff.1 e2).1
  show body.wpIn (RF l) 0 P (roundPost P l Rr) a1' _
  rw [← hw2]
  -- the end of the round
  have fin : ∀ {S3 : Nat → Prop} {ν3 : Nat → Value} {st3 : AS} {a3 : Act} {w3 : World}, Sat (cxAt false X.N S1 ν1 ⟨E, sta.hp, sta.nid⟩ w2) S3 ν3 st3 a3 w3 →
      w3.heap[l]? = some (.loop { state := .busy, pending := none, fn := fn, tmps := a1.tmps, params := ps.toArray, assign := asg, body := body, defers := D }) ∧ ¬ S3 l ∧ l ∉ blks ν3 st3.hp ∧ Sat X S3 ν3 ⟨E, st3.hp, st3.nid⟩ a1 w3 ∧
        (∀ k, k < w.heap.size → k ∉ blks ν st.hp → k ≠ l → w3.heap[k]? = w.heap[k]?) ∧ w3.os = w.os ∧ w3.tape = w.tape ∧ w3.output = w.output ∧ w.heap.size ≤ w3.heap.size ∧ (∀ i, i < st.nid → ν3 i = ν i) ∧ (∀ b, S b → S3 b) ∧ st.nid ≤ st3.nid ∧
        (∀ b, S3 b → S b ∨ w.heap.size ≤ b ∨ b ∈ blks ν st.hp) ∧ (∀ b, b ∈ blks ν3 st3.hp → w.heap.size ≤ b ∨ b ∈ blks ν st.hp) := by
    intro S3 ν3 st3 a3 w3 sat3
    have hsz12 : w2.heap.size = w1.heap.size := by rw [hw2]; simp
    have s01 : w.heap.size ≤ w1.heap.size := sat1.frame.size
    refine ⟨(sat3.frame.block l hlt2 c3).trans e2, fun hs => ?_, fun hm => ?_, c5.leave sat3, fun k hk hb hkl => ?_, ?_, ?_, ?_, ?_, fun i hi => ?_, fun b hb => sat3.imm0 b (sat1.imm0 b hb), Nat.le_trans sat1.ge sat3.ge, fun b hb => ?_, fun b hb => ?_⟩
    · rcases (sat3.imm l hs).2 with h | h | h
      · exact c2 h
      · exact absurd (show w2.heap.size ≤ l from h) (by omega)
      · exact c3 h
    · rcases (sat3.blk l hm).2.2 with h | h
      · exact absurd (show w2.heap.size ≤ l from h) (by omega)
      · exact c3 h
    · have hk2 : k < w2.heap.size := by omega
      have hk3 : k ∉ blks ν1 sta.hp := fun hm => by
        rcases (sat1.blk k hm).2.2 with h | h
        · exact absurd (show w.heap.size ≤ k from h) (by omega)
        · exact hb h
      rw [sat3.frame.block k hk2 hk3, hw2, World.putObj_heap_other hkl]
      exact sat1.frame.block k hk hb
    · rw [sat3.frame.os, hw2]; exact sat1.frame.os
    · rw [sat3.frame.tape, hw2]; exact sat1.frame.tape
    · rw [sat3.frame.output, hw2]; exact sat1.frame.output
    · have := sat3.frame.size; have h' : w2.heap.size ≤ w3.heap.size := this; omega
    · rw [sat3.fix i (Nat.lt_of_lt_of_le hi sat1.ge)]; exact sat1.fix i hi
    · rcases (sat3.imm b hb).2 with h | h | h
      · rcases (sat1.imm b h).2 with h | h | h
        · exact .inl h
        · exact .inr (.inl h)
        · exact .inr (.inr h)
      · exact .inr (.inl (by have : w2.heap.size ≤ b := h; omega))
      · rcases (sat1.blk b h).2.2 with h | h
        · exact .inr (.inl h)
        · exact .inr (.inr h)
    · rcases (sat3.blk b hb).2.2 with h | h
      · exact .inl (by have : w2.heap.size ≤ b := h; omega)
      · rcases (sat1.blk b h).2.2 with h | h
        · exact .inl h
        · exact .inr h
  have stop : ∀ {S3 : Nat → Prop} {ν3 : Nat → Value} {st3 : AS} {a3 : Act} {w3 : World} (j : Code), Sat (cxAt false X.N S1 ν1 ⟨E, sta.hp, sta.nid⟩ w2) S3 ν3 st3 a3 w3 →
      (∀ w0 B0 S0 ν0, Looping P X E ps asg body l a1 (some j) N ⟨N, w0, B0, S0, ν0, st3.nid, false⟩ → TE ⟨N, w0, B0, S0, ν0, st3.nid, false⟩ K ((AS.mk st.env st3.hp st3.nid).put o.dst (.o (.c (.bool false))))) →
      ∃ v w', (Instr.endRound l (some j)).run P w3 = .ok v w' ∧ Rr (.returned v) w' := by
    intro S3 ν3 st3 a3 w3 j sat3 hk
    obtain ⟨f1, f2, f3, f4, f5, f6, f7, f8, f9, f10, f11, f12, f13, f14⟩ := fin sat3
    refine ⟨_, _, run_endRound (some j) f1, ?_⟩
    rw [hRr]
    show K (a.put o.dst (.bool false)) _
    obtain ⟨w4, hw4⟩ : ∃ w4, w4 = w3.putObj l (.loop { state := .done, pending := some j, fn := fn, tmps := a1.tmps, params := ps.toArray, assign := asg, body := body, defers := D }) := ⟨_, rfl⟩
    have g4 : w4.heap[l]? = some (.loop { state := .done, pending := some j, fn := fn, tmps := a1.tmps, params := ps.toArray, assign := asg, body := body, defers := D }) := by
      rw [hw4]; exact World.putObj_heap_same (Array.getElem?_eq_some_iff.1 f1).1
    have g5 : Sat X S3 ν3 ⟨E, st3.hp, st3.nid⟩ a1 w4 := by rw [hw4]; exact f4.turn f1 (fun _ h => nomatch h) b2 f2 f3
    have gr4 : Gr w w4 S S3 := ⟨by rw [hw4, World.putObj_size]; exact f9, fun b hb hlt => by
      have hne : b ≠ l := fun e => b3 (by rw [← e]; exact hb)
      rw [hw4, World.putObj_heap_other hne]
      exact f5 b hlt (fun hm => (sat.blk b hm).2.1 hb) hne, f11⟩
    have g6 : Sat (cxAt false N S3 ν3 ⟨E, st3.hp, st3.nid⟩ w4) S3 ν3 ⟨st.env, st3.hp, st3.nid⟩ a w4 := g5.enter false (sat.defers.2.2 hmkC) (by rw [sat.size]; exact hNC) fun p hp =>
      ⟨by rw [← hNC]; exact (sat.env p hp).1, AV.mono gr4 (fun i hi => f10 i hi) (sat.elt p hp) (sat.env p hp).2, AV.lt_mono f12 (sat.elt p hp)⟩
    have g9 := hk w4 (fun b => b ∈ blks ν3 st3.hp) S3 ν3 ⟨S3, ν3, ⟨E, st3.hp, st3.nid⟩, w4, fn, D, g5, rfl, rfl, b2, f2, f3, g4⟩ S3 ν3 _ w4 (g6.put (dst := o.dst) (fun d hd' => by show d < N; rw [← hNC]; exact hd d hd') (v := .o (.c (.bool false))) (u := .bool false) ⟨rfl, rfl⟩ trivial)
    rw [hw4] at g9; exact g9
  refine hgo w2 (fun b => b ∈ blks ν1 sta.hp) S1 ν1 ⟨?_, ?_, ?_, ?_⟩ S1 ν1 a1' w2 c6
  · intro st3 hk S3 ν3 a3 w3 sat3
    obtain ⟨f1, f2, f3, f4, f5, f6, f7, f8, f9, f10, f11, f12, f13, f14⟩ := fin sat3
    refine ⟨_, _, run_endRound none f1, ?_⟩
    rw [hRr]
    show K (a.put o.dst (.bool true)) _
    obtain ⟨w4, hw4⟩ : ∃ w4, w4 = w3.putObj l (.loop { state := .ready, pending := none, fn := fn, tmps := a1.tmps, params := ps.toArray, assign := asg, body := body, defers := D }) := ⟨_, rfl⟩
    have g5 : Sat X S3 ν3 ⟨E, st3.hp, st3.nid⟩ a1 w4 := by rw [hw4]; exact f4.turn f1 (fun _ h => nomatch h) b2 f2 f3
    have g4 : w4.heap[l]? = some (.loop { state := .ready, pending := none, fn := fn, tmps := a1.tmps, params := ps.toArray, assign := asg, body := body, defers := D }) := by
      rw [hw4]; exact World.putObj_heap_same (Array.getElem?_eq_some_iff.1 f1).1
    have g6 : Fr (fun b => b ∈ blks ν st.hp) w w4 := by
      refine ⟨by rw [hw4]; exact f6, by rw [hw4]; exact f7, by rw [hw4]; exact f8, by rw [hw4, World.putObj_size]; exact f9, fun k hk hb => ?_⟩
      by_cases e : k = l
      · rw [e, g4, b5]; rfl
      · rw [hw4, World.putObj_heap_other e]; exact f5 k hk hb e
    have g7 := sat.swap (takes := st.hp) (rest := []) (gives := st3.hp) (nid := st3.nid) (S' := S3) (ν' := ν3) (w' := w4) (by simp) g6 f10 f11 (fun b hb => ⟨(g5.imm b hb).1, f13 b hb⟩) g5.hp g5.nd (fun b hb => ⟨(g5.blk b hb).1, (g5.blk b hb).2.1, (f14 b hb).symm⟩) g5.hlt f12
    have g8 : Sat C S3 ν3 ⟨st.env, st3.hp, st3.nid⟩ a w4 := by simpa using g7
    have g9 := hk S3 ν3 _ w4 (g8.put (dst := o.dst) hd (v := .o (.c (.bool true))) (u := .bool true) ⟨rfl, rfl⟩ trivial)
    rw [hw4] at g9; exact g9
  · intro st3 hk S3 ν3 a3 w3 sat3
    exact stop .ret sat3 hk
  · intro st3 id hk S3 ν3 a3 w3 sat3
    exact stop (.exit id) sat3 hk
  · exact fun d v c a w h => h

theorem TE.yield (L : Looping P X E ps asg body l a1 none N C) {lo rest : List Oper} {o : Oper} {c : Call} {x : Operand} {vs : List AV} {Nx Nc : Nat} (hC : C.N = Nc) (hd : dstOk Nc o = true) (hg : aguard lo st o = some true) (ho : o.op = .call c) (hc : c.callee = .value x) (hx : aop st x = some (.o (.c (.func (.yield l) #[] #[])))) (hv : aops st c.args.toList = some vs) (hlen : Nat.beq vs.length ps.length = true) (hN : X.N = Nx) (hps : allLtB Nx ps = true)
    (h : ∀ Qr w0 B0 S0 ν0, Rnd0 P X C E ps asg body l a1 N st.env o.dst (wpListIn Fence.wide 0 P lo.toArray Q rest) Qr ⟨Nx, w0, B0, S0, ν0, st.nid, false⟩ → TE ⟨Nx, w0, B0, S0, ν0, st.nid, false⟩ (asg.wpIn (RF l) 0 P (Exit.then (Begin P l body Qr) (fun _ _ _ => False))) (putPs ps vs ⟨E, st.hp, st.nid⟩)) :
    TE C (wpListIn Fence.wide 0 P lo.toArray Q (o :: rest)) st := by
  subst hC
  intro S ν a w sat
  have hw := aguard_ok (ops := lo.toArray) sat (by simpa using hg)
  simp only [wpListIn, hw, if_true]
  exact yield_op L ho hc hx hv hlen hN hps (dstOk_spec hd) _ h sat

theorem iter_leaves (L : Looping P X E ps asg body l a1 pend N C) {ifn : Func} (hr : ifn.results.toList = []) (sat : Sat C S ν st a w) {R : Ending → World → Prop} (h : ∀ v, R (.returned v) w) : LeavesInM Fence.wide 0 P ifn a.tmps R a.defers .returning w := by
  have hmk : C.mks = false := by obtain ⟨_, _, _, _, _, _, _, _, e, _⟩ := L.go; rw [e]
  rw [sat.defers.2.2 hmk]
  refine ⟨.tuple #[], ?_, h _⟩
  unfold results
  rw [show ifn.results = #[] by rw [← Array.toList_inj]; exact hr]
  simp [Sem.run_bind, Sem.run_pure]
theorem TE.iterEnd (L : Looping P X E ps asg body l a1 none N C) {ifn : Func} {e : Exit} (he : e = .normal ∨ e = .ret) (hr : ifn.results.toList = []) (h : TE X (Q .normal) ⟨E, st.hp, st.nid⟩) : TE C (postR P ifn (rangePost Fence.wide 0 P l Q a1) e) st := by
  intro S ν a w sat
  obtain ⟨b1, b2, b3, b4, fn, D, b5⟩ := L.now sat
  have key : LeavesInM Fence.wide 0 P ifn a.tmps (rangePost Fence.wide 0 P l Q a1) a.defers .returning w :=
    iter_leaves L hr sat fun v => ⟨_, _, run_endLoop b5 (by simp), h S ν a1 _ (b1.turn b5 (fun _ h => nomatch h) b2 b3 b4)⟩
  rcases he with rfl | rfl <;> exact key
theorem TE.iterStop {j : Code} (L : Looping P X E ps asg body l a1 (some j) N C) {ifn : Func} {e : Exit} (he : e = .normal ∨ e = .ret) (hr : ifn.results.toList = []) (h : TE X (j.wpIn Fence.wide 0 P Q) ⟨E, st.hp, st.nid⟩) : TE C (postR P ifn (rangePost Fence.wide 0 P l Q a1) e) st := by
  intro S ν a w sat
  obtain ⟨b1, b2, b3, b4, fn, D, b5⟩ := L.now sat
  have key : LeavesInM Fence.wide 0 P ifn a.tmps (rangePost Fence.wide 0 P l Q a1) a.defers .returning w :=
    iter_leaves L hr sat fun v => ⟨_, _, run_endLoop b5 (by simp), h S ν a1 _ (b1.turn b5 (fun _ h => nomatch h) b2 b3 b4)⟩
  rcases he with rfl | rfl <;> exact key
end
end Go.Proofs.Ythhpofehcnjmmaa.Am
namespace Go.Proofs.Ythhpofehcnjmmaa.Am
open Go.RowKit Lw

def leCaps (g : Nat → Nat) : List (Nat × Nat) → List (Nat × Nat) → Bool
  | [], [] => true
  | (i, o) :: r, (j, o') :: r' => match Nat.beq i (g j), Nat.beq o o' with
    | true, true => leCaps g r r'
    | _, _ => false
  | _, _ => false
def leA1 (g : Nat → Nat) : A1 → A1 → Option (List Prop)
  | .c u, .c v => some [u = v]
  | .sb b, .sb c => some [b = c]
  | .sb b, .c v => some [.bool b = v]
  | .c v, .sb b => some [v = .bool b]
  | .own i, .own j => match Nat.beq i (g j) with
    | true => some []
    | false => none
  | .ptr i o, .ptr j o' => match Nat.beq i (g j), Nat.beq o o' with
    | true, true => some []
    | _, _ => none
  | .ro sz n c, .ro sz' n' c' => match Nat.beq sz sz' with
    | true => some [LeD sz n c n' c']
    | false => none
  | .c v, .ro _ n _ => some [v = .slice none 0 0, n = 0]
  | .clo f caps, .clo f' caps' => match Nat.beq f f', leCaps g caps caps' with
    | true, true => some []
    | _, _ => none
  | .optr i sz k o, .optr j sz' k' o' => match Nat.beq i (g j), Nat.beq o o' with
    | true, true => some [sz = sz', k = k']
    | _, _ => none
  | .vw i sz off n c, .vw j sz' off' n' c' => match Nat.beq i (g j) with
    | true => some [sz = sz', off = off', n = n', c = c']
    | _ => none
  | .eptr sz cell k off, .eptr sz' cell' k' off' => some [A1.eptr sz cell k off = A1.eptr sz' cell' k' off']
  | _, .any => some []
  | _, _ => none
def leL (g : Nat → Nat) : List A1 → List A1 → Option (List Prop)
  | [], [] => some []
  | a :: as, b :: bs => match leA1 g a b, leL g as bs with
    | some p, some q => some (appP p q)
    | _, _ => none
  | _, _ => none
def leS (g : Nat → Nat) : List (Sum A1 (List A1)) → List (Sum A1 (List A1)) → Option (List Prop)
  | [], [] => some []
  | .inl a :: as, .inl b :: bs => match leA1 g a b, leS g as bs with
    | some p, some q => some (appP p q)
    | _, _ => none
  | .inr a :: as, .inr b :: bs => match leL g a b, leS g as bs with
    | some p, some q => some (appP p q)
    | _, _ => none
  | _, _ => none
def leV (g : Nat → Nat) : AV → AV → Option (List Prop)
  | .o a, .o b => leA1 g a b
  | .g as, .g bs => leL g as bs
  | .t as, .t bs => leS g as bs
  | _, _ => none
def leVs (g : Nat → Nat) : List AV → List AV → Option (List Prop)
  | [], [] => some []
  | a :: as, b :: bs => match leV g a b, leVs g as bs with
    | some p, some q => some (appP p q)
    | _, _ => none
  | _, _ => none
def leE (g : Nat → Nat) (e : Env) : Env → Option (List Prop)
  | [] => some []
  | (t, v) :: r => match look e t with
    | some u => match leV g u v, leE g e r with
      | some p, some q => some (appP p q)
      | _, _ => none
    | none => none
def takeC : List Chunk → Nat → Option (Chunk × List Chunk)
  | [], _ => none
  | c :: r, id => match Nat.beq c.id id with
    | true => some (c, r)
    | false => match takeC r id with
      | some (d, r') => some (d, c :: r')
      | none => none
def leC1 (g : Nat → Nat) : Chunk → Chunk → Option (List Prop)
  | .box _ T cs, .box _ T' cs' => match Nat.beq T T' with
    | true => leL g cs cs'
    | false => none
  | .own _ E sz ct, .own _ E' sz' ct' => match Nat.beq E E', Nat.beq sz sz' with
    | true, true => some [LeD sz ct.n ct.cell ct'.n ct'.cell]
    | _, _ => none
  | .obj _ ob, .obj _ ob' => some [ob = ob']
  | .nest _ E ct j, .nest _ E' ct' j' => match Nat.beq E E', Nat.beq j (g j') with
    | true, true => some [LeD 1 ct.n ct.cell ct'.n ct'.cell]
    | _, _ => none
  | .stat _ b sz cell, .stat _ b' sz' cell' => match Nat.beq b b', Nat.beq sz sz' with
    | true, true => some [cell = cell']
    | _, _ => none
  | _, _ => none
def takeP (g : Nat → Nat) : List Chunk → List Chunk → Option (List Chunk × List Prop)
  | hp, [] => some (hp, [])
  | hp, c' :: r => match takeC hp (g c'.id) with
    | some (c, rest) => match leC1 g c c', takeP g rest r with
      | some p, some (left, q) => some (left, appP p q)
      | _, _ => none
    | none => none

section
variable {g : Nat → Nat} {ps : List Prop}
theorem appP_split {p q : List Prop} (h : ∀ x ∈ appP p q, x) : (∀ x ∈ p, x) ∧ ∀ x ∈ q, x := ⟨fun x hx => h x (mem_appP.2 (.inl hx)), fun x hx => h x (mem_appP.2 (.inr hx))⟩
theorem leCaps_ok : ∀ {c c' : List (Nat × Nat)}, leCaps g c c' = true → c = c'.map fun p => (g p.1, p.2)
  | [], [], _ => rfl
  | (i, o) :: r, (j, o') :: r', h => by
    simp only [leCaps] at h
    split at h
    · rename_i h1 h2
      rw [List.map_cons, ← leCaps_ok h, Nat.eq_of_beq_eq_true h1, Nat.eq_of_beq_eq_true h2]
    · cases h
  | [], _ :: _, h => nomatch h
  | _ :: _, [], h => nomatch h
theorem leA1_ok {a b : A1} (h : leA1 g a b = some ps) (hp : ∀ p ∈ ps, p) : LeA a (b.ren g) := by
  unfold leA1 at h
  split at h
  · cases h; exact LeA.cc (hp _ (List.mem_cons_self ..))
  · cases h; exact LeA.sb (hp _ (List.mem_cons_self ..))
  · rename_i b' v
    cases h
    have e := hp _ (List.mem_cons_self ..)
    subst e
    exact LeA.bool b'
  · rename_i v b'
    cases h
    have e := hp _ (List.mem_cons_self ..)
    subst e
    exact LeA.unbool rfl
  · split at h
    · rename_i h1; cases h; exact LeA.rown (Nat.eq_of_beq_eq_true h1)
    · cases h
  · split at h
    · rename_i h1 h2; cases h; rw [Nat.eq_of_beq_eq_true h2]; exact LeA.rptr (Nat.eq_of_beq_eq_true h1)
    · cases h
  · split at h
    · rename_i h1
      cases h
      have e := Nat.eq_of_beq_eq_true h1
      subst e
      exact LeA.rro (hp _ (List.mem_cons_self ..))
    · cases h
  · cases h
    have e1 := hp _ (List.mem_cons_self ..)
    have e2 := hp _ (List.mem_cons_of_mem _ (List.mem_cons_self ..))
    subst e1
    exact LeA.rronil e2
  · split at h
    · rename_i h1 h2
      cases h
      have e := Nat.eq_of_beq_eq_true h1
      subst e
      exact LeA.rclo (by show A1.clo _ _ = A1.clo _ (List.map _ _); rw [← leCaps_ok h2])
    · cases h
  · split at h
    · rename_i h1 h2
      cases h
      have e1 := hp _ (List.mem_cons_self ..)
      have e2 := hp _ (List.mem_cons_of_mem _ (List.mem_cons_self ..))
      subst e1 e2
      rw [Nat.eq_of_beq_eq_true h2, Nat.eq_of_beq_eq_true h1]
      exact LeA.refl _
    · cases h
  · split at h
    · rename_i h1
      cases h
      have e1 := hp _ (List.mem_cons_self ..)
      have e2 := hp _ (List.mem_cons_of_mem _ (List.mem_cons_self ..))
      have e3 := hp _ (List.mem_cons_of_mem _ (List.mem_cons_of_mem _ (List.mem_cons_self ..)))
      have e4 := hp _ (List.mem_cons_of_mem _ (List.mem_cons_of_mem _ (List.mem_cons_of_mem _ (List.mem_cons_self ..))))
      subst e1 e2 e3 e4
      rw [Nat.eq_of_beq_eq_true h1]
      exact LeA.refl _
    · cases h
  · cases h
    have e := hp _ (List.mem_cons_self ..)
    rw [e]; exact LeA.refl _
  · exact fun w S ν u h => A1.one h
  · cases h
theorem leL_ok : ∀ {as bs : List A1} {ps : List Prop}, leL g as bs = some ps → (∀ p ∈ ps, p) → All2 LeA as (bs.map (A1.ren g))
  | [], [], _, _, _ => trivial
  | a :: as, b :: bs, ps, h, hp => by
    simp only [leL] at h
    split at h
    · rename_i p q h1 h2
      cases h
      obtain ⟨k1, k2⟩ := appP_split hp
      exact ⟨leA1_ok h1 k1, leL_ok h2 k2⟩
    · cases h
  | [], _ :: _, _, h, _ => nomatch h
  | _ :: _, [], _, h, _ => nomatch h
theorem leS_ok : ∀ {as bs : List (Sum A1 (List A1))} {ps : List Prop}, leS g as bs = some ps → (∀ p ∈ ps, p) → All2 LeS as (bs.map (sumRen g))
  | [], [], _, _, _ => trivial
  | .inl a :: as, .inl b :: bs, ps, h, hp => by
    simp only [leS] at h
    split at h
    · rename_i p q h1 h2
      cases h
      obtain ⟨k1, k2⟩ := appP_split hp
      exact ⟨leA1_ok h1 k1, leS_ok h2 k2⟩
    · cases h
  | .inr a :: as, .inr b :: bs, ps, h, hp => by
    simp only [leS] at h
    split at h
    · rename_i p q h1 h2
      cases h
      obtain ⟨k1, k2⟩ := appP_split hp
      exact ⟨leL_ok h1 k1, leS_ok h2 k2⟩
    · cases h
  | [], _ :: _, _, h, _ => nomatch h
  | .inl _ :: _, [], _, h, _ => nomatch h
  | .inr _ :: _, [], _, h, _ => nomatch h
  | .inl _ :: _, .inr _ :: _, _, h, _ => nomatch h
  | .inr _ :: _, .inl _ :: _, _, h, _ => nomatch h
theorem leV_ok {a b : AV} (h : leV g a b = some ps) (hp : ∀ p ∈ ps, p) : LeV a (b.ren g) := by
  unfold leV at h
  split at h
  · exact LeV.r (leA1_ok h hp)
  · exact LeV.rg (leL_ok h hp)
  · exact LeV.rt (leS_ok h hp)
  · cases h
theorem leVs_ok : ∀ {as bs : List AV} {ps : List Prop}, leVs g as bs = some ps → (∀ p ∈ ps, p) → All2 LeV as (bs.map (AV.ren g))
  | [], [], _, _, _ => trivial
  | a :: as, b :: bs, ps, h, hp => by
    simp only [leVs] at h
    split at h
    · rename_i p q h1 h2
      cases h
      obtain ⟨k1, k2⟩ := appP_split hp
      exact ⟨leV_ok h1 k1, leVs_ok h2 k2⟩
    · cases h
  | [], _ :: _, _, h, _ => nomatch h
  | _ :: _, [], _, h, _ => nomatch h
theorem leE_ok {e : Env} : ∀ {r : Env} {ps : List Prop}, leE g e r = some ps → (∀ p ∈ ps, p) → EnvLe e (r.map fun p => (p.1, p.2.ren g))
  | [], _, _, _ => trivial
  | (t, v) :: r, ps, h, hp => by
    simp only [leE] at h
    split at h
    · rename_i u hu
      split at h
      · rename_i p q h1 h2
        cases h
        obtain ⟨k1, k2⟩ := appP_split hp
        exact ⟨⟨u, hu, leV_ok h1 k1⟩, leE_ok h2 k2⟩
      · cases h
    · cases h
theorem takeC_ok : ∀ {hp : List Chunk} {id : Nat} {c : Chunk} {r : List Chunk}, takeC hp id = some (c, r) → c.id = id ∧ ∃ i, hp[i]? = some c ∧ hp.eraseIdx i = r
  | x :: hp, id, c, r, h => by
    simp only [takeC] at h
    split at h
    · rename_i h1; cases h; exact ⟨Nat.eq_of_beq_eq_true h1, 0, rfl, rfl⟩
    · split at h
      · rename_i d r' h2
        cases h
        obtain ⟨k1, i, k2, k3⟩ := takeC_ok h2
        exact ⟨k1, i + 1, by simpa using k2, by rw [List.eraseIdx_cons_succ, k3]⟩
      · cases h
theorem leC1_ok {c c' : Chunk} (h : leC1 g c c' = some ps) (hp : ∀ p ∈ ps, p) (hid : c.id = g c'.id) : LeC c (c'.ren g) := by
  unfold leC1 at h
  split at h
  · split at h
    · rename_i h1; exact ⟨hid, Nat.eq_of_beq_eq_true h1, leL_ok h hp⟩
    · cases h
  · split at h
    · rename_i h1 h2
      cases h
      exact ⟨hid, Nat.eq_of_beq_eq_true h1, Nat.eq_of_beq_eq_true h2, hp _ (List.mem_cons_self ..)⟩
    · cases h
  · cases h; exact ⟨hid, hp _ (List.mem_cons_self ..)⟩
  · split at h
    · rename_i h1 h2
      cases h
      exact ⟨hid, Nat.eq_of_beq_eq_true h1, Nat.eq_of_beq_eq_true h2, hp _ (List.mem_cons_self ..)⟩
    · cases h
  · split at h
    · rename_i h1 h2
      cases h
      exact ⟨hid, Nat.eq_of_beq_eq_true h1, Nat.eq_of_beq_eq_true h2, hp _ (List.mem_cons_self ..)⟩
    · cases h
  · cases h
theorem takeP_ok : ∀ {tk hp left : List Chunk} {ps : List Prop}, takeP g hp tk = some (left, ps) → (∀ p ∈ ps, p) → TakeH hp (tk.map (Chunk.ren g)) left
  | [], hp, left, ps, h, _ => by cases h; exact TakeH.rnil
  | c' :: r, hp, left, ps, h, hh => by
    simp only [takeP] at h
    split at h
    · rename_i c rest h1
      split at h
      · rename_i p left' q h2 h3
        cases h
        obtain ⟨k1, k2⟩ := appP_split hh
        obtain ⟨j1, i, j2, j3⟩ := takeC_ok h1
        exact ⟨i, c, j2, leC1_ok h2 k1 j1, by rw [j3]; exact takeP_ok h3 k2⟩
      · cases h
    · cases h
theorem takeP_sub : ∀ {tk hp left : List Chunk} {ps : List Prop}, takeP g hp tk = some (left, ps) → (∀ p ∈ ps, p) → SubH hp (tk.map (Chunk.ren g))
  | [], hp, left, ps, h, _ => SubH.rnil
  | c' :: r, hp, left, ps, h, hh => by
    simp only [takeP] at h
    split at h
    · rename_i c rest h1
      split at h
      · rename_i p left' q h2 h3
        cases h
        obtain ⟨k1, k2⟩ := appP_split hh
        obtain ⟨j1, i, j2, j3⟩ := takeC_ok h1
        exact ⟨i, c, j2, leC1_ok h2 k1 j1, by rw [j3]; exact takeP_sub h3 k2⟩
      · cases h
    · cases h
end

def entP (N m : Nat) (st st' : AS) : Option (List Prop) := match st'.wf N, Nat.ble m st'.nid with
  | true, true => match leE (gEnv m st st') st.env st'.env, takeP (gEnv m st st') st.hp st'.hp with
    | some p, some (_, q) => some (appP p q)
    | _, _ => none
  | _, _ => none
section
variable {F : Fence} {P : Program} {T : Tys} {X : Cx} {st st' : AS} {Q : Exit → Act → World → Prop} {R : Act → World → Prop} {K : Nat → Bool}
theorem Ent.of {N m : Nat} {ps : List Prop} (hN : X.N = N) (hm : X.m = m) (h : entP N m st st' = some ps) (hp : AllP ps) : Ent X (gEnv X.m st st') st st' := by
  subst hN hm
  unfold entP at h
  split at h
  · rename_i h1 h2
    split at h
    · rename_i p left q h3 h4
      cases h
      obtain ⟨k1, k2⟩ := appP_split hp.mem
      exact Ent.auto h1 h2 (leE_ok h3 k1) (takeP_sub h4 k2)
    · cases h
  · cases h
def postP (T : Tys) (m : Nat) (fn : Func) (st : AS) (res : AV) (gives : List Chunk) : Option (List Prop) := match ares T st fn.results.toList with
  | some rvs => match retV rvs with
    | some rv => match leV (gOf m st.hp gives (appN (pairV rv res) (idsN m))) rv res, takeP (gOf m st.hp gives (appN (pairV rv res) (idsN m))) st.hp gives with
      | some p, some (_, q) => some (appP p q)
      | _, _ => none
    | none => none
  | none => none
theorem TE.ret' {ι : Type} {fn : Func} {takes : List Chunk} {pre : ι → Prop} {res : ι → AV} {gives : ι → List Chunk} {e : Exit} (he : e = .normal ∨ e = .ret) (hB : X.B0 = fun b => b ∈ blks X.ν0 takes) (hT : T.Ok P) (x : ι) (hpre : pre x) {m : Nat} {ps : List Prop} (hm : X.m = m) (h : postP T m fn st (res x) (gives x) = some ps) (hp : AllP ps) : TE X (postR P fn (RetR X takes pre res gives) e) st := by
  subst hm
  unfold postP at h
  split at h
  · rename_i rvs h1
    split at h
    · rename_i rv h2
      split at h
      · rename_i p left q h3 h4
        cases h
        obtain ⟨k1, k2⟩ := appP_split hp.mem
        exact TE.post he hB x hpre _ hT h1 h2 (leV_ok h3 k1) (takeP_sub h4 k2) gOf_fix
      · cases h
    · cases h
  · cases h

theorem AllP.go {ps : List Prop} (h : AllP ps) : AllP ps := h
def callP (st : AS) (c : Call) (f : FuncId) (args : List AV) (takes : List Chunk) (m : Nat) : Option ((Nat → Nat) × List Chunk × List Prop) := match acallee st c.callee, aops st c.args.toList with
  | some (f', caps), some vs => match allLt (gOf 0 st.hp takes (pairVs (vs ++ caps) args)) m st.nid with
    | true => match leVs (gOf 0 st.hp takes (pairVs (vs ++ caps) args)) (vs ++ caps) args, takeP (gOf 0 st.hp takes (pairVs (vs ++ caps) args)) st.hp takes with
      | some p, some (left, q) => some (gOf 0 st.hp takes (pairVs (vs ++ caps) args), left, (f' = f) :: appP p q)
      | _, _ => none
    | false => none
  | _, _ => none
theorem callP_ok {c : Call} {f : FuncId} {args : List AV} {takes : List Chunk} {m : Nat} {g : Nat → Nat} {left : List Chunk} {ps : List Prop} (h : callP st c f args takes m = some (g, left, ps)) (hp : AllP ps) : ∃ caps vs, acallee st c.callee = some (f, caps) ∧ aops st c.args.toList = some vs ∧ All2 LeV (vs ++ caps) (args.map (AV.ren g)) ∧ TakeH st.hp (takes.map (Chunk.ren g)) left ∧ ∀ i, i < m → g i < st.nid := by
  unfold callP at h
  split at h
  · rename_i f' caps vs h1 h2
    split at h
    · rename_i h4
      split at h
      · rename_i p left' q h5 h6
        cases h
        have e := hp.mem _ (List.mem_cons_self ..)
        obtain ⟨k1, k2⟩ := appP_split fun x hx => hp.mem x (List.mem_cons_of_mem _ hx)
        subst e
        exact ⟨caps, vs, h1, h2, leVs_ok h5 k1, takeP_ok h6 k2, allLt_ok h4⟩
      · cases h
    · cases h
  · cases h
theorem TE.callW [Free F] {ι : Type} {f : FuncId} {args : List AV} {takes : List Chunk} {m M : Nat} {pre : ι → Prop} {res : ι → AV} {gives : ι → List Chunk} (hcon : Con P f args takes m M pre res gives) {l : List Oper} {o : Oper} {c : Call} {rest : List Oper} {N : Nat} (hN : X.N = N) (hd : dstOk N o = true) (hgd : aguard l st o = some true) (ho : o.op = .call c)
    {g : Nat → Nat} {left : List Chunk} {ps : List Prop} (h : callP st c f args takes m = some (g, left, ps)) (hp : AllP ps) (hk : ∀ x, pre x → TE X (wpListIn F 0 P l.toArray Q rest) (st.called left g m M o.dst (res x) (gives x))) : TE X (wpListIn F 0 P l.toArray Q (o :: rest)) st := by
  obtain ⟨caps, vs, h1, h2, h3, h4, h5⟩ := callP_ok h hp
  exact TE.call hcon hN hd hgd ho g h1 h2 h3 h4 h5 hk
theorem StepL.callW {ι : Type} {f : FuncId} {args : List AV} {takes : List Chunk} {m M : Nat} {pre : ι → Prop} {res : ι → AV} {gives : ι → List Chunk} (hcon : Con P f args takes m M pre res gives) {i fuel : Nat} {l : List Oper} {lb lb' : List Bool} {o : Oper} {c : Call} {N : Nat} (hN : X.N = N) (hi : nthO l i = some o) (hd : dstOk N o = true) (hgd : aguard l st o = some true) (ho : o.op = .call c)
    {g : Nat → Nat} {left : List Chunk} {ps : List Prop} (h : callP st c f args takes m = some (g, left, ps)) (hp : AllP ps) (hK : allK K g takes = true) (hb : normB (setB lb i) some = some lb') (hk : ∀ x, pre x → TL F P X l Q K fuel lb' (st.called left g m M o.dst (res x) (gives x))) : StepL F P X l Q K fuel lb st i :=
  fun hh => by
    obtain ⟨caps, vs, h1, h2, h3, h4, h5⟩ := callP_ok h hp
    refine StepAt.call hcon hN hi hd hgd ho g h1 h2 h3 h4 (allK_ok hK) h5 fun x hx' => ?_
    rw [normB_eq] at hb
    cases hb
    have := hk x hx' ⟨hh.1, by rw [setB_len, hh.2]⟩
    rw [setB_arr]; exact this

theorem NS : (∀ s : ByteArray, (s = ByteArray.mk #[]) = (s.size = 0)) ∧ (∀ n : Nat, ((n : Int)).toNat = n) ∧ (∀ p : Prop, ∀ [Decidable p], (decide p = true) = p) ∧ (∀ p : Prop, ∀ [Decidable p], (decide p = false) = ¬p) ∧ (∀ b : Bool, ((!b) = true) = (b = false)) ∧ (∀ b : Bool, ((!b) = false) = (b = true)) ∧
    (∀ a b : Bool, ((a || b) = true) = (a = true ∨ b = true)) ∧ (∀ a b : Bool, ((a && b) = true) = (a = true ∧ b = true)) ∧ (∀ a b : Bool, ((a || b) = false) = (a = false ∧ b = false)) ∧ (∀ a b : Bool, ((a && b) = false) = (a = false ∨ b = false)) ∧ (∀ p : Prop, (¬¬p) = p) ∧
    (∀ a b : Nat, ((a : Int) < (b : Int)) = (a < b)) ∧ (∀ a b : Nat, ((a : Int) ≤ (b : Int)) = (a ≤ b)) ∧ (∀ a b : Nat, ((a : Int) = (b : Int)) = (a = b)) ∧ (∀ a b : Int, (¬ a < b) = (b ≤ a)) ∧ (∀ a b : Int, (¬ a ≤ b) = (b < a)) ∧ (∀ a b : Nat, (¬ a < b) = (b ≤ a)) ∧ (∀ a b : Nat, (¬ a ≤ b) = (b < a)) ∧
    (∀ l : List UInt8, (bytesC l).n = l.length) ∧ (∀ {α : Type} (f : α → Nat → DC) (d : α) (l : List α), (listC f d l).n = l.length) := by
  refine ⟨fun s => propext (strnil_iff s), fun n => rfl, fun p _ => decide_eq_true_eq, fun p _ => propext decide_eq_false_iff_not, fun b => by cases b <;> decide, fun b => by cases b <;> decide, fun a b => by cases a <;> cases b <;> decide, fun a b => by cases a <;> cases b <;> decide, fun a b => by cases a <;> cases b <;> decide, fun a b => by cases a <;> cases b <;> decide, fun p => propext Classical.not_not, fun a b => propext Int.ofNat_lt, fun a b => propext Int.ofNat_le, fun a b => propext Int.natCast_inj, fun a b => propext Int.not_lt, fun a b => propext Int.not_le, fun a b => propext Nat.not_lt, fun a b => propext Nat.not_le, fun l => rfl, fun f d l => rfl⟩
theorem OS : (AllP [] = True) ∧ (∀ p : Prop, AllP [p] = p) ∧ (∀ (p q : Prop) (r : List Prop), AllP (p :: q :: r) = (p ∧ AllP (q :: r))) ∧ (∀ l : List UInt8, (bytesC l).n = l.length) ∧ (∀ {α : Type} (f : α → Nat → DC) (d : α) (l : List α), (listC f d l).n = l.length) ∧ (∀ l : List (List DC), (litC l).n = l.length) ∧ (∀ a b : Ct, (appC a b).n = a.n + b.n) ∧ (nilC.n = 0) ∧
    (∀ s : ByteArray, (strC s).n = s.size) ∧ (∀ n z, (zeroC n z).n = n) ∧ (∀ c k o d, (setC c k o d).n = c.n) ∧ (∀ {α : Type} (a : α) (l : List α), (a :: l).length = l.length + 1) ∧ (∀ {α : Type}, ([] : List α).length = 0) ∧ (∀ {α : Type} (a b : List α), (a ++ b).length = a.length + b.length) ∧ (∀ {α β : Type} (f : α → β) (l : List α), (l.map f).length = l.length) ∧ (∀ n : Nat, ((n : Int)).toNat = n) ∧ ((2 : Int) ^ Int.toNat 1 = 2) ∧ (∀ c n, (headC c n).n = n) ∧ (∀ c p n, (partC c p n).n = n) ∧ (∀ c p s, (setRngC c p s).n = max c.n (p + s.n)) := by
  refine ⟨rfl, fun _ => rfl, fun _ _ _ => rfl, fun _ => rfl, fun _ _ _ => rfl, fun _ => rfl, fun _ _ => rfl, rfl, fun _ => rfl, fun _ _ => rfl, fun _ _ _ _ => rfl, fun _ _ => rfl, rfl, fun _ _ => List.length_append, fun _ _ => List.length_map _, fun _ => rfl, rfl, fun _ _ => rfl, fun _ _ _ => rfl, fun _ _ _ => rfl⟩
theorem LeD.lit {α : Type} {f : α → Nat → DC} {d : α} {sz n : Nat} {rs : List (List DC)} {l : List α} (hn : n = l.length) (h : RowsOk f sz rs l) : LeD sz (litC rs).n (litC rs).cell n (listC f d l).cell := by
  subst hn
  exact listC_lit h
theorem TE.rgo [Free F] (hT : T.Ok P) {N id : Nat} {l rest' : List Oper} {ps : List Prop} (hN : X.N = N) (h : st.force (fun s => arun T N l l s []) = (rest', st', ps)) (hps : AllP ps) (hk : TE X (wpListIn F 0 P l.toArray Q rest') st') : TE X ((Code.region id l.toArray false).wpIn F 0 P Q) st := TE.region (TE.run hT hN h hps hk)
end
abbrev t1 := @TE.seq
abbrev t2 := @TE.done
abbrev t3 := @TE.thenN
abbrev t4 := @TE.inN
abbrev t5 := @TE.skip
abbrev t6 := @TE.block
abbrev t7 := @TE.ret
abbrev t8 := @TE.thenR
abbrev t9 := @TE.inR
abbrev tA := @TE.exit
abbrev tB := @TE.thenE
abbrev tC := @TE.inHit
abbrev tD := @TE.inMiss
abbrev tE := @TE.label
abbrev tF := @TE.goto
abbrev tG := @TE.thenG
abbrev tH := @TE.inG
abbrev tI := @TE.jumpN
abbrev tJ := @TE.jumpR
abbrev tK := @TE.jumpE
abbrev tL := @TE.jumpG
end Go.Proofs.Ythhpofehcnjmmaa.Am
/- The abstract machine: the control steps, found by a class. No program is named. -/
namespace Go.Proofs.Ythhpofehcnjmmaa.Am
open Go.RowKit Lw
/-- From a claim to the one that it steps to. -/
class Stp (R : Act → World → Prop) (R' : outParam (Act → World → Prop)) : Prop where
  go : ∀ {X : Cx} {st : AS}, TE X R' st → TE X R st
theorem stp {X : Cx} {st : AS} {R R' : Act → World → Prop} [h : Stp R R'] (k : TE X R' st) : TE X R st := h.go k
section
variable {F : Fence} {P : Program} {Q : Exit → Act → World → Prop} {K : Act → World → Prop} {c d : Code} {l : List Oper} {i j : Nat}
instance : Stp (Code.wpIn F 0 P (Code.seq c d) Q) (Code.wpIn F 0 P c (Exit.then (Code.wpIn F 0 P d Q) Q)) := ⟨TE.seq⟩
instance : Stp (wpListIn F 0 P (List.toArray l) Q []) (Q Exit.normal) := ⟨TE.done⟩
instance : Stp (Exit.then K Q Exit.normal) K := ⟨TE.thenN⟩
instance : Stp (Exit.inBlock i Q Exit.normal) (Q Exit.normal) := ⟨TE.inN⟩
instance : Stp (Code.wpIn F 0 P Code.skip Q) (Q Exit.normal) := ⟨TE.skip⟩
instance : Stp (Code.wpIn F 0 P (Code.block i c) Q) (Code.wpIn F 0 P c (Exit.inBlock i Q)) := ⟨TE.block⟩
instance : Stp (Code.wpIn F 0 P Code.ret Q) (Q Exit.ret) := ⟨TE.ret⟩
instance : Stp (Exit.then K Q Exit.ret) (Q Exit.ret) := ⟨TE.thenR⟩
instance : Stp (Exit.inBlock i Q Exit.ret) (Q Exit.ret) := ⟨TE.inR⟩
instance : Stp (Code.wpIn F 0 P (Code.exit i) Q) (Q (Exit.exit i)) := ⟨TE.exit⟩
instance : Stp (Exit.then K Q (Exit.exit i)) (Q (Exit.exit i)) := ⟨TE.thenE⟩
instance : Stp (Exit.inBlock i Q (Exit.exit i)) (Q Exit.normal) := ⟨TE.inHit⟩
instance : Stp (Code.wpIn F 0 P (Code.label i) Q) (Q Exit.normal) := ⟨TE.label⟩
instance : Stp (Code.wpIn F 0 P (Code.goto i) Q) (Q (Exit.goto i)) := ⟨TE.goto⟩
instance : Stp (Exit.then K Q (Exit.goto i)) (Q (Exit.goto i)) := ⟨TE.thenG⟩
instance : Stp (Exit.inBlock i Q (Exit.goto j)) (Q (Exit.goto j)) := ⟨TE.inG⟩
instance : Stp (Exit.jump i K Q Exit.normal) (Q Exit.normal) := ⟨TE.jumpN⟩
instance : Stp (Exit.jump i K Q Exit.ret) (Q Exit.ret) := ⟨TE.jumpR⟩
instance : Stp (Exit.jump i K Q (Exit.exit j)) (Q (Exit.exit j)) := ⟨TE.jumpE⟩
instance : Stp (Exit.jump i K Q (Exit.goto i)) K := ⟨TE.jumpG⟩
end
/-! Steps with the small goals filled in. -/
section
variable {F : Fence} {P : Program} {Q : Exit → Act → World → Prop} {X : Cx} {st : AS} {K : Nat → Bool}
theorem gs {l rest : List Oper} {o : Oper} {t : Nat} {b : Bool} (ht : b = true → TE X (wpListIn F 0 P l.toArray Q (o :: rest)) (st.put (some t) (.o (.c (.bool true))))) (hf : b = false → TE X (wpListIn F 0 P l.toArray Q (o :: rest)) (st.put (some t) (.o (.c (.bool false))))) (hg : gslot l o = some t := by rfl) (hc : look st.env t = some (.o (.sb b)) := by rfl) : TE X (wpListIn F 0 P l.toArray Q (o :: rest)) st := TE.gsplit hg hc ht hf
theorem gl {l : List Oper} {t fuel : Nat} {b : Bool} {lb : List Bool} (ht : b = true → TL F P X l Q K fuel lb (st.put (some t) (.o (.c (.bool true))))) (hf : b = false → TL F P X l Q K fuel lb (st.put (some t) (.o (.c (.bool false))))) (hg : gslots l st (readyL lb 0 l lb) = some t := by rfl) (hc : look st.env t = some (.o (.sb b)) := by rfl) : TL F P X l Q K fuel lb st := TL.gsplit hg hc ht hf
theorem gc {t : Nat} {b : Bool} {x y : Code} (ht : b = true → TE X (x.wpIn F 0 P Q) st) (hf : b = false → TE X (y.wpIn F 0 P Q) st) (hc : look st.env t = some (.o (.sb b)) := by rfl) : TE X ((Code.cond (.tmp t) x y).wpIn F 0 P Q) st := TE.cond_split hc ht hf
end
theorem vi {k : IntKind} {a b : Int} (h : a = b := by (first|omega|rfl|(simp only [Int.toNat_natCast];omega))) : Value.int k a = Value.int k b := congrArg _ h
theorem vb {a b : Bool} (h : a = b := by assumption) : Value.bool a = Value.bool b := congrArg _ h
theorem io {a b : Prop} (h : a ∨ b := by (first|exact .inl rfl|exact .inr rfl)) : a ∨ b := h
theorem xf {G : Prop} (f : False := by (first|omega|exact h trivial|exact h|exact h rfl|contradiction)) : G := f.elim
theorem zz {p : Prop} (h : p := by (first|with_reducible rfl|with_reducible exact LeD.refl|exact vi|rfl|exact vb|exact LeD.refl)) : p := h
theorem og {p : Prop} (h : p := by (first|exact trivial|exact fun _ _=>⟨_,rfl⟩)) : p := h
theorem oj {p : Prop} (h : p := by (first|omega|exact fun _ _=>⟨_,rfl⟩)) : p := h
section
variable {F : Fence} {P : Program} {T : Tys} {X : Cx} {st st' : AS} {Q : Exit → Act → World → Prop} {K : Nat → Bool}
theorem rn [hF : Free F] {N : Nat} {l rest rest' : List Oper} {ps : List Prop} (hps : AllP ps) (hk : TE X (wpListIn F 0 P l.toArray Q rest') st') (hT : T.Ok P := by exact tysOk) (hN : X.N = N := by rfl) (h : st.force (fun s => arun T N l rest s []) = (rest', st', ps) := by rfl) : TE X (wpListIn F 0 P l.toArray Q rest) st := TE.run hT hN h hps hk
theorem rg [Free F] {N id : Nat} {l rest' : List Oper} {ps : List Prop} (hps : AllP ps) (hk : TE X (wpListIn F 0 P l.toArray Q rest') st') (hT : T.Ok P := by exact tysOk) (hN : X.N = N := by rfl) (h : st.force (fun s => arun T N l l s []) = (rest', st', ps) := by rfl) : TE X ((Code.region id l.toArray false).wpIn F 0 P Q) st := TE.rgo hT hN h hps hk
theorem sm {i fuel : Nat} {l : List Oper} {lb lb' : List Bool} {o : Oper} {ps : List Prop} {N : Nat} (hps : AllP ps) (hk : TL F P X l Q K fuel lb' st') (hT : T.Ok P := by exact tysOk) (hN : X.N = N := by rfl) (hi : nthO l i = some o := by rfl) (hd : dstOk N o = true := by rfl) (hg : aguard l st o = some true := by rfl) (h : st.force (fun s => amem T K o s) = some (st', ps) := by rfl) (hb : normB (setB lb i) some = some lb' := by rfl) : StepL F P X l Q K fuel lb st i := StepL.mem hT hN hi hd hg h hps hb hk
theorem sp {i fuel : Nat} {l : List Oper} {lb lb' : List Bool} {o : Oper} {av : AV} {ps : List Prop} {N : Nat} (hps : AllP ps) (hk : TL F P X l Q K fuel lb' (st.put o.dst av)) (hT : T.Ok P := by exact tysOk) (hN : X.N = N := by rfl) (hi : nthO l i = some o := by rfl) (hd : dstOk N o = true := by rfl) (hg : aguard l st o = some true := by rfl) (h : st.force (fun s => apure T (fun _ => true) o s) = some (av, ps) := by rfl) (hb : normB (setB lb i) some = some lb' := by rfl) : StepL F P X l Q K fuel lb st i := StepL.pure hT hN hi hd hg h hps hb hk
theorem ct {c : Operand} {x y : Code} (h : TE X (x.wpIn F 0 P Q) st) (hc : aop st c = some (.o (.c (.bool true))) := by rfl) : TE X ((Code.cond c x y).wpIn F 0 P Q) st := TE.cond_true hc h
theorem cf {c : Operand} {x y : Code} (h : TE X (y.wpIn F 0 P Q) st) (hc : aop st c = some (.o (.c (.bool false))) := by rfl) : TE X ((Code.cond c x y).wpIn F 0 P Q) st := TE.cond_false hc h
theorem dn {id : Nat} {l : List Oper} {lb : List Bool} (h : TL F P X l Q (fun i => i.blt st.nid) l.length lb st) (hm : P.follows .mixedOrders = true := by rfl) (hs : selL l = true := by rfl) (hb : normB (repB l) some = some lb := by rfl) : TE X ((Code.region id l.toArray true).wpIn F 0 P Q) st := TE.drawN hm hs hb h
theorem dc {id : Nat} {l : List Oper} {lb : List Bool} (h : TL F P X l Q (fun _ => false) l.length lb st) (hc : hasCp l = true := by rfl) (hm : P.follows .mixedOrders = true := by rfl) (hs : selL l = true := by rfl) (hb : normB (repB l) some = some lb := by rfl) : TE X ((Code.region id l.toArray true).wpIn F 0 P Q) st := TE.drawC hc hm hs hb h
end
end Go.Proofs.Ythhpofehcnjmmaa.Am
namespace Go.Proofs.Ythhpofehcnjmmaa.Am
open Go.RowKit Lw

abbrev U : Unit → Prop := fun _ => True
abbrev G0 : Unit → List Chunk := fun _ => []
section
variable {F : Fence} {P : Program} {T : Tys} {X : Cx} {S : Nat → Prop} {ν : Nat → Value} {st st' : AS} {a : Act} {w : World} {Q : Exit → Act → World → Prop} {R : Act → World → Prop} {K : Nat → Bool}
def dsts : Code → List Nat
  | .region _ ops _ => ops.toList.filterMap (·.dst)
  | .seq x y => dsts x ++ dsts y
  | .cond _ x y => dsts x ++ dsts y
  | .block _ x => dsts x
  | .loop x => dsts x
  | .rangeFunc _ ps x y => ps.toList ++ (dsts x ++ dsts y)
  | .scope x => dsts x
  | _ => []
def memN : List Nat → Nat → Bool
  | [], _ => false
  | a :: l, i => match Nat.beq a i with
    | true => true
    | false => memN l i
def dropE (ts : List Nat) : Env → Env
  | [] => []
  | (t, v) :: e => match memN ts t with
    | true => dropE ts e
    | false => (t, v) :: dropE ts e
def dropH (ids : List Nat) : List Chunk → List Chunk
  | [] => []
  | c :: r => match memN ids c.id with
    | true => dropH ids r
    | false => c :: dropH ids r
def appE : Env → Env → Env
  | [], e => e
  | p :: r, e => p :: appE r e
def appH : List Chunk → List Chunk → List Chunk
  | [], e => e
  | p :: r, e => p :: appH r e
theorem TE.loopG [Free F] {ι : Type} (pre : ι → Prop) (es : ι → Env) (ids : List Nat) (hs : ι → List Chunk) (μ : ι → Nat) (x0 : ι) {c : Code} {E0 : Env} {H0 : List Chunk} {n0 : Nat}
    (hE : st.force (fun s => forceE (dropE (dsts c) s.env) fun e => forceH (dropH ids s.hp) fun h => AS.mk e h s.nid) = ⟨E0, H0, n0⟩)
    (h0 : pre x0) (he : Ent X (gEnv X.m st ⟨appE (es x0) E0, appH (hs x0) H0, n0⟩) st ⟨appE (es x0) E0, appH (hs x0) H0, n0⟩)
    (round : ∀ x, pre x → TE X (c.wpIn F 0 P (Exit.then (Again X pre (fun x => ⟨appE (es x) E0, appH (hs x) H0, n0⟩) μ (μ x)) Q)) ⟨appE (es x) E0, appH (hs x) H0, n0⟩) : TE X ((Code.loop c).wpIn F 0 P Q) st :=
  TE.loop' pre (fun x => ⟨appE (es x) E0, appH (hs x) H0, n0⟩) μ x0 h0 he round

theorem TL.two [Free F] {l : List Oper} {i j : Nat} {fuel : Nat} {lb : List Bool} (hr : readyL lb 0 l lb = [i, j]) (h1 : StepL F P X l Q K fuel lb st i) (h2 : StepL F P X l Q K fuel lb st j) : TL F P X l Q K (fuel + 1) lb st := TL.branch hr ⟨h1, h2⟩
theorem TL.three [Free F] {l : List Oper} {i j k : Nat} {fuel : Nat} {lb : List Bool} (hr : readyL lb 0 l lb = [i, j, k]) (h1 : StepL F P X l Q K fuel lb st i) (h2 : StepL F P X l Q K fuel lb st j) (h3 : StepL F P X l Q K fuel lb st k) : TL F P X l Q K (fuel + 1) lb st := TL.branch hr ⟨h1, h2, h3⟩
theorem TL.four [Free F] {l : List Oper} {i j k m : Nat} {fuel : Nat} {lb : List Bool} (hr : readyL lb 0 l lb = [i, j, k, m]) (h1 : StepL F P X l Q K fuel lb st i) (h2 : StepL F P X l Q K fuel lb st j) (h3 : StepL F P X l Q K fuel lb st k) (h4 : StepL F P X l Q K fuel lb st m) : TL F P X l Q K (fuel + 1) lb st := TL.branch hr ⟨h1, h2, h3, h4⟩
def eqCell (k : TK) : A1 → A1 → Option Bool
  | .c (.int j m), .c (.int j' n) => match k, decide (j = j') with
    | .int _, true => some (decide (m = n))
    | _, _ => none
  | .c (.string s), .c (.string t) => match k with
    | .str => some (decide (s = t))
    | _ => none
  | x, y => match k, abool x, abool y with
    | .bool, some a, some b => some (decide (a = b))
    | _, _, _ => none
def eqCells (T : Tys) (as bs : List A1) : List (Nat × Nat × Nat) → Option Bool
  | [] => some true
  | (ft, off, _) :: r => match tlook T ft, nth as off, nth bs off with
    | some ti, some a, some b => match eqCell ti.k a b, eqCells T as bs r with
      | some p, some q => some (p && q)
      | _, _ => none
    | _, _, _ => none
def eqOkB (P : Program) (t : TypeId) : Bool := (P.fieldsOf t).toList.all (fun f => f.name != "_") && !P.stoodInHeld t && !P.eqGuardType P.depth t
theorem eqCell_ok (hT : T.Ok P) {ft : Nat} {ti : TI} (ht : tlook T ft = some ti) {x y : A1} {b : Bool} {u v : Value} (h : eqCell ti.k x y = some b) (hx : x.rel w S ν u) (hy : y.rel w S ν v) (d : Nat) (w' : World) : (Op.equalIn (d + 1) ft u v).run P w' = .ok b w' ∧ ti.agg = false := by
  obtain ⟨hti, hid⟩ := hT.get ht
  obtain ⟨dd, hu, hk, hrow⟩ := hti.und
  rw [hid] at hu
  unfold eqCell at h
  split at h
  · split at h
    · rename_i k' hkk hj
      cases h
      obtain ⟨rfl, _⟩ := hx
      obtain ⟨rfl, _⟩ := hy
      have hj := of_decide_eq_true hj
      subst hj
      rw [hkk] at hk
      have hk : dd = .int _ := hk
      subst hk
      exact ⟨by rw [run_equalIn_int w' d ft _ _ _ _ hu]; rfl, hrow.symm⟩
    · cases h
  · split at h
    · rename_i hkk
      cases h
      obtain ⟨rfl, _⟩ := hx
      obtain ⟨rfl, _⟩ := hy
      rw [hkk] at hk
      have hk : dd = .string := hk
      subst hk
      refine ⟨?_, hrow.symm⟩
      rw [run_equalIn_string w' d ft _ _ hu]
      congr 1
      rw [ByteArray.toList_eq, ByteArray.toList_eq]; exact str_eq _ _
    · cases h
  · split at h
    · rename_i a' b' hkk ha hb
      cases h
      obtain rfl := abool_ok ha hx
      obtain rfl := abool_ok hb hy
      rw [hkk] at hk
      have hk : dd = .bool := hk
      subst hk
      exact ⟨by rw [run_equalIn_bool' w' d ft _ _ hu]; rfl, hrow.symm⟩
    · cases h
theorem eqFields_ok (hT : T.Ok P) {as bs : List A1} {us vs : List Value} (hu : All2 (A1.rel w S ν) as us) (hv : All2 (A1.rel w S ν) bs vs) (d : Nat) (w' : World) : ∀ {l : List Field} {fs : List (Nat × Nat × Nat)} {b : Bool}, l.map (fun f => (f.type, f.offset)) = fs.map (fun p => (p.1, p.2.1)) → (∀ f ∈ l, f.name ≠ "_") → eqCells T as bs fs = some b →
    (Op.eqFields (d + 1) us.toArray vs.toArray l).run P w' = .ok b w'
  | [], [], b, _, _, h => by cases h; rfl
  | f :: l, (ft, off, z) :: fs, b, hm, hn, h => by
    obtain ⟨h1, h2⟩ := List.cons.inj hm
    have e1 : f.type = ft := (Prod.mk.inj h1).1
    have e2 : f.offset = off := (Prod.mk.inj h1).2
    subst e1 e2
    simp only [eqCells] at h
    split at h
    · rename_i ti x y ht hx hy
      split at h
      · rename_i p q hp hq
        cases h
        rw [nth_eq] at hx hy
        obtain ⟨u, u1, u2⟩ := hu.get hx
        obtain ⟨v, v1, v2⟩ := hv.get hy
        obtain ⟨k1, k2⟩ := eqCell_ok hT ht hp u2 v2 d w'
        have hag : (isAgg f.type).run P w' = .ok false w' := by
          obtain ⟨hti, hid⟩ := hT.get ht
          obtain ⟨dd, hund, _, hrow⟩ := hti.und
          rw [hid] at hund
          rw [k2] at hrow
          have : P.underlying f.type = some dd := hund
          simp [isAgg, run_underlying this]
          cases dd <;> first | rfl | cases hrow
        have ih := eqFields_ok hT hu hv d w' (l := l) (fs := fs) h2 (fun f hf => hn f (List.mem_cons_of_mem _ hf)) hq
        have hu' : (us.toArray)[f.offset]? = some u := by simpa using u1
        have hv' : (vs.toArray)[f.offset]? = some v := by simpa using v1
        simp only [Op.eqFields, if_pos (hn f (List.mem_cons_self ..)), part, Sem.run_bind, hag, Result.andThen_ok, Bool.false_eq_true, if_false, hu', hv', Sem.run_pure, k1]
        cases p
        · rfl
        · simpa using ih
      · cases h
    · cases h
  | [], _ :: _, _, h, _, _ => nomatch h
  | _ :: _, [], _, h, _, _ => nomatch h
theorem m_eqS (hT : T.Ok P) {o : Oper} {op : BinOp} {t t' : TypeId} {x y : Operand} {zi z1 z2 : Nat} {z3 : List Value} {z4 : Bool} {fs : List (Nat × Nat × Nat)} {as bs : List A1} {b : Bool} (hok : eqOkB P t = true) (ho : o.op = .binOp op t x y t') (hop : op = .eql ∨ op = .neq) (ht : tlook T t = some ⟨zi, .struct fs, z1, z2, z3, z4⟩)
    (hx : aop st x = some (.g as)) (hy : aop st y = some (.g bs)) (h : eqCells T as bs fs = some b) : StepTo P K o st (· = st.put o.dst (.o (.sb (b == (op == .eql))))) := by
  intro X S ν a w Q K' hd sat hk
  obtain ⟨⟨us, e1, r1⟩, _⟩ := aop_ok sat hx
  obtain ⟨⟨vs, e2, r2⟩, _⟩ := aop_ok sat hy
  obtain ⟨arr, hund, hm, _⟩ := und_struct hT ht
  have hf : P.fieldsOf t = arr := by unfold Program.fieldsOf; rw [hund]
  unfold eqOkB at hok
  rw [hf] at hok
  simp only [Bool.and_eq_true, Bool.not_eq_true'] at hok
  obtain ⟨⟨k1, k2⟩, k3⟩ := hok
  have hr := eqFields_ok hT r1 r2 9998 w hm (fun f hf => by simpa using List.all_eq_true.1 k1 f hf) h
  have hst := run_equalIn_struct (P := P) w 9999 t us.toArray vs.toArray (by rw [hf]; exact hund) k2
  rw [hf, hr] at hst
  refine wp_value (w' := w) (u := .bool (b == (op == .eql))) ?_ (hk _ S ν _ _ rfl (sat.put hd rfl trivial) ⟨Nat.le_refl _, fun _ h => h, fun ch hc hk => ⟨by rw [(AS.put_hp _ _ _).1]; exact hc, rfl⟩, fun _ _ => rfl⟩)
  rw [exec_binOp ho, Sem.run_bind, e1, e2]
  have : (do eqGuard op t x y (.agg us.toArray) (.agg vs.toArray); binOp op t (.agg us.toArray) (.agg vs.toArray) : Sem Value).run P w = .ok (.bool (b == (op == .eql))) w := by
    rw [Sem.run_bind, run_eqGuard_agg w op t x y _ _ k3, Result.andThen_ok]
    rcases hop with rfl | rfl
    · rw [run_eql_struct, hst]; cases b <;> rfl
    · rw [run_neq_struct, hst]; cases b <;> rfl
  rw [this]; rfl
end
end Go.Proofs.Ythhpofehcnjmmaa.Am
namespace Go.Proofs.Ythhpofehcnjmmaa.At
def ltS (a b : ByteArray) : Bool := Op.bytesLess a.data.toList b.data.toList
theorem less_iff : ∀ (x y : List UInt8), Op.bytesLess x y = true ↔ x < y
  | _, [] => by rw [Op.bytesLess]; simp
  | [], b :: y => by simp [Op.bytesLess]
  | a :: x, b :: y => by rw [Op.bytesLess, List.cons_lt_cons_iff, Bool.or_eq_true, Bool.and_eq_true, less_iff x y]; simp
theorem ltS_iff {a b : ByteArray} : ltS a b = true ↔ a.data.toList < b.data.toList := less_iff _ _
theorem str_ext {a b : ByteArray} (h : a.data.toList = b.data.toList) : a = b := by
  cases a; cases b; congr; exact Array.toList_inj.1 h
theorem ltS_irrefl (a : ByteArray) : ltS a a = false := by
  cases h : ltS a a
  · rfl
  · exact absurd (ltS_iff.1 h) (List.lt_irrefl _)
theorem ltS_trans {a b c : ByteArray} (h : ltS a b = true) (k : ltS b c = true) : ltS a c = true := ltS_iff.2 (List.lt_trans (ltS_iff.1 h) (ltS_iff.1 k))
theorem ltS_asymm {a b : ByteArray} (h : ltS a b = true) : ltS b a = false := by
  cases k : ltS b a
  · rfl
  · have := ltS_trans h k; rw [ltS_irrefl] at this; cases this
theorem ltS_tri {a b : ByteArray} (h : ltS a b = false) (k : ltS b a = false) : a = b := by
  have h1 : ¬ a.data.toList < b.data.toList := fun h' => by rw [ltS_iff.2 h'] at h; cases h
  have h2 : ¬ b.data.toList < a.data.toList := fun h' => by rw [ltS_iff.2 h'] at k; cases k
  exact str_ext (List.le_antisymm (List.not_lt.1 h2) (List.not_lt.1 h1))
theorem ltS_ne {a b : ByteArray} (h : ltS a b = true) : a ≠ b := fun e => by rw [e, ltS_irrefl] at h; cases h
def cmpI (a b : ByteArray) : Int := if ltS a b then -1 else if a = b then 0 else 1
theorem cmpI_eq {a b : ByteArray} : cmpI a b = 0 ↔ a = b := by
  unfold cmpI; split
  · rename_i h; simp [ltS_ne h]
  · split <;> simp [*]
theorem cmpI_gt {a b : ByteArray} : cmpI a b = 1 ↔ ltS b a = true := by
  unfold cmpI; split
  · rename_i h; simp [ltS_asymm h]
  · split
    · rename_i h; simp [h, ltS_irrefl]
    · rename_i h1 h2
      simp only [true_iff]
      cases h : ltS b a
      · exact absurd (ltS_tri (by simpa using h1) h) h2
      · rfl

abbrev At := ByteArray × ByteArray
abbrev d0 : At := (⟨#[]⟩, ⟨#[]⟩)
def badB (b : UInt8) : Bool := decide (b.toNat < 33 ∨ 126 < b.toNat)
def keyE (s : ByteArray) : Int := if s.size = 0 ∨ s.data.toList.any badB = true then 6 else if 40 < s.size then 3 else 0
def aloneE (x : At) : Int := if keyE x.1 ≠ 0 then keyE x.1 else if 200 < x.2.size then 3 else 0
def sizeI : List At → Nat
  | [] => 0
  | x :: l => (2 + x.1.size + x.2.size) + sizeI l
def alonesE : List At → Int
  | [] => 0
  | x :: l => if aloneE x ≠ 0 then aloneE x else alonesE l
def dupB : List At → Bool
  | [] => false
  | x :: l => l.any (fun y => decide (y.1 = x.1)) || dupB l
def sortedB : List At → Bool
  | [] => true
  | [_] => true
  | x :: y :: l => !ltS y.1 x.1 && sortedB (y :: l)
def fullB (l : List At) : Bool := decide (6 < l.length ∨ 288 < sizeI l)
def checkE (l : List At) : Int :=
  if 6 < l.length then 3 else if alonesE l ≠ 0 then alonesE l else if dupB l then 8 else if !sortedB l then 6 else if fullB l then 5 else 0
def rowB (x : At) : List UInt8 := UInt8.ofNat x.1.size :: (x.1.data.toList ++ UInt8.ofNat x.2.size :: x.2.data.toList)
def bytesI (l : List At) : List UInt8 := l.flatMap rowB
theorem rowB_len (x : At) : (rowB x).length = 2 + x.1.size + x.2.size := by
  have h1 : x.1.data.toList.length = x.1.size := rfl
  have h2 : x.2.data.toList.length = x.2.size := rfl
  simp only [rowB, List.length_cons, List.length_append, h1, h2]; omega
theorem bytesI_len (l : List At) : (bytesI l).length = sizeI l := by
  induction l with
  | nil => rfl
  | cons x l ih => rw [bytesI, List.flatMap_cons, List.length_append, rowB_len, sizeI, ← ih]; rfl
theorem take_snoc {α : Type} {l : List α} {d : α} {q : Nat} (hq : q < l.length) : l.take (q + 1) = l.take q ++ [l.getD q d] := by
  rw [List.take_succ_eq_append_getElem hq, List.getD_eq_getElem?_getD, List.getElem?_eq_getElem hq]; rfl
theorem bytesI_snoc {l : List At} {q : Nat} (hq : q < l.length) : bytesI (l.take (q + 1)) = bytesI (l.take q) ++ rowB (l.getD q d0) := by
  rw [take_snoc (d := d0) hq, bytesI, List.flatMap_append]; simp [bytesI]
theorem sizeI_snoc {l : List At} {q : Nat} (hq : q < l.length) : sizeI (l.take (q + 1)) = sizeI (l.take q) + (2 + (l.getD q d0).1.size + (l.getD q d0).2.size) := by
  rw [← bytesI_len, ← bytesI_len, bytesI_snoc hq, List.length_append, rowB_len]
theorem sizeI_take (l : List At) (q : Nat) : sizeI (l.take q) ≤ sizeI l := by
  induction l generalizing q with
  | nil => simp
  | cons x l ih =>
    cases q with
    | zero => simp [sizeI]
    | succ q => simp only [List.take_succ_cons, sizeI]; have := ih q; omega
def Srt (l : List At) : Prop := ∀ i j, i < j → j < l.length → ltS (l.getD i d0).1 (l.getD j d0).1 = true
theorem mem_getD {l : List At} {y : At} (h : y ∈ l) : ∃ k, k < l.length ∧ l.getD k d0 = y := by
  obtain ⟨k, hk, e⟩ := List.getElem_of_mem h
  exact ⟨k, hk, by rw [List.getD_eq_getElem?_getD, List.getElem?_eq_getElem hk]; exact e⟩
theorem getD_mem {l : List At} {k : Nat} (h : k < l.length) : l.getD k d0 ∈ l := by
  rw [List.getD_eq_getElem?_getD, List.getElem?_eq_getElem h]; exact List.getElem_mem h
end Go.Proofs.Ythhpofehcnjmmaa.At
namespace Go.Proofs.Ythhpofehcnjmmaa.Am
open Go.RowKit Lw
theorem bytes_app {a b : Ct} {x y z : List UInt8} (h : LeDC 1 a (bytesC x)) (k : LeDC 1 b (bytesC y)) (e : z = x ++ y) : LeDC 1 (appC a b) (bytesC z) := by
  subst e; exact (LeDC.app h k).trans (listC_app x y)
theorem byte_lit {z : Int} {b : UInt8} (h : z = b.toNat) : LeDC 1 (litC [[.c (.int .u8 z)]]) (bytesC [b]) := listC_one b (byte_nth h)
theorem str_lit (s : ByteArray) : LeDC 1 (strC s) (bytesC s.data.toList) := LeDC.of_eq (strC_eq s)
theorem LeD.zero {sz n n' : Nat} {c c' : Nat → Nat → DC} (h : n = 0) (h' : n' = 0) : LeD sz n c n' c' := by subst h h'; exact ⟨rfl, fun i j hi => absurd hi (Nat.not_lt_zero _)⟩
section
variable {P : Program} {T : Tys} {st : AS} {o : Oper} {K : Nat → Bool}
theorem StepL.law {F : Fence} {X : Cx} {Q : Exit → Act → World → Prop} {R' : AS → Prop} {i fuel : Nat} {l : List Oper} {lb lb' : List Bool} {o : Oper} {N : Nat} (hN : X.N = N) (hi : nthO l i = some o) (hd : dstOk N o = true) (hnd : ∀ c, o.op ≠ .defer c) (hg : aguard l st o = some true) (h : StepTo P K o st R') (hb : normB (setB lb i) some = some lb') (hk : ∀ s, R' s → TL F P X l Q K fuel lb' s) : StepL F P X l Q K fuel lb st i :=
  fun hh => by
    subst hN
    refine ⟨o, by rw [← Array.getElem?_toList, ← nthO_eq]; exact hi, hd, hnd, by simpa using hg, R', h, fun s hs => ?_⟩
    rw [normB_eq] at hb
    cases hb
    have := hk s hs ⟨hh.1, by rw [setB_len, hh.2]⟩
    rw [setB_arr]; exact this
end
end Go.Proofs.Ythhpofehcnjmmaa.Am
namespace Go.Proofs.Ythhpofehcnjmmaa.Am
open Go.RowKit Lw
section
variable {F : Fence} {P : Program} {T : Tys} {X : Cx} {S : Nat → Prop} {ν : Nat → Value} {st : AS} {a : Act} {w : World} {o : Oper} {K : Nat → Bool} {Q : Exit → Act → World → Prop}

theorem m_obj {u : Value} {ob : AO} {o' : Obj} {x : A1} (hok : ∀ w S, ob.ok w S o') (hu : ∀ w : World, u = u) (mk : Nat → Value) (hmk : (∀ b, mk b = .pointer (some ⟨b, 0, none⟩)) ∧ x = .ptr st.nid 0 ∧ isMapA ob = false ∨ (∀ b, mk b = .map (some b)) ∧ x = .own st.nid)
    (hrun : ∀ (a : Act) (w : World) S ν X, Sat X S ν st a w → (execOp a.eval o).run P w = .ok (.value (mk w.heap.size)) (w.alloc o')) :
    StepTo P K o st (· = st.new st.hp (fun i => .obj i ob) o.dst x) := by
  intro X S ν a w Q K' hd sat hk
  have hbk : objBlk (mk w.heap.size) = some w.heap.size := by rcases hmk with ⟨h, _⟩ | ⟨h, _⟩ <;> rw [h] <;> rfl
  refine wp_value (w' := w.alloc o') (u := mk w.heap.size) (hrun a w S ν X sat) (step_new (takes := []) (rest := st.hp) (mk := fun i => .obj i ob) (v := mk w.heap.size) hd sat (.refl _) (fun ch hc => by cases hc) (fr_alloc _ _ _) ?_ ?_ ?_ (x := x) ?_ ?_ hk)
  · refine ⟨w.heap.size, o', ?_, heap_alloc_new w _, hok _ _, ?_⟩
    · rw [upd_same]
      rcases hmk with ⟨h, _⟩ | ⟨h, _⟩
      · exact .inl (h _)
      · exact .inr (h _)
    · rw [upd_same]
      rcases hmk with ⟨h, _, hm⟩ | ⟨h, _⟩
      · exact fun hm' => by rw [hm] at hm'; cases hm'
      · exact fun _ => h _
  · intro b hb
    simp only [Chunk.blk, upd_same] at hb
    rw [hbk] at hb
    cases hb
    exact ⟨by simp, fun hs => by have := (sat.imm _ hs).1; omega, .inr (Nat.le_refl _)⟩
  · exact Nat.lt_succ_self _
  · rcases hmk with ⟨h, rfl, _⟩ | ⟨h, rfl⟩
    · exact ⟨w.heap.size, by rw [upd_same]; exact h _, h _⟩
    · exact ⟨(upd_same _ _ _).symm, by rw [upd_same, h]; rfl⟩
  · rcases hmk with ⟨h, rfl, _⟩ | ⟨h, rfl⟩ <;> exact Nat.lt_succ_self _

theorem putObj_other (w : World) {b k : Nat} {ob : Obj} (h : k ≠ b) : (w.putObj b ob).heap[k]? = w.heap[k]? := by
  simp [World.putObj, Array.getElem?_setIfInBounds_ne (Ne.symm h)]
theorem putObj_same (w : World) {b : Nat} {ob : Obj} (h : b < w.heap.size) : (w.putObj b ob).heap[b]? = some ob := by
  simp [World.putObj, h]
theorem obj_step {id : Nat} {ob ob' : AO} {rest : List Chunk} {av : AV} {u : Value} (hd : ∀ d, o.dst = some d → d < X.N) (sat : Sat X S ν st a w) (htk : takeObj (fun i => !K i) st.hp id = some (ob, rest)) (hio : isMapA ob' = isMapA ob) (hv : ∀ w', av.rel w' S ν u) (hl : av.lt st.nid) :
    ∃ b o', (ν id = .pointer (some ⟨b, 0, none⟩) ∨ ν id = .map (some b)) ∧ (isMapA ob = true → ν id = .map (some b)) ∧ w.heap[b]? = some o' ∧ ob.ok w S o' ∧ ∀ o2, ob'.ok w S o2 → Sat X S ν ((AS.mk st.env (.obj id ob' :: rest) st.nid).put o.dst av) (a.put o.dst u) (w.putObj b o2) ∧ Kp K S S ν ν st ((AS.mk st.env (.obj id ob' :: rest) st.nid).put o.dst av) w (w.putObj b o2) := by
  obtain ⟨hp, hK⟩ := takeObj_perm htk
  have hm : Chunk.obj id ob ∈ st.hp := hp.symm.subset (List.mem_cons_self ..)
  obtain ⟨b, o', h1, h2, h8, h9⟩ := sat.hp _ hm
  have hbk : objBlk (ν id) = some b := by rcases h1 with h | h <;> rw [h] <;> rfl
  have hblk : blks ν [Chunk.obj id ob] = [b] := by simp [blks, Chunk.blk, hbk]
  have hbs := sat.blk b (mem_blks.2 ⟨_, hm, hbk⟩)
  have hb : b < w.heap.size := hbs.1
  refine ⟨b, o', h1, h9, h2, h8, fun o2 ho2 => swap_kp (w' := w.putObj b o2) (av := av) (u := u) (takes := [.obj id ob]) (gives := [.obj id ob']) (rest := rest) (nid := st.nid) (ν' := ν) (S' := S) (K := K) hd sat hp
    (fun ch hc => by rw [List.mem_singleton.1 hc]; show K id = false; simpa using hK) ⟨rfl, rfl, rfl, by simp [World.putObj], fun k hk hn => putObj_other _ fun e => hn (by rw [hblk, e]; simp)⟩ (fun _ _ => rfl) (fun _ h => h)
    (fun k hs => ⟨by simp only [World.putObj, Array.size_setIfInBounds]; exact (sat.imm k hs).1, .inl hs⟩)
    (fun ch hc => by
      rw [List.mem_singleton.1 hc]
      exact ⟨b, o2, h1, putObj_same w hb, AO.mono ⟨by simp [World.putObj], fun k hk _ => putObj_other _ fun e => hbs.2.1 (by rw [← e]; exact hk), fun _ h => h⟩ ho2, fun h => h9 (by rw [← hio]; exact h)⟩)
    (by simp [blks, Chunk.blk, hbk]) (fun k hk => by
      have : k = b := by simpa [blks, Chunk.blk, hbk] using hk
      subst this
      exact ⟨by simp only [World.putObj, Array.size_setIfInBounds]; exact hbs.1, hbs.2.1, .inl (by rw [hblk]; simp)⟩)
    (fun ch hc => by rw [List.mem_singleton.1 hc]; exact sat.hlt (Chunk.obj id ob) hm) (Nat.le_refl _) (hv _) hl⟩
theorem m_rangeS (hT : T.Ok P) {t : TypeId} {x : Operand} {s : ByteArray} {zi z1 z2 : Nat} {z3 : List Value} {z4 : Bool} (ho : o.op = .range t x) (ht : tlook T t = some ⟨zi, .str, z1, z2, z3, z4⟩) (hx : aop st x = some (.o (.c (.string s)))) :
    StepTo P K o st (· = st.new st.hp (fun i => .obj i (.stringIter s 0)) o.dst (.ptr st.nid 0)) := by
  refine m_obj (o' := .stringIter s 0) (u := .bool true) (fun _ _ => rfl) (fun _ => rfl) (fun b => .pointer (some ⟨b, 0, none⟩)) (.inl ⟨fun _ => rfl, rfl, rfl⟩) fun a w S ν X sat => ?_
  have hx1 : a.eval x = .string s := (aop_ok sat hx).1.1
  unfold execOp
  rw [ho]
  simp [Instr.range, run_underlying (und_str hT ht), hx1, run_newObj_alloc]
theorem m_nextS {x : Operand} {s : ByteArray} {id pos : Nat} {rest : List Chunk} {b : Bool} (hb : b = true) (ho : o.op = .next x b) (hx : aop st x = some (.o (.ptr id 0))) (htk : takeObj (fun i => !K i) st.hp id = some (.stringIter s pos, rest)) :
    StepTo P K o st (fun st' => (pos < s.size ∧ st' = (AS.mk st.env (.obj id (.stringIter s (pos + (Utf8.decode s pos).2)) :: rest) st.nid).put o.dst (.t [.inl (.c (.bool true)), .inl (.c (.int .i64 pos)), .inl (.c (.int .i32 (Utf8.decode s pos).1))])) ∨
      (s.size ≤ pos ∧ st' = st.put o.dst (.t [.inl (.c (.bool false))]))) := by
  intro X S ν a w Q K' hd sat hk
  subst hb
  obtain ⟨b, e1, e2⟩ := (aop_ok sat hx).1
  by_cases h : pos < s.size
  · obtain ⟨b', o', k1, _, k2, rfl, k34⟩ := obj_step (K := K) (ob' := .stringIter s (pos + (Utf8.decode s pos).2)) (av := .t [.inl (.c (.bool true)), .inl (.c (.int .i64 pos)), .inl (.c (.int .i32 (Utf8.decode s pos).1))]) (u := .tuple #[.bool true, goInt pos, .int .i32 (Utf8.decode s pos).1]) hd sat htk rfl
      (fun _ => ⟨[_, _, _], rfl, ⟨rfl, rfl⟩, ⟨rfl, rfl⟩, ⟨rfl, rfl⟩, trivial⟩) (fun z hz => by
        rcases List.mem_cons.1 hz with rfl | hz
        · exact trivial
        · rcases List.mem_cons.1 hz with rfl | hz
          · exact trivial
          · rw [List.mem_singleton.1 hz]; exact trivial)
    have hbb : b' = b := by
      rcases k1 with k1 | k1
      · rw [e1] at k1; cases k1; rfl
      · rw [e1] at k1; cases k1
    subst hbb
    obtain ⟨k3, k4⟩ := k34 (.stringIter s (pos + (Utf8.decode s pos).2)) rfl
    refine wp_value (w' := w.putObj b' (.stringIter s (pos + (Utf8.decode s pos).2))) ?_ (hk _ S ν _ _ (.inl ⟨h, rfl⟩) k3 k4)
    unfold execOp
    rw [ho]
    have hg : (getObj b').run P w = .ok (.stringIter s pos) w := by unfold getObj; simp [Sem.run, k2]
    have hs : (setObj b' (.stringIter s (pos + (Utf8.decode s pos).2))).run P w = .ok () (w.putObj b' (.stringIter s (pos + (Utf8.decode s pos).2))) := by unfold setObj; simp [Sem.run, k2, World.putObj]
    simp [Instr.next, e2, hg, hs, h]
  · obtain ⟨hp, _⟩ := takeObj_perm htk
    obtain ⟨b', o', k1, k2, rfl, _⟩ := sat.hp _ (hp.symm.subset (List.mem_cons_self ..))
    have hbb : b' = b := by
      rcases k1 with k1 | k1
      · rw [e1] at k1; cases k1; rfl
      · rw [e1] at k1; cases k1
    subst hbb
    refine wp_value (w' := w) (u := .tuple #[.bool false]) ?_ (hk _ S ν _ _ (.inr ⟨by omega, rfl⟩) (sat.put hd ⟨[_], rfl, ⟨rfl, rfl⟩, trivial⟩ (fun z hz => by rw [List.mem_singleton.1 hz]; exact trivial)) ⟨Nat.le_refl _, fun _ h => h, fun ch hc hk => ⟨by rw [(AS.put_hp _ _ _).1]; exact hc, rfl⟩, fun _ _ => rfl⟩)
    unfold execOp
    rw [ho]
    have hg : (getObj b').run P w = .ok (.stringIter s pos) w := by unfold getObj; simp [Sem.run, k2]
    simp [Instr.next, e2, hg, h]
end
theorem decode_low {s : ByteArray} {pos : Nat} (h : pos < s.size) (hb : (s.data.toList.getD pos 0).toNat < 128) : Utf8.decode s pos = ((s.data.toList.getD pos 0).toNat, 1) := by
  have hg : s.get! pos = s.data.toList.getD pos 0 := by
    have hl : pos < s.data.toList.length := h
    rw [List.getD_eq_getElem?_getD, List.getElem?_eq_getElem hl]
    show s.data[pos]! = _
    rw [getElem!_pos s.data pos h]; rfl
  unfold Utf8.decode
  simp only [Nat.add_zero, hg]
  rw [if_pos hb]
theorem decode_high {s : ByteArray} {pos : Nat} (h : pos < s.size) (hb : 128 ≤ (s.data.toList.getD pos 0).toNat) : 128 ≤ (Utf8.decode s pos).1 ∧ (Utf8.decode s pos).1 ≤ 1114111 ∧ 1 ≤ (Utf8.decode s pos).2 := by
  have hg : s.get! pos = s.data.toList.getD pos 0 := by
    have hl : pos < s.data.toList.length := h
    rw [List.getD_eq_getElem?_getD, List.getElem?_eq_getElem hl]
    show s.data[pos]! = _
    rw [getElem!_pos s.data pos h]; rfl
  unfold Utf8.decode
  simp only [Nat.add_zero, hg]
  generalize (s.data.toList.getD pos 0).toNat = b0 at *
  rw [if_neg (by omega)]
  have m1 : ∀ k, (s.get! (pos + k)).toNat % 64 < 64 := fun k => Nat.mod_lt _ (by decide)
  have := m1 1
  have := m1 2
  have := m1 3
  generalize (s.get! (pos + 1)).toNat % 64 = c1 at *
  generalize (s.get! (pos + 2)).toNat % 64 = c2 at *
  generalize (s.get! (pos + 3)).toNat % 64 = c3 at *
  split
  · split
    · exact ⟨by assumption, by have := Nat.mod_lt b0 (show 0 < 32 by decide); omega, Nat.le_of_ble_eq_true rfl⟩
    · exact ⟨by decide, by decide, by decide⟩
  · split
    · split
      · rename_i h; simp only [Bool.and_eq_true, decide_eq_true_eq] at h
        have := Nat.mod_lt b0 (show 0 < 16 by decide)
        exact ⟨by dsimp only; omega, by dsimp only; omega, Nat.le_of_ble_eq_true rfl⟩
      · exact ⟨by decide, by decide, by decide⟩
    · split
      · split
        · rename_i h
          simp only [Bool.and_eq_true, decide_eq_true_eq, Utf8.valid, Bool.or_eq_true] at h
          exact ⟨by dsimp only; omega, by dsimp only; omega, Nat.le_of_ble_eq_true rfl⟩
        · exact ⟨by decide, by decide, by decide⟩
      · exact ⟨by decide, by decide, by decide⟩
end Go.Proofs.Ythhpofehcnjmmaa.Am
namespace Go.Proofs.Ythhpofehcnjmmaa.At
def dupQ (l : List At) : Nat → Bool
  | 0 => false
  | q + 1 => dupQ l q || (l.take q).any fun y => decide (y.1 = (l.getD q d0).1)
def invQ (l : List At) : Nat → Bool
  | 0 => false
  | q + 1 => invQ l q || (l.take q).any fun y => ltS (l.getD q d0).1 y.1
theorem any_take_succ {l : List At} {p : At → Bool} {k : Nat} (hk : k < l.length) : (l.take (k + 1)).any p = ((l.take k).any p || p (l.getD k d0)) := by
  rw [take_snoc (d := d0) hk, List.any_append]; simp
theorem alonesE_drop {l : List At} {q : Nat} (hq : q < l.length) : alonesE (l.drop q) = if aloneE (l.getD q d0) ≠ 0 then aloneE (l.getD q d0) else alonesE (l.drop (q + 1)) := by
  rw [List.drop_eq_getElem_cons hq, alonesE, List.getD_eq_getElem?_getD, List.getElem?_eq_getElem hq]; rfl
theorem take_any_iff {l : List At} {p : At → Bool} {q : Nat} (hq : q ≤ l.length) : (l.take q).any p = true ↔ ∃ k, k < q ∧ p (l.getD k d0) = true := by
  induction q with
  | zero => simp
  | succ q ih =>
    rw [any_take_succ (by omega), Bool.or_eq_true, ih (by omega)]
    constructor
    · rintro (⟨k, h1, h2⟩ | h)
      · exact ⟨k, by omega, h2⟩
      · exact ⟨q, by omega, h⟩
    · rintro ⟨k, h1, h2⟩
      rcases Nat.lt_or_ge k q with h | h
      · exact .inl ⟨k, h, h2⟩
      · obtain rfl : k = q := by omega
        exact .inr h2
theorem dupQ_iff {l : List At} {q : Nat} (hq : q ≤ l.length) : dupQ l q = true ↔ ∃ i k, k < i ∧ i < q ∧ (l.getD k d0).1 = (l.getD i d0).1 := by
  induction q with
  | zero => simp [dupQ]
  | succ q ih =>
    rw [dupQ, Bool.or_eq_true, ih (by omega), take_any_iff (by omega)]
    constructor
    · rintro (⟨i, k, h1, h2, h3⟩ | ⟨k, h1, h2⟩)
      · exact ⟨i, k, h1, by omega, h3⟩
      · exact ⟨q, k, h1, by omega, of_decide_eq_true h2⟩
    · rintro ⟨i, k, h1, h2, h3⟩
      rcases Nat.lt_or_ge i q with h | h
      · exact .inl ⟨i, k, h1, h, h3⟩
      · obtain rfl : i = q := by omega
        exact .inr ⟨k, h1, decide_eq_true h3⟩
theorem invQ_iff {l : List At} {q : Nat} (hq : q ≤ l.length) : invQ l q = true ↔ ∃ i k, k < i ∧ i < q ∧ ltS (l.getD i d0).1 (l.getD k d0).1 = true := by
  induction q with
  | zero => simp [invQ]
  | succ q ih =>
    rw [invQ, Bool.or_eq_true, ih (by omega), take_any_iff (by omega)]
    constructor
    · rintro (⟨i, k, h1, h2, h3⟩ | ⟨k, h1, h2⟩)
      · exact ⟨i, k, h1, by omega, h3⟩
      · exact ⟨q, k, h1, by omega, h2⟩
    · rintro ⟨i, k, h1, h2, h3⟩
      rcases Nat.lt_or_ge i q with h | h
      · exact .inl ⟨i, k, h1, h, h3⟩
      · obtain rfl : i = q := by omega
        exact .inr ⟨k, h1, h3⟩
theorem dupB_iff {l : List At} : dupB l = true ↔ ∃ i k, k < i ∧ i < l.length ∧ (l.getD k d0).1 = (l.getD i d0).1 := by
  induction l with
  | nil => simp [dupB]
  | cons x l ih =>
    rw [dupB, Bool.or_eq_true, ih, List.any_eq_true]
    constructor
    · rintro (⟨y, h1, h2⟩ | ⟨i, k, h1, h2, h3⟩)
      · obtain ⟨k, hk, rfl⟩ := mem_getD h1
        exact ⟨k + 1, 0, by omega, by simpa using hk, by simpa using (of_decide_eq_true h2).symm⟩
      · exact ⟨i + 1, k + 1, by omega, by simpa using h2, by simpa using h3⟩
    · rintro ⟨i, k, h1, h2, h3⟩
      cases i with
      | zero => omega
      | succ i =>
        have h2 : i < l.length := by simpa using h2
        cases k with
        | zero => exact .inl ⟨_, getD_mem h2, decide_eq_true (by simpa using h3.symm)⟩
        | succ k => exact .inr ⟨i, k, by omega, h2, by simpa using h3⟩
theorem sortedB_iff {l : List At} : sortedB l = true ↔ ∀ i, i + 1 < l.length → ltS (l.getD (i + 1) d0).1 (l.getD i d0).1 = false := by
  induction l with
  | nil => simp [sortedB]
  | cons x l ih =>
    cases l with
    | nil => simp [sortedB]
    | cons y l =>
      rw [sortedB, Bool.and_eq_true, ih]
      constructor
      · rintro ⟨h1, h2⟩ i hi
        cases i with
        | zero => simpa using h1
        | succ i => have := h2 i (by simpa using hi); simpa using this
      · intro h
        refine ⟨by have := h 0 (by simp); simpa using this, fun i hi => ?_⟩
        have := h (i + 1) (by simpa using hi)
        simpa using this
theorem srt_of {l : List At} (h1 : dupB l = false) (h2 : sortedB l = true) : Srt l := by
  have h2 := sortedB_iff.1 h2
  intro i j hij hj
  induction j with
  | zero => omega
  | succ j ih =>
    have hs : ltS (l.getD j d0).1 (l.getD (j + 1) d0).1 = true := by
      cases h : ltS (l.getD j d0).1 (l.getD (j + 1) d0).1
      · have := ltS_tri h (h2 j hj)
        have := dupB_iff.2 ⟨j + 1, j, by omega, hj, this⟩
        rw [h1] at this; cases this
      · rfl
    rcases Nat.lt_or_ge i j with h | h
    · exact ltS_trans (ih h (by omega)) hs
    · obtain rfl : i = j := by omega
      exact hs
theorem invQ_sorted {l : List At} (h1 : dupB l = false) : invQ l l.length = !sortedB l := by
  cases h : sortedB l
  · cases h3 : invQ l l.length
    · exfalso
      have : sortedB l = true := sortedB_iff.2 fun i hi => by
        cases h4 : ltS (l.getD (i + 1) d0).1 (l.getD i d0).1
        · rfl
        · have := (invQ_iff (Nat.le_refl _)).2 ⟨i + 1, i, by omega, hi, h4⟩
          rw [h3] at this; cases this
      rw [h] at this; cases this
    · rfl
  · cases h3 : invQ l l.length
    · rfl
    · obtain ⟨i, k, h4, h5, h6⟩ := (invQ_iff (Nat.le_refl _)).1 h3
      rw [ltS_asymm (srt_of h1 h k i h4 h5)] at h6; cases h6
theorem dupQ_dupB (l : List At) : dupQ l l.length = dupB l := by
  rw [Bool.eq_iff_iff, dupQ_iff (Nat.le_refl _), dupB_iff]
theorem checkE_of {l : List At} (h1 : l.length ≤ 6) (h2 : alonesE l = 0) (h3 : dupB l = false) : checkE l = if !sortedB l then 6 else if fullB l then 5 else 0 := by
  unfold checkE; rw [if_neg (by omega), if_neg (by simp [h2]), if_neg (by simp [h3])]
end Go.Proofs.Ythhpofehcnjmmaa.At
namespace Go.Proofs.Ythhpofehcnjmmaa.At
end Go.Proofs.Ythhpofehcnjmmaa.At
namespace Go.Proofs.Ythhpofehcnjmmaa.At
section
variable {l : List At} {n : ByteArray}
end
end Go.Proofs.Ythhpofehcnjmmaa.At
namespace Go.Proofs.Ythhpofehcnjmmaa.Br
open At
structure Nd where
  depth : Int
  name : ByteArray
  kind : Int
  attrs : List At
  data : ByteArray
  major : Int
  minor : Int
  cls : Int
  deriving DecidableEq
structure Bn where
  nd : Nd
  opq : Bool
  red : List ByteArray
  deriving DecidableEq
abbrev eS : ByteArray := ⟨#[]⟩
abbrev n0 : Nd := ⟨0, eS, 0, [], eS, 0, 0, 0⟩
abbrev b0 : Bn := ⟨n0, false, []⟩
def badC (b : UInt8) : Bool := decide (b.toNat < 33 ∨ 126 < b.toNat ∨ b.toNat = 47)
def pnameE (s : ByteArray) : Int := if s.size = 0 ∨ s = ⟨#[46]⟩ ∨ s = ⟨#[46, 46]⟩ ∨ s.data.toList.any badC = true then 6 else if 24 < s.size then 3 else 0
def pnamesE : List ByteArray → Int
  | [] => 0
  | s :: r => if pnameE s ≠ 0 then pnameE s else pnamesE r
def pcheckE (p : List ByteArray) : Int := if 8 < p.length then 3 else pnamesE p
def fieldsE (n : Nd) : Int :=
  if n.kind < 1 ∨ 5 < n.kind then 14
  else if (n.kind ≠ 2 ∧ n.kind ≠ 3 ∧ n.data.size ≠ 0) ∨ (n.kind ≠ 4 ∧ (n.major ≠ 0 ∨ n.minor ≠ 0)) ∨ (n.kind = 5 ∧ n.attrs.length ≠ 0) ∨ ((n.kind = 1 ∨ n.kind = 5) ∧ n.cls ≠ 0) ∨ (n.kind = 3 ∧ n.data.size = 0) then 6
  else if (n.kind = 2 ∧ 384 < n.data.size) ∨ (n.kind = 3 ∧ 200 < n.data.size) then 3
  else if n.major < 0 ∨ 255 < n.major ∨ n.minor < 0 ∨ 255 < n.minor then 7 else 0
def likeN (a b : Nd) : Bool := decide (a.kind = b.kind ∧ a.data = b.data ∧ a.major = b.major ∧ a.minor = b.minor ∧ a.attrs = b.attrs)
def eqN (a b : Nd) : Bool := decide (a.depth = b.depth ∧ a.name = b.name ∧ a.cls = b.cls) && likeN a b
theorem likeN_iff {a b : Nd} : likeN a b = true ↔ a.kind = b.kind ∧ a.data = b.data ∧ a.major = b.major ∧ a.minor = b.minor ∧ a.attrs = b.attrs := by simp [likeN]
theorem eqN_iff {a b : Nd} : eqN a b = true ↔ a = b := by
  cases a; cases b
  simp only [eqN, likeN, Bool.and_eq_true, decide_eq_true_eq, Nd.mk.injEq]
  constructor
  · rintro ⟨⟨h1, h2, h3⟩, h4, h5, h6, h7, h8⟩; exact ⟨h1, h2, h4, h8, h5, h6, h7, h3⟩
  · rintro ⟨h1, h2, h4, h8, h5, h6, h7, h3⟩; exact ⟨⟨h1, h2, h3⟩, h4, h5, h6, h7, h8⟩
def sib (d : Int) : List Nd → Nat × Option ByteArray
  | [] => (0, none)
  | x :: r => if x.depth < d then (0, none) else if x.depth = d then ((sib d r).1 + 1, some x.name) else sib d r
def placeE (pre : List Nd) (n : Nd) : Int := match pre with
  | [] => if n.depth ≠ 0 ∨ n.name.size ≠ 0 ∨ n.kind ≠ 1 then 6 else 0
  | x :: _ => if n.depth < 1 ∨ x.depth + (if x.kind = 1 then 1 else 0) < n.depth then 6
    else if 8 < n.depth then 3
    else if pnameE n.name ≠ 0 then pnameE n.name
    else match (sib n.depth pre).2 with
      | none => 0
      | some s => if s = n.name then 8 else if ltS n.name s = true then 6 else if 24 ≤ (sib n.depth pre).1 then 3 else 0
def mostC : List Nd → Int
  | [] => 0
  | x :: r => max (mostC r) x.cls
def classE (pre : List Nd) (n : Nd) : Int :=
  if n.cls < 0 ∨ mostC pre + 1 < n.cls ∨ (0 < n.cls ∧ pre.any (fun x => decide (x.cls = n.cls) && !likeN x n) = true) then 6 else 0
def nodeE (pre : List Nd) (n : Nd) : Int :=
  if placeE pre n ≠ 0 then placeE pre n else if fieldsE n ≠ 0 then fieldsE n else if checkE n.attrs ≠ 0 then checkE n.attrs else classE pre n
def errAt (pre : List Nd) : List Nd → Nat → Option (Nat × Int)
  | [], _ => none
  | n :: r, i => if nodeE pre n ≠ 0 then some (i, nodeE pre n) else errAt (n :: pre) r (i + 1)
def countC (l : List Nd) (c : Int) : Nat := l.countP fun x => decide (x.cls = c)
def loneAt (l : List Nd) : List Nd → Nat → Option Nat
  | [], _ => none
  | n :: r, i => if 0 < n.cls ∧ countC l n.cls = 1 then some i else loneAt l r (i + 1)
def checkT (l : List Nd) : Int × Int :=
  if l = [] then (-1, 6) else if 120 < l.length then (-1, 3) else match errAt [] l 0 with
  | some (i, e) => (i, e)
  | none => match loneAt l l 0 with
    | some i => (i, 6)
    | none => (0, 0)
end Go.Proofs.Ythhpofehcnjmmaa.Br
namespace Go.Proofs.Ythhpofehcnjmmaa.Am
open Go.RowKit Lw Go.ChangeShapes Go.WideShapes Go.Deep

structure DOpen {α : Type} (P : Program) (t : TypeId) (sz : Nat) (row : α → Nat → DC) (good : α → Prop) : Prop where
  cells : P.cellsOf t = sz
  pos : 0 < sz
  get : ∀ {H : Type} {enc : TypeId × Value → H} {w : World} {base : Nat} {spare : Nat → Bool} {held : Bool} {n : Nat} {cs : List Value} {y : DataW H × List MemPlace}, DataW.trod enc P w base spare held n t cs = some y →
    cs.length = sz ∧ ∃ x : α, good x ∧ ∀ j u, cs[j]? = some u → (row x j).rel w (· < w.heap.size) u

section
variable {P : Program} {t e : TypeId}
def strR (s : ByteArray) (_ : Nat) : DC := .c (.string s)
def boolR (b : Bool) (_ : Nat) : DC := .c (.bool b)
def intR (z : Int) (_ : Nat) : DC := .c (.int .i64 z)
def Any {α : Type} (_ : α) : Prop := True
def strG (s : ByteArray) : Prop := s.size ≤ maxLen
def intG (z : Int) : Prop := -9223372036854775808 ≤ z ∧ z ≤ 9223372036854775807
def listG {α : Type} (g : α → Prop) (l : List α) : Prop := l.length ≤ maxLen ∧ ∀ x ∈ l, g x

theorem one_get {v u : Value} {j : Nat} (h : [v][j]? = some u) : j = 0 ∧ u = v := by
  cases j with
  | zero => exact ⟨rfl, by simpa using h.symm⟩
  | succ j => simp at h
theorem DOpen.str (hc : P.cellsOf t = 1) (ht : P.underlying t = some .string) : DOpen P t 1 strR strG := by
  refine ⟨hc, by decide, fun {H enc w base spare held n cs y} h => ?_⟩
  obtain ⟨s, rfl, _, hs⟩ := DataW.trod_string ht h
  exact ⟨rfl, s, hs, fun j u hu => by obtain ⟨_, rfl⟩ := one_get hu; exact ⟨rfl, rfl⟩⟩
theorem DOpen.bool (hc : P.cellsOf t = 1) (ht : P.underlying t = some .bool) : DOpen P t 1 boolR Any := by
  refine ⟨hc, by decide, fun {H enc w base spare held n cs y} h => ?_⟩
  obtain ⟨s, rfl, _⟩ := DataW.trod_bool ht h
  exact ⟨rfl, s, trivial, fun j u hu => by obtain ⟨_, rfl⟩ := one_get hu; exact ⟨rfl, rfl⟩⟩
theorem wf_bounds {k : IntKind} {z : Int} (h : (Lit.int k z).wf = true) : k.min ≤ z ∧ z ≤ k.max := by simpa [Lit.wf] using h
theorem DOpen.i64 (hc : P.cellsOf t = 1) (ht : P.underlying t = some (.int .i64)) : DOpen P t 1 intR intG := by
  refine ⟨hc, by decide, fun {H enc w base spare held n cs y} h => ?_⟩
  obtain ⟨z, rfl, _, hz⟩ := DataW.trod_int ht h
  refine ⟨rfl, z, ?_, fun j u hu => by obtain ⟨_, rfl⟩ := one_get hu; exact ⟨rfl, rfl⟩⟩
  have := wf_bounds hz
  rwa [show IntKind.i64.min = -9223372036854775808 by decide, show IntKind.i64.max = 9223372036854775807 by decide] at this
def slR {α : Type} (sz : Nat) (row : α → Nat → DC) (d : α) (xs : List α) (_ : Nat) : DC := .sl sz xs.length (listC row d xs).cell
theorem spot_at {w : World} {a : Addr} {v : Value} (h : w.cell? a = some v) : ∃ b o, a = ⟨b, o, none⟩ ∧ b < w.heap.size := by
  obtain ⟨b, o, s⟩ := a
  unfold World.cell? at h
  split at h
  · rename_i c _ _ hg
    refine ⟨b, o, ?_, (Array.getElem?_eq_some_iff.1 hg).1⟩
    cases s with
    | none => rfl
    | some x => simp at h
  · cases h
theorem DOpen.slice {α : Type} {sz : Nat} {row : α → Nat → DC} {good : α → Prop} (h : DOpen P e sz row good) (d : α) (hc : P.cellsOf t = 1) (ht : P.underlying t = some (.slice e)) : DOpen P t 1 (slR sz row d) (listG good) := by
  refine ⟨hc, by decide, fun {H enc w base spare held n cs y} hh => ?_⟩
  rcases open_slice ht hh with ⟨rfl, _⟩ | ⟨a, len, cap, m, n, D, Pl, rfl, _, hl, hm, hmm, _, hi⟩
  · exact ⟨rfl, [], ⟨Nat.zero_le _, fun x hx => nomatch hx⟩, fun j u hu => by obtain ⟨_, rfl⟩ := one_get hu; exact ⟨none, 0, rfl, Nat.le_refl _, Nat.zero_le _, fun _ => rfl, fun h => absurd h (Nat.lt_irrefl 0)⟩⟩
  · have hlm : len ≤ m := by rw [hmm]; split <;> omega
    have hch : ∀ i : Fin len, ∃ x : α, good x ∧ ∃ cs' : List Value, cs'.length = sz ∧ (∀ j, j < sz → w.cell? ((a.add (i.1 * sz)).add j) = cs'[j]?) ∧ ∀ j u, cs'[j]? = some u → (row x j).rel w (· < w.heap.size) u := by
      intro i
      obtain ⟨cs', hcs, hx⟩ := hi i.1 (Nat.lt_of_lt_of_le i.2 hlm)
      rw [h.cells] at hcs
      obtain ⟨_, hcl, hat⟩ := World.cells?_some hcs
      obtain ⟨_, x, hg, hr⟩ := h.get hx
      exact ⟨x, hg, cs', hcl, hat, hr⟩
    obtain ⟨f, hf⟩ := Classical.axiomOfChoice hch
    refine ⟨rfl, List.ofFn f, ⟨by simp; omega, fun x hx => ?_⟩, fun j u hu => ?_⟩
    · obtain ⟨q, rfl⟩ := List.mem_ofFn.1 hx
      exact (hf q).1
    obtain ⟨_, rfl⟩ := one_get hu
    refine ⟨some a, cap, by simp, by simpa using hl, hm, (fun h => by cases h), fun h0 => ?_⟩
    have h0' : 0 < len := by simpa using h0
    obtain ⟨_, cs0, hcl0, hat0, _⟩ := hf ⟨0, h0'⟩
    have h00 := hat0 0 h.pos
    have hv : cs0[0]? = some (cs0[0]'(by have := h.pos; omega)) := List.getElem?_eq_getElem _
    rw [hv] at h00
    have e0 : (a.add (0 * sz)).add 0 = a := by simp [Addr.add]
    rw [show ((⟨0, h0'⟩ : Fin len).1) = 0 from rfl, e0] at h00
    obtain ⟨b, o, rfl, hb⟩ := spot_at h00
    refine ⟨b, o, rfl, hb, hb, fun i j hi' hj => ?_⟩
    have hil : i < len := by simpa using hi'
    obtain ⟨_, cs', hcl, hat, hr⟩ := hf ⟨i, hil⟩
    have hj' : cs'[j]? = some (cs'[j]'(by omega)) := List.getElem?_eq_getElem _
    refine ⟨cs'[j]'(by omega), ?_, ?_⟩
    · have := hat j hj
      rw [add_none', add_none'] at this
      rw [this, hj']
    · have := hr j _ hj'
      have hx : (List.ofFn f).getD i d = f ⟨i, hil⟩ := by
        rw [List.getD_eq_getElem?_getD, List.getElem?_eq_getElem (by simpa using hil)]
        simp
      show (row ((List.ofFn f).getD i d) j).rel w (· < w.heap.size) _
      rw [hx]; exact this

def DFields {α : Type} (P : Program) (fs : List Field) (off sz : Nat) (row : α → Nat → DC) (good : α → Prop) : Prop :=
  ∀ {H : Type} {enc : TypeId × Value → H} {w : World} {base : Nat} {spare : Nat → Bool} {held : Bool} {n : Nat} {cs : List Value}, (∀ f ∈ fs, ∃ y, DataW.trod enc P w base spare held n f.type ((cs.drop f.offset).take (P.cellsOf f.type)) = some y) →
    ∃ x : α, good x ∧ ∀ j u, j < sz → cs[off + j]? = some u → (row x j).rel w (· < w.heap.size) u
theorem DFields.nil {off : Nat} : DFields P [] off 0 (fun (_ : Unit) _ => .c undef) Any := by
  intro H enc w base spare held n cs h
  exact ⟨(), trivial, fun j u hj => absurd hj (Nat.not_lt_zero j)⟩
def pairR {α β : Type} (sz : Nat) (r1 : α → Nat → DC) (r2 : β → Nat → DC) (x : α × β) (j : Nat) : DC := if j < sz then r1 x.1 j else r2 x.2 (j - sz)
def pairG {α β : Type} (g1 : α → Prop) (g2 : β → Prop) (x : α × β) : Prop := g1 x.1 ∧ g2 x.2
theorem DFields.cons {α β : Type} {f : Field} {fs : List Field} {off s1 s2 : Nat} {r1 : α → Nat → DC} {r2 : β → Nat → DC} {g1 : α → Prop} {g2 : β → Prop} (ho : f.offset = off) (h1 : DOpen P f.type s1 r1 g1) (h2 : DFields P fs (off + s1) s2 r2 g2) : DFields P (f :: fs) off (s1 + s2) (pairR s1 r1 r2) (pairG g1 g2) := by
  intro H enc w base spare held n cs h
  obtain ⟨y, hy⟩ := h f (List.mem_cons_self ..)
  rw [h1.cells, ho] at hy
  obtain ⟨hl, x1, ga, hx1⟩ := h1.get hy
  obtain ⟨x2, gb, hx2⟩ := h2 (enc := enc) (w := w) (base := base) (spare := spare) (held := held) (n := n) (cs := cs) fun f' hf' => h f' (List.mem_cons_of_mem _ hf')
  refine ⟨(x1, x2), ⟨ga, gb⟩, fun j u hj hu => ?_⟩
  unfold pairR
  by_cases hlt : j < s1
  · rw [if_pos hlt]
    refine hx1 j u ?_
    rw [List.getElem?_take_of_lt hlt, List.getElem?_drop]; exact hu
  · rw [if_neg hlt]
    refine hx2 (j - s1) u (by omega) ?_
    rw [show off + s1 + (j - s1) = off + j by omega]; exact hu
theorem DOpen.struct {α : Type} {fs : List Field} {sz : Nat} {row : α → Nat → DC} {good : α → Prop} (hc : P.cellsOf t = sz) (hp : 0 < sz) (ht : P.underlying t = some (.struct fs.toArray)) (h : DFields P fs 0 sz row good) : DOpen P t sz row good := by
  refine ⟨hc, hp, fun {H enc w base spare held n cs y} hh => ?_⟩
  obtain ⟨xs, m, _, _, hl, hlen, hf⟩ := DataW.trod_struct ht hh
  rw [hc] at hl
  refine ⟨hl, ?_⟩
  obtain ⟨x, g, hx⟩ := h (enc := enc) (w := w) (base := base) (spare := spare) (held := held) (n := m) (cs := cs) (fun f hm => by
    obtain ⟨i, hi, e⟩ := List.getElem_of_mem hm
    have := hf i f (by simp [hi, e])
    have hi' : i < xs.length := by rw [hlen]; simpa using hi
    rw [List.getElem?_eq_getElem hi'] at this
    exact ⟨_, this⟩)
  refine ⟨x, g, fun j u hu => hx j u ?_ (by rw [Nat.zero_add]; exact hu)⟩
  have := (List.getElem?_eq_some_iff.1 hu).1; omega
theorem DOpen.map {α β : Type} {sz : Nat} {row : α → Nat → DC} {row' : β → Nat → DC} {good : α → Prop} {good' : β → Prop} (h : DOpen P t sz row good) (f : α → β) (hr : ∀ x j, j < sz → row x j = row' (f x) j) (hg : ∀ x, good x → good' (f x)) : DOpen P t sz row' good' := by
  refine ⟨h.cells, h.pos, fun {H enc w base spare held n cs y} hh => ?_⟩
  obtain ⟨hl, x, g, hx⟩ := h.get hh
  refine ⟨hl, f x, hg x g, fun j u hu => ?_⟩
  rw [← hr x j (by have := (List.getElem?_eq_some_iff.1 hu).1; omega)]
  exact hx j u hu

def AOpen {α : Type} (P : Program) (t : TypeId) (mk : α → AV) (good : α → Prop) : Prop :=
  ∀ {H : Type} {enc : TypeId × Value → H} {w : World} {base : Nat} {v : Value} {d : DataW H} {p : List MemPlace}, Value.okWide P w .any base t v → DataW.Trod enc P w 0 (fun _ => true) true t v d p → ∃ x : α, good x ∧ ∀ ν, (mk x).rel w (· < w.heap.size) ν v
theorem okWide_one {w : World} {r : Reach} {base : Nat} {v : Value} (h : Value.okWide P w r base t v) (hs : ∀ fs, P.underlying t ≠ some (.struct fs)) (ha : ∀ n e, P.underlying t ≠ some (.array n e)) : v.cells.toList = [v] := by
  cases v with
  | agg cs =>
    exfalso
    unfold Value.okWide at h
    split at h
    · rename_i fs e; exact hs _ e
    · rename_i n e' e; exact ha _ _ e
    · unfold Cell.okWide at h
      split at h <;> simp_all [Cell.ok]
  | _ => rfl
theorem AOpen.one {α : Type} {row : α → Nat → DC} {good : α → Prop} (h : DOpen P t 1 row good) (hs : ∀ fs, P.underlying t ≠ some (.struct fs)) (ha : ∀ n e, P.underlying t ≠ some (.array n e)) : AOpen P t (fun x => .o (row x 0).toA) good := by
  intro H enc w base v d p hok ⟨m, hm⟩
  rw [okWide_one hok hs ha] at hm
  obtain ⟨_, x, g, hx⟩ := h.get hm
  exact ⟨x, g, fun ν => DC.toA_rel (hx 0 v rfl)⟩
theorem After.below {ι : Type} {m : Nat} {pre : ι → Prop} {res : ι → AV} {gives : ι → List Chunk} {S S' : Nat → Prop} {ν ν' : Nat → Value} {w w' : World} {e : Ending} {x : ι} {u : Value} (h : After [] m pre res gives S ν w e w' x S' ν' u) : Below w.heap.size w w' :=
  ⟨h.fr.os, h.fr.tape, h.fr.output, h.fr.size, fun k hk => h.fr.block k hk fun hm => by simp [blks] at hm⟩
theorem law_calls {f : FuncId} {args : List AV} {w : World} {vs : List Value} (hcon : Con P f args [] 0 0 (fun _ : Unit => True) (fun _ => .o (.c (.bool true))) (fun _ => [])) (h : All2 (AV.rel w (· < w.heap.size) (fun _ => undef)) args vs) :
    Calls P f vs.toArray w fun e w' => e = .returned (.bool true) ∧ Below w.heap.size w w' :=
  Calls.mono (hcon.call w _ _ vs h (fun c hc => nomatch hc) List.nodup_nil (fun b hb => nomatch hb) fun b hb => hb) fun e w' ⟨x, S', ν', u, ha⟩ => ⟨by rw [ha.e, show u = .bool true from ha.res.1], ha.below⟩
end
end Go.Proofs.Ythhpofehcnjmmaa.Am
namespace Go.Proofs.Ythhpofehcnjmmaa.Br
open At
structure Ck where
  dirs : List (Int × ByteArray)
  file : Bool
  first : List Nd
  count : List Int
abbrev dd0 : Int × ByteArray := (0, eS)
abbrev ck0 : Ck := ⟨[], false, [], []⟩
def mostS (c : Ck) : Int := (c.dirs.length : Int) - (if c.file = true then 1 else 0)
def dirAt (c : Ck) (n : Nd) : Int × ByteArray := c.dirs.getD (n.depth - 1).toNat dd0
def placeF (c : Ck) (n : Nd) : Int :=
  if c.dirs = [] then (if n.depth ≠ 0 ∨ n.name.size ≠ 0 ∨ n.kind ≠ 1 then 6 else 0)
  else if n.depth < 1 ∨ mostS c < n.depth then 6
  else if 8 < n.depth then 3
  else if pnameE n.name ≠ 0 then pnameE n.name
  else if 0 < (dirAt c n).1 ∧ (dirAt c n).2 = n.name then 8
  else if 0 < (dirAt c n).1 ∧ ltS n.name (dirAt c n).2 = true then 6
  else if (dirAt c n).1 = 24 then 3 else 0
def placeD (c : Ck) (n : Nd) : List (Int × ByteArray) :=
  if c.dirs = [] then [dd0] else (c.dirs.set (n.depth - 1).toNat ((dirAt c n).1 + 1, n.name)).take n.depth.toNat ++ [dd0]
def classF (c : Ck) (n : Nd) : Int :=
  if n.cls = 0 then 0 else if n.cls < 0 ∨ (c.first.length : Int) + 1 < n.cls then 6
  else if (c.first.length : Int) < n.cls then 0
  else if likeN (c.first.getD (n.cls - 1).toNat n0) n = true then 0 else 6
def classD (c : Ck) (n : Nd) : List Nd × List Int :=
  if n.cls = 0 then (c.first, c.count) else if (c.first.length : Int) < n.cls then (c.first ++ [n], c.count ++ [1])
  else (c.first, c.count.set (n.cls - 1).toNat (c.count.getD (n.cls - 1).toNat 0 + 1))
def nodeF (c : Ck) (n : Nd) : Int :=
  if placeF c n ≠ 0 then placeF c n else if fieldsE n ≠ 0 then fieldsE n else if checkE n.attrs ≠ 0 then checkE n.attrs else classF c n
def nodeD (c : Ck) (n : Nd) : Ck := ⟨placeD c n, decide (n.kind ≠ 1), (classD c n).1, (classD c n).2⟩
structure CkOk (pre : List Nd) (c : Ck) : Prop where
  nil : pre = [] → c = ck0
  cons : ∀ x r, pre = x :: r → (c.dirs.length : Int) = x.depth + 1 ∧ c.file = decide (x.kind ≠ 1) ∧ 0 ≤ x.depth
  dir : ∀ d : Nat, d < c.dirs.length → (c.dirs.getD d dd0).1 = ((sib (d + 1) pre).1 : Nat) ∧ ((sib (d + 1) pre).2 = none ∨ (sib (d + 1) pre).2 = some (c.dirs.getD d dd0).2) ∧ (sib (d + 1) pre).1 ≤ 24
  most : (c.first.length : Int) = mostC pre
  clen : c.count.length = c.first.length
  fst : ∀ k : Nat, k < c.first.length → (c.first.getD k n0) ∈ pre ∧ (c.first.getD k n0).cls = k + 1 ∧ ∀ x ∈ pre, x.cls = k + 1 → likeN (c.first.getD k n0) x = true
  cnt : ∀ k : Nat, k < c.first.length → c.count.getD k 0 = (countC pre (k + 1) : Nat)
  ge : ∀ x ∈ pre, 0 ≤ x.cls
theorem sib_none (d : Int) : ∀ l : List Nd, (sib d l).2 = none ↔ (sib d l).1 = 0
  | [] => by simp [sib]
  | x :: r => by
    rw [sib]
    split
    · simp
    · split
      · simp
      · exact sib_none d r
theorem likeN_refl (a : Nd) : likeN a a = true := likeN_iff.2 ⟨rfl, rfl, rfl, rfl, rfl⟩
theorem likeN_symm {a b : Nd} (h : likeN a b = true) : likeN b a = true := by
  obtain ⟨h1, h2, h3, h4, h5⟩ := likeN_iff.1 h
  exact likeN_iff.2 ⟨h1.symm, h2.symm, h3.symm, h4.symm, h5.symm⟩
theorem likeN_trans {a b c : Nd} (h : likeN a b = true) (k : likeN b c = true) : likeN a c = true := by
  obtain ⟨h1, h2, h3, h4, h5⟩ := likeN_iff.1 h
  obtain ⟨k1, k2, k3, k4, k5⟩ := likeN_iff.1 k
  exact likeN_iff.2 ⟨h1.trans k1, h2.trans k2, h3.trans k3, h4.trans k4, h5.trans k5⟩
theorem most_ge : ∀ l : List Nd, 0 ≤ mostC l
  | [] => Int.le_refl _
  | x :: r => by have := most_ge r; rw [mostC]; omega
theorem most_mem : ∀ {l : List Nd} {x : Nd}, x ∈ l → x.cls ≤ mostC l
  | y :: r, x, h => by
    rw [mostC]
    rcases List.mem_cons.1 h with h | h
    · subst h; omega
    · have := most_mem h; omega
section
variable {pre : List Nd} {c : Ck}
theorem place_eq (g : CkOk pre c) (n : Nd) : placeF c n = placeE pre n := by
  cases pre with
  | nil =>
    rw [g.nil rfl]
    rfl
  | cons x r =>
    obtain ⟨h1, h2, h3⟩ := g.cons x r rfl
    have hne : c.dirs ≠ [] := fun e => by rw [e] at h1; simp at h1; omega
    have hm : mostS c = x.depth + (if x.kind = 1 then 1 else 0) := by
      unfold mostS
      rw [h1, h2]
      by_cases hk : x.kind = 1 <;> simp [hk] <;> omega
    unfold placeF placeE
    rw [if_neg hne, hm]
    dsimp only
    by_cases hd : n.depth < 1 ∨ x.depth + (if x.kind = 1 then 1 else 0) < n.depth
    · rw [if_pos hd, if_pos hd]
    rw [if_neg hd, if_neg hd]
    have hd2 : 1 ≤ n.depth ∧ n.depth ≤ x.depth + 1 := by
      constructor
      · omega
      · split at hd <;> omega
    obtain ⟨e1, e2, e3⟩ := g.dir (n.depth - 1).toNat (by omega)
    rw [show (((n.depth - 1).toNat : Nat) : Int) + 1 = n.depth by omega] at e1 e2 e3
    have e1 : (dirAt c n).1 = ((sib n.depth (x :: r)).1 : Nat) := e1
    have e2 : (sib n.depth (x :: r)).2 = none ∨ (sib n.depth (x :: r)).2 = some (dirAt c n).2 := e2
    by_cases h8 : 8 < n.depth
    · rw [if_pos h8, if_pos h8]
    rw [if_neg h8, if_neg h8]
    by_cases hp : pnameE n.name ≠ 0
    · rw [if_pos hp, if_pos hp]
    rw [if_neg hp, if_neg hp]
    have hs := sib_none n.depth (x :: r)
    generalize sib n.depth (x :: r) = S at *
    obtain ⟨S1, S2⟩ := S
    dsimp only at *
    rcases e2 with e2 | e2
    · subst e2
      have h0 : S1 = 0 := hs.1 rfl
      subst h0
      rw [if_neg (by omega), if_neg (by omega), if_neg (by omega)]
    · subst e2
      have h0 : 0 < S1 := Nat.pos_of_ne_zero fun e => by have := hs.2 e; cases this
      dsimp only
      have hpos : 0 < (dirAt c n).1 := by omega
      by_cases a1 : (dirAt c n).2 = n.name
      · rw [if_pos ⟨hpos, a1⟩, if_pos a1]
      rw [if_neg (fun k => a1 k.2), if_neg a1]
      by_cases a2 : ltS n.name (dirAt c n).2 = true
      · rw [if_pos ⟨hpos, a2⟩, if_pos a2]
      rw [if_neg (fun k => a2 k.2), if_neg a2]
      by_cases a3 : 24 ≤ S1
      · rw [if_pos (by omega), if_pos a3]
      · rw [if_neg (by omega), if_neg a3]
theorem class_eq (g : CkOk pre c) (n : Nd) : classF c n = classE pre n := by
  have hm := g.most
  unfold classF classE
  rw [← hm]
  by_cases h0 : n.cls = 0
  · rw [if_pos h0, if_neg (by omega)]
  rw [if_neg h0]
  by_cases h1 : n.cls < 0 ∨ (c.first.length : Int) + 1 < n.cls
  · rw [if_pos h1, if_pos (by rcases h1 with h | h; exact .inl h; exact .inr (.inl h))]
  rw [if_neg h1]
  by_cases h2 : (c.first.length : Int) < n.cls
  · rw [if_pos h2, if_neg ?_]
    rintro (k | k | ⟨_, k⟩)
    · omega
    · omega
    · obtain ⟨x, hx, hk⟩ := List.any_eq_true.1 k
      rw [Bool.and_eq_true, decide_eq_true_iff] at hk
      have := most_mem hx
      omega
  · rw [if_neg h2]
    obtain ⟨f1, f2, f3⟩ := g.fst (n.cls - 1).toNat (by omega)
    rw [show (((n.cls - 1).toNat : Nat) : Int) + 1 = n.cls by omega] at f2 f3
    cases hl : likeN (c.first.getD (n.cls - 1).toNat n0) n
    · rw [if_neg (by decide), if_pos ?_]
      refine .inr (.inr ⟨by omega, List.any_eq_true.2 ⟨_, f1, ?_⟩⟩)
      rw [hl, f2, decide_eq_true rfl]
      rfl
    · rw [if_pos rfl, if_neg ?_]
      rintro (k | k | ⟨_, k⟩)
      · omega
      · omega
      · obtain ⟨x, hx, hk⟩ := List.any_eq_true.1 k
        rw [Bool.and_eq_true, decide_eq_true_iff] at hk
        have := likeN_trans (likeN_symm (f3 x hx hk.1)) hl
        rw [this] at hk
        exact absurd hk.2 (by decide)
theorem node_eq (g : CkOk pre c) (n : Nd) : nodeF c n = nodeE pre n := by
  unfold nodeF nodeE
  rw [place_eq g, class_eq g]
theorem place_zero {n x : Nd} {r : List Nd} (h : placeE (x :: r) n = 0) : 1 ≤ n.depth ∧ n.depth ≤ x.depth + 1 ∧ (sib n.depth (x :: r)).1 < 24 := by
  unfold placeE at h
  dsimp only at h
  have hz : (if x.kind = 1 then (1 : Int) else 0) ≤ 1 := by split <;> decide
  generalize (if x.kind = 1 then (1 : Int) else 0) = z at *
  by_cases hd : n.depth < 1 ∨ x.depth + z < n.depth
  · rw [if_pos hd] at h; exact absurd h (by decide)
  rw [if_neg hd] at h
  refine ⟨by omega, by omega, ?_⟩
  by_cases h8 : 8 < n.depth
  · rw [if_pos h8] at h; exact absurd h (by decide)
  rw [if_neg h8] at h
  by_cases hp : pnameE n.name ≠ 0
  · rw [if_pos hp] at h; exact absurd h hp
  rw [if_neg hp] at h
  have hs := sib_none n.depth (x :: r)
  generalize sib n.depth (x :: r) = S at *
  obtain ⟨S1, S2⟩ := S
  dsimp only at *
  cases S2 with
  | none => have := hs.1 rfl; omega
  | some s =>
    dsimp only at h
    split at h
    · exact absurd h (by decide)
    split at h
    · exact absurd h (by decide)
    split at h
    · exact absurd h (by decide)
    · omega
theorem count_cons (x : Nd) (l : List Nd) (k : Int) : countC (x :: l) k = countC l k + if x.cls = k then 1 else 0 := by
  unfold countC
  rw [List.countP_cons]
  simp
theorem getD_set {α : Type} {l : List α} {i k : Nat} {v d : α} (h : i < l.length) : (l.set i v).getD k d = if k = i then v else l.getD k d := by
  rw [List.getD_eq_getElem?_getD, List.getElem?_set]
  by_cases e : i = k
  · subst e; simp [h]
  · rw [if_neg e, if_neg (Ne.symm e), ← List.getD_eq_getElem?_getD]
theorem getD_snoc {α : Type} {l : List α} {k : Nat} {v d : α} : (l ++ [v]).getD k d = if k < l.length then l.getD k d else if k = l.length then v else d := by
  rw [List.getD_eq_getElem?_getD, List.getElem?_append]
  by_cases e : k < l.length
  · rw [if_pos e, if_pos e, ← List.getD_eq_getElem?_getD]
  · rw [if_neg e, if_neg e]
    by_cases e2 : k = l.length
    · subst e2; simp
    · rw [if_neg e2, List.getElem?_eq_none (by simp; omega)]; rfl
theorem getD_take {α : Type} {l : List α} {k m : Nat} {d : α} (h : k < m) : (l.take m).getD k d = l.getD k d := by
  rw [List.getD_eq_getElem?_getD, List.getElem?_take, if_pos h, ← List.getD_eq_getElem?_getD]
end
theorem ck_step {pre : List Nd} {c : Ck} (g : CkOk pre c) {n : Nd} (h : nodeE pre n = 0) : CkOk (n :: pre) (nodeD c n) := by
  unfold nodeE at h
  have hp : placeE pre n = 0 := Decidable.byContradiction fun k => by rw [if_pos k] at h; exact k h
  rw [if_neg (fun k => k hp)] at h
  have hf : fieldsE n = 0 := Decidable.byContradiction fun k => by rw [if_pos k] at h; exact k h
  rw [if_neg (fun k => k hf)] at h
  have ha : checkE n.attrs = 0 := Decidable.byContradiction fun k => by rw [if_pos k] at h; exact k h
  rw [if_neg (fun k => k ha)] at h
  have hc : ¬ (n.cls < 0 ∨ mostC pre + 1 < n.cls ∨ (0 < n.cls ∧ pre.any (fun x => decide (x.cls = n.cls) && !likeN x n) = true)) := fun k => by
    unfold classE at h
    rw [if_pos k] at h
    exact absurd h (by decide)
  have hm := g.most
  have hcl := g.clen
  -- where it stands
  have hdirs : ((placeD c n).length : Int) = n.depth + 1 ∧ 0 ≤ n.depth ∧ ∀ d : Nat, d < (placeD c n).length → ((placeD c n).getD d dd0).1 = ((sib (d + 1) (n :: pre)).1 : Nat) ∧ ((sib (d + 1) (n :: pre)).2 = none ∨ (sib (d + 1) (n :: pre)).2 = some ((placeD c n).getD d dd0).2) ∧ (sib (d + 1) (n :: pre)).1 ≤ 24 := by
    cases pre with
    | nil =>
      have hn : n.depth = 0 := by
        unfold placeE at hp
        dsimp only at hp
        split at hp
        · exact absurd hp (by decide)
        · omega
      rw [g.nil rfl]
      refine ⟨by rw [hn]; rfl, by omega, fun d hd => ?_⟩
      have hd : d < 1 := hd
      obtain rfl : d = 0 := by omega
      have hs : sib ((0 : Nat) + 1 : Int) [n] = (0, none) := by rw [sib, if_pos (by rw [hn]; decide)]
      rw [hs]
      exact ⟨rfl, .inl rfl, by decide⟩
    | cons x r =>
      obtain ⟨h1, h2, h3⟩ := g.cons x r rfl
      obtain ⟨p1, p2, p3⟩ := place_zero hp
      have hne : c.dirs ≠ [] := fun e => by rw [e] at h1; simp at h1; omega
      have hpd : placeD c n = (c.dirs.set (n.depth - 1).toNat ((dirAt c n).1 + 1, n.name)).take n.depth.toNat ++ [dd0] := if_neg hne
      have htl : ((c.dirs.set (n.depth - 1).toNat ((dirAt c n).1 + 1, n.name)).take n.depth.toNat).length = n.depth.toNat := by rw [List.length_take, List.length_set]; omega
      have hlen : (placeD c n).length = n.depth.toNat + 1 := by rw [hpd, List.length_append, htl]; rfl
      refine ⟨by omega, by omega, fun d hd => ?_⟩
      rw [hpd, getD_snoc, htl]
      by_cases e1 : d < n.depth.toNat
      · have hs1 : sib ((d : Int) + 1) (n :: x :: r) = if n.depth = (d : Int) + 1 then ((sib ((d : Int) + 1) (x :: r)).1 + 1, some n.name) else sib ((d : Int) + 1) (x :: r) := by rw [sib, if_neg (by omega)]
        rw [if_pos e1, getD_take e1, getD_set (l := c.dirs) (i := (n.depth - 1).toNat) (by omega), hs1]
        by_cases e2 : d = (n.depth - 1).toNat
        · rw [if_pos e2, if_pos (by omega)]
          obtain ⟨f1, f2, f3⟩ := g.dir (n.depth - 1).toNat (by omega)
          rw [show (((n.depth - 1).toNat : Nat) : Int) + 1 = n.depth by omega] at f1 f2 f3
          rw [show ((d : Nat) : Int) + 1 = n.depth by omega]
          have f1 : (dirAt c n).1 = ((sib n.depth (x :: r)).1 : Nat) := f1
          refine ⟨?_, .inr rfl, by dsimp only; omega⟩
          dsimp only
          rw [f1]
          omega
        · rw [if_neg e2, if_neg (by omega)]
          exact g.dir d (by omega)
      · obtain rfl : d = n.depth.toNat := by omega
        rw [if_neg (Nat.lt_irrefl _), if_pos rfl]
        have hs : sib (((n.depth.toNat : Nat) : Int) + 1) (n :: x :: r) = (0, none) := by rw [sib, if_pos (by omega)]
        rw [hs]
        exact ⟨rfl, .inl rfl, by decide⟩
  obtain ⟨d1, d2, d3⟩ := hdirs
  have hge : ∀ x ∈ n :: pre, 0 ≤ x.cls := fun x hx => by
    rcases List.mem_cons.1 hx with hx | hx
    · subst hx; omega
    · exact g.ge x hx
  have hlike : ∀ x ∈ pre, x.cls = n.cls → 0 < n.cls → likeN x n = true := fun x hx e h0 => Decidable.byContradiction fun k => hc (.inr (.inr ⟨h0, List.any_eq_true.2 ⟨x, hx, by rw [decide_eq_true e]; simpa using k⟩⟩))
  have hcons : ∀ (c' : Ck), c'.dirs = placeD c n → c'.file = decide (n.kind ≠ 1) → ∀ x r, n :: pre = x :: r → (c'.dirs.length : Int) = x.depth + 1 ∧ c'.file = decide (x.kind ≠ 1) ∧ 0 ≤ x.depth := fun c' e1 e2 x r e => by
    cases e
    exact ⟨by rw [e1]; exact d1, e2, d2⟩
  by_cases h0 : n.cls = 0
  · have hcd : classD c n = (c.first, c.count) := if_pos h0
    have hnd : nodeD c n = ⟨placeD c n, decide (n.kind ≠ 1), c.first, c.count⟩ := by unfold nodeD; rw [hcd]
    rw [hnd]
    refine ⟨fun e => (nomatch e), hcons _ rfl rfl, d3, ?_, hcl, fun k hk => ?_, fun k hk => ?_, hge⟩
    · show (c.first.length : Int) = max (mostC pre) n.cls
      have := most_ge pre
      omega
    · obtain ⟨f1, f2, f3⟩ := g.fst k hk
      refine ⟨List.mem_cons_of_mem _ f1, f2, fun x hx e => ?_⟩
      rcases List.mem_cons.1 hx with hx | hx
      · subst hx; omega
      · exact f3 x hx e
    · rw [count_cons, if_neg (by omega)]
      exact g.cnt k hk
  by_cases h1 : (c.first.length : Int) < n.cls
  · have hn : n.cls = c.first.length + 1 := by omega
    have hcd : classD c n = (c.first ++ [n], c.count ++ [1]) := by unfold classD; rw [if_neg h0, if_pos h1]
    have hnd : nodeD c n = ⟨placeD c n, decide (n.kind ≠ 1), c.first ++ [n], c.count ++ [1]⟩ := by unfold nodeD; rw [hcd]
    rw [hnd]
    refine ⟨fun e => (nomatch e), hcons _ rfl rfl, d3, ?_, by simp [hcl], fun k hk => ?_, fun k hk => ?_, hge⟩
    · show ((c.first ++ [n]).length : Int) = max (mostC pre) n.cls
      rw [List.length_append]
      simp only [List.length_cons, List.length_nil]
      omega
    · have hk : k < c.first.length + 1 := by simpa using hk
      dsimp only
      rw [getD_snoc]
      by_cases e : k < c.first.length
      · rw [if_pos e]
        obtain ⟨f1, f2, f3⟩ := g.fst k e
        refine ⟨List.mem_cons_of_mem _ f1, f2, fun x hx e2 => ?_⟩
        rcases List.mem_cons.1 hx with hx | hx
        · subst hx; omega
        · exact f3 x hx e2
      · rw [if_neg e, if_pos (by omega)]
        refine ⟨List.mem_cons_self .., by omega, fun x hx e2 => ?_⟩
        rcases List.mem_cons.1 hx with hx | hx
        · subst hx; exact likeN_refl _
        · have := most_mem hx; omega
    · have hk : k < c.first.length + 1 := by simpa using hk
      dsimp only
      rw [getD_snoc, hcl, count_cons]
      by_cases e : k < c.first.length
      · rw [if_pos e, if_neg (by omega)]
        exact g.cnt k e
      · rw [if_neg e, if_pos (by omega), if_pos (by omega)]
        have : countC pre ((k : Nat) + 1) = 0 := by
          unfold countC
          rw [List.countP_eq_zero]
          intro x hx
          have := most_mem hx
          simp only [decide_eq_true_eq]
          omega
        rw [this]
        rfl
  · have hcd : classD c n = (c.first, c.count.set (n.cls - 1).toNat (c.count.getD (n.cls - 1).toNat 0 + 1)) := by unfold classD; rw [if_neg h0, if_neg h1]
    have hnd : nodeD c n = ⟨placeD c n, decide (n.kind ≠ 1), c.first, c.count.set (n.cls - 1).toNat (c.count.getD (n.cls - 1).toNat 0 + 1)⟩ := by unfold nodeD; rw [hcd]
    rw [hnd]
    refine ⟨fun e => (nomatch e), hcons _ rfl rfl, d3, ?_, by simp [hcl], fun k hk => ?_, fun k hk => ?_, hge⟩
    · show (c.first.length : Int) = max (mostC pre) n.cls
      omega
    · obtain ⟨f1, f2, f3⟩ := g.fst k hk
      refine ⟨List.mem_cons_of_mem _ f1, f2, fun x hx e => ?_⟩
      rcases List.mem_cons.1 hx with hx | hx
      · have f2' : (c.first.getD k n0).cls = k + 1 := f2
        subst hx
        exact hlike _ f1 (f2'.trans e.symm) (by omega)
      · exact f3 x hx e
    · dsimp only
      rw [getD_set (by omega), count_cons]
      by_cases e : k = (n.cls - 1).toNat
      · subst e
        rw [if_pos rfl, if_pos (by omega), g.cnt _ hk]
        omega
      · rw [if_neg e, if_neg (by omega)]
        exact g.cnt k hk
theorem ck_start : CkOk [] ck0 := ⟨fun _ => rfl, fun _ _ h => (nomatch h), fun d h => absurd h (Nat.not_lt_zero _), rfl, rfl, fun k h => absurd h (Nat.not_lt_zero _), fun k h => absurd h (Nat.not_lt_zero _), fun x h => (nomatch h)⟩
structure ChkAt (l : List Nd) (q : Nat) (c : Ck) : Prop where
  le : q ≤ l.length
  ok : CkOk (l.take q).reverse c
  at' : errAt [] l 0 = errAt (l.take q).reverse (l.drop q) q
theorem chk_start (l : List Nd) : ChkAt l 0 ck0 := ⟨Nat.zero_le _, ck_start, rfl⟩
theorem drop_nd {l : List Nd} {q : Nat} (h : q < l.length) : l.drop q = l.getD q n0 :: l.drop (q + 1) := by
  rw [List.drop_eq_getElem_cons h, List.getD_eq_getElem?_getD, List.getElem?_eq_getElem h]; rfl
theorem take_rev {l : List Nd} {q : Nat} (h : q < l.length) : (l.take (q + 1)).reverse = l.getD q n0 :: (l.take q).reverse := by
  rw [List.take_add_one, List.getD_eq_getElem?_getD, List.getElem?_eq_getElem h]
  simp
theorem chk_bad {l : List Nd} {q : Nat} {c : Ck} (g : ChkAt l q c) (h : q < l.length) (he : nodeF c (l.getD q n0) ≠ 0) : errAt [] l 0 = some (q, nodeF c (l.getD q n0)) := by
  rw [g.at', drop_nd h, errAt, ← node_eq g.ok, if_pos he]
theorem chk_next {l : List Nd} {q : Nat} {c : Ck} (g : ChkAt l q c) (h : q < l.length) (he : nodeF c (l.getD q n0) = 0) : ChkAt l (q + 1) (nodeD c (l.getD q n0)) := by
  have he2 : nodeE (l.take q).reverse (l.getD q n0) = 0 := by rw [← node_eq g.ok]; exact he
  refine ⟨h, ?_, ?_⟩
  · rw [take_rev h]
    exact ck_step g.ok he2
  · rw [g.at', drop_nd h, errAt, if_neg (fun k => k he2), take_rev h]
theorem chk_end {l : List Nd} {c : Ck} (g : ChkAt l l.length c) : errAt [] l 0 = none ∧ ∀ x ∈ l, 0 ≤ x.cls ∧ (0 < x.cls → (x.cls - 1).toNat < c.count.length ∧ c.count.getD (x.cls - 1).toNat 0 = (countC l x.cls : Nat)) := by
  refine ⟨by rw [g.at', List.drop_length, errAt], fun x hx => ?_⟩
  have hr : (l.take l.length).reverse = l.reverse := by rw [List.take_length]
  have hok := g.ok
  rw [hr] at hok
  have hx2 : x ∈ l.reverse := List.mem_reverse.2 hx
  refine ⟨hok.ge x hx2, fun h0 => ?_⟩
  have h1 := most_mem hx2
  have h2 := hok.most
  have h3 := hok.clen
  have hk : (x.cls - 1).toNat < c.first.length := by omega
  have h4 := hok.cnt _ hk
  rw [show (((x.cls - 1).toNat : Nat) : Int) + 1 = x.cls by omega] at h4
  refine ⟨by omega, ?_⟩
  rw [h4]
  unfold countC
  rw [List.countP_reverse]
theorem lone_none {l : List Nd} : ∀ (r : List Nd) (i : Nat), (∀ x ∈ r, ¬ (0 < x.cls ∧ countC l x.cls = 1)) → loneAt l r i = none
  | [], _, _ => rfl
  | x :: r, i, h => by
    rw [loneAt, if_neg (h x (List.mem_cons_self ..))]
    exact lone_none r _ fun y hy => h y (List.mem_cons_of_mem _ hy)
theorem lone_at {l : List Nd} : ∀ (r : List Nd) (i k : Nat), k < r.length → (∀ j, j < k → ¬ (0 < (r.getD j n0).cls ∧ countC l (r.getD j n0).cls = 1)) → (0 < (r.getD k n0).cls ∧ countC l (r.getD k n0).cls = 1) → loneAt l r i = some (i + k)
  | [], _, _, h, _, _ => absurd h (Nat.not_lt_zero _)
  | x :: r, i, 0, _, _, h => by
    have h : 0 < x.cls ∧ countC l x.cls = 1 := h
    rw [loneAt, if_pos h]
    rfl
  | x :: r, i, k + 1, hk, hj, h => by
    have h0 : ¬ (0 < x.cls ∧ countC l x.cls = 1) := hj 0 (Nat.succ_pos _)
    rw [loneAt, if_neg h0, lone_at r (i + 1) k (by simpa using hk) (fun j hjk => hj (j + 1) (by omega)) h]
    congr 1
    omega
def ents {α β : Type} (f : α → β) : Int → List α → List (Int × β)
  | _, [] => []
  | k, x :: r => (k, f x) :: ents f (k + 1) r
end Go.Proofs.Ythhpofehcnjmmaa.Br
namespace Go.Proofs.Ythhpofehcnjmmaa.Br
open At
def aboveR (d : Int) : List Nd → Int
  | [] => -1
  | x :: r => if x.depth < d then (r.length : Int) else aboveR d r
def upP : Int → List Nd → List ByteArray
  | _, [] => []
  | d, x :: r => if x.depth < d then (if r = [] then [] else upP x.depth r ++ [x.name]) else upP d r
def pathR (pre : List Nd) (x : Nd) : List ByteArray := if pre = [] then [] else upP x.depth pre ++ [x.name]
def pathI (l : List Nd) (i : Nat) : List ByteArray := pathR (l.take i).reverse (l.getD i n0)
def aboveI (l : List Nd) (i : Nat) : Int := aboveR (l.getD i n0).depth (l.take i).reverse
def stk : List Nd → List Nat
  | [] => []
  | x :: r => (stk r).take x.depth.toNat ++ [r.length]
def pst : List Nd → List ByteArray
  | [] => []
  | x :: r => if r = [] then [] else (pst r).take (x.depth - 1).toNat ++ [x.name]
def Shp : List Nd → Prop
  | [] => True
  | [x] => x.depth = 0
  | x :: y :: r => 1 ≤ x.depth ∧ x.depth ≤ y.depth + 1 ∧ Shp (y :: r)
theorem shp_tail {x : Nd} {r : List Nd} (h : Shp (x :: r)) : Shp r := by
  cases r with
  | nil => trivial
  | cons y r => exact h.2.2
theorem stk_len : ∀ {r : List Nd} {x : Nd}, Shp (x :: r) → ((stk (x :: r)).length : Int) = x.depth + 1 ∧ 0 ≤ x.depth
  | [], x, h => by
    have h : x.depth = 0 := h
    simp [stk, h]
  | y :: r, x, h => by
    obtain ⟨h1, h2, h3⟩ := h
    have := stk_len h3
    rw [stk, List.length_append, List.length_take]
    simp only [List.length_cons, List.length_nil]
    omega
theorem pst_len : ∀ {r : List Nd} {x : Nd}, Shp (x :: r) → ((pst (x :: r)).length : Int) = x.depth
  | [], x, h => by
    have h : x.depth = 0 := h
    simp [pst, h]
  | y :: r, x, h => by
    obtain ⟨h1, h2, h3⟩ := h
    have := pst_len h3
    rw [pst, if_neg (by simp), List.length_append, List.length_take]
    simp only [List.length_cons, List.length_nil]
    omega
theorem above_stk : ∀ {r : List Nd} {x : Nd} {d : Int}, Shp (x :: r) → 1 ≤ d → d ≤ x.depth + 1 → aboveR d (x :: r) = (((stk (x :: r)).getD (d - 1).toNat 0 : Nat) : Int) := by
  intro r
  induction r with
  | nil =>
    intro x d h h1 h2
    have h : x.depth = 0 := h
    rw [aboveR, if_pos (by omega), stk, getD_snoc]
    simp [stk, h]
  | cons y r ih =>
    intro x d h h1 h2
    have hl := stk_len (shp_tail h)
    obtain ⟨k1, k2, k3⟩ := h
    have ht : ((stk (y :: r)).take x.depth.toNat).length = x.depth.toNat := by rw [List.length_take]; omega
    rw [aboveR, stk, getD_snoc, ht]
    by_cases e : x.depth < d
    · rw [if_pos e, if_neg (by omega), if_pos (by omega)]
    · rw [if_neg e, if_pos (by omega), getD_take (by omega)]
      exact ih k3 h1 (by omega)
theorem upP_pst : ∀ {r : List Nd} {x : Nd} {d : Int}, Shp (x :: r) → 1 ≤ d → d ≤ x.depth + 1 → upP d (x :: r) = (pst (x :: r)).take (d - 1).toNat := by
  intro r
  induction r with
  | nil =>
    intro x d h h1 h2
    have h : x.depth = 0 := h
    rw [upP, if_pos (by omega), if_pos rfl, pst, if_pos rfl, List.take_nil]
  | cons y r ih =>
    intro x d h h1 h2
    have hl := pst_len (shp_tail h)
    obtain ⟨k1, k2, k3⟩ := h
    have ht : ((pst (y :: r)).take (x.depth - 1).toNat).length = (x.depth - 1).toNat := by rw [List.length_take]; omega
    have hps : pst (x :: y :: r) = (pst (y :: r)).take (x.depth - 1).toNat ++ [x.name] := if_neg (by simp)
    rw [upP, hps]
    by_cases e : x.depth < d
    · rw [if_pos e, if_neg (by simp), ih k3 (d := x.depth) (by omega) (by omega)]
      exact (List.take_of_length_le (by rw [List.length_append, ht]; simp only [List.length_cons, List.length_nil]; omega)).symm
    · rw [if_neg e, List.take_append_of_le_length (by rw [ht]; omega), List.take_take, ih k3 h1 (by omega)]
      congr 1
      omega
theorem pathR_pst {pre : List Nd} {x : Nd} (h : Shp (x :: pre)) : pathR pre x = pst (x :: pre) := by
  unfold pathR
  rw [pst]
  cases pre with
  | nil => rfl
  | cons y r =>
    obtain ⟨h1, h2, h3⟩ := h
    rw [if_neg (by simp), if_neg (by simp), upP_pst h3 h1 h2]
theorem above_lt {d : Int} : ∀ l : List Nd, aboveR d l < l.length
  | [] => by simp [aboveR]
  | x :: r => by
    have := above_lt (d := d) r
    rw [aboveR]
    simp only [List.length_cons]
    split <;> omega
theorem above_ge {d : Int} : ∀ l : List Nd, -1 ≤ aboveR d l
  | [] => by simp [aboveR]
  | x :: r => by
    have := above_ge (d := d) r
    rw [aboveR]
    split <;> omega
theorem errAt_some : ∀ {l pre : List Nd} {i j : Nat} {e : Int}, errAt pre l i = some (j, e) → e ≠ 0
  | [], _, _, _, _, h => nomatch h
  | x :: r, pre, i, j, e, h => by
    rw [errAt] at h
    split at h
    · rename_i k; cases h; exact k
    · exact errAt_some h
theorem errAt_none : ∀ {l pre : List Nd} {i : Nat}, errAt pre l i = none → ∀ k, k < l.length → nodeE ((l.take k).reverse ++ pre) (l.getD k n0) = 0
  | [], _, _, _, _, hk => absurd hk (Nat.not_lt_zero _)
  | x :: r, pre, i, h, k, hk => by
    rw [errAt] at h
    split at h
    · cases h
    · rename_i h0
      cases k with
      | zero => exact Decidable.not_not.1 h0
      | succ k =>
        have := errAt_none h k (by simpa using hk)
        simpa using this
def Tok (l : List Nd) : Prop := (checkT l).2 = 0
theorem tok_node {l : List Nd} (h : Tok l) : 0 < l.length ∧ l.length ≤ 120 ∧ ∀ k, k < l.length → nodeE (l.take k).reverse (l.getD k n0) = 0 := by
  unfold Tok checkT at h
  split at h
  · exact absurd h (by decide)
  rename_i h1
  split at h
  · exact absurd h (by decide)
  rename_i h2
  refine ⟨List.length_pos_iff.2 h1, by omega, fun k hk => ?_⟩
  split at h
  · rename_i h3
    exact absurd h (errAt_some h3)
  · rename_i h3
    have := errAt_none h3 k hk
    rwa [List.append_nil] at this
theorem node_zero {pre : List Nd} {n : Nd} (h : nodeE pre n = 0) : placeE pre n = 0 ∧ fieldsE n = 0 ∧ checkE n.attrs = 0 ∧ classE pre n = 0 := by
  unfold nodeE at h
  have hp : placeE pre n = 0 := Decidable.byContradiction fun k => by rw [if_pos k] at h; exact k h
  rw [if_neg (fun k => k hp)] at h
  have hf : fieldsE n = 0 := Decidable.byContradiction fun k => by rw [if_pos k] at h; exact k h
  rw [if_neg (fun k => k hf)] at h
  have ha : checkE n.attrs = 0 := Decidable.byContradiction fun k => by rw [if_pos k] at h; exact k h
  rw [if_neg (fun k => k ha)] at h
  exact ⟨hp, hf, ha, h⟩
theorem tok_shp {l : List Nd} (h : Tok l) : ∀ q, q ≤ l.length → Shp (l.take q).reverse
  | 0, _ => trivial
  | q + 1, hq => by
    have h1 := tok_shp h q (by omega)
    have h2 := (node_zero ((tok_node h).2.2 q (by omega))).1
    rw [take_rev (by omega)]
    generalize (l.take q).reverse = pre at *
    cases pre with
    | nil =>
      show (l.getD q n0).depth = 0
      unfold placeE at h2
      dsimp only at h2
      split at h2
      · exact absurd h2 (by decide)
      · omega
    | cons y r =>
      obtain ⟨p1, p2, _⟩ := place_zero h2
      exact ⟨p1, p2, h1⟩
end Go.Proofs.Ythhpofehcnjmmaa.Br
namespace Go.Proofs.Ythhpofehcnjmmaa.Br
open At
abbrev nds (l : List Bn) : List Nd := l.map (·.nd)
theorem nds_getD (l : List Bn) (i : Nat) : (nds l).getD i n0 = (l.getD i b0).nd := by
  rw [List.getD_eq_getElem?_getD, List.getD_eq_getElem?_getD, List.getElem?_map]
  cases l[i]? <;> rfl
def opqAt (l : List Bn) (z : Int) : Bool := decide (0 ≤ z) && (l.getD z.toNat b0).opq
def marksE (l : List Bn) (i : Nat) : Int :=
  if ((l.getD i b0).opq = true ∨ (l.getD i b0).red ≠ []) ∧ (l.getD i b0).nd.kind ≠ 1 ∨ i = 0 ∧ (l.getD i b0).red ≠ [] then 14
  else if (l.getD i b0).opq = true ∧ (l.getD i b0).red ≠ [] then 6
  else if (l.getD i b0).red ≠ [] ∧ pcheckE (l.getD i b0).red ≠ 0 then pcheckE (l.getD i b0).red
  else if (l.getD i b0).red ≠ [] ∧ (l.getD i b0).red = pathI (nds l) i then 6
  else if (l.getD i b0).red ≠ [] ∧ (l.take i).any (fun y => decide ((l.getD i b0).red = y.red)) = true then 8
  else if (l.getD i b0).nd.kind = 5 ∧ opqAt l (aboveI (nds l) i) = true then 6 else 0
def firstM (l : List Bn) : Nat → Nat → Option (Nat × Int)
  | 0, _ => none
  | n + 1, i => if marksE l i ≠ 0 then some (i, marksE l i) else firstM l n (i + 1)
def checkB (l : List Bn) : Int × Int :=
  if (checkT (nds l)).2 ≠ 0 then checkT (nds l) else match firstM l l.length 0 with
  | some (i, e) => (i, e)
  | none => (0, 0)
theorem firstM_none {l : List Bn} : ∀ (n i : Nat), (∀ k, i ≤ k → k < i + n → marksE l k = 0) → firstM l n i = none
  | 0, _, _ => rfl
  | n + 1, i, h => by
    rw [firstM, if_neg (fun k => k (h i (Nat.le_refl _) (by omega)))]
    exact firstM_none n (i + 1) fun k h1 h2 => h k (by omega) (by omega)
theorem firstM_at {l : List Bn} : ∀ (n i k : Nat), i ≤ k → k < i + n → (∀ j, i ≤ j → j < k → marksE l j = 0) → marksE l k ≠ 0 → firstM l n i = some (k, marksE l k)
  | 0, _, _, h1, h2, _, _ => absurd h2 (by omega)
  | n + 1, i, k, h1, h2, h3, h4 => by
    rw [firstM]
    by_cases e : i = k
    · subst e; rw [if_pos h4]
    · rw [if_neg (fun c => c (h3 i (Nat.le_refl _) (by omega)))]
      exact firstM_at n (i + 1) k (by omega) (by omega) (fun j g1 g2 => h3 j (by omega) g2) h4
theorem firstM_zero {l : List Bn} : ∀ (n i : Nat), firstM l n i = none → ∀ k, i ≤ k → k < i + n → marksE l k = 0
  | 0, _, _, _, h1, h2 => absurd h2 (by omega)
  | n + 1, i, h, k, h1, h2 => by
    rw [firstM] at h
    split at h
    · cases h
    · rename_i c
      by_cases e : i = k
      · subst e; exact Decidable.not_not.1 c
      · exact firstM_zero n (i + 1) h k (by omega) (by omega)
theorem firstM_some {l : List Bn} : ∀ (n i k : Nat) (e : Int), firstM l n i = some (k, e) → e ≠ 0
  | 0, _, _, _, h => nomatch h
  | n + 1, i, k, e, h => by
    rw [firstM] at h
    split at h
    · rename_i c; cases h; exact c
    · exact firstM_some n _ _ _ h
def Bok (l : List Bn) : Prop := (checkB l).2 = 0
theorem bok_iff {l : List Bn} : Bok l ↔ Tok (nds l) ∧ ∀ k, k < l.length → marksE l k = 0 := by
  unfold Bok checkB Tok
  by_cases h : (checkT (nds l)).2 ≠ 0
  · rw [if_pos h]
    exact ⟨fun k => absurd k h, fun k => absurd k.1 h⟩
  rw [if_neg h]
  have h := Decidable.not_not.1 h
  constructor
  · intro k
    refine ⟨h, fun j hj => ?_⟩
    split at k
    · rename_i i e he
      exact absurd k (firstM_some _ _ _ _ he)
    · rename_i he
      exact firstM_zero _ _ he j (Nat.zero_le _) (by omega)
  · rintro ⟨_, k⟩
    rw [firstM_none _ _ fun j _ h2 => k j (by omega)]
instance (l : List Bn) : Decidable (Bok l) := inferInstanceAs (Decidable ((checkB l).2 = 0))
def knownE (l : List Bn) (n : Int) : Int := if (checkB l).2 ≠ 0 then (checkB l).2 else if n < 0 ∨ (l.length : Int) ≤ n then 4 else 0
def idxs (p : Nat → Bool) (n : Nat) : List Nat := (List.range n).filter p
theorem idxs_succ (p : Nat → Bool) (n : Nat) : idxs p (n + 1) = if p n = true then idxs p n ++ [n] else idxs p n := by
  unfold idxs
  rw [List.range_succ, List.filter_append]
  by_cases h : p n = true
  · rw [if_pos h]; simp [h]
  · rw [if_neg h]; simp [h]
theorem idxs_mem {p : Nat → Bool} {n k : Nat} : k ∈ idxs p n ↔ k < n ∧ p k = true := by
  unfold idxs
  rw [List.mem_filter, List.mem_range]
theorem idxs_len (p : Nat → Bool) (n : Nat) : (idxs p n).length ≤ n := by
  have := List.length_filter_le p (List.range n)
  rw [List.length_range] at this
  exact this
def kidsL (l : List Bn) (n : Int) : List Nat := idxs (fun i => decide (aboveI (nds l) i = n)) l.length
def kidsE (l : List Bn) (n : Int) : List Nat × Int := if knownE l n ≠ 0 then ([], knownE l n) else if (l.getD n.toNat b0).nd.kind ≠ 1 then ([], 14) else (kidsL l n, 0)
def namesP (l : List Bn) (n i : Nat) : Bool := decide (i = n) || (decide ((l.getD n b0).nd.cls ≠ 0) && decide ((l.getD i b0).nd.cls = (l.getD n b0).nd.cls))
def namesL (l : List Bn) (n : Nat) : List Nat := idxs (namesP l n) l.length
def namesE (l : List Bn) (n : Int) : List Nat × Int := if knownE l n ≠ 0 then ([], knownE l n) else (namesL l n.toNat, 0)
def dirsL (l : List Bn) : List Nat := idxs (fun i => decide ((l.getD i b0).nd.kind = 1)) l.length
def dirsE (l : List Bn) : List Nat × Int := if (checkB l).2 ≠ 0 then ([], (checkB l).2) else (dirsL l, 0)
def findF (l : List Nd) (p : List ByteArray) : Nat → Nat → Int
  | 0, _ => -1
  | n + 1, i => if pathI l i = p then (i : Int) else findF l p n (i + 1)
def findI (l : List Nd) (p : List ByteArray) : Int := findF l p l.length 0
def findE (l : List Nd) (p : List ByteArray) : Int × Int := if (checkT l).2 ≠ 0 then (0, (checkT l).2) else if pcheckE p ≠ 0 then (0, pcheckE p) else if findI l p < 0 then (0, 4) else (findI l p, 0)
def atE (l : List Bn) (p : List ByteArray) : Int × Int := if (checkB l).2 ≠ 0 then (0, (checkB l).2) else findE (nds l) p
theorem findF_none {l : List Nd} {p : List ByteArray} : ∀ (n i : Nat), (∀ k, i ≤ k → k < i + n → pathI l k ≠ p) → findF l p n i = -1
  | 0, _, _ => rfl
  | n + 1, i, h => by
    rw [findF, if_neg (h i (Nat.le_refl _) (by omega))]
    exact findF_none n (i + 1) fun k h1 h2 => h k (by omega) (by omega)
theorem findF_at {l : List Nd} {p : List ByteArray} : ∀ (n i k : Nat), i ≤ k → k < i + n → (∀ j, i ≤ j → j < k → pathI l j ≠ p) → pathI l k = p → findF l p n i = k
  | 0, _, _, h1, h2, _, _ => absurd h2 (by omega)
  | n + 1, i, k, h1, h2, h3, h4 => by
    rw [findF]
    by_cases e : i = k
    · subst e; rw [if_pos h4]
    · rw [if_neg (h3 i (Nat.le_refl _) (by omega))]
      exact findF_at n (i + 1) k (by omega) (by omega) (fun j g1 g2 => h3 j (by omega) g2) h4
end Go.Proofs.Ythhpofehcnjmmaa.Br
namespace Go.Proofs.Ythhpofehcnjmmaa.Br
open At
theorem place_more {n x : Nd} {r : List Nd} (h : placeE (x :: r) n = 0) : n.depth ≤ 8 ∧ pnameE n.name = 0 ∧ (∀ s, (sib n.depth (x :: r)).2 = some s → ltS s n.name = true) ∧ n.depth ≤ x.depth + (if x.kind = 1 then 1 else 0) := by
  unfold placeE at h
  dsimp only at h
  generalize (if x.kind = 1 then (1 : Int) else 0) = z at *
  by_cases k1 : n.depth < 1 ∨ x.depth + z < n.depth
  · rw [if_pos k1] at h; exact absurd h (by decide)
  rw [if_neg k1] at h
  by_cases k2 : 8 < n.depth
  · rw [if_pos k2] at h; exact absurd h (by decide)
  rw [if_neg k2] at h
  by_cases k3 : pnameE n.name ≠ 0
  · rw [if_pos k3] at h; exact absurd h k3
  rw [if_neg k3] at h
  refine ⟨by omega, Decidable.not_not.1 k3, fun s hs => ?_, by omega⟩
  rw [hs] at h
  dsimp only at h
  split at h
  · exact absurd h (by decide)
  split at h
  · exact absurd h (by decide)
  rename_i k4 k5
  cases k6 : ltS s n.name
  · exact absurd (ltS_tri k6 (by simpa using k5)) k4
  · rfl
theorem pathI_pst {l : List Nd} (h : Tok l) {q : Nat} (hq : q < l.length) : pathI l q = pst (l.take (q + 1)).reverse := by
  have h1 := tok_shp h (q + 1) hq
  unfold pathI
  rw [take_rev hq] at h1 ⊢
  exact pathR_pst h1
theorem path_len {l : List Nd} (h : Tok l) {k : Nat} (hk : k < l.length) : ((pathI l k).length : Int) = (l.getD k n0).depth := by
  have h1 := tok_shp h (k + 1) hk
  rw [pathI_pst h hk]
  rw [take_rev hk] at h1 ⊢
  exact pst_len h1
end Go.Proofs.Ythhpofehcnjmmaa.Br
namespace Go.Proofs.Ythhpofehcnjmmaa.Br
open At
theorem pnames_iff : ∀ {p : List ByteArray}, pnamesE p = 0 ↔ ∀ s ∈ p, pnameE s = 0
  | [] => by simp [pnamesE]
  | s :: r => by
    rw [pnamesE]
    by_cases h : pnameE s ≠ 0
    · rw [if_pos h]
      exact ⟨fun k => absurd k h, fun k => absurd (k s (List.mem_cons_self ..)) h⟩
    · rw [if_neg h, pnames_iff (p := r)]
      have h := Decidable.not_not.1 h
      constructor
      · intro k x hx
        rcases List.mem_cons.1 hx with hx | hx
        · subst hx; exact h
        · exact k x hx
      · exact fun k x hx => k x (List.mem_cons_of_mem _ hx)
theorem pcheck_iff {p : List ByteArray} : pcheckE p = 0 ↔ p.length ≤ 8 ∧ ∀ s ∈ p, pnameE s = 0 := by
  unfold pcheckE
  by_cases h : 8 < p.length
  · rw [if_pos h]
    exact ⟨fun k => absurd k (by decide), fun k => by have := k.1; omega⟩
  · rw [if_neg h, pnames_iff]
    exact ⟨fun k => ⟨by omega, k⟩, fun k => k.2⟩
theorem path_ok {l : List Nd} (h : Tok l) : ∀ k, k < l.length → pcheckE (pathI l k) = 0
  | 0, hk => by
    have e : pathI l 0 = [] := rfl
    rw [e]; rfl
  | k + 1, hk => by
    have ih := pcheck_iff.1 (path_ok h k (by omega))
    have hp := (node_zero ((tok_node h).2.2 (k + 1) hk)).1
    have hl := path_len h hk
    rw [pathI_pst h (by omega)] at ih
    rw [pathI_pst h hk] at hl ⊢
    rw [take_rev hk] at *
    have hne : (l.take (k + 1)).reverse ≠ [] := by rw [take_rev (by omega)]; simp
    generalize (l.take (k + 1)).reverse = r at *
    obtain ⟨x, r, rfl⟩ := List.exists_cons_of_ne_nil hne
    obtain ⟨m1, m2, _⟩ := place_more hp
    refine pcheck_iff.2 ⟨by omega, fun s hs => ?_⟩
    rw [pst, if_neg (by simp)] at hs
    rcases List.mem_append.1 hs with hs | hs
    · exact ih.2 s (List.mem_of_mem_take hs)
    · obtain rfl := List.mem_singleton.1 hs
      exact m2
theorem name_bytes {s : ByteArray} (h : pnameE s = 0) : (47 : UInt8) ∉ s.data.toList := by
  intro hm
  unfold pnameE at h
  rw [if_pos (.inr (.inr (.inr (List.any_eq_true.2 ⟨47, hm, by decide⟩))))] at h
  exact absurd h (by decide)
theorem name_size {s : ByteArray} (h : pnameE s = 0) : s.size ≤ 24 ∧ s.size ≠ 0 := by
  unfold pnameE at h
  split at h
  · exact absurd h (by decide)
  rename_i k
  split at h
  · exact absurd h (by decide)
  exact ⟨by omega, fun e => k (.inl e)⟩
def cutS : List UInt8 → List (List UInt8)
  | [] => [[]]
  | c :: r => if c = 47 then [] :: cutS r else match cutS r with
    | [] => [[c]]
    | p :: ps => (c :: p) :: ps
theorem cutS_app : ∀ (s t : List UInt8), (47 : UInt8) ∉ s → cutS (s ++ 47 :: t) = s :: cutS t
  | [], t, _ => by rw [List.nil_append, cutS, if_pos rfl]
  | c :: r, t, h => by
    rw [List.cons_append, cutS, if_neg (fun e => h (by rw [e]; exact List.mem_cons_self ..)), cutS_app r t fun k => h (List.mem_cons_of_mem _ k)]
theorem cutS_one : ∀ (s : List UInt8), (47 : UInt8) ∉ s → cutS s = [s]
  | [], _ => rfl
  | c :: r, h => by
    rw [cutS, if_neg (fun e => h (by rw [e]; exact List.mem_cons_self ..)), cutS_one r fun k => h (List.mem_cons_of_mem _ k)]
theorem join_cons (s t : List UInt8) (r : List (List UInt8)) : Lib.join (s :: t :: r) [47] = s ++ 47 :: Lib.join (t :: r) [47] := by
  simp [Lib.join, List.intercalate, List.intersperse]
theorem join_one (s : List UInt8) : Lib.join [s] [47] = s := by simp [Lib.join, List.intercalate, List.intersperse]
theorem cutS_join : ∀ (xs : List (List UInt8)), xs ≠ [] → (∀ s ∈ xs, (47 : UInt8) ∉ s) → cutS (Lib.join xs [47]) = xs
  | [], h, _ => absurd rfl h
  | [s], _, h => by rw [join_one]; exact cutS_one s (h s (List.mem_cons_self ..))
  | s :: t :: r, _, h => by
    rw [join_cons, cutS_app _ _ (h s (List.mem_cons_self ..)), cutS_join (t :: r) (by simp) fun x hx => h x (List.mem_cons_of_mem _ hx)]
def textL (p : List ByteArray) : List UInt8 := 47 :: Lib.join (p.map (·.data.toList)) [47]
def textS (p : List ByteArray) : ByteArray := ⟨(textL p).toArray⟩
theorem map_inj : ∀ {p q : List ByteArray}, p.map (·.data.toList) = q.map (·.data.toList) → p = q
  | [], [], _ => rfl
  | [], _ :: _, h => nomatch h
  | _ :: _, [], h => nomatch h
  | ⟨⟨a⟩⟩ :: p, ⟨⟨b⟩⟩ :: q, h => by
    simp only [List.map_cons, List.cons.injEq] at h
    obtain ⟨h1, h2⟩ := h
    have h1 : a = b := h1
    rw [h1, map_inj h2]
theorem text_inj {p q : List ByteArray} (hp : p ≠ []) (hq : q ≠ []) (kp : pcheckE p = 0) (kq : pcheckE q = 0) (h : textS p = textS q) : p = q := by
  have h1 : textL p = textL q := by
    have := congrArg (fun x : ByteArray => x.data.toList) h
    exact this
  have h2 : Lib.join (p.map (·.data.toList)) [47] = Lib.join (q.map (·.data.toList)) [47] := (List.cons.inj h1).2
  have h3 := cutS_join (p.map (·.data.toList)) (by simpa using hp) (fun s hs => by
    obtain ⟨x, hx, rfl⟩ := List.mem_map.1 hs
    exact name_bytes ((pcheck_iff.1 kp).2 x hx))
  have h4 := cutS_join (q.map (·.data.toList)) (by simpa using hq) (fun s hs => by
    obtain ⟨x, hx, rfl⟩ := List.mem_map.1 hs
    exact name_bytes ((pcheck_iff.1 kq).2 x hx))
  rw [h2, h4] at h3
  exact (map_inj h3).symm
end Go.Proofs.Ythhpofehcnjmmaa.Br
namespace Go.Proofs.Ythhpofehcnjmmaa.Br
open At
structure En where
  name : ByteArray
  node : Nd
  white : Bool
  first : Bool
  names : Int
  deriving DecidableEq
structure Di where
  attrs : List At
  opq : Bool
  red : List ByteArray
  ents : List En
  deriving DecidableEq
abbrev e0 : En := ⟨eS, n0, false, false, 0⟩
abbrev di0 : Di := ⟨[], false, [], []⟩
def entN (x : Nd) : Nd := if x.kind = 1 then { n0 with kind := 1 } else { x with depth := 0, name := eS }
def firstP (l : List Bn) (n : Int) (i : Nat) : Bool := (namesL l i).all fun k => decide (n < aboveI (nds l) k) || (decide (aboveI (nds l) k = n) && decide (i ≤ k))
def entI (l : List Bn) (n : Int) (i : Nat) : En := ⟨(l.getD i b0).nd.name, entN (l.getD i b0).nd, decide ((l.getD i b0).nd.kind = 5), firstP l n i, ((namesL l i).length : Int)⟩
def dirI (l : List Bn) (n : Nat) : Di := ⟨(l.getD n b0).nd.attrs, (l.getD n b0).opq, (l.getD n b0).red, (kidsL l n).map (entI l n)⟩
def dirE (l : List Bn) (n : Int) : Di × Int := if (kidsE l n).2 ≠ 0 then (di0, (kidsE l n).2) else (dirI l n.toNat, 0)
def aloneT (n : Nd) : List Nd := [{ n0 with kind := 1 }, { n with depth := 1, name := ⟨#[110]⟩, cls := 0 }]
def aloneE (n : Nd) : Int := (checkT (aloneT n)).2
def bnOf (d : Int) (x : En) : Bn := ⟨⟨d, x.name, x.node.kind, x.node.attrs, x.node.data, x.node.major, x.node.minor, x.node.cls⟩, false, []⟩
def bnDir (x : Bn) (d : Di) : Bn := ⟨{ x.nd with attrs := d.attrs }, d.opq, d.red⟩
abbrev Mk := (List Di × List Bn) × Int
def putEs (rec : Bn → List Di × List Bn → Mk) (d : Int) : List En → List Di × List Bn → Mk
  | [], s => (s, 0)
  | x :: r, s => if (rec (bnOf d x) s).2 ≠ 0 then rec (bnOf d x) s else putEs rec d r (rec (bnOf d x) s).1
def putF : Nat → Bn → List Di × List Bn → Mk
  | 0, _, s => (s, 6)
  | f + 1, x, s => if x.nd.kind = 1 then match s.1 with
      | [] => (s, 6)
      | d :: r => if 120 ≤ s.2.length ∨ 8 < x.nd.depth then ((r, s.2), 3) else putEs (putF f) (x.nd.depth + 1) d.ents (r, s.2 ++ [bnDir x d])
    else if 120 ≤ s.2.length ∨ 8 < x.nd.depth then (s, 3) else ((s.1, s.2 ++ [x]), 0)
abbrev rootB : Bn := ⟨{ n0 with kind := 1 }, false, []⟩
def putI (l : List Di) : Mk := putF (l.length + 1) rootB (l, [])
def makeE (l : List Di) : List Bn × Int :=
  if (putI l).2 ≠ 0 then ([], (putI l).2)
  else if (putI l).1.1 ≠ [] then ([], 6)
  else if (checkB (putI l).1.2).2 ≠ 0 then ([], (checkB (putI l).1.2).2)
  else if ((dirsL (putI l).1.2).zip l).any (fun p => decide (dirI (putI l).1.2 p.1 ≠ p.2)) = true then ([], 6)
  else ((putI l).1.2, 0)
end Go.Proofs.Ythhpofehcnjmmaa.Br
namespace Go.Proofs.Ythhpofehcnjmmaa.Am
open Go.RowKit Lw
def getM {κ : Type} [DecidableEq κ] : List (κ × List DC) → κ → Option (List DC)
  | [], _ => none
  | e :: r, k => if e.1 = k then some e.2 else getM r k
def putM {κ : Type} [DecidableEq κ] : List (κ × List DC) → κ → List DC → List (κ × List DC)
  | [], k, v => [(k, v)]
  | e :: r, k, v => if e.1 = k then (k, v) :: r else e :: putM r k v
def entA : Bool → List DC → Option AV
  | true, ds => some (.g (ds.map DC.toA))
  | false, [d] => some (.o d.toA)
  | false, _ => none
def avRow : AV → Option (Bool × List DC)
  | .o a => match a.toD with
    | some d => some (false, [d])
    | none => none
  | .g as => match toDs as with
    | some ds => some (true, ds)
    | none => none
  | .t _ => none
theorem avRow_ok {w : World} {S : Nat → Prop} {ν : Nat → Value} {x : AV} {b : Bool} {ds : List DC} {u : Value} (h : avRow x = some (b, ds)) (r : x.rel w S ν u) : rowRel w S b ds u := by
  cases x with
  | o a =>
    simp only [avRow] at h
    split at h
    · rename_i d hd; cases h; exact ⟨d, rfl, A1.toD_rel hd r⟩
    · cases h
  | g as =>
    simp only [avRow] at h
    split at h
    · rename_i ds' hd
      cases h
      obtain ⟨us, rfl, r⟩ := r
      exact ⟨us, rfl, toDs_rel hd r⟩
    · cases h
  | t xs => cases h
theorem toA_all {w : World} {S : Nat → Prop} {ν : Nat → Value} : ∀ {ds : List DC} {us : List Value}, All2 (DC.rel w S) ds us → All2 (A1.rel w S ν) (ds.map DC.toA) us
  | [], [], _ => trivial
  | [], _ :: _, r => r.elim
  | _ :: _, [], r => r.elim
  | _ :: _, _ :: _, ⟨r1, r2⟩ => ⟨DC.toA_rel r1, toA_all r2⟩
theorem entA_ok {w : World} {S : Nat → Prop} {ν : Nat → Value} {m : Nat} {b : Bool} {ds : List DC} {u : Value} {x : AV} (h : entA b ds = some x) (r : rowRel w S b ds u) : x.rel w S ν u ∧ x.lt m := by
  cases b with
  | true =>
    cases h
    obtain ⟨us, rfl, r⟩ := r
    refine ⟨⟨us, rfl, toA_all r⟩, fun a ha => ?_⟩
    obtain ⟨d, _, rfl⟩ := List.mem_map.1 ha
    exact DC.toA_lt m d
  | false =>
    obtain ⟨d, rfl, r⟩ := r
    cases h
    exact ⟨DC.toA_rel r, DC.toA_lt m d⟩
section
variable {κ : Type} [DecidableEq κ] {val : κ → Value} {w : World} {S : Nat → Prop} {agg : Bool} {d : TypeDesc}
theorem find_ent (hin : ∀ a b, val a = val b → a = b) (hk : ∀ a, Go.MapKept.IsKey d (val a)) (k : κ) : ∀ (es : List (κ × List DC)) (l : List MapEntry) (i : Nat), All2 (fun (e : κ × List DC) (x : MapEntry) => x.key = val e.1 ∧ rowRel w S agg e.2 x.val) es l →
    (Instr.findNow d (val k) l i = some none ∧ getM es k = none ∧ (∀ v, putM es k v = es ++ [(k, v)])) ∨
    ∃ j row x, Instr.findNow d (val k) l i = some (some (i + j, x.val)) ∧ l[j]? = some x ∧ x.key = val k ∧ getM es k = some row ∧ rowRel w S agg row x.val ∧
      ∀ v u, rowRel w S agg v u → All2 (fun (e : κ × List DC) (x : MapEntry) => x.key = val e.1 ∧ rowRel w S agg e.2 x.val) (putM es k v) (l.modify j fun e => { e with key := val k, val := u })
  | [], [], i, _ => .inl ⟨rfl, rfl, fun _ => rfl⟩
  | [], _ :: _, _, h => h.elim
  | _ :: _, [], _, h => h.elim
  | e :: es, x :: l, i, ⟨⟨h1, h2⟩, h3⟩ => by
    obtain ⟨r, hr, hiff⟩ := Go.MapKept.sameNow_of_keys (hk k) (show Go.MapKept.IsKey d x.key by rw [h1]; exact hk _)
    cases r with
    | true =>
      have he : e.1 = k := hin _ _ (by rw [← h1]; exact (hiff.1 rfl).symm)
      refine .inr ⟨0, e.2, x, by simp [Instr.findNow, hr], rfl, (hiff.1 rfl).symm, by rw [getM, if_pos he], h2, fun v u r => ?_⟩
      rw [putM, if_pos he]
      exact ⟨⟨rfl, r⟩, h3⟩
    | false =>
      have hne : e.1 ≠ k := fun q => by
        have := hiff.2 (by rw [h1, q])
        cases this
      rcases find_ent hin hk k es l (i + 1) h3 with ⟨g1, g2, g3⟩ | ⟨j, row, y, g1, g2, g3, g4, g5, g6⟩
      · refine .inl ⟨by simp [Instr.findNow, hr, g1], by rw [getM, if_neg hne]; exact g2, fun v => ?_⟩
        rw [putM, if_neg hne, g3]; rfl
      · refine .inr ⟨j + 1, row, y, by simp [Instr.findNow, hr, g1]; omega, by simpa using g2, g3, by rw [getM, if_neg hne]; exact g4, g5, fun v u r => ?_⟩
        rw [putM, if_neg hne]
        exact ⟨⟨h1, h2⟩, g6 v u r⟩
end
section
variable {F : Fence} {P : Program} {T : Tys} {X : Cx} {S : Nat → Prop} {ν : Nat → Value} {st : AS} {a : Act} {w : World} {o : Oper} {K : Nat → Bool} {Q : Exit → Act → World → Prop}
theorem m_mkMp {t : TypeId} (ob : AO) (hob : (∃ b, ob = .mp b []) ∨ ∃ b, ob = .ms b []) (ho : o.op = .makeMap t none) : StepTo P K o st (· = st.new st.hp (fun i => .obj i ob) o.dst (.own st.nid)) := by
  refine m_obj (o' := .map #[] 0) (u := .bool true) (fun w S => ?_) (fun _ => rfl) (fun b => .map (some b)) (.inr ⟨fun _ => rfl, rfl⟩) fun a w S ν X sat => ?_
  · rcases hob with ⟨b, rfl⟩ | ⟨b, rfl⟩ <;> exact ⟨#[], 0, rfl, trivial⟩
  · unfold execOp
    rw [ho]
    simp [Instr.makeMap, run_newObj_alloc]
structure MpKind (κ : Type) (d : TypeDesc) where
  tell : List (κ × List DC) → AO
  val : κ → Value
  agg : Bool
  ok : ∀ es w S o, (tell es).ok w S o ↔ entsRel val w S agg es o
  map : ∀ es, isMapA (tell es) = true
  inj : ∀ a b, val a = val b → a = b
  key : ∀ a, Go.MapKept.IsKey d (val a)
def mpI (b : Bool) : MpKind Int (.int .i64) := ⟨.mp b, fun z => .int .i64 z, b, fun _ _ _ _ => Iff.rfl, fun _ => rfl, fun a b h => by cases h; rfl, fun _ => rfl⟩
def mpS (b : Bool) : MpKind ByteArray .string := ⟨.ms b, fun z => .string z, b, fun _ _ _ _ => Iff.rfl, fun _ => rfl, fun a b h => by cases h; rfl, fun _ => trivial⟩
variable {κ : Type} [DecidableEq κ] {d : TypeDesc}
theorem m_mpUp (M : MpKind κ d) {t kt et : TypeId} {x k v : Operand} {id : Nat} {es : List (κ × List DC)} {key : κ} {row : List DC} {av : AV} {rest : List Chunk} (ho : o.op = .mapUpdate t x k v) (hdst : o.dst = none) (hu : P.underlying t = some (.map kt et)) (hkt : P.underlying kt = some d)
    (hx : aop st x = some (.o (.own id))) (hkey : aop st k = some (.o (.c (M.val key)))) (hv : aop st v = some av) (hrow : avRow av = some (M.agg, row)) (htk : takeObj (fun i => !K i) st.hp id = some (M.tell es, rest)) :
    StepTo P K o st (· = ⟨st.env, .obj id (M.tell (putM es key row)) :: rest, st.nid⟩) := by
  intro X S ν a w Q K' hd sat hk
  obtain ⟨e1, e2⟩ := (aop_ok sat hx).1
  have hk1 : a.eval k = M.val key := (aop_ok sat hkey).1.1
  have hr := avRow_ok hrow (aop_ok sat hv).1
  obtain ⟨b, o', _, h1, h2, h3, h34⟩ := obj_step (K := K) (ob' := M.tell (putM es key row)) (av := .o (.sb true)) (u := .bool true) hd sat htk ((M.map _).trans (M.map _).symm) (fun _ => rfl) trivial
  obtain ⟨arr, cl, rfl, hall⟩ := (M.ok _ _ _ _).1 h3
  have hm : ν id = .map (some b) := h1 (M.map _)
  have hrun : ∃ o2, (M.tell (putM es key row)).ok w S o2 ∧ (Instr.mapUpdate t (.map (some b)) (M.val key) (a.eval v)).run P w = .ok () (w.putObj b o2) := by
    rcases find_ent M.inj M.key key es arr.toList 0 hall with ⟨g1, g2, g3⟩ | ⟨j, r0, y, g1, g2, g3, g4, g5, g6⟩
    · refine ⟨.map (arr.push ⟨M.val key, a.eval v, cl⟩) (cl + 1), (M.ok _ _ _ _).2 ⟨_, _, rfl, ?_⟩, ?_⟩
      · rw [g3, Array.toList_push]
        exact hall.append ⟨⟨rfl, hr⟩, trivial⟩
      · simp [Instr.mapUpdate, run_underlying hu, Go.MapKept.run_getObj_map h2, Go.MapKept.run_checkKey hkt (M.key key), Go.MapKept.run_findKey hkt g1, Go.MapKept.run_setObj_map _ h2, Result.andThen, World.putObj]
    · have hj : arr[j]? = some y := by simpa using g2
      rw [Nat.zero_add] at g1
      have hst : (Instr.keyThatStays (M.val key) (M.val key)).run P w = .ok (M.val key) w := Go.MapKept.run_keyThatStays (M.key key)
      refine ⟨.map (arr.modify j fun e => { e with key := M.val key, val := a.eval v }) cl, (M.ok _ _ _ _).2 ⟨_, _, rfl, ?_⟩, ?_⟩
      · rw [Array.toList_modify]
        exact g6 row _ hr
      · simp [Instr.mapUpdate, run_underlying hu, Go.MapKept.run_getObj_map h2, Go.MapKept.run_checkKey hkt (M.key key), Go.MapKept.run_findKey hkt g1, hj, g3, hst, Go.MapKept.run_setObj_map _ h2, Result.andThen, World.putObj]
  obtain ⟨o2, hok2, hr2⟩ := hrun
  obtain ⟨h4, h5⟩ := h34 o2 hok2
  refine wp_skip' (w' := w.putObj b o2) hdst ?_ ?_
  · unfold execOp
    rw [ho]
    simp [e1, hm, hk1, hr2]
  · rw [hdst] at h4 h5
    exact hk _ S ν _ _ rfl h4 h5
theorem m_mpGet (M : MpKind κ d) {t kt et : TypeId} {x k : Operand} {id : Nat} {es : List (κ × List DC)} {key : κ} {row : List DC} {av : AV} {rest : List Chunk} (ho : o.op = .lookup t x k false) (hu : P.underlying t = some (.map kt et)) (hkt : P.underlying kt = some d)
    (hx : aop st x = some (.o (.own id))) (hkey : aop st k = some (.o (.c (M.val key)))) (htk : takeObj (fun _ => true) st.hp id = some (M.tell es, rest)) (hg : getM es key = some row) (hrow : entA M.agg row = some av) :
    StepTo P K o st (· = st.put o.dst av) := by
  intro X S ν a w Q K' hd sat hk
  obtain ⟨e1, e2⟩ := (aop_ok sat hx).1
  have hk1 : a.eval k = M.val key := (aop_ok sat hkey).1.1
  obtain ⟨hp, _⟩ := takeObj_perm htk
  obtain ⟨b, o', _, h2, h3, h1⟩ := sat.hp _ (hp.symm.subset (List.mem_cons_self ..))
  have hm : ν id = .map (some b) := h1 (M.map _)
  obtain ⟨arr, cl, rfl, hall⟩ := (M.ok _ _ _ _).1 h3
  rcases find_ent M.inj M.key key es arr.toList 0 hall with ⟨g1, g2, g3⟩ | ⟨j, r0, y, g1, g2, g3, g4, g5, g6⟩
  · rw [g2] at hg; cases hg
  · rw [g4] at hg; cases hg
    obtain ⟨r1, r2⟩ := entA_ok (ν := ν) (m := st.nid) hrow g5
    refine wp_value (w' := w) (u := y.val) ?_ (hk _ S ν _ _ rfl (sat.put hd r1 r2) ⟨Nat.le_refl _, fun _ h => h, fun ch hc hk => ⟨by rw [(AS.put_hp _ _ _).1]; exact hc, rfl⟩, fun _ _ => rfl⟩)
    unfold execOp
    rw [ho]
    simp [Instr.lookup, e1, hm, hk1, run_underlying hu, Go.MapKept.run_getObj_map h2, Go.MapKept.run_checkKey hkt (M.key key), Go.MapKept.run_findKey hkt g1, Result.andThen]
theorem m_mpNone (hT : T.Ok P) (M : MpKind κ d) {t kt et : TypeId} {x k : Operand} {id : Nat} {es : List (κ × List DC)} {key : κ} {te : TI} {z : Value} {rest : List Chunk} (ho : o.op = .lookup t x k false) (hu : P.underlying t = some (.map kt et)) (hkt : P.underlying kt = some d)
    (hx : aop st x = some (.o (.own id))) (hkey : aop st k = some (.o (.c (M.val key)))) (htk : takeObj (fun _ => true) st.hp id = some (M.tell es, rest)) (hg : getM es key = none) (he : tlook T et = some te) (hz : te.zero = [z]) (hna : te.agg = false) :
    StepTo P K o st (· = st.put o.dst (.o (.c z))) := by
  intro X S ν a w Q K' hd sat hk
  obtain ⟨e1, e2⟩ := (aop_ok sat hx).1
  have hk1 : a.eval k = M.val key := (aop_ok sat hkey).1.1
  obtain ⟨hp, _⟩ := takeObj_perm htk
  obtain ⟨b, o', _, h2, h3, h1⟩ := sat.hp _ (hp.symm.subset (List.mem_cons_self ..))
  have hm : ν id = .map (some b) := h1 (M.map _)
  obtain ⟨arr, cl, rfl, hall⟩ := (M.ok _ _ _ _).1 h3
  rcases find_ent M.inj M.key key es arr.toList 0 hall with ⟨g1, g2, g3⟩ | ⟨j, r0, y, g1, g2, g3, g4, g5, g6⟩
  · obtain ⟨hti, hid⟩ := hT.get he
    obtain ⟨i, zv, i1, _, _, i4, i5, i6, _, i7, _⟩ := hti.info
    rw [hid] at i1
    have hzz : zv = z ∧ z.oneCell' = true := by
      have h1 := i7 hna
      rw [hz] at i5
      have : zv.cells = #[zv] := by cases zv <;> first | rfl | cases h1
      rw [this] at i5
      cases i5
      exact ⟨rfl, h1⟩
    obtain ⟨rfl, hz1⟩ := hzz
    refine wp_value (w' := w) (u := zv) ?_ (hk _ S ν _ _ rfl (sat.put hd (v := .o (.c zv)) ⟨rfl, hz1⟩ trivial) ⟨Nat.le_refl _, fun _ h => h, fun ch hc hk => ⟨by rw [(AS.put_hp _ _ _).1]; exact hc, rfl⟩, fun _ _ => rfl⟩)
    unfold execOp
    rw [ho]
    simp [Instr.lookup, e1, hm, hk1, run_underlying hu, Go.MapKept.run_getObj_map h2, Go.MapKept.run_checkKey hkt (M.key key), Go.MapKept.run_findKey hkt g1, Result.andThen, zeroValue, typeInfo, i1, i4]
  · rw [g4] at hg; cases hg
end
end Go.Proofs.Ythhpofehcnjmmaa.Am
namespace Go.Proofs.Ythhpofehcnjmmaa.Am
open Go.RowKit Lw
section
variable {P : Program} {T : Tys} {st : AS} {o : Oper} {K : Nat → Bool}
theorem m_cutOwn (hT : T.Ok P) {t e : Nat} {te : TI} {x h : Operand} {id sz E : Nat} {k : Int} {ct : Ct} {rest : List Chunk} (ho : o.op = .slice t x none (some h) none) (hu : P.underlying t = some (.slice e)) (he : tlook T e = some te) (hx : aop st x = some (.o (.own id))) (hh : optInt st ct.n (some h) = some k)
    (htk : takeOwn (fun i => !K i) st.hp id = some (E, sz, ct, rest)) (hsz : Nat.beq sz te.size = true) (hb : 0 ≤ k ∧ k ≤ ct.n) : StepTo P K o st (· = st.new rest (fun i => .own i E sz (headC ct k.toNat)) o.dst (.own st.nid)) := by
  intro X S ν a w Q K' hd sat hk
  have hsz := Nat.eq_of_beq_eq_true hsz
  subst hsz
  obtain ⟨⟨hx1, _⟩, _⟩ := aop_ok sat hx
  obtain ⟨hp, hK⟩ := takeOwn_perm htk
  have hm : Chunk.own id E te.size ct ∈ st.hp := hp.symm.subset (List.mem_cons_self ..)
  obtain ⟨xs, h1, h2⟩ := sat.hp _ hm
  have hb0 : k.toNat * te.size ≤ ct.n * te.size := Nat.mul_le_mul_right _ (by omega)
  obtain ⟨hxl, hor⟩ := h1
  obtain ⟨A, c, hv, hc1, hnl⟩ : ∃ A c, ν id = .slice A ct.n c ∧ ct.n ≤ c ∧ (A = none → ct.n = 0 ∧ c = 0) := by
    rcases hor with ⟨e1, e2⟩ | ⟨g, cap, cur, e1, _, hg, hnc, hcm, hcs, htake⟩
    · exact ⟨none, 0, by rw [e1, e2], by omega, fun _ => ⟨e2, rfl⟩⟩
    · exact ⟨_, _, e1, hnc, fun h => nomatch h⟩
  have hown : w.ownsRow 0 E te.size (.slice A k.toNat c) k.toNat (xs.take (k.toNat * te.size)) := by
    refine ⟨by rw [List.length_take, hxl]; omega, ?_⟩
    rcases hor with ⟨e1, e2⟩ | ⟨g, cap, cur, e1, e0, hg, hnc, hcm, hcs, htake⟩
    · rw [hv] at e1
      injection e1 with e3 _ e4
      subst e3 e4
      exact .inl ⟨by rw [show k.toNat = 0 by omega], by omega⟩
    · rw [hv] at e1
      cases e1
      exact .inr ⟨g, _, cur, rfl, e0, hg, by omega, hcm, hcs, by rw [← htake, List.take_take, Nat.min_eq_left hb0]⟩
  have hK3 : ∀ ch ∈ [Chunk.own id E te.size ct], K ch.id = false := fun ch hc => by
    rw [List.mem_singleton.1 hc]
    have hK2 : K id = false := by simpa using hK
    exact hK2
  refine wp_value (w' := w) (u := .slice A k.toNat c) ?_ (own_step (K := K) (takes := [.own id E te.size ct]) (w' := w) hd sat hp hK3 (Fr.refl _ _) hown (ct := headC ct k.toNat) rfl (fun b hb => ?_) (fun i j hi hj => ?_) hk)
  · have hr := run_slice_gen (a := a) hT hu he (A := A) (n := ct.n) (c := c) (lo := none) (hi := some h) (mx := none) (l := 0) (h := k) (m := c) (.inl ⟨rfl, rfl⟩) (optInt_ok sat hh) (.inl ⟨rfl, rfl⟩) rfl (by omega) w
    rw [exec_slice ho, hx1, hv]
    simp only [Sem.run_bind, hr, Result.andThen_ok, Sem.run_pure, Int.toNat_natCast, Int.toNat_zero, Nat.sub_zero, Nat.zero_mul]
    cases A with
    | none => simp
    | some g => simp [add_none', Addr.add]
  · refine .inl ?_
    have h3 : (Chunk.own id E te.size ct).blk ν = some b := by
      show (ν id).ownBlock = some b
      rw [hv]
      cases A <;> exact hb
    exact mem_blks.2 ⟨_, List.mem_singleton.2 rfl, h3⟩
  · have hi : i < k.toNat := hi
    have hb2 : (i + 1) * te.size ≤ k.toNat * te.size := Nat.mul_le_mul_right _ hi
    rw [Nat.add_mul, Nat.one_mul] at hb2
    obtain ⟨u, u1, u2⟩ := h2 i j (by omega) hj
    exact ⟨u, by rw [List.getElem?_take, if_pos (by omega)]; exact u1, u2⟩
theorem m_nilO {x : Operand} {id sz k off : Nat} (ho : o.op = .nilCheck x) (hx : aop st x = some (.o (.optr id sz k off))) : StepTo P K o st (· = st.put o.dst (.o (.optr id sz k off))) := by
  intro X S ν a w Q K' hd sat hk
  obtain ⟨r, l⟩ := aop_ok sat hx
  obtain ⟨g, n, cp, h1, h2⟩ := r
  refine wp_value (w' := w) (u := a.eval x) ?_ (hk _ S ν _ _ rfl (sat.put hd (v := .o (.optr id sz k off)) ⟨g, n, cp, h1, h2⟩ l) ⟨Nat.le_refl _, fun _ h => h, fun ch hc hk => ⟨by rw [(AS.put_hp _ _ _).1]; exact hc, rfl⟩, fun _ _ => rfl⟩)
  unfold execOp
  rw [ho]
  simp [h2]
def setNs : List A1 → Nat → List A1 → Option (List A1)
  | z, _, [] => some z
  | z, off, a :: as => match setN z off a with
    | some z' => setNs z' (off + 1) as
    | none => none
def setLV : List Value → Nat → List Value → List Value
  | us, _, [] => us
  | us, off, v :: vs => setLV (us.set off v) (off + 1) vs
theorem setNs_ok {w : World} {S : Nat → Prop} {ν : Nat → Value} {m : Nat} : ∀ {as : List A1} {z z' : List A1} {us vs : List Value} {off : Nat}, setNs z off as = some z' → All2 (A1.rel w S ν) z us → All2 (A1.rel w S ν) as vs → (∀ x ∈ z, x.lt m) → (∀ x ∈ as, x.lt m) → All2 (A1.rel w S ν) z' (setLV us off vs) ∧ (∀ x ∈ z', x.lt m) ∧ (as ≠ [] → off + as.length ≤ z.length)
  | [], z, z', us, [], off, h, hz, hv, h1, h2 => by cases h; exact ⟨hz, h1, fun h => absurd rfl h⟩
  | a :: as, z, z', us, v :: vs, off, h, hz, ⟨hv1, hv2⟩, h1, h2 => by
    rw [setNs] at h
    split at h
    · rename_i z1 hz1
      obtain ⟨rfl, hlt⟩ := setN_eq hz1
      obtain ⟨k1, k2, k3⟩ := setNs_ok h (hz.set hv1) hv2 (fun y hy => by
        rcases List.mem_or_eq_of_mem_set hy with hy | rfl
        · exact h1 y hy
        · exact h2 _ (List.mem_cons_self ..)) fun y hy => h2 y (List.mem_cons_of_mem _ hy)
      refine ⟨k1, k2, fun _ => ?_⟩
      rw [List.length_cons]
      by_cases e : as = []
      · subst e; rw [List.length_nil]; omega
      · have := k3 e
        rw [List.length_set] at this
        omega
    · cases h
  | [], _, _, _, _ :: _, _, _, _, hv, _, _ => hv.elim
  | _ :: _, _, _, _, [], _, _, _, hv, _, _ => hv.elim
theorem fold_set (off : Nat) : ∀ (vs us : List Value) (s : Nat), (vs.zipIdx s).foldl (fun (cs : Array Value) (p : Value × Nat) => cs.setIfInBounds (off + p.2) p.1) us.toArray = (setLV us (off + s) vs).toArray
  | [], us, s => rfl
  | v :: vs, us, s => by
    rw [List.zipIdx_cons, List.foldl_cons, setLV]
    have : us.toArray.setIfInBounds (off + s) v = (us.set (off + s) v).toArray := by simp
    rw [this, fold_set off vs _ (s + 1)]
    rfl
def fieldN : List A1 → List (Nat × Nat × Nat) → List (Nat × AV) → Option (List A1)
  | z, _, [] => some z
  | z, fs, (i, v) :: r => match field? fs i, v with
    | some (_, off, 1), .o a => match setN z off a with
      | some z' => fieldN z' fs r
      | none => none
    | some (_, off, n), .g as => match Nat.beq as.length n, as, setNs z off as with
      | true, _ :: _, some z' => fieldN z' fs r
      | _, _, _ => none
    | _, _ => none
theorem fieldN_ok {w : World} {S : Nat → Prop} {ν : Nat → Value} : ∀ {ps : List (Nat × AV)} {z r : List A1} {fs : List (Nat × Nat × Nat)} {us : List Value} {vs : List (Nat × Value)} {places : Nat → Option (Nat × Nat)} {m : Nat}, fieldN z fs ps = some r → All2 (A1.rel w S ν) z us → (∀ x ∈ z, x.lt m) → All2 (fun (p : Nat × AV) (v : Nat × Value) => p.1 = v.1 ∧ p.2.rel w S ν v.2 ∧ p.2.lt m) ps vs →
    (∀ i p, field? fs i = some p → places i = some (p.2.1, p.2.2)) → ∃ us', Instr.fill places us.toArray vs = some us'.toArray ∧ All2 (A1.rel w S ν) r us' ∧ ∀ x ∈ r, x.lt m
  | [], z, r, fs, us, vs, places, m, h, hz, hm, hv, hp => by
    cases vs with
    | nil => cases h; exact ⟨us, rfl, hz, hm⟩
    | cons v vs => exact hv.elim
  | (i, v) :: q, z, r, fs, us, vs, places, m, h, hz, hm, hv, hp => by
    cases vs with
    | nil => exact hv.elim
    | cons v' vs =>
      obtain ⟨⟨e1, e2, e3⟩, hv⟩ := hv
      have hlen := hz.length
      obtain ⟨i', u'⟩ := v'
      have e1 : i = i' := e1
      subst e1
      simp only [fieldN] at h
      split at h
      · rename_i t off x hf
        split at h
        · rename_i z' hz'
          obtain ⟨rfl, hlt⟩ := setN_eq hz'
          have hp1 := hp _ _ hf
          have e2 : x.rel w S ν u' := e2
          have hone := A1.one e2
          have hcells : u'.cells = #[u'] := by cases hq : u' <;> first | rfl | (rw [hq] at hone; cases hone)
          have hz2 : All2 (A1.rel w S ν) (z.set off x) (us.set off u') := hz.set e2
          obtain ⟨us', h1, h2, h3⟩ := fieldN_ok (ps := q) (places := places) h hz2 (fun y hy => by
            rcases List.mem_or_eq_of_mem_set hy with hy | rfl
            · exact hm y hy
            · exact e3) hv hp
          refine ⟨us', ?_, h2, h3⟩
          simp only [Instr.fill, hp1]
          rw [hcells]
          have : off < us.length := by rw [← hlen]; exact hlt
          rw [if_neg (by simp; omega)]
          simpa using h1
        · cases h
      · rename_i t off n as hf
        split at h
        · rename_i a as' z' hb hz'
          have hb := Nat.eq_of_beq_eq_true hb
          have hp1 := hp _ _ hf
          obtain ⟨vs2, rfl, hr⟩ := e2
          obtain ⟨k1, k2, k3⟩ := setNs_ok hz' hz hr hm e3
          have k3 := k3 (by simp)
          have hl2 := hr.length
          obtain ⟨us', h1, h2, h3⟩ := fieldN_ok (ps := q) (places := places) h k1 k2 hv hp
          refine ⟨us', ?_, h2, h3⟩
          simp only [Instr.fill, hp1]
          have hcells : (Value.agg vs2.toArray).cells = vs2.toArray := rfl
          rw [hcells]
          have hsz : vs2.toArray.size = vs2.length := by simp
          have hus : us.toArray.size = us.length := by simp
          rw [if_neg (by rw [hsz, hus]; simp; omega)]
          have hfold := fold_set off vs2 us 0
          have e5 : vs2.toArray.zipIdx.foldl (fun (cs : Array Value) (p : Value × Nat) => cs.setIfInBounds (off + p.2) p.1) us.toArray = (setLV us off vs2).toArray := by
            rw [← Array.foldl_toList]
            simpa using hfold
          show Instr.fill places (vs2.toArray.zipIdx.foldl (fun (cs : Array Value) (p : Value × Nat) => cs.setIfInBounds (off + p.2) p.1) us.toArray) vs = _
          rw [e5]
          exact h1
        · cases h
      · cases h
theorem run_buildN {w : World} {S : Nat → Prop} {ν : Nat → Value} (hT : T.Ok P) {s zi z1 z2 : Nat} {fs : List (Nat × Nat × Nat)} {z3 : List Value} {z4 : Bool} (ht : tlook T s = some ⟨zi, .struct fs, z1, z2, z3, z4⟩) {zs : List A1} (hz : cellsC z3 = some zs) {ps : List (Nat × AV)} {r : List A1} (hr : fieldN zs fs ps = some r)
    {vs : List (Nat × Value)} {m : Nat} (hv : All2 (fun (p : Nat × AV) (v : Nat × Value) => p.1 = v.1 ∧ p.2.rel w S ν v.2 ∧ p.2.lt m) ps vs) :
    ∃ us, All2 (A1.rel w S ν) r us ∧ (∀ x ∈ r, x.lt m) ∧ ∀ w' : World, (Instr.build s vs.toArray).run P w' = .ok (.agg us.toArray) w' := by
  obtain ⟨arr, hu, h1, h2⟩ := und_struct hT ht
  obtain ⟨i, z, e1, e2, e3, e4, e5, _⟩ := (hT.get ht).1.info
  have hid := (hT.get ht).2
  rw [hid] at e1
  have e5 : z.cells.toList = z3 := e5
  obtain ⟨c1, c2⟩ := cellsC_ok (w := w) (S := S) (ν := ν) hz
  have hpl := places_of h1 h2
  obtain ⟨us', f1, f2, f3⟩ := fieldN_ok (places := fun x => ((fs.map fun p => (p.2.1, p.2.2)).toArray)[x]?) hr c1 (c2 m) hv (fun i p hp => by rw [field?_eq] at hp; simp [hp])
  refine ⟨us', f2, f3, fun w' => run_build w' s _ _ ?_⟩
  unfold Program.built
  simp only [e1, hu, e4, hpl]
  rw [← e5] at f1
  simpa using f1
theorem m_buildN (hT : T.Ok P) {s zi z1 z2 : Nat} {fs : List (Nat × Nat × Nat)} {z3 : List Value} {z4 : Bool} {parts : Array (Nat × Operand)} (ho : o.op = .build s parts) (ht : tlook T s = some ⟨zi, .struct fs, z1, z2, z3, z4⟩) {zs r : List A1} {qs : List (Nat × AV)} (hz : cellsC z3 = some zs) (hq : partsOf st parts.toList = some qs) (hr : fieldN zs fs qs = some r) : StepTo P K o st (· = st.put o.dst (.g r)) := by
  intro X S ν a w Q K' hd sat hk
  obtain ⟨us, h1, h2, h3⟩ := run_buildN (w := w) hT ht hz hr (partsOf_ok sat hq)
  refine wp_value (w' := w) (u := .agg us.toArray) ?_ (hk _ S ν _ _ rfl (sat.put hd (v := .g r) ⟨us, rfl, h1⟩ h2) ⟨Nat.le_refl _, fun _ h => h, fun ch hc hk => ⟨by rw [(AS.put_hp _ _ _).1]; exact hc, rfl⟩, fun _ _ => rfl⟩)
  have := h3 w
  rw [← List.map_toArray] at this
  have h4 : (Instr.build s (parts.map fun x => (x.1, a.eval x.2))).run P w = .ok (.agg us.toArray) w := by simpa using this
  unfold execOp
  rw [ho]
  simp [h4, Result.andThen]
theorem TE.midG {F : Fence} {X : Cx} {Q : Exit → Act → World → Prop} {ι : Type} (pre : ι → Prop) (es : ι → Env) (ids : List Nat) (hs : ι → List Chunk) {c : Code} {E0 : Env} {H0 : List Chunk} {n0 : Nat}
    (hE : st.force (fun s => forceE (dropE (dsts c) s.env) fun e => forceH (dropH ids s.hp) fun h => AS.mk e h s.nid) = ⟨E0, H0, n0⟩)
    (h1 : TE X (c.wpIn F 0 P (Exit.then (At X pre (fun x => ⟨appE (es x) E0, appH (hs x) H0, n0⟩)) Q)) st) (h2 : ∀ x, pre x → TE X (Q .normal) ⟨appE (es x) E0, appH (hs x) H0, n0⟩) : TE X (c.wpIn F 0 P Q) st :=
  TE.mid pre _ h1 h2
end
end Go.Proofs.Ythhpofehcnjmmaa.Am
namespace Go.Proofs.Ythhpofehcnjmmaa.Am
open Go.RowKit Lw
section
variable {F : Fence} {P : Program} {T : Tys} {X : Cx} {S : Nat → Prop} {ν : Nat → Value} {st : AS} {a : Act} {w : World} {o : Oper} {K : Nat → Bool} {Q : Exit → Act → World → Prop}
end
end Go.Proofs.Ythhpofehcnjmmaa.Am
namespace Go.Proofs.Ythhpofehcnjmmaa.Am
open Go.RowKit Lw
section
variable {F : Fence} {P : Program} {X : Cx} {R : Act → World → Prop} {st : AS} {S : Nat → Prop} {ν : Nat → Value} {a : Act} {w : World} {ops : Array Oper} {Q : Exit → Act → World → Prop} {K : Nat → Bool}
section
variable {T : Tys} {o : Oper}
end
end
end Go.Proofs.Ythhpofehcnjmmaa.Am
namespace Go.Proofs.Ythhpofehcnjmmaa.Am
open Go.RowKit Lw
section
variable {P : Program} {T : Tys} {st : AS} {o : Oper} {K : Nat → Bool}
end
section
variable {F : Fence} {P : Program} {T : Tys} {X : Cx} {st st' : AS} {Q : Exit → Act → World → Prop} {R : Act → World → Prop}
end
end Go.Proofs.Ythhpofehcnjmmaa.Am
namespace Go.Proofs.Ythhpofehcnjmmaa.Am
open Go.RowKit Lw
def onlyE (ts : List Nat) : Env → Env
  | [] => []
  | (i, v) :: e => match memN ts i with
    | true => (i, v) :: onlyE ts e
    | false => onlyE ts e
theorem onlyE_sub {ts : List Nat} : ∀ {e : Env} {p : Nat × AV}, p ∈ onlyE ts e → p ∈ e
  | [], _, h => h
  | (i, v) :: e, p, h => by
    unfold onlyE at h
    split at h
    · rcases List.mem_cons.1 h with h | h
      · exact List.mem_cons.2 (.inl h)
      · exact List.mem_cons_of_mem _ (onlyE_sub h)
    · exact List.mem_cons_of_mem _ (onlyE_sub h)
theorem TE.only (ts : List Nat) {X : Cx} {R : Act → World → Prop} {st st2 : AS} (hst : (AS.mk (onlyE ts st.env) st.hp st.nid).force some = some st2) (h : TE X R st2) : TE X R st := by
  rw [AS.force_eq] at hst
  cases hst
  exact fun S ν a w sat => h S ν a w (sat.weak (fun p hp => onlyE_sub hp) (List.Sublist.refl _) rfl)
end Go.Proofs.Ythhpofehcnjmmaa.Am
namespace Go.Proofs.Ythhpofehcnjmmaa.Br
open At
theorem above_lo {l : List Nd} {q : Nat} {d : Int} (hq : q < l.length) (h : (l.getD q n0).depth < d) : aboveR d (l.take (q + 1)).reverse = q := by
  rw [take_rev hq, aboveR, if_pos h, List.length_reverse, List.length_take]
  congr 1
  omega
theorem above_hi {l : List Nd} {q : Nat} {d : Int} (hq : q < l.length) (h : d ≤ (l.getD q n0).depth) : aboveR d (l.take (q + 1)).reverse = aboveR d (l.take q).reverse := by
  rw [take_rev hq, aboveR, if_neg (by omega)]
theorem upP_above {l : List Nd} {d : Int} : ∀ {q : Nat}, q ≤ l.length → 0 ≤ aboveR d (l.take q).reverse → upP d (l.take q).reverse = pathI l (aboveR d (l.take q).reverse).toNat
  | 0, _, h => absurd h (by simp [aboveR])
  | q + 1, hq, h => by
    by_cases e : (l.getD q n0).depth < d
    · rw [above_lo (by omega) e]
      rw [take_rev (by omega), upP, if_pos e]
      rfl
    · rw [above_hi (by omega) (by omega)] at h ⊢
      rw [take_rev (by omega), upP, if_neg e]
      exact upP_above (by omega) h
theorem path_up {l : List Nd} {i : Nat} (h0 : 0 < i) (hi : i < l.length) (h : 0 ≤ aboveI l i) : pathI l i = pathI l (aboveI l i).toNat ++ [(l.getD i n0).name] := by
  have hne : (l.take i).reverse ≠ [] := by
    intro e
    have := congrArg List.length e
    rw [List.length_reverse, List.length_take, List.length_nil] at this
    omega
  have h1 : pathI l i = upP (l.getD i n0).depth (l.take i).reverse ++ [(l.getD i n0).name] := if_neg hne
  rw [h1, upP_above (by omega) h]
  rfl
theorem above_pos {l : List Nd} (h : Tok l) {i : Nat} (h0 : 0 < i) (hi : i < l.length) : 0 ≤ aboveI l i ∧ aboveI l i < i := by
  have h1 := tok_shp h (i + 1) hi
  have hl := above_lt (d := (l.getD i n0).depth) (l.take i).reverse
  rw [List.length_reverse, List.length_take] at hl
  refine ⟨?_, by unfold aboveI; omega⟩
  unfold aboveI
  rw [take_rev hi] at h1
  obtain ⟨j, rfl⟩ : ∃ j, i = j + 1 := ⟨i - 1, by omega⟩
  rw [take_rev (by omega)] at h1 ⊢
  rw [above_stk h1.2.2 h1.1 h1.2.1]
  omega
theorem above_root {l : List Nd} : aboveI l 0 = -1 := rfl
end Go.Proofs.Ythhpofehcnjmmaa.Br
namespace Go.Proofs.Ythhpofehcnjmmaa.Br
open At
def marksX (x : Bn) (i : Nat) (p : List ByteArray) (d u : Bool) : Int :=
  if (x.opq = true ∨ x.red ≠ []) ∧ x.nd.kind ≠ 1 ∨ i = 0 ∧ x.red ≠ [] then 14
  else if x.opq = true ∧ x.red ≠ [] then 6
  else if x.red ≠ [] ∧ pcheckE x.red ≠ 0 then pcheckE x.red
  else if x.red ≠ [] ∧ x.red = p then 6
  else if x.red ≠ [] ∧ d = true then 8
  else if x.nd.kind = 5 ∧ u = true then 6 else 0
def dupB (l : List Bn) (i : Nat) : Bool := (l.take i).any fun y => decide ((l.getD i b0).red = y.red)
theorem marksE_X (l : List Bn) (i : Nat) : marksE l i = marksX (l.getD i b0) i (pathI (nds l) i) (dupB l i) (opqAt l (aboveI (nds l) i)) := rfl
variable {x : Bn} {i : Nat} {p : List ByteArray} {d u : Bool}
theorem marksX_none (hr : x.red = []) (ho : x.opq = false) : marksX x i p d u = if x.nd.kind = 5 ∧ u = true then 6 else 0 := by
  unfold marksX
  simp [hr, ho]
theorem marksX_opq (hr : x.red = []) (ho : x.opq = true) : marksX x i p d u = if x.nd.kind = 1 then 0 else 14 := by
  unfold marksX
  by_cases hk : x.nd.kind = 1 <;> simp [hr, ho, hk]
theorem marksX_both (hr : x.red ≠ []) (ho : x.opq = true) : marksX x i p d u = if x.nd.kind = 1 ∧ i ≠ 0 then 6 else 14 := by
  unfold marksX
  by_cases hk : x.nd.kind = 1 <;> by_cases h0 : i = 0 <;> simp [hr, ho, hk, h0]
theorem marksX_red (hr : x.red ≠ []) (ho : x.opq = false) : marksX x i p d u = if x.nd.kind = 1 ∧ i ≠ 0 then (if pcheckE x.red ≠ 0 then pcheckE x.red else if x.red = p then 6 else if d = true then 8 else 0) else 14 := by
  unfold marksX
  by_cases hk : x.nd.kind = 1
  · by_cases h0 : i = 0 <;> simp [hr, ho, hk, h0]
  · simp [hr, ho, hk]
theorem dupB_at {l : List Bn} {q : Nat} (hq : q < i) (hi : i < l.length) (h : (l.getD i b0).red = (l.getD q b0).red) : dupB l i = true := by
  unfold dupB
  rw [List.any_eq_true]
  have : l.getD q b0 = (l.take i).getD q b0 := (getD_take hq).symm
  refine ⟨l.getD q b0, ?_, decide_eq_true h⟩
  rw [this, List.getD_eq_getElem?_getD, List.getElem?_eq_getElem (by rw [List.length_take]; omega)]
  exact List.getElem_mem _
theorem dupB_not {l : List Bn} (hi : i ≤ l.length) (h : ∀ q, q < i → (l.getD i b0).red ≠ (l.getD q b0).red) : dupB l i = false := by
  unfold dupB
  rw [List.any_eq_false]
  intro y hy
  obtain ⟨k, hk, rfl⟩ := List.getElem_of_mem hy
  rw [List.length_take] at hk
  have h2 := h k (by omega)
  have h3 : l.getD k b0 = l[k]'(by omega) := by rw [List.getD_eq_getElem?_getD, List.getElem?_eq_getElem (by omega)]; rfl
  rw [h3] at h2
  rw [List.getElem_take, decide_eq_true_eq]
  exact h2
end Go.Proofs.Ythhpofehcnjmmaa.Br
namespace Go.Proofs.Ythhpofehcnjmmaa.Am
open Go.RowKit Lw
def allStat : List Chunk → Bool
  | [] => true
  | .stat _ _ _ _ :: r => allStat r
  | .box _ _ _ :: _ => false
  | .own _ _ _ _ :: _ => false
  | .obj _ _ :: _ => false
  | .nest _ _ _ _ :: _ => false
theorem allStat_blks {ν : Nat → Value} : ∀ {l : List Chunk}, allStat l = true → blks ν l = []
  | [], _ => rfl
  | .stat _ _ _ _ :: r, h => by
    have := allStat_blks (ν := ν) (l := r) h
    unfold blks at this ⊢
    rw [List.filterMap_cons]; exact this
  | .box _ _ _ :: _, h => nomatch h
  | .own _ _ _ _ :: _, h => nomatch h
  | .obj _ _ :: _, h => nomatch h
  | .nest _ _ _ _ :: _, h => nomatch h
theorem stat_keep {w w' : World} {S S' : Nat → Prop} {ν ν' : Nat → Value} (g : Gr w w' S S') : ∀ {l : List Chunk}, allStat l = true → (∀ c ∈ l, c.holds w S ν) → ∀ c ∈ l, c.holds w' S' ν'
  | [], _, _, c, hc => nomatch hc
  | .stat i b sz cell :: r, h, hh, c, hc => by
    rcases List.mem_cons.1 hc with rfl | hc
    · obtain ⟨h1, h2, h3, cs, T, fr, h4, h5⟩ := hh _ (List.mem_cons_self ..)
      refine ⟨g.sub _ h1, Nat.lt_of_lt_of_le h2 g.size, fun j hj => ?_, cs, T, fr, by rw [g.blk _ h1 h2]; exact h4, h5⟩
      obtain ⟨u, e, r⟩ := h3 j hj
      exact ⟨u, by rw [g.cell h1 h2]; exact e, DC.mono g r⟩
    · exact stat_keep g (l := r) h (fun c hc => hh c (List.mem_cons_of_mem _ hc)) c hc
  | .box _ _ _ :: _, h, _, _, _ => nomatch h
  | .own _ _ _ _ :: _, h, _, _, _ => nomatch h
  | .obj _ _ :: _, h, _, _, _ => nomatch h
  | .nest _ _ _ _ :: _, h, _, _, _ => nomatch h
section
variable {P : Program} {T : Tys} {st : AS} {o : Oper} {K : Nat → Bool}
theorem con_below {ι : Type} {f : FuncId} {args : List AV} {takes : List Chunk} {m M : Nat} {pre : ι → Prop} {res : ι → AV} {fn : Func} (hf : P.funcs[f]? = some fn) (hn : (fn.name == "runtime.NumGoroutine") = false) (hb : fn.body.isNone = false) (hst : allStat takes = true) (wfT : allB (Chunk.ltB m) takes = true) (le : m ≤ M) (wf : ∀ x, (res x).ltB M = true) (wfG : allB (Chunk.ltB M) takes = true)
    (h : ∀ w S ν vs, All2 (AV.rel w S ν) args vs → (∀ c ∈ takes, c.holds w S ν) → Calls P f vs.toArray w fun e w' => ∃ x u, e = .returned u ∧ pre x ∧ (∀ w' S' ν', (res x).rel w' S' ν' u) ∧ Below w.heap.size w w') : Con P f args takes m M pre res (fun _ => takes) := by
  refine ⟨⟨fn, hf, hn, hb⟩, wfT, le, fun x => ⟨wf x, wfG⟩, fun w S ν vs ha ht _ _ hS => Calls.mono (h w S ν vs ha ht) ?_⟩
  rintro e w' ⟨x, u, he, hp, hr, hbl⟩
  have e0 : blks ν takes = [] := allStat_blks hst
  refine ⟨x, S, ν, u, he, hp, hr _ _ _, ⟨hbl.os, hbl.tape, hbl.output, hbl.size, fun k hk _ => hbl.block k hk⟩, fun _ _ => rfl, fun _ h => h, fun b hb => ⟨Nat.lt_of_lt_of_le (hS b hb) hbl.size, .inl hb⟩, stat_keep ⟨hbl.size, fun b hs hb => hbl.block b hb, fun _ h => h⟩ hst ht, ?_, ?_⟩
  · rw [e0]; exact List.nodup_nil
  · intro b hb; rw [e0] at hb; exact nomatch hb
end
end Go.Proofs.Ythhpofehcnjmmaa.Am
namespace Go.Proofs.Ythhpofehcnjmmaa.Am
open Go.RowKit Lw
section
variable {P : Program} {K : Nat → Bool} {o : Oper} {st : AS}
end
end Go.Proofs.Ythhpofehcnjmmaa.Am
namespace Go.Proofs.Ythhpofehcnjmmaa.Am
open Go.RowKit Lw
section
variable {P : Program} {X : Cx} {st : AS} {Q : Exit → Act → World → Prop}
variable {J : Nat → Act → World → Prop} {l : Nat}
end
end Go.Proofs.Ythhpofehcnjmmaa.Am
namespace Go.Proofs.Ythhpofehcnjmmaa.Br
open At
def stkI (l : List Nd) (q : Nat) : List Nat := stk (l.take q).reverse
def pstI (l : List Nd) (q : Nat) : List ByteArray := pst (l.take q).reverse
theorem stkI_succ {l : List Nd} {q : Nat} (hq : q < l.length) : stkI l (q + 1) = (stkI l q).take (l.getD q n0).depth.toNat ++ [q] := by
  unfold stkI
  rw [take_rev hq, stk, List.length_reverse, List.length_take, show min q l.length = q by omega]
theorem pstI_zero {l : List Nd} (h : 0 < l.length) : pstI l 1 = [] := by
  unfold pstI
  rw [take_rev h]
  rfl
theorem pstI_succ {l : List Nd} {q : Nat} (hq : q < l.length) (h0 : 0 < q) : pstI l (q + 1) = (pstI l q).take ((l.getD q n0).depth - 1).toNat ++ [(l.getD q n0).name] := by
  unfold pstI
  have hne : (l.take q).reverse ≠ [] := by
    intro e
    have := congrArg List.length e
    rw [List.length_reverse, List.length_take, List.length_nil] at this
    omega
  rw [take_rev hq, pst, if_neg hne]
theorem walk_root {l : List Nd} (h : Tok l) : (l.getD 0 n0).depth = 0 ∧ stkI l 0 = [] ∧ pstI l 0 = [] := by
  have h1 := tok_shp h 1 (tok_node h).1
  rw [take_rev (tok_node h).1] at h1
  exact ⟨h1, rfl, rfl⟩
theorem walk_at {l : List Nd} (h : Tok l) {q : Nat} (hq : q < l.length) (h0 : 0 < q) : 1 ≤ (l.getD q n0).depth ∧ (l.getD q n0).depth ≤ (stkI l q).length ∧ (l.getD q n0).depth - 1 ≤ (pstI l q).length ∧ (stkI l q).length ≤ 9 ∧ (pstI l q).length ≤ 8 ∧ aboveI l q = (((stkI l q).getD ((l.getD q n0).depth - 1).toNat 0 : Nat) : Int) := by
  have h1 := tok_shp h (q + 1) hq
  have hp := (node_zero ((tok_node h).2.2 (q - 1) (by omega))).1
  rw [take_rev hq] at h1
  obtain ⟨j, rfl⟩ : ∃ j, q = j + 1 := ⟨q - 1, by omega⟩
  have hd : (l.getD j n0).depth ≤ 8 := by
    rw [Nat.add_sub_cancel] at hp
    generalize (l.take j).reverse = pre at hp
    cases pre with
    | nil =>
      unfold placeE at hp
      dsimp only at hp
      split at hp
      · exact absurd hp (by decide)
      · omega
    | cons x r => exact (place_more hp).1
  unfold stkI pstI aboveI
  rw [take_rev (by omega)] at h1 ⊢
  have e1 := stk_len h1.2.2
  have e2 := pst_len h1.2.2
  obtain ⟨k1, k2, k3⟩ := h1
  exact ⟨k1, by omega, by omega, by omega, by omega, above_stk k3 k1 k2⟩
theorem walk_facts {l : List Nd} (h : Tok l) {q : Nat} (hq : q < l.length) : 0 ≤ (l.getD q n0).depth ∧ (l.getD q n0).depth ≤ (stkI l q).length ∧ (l.getD q n0).depth - 1 ≤ (pstI l q).length ∧ (stkI l q).length ≤ 9 ∧ (pstI l q).length ≤ 8 := by
  rcases Nat.eq_zero_or_pos q with e | e
  · subst e
    obtain ⟨h1, h2, h3⟩ := walk_root h
    rw [h2, h3]
    simp only [List.length_nil]
    omega
  · obtain ⟨h1, h2, h3, h4, h5, _⟩ := walk_at h hq e
    exact ⟨by omega, h2, h3, h4, h5⟩
theorem pstI_path {l : List Nd} (h : Tok l) {q : Nat} (hq : q < l.length) : pstI l (q + 1) = pathI l q := (pathI_pst h hq).symm
end Go.Proofs.Ythhpofehcnjmmaa.Br
namespace Go.Proofs.Ythhpofehcnjmmaa.Br
open At
def metL (l : List Bn) (q : Nat) : List ByteArray := (((l.take q).map (·.red)).filter (fun r => decide (r ≠ []))).map textS
theorem take_bn {l : List Bn} {q : Nat} (h : q < l.length) : l.take (q + 1) = l.take q ++ [l.getD q b0] := by
  rw [List.take_add_one, List.getD_eq_getElem?_getD, List.getElem?_eq_getElem h]
  rfl
theorem metL_none {l : List Bn} {q : Nat} (h : q < l.length) (hr : (l.getD q b0).red = []) : metL l (q + 1) = metL l q := by
  unfold metL
  rw [take_bn h, List.map_append, List.filter_append, List.map_append]
  simp only [List.map_cons, List.map_nil, hr]
  simp
theorem metL_some {l : List Bn} {q : Nat} (h : q < l.length) (hr : (l.getD q b0).red ≠ []) : metL l (q + 1) = metL l q ++ [textS (l.getD q b0).red] := by
  unfold metL
  rw [take_bn h, List.map_append, List.filter_append, List.map_append]
  simp only [List.map_cons, List.map_nil]
  rw [List.filter_cons_of_pos (by simpa using hr)]
  rfl
theorem marks_red {l : List Bn} {i : Nat} (h : marksE l i = 0) (hr : (l.getD i b0).red ≠ []) : (l.getD i b0).opq = false ∧ (l.getD i b0).nd.kind = 1 ∧ i ≠ 0 ∧ pcheckE (l.getD i b0).red = 0 ∧ (l.getD i b0).red ≠ pathI (nds l) i ∧ dupB l i = false := by
  rw [marksE_X] at h
  cases ho : (l.getD i b0).opq
  · rw [marksX_red hr ho] at h
    split at h
    · rename_i k
      split at h
      · rename_i k2; exact absurd h k2
      rename_i k2
      split at h
      · exact absurd h (by decide)
      rename_i k3
      split at h
      · exact absurd h (by decide)
      rename_i k4
      exact ⟨rfl, k.1, k.2, Decidable.not_not.1 k2, k3, by simpa using k4⟩
    · exact absurd h (by decide)
  · rw [marksX_both hr ho] at h
    split at h <;> exact absurd h (by decide)
theorem getD_b {l : List Bn} {k : Nat} (h : k < l.length) : l.getD k b0 = l[k] := by
  rw [List.getD_eq_getElem?_getD, List.getElem?_eq_getElem h]
  rfl
theorem met_dup {l : List Bn} {q : Nat} (hq : q < l.length) (hg : ∀ j, j < q → marksE l j = 0) (hr : (l.getD q b0).red ≠ []) (hp : pcheckE (l.getD q b0).red = 0) : textS (l.getD q b0).red ∈ metL l q ↔ dupB l q = true := by
  unfold metL dupB
  rw [List.mem_map, List.any_eq_true]
  constructor
  · rintro ⟨r, hm, e⟩
    rw [List.mem_filter, List.mem_map] at hm
    obtain ⟨⟨y, hy, rfl⟩, hne⟩ := hm
    have hne : y.red ≠ [] := by simpa using hne
    refine ⟨y, hy, decide_eq_true ?_⟩
    obtain ⟨k, hk, rfl⟩ := List.getElem_of_mem hy
    rw [List.length_take] at hk
    rw [List.getElem_take] at hne e ⊢
    have h1 := hg k (by omega)
    have h2 := (marks_red h1 (by rw [getD_b (by omega)]; exact hne)).2.2.2.1
    rw [getD_b (by omega)] at h2
    exact (text_inj hne hr h2 hp e).symm
  · rintro ⟨y, hy, e⟩
    have e := of_decide_eq_true e
    refine ⟨y.red, List.mem_filter.2 ⟨List.mem_map.2 ⟨y, hy, rfl⟩, by rw [← e]; simpa using hr⟩, by rw [e]⟩
end Go.Proofs.Ythhpofehcnjmmaa.Br
namespace Go.Proofs.Ythhpofehcnjmmaa.Br
open At
theorem tok_place {l : List Nd} (h : Tok l) {q : Nat} (hq : q + 1 < l.length) : 1 ≤ (l.getD (q + 1) n0).depth ∧ (l.getD (q + 1) n0).depth ≤ (l.getD q n0).depth + 1 ∧ (l.getD (q + 1) n0).depth ≤ (l.getD q n0).depth + (if (l.getD q n0).kind = 1 then 1 else 0) := by
  have hp := (node_zero ((tok_node h).2.2 (q + 1) hq)).1
  rw [take_rev (by omega)] at hp
  obtain ⟨p1, p2, _⟩ := place_zero hp
  exact ⟨p1, p2, (place_more hp).2.2.2⟩
theorem above_up {l : List Nd} (h : Tok l) : ∀ {q : Nat} {d : Int}, q < l.length → 1 ≤ d → d ≤ (l.getD q n0).depth + 1 → 0 ≤ aboveR d (l.take (q + 1)).reverse ∧ (l.getD (aboveR d (l.take (q + 1)).reverse).toNat n0).depth = d - 1 ∧ (d ≤ (l.getD q n0).depth → (l.getD (aboveR d (l.take (q + 1)).reverse).toNat n0).kind = 1)
  | 0, d, hq, h1, h2 => by
    have h0 := (walk_root h).1
    rw [above_lo hq (by omega)]
    exact ⟨by omega, by rw [Int.toNat_natCast]; omega, fun k => by omega⟩
  | q + 1, d, hq, h1, h2 => by
    obtain ⟨p1, p2, p3⟩ := tok_place h hq
    by_cases e : (l.getD (q + 1) n0).depth < d
    · rw [above_lo hq e]
      exact ⟨by omega, by rw [Int.toNat_natCast]; omega, fun k => by omega⟩
    · rw [above_hi hq (by omega)]
      obtain ⟨a1, a2, a3⟩ := above_up h (q := q) (d := d) (by omega) h1 (by omega)
      refine ⟨a1, a2, fun k => ?_⟩
      by_cases e2 : (l.getD q n0).depth < d
      · rw [above_lo (by omega) e2, Int.toNat_natCast]
        by_cases e3 : (l.getD q n0).kind = 1
        · exact e3
        · rw [if_neg e3] at p3; omega
      · exact a3 (by omega)
theorem above_dir {l : List Nd} (h : Tok l) {j : Nat} (h0 : 0 < j) (hj : j < l.length) : 0 ≤ aboveI l j ∧ aboveI l j < j ∧ (l.getD (aboveI l j).toNat n0).depth = (l.getD j n0).depth - 1 ∧ (l.getD (aboveI l j).toNat n0).kind = 1 := by
  obtain ⟨q, rfl⟩ : ∃ q, j = q + 1 := ⟨j - 1, by omega⟩
  obtain ⟨p1, p2, p3⟩ := tok_place h hj
  obtain ⟨a1, a2, a3⟩ := above_up h (q := q) (d := (l.getD (q + 1) n0).depth) (by omega) p1 p2
  refine ⟨a1, (above_pos h h0 hj).2, a2, ?_⟩
  show (l.getD (aboveR (l.getD (q + 1) n0).depth (l.take (q + 1)).reverse).toNat n0).kind = 1
  by_cases e : (l.getD q n0).depth < (l.getD (q + 1) n0).depth
  · rw [above_lo (by omega) e, Int.toNat_natCast]
    by_cases e3 : (l.getD q n0).kind = 1
    · exact e3
    · rw [if_neg e3] at p3; omega
  · exact a3 (by omega)
section
variable {l : List Bn}
theorem bok_tok (h : Bok l) : Tok (nds l) := (bok_iff.1 h).1
theorem known_ok (h : Bok l) {i : Nat} (hi : i < l.length) : knownE l i = 0 := by
  unfold knownE
  rw [if_neg (fun k => k h), if_neg (by omega)]
theorem namesE_ok (h : Bok l) {i : Nat} (hi : i < l.length) : namesE l i = (namesL l i, 0) := by
  unfold namesE
  rw [known_ok h hi, if_neg (by decide), Int.toNat_natCast]
theorem names_lt {i n : Nat} (hn : n ∈ namesL l i) : n < l.length := (idxs_mem.1 hn).1
theorem kidsE_dir (h : Bok l) {i : Nat} (hi : i < l.length) (hk : (l.getD i b0).nd.kind = 1) : kidsE l i = (kidsL l i, 0) := by
  unfold kidsE
  rw [known_ok h hi, if_neg (by decide), Int.toNat_natCast, if_neg (fun k => k hk)]
theorem kid_iff {i j : Nat} : j ∈ kidsL l i ↔ j < l.length ∧ aboveI (nds l) j = i := by
  unfold kidsL
  rw [idxs_mem, decide_eq_true_eq]
theorem kid_at (h : Bok l) {i j : Nat} (hj : j ∈ kidsL l i) : i < j ∧ j < l.length ∧ (l.getD j b0).nd.depth = (l.getD i b0).nd.depth + 1 ∧ (l.getD i b0).nd.kind = 1 := by
  obtain ⟨h1, h2⟩ := kid_iff.1 hj
  have hl : (nds l).length = l.length := List.length_map ..
  rcases Nat.eq_zero_or_pos j with e | e
  · subst e; rw [above_root] at h2; omega
  obtain ⟨a1, a2, a3, a4⟩ := above_dir (bok_tok h) e (by omega)
  rw [h2, Int.toNat_natCast, nds_getD, nds_getD] at a3
  rw [h2, Int.toNat_natCast, nds_getD] at a4
  exact ⟨by omega, h1, by omega, a4⟩
end
end Go.Proofs.Ythhpofehcnjmmaa.Br
namespace Go.Proofs.Ythhpofehcnjmmaa.Br
open At
variable {l : List Bn} {i : Nat}
end Go.Proofs.Ythhpofehcnjmmaa.Br
namespace Go.Proofs.Ythhpofehcnjmmaa.Br
open At
variable {l : List Bn} {i : Nat}
theorem idxs_one {p : Nat → Bool} (h : ∀ k, p k = decide (k = i)) : ∀ n, idxs p n = if i < n then [i] else []
  | 0 => rfl
  | n + 1 => by
    rw [idxs_succ, idxs_one h n, h n]
    by_cases e : n = i
    · subst e
      rw [if_pos (decide_eq_true rfl), if_neg (Nat.lt_irrefl _), if_pos (Nat.lt_succ_self _)]
      rfl
    · rw [if_neg (by simpa using e)]
      by_cases e2 : i < n
      · rw [if_pos e2, if_pos (by omega)]
      · rw [if_neg e2, if_neg (by omega)]
theorem names_zero (hi : i < l.length) (h : (l.getD i b0).nd.cls = 0) : namesL l i = [i] := by
  unfold namesL
  rw [idxs_one (i := i) (fun k => ?_), if_pos hi]
  unfold namesP
  rw [h]
  simp
theorem namesP_cls (h : (l.getD i b0).nd.cls ≠ 0) (k : Nat) : namesP l i k = decide ((l.getD k b0).nd.cls = (l.getD i b0).nd.cls) := by
  unfold namesP
  rw [decide_eq_true h, Bool.true_and]
  by_cases e : k = i
  · subst e; simp
  · simp [e]
end Go.Proofs.Ythhpofehcnjmmaa.Br
namespace Go.Proofs.Ythhpofehcnjmmaa.Br
open At
def ordI (av : Nat → Int) (x y : Nat) : Int := if av x - av y ≠ 0 then av x - av y else (x : Int) - y
def minL (av : Nat → Int) : Nat → List Nat → Nat
  | m, [] => m
  | m, x :: r => if ordI av x m < 0 then minL av x r else minL av m r
theorem ord_lt {av : Nat → Int} {x y : Nat} : ordI av x y < 0 ↔ av x < av y ∨ (av x = av y ∧ x < y) := by
  unfold ordI
  split <;> omega
theorem minL_spec (av : Nat → Int) : ∀ (r : List Nat) (m : Nat), (minL av m r = m ∨ minL av m r ∈ r) ∧ ¬ ordI av m (minL av m r) < 0 ∧ ∀ x ∈ r, ¬ ordI av x (minL av m r) < 0
  | [], m => ⟨.inl rfl, by rw [ord_lt]; unfold minL; omega, fun x h => nomatch h⟩
  | y :: r, m => by
    unfold minL
    split
    · rename_i h
      obtain ⟨h1, h2, h3⟩ := minL_spec av r y
      refine ⟨.inr (h1.elim (fun e => by rw [e]; exact List.mem_cons_self ..) (List.mem_cons_of_mem _)), ?_, fun x hx => ?_⟩
      · rw [ord_lt] at h h2 ⊢; omega
      · rcases List.mem_cons.1 hx with e | e
        · rw [e]; exact h2
        · exact h3 x e
    · rename_i h
      obtain ⟨h1, h2, h3⟩ := minL_spec av r m
      refine ⟨h1.elim .inl (fun e => .inr (List.mem_cons_of_mem _ e)), h2, fun x hx => ?_⟩
      rcases List.mem_cons.1 hx with e | e
      · rw [e]
        rw [ord_lt] at h h2 ⊢; omega
      · exact h3 x e
def minN (av : Nat → Int) : List Nat → Nat
  | [] => 0
  | m :: r => minL av m r
theorem minN_eq {av : Nat → Int} {l : List Nat} {i : Nat} (hi : i ∈ l) : minN av l = i ↔ ∀ k ∈ l, ¬ ordI av k i < 0 := by
  cases l with
  | nil => exact nomatch hi
  | cons m r =>
    obtain ⟨h1, h2, h3⟩ := minL_spec av r m
    show minL av m r = i ↔ _
    constructor
    · rintro rfl k hk
      rcases List.mem_cons.1 hk with e | e
      · rw [e]; exact h2
      · exact h3 k e
    · intro h
      have h4 : ¬ ordI av (minL av m r) i < 0 := h _ (h1.elim (fun e => by rw [e]; exact List.mem_cons_self ..) (List.mem_cons_of_mem _))
      have h5 : ¬ ordI av i (minL av m r) < 0 := by
        rcases List.mem_cons.1 hi with e | e
        · rw [e]; exact h2
        · exact h3 i e
      rw [ord_lt] at h4 h5
      omega
theorem minL_snoc (av : Nat → Int) (x : Nat) : ∀ (r : List Nat) (m : Nat), minL av m (r ++ [x]) = if ordI av x (minL av m r) < 0 then x else minL av m r
  | [], m => by
    rw [List.nil_append, minL, minL]
    split <;> rfl
  | y :: r, m => by
    rw [List.cons_append, minL, minL]
    split
    · exact minL_snoc av x r y
    · exact minL_snoc av x r m
theorem first_min {l : List Bn} {n : Int} {i : Nat} (hi : i < l.length) (hn : aboveI (nds l) i = n) : decide (minN (aboveI (nds l)) (namesL l i) = i) = firstP l n i := by
  have hm : i ∈ namesL l i := idxs_mem.2 ⟨hi, by unfold namesP; simp⟩
  unfold firstP
  rw [Bool.eq_iff_iff, decide_eq_true_eq, minN_eq hm, List.all_eq_true]
  refine forall_congr' fun k => forall_congr' fun hk => ?_
  rw [ord_lt, Bool.or_eq_true, Bool.and_eq_true, decide_eq_true_eq, decide_eq_true_eq, decide_eq_true_eq, hn]
  omega
end Go.Proofs.Ythhpofehcnjmmaa.Br
namespace Go.Proofs.Ythhpofehcnjmmaa.Am
open Go.RowKit Lw
section
variable {F : Fence} {P : Program} {T : Tys} {X Y : Cx} {st : AS} {R : Act → World → Prop} {S S1 : Nat → Prop} {ν : Nat → Value} {a : Act} {w : World}
theorem con_of0 {N : Nat} {ι : Type} {f : FuncId} {args : List AV} {takes : List Chunk} {m M : Nat} {pre : ι → Prop} {res : ι → AV} {gives : ι → List Chunk} {fn : Func} {c : Code} (hf : P.funcs[f]? = some fn) (hb : fn.body = some c) (hn : (fn.name == "runtime.NumGoroutine") = false)
    (hN : fn.ntmps = N) (hwf : (AS.mk (env0 0 args) takes m).wf N = true) (hle : m ≤ M) (wf : ∀ x, (res x).ltB M = true ∧ allB (Chunk.ltB M) (gives x) = true)
    (h : ∀ w S ν, TE ⟨N, w, fun b => b ∈ blks ν takes, S, ν, m, false⟩ (c.wpIn Fence.wide 0 P (postR P fn (RetR ⟨N, w, fun b => b ∈ blks ν takes, S, ν, m, false⟩ takes pre res gives))) ⟨env0 0 args, takes, m⟩) :
    Con P f args takes m M pre res gives := by
  subst hN
  obtain ⟨wf1, wf2⟩ := AS.wf_ok hwf
  refine ⟨⟨fn, hf, hn, by rw [hb]; rfl⟩, ?_, hle, wf, fun w S ν vs ha ht hnd hbl hS => ?_⟩
  · simp only [AS.wf] at hwf
    split at hwf
    · exact hwf
    · cases hwf
  · refine callsIn_wide.1 (callsIn_of_wp_marks (F := Fence.wide) (n := 0) hf hb trivial (Code.wpIn_mono (fun _ _ _ h => postR_M h) (h w S ν S ν _ w ?_)))
    have hl := ha.length
    have hsz : args.length ≤ fn.ntmps := by
      rcases Nat.eq_zero_or_pos args.length with h0 | h0
      · omega
      · have hlast : ∀ {vs : List AV} {i k : Nat} {v : AV}, vs[k]? = some v → (i + k, v) ∈ env0 i vs := by
          intro vs
          induction vs with
          | nil => intro i k v h; simp at h
          | cons x vs ih =>
            intro i k v h
            rw [env0_cons]
            cases k with
            | zero => cases h; exact List.mem_cons_self ..
            | succ k => have := ih (i := i + 1) (k := k) (by simpa using h); rw [show i + (k + 1) = i + 1 + k by omega]; exact List.mem_cons_of_mem _ this
        have h1 : args[args.length - 1]? = some (args[args.length - 1]'(by omega)) := List.getElem?_eq_getElem _
        have := (wf1 _ (hlast (i := 0) h1)).1
        simp at this; omega
    refine ⟨⟨(fun d hd => nomatch hd), List.nodup_nil, fun _ => rfl⟩, by simp; omega, fun p hp => ⟨(wf1 p hp).1, ?_⟩, ht, hnd, fun b hb' => ⟨(hbl b hb').1, (hbl b hb').2, .inr hb'⟩, fun b hb' => ⟨hS b hb', .inl hb'⟩, fun b hb' => hb', Fr.refl _ _, fun p hp => (wf1 p hp).2, wf2, fun _ _ => rfl, Nat.le_refl _⟩
    obtain ⟨k, h1, h2⟩ := env0_mem hp
    obtain ⟨u, h3, h4⟩ := ha.get h2
    have hk : k < vs.length := (List.getElem?_eq_some_iff.1 h3).1
    have : (vs.toArray ++ Array.replicate (fn.ntmps - vs.toArray.size) undef).getD p.1 undef = u := by
      rw [h1, Nat.zero_add]
      have h5 : vs[k] = u := by rw [List.getElem?_eq_getElem hk] at h3; exact Option.some.inj h3
      simp [Array.getElem?_append, hk, h5]
    show p.2.rel w S ν ((vs.toArray ++ Array.replicate (fn.ntmps - vs.toArray.size) undef).getD p.1 undef)
    rw [this]; exact h4
structure Lent (X Y : Cx) (E sz : Nat) (ct : Ct) (v : Value) (S1 : Nat → Prop) (g : Nat) : Prop where
  N : Y.N = X.N
  m : Y.m = X.m
  k1 : X.mks = false
  k2 : Y.mks = false
  S0 : ∀ b, Y.S0 b ↔ (S1 b ∨ b = g)
  fix : ∀ i, i < X.m → Y.ν0 i = X.ν0 i
  fr : Fr X.B0 X.w0 Y.w0
  imm : ∀ b, S1 b → b < Y.w0.heap.size ∧ (X.S0 b ∨ X.w0.heap.size ≤ b ∨ X.B0 b)
  imm0 : ∀ b, X.S0 b → S1 b
  g1 : g < Y.w0.heap.size ∧ ¬ S1 g ∧ (X.w0.heap.size ≤ g ∨ X.B0 g)
  B0 : ∀ b, Y.B0 b → b < Y.w0.heap.size ∧ ¬ S1 b ∧ b ≠ g ∧ (X.w0.heap.size ≤ b ∨ X.B0 b)
  own : ∃ xs, Y.w0.ownsRow 0 E sz v ct.n xs ∧ ∀ i j, i < ct.n → j < sz → ∃ u, xs[i * sz + j]? = some u ∧ (ct.cell i j).rel Y.w0 S1 u
  blk : v.ownBlock = some g
  one : v.oneCell' = true
theorem Lent.frame {E sz : Nat} {ct : Ct} {v : Value} {g : Nat} (L : Lent X Y E sz ct v S1 g) (h : Fr Y.B0 Y.w0 w) : Fr X.B0 X.w0 w := by
  refine ⟨h.os.trans L.fr.os, h.tape.trans L.fr.tape, h.output.trans L.fr.output, Nat.le_trans L.fr.size h.size, fun k hk hb => ?_⟩
  rw [h.block k (Nat.lt_of_lt_of_le hk L.fr.size) fun hy => ?_, L.fr.block k hk hb]
  rcases (L.B0 k hy).2.2.2 with h1 | h1
  · omega
  · exact hb h1
theorem appE_mem : ∀ {e e' : Env} {p : Nat × AV}, p ∈ appE e e' → p ∈ e ∨ p ∈ e'
  | [], _, _, h => .inr h
  | x :: e, e', p, h => by
    rcases List.mem_cons.1 h with h | h
    · subst h; exact .inl (List.mem_cons_self ..)
    · exact (appE_mem h).imp (List.mem_cons_of_mem _) id
theorem TE.lend (t id : Nat) {E sz : Nat} {ct : Ct} {rest : List Chunk} (hk : X.mks = false) (hl : look st.env t = some (.o (.own id))) (htk : takeOwn (fun _ => true) st.hp id = some (E, sz, ct, rest)) (hn : 0 < ct.n) {e2 : Env} {h2 : List Chunk} {n2 : Nat} (hst : (AS.mk (frzE id sz ct st.env) (frzH id sz ct rest) st.nid).force some = some ⟨e2, h2, n2⟩)
    (h : ∀ w0 B0 S0 ν0 v S1 g, Lent X ⟨X.N, w0, B0, S0, ν0, X.m, false⟩ E sz ct v S1 g → TE ⟨X.N, w0, B0, S0, ν0, X.m, false⟩ R ⟨appE e2 [(t, .o (.c v))], h2, n2⟩) : TE X R st := by
  rw [AS.force_eq] at hst
  cases hst
  intro S ν a w sat
  have sat2 := sat.freeze id htk
  obtain ⟨hp, _⟩ := takeOwn_perm htk
  have hmem : Chunk.own id E sz ct ∈ st.hp := hp.symm.subset (List.mem_cons_self ..)
  obtain ⟨xs, o1, o2⟩ := sat.hp _ hmem
  obtain ⟨ht, hv, hone⟩ := sat.env _ (look_mem hl)
  obtain ⟨g, hg⟩ : ∃ g, (ν id).ownBlock = some g := by
    rcases o1.2 with ⟨_, e⟩ | ⟨g, cap, cur, e, _⟩
    · omega
    · exact ⟨g, by rw [e]; rfl⟩
  have hgb : (Chunk.own id E sz ct).blk ν = some g := hg
  obtain ⟨b1, b2, b3⟩ := sat.blk g (mem_blks.2 ⟨_, hmem, hgb⟩)
  have hd := sat.defers.2.2 hk
  refine h w (fun b => b ∈ blks ν (frzH id sz ct rest)) (fun b => S b ∨ (ν id).ownBlock = some b) ν (ν id) S g ⟨rfl, rfl, hk, rfl, fun b => ?_, sat.fix, sat.frame, sat.imm, sat.imm0, ⟨b1, b2, b3⟩, fun b hb => ?_, ⟨xs, o1, o2⟩, hg, hone⟩ _ ν a w ⟨⟨fun d hd' => (by rw [hd] at hd'; cases hd'), sat.defers.2.1, fun _ => hd⟩, sat.size, fun p hp' => ?_, sat2.hp, sat2.nd, fun b hb => ⟨(sat2.blk b hb).1, (sat2.blk b hb).2.1, .inr hb⟩, fun b hb => ⟨(sat2.imm b hb).1, .inl hb⟩, fun b hb => hb, Fr.refl _ _, fun p hp' => ?_, sat2.hlt, fun _ _ => rfl, sat.ge⟩
  · show S b ∨ (ν id).ownBlock = some b ↔ _
    rw [hg]
    constructor
    · rintro (h | h)
      · exact .inl h
      · cases h; exact .inr rfl
    · rintro (h | h)
      · exact .inl h
      · subst h; exact .inr rfl
  · obtain ⟨c1, c2, c3⟩ := sat2.blk b hb
    exact ⟨c1, fun h => c2 (.inl h), fun e => c2 (.inr (by rw [hg, e])), c3⟩
  · rcases appE_mem hp' with h1 | h1
    · exact sat2.env p h1
    · rw [List.mem_singleton.1 h1]
      exact ⟨ht, hv, hone⟩
  · rcases appE_mem hp' with h1 | h1
    · exact sat2.elt p h1
    · rw [List.mem_singleton.1 h1]
      trivial
def plainE : Env → Env
  | [] => []
  | (t, .o (.c v)) :: e => (t, .o (.c v)) :: plainE e
  | (t, .o (.sb b)) :: e => (t, .o (.sb b)) :: plainE e
  | _ :: e => plainE e
theorem plainE_mem : ∀ {e : Env} {p : Nat × AV}, p ∈ plainE e → p ∈ e ∧ ((∃ v, p.2 = .o (.c v)) ∨ ∃ b, p.2 = .o (.sb b))
  | (t, x) :: e, p, h => by
    unfold plainE at h
    split at h
    · rename_i h0; cases h0
    · rename_i t' v e' h0
      cases h0
      rcases List.mem_cons.1 h with h | h
      · subst h; exact ⟨List.mem_cons_self .., .inl ⟨_, rfl⟩⟩
      · obtain ⟨h1, h2⟩ := plainE_mem h; exact ⟨List.mem_cons_of_mem _ h1, h2⟩
    · rename_i t' b e' h0
      cases h0
      rcases List.mem_cons.1 h with h | h
      · subst h; exact ⟨List.mem_cons_self .., .inr ⟨_, rfl⟩⟩
      · obtain ⟨h1, h2⟩ := plainE_mem h; exact ⟨List.mem_cons_of_mem _ h1, h2⟩
    · rename_i q e' h1 h2 h0
      cases h0
      obtain ⟨h3, h4⟩ := plainE_mem h
      exact ⟨List.mem_cons_of_mem _ h3, h4⟩
theorem TE.thaw {E sz : Nat} {ct : Ct} {v : Value} {g : Nat} (L : Lent X Y E sz ct v S1 g) (t : Nat) (hm : (t, AV.o (.c v)) ∈ st.env) {st2 : AS} (hst : (AS.mk ((t, .o (.own st.nid)) :: plainE st.env) [.own st.nid E sz ct] (st.nid + 1)).force some = some st2) (h : TE X R st2) : TE Y R st := by
  rw [AS.force_eq] at hst
  cases hst
  intro S ν a w sat
  have hd := sat.defers.2.2 L.k2
  have hgB : ¬ Y.B0 g := fun h => (L.B0 g h).2.2.1 rfl
  have hgh := sat.frame.block g L.g1.1 hgB
  have gr : Gr Y.w0 w S1 S1 := ⟨sat.frame.size, fun b hb hlt => sat.frame.block b hlt fun h => (L.B0 b h).2.1 hb, fun _ h => h⟩
  obtain ⟨xs, ⟨o1, o2⟩, o3⟩ := L.own
  have hblk : ∀ b, b ∈ blks (upd ν st.nid v) [Chunk.own st.nid E sz ct] → b = g := fun b hb => by
    have : v.ownBlock = some b := by simpa [blks, Chunk.blk, upd_same] using hb
    rw [L.blk] at this
    exact (Option.some.inj this).symm
  refine h S1 (upd ν st.nid v) a w ⟨⟨fun d hd' => (by rw [hd] at hd'; cases hd'), sat.defers.2.1, fun _ => hd⟩, by rw [← L.N]; exact sat.size, fun p hp => ?_, fun ch hc => ?_, ?_, fun b hb => ?_, fun b hb => ⟨Nat.lt_of_lt_of_le (L.imm b hb).1 sat.frame.size, (L.imm b hb).2⟩, L.imm0, L.frame sat.frame, fun p hp => ?_, fun ch hc => ?_, fun i hi => ?_, ?_⟩
  · rcases List.mem_cons.1 hp with hp | hp
    · subst hp
      obtain ⟨h1, h2, h3⟩ := sat.env _ hm
      exact ⟨by rw [← L.N]; exact h1, by rw [upd_same]; exact h2, by rw [upd_same]; exact L.one⟩
    · obtain ⟨h1, h2⟩ := plainE_mem hp
      obtain ⟨h3, h4⟩ := sat.env p h1
      refine ⟨by rw [← L.N]; exact h3, ?_⟩
      rcases h2 with ⟨u, e⟩ | ⟨u, e⟩
      · rw [e] at h4 ⊢; exact h4
      · rw [e] at h4 ⊢; exact h4
  · rw [List.mem_singleton.1 hc]
    refine ⟨xs, ⟨o1, ?_⟩, fun i j hi hj => ?_⟩
    · rw [upd_same]
      rcases o2 with o2 | ⟨g', cap, cur, e1, e2, e3, e4⟩
      · exact .inl o2
      · have : g' = g := by
          have := L.blk
          rw [e1] at this
          exact Option.some.inj this
        subst this
        exact .inr ⟨g', cap, cur, e1, e2, by rw [hgh]; exact e3, e4⟩
    · obtain ⟨u, u1, u2⟩ := o3 i j hi hj
      exact ⟨u, u1, DC.mono gr u2⟩
  · have : blks (upd ν st.nid v) [Chunk.own st.nid E sz ct] = [g] := by
      have h1 : (Chunk.own st.nid E sz ct).blk (upd ν st.nid v) = some g := by
        show (upd ν st.nid v st.nid).ownBlock = some g
        rw [upd_same]
        exact L.blk
      simp [blks, h1]
    rw [this]
    simp
  · rw [hblk b hb]
    exact ⟨Nat.lt_of_lt_of_le L.g1.1 sat.frame.size, L.g1.2.1, L.g1.2.2⟩
  · rcases List.mem_cons.1 hp with hp | hp
    · subst hp; exact Nat.lt_succ_self _
    · obtain ⟨h1, h2⟩ := plainE_mem hp
      rcases h2 with ⟨u, e⟩ | ⟨u, e⟩ <;> (rw [e]; trivial)
  · rw [List.mem_singleton.1 hc]; exact Nat.lt_succ_self _
  · have hge := sat.ge
    rw [L.m] at hge
    rw [upd_lt i (by omega), sat.fix i (by rw [L.m]; exact hi), L.fix i hi]
  · have hge := sat.ge
    rw [L.m] at hge
    exact Nat.le_succ_of_le hge
end
end Go.Proofs.Ythhpofehcnjmmaa.Am
set_option linter.unusedSimpArgs false
set_option linter.unusedVariables false
namespace Go.Proofs.Ythhpofehcnjmmaa.Br
open At
section
variable {l : List Bn} {n : Nat}
def kidP (l : List Bn) (n i : Nat) : Bool := decide (aboveI (nds l) i = (n : Int))
theorem idxs_low {p : Nat → Bool} : ∀ {n : Nat}, (∀ i, i < n → p i = false) → idxs p n = []
  | 0, _ => rfl
  | n + 1, h => by
    rw [idxs_succ, h n (by omega), if_neg (by decide), idxs_low fun i hi => h i (by omega)]
theorem above_less (l : List Nd) (i : Nat) (hi : i ≤ l.length) : aboveI l i < i := by
  have h3 := above_lt (d := (l.getD i n0).depth) (l.take i).reverse
  rw [List.length_reverse, List.length_take] at h3
  exact Int.lt_of_lt_of_le h3 (by omega)
theorem sib_kids (h : Bok l) (hn : n < l.length) : ∀ {q : Nat}, n < q → q ≤ l.length → aboveR ((l.getD n b0).nd.depth + 1) ((nds l).take q).reverse = (n : Int) → sib ((l.getD n b0).nd.depth + 1) ((nds l).take q).reverse = ((idxs (kidP l n) q).length, (idxs (kidP l n) q).getLast?.map fun k => (l.getD k b0).nd.name)
  | 0, h1, _, _ => absurd h1 (Nat.not_lt_zero _)
  | q + 1, h1, h2, h3 => by
    have hti : (nds l).length = l.length := List.length_map ..
    rw [take_rev (by omega)] at h3 ⊢
    rw [nds_getD] at h3 ⊢
    rw [aboveR] at h3
    rw [sib]
    by_cases e : n = q
    · subst e
      rw [if_pos (by omega)]
      have h0 : idxs (kidP l n) (n + 1) = [] := idxs_low fun i hi => decide_eq_false fun e => by
        have := above_less (nds l) i (by omega)
        omega
      rw [h0]
      rfl
    have hlen : ((nds l).take q).reverse.length = q := by rw [List.length_reverse, List.length_take]; omega
    by_cases c : (l.getD q b0).nd.depth < (l.getD n b0).nd.depth + 1
    · rw [if_pos c, hlen] at h3
      omega
    rw [if_neg c] at h3
    rw [if_neg c, sib_kids h hn (by omega) (by omega) h3, idxs_succ]
    by_cases d : (l.getD q b0).nd.depth = (l.getD n b0).nd.depth + 1
    · have : aboveI (nds l) q = n := by unfold aboveI; rw [nds_getD, d]; exact h3
      rw [if_pos d, show kidP l n q = true from decide_eq_true this, if_pos rfl]
      rw [List.length_append, List.getLast?_append]
      rfl
    · have : aboveI (nds l) q ≠ n := fun e => d (kid_at h (kid_iff.2 ⟨by omega, e⟩)).2.2.1
      rw [if_neg d, show kidP l n q = false from decide_eq_false this, if_neg (by decide)]
theorem idxs_pre (p : Nat → Bool) {q : Nat} : ∀ {m : Nat}, q ≤ m → idxs p q <+: idxs p m
  | 0, h => by obtain rfl : q = 0 := by omega
               exact List.prefix_refl _
  | m + 1, h => by
    rcases Nat.lt_or_ge q (m + 1) with h1 | h1
    · refine (idxs_pre p (q := q) (m := m) (by omega)).trans ?_
      rw [idxs_succ]
      split
      · exact List.prefix_append _ _
      · exact List.prefix_refl _
    · obtain rfl : q = m + 1 := by omega
      exact List.prefix_refl _
theorem idxs_upto {p : Nat → Bool} {n m : Nat} (h : m < (idxs p n).length) : idxs p ((idxs p n).getD m 0) = (idxs p n).take m := by
  have hm : (idxs p n)[m] ∈ idxs p n := List.getElem_mem h
  have hg : (idxs p n).getD m 0 = (idxs p n)[m] := by rw [List.getD_eq_getElem?_getD, List.getElem?_eq_getElem h]; rfl
  rw [hg]
  obtain ⟨h1, h2⟩ := idxs_mem.1 hm
  generalize e : (idxs p n)[m] = j at *
  have h3 : idxs p (j + 1) <+: idxs p n := idxs_pre p h1
  rw [idxs_succ, if_pos h2] at h3
  obtain ⟨r, hr⟩ := h3
  have h4 : (idxs p n)[(idxs p j).length]? = some j := by
    rw [← hr, List.append_assoc, List.getElem?_append_right (Nat.le_refl _)]
    simp
  have h5 : (idxs p n).Nodup := List.Pairwise.filter _ List.nodup_range
  have h6 : (idxs p j).length < (idxs p n).length := (List.getElem?_eq_some_iff.1 h4).1
  have h7 : (idxs p j).length = m := by
    rw [List.getElem?_eq_getElem h6] at h4
    have h8 : (idxs p n)[(idxs p j).length] = (idxs p n)[m] := by rw [e]; exact Option.some.inj h4
    rcases Nat.lt_trichotomy (idxs p j).length m with k | k | k
    · exact absurd h8 (List.pairwise_iff_getElem.1 h5 _ _ h6 h k)
    · exact k
    · exact absurd h8.symm (List.pairwise_iff_getElem.1 h5 _ _ h h6 k)
  rw [← hr, ← h7, List.append_assoc, List.take_left]
theorem kids_idxs (l : List Bn) (n : Nat) : kidsL l n = idxs (kidP l n) l.length := rfl
theorem kid_place (h : Bok l) {m : Nat} (hm : m < (kidsL l n).length) : m < 24 ∧ pnameE (l.getD ((kidsL l n).getD m 0) b0).nd.name = 0 ∧ (0 < m → ltS (l.getD ((kidsL l n).getD (m - 1) 0) b0).nd.name (l.getD ((kidsL l n).getD m 0) b0).nd.name = true) := by
  have hti : (nds l).length = l.length := List.length_map ..
  have hmem : (kidsL l n).getD m 0 ∈ kidsL l n := by
    rw [List.getD_eq_getElem?_getD, List.getElem?_eq_getElem hm]
    exact List.getElem_mem hm
  obtain ⟨k1, k2, k3, k4⟩ := kid_at h hmem
  have ka := (kid_iff.1 hmem).2
  have hup := idxs_upto (p := kidP l n) (n := l.length) (m := m) hm
  rw [← kids_idxs] at hup
  generalize (kidsL l n).getD m 0 = j at *
  have ha : aboveR ((l.getD n b0).nd.depth + 1) ((nds l).take j).reverse = (n : Int) := by
    rw [← ka]; unfold aboveI; rw [nds_getD, k3]
  have hs := sib_kids h (by omega) k1 (by omega) ha
  rw [hup] at hs
  have hp := (node_zero ((tok_node (bok_tok h)).2.2 j (by omega))).1
  rw [nds_getD] at hp
  obtain ⟨q, rfl⟩ : ∃ q, j = q + 1 := ⟨j - 1, by omega⟩
  rw [take_rev (by omega)] at hp hs
  obtain ⟨p1, p2, p3⟩ := place_zero hp
  obtain ⟨p4, p5, p6, p7⟩ := place_more hp
  rw [k3, hs] at p3 p6
  have hl : ((kidsL l n).take m).length = m := by rw [List.length_take]; omega
  rw [hl] at p3
  refine ⟨p3, p5, fun h0 => ?_⟩
  refine p6 _ ?_
  have : ((kidsL l n).take m).getLast? = some ((kidsL l n).getD (m - 1) 0) := by
    rw [List.getLast?_eq_getElem?, hl, List.getElem?_take_of_lt (by omega), List.getD_eq_getElem?_getD, List.getElem?_eq_getElem (by omega)]
    rfl
  dsimp only
  rw [this]
  rfl
theorem kids_24 (h : Bok l) : (kidsL l n).length ≤ 24 := by
  by_cases c : (kidsL l n).length ≤ 24
  · exact c
  · have := (kid_place h (n := n) (m := 24) (by omega)).1
    omega
theorem range_map (l : List Bn) : (List.range l.length).map (fun i => l.getD i b0) = l := by
  refine List.ext_getElem (by simp) fun i h1 h2 => ?_
  rw [List.getElem_map, List.getElem_range, getD_b h2]
end
end Go.Proofs.Ythhpofehcnjmmaa.Br
set_option linter.unusedSimpArgs false
set_option linter.unusedVariables false
namespace Go.Proofs.Ythhpofehcnjmmaa.Br
open At
section
variable {l : List Bn} {n : Nat}
def cntD (b : List Bn) : Nat := b.countP fun x => decide (x.nd.kind = 1)
theorem putEs_cnt {rec : Bn → List Di × List Bn → Mk} (hr : ∀ x s, (rec x s).2 = 0 → cntD (rec x s).1.2 + (rec x s).1.1.length = cntD s.2 + s.1.length) {d : Int} : ∀ (es : List En) (s : List Di × List Bn), (putEs rec d es s).2 = 0 → cntD (putEs rec d es s).1.2 + (putEs rec d es s).1.1.length = cntD s.2 + s.1.length
  | [], s, _ => rfl
  | x :: r, s, h => by
    rw [putEs] at h ⊢
    by_cases c : (rec (bnOf d x) s).2 ≠ 0
    · rw [if_pos c] at h; exact absurd h c
    · rw [if_neg c] at h ⊢
      rw [putEs_cnt hr r _ h]
      exact hr _ _ (Decidable.not_not.1 c)
theorem putF_cnt : ∀ (f : Nat) (x : Bn) (s : List Di × List Bn), (putF f x s).2 = 0 → cntD (putF f x s).1.2 + (putF f x s).1.1.length = cntD s.2 + s.1.length
  | 0, x, s, h => absurd h (by show ¬ ((6 : Int) = 0); decide)
  | f + 1, x, (ds, b), h => by
    rw [putF] at h ⊢
    by_cases hk : x.nd.kind = 1
    · rw [if_pos hk] at h ⊢
      cases ds with
      | nil => exact absurd h (by show ¬ ((6 : Int) = 0); decide)
      | cons d r =>
        dsimp only at h ⊢
        by_cases c : 120 ≤ b.length ∨ 8 < x.nd.depth
        · rw [if_pos c] at h; exact absurd h (by show ¬ ((3 : Int) = 0); decide)
        · rw [if_neg c] at h ⊢
          rw [putEs_cnt (putF_cnt f) _ _ h]
          unfold cntD
          rw [List.countP_append, List.length_cons]
          have : List.countP (fun x => decide (x.nd.kind = 1)) [bnDir x d] = 1 := by
            rw [List.countP_cons_of_pos (by exact decide_eq_true hk)]; rfl
          dsimp only
          omega
    · rw [if_neg hk] at h ⊢
      by_cases c : 120 ≤ b.length ∨ 8 < x.nd.depth
      · rw [if_pos c] at h; exact absurd h (by show ¬ ((3 : Int) = 0); decide)
      · rw [if_neg c]
        unfold cntD
        rw [List.countP_append]
        have : List.countP (fun x => decide (x.nd.kind = 1)) [x] = 0 := by
          rw [List.countP_cons_of_neg (by simpa using hk)]; rfl
        dsimp only
        omega
theorem dirs_cnt (b : List Bn) : (dirsL b).length = cntD b := by
  unfold dirsL idxs cntD
  rw [← List.countP_eq_length_filter]
  conv => rhs; arg 2; rw [← range_map b]
  rw [List.countP_map]
  rfl
theorem put_dirs {ds : List Di} (h : (putI ds).2 = 0) (h1 : (putI ds).1.1 = []) : (dirsL (putI ds).1.2).length = ds.length := by
  have := putF_cnt (ds.length + 1) rootB (ds, []) h
  rw [dirs_cnt]
  show cntD (putF (ds.length + 1) rootB (ds, [])).1.2 = ds.length
  have h2 : (putF (ds.length + 1) rootB (ds, [])).1.1 = [] := h1
  rw [h2] at this
  simpa [cntD] using this
end
end Go.Proofs.Ythhpofehcnjmmaa.Br
