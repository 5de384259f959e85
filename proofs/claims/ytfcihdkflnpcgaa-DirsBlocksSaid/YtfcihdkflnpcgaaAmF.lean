/- The abstract machine: contracts, calls, returns; regions that draw their order. No program is named. -/
import Derived.Test.YtfcihdkflnpcgaaAmE
import Derived.OrdersHeld
namespace Go.Proofs.Ytfcihdkflnpcgaa.Am
open Go.RowKit Lw

/-- What a call leaves. -/
structure After {ι : Type} (takes : List Chunk) (m : Nat) (pre : ι → Prop) (res : ι → AV) (gives : ι → List Chunk) (S : Nat → Prop) (ν : Nat → Value) (w : World) (e : Ending) (w' : World) (x : ι) (S' : Nat → Prop) (ν' : Nat → Value) (u : Value) : Prop where
  e : e = .returned u
  pre : pre x
  res : (res x).rel w' S' ν' u
  fr : Fr (fun b => b ∈ blks ν takes) w w'
  fix : ∀ i, i < m → ν' i = ν i
  sub : ∀ b, S b → S' b
  imm : ∀ b, S' b → b < w'.heap.size ∧ (S b ∨ w.heap.size ≤ b ∨ b ∈ blks ν takes)
  give : ∀ c ∈ gives x, c.holds w' S' ν'
  nd : (blks ν' (gives x)).Nodup
  blk : ∀ b ∈ blks ν' (gives x), b < w'.heap.size ∧ ¬ S' b ∧ (b ∈ blks ν takes ∨ w.heap.size ≤ b)

/-- A contract of a function: called with args, and the chunks takes, it returns res x with the chunks gives x, for some x. -/
structure Con (P : Program) (f : FuncId) (args : List AV) (takes : List Chunk) (m M : Nat) {ι : Type} (pre : ι → Prop) (res : ι → AV) (gives : ι → List Chunk) : Prop where
  fn : ∃ fn, P.funcs[f]? = some fn ∧ (fn.name == "runtime.NumGoroutine") = false ∧ fn.body.isNone = false
  wfT : allB (Chunk.ltB m) takes = true
  le : m ≤ M
  wf : ∀ x, (res x).ltB M = true ∧ allB (Chunk.ltB M) (gives x) = true
  call : ∀ (w : World) (S : Nat → Prop) (ν : Nat → Value) (vs : List Value), All2 (AV.rel w S ν) args vs → (∀ c ∈ takes, c.holds w S ν) → (blks ν takes).Nodup → (∀ b ∈ blks ν takes, b < w.heap.size ∧ ¬ S b) → (∀ b, S b → b < w.heap.size) →
    Calls P f vs.toArray w fun e w' => ∃ x S' ν' u, After takes m pre res gives S ν w e w' x S' ν' u

def aops (st : AS) : List Operand → Option (List AV)
  | [] => some []
  | x :: xs => match aop st x, aops st xs with
    | some v, some r => some (v :: r)
    | _, _ => none
def capV : List (Nat × Nat) → List AV
  | [] => []
  | (id, off) :: r => .o (.ptr id off) :: capV r
def acallee (st : AS) : Callee → Option (FuncId × List AV)
  | .value x => match aop st x with
    | some (.o (.c (.func (.func f) first caps))) => match first.toList, caps.toList with
      | [], [] => some (f, [])
      | _, _ => none
    | some (.o (.clo f caps)) => some (f, capV caps)
    | _ => none
  | _ => none
def TakeH : List Chunk → List Chunk → List Chunk → Prop
  | hp, [], rest => hp = rest
  | hp, c' :: r, rest => ∃ i c, hp[i]? = some c ∧ LeC c c' ∧ TakeH (hp.eraseIdx i) r rest
def renC (g : Nat → Nat) (m nid : Nat) (i : Nat) : Nat := match Nat.blt i m with
  | true => g i
  | false => nid + (i - m)
/-- The state behind a call. -/
def AS.called (st : AS) (rest : List Chunk) (g : Nat → Nat) (m M : Nat) (dst : Option Tmp) (res : AV) (gives : List Chunk) : AS :=
  (AS.mk st.env (gives.map (Chunk.ren (renC g m st.nid)) ++ rest) (st.nid + (M - m))).put dst (res.ren (renC g m st.nid))

section
variable {F : Fence} {P : Program} {T : Tys} {X : Cx} {st st' : AS} {Q : Exit → Act → World → Prop} {ops : Array Oper} {R : Act → World → Prop} {K : Nat → Bool}

theorem aops_ok {S : Nat → Prop} {ν : Nat → Value} {a : Act} {w : World} (sat : Sat X S ν st a w) : ∀ {xs : List Operand} {vs : List AV}, aops st xs = some vs → All2 (AV.rel w S ν) vs (xs.map a.eval)
  | [], vs, h => by cases h; exact trivial
  | x :: xs, vs, h => by
    simp only [aops] at h
    split at h
    · rename_i v r h1 h2
      cases h
      exact ⟨(aop_ok sat h1).1, aops_ok sat h2⟩
    · cases h
theorem capV_ok {w : World} {S : Nat → Prop} {ν : Nat → Value} : ∀ {caps : List (Nat × Nat)} {us : List Value}, All2 (ptrRel ν) caps us → All2 (AV.rel w S ν) (capV caps) us
  | [], us, h => by
    cases us with
    | nil => exact trivial
    | cons u us => exact h.elim
  | (id, off) :: r, us, h => by
    cases us with
    | nil => exact h.elim
    | cons u us => exact ⟨h.1, capV_ok h.2⟩
theorem TakeH.spec {S : Nat → Prop} {ν : Nat → Value} {w : World} : ∀ {tk hp rest : List Chunk}, TakeH hp tk rest → (∀ c ∈ hp, c.holds w S ν) → ∃ tk', hp.Perm (tk' ++ rest) ∧ All2 LeC tk' tk ∧ (∀ c ∈ tk, c.holds w S ν) ∧ blks ν tk' = blks ν tk
  | [], hp, rest, h, _ => ⟨[], by rw [show hp = rest from h]; exact .refl _, trivial, (fun c hc => nomatch hc), rfl⟩
  | c' :: r, hp, rest, ⟨i, c, hi, hle, hsub⟩, hh => by
    have hmem : c ∈ hp := List.mem_of_getElem? hi
    obtain ⟨hlt, hget⟩ := List.getElem?_eq_some_iff.1 hi
    have hperm : hp.Perm (c :: hp.eraseIdx i) := by rw [← hget]; exact perm_erase hp i hlt
    obtain ⟨tk', h1, h2, h3, h4⟩ := TakeH.spec hsub fun x hx => hh x ((List.eraseIdx_sublist ..).subset hx)
    obtain ⟨h5, h6⟩ := hle.holds (hh c hmem)
    refine ⟨c :: tk', hperm.trans (h1.cons c), ⟨hle, h2⟩, fun x hx => ?_, ?_⟩
    · rcases List.mem_cons.1 hx with rfl | hx
      · exact h5
      · exact h3 x hx
    · unfold blks at *
      rw [List.filterMap_cons, List.filterMap_cons, h4, h6]
theorem LeC.id {c c' : Chunk} (h : LeC c c') : c.id = c'.id := by
  cases c <;> cases c' <;> first | exact h.1 | exact h.elim
theorem All2.mem_left {α β : Type} {R : α → β → Prop} : ∀ {as : List α} {bs : List β} {a : α}, All2 R as bs → a ∈ as → ∃ b ∈ bs, R a b
  | _ :: as, _ :: bs, a, ⟨h1, h2⟩, h => by
    rcases List.mem_cons.1 h with rfl | h
    · exact ⟨_, List.mem_cons_self .., h1⟩
    · obtain ⟨b, hb, r⟩ := All2.mem_left (as := as) (bs := bs) h2 h
      exact ⟨b, List.mem_cons_of_mem _ hb, r⟩
  | [], [], _, _, h => by cases h
  | [], _ :: _, _, h, _ => h.elim
  | _ :: _, [], _, h, _ => h.elim
theorem acallee_ok {S : Nat → Prop} {ν : Nat → Value} {a : Act} {w : World} (sat : Sat X S ν st a w) {ce : Callee} {f : FuncId} {caps : List AV} (h : acallee st ce = some (f, caps)) :
    ∃ x us, ce = .value x ∧ a.eval x = .func (.func f) #[] us.toArray ∧ All2 (AV.rel w S ν) caps us := by
  unfold acallee at h
  split at h
  · rename_i x
    split at h
    · rename_i f' first cps hx
      split at h
      · rename_i h1 h2
        cases h
        have e1 : first = #[] := by rw [← Array.toList_inj]; exact h1
        have e2 : cps = #[] := by rw [← Array.toList_inj]; exact h2
        exact ⟨x, [], rfl, by rw [show a.eval x = _ from (aop_ok sat hx).1.1, e1, e2], trivial⟩
      · cases h
    · rename_i f' cps hx
      cases h
      obtain ⟨us, h1, h2⟩ := (aop_ok sat hx).1
      exact ⟨x, us, rfl, h1, capV_ok h2⟩
    · cases h
  · cases h

theorem renC_lt {g : Nat → Nat} {m nid i : Nat} (h : i < m) : renC g m nid i = g i := by
  have : Nat.blt i m = true := Nat.ble_eq_true_of_le h
  simp [renC, this]
theorem renC_ge {g : Nat → Nat} {m nid i : Nat} (h : m ≤ i) : renC g m nid i = nid + (i - m) := by
  have : Nat.blt i m = false := by
    cases hq : Nat.blt i m with
    | false => rfl
    | true => have := blt_lt hq; omega
  simp [renC, this]
theorem A1.ren_lt {f : Nat → Nat} {m n : Nat} (hf : ∀ i, i < m → f i < n) {a : A1} (h : a.lt m) : (a.ren f).lt n := by
  cases a with
  | own id => exact hf _ h
  | ptr id off => exact hf _ h
  | optr id sz k off => exact hf _ h
  | vw id sz off n k => exact hf _ h
  | clo g caps =>
    intro p hp
    obtain ⟨q, hq, rfl⟩ := List.mem_map.1 hp
    exact hf _ (h q hq)
  | _ => exact trivial
theorem AV.ren_lt {f : Nat → Nat} {m n : Nat} (hf : ∀ i, i < m → f i < n) {x : AV} (h : x.lt m) : (x.ren f).lt n := by
  cases x with
  | o a => exact A1.ren_lt hf h
  | g as =>
    intro a ha
    obtain ⟨b, hb, rfl⟩ := List.mem_map.1 ha
    exact A1.ren_lt hf (h b hb)
  | t xs =>
    intro y hy
    obtain ⟨z, hz, rfl⟩ := List.mem_map.1 hy
    have := h z hz
    cases z with
    | inl a => exact A1.ren_lt hf this
    | inr as =>
      intro a ha
      obtain ⟨b, hb, rfl⟩ := List.mem_map.1 ha
      exact A1.ren_lt hf (this b hb)
theorem Chunk.ren_lt {f : Nat → Nat} {m n : Nat} (hf : ∀ i, i < m → f i < n) {c : Chunk} (h : c.lt m) : (c.ren f).lt n := by
  cases c with
  | own id E sz ct => exact hf _ h
  | obj id ob => exact hf _ h
  | nest id E ct j => exact ⟨hf _ h.1, hf _ h.2⟩
  | box id T cells =>
    refine ⟨hf _ h.1, fun a ha => ?_⟩
    obtain ⟨b, hb, rfl⟩ := List.mem_map.1 ha
    exact A1.ren_lt hf (h.2 b hb)

/-- A call by a contract. -/
theorem call_step {ι : Type} {f : FuncId} {args : List AV} {takes : List Chunk} {m M : Nat} {pre : ι → Prop} {res : ι → AV} {gives : ι → List Chunk} (hcon : Con P f args takes m M pre res gives) {o : Oper} {c : Call} (ho : o.op = .call c)
    {caps vs : List AV} {rest : List Chunk} (g : Nat → Nat) (hc : acallee st c.callee = some (f, caps)) (hx : aops st c.args.toList = some vs) (hargs : All2 LeV (vs ++ caps) (args.map (AV.ren g))) (ht : TakeH st.hp (takes.map (Chunk.ren g)) rest)
    (hK : ∀ c ∈ takes, K (g c.id) = false) (hg : ∀ i, i < m → g i < st.nid) : StepTo P K o st (fun s => ∃ x, pre x ∧ s = st.called rest g m M o.dst (res x) (gives x)) := by
  intro X S ν a w Q K' hd sat hk
  obtain ⟨xf, us, e1, e2, e3⟩ := acallee_ok sat hc
  have hvs := aops_ok sat hx
  obtain ⟨tk', t1, t2, t3, t4⟩ := TakeH.spec ht sat.hp
  have hb4 : blks ν tk' = blks (fun i => ν (g i)) takes := by rw [t4, blks_ren]
  have hnd : (blks ν tk' ++ blks ν rest).Nodup := by
    have := (blks_perm (ν := ν) t1).nodup_iff.1 sat.nd
    rw [blks_append] at this; exact this
  have hargs' : All2 (AV.rel w S fun i => ν (g i)) args (c.args.toList.map a.eval ++ us) := by
    have h1 : All2 (AV.rel w S ν) (args.map (AV.ren g)) (c.args.toList.map a.eval ++ us) :=
      All2.comp (R := fun (v : AV) v' => LeV v v') (R2 := AV.rel w S ν) (fun p q r h h' => h _ _ _ r h') hargs (All2.append hvs e3)
    exact (All2.map_iff fun x u => AV.rel_ren x u).1 h1
  have hcall := hcon.call w S (fun i => ν (g i)) _ hargs' (fun c hc => (Chunk.holds_ren c).1 (t3 _ (List.mem_map.2 ⟨c, hc, rfl⟩))) (by rw [← hb4]; exact (List.nodup_append.1 hnd).1)
    (fun b hb => by
      rw [← hb4] at hb
      obtain ⟨ch, hch, e⟩ := mem_blks.1 hb
      have := sat.blk b (mem_blks.2 ⟨ch, t1.symm.subset (List.mem_append_left _ hch), e⟩)
      exact ⟨this.1, this.2.1⟩) (fun b hb => (sat.imm b hb).1)
  obtain ⟨fn, f1, f2, f3⟩ := hcon.fn
  have hrun : (execOp a.eval o).run P w = .ok (.enter f (c.args.toList.map a.eval ++ us).toArray) w := by
    unfold execOp
    rw [ho]
    have harr : #[] ++ c.args.map a.eval ++ us.toArray = (c.args.toList.map a.eval ++ us).toArray := by
      rw [← Array.toList_inj]; simp
    simp only [resolve, e1, Deferred.ofValue, e2, Sem.run_bind, Sem.run_pure, Result.andThen_ok, invoke, harr]
    exact callFunc_body f1 f2 f3 _ w
  unfold Oper.wp
  rw [hrun, Oper.upon_enter]
  refine hcall.mono ?_
  rintro e w' ⟨x, S', ν', u, ha⟩
  obtain ⟨rfl, h2, h3, h4, h5, h6, h7, h8, h9, h10⟩ := ha
  show K' (a.put o.dst u) w'
  obtain ⟨wf1, wf2⟩ := hcon.wf x
  have lt1 := AV.ltB_ok wf1
  have lt2 : ∀ c ∈ gives x, c.lt M := fun c hc => Chunk.ltB_ok (allB_ok wf2 c hc)
  have hle := hcon.le
  have hνn : ∀ i, i < M → (fun j => if j < st.nid then ν j else ν' (j - st.nid + m)) (renC g m st.nid i) = ν' i := by
    intro i hi
    by_cases h : i < m
    · rw [renC_lt h]; show (if g i < st.nid then _ else _) = _; rw [if_pos (hg i h)]; exact (h5 i h).symm
    · rw [renC_ge (by omega)]
      show (if st.nid + (i - m) < st.nid then _ else _) = _
      rw [if_neg (by omega)]; congr 1; omega
  have hrl : ∀ i, i < M → renC g m st.nid i < st.nid + (M - m) := by
    intro i hi
    by_cases h : i < m
    · rw [renC_lt h]; have := hg i h; omega
    · rw [renC_ge (by omega)]; omega
  have hbg : blks (fun j => if j < st.nid then ν j else ν' (j - st.nid + m)) ((gives x).map (Chunk.ren (renC g m st.nid))) = blks ν' (gives x) := by
    rw [blks_ren]
    exact blks_eq (m := M) hνn lt2
  obtain ⟨s1, s2⟩ := swap_kp (K := K) (takes := tk') (gives := (gives x).map (Chunk.ren (renC g m st.nid))) (rest := rest) (nid := st.nid + (M - m)) (ν' := fun j => if j < st.nid then ν j else ν' (j - st.nid + m)) (S' := S') (w' := w') (o := o) (av := (res x).ren (renC g m st.nid)) (u := u) hd sat t1
    (fun ch hch => by
      obtain ⟨c', hc', hle'⟩ := All2.mem_left t2 hch
      obtain ⟨c0, hc0, rfl⟩ := List.mem_map.1 hc'
      rw [hle'.id]
      have : (c0.ren g).id = g c0.id := by cases c0 <;> rfl
      rw [this]; exact hK c0 hc0)
    (by rw [hb4]; exact h4) (fun i hi => if_pos hi) h6 (by rw [hb4]; exact h7)
    (fun ch hch => by
      obtain ⟨c0, hc0, rfl⟩ := List.mem_map.1 hch
      refine (Chunk.holds_ren c0).2 ?_
      exact Chunk.mono (Gr.refl w' S') hνn (lt2 c0 hc0) (fun _ _ => rfl) (h8 c0 hc0))
    (by rw [hbg]; exact h9) (fun b hb => by rw [hbg] at hb; rw [hb4]; exact h10 b hb)
    (fun ch hch => by
      obtain ⟨c0, hc0, rfl⟩ := List.mem_map.1 hch
      exact Chunk.ren_lt hrl (lt2 c0 hc0)) (by omega)
    ((AV.rel_ren _ _).2 (AV.mono (Gr.refl w' S') hνn lt1 h3)) (AV.ren_lt hrl lt1)
  exact hk _ _ _ _ _ ⟨x, h2, rfl⟩ s1 s2

theorem TE.call [Free F] {ι : Type} {f : FuncId} {args : List AV} {takes : List Chunk} {m M : Nat} {pre : ι → Prop} {res : ι → AV} {gives : ι → List Chunk} (hcon : Con P f args takes m M pre res gives) {l : List Oper} {o : Oper} {c : Call} {rest : List Oper} {N : Nat} (hN : X.N = N) (hd : dstOk N o = true) (hgd : aguard l st o = some true) (ho : o.op = .call c)
    {caps vs : List AV} {hrest : List Chunk} (g : Nat → Nat) (hc : acallee st c.callee = some (f, caps)) (hx : aops st c.args.toList = some vs) (hargs : All2 LeV (vs ++ caps) (args.map (AV.ren g))) (ht : TakeH st.hp (takes.map (Chunk.ren g)) hrest)
    (hg : ∀ i, i < m → g i < st.nid) (hk : ∀ x, pre x → TE X (wpListIn F 0 P l.toArray Q rest) (st.called hrest g m M o.dst (res x) (gives x))) : TE X (wpListIn F 0 P l.toArray Q (o :: rest)) st :=
  TE.step hN hd hgd (fun c' hc' => by rw [ho] at hc'; cases hc') (call_step hcon ho g hc hx hargs ht (fun _ _ => rfl) hg) fun s ⟨x, hx, e⟩ => e ▸ hk x hx

/-! ### Returning -/
def ares (T : Tys) (st : AS) : List ResultVar → Option (List AV)
  | [] => some []
  | .tmp t :: r => match look st.env t, ares T st r with
    | some v, some q => some (v :: q)
    | _, _ => none
  | .cell t ty :: r => match look st.env t, tlook T ty, ares T st r with
    | some (.o (.ptr id off)), some ti, some q => match findBox (fun _ => true) st.hp id with
      | some (_, cells) => match part1 cells off ti with
        | some v => some (v :: q)
        | none => none
      | none => none
    | _, _, _ => none
def resOne (tmps : Array Value) : ResultVar → Sem Value
  | .tmp t => pure (tmps.getD t undef)
  | .cell a t => do loadVar t (← asAddr (tmps.getD a undef))
def toSum : AV → Option (Sum A1 (List A1))
  | .o a => some (.inl a)
  | .g as => some (.inr as)
  | .t _ => none
def toSums : List AV → Option (List (Sum A1 (List A1)))
  | [] => some []
  | v :: vs => match toSum v, toSums vs with
    | some x, some r => some (x :: r)
    | _, _ => none
def retV : List AV → Option AV
  | [v] => some v
  | vs => match toSums vs with
    | some xs => some (.t xs)
    | none => none
/-- What a call's end is asked. -/
def RetR {ι : Type} (X : Cx) (takes : List Chunk) (pre : ι → Prop) (res : ι → AV) (gives : ι → List Chunk) (e : Ending) (w' : World) : Prop := ∃ x S' ν' u, After takes X.m pre res gives X.S0 X.ν0 X.w0 e w' x S' ν' u

theorem run_results (tmps : Array Value) {w : World} : ∀ {l : List ResultVar} {vs : List Value}, All2 (fun r v => (resOne tmps r).run P w = .ok v w) l vs → (l.mapM (resOne tmps)).run P w = .ok vs w
  | [], vs, h => by
    cases vs with
    | nil => rfl
    | cons v vs => exact h.elim
  | r :: l, vs, h => by
    cases vs with
    | nil => exact h.elim
    | cons v vs =>
      obtain ⟨hv, h⟩ := h
      rw [List.mapM_cons]
      simp only [Sem.run_bind, Sem.run_pure, Result.andThen_ok, run_results tmps h, hv]

theorem ares_ok (hT : T.Ok P) {S : Nat → Prop} {ν : Nat → Value} {a : Act} {w : World} (sat : Sat X S ν st a w) : ∀ {rs : List ResultVar} {vs : List AV}, ares T st rs = some vs → ∃ us, All2 (fun r v => (resOne a.tmps r).run P w = .ok v w) rs us ∧ All2 (AV.rel w S ν) vs us
  | [], vs, h => by cases h; exact ⟨[], trivial, trivial⟩
  | .tmp t :: r, vs, h => by
    simp only [ares] at h
    split at h
    · rename_i v q h1 h2
      cases h
      obtain ⟨us, i1, i2⟩ := ares_ok hT sat h2
      exact ⟨_ :: us, ⟨rfl, i1⟩, ⟨(sat.env _ (look_mem h1)).2, i2⟩⟩
    · cases h
  | .cell t ty :: r, vs, h => by
    simp only [ares] at h
    split at h
    · rename_i id off ti q h1 h2 h3
      split at h
      · rename_i Tb cells hb
        split at h
        · rename_i v hv
          cases h
          obtain ⟨us, i1, i2⟩ := ares_ok hT sat h3
          obtain ⟨b, bs, e1, _, e2, e3, e4, _⟩ := box_of sat hb (sat.env _ (look_mem h1)).2
          obtain ⟨u, l1, l2, l3⟩ := load_box (P := P) hT h2 hv e2 e3 e4
          have := l3 w rfl
          refine ⟨u :: us, ⟨?_, i1⟩, ⟨l1, i2⟩⟩
          simp only [resOne, e1, asAddr, Sem.run_bind, Sem.run_pure, Result.andThen_ok]
          simpa only [Instr.loadAt, Instr.sureAddr, Sem.run_bind, Sem.run_pure, Result.andThen_ok] using this
        · cases h
      · cases h
    · cases h
theorem toSums_ok {w : World} {S : Nat → Prop} {ν : Nat → Value} : ∀ {vs : List AV} {xs : List (Sum A1 (List A1))} {us : List Value}, toSums vs = some xs → All2 (AV.rel w S ν) vs us → All2 (sumRel w S ν) xs us
  | [], xs, us, h, hr => by
    cases us with
    | nil => cases h; exact trivial
    | cons u us => exact hr.elim
  | v :: vs, xs, us, h, hr => by
    cases us with
    | nil => exact hr.elim
    | cons u us =>
      simp only [toSums] at h
      split at h
      · rename_i x r h1 h2
        cases h
        refine ⟨?_, toSums_ok h2 hr.2⟩
        cases v with
        | o a => cases h1; exact hr.1
        | g as => cases h1; exact hr.1
        | t xs => cases h1
      · cases h
theorem retV_ok {w : World} {S : Nat → Prop} {ν : Nat → Value} {vs : List AV} {rv : AV} {us : List Value} (h : retV vs = some rv) (hr : All2 (AV.rel w S ν) vs us) : rv.rel w S ν (if h : us.toArray.size = 1 then us.toArray[0] else .tuple us.toArray) := by
  have hl := hr.length
  unfold retV at h
  split at h
  · rename_i v
    cases h
    cases us with
    | nil => exact hr.elim
    | cons u us =>
      cases us with
      | nil => exact hr.1
      | cons u' us => exact hr.2.elim
  · rename_i hne
    split at h
    · rename_i xs hx
      cases h
      rw [dif_neg ?_]
      · exact ⟨us, rfl, toSums_ok hx hr⟩
      · intro h1
        have h1 : us.length = 1 := by simpa using h1
        rw [h1] at hl
        obtain ⟨v, rfl⟩ := List.length_eq_one_iff.1 hl
        exact hne v rfl
    · cases h

/-- What a function's body must achieve. -/
def postR (P : Program) (fn : Func) (R : Ending → World → Prop) : Exit → Act → World → Prop
  | .normal, a, w | .ret, a, w => LeavesInM Fence.wide 0 P fn a.tmps R a.defers .returning w
  | _, _, _ => False
theorem postR_M {fn : Func} {R : Ending → World → Prop} {e : Exit} {a : Act} {w : World} (h : postR P fn R e a w) : bodyPostM Fence.wide 0 P fn R e a w := by
  cases e <;> first | exact h | exact h.elim
/-- A mark's block is shut. -/
theorem Sat.shut {S : Nat → Prop} {ν : Nat → Value} {a : Act} {w : World} (h : Sat X S ν st a w) {d : Deferred} {ds : List Deferred} (hd : a.defers = d :: ds) :
    ∃ D, d.target = .collected D ∧ (Instr.takeDeferred D).run P w = .ok [] (w.putObj D (.deferred none)) ∧ Sat X S ν st { a with defers := ds } (w.putObj D (.deferred none)) := by
  obtain ⟨h1, h2, hmk⟩ := h.defers
  rw [hd] at h1 h2
  obtain ⟨D, rfl, e1, e2, e3, e4⟩ := h1 d (List.mem_cons_self ..)
  obtain ⟨n1, n2⟩ := List.nodup_cons.1 h2
  refine ⟨D, rfl, run_takeDeferred e1, ?_⟩
  have gr : Gr w (w.putObj D (.deferred none)) S S := ⟨by simp, fun b hb _ => World.putObj_heap_other fun e => e3 (e ▸ hb), fun _ h => h⟩
  refine ⟨⟨fun d' hd' => ?_, n2, fun e => by have := hmk e; rw [hd] at this; cases this⟩, h.size, fun p hp => ⟨(h.env p hp).1, AV.mono gr (fun _ _ => rfl) (h.elt p hp) (h.env p hp).2⟩, fun c hc => Chunk.mono gr (fun _ _ => rfl) (h.hlt c hc) (fun b hb => World.putObj_heap_other fun e => e4 (mem_blks.2 ⟨c, hc, e ▸ hb⟩)) (h.hp c hc), h.nd, fun b hb => ?_, fun b hb => ?_, h.imm0, ?_, h.elt, h.hlt, h.fix, h.ge⟩
  · obtain ⟨D', rfl, f1, f2, f3, f4⟩ := h1 d' (List.mem_cons_of_mem _ hd')
    refine ⟨D', rfl, ?_, f2, f3, f4⟩
    rw [World.putObj_heap_other fun (e : D' = D) => n1 (by rw [← e]; exact hd')]; exact f1
  · have := h.blk b hb; rw [World.putObj_size]; exact this
  · have := h.imm b hb; rw [World.putObj_size]; exact this
  · refine ⟨h.frame.os, h.frame.tape, h.frame.output, by rw [World.putObj_size]; exact h.frame.size, fun k hk hB => ?_⟩
    rw [World.putObj_heap_other (by omega)]; exact h.frame.block k hk hB
theorem leaves_of {fn : Func} {R : Ending → World → Prop} {S : Nat → Prop} {ν : Nat → Value} (h : ∀ a w, a.defers = [] → Sat X S ν st a w → ∃ v, (results fn a.tmps).run P w = .ok v w ∧ R (.returned v) w) :
    ∀ (ds : List Deferred) (a : Act) (w : World), a.defers = ds → Sat X S ν st a w → LeavesInM Fence.wide 0 P fn a.tmps R ds .returning w
  | [], a, w, hd, sat => h a w hd sat
  | d :: ds, a, w, hd, sat => by
    obtain ⟨D, h1, h2, h3⟩ := sat.shut (P := P) hd
    exact ⟨by simp, .inl ⟨D, _, h1, h2, leaves_of h ds { a with defers := ds } _ rfl h3⟩⟩

theorem TE.post {ι : Type} {fn : Func} {takes : List Chunk} {pre : ι → Prop} {res : ι → AV} {gives : ι → List Chunk} {e : Exit} (he : e = .normal ∨ e = .ret) (hB : X.B0 = fun b => b ∈ blks X.ν0 takes) (x : ι) (hpre : pre x) (g : Nat → Nat) {rvs : List AV} {rv : AV} (hT : T.Ok P) (hr : ares T st fn.results.toList = some rvs) (hv : retV rvs = some rv)
    (hle : LeV rv ((res x).ren g)) (hg : SubH st.hp ((gives x).map (Chunk.ren g))) (hm : ∀ i, i < X.m → g i = i) : TE X (postR P fn (RetR X takes pre res gives) e) st := by
  intro S ν a w sat
  have key : LeavesInM Fence.wide 0 P fn a.tmps (RetR X takes pre res gives) a.defers .returning w := by
    refine leaves_of (X := X) (st := st) (S := S) (ν := ν) (fun a w _ sat => ?_) a.defers a w rfl sat
    obtain ⟨us, h1, h2⟩ := ares_ok hT sat hr
    obtain ⟨s1, s2, s3⟩ := SubH.spec hg sat.hp sat.nd
    rw [blks_ren] at s2 s3
    have hrun : (results fn a.tmps).run P w = .ok (if h : us.toArray.size = 1 then us.toArray[0] else .tuple us.toArray) w := by
      unfold results
      rw [Array.mapM_eq_mapM_toList]
      have := run_results (P := P) a.tmps h1
      simp only [Sem.run_bind, Sem.run_map, Sem.run_pure]
      exact congrArg (fun r : Result (List Value) => (r.andThen fun a w' => Result.ok a.toArray w').andThen fun a w' => Result.ok (if h : a.size = 1 then a[0] else Value.tuple a) w') this
    refine ⟨_, hrun, x, S, fun i => ν (g i), _, rfl, hpre, ?_, ?_, fun i hi => by rw [hm i hi]; exact sat.fix i hi, sat.imm0, fun b hb => ?_, fun c hc => ?_, s2, fun b hb => ?_⟩
    · exact (AV.rel_ren _ _).1 (hle _ _ _ _ (retV_ok hv h2))
    · have := sat.frame; rw [hB] at this; exact this
    · have := sat.imm b hb; rw [hB] at this; exact this
    · exact (Chunk.holds_ren _).1 (s1 _ (List.mem_map.2 ⟨c, hc, rfl⟩))
    · obtain ⟨b1, b2, b3⟩ := sat.blk b (s3 b hb)
      rw [hB] at b3
      exact ⟨b1, b2, b3.symm⟩
  rcases he with rfl | rfl <;> exact key
end
end Go.Proofs.Ytfcihdkflnpcgaa.Am
