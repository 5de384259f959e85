/- The abstract machine: a function's contract out of its body; regions that draw their order; slices that are given up. No program is named. -/
import Derived.Test.YtfcihdkflnpcgaaAmF
import Derived.OrdersIn
namespace Go.Proofs.Ytfcihdkflnpcgaa.Am
open Go.RowKit Lw

def env0 : Nat → List AV → Env
  | _, [] => []
  | i, v :: vs => (i, v) :: normN (i + 1) fun j => env0 j vs
theorem env0_cons (i : Nat) (v : AV) (vs : List AV) : env0 i (v :: vs) = (i, v) :: env0 (i + 1) vs := by rw [env0, normN_eq]

section
variable {F : Fence} {P : Program} {T : Tys} {X : Cx} {st st' : AS} {Q : Exit → Act → World → Prop} {ops : Array Oper} {R : Act → World → Prop} {K : Nat → Bool}

theorem env0_mem : ∀ {vs : List AV} {i : Nat} {p : Nat × AV}, p ∈ env0 i vs → ∃ k, p.1 = i + k ∧ vs[k]? = some p.2
  | [], i, p, h => by cases h
  | v :: vs, i, p, h => by
    rw [env0_cons] at h
    rcases List.mem_cons.1 h with rfl | h
    · exact ⟨0, rfl, rfl⟩
    · obtain ⟨k, h1, h2⟩ := env0_mem h
      exact ⟨k + 1, by omega, h2⟩

/-- A function's contract out of its body. -/
theorem con_of {N : Nat} {ι : Type} {f : FuncId} {args : List AV} {takes : List Chunk} {m M : Nat} {pre : ι → Prop} {res : ι → AV} {gives : ι → List Chunk} {fn : Func} {c : Code} (hf : P.funcs[f]? = some fn) (hb : fn.body = some c) (hn : (fn.name == "runtime.NumGoroutine") = false)
    (hN : fn.ntmps = N) (hwf : (AS.mk (env0 0 args) takes m).wf N = true) (hle : m ≤ M) (wf : ∀ x, (res x).ltB M = true ∧ allB (Chunk.ltB M) (gives x) = true)
    (h : ∀ w S ν, TE ⟨N, w, fun b => b ∈ blks ν takes, S, ν, m, true⟩ (c.wpIn Fence.wide 0 P (postR P fn (RetR ⟨N, w, fun b => b ∈ blks ν takes, S, ν, m, true⟩ takes pre res gives))) ⟨env0 0 args, takes, m⟩) :
    Con P f args takes m M pre res gives := by
  subst hN
  obtain ⟨wf1, wf2⟩ := AS.wf_ok hwf
  refine ⟨⟨fn, hf, hn, by rw [hb]; rfl⟩, ?_, hle, wf, fun w S ν vs ha ht hnd hbl hS => ?_⟩
  · simp only [AS.wf] at hwf
    split at hwf
    · exact hwf
    · cases hwf
  · refine callsIn_wide.1 (callsIn_of_wp_marks (F := Fence.wide) (n := 0) hf hb trivial (Code.wpIn_mono (fun _ _ _ h => postR_M h) (h w S ν S ν _ w ?_)))
    have hl := ha.length
    have hsz : args.length ≤ fn.ntmps := by
      rcases Nat.eq_zero_or_pos args.length with h0 | h0
      · omega
      · have hlast : ∀ {vs : List AV} {i k : Nat} {v : AV}, vs[k]? = some v → (i + k, v) ∈ env0 i vs := by
          intro vs
          induction vs with
          | nil => intro i k v h; simp at h
          | cons x vs ih =>
            intro i k v h
            rw [env0_cons]
            cases k with
            | zero => cases h; exact List.mem_cons_self ..
            | succ k => have := ih (i := i + 1) (k := k) (by simpa using h); rw [show i + (k + 1) = i + 1 + k by omega]; exact List.mem_cons_of_mem _ this
        have h1 : args[args.length - 1]? = some (args[args.length - 1]'(by omega)) := List.getElem?_eq_getElem _
        have := (wf1 _ (hlast (i := 0) h1)).1
        simp at this; omega
    refine ⟨⟨(fun d hd => nomatch hd), List.nodup_nil, fun _ => rfl⟩, by simp; omega, fun p hp => ⟨(wf1 p hp).1, ?_⟩, ht, hnd, fun b hb' => ⟨(hbl b hb').1, (hbl b hb').2, .inr hb'⟩, fun b hb' => ⟨hS b hb', .inl hb'⟩, fun b hb' => hb', Fr.refl _ _, fun p hp => (wf1 p hp).2, wf2, fun _ _ => rfl, Nat.le_refl _⟩
    obtain ⟨k, h1, h2⟩ := env0_mem hp
    obtain ⟨u, h3, h4⟩ := ha.get h2
    have hk : k < vs.length := (List.getElem?_eq_some_iff.1 h3).1
    have : (vs.toArray ++ Array.replicate (fn.ntmps - vs.toArray.size) undef).getD p.1 undef = u := by
      rw [h1, Nat.zero_add]
      have h5 : vs[k] = u := by rw [List.getElem?_eq_getElem hk] at h3; exact Option.some.inj h3
      simp [Array.getElem?_append, hk, h5]
    show p.2.rel w S ν ((vs.toArray ++ Array.replicate (fn.ntmps - vs.toArray.size) undef).getD p.1 undef)
    rw [this]; exact h4

/-! ### Regions that draw their order -/
/-- Every operation in whatever order; H holds behind each. -/
def wpAnyF (F : Fence) (P : Program) (ops : Array Oper) (Q : Exit → Act → World → Prop) (H : World → Prop) : Nat → Array Bool → Act → World → Prop
  | 0, listed, a, w => Region.ready .any ops listed = [] ∧ Q .normal a w
  | f + 1, listed, a, w => (Region.ready .any ops listed = [] → Q .normal a w) ∧
    ∀ i ∈ Region.ready .any ops listed, wpOpIn F 0 P ops Q i (fun a' w' => H w' ∧ wpAnyF F P ops Q H f (listed.setIfInBounds i true) a' w') a w
theorem wpAnyF_in {H : World → Prop} : ∀ (f : Nat) (listed : Array Bool) (a : Act) (w : World), wpAnyF F P ops Q H f listed a w → wpAnyIn F 0 P .any ops Q f listed a w
  | 0, _, _, _, h => h
  | f + 1, _, _, _, h => ⟨h.1, fun i hi => wpOpIn_mono (fun _ _ h' => wpAnyF_in f _ _ _ h'.2) (h.2 i hi)⟩
theorem strengthen {H H2 : World → Prop} (hh : ∀ w, H2 w → H w) : ∀ (f : Nat) (listed : Array Bool) (a : Act) (w : World), wpAnyF F P ops Q H2 f listed a w → wpAnyF F P ops Q H f listed a w
  | 0, _, _, _, h => h
  | f + 1, _, _, _, h => ⟨h.1, fun i hi => wpOpIn_mono (fun _ _ h' => ⟨hh _ h'.1, strengthen hh f _ _ _ h'.2⟩) (h.2 i hi)⟩

/-- A way out by panic does not look at the slots. -/
def PanicOk (Q : Exit → Act → World → Prop) : Prop := ∀ d v c a w, Q (.panic c) (Act.put a d v) w → Q (.panic c) a w
theorem PanicOk.body {fn : Func} {R' : Ending → World → Prop} : PanicOk (postR P fn R') := fun d v c a w h => h
theorem PanicOk.then' {K' : Act → World → Prop} (h : PanicOk Q) : PanicOk (Exit.then K' Q) := h
theorem PanicOk.block {i : Nat} (h : PanicOk Q) : PanicOk (Exit.inBlock i Q) := h

/-- No operation is a defer. -/
def NoDefer (ops : Array Oper) : Prop := ∀ (i : Nat) (o : Oper), ops[i]? = some o → ∀ c, o.op ≠ .defer c
theorem yields_op [hF : Free F] {H : World → Prop} {i : Nat} {o : Oper} {v : Value} {a : Act} {w : World} {K' : Act → World → Prop} (hi : ops[i]? = some o) (hnd : ∀ c, o.op ≠ .defer c) (hy : YieldsIf P ops H o v a) (hH : H w) (h : K' (a.put o.dst v) w) : wpOpIn F 0 P ops Q i K' a w := by
  simp only [wpOpIn, hi]
  have ab : ∀ f, o.about P w a.eval = some f → F.fn f := fun f _ => hF.fn f
  cases hw : Region.wanted o (yielded ops a.tmps) with
  | true =>
    rcases hy with ⟨_, hv⟩ | ⟨hn, _⟩
    · refine ⟨ab, ?_⟩
      rw [hF.sem hnd, hv w hH]
      exact h
    · rw [hw] at hn; cases hn
  | false =>
    rcases hy with ⟨hn, _⟩ | ⟨_, rfl⟩
    · rw [hw] at hn; cases hn
    · exact ⟨ab, h⟩
/-- Whether the value of an operation apart from it is there already is all one to an operation. -/
theorem apart_op [hF : Free F] {H : World → Prop} {j : Nat} {x y : Oper} {v : Value} (hj : ops[j]? = some y) (hap : x.apart ops y = true) (hnd : ∀ c, y.op ≠ .defer c) (sx : ∀ cs b, x.op ≠ .select cs b) (sy : ∀ cs b, y.op ≠ .select cs b)
    (hQ : PanicOk Q) {K' : Act → World → Prop} {a : Act} {w : World} (hy : YieldsIf P ops H x v a) (h : wpOpIn F 0 P ops Q j K' (a.put x.dst v) w) :
    wpOpIn F 0 P ops Q j (fun a' w' => YieldsIf P ops H x v a' ∧ K' (a'.put x.dst v) w') a w := by
  obtain ⟨p1, p2, p3⟩ := Oper.apart_spec hap
  have both : ∀ u w', K' ((a.put x.dst v).put y.dst u) w' → YieldsIf P ops H x v (a.put y.dst u) ∧ K' ((a.put y.dst u).put x.dst v) w' := fun u w' hk =>
    ⟨hy.of_same (execOp_put x sx a y.dst u p3) (wanted_put x a y.dst u p3), by rw [← Act.put_comm a v u p2]; exact hk⟩
  simp only [wpOpIn, hj] at h ⊢
  rw [wanted_put y a x.dst v p1] at h
  have ab : ∀ f, y.about P w a.eval = some f → F.fn f := fun f _ => hF.fn f
  cases hw : Region.wanted y (yielded ops a.tmps) with
  | false =>
    rw [hw] at h
    exact ⟨ab, both _ _ h.2⟩
  | true =>
    rw [hw] at h
    simp only [if_true] at h ⊢
    refine ⟨ab, ?_⟩
    have h2 := h.2
    rw [hF.sem hnd] at h2 ⊢
    rw [execOp_put y sy a x.dst v p1] at h2
    generalize (execOp a.eval y).run P w = r at h2 ⊢
    cases r with
    | halt z w' => cases z <;> first | exact hQ _ _ _ _ _ h2 | exact h2.elim
    | ok z w' =>
      cases z with
      | value u => exact both _ _ h2
      | skip => exact both _ _ h2
      | enter f args =>
        refine ⟨h2.1, CallsIn.mono h2.2 fun e w'' he => ?_⟩
        cases e with
        | returned u => exact both _ _ he
        | panicked c => exact hQ _ _ _ _ _ he
        | outgrown => exact he
      | row r args => exact ⟨h2.1, RowsIn.mono h2.2 fun u w'' he => both _ _ he⟩
      | round l f ts a1 b1 =>
        refine ⟨h2.1, RoundIn.mono h2.2 fun e w'' he => ?_⟩
        cases e with
        | returned u => exact both _ _ he
        | panicked c => exact hQ _ _ _ _ _ he
        | outgrown => exact he
      | defer d =>
        refine ⟨?_, ?_⟩
        · exact hy.of_same (a' := (({ a with defers := d :: a.defers } : Act).put y.dst undef)) (by rw [execOp_put x sx _ y.dst undef p3]; rfl) (by rw [wanted_put x _ y.dst undef p3])
        · have h3 : K' (Act.put { a.put x.dst v with defers := d :: (a.put x.dst v).defers } y.dst undef) w' := h2
          rw [← Act.put_comm _ v undef p2, ← Act.put_defers]
          exact h3
      | _ => exact h2.elim
/-- An operation that may come up, and that is apart from all that may come up ahead of it, may be taken first. -/
theorem first_op [hF : Free F] {H : World → Prop} {i : Nat} {x : Oper} {v : Value} (hi : ops[i]? = some x) (hnd : NoDefer ops) (hsel : ∀ (j : Nat) (o : Oper) cs b, ops[j]? = some o → o.op ≠ .select cs b) (hQ : PanicOk Q) :
    ∀ (f : Nat) (listed : Array Bool) (a : Act) (w : World),
      (∀ j y, ops[j]? = some y → j ≠ i → listed.getD j true = false → (∀ e ∈ y.after, Region.binds .any e = true → e.on ≠ i) → x.apart ops y = true) →
      i ∈ Region.ready .any ops listed → YieldsIf P ops H x v a → H w →
      wpAnyF F P ops Q H f (listed.setIfInBounds i true) (a.put x.dst v) w → wpAnyF F P ops Q H (f + 1) listed a w
  | 0, listed, a, w, _, hr, hy, hH, h => by
    refine ⟨fun h0 => absurd hr (by rw [h0]; simp), fun j hj => ?_⟩
    by_cases e : j = i
    · subst e; exact yields_op hi (hnd _ _ hi) hy hH ⟨hH, h⟩
    · have := ready_mono hj e
      rw [h.1] at this; cases this
  | f + 1, listed, a, w, hfree, hr, hy, hH, h => by
    refine ⟨fun h0 => absurd hr (by rw [h0]; simp), fun j hj => ?_⟩
    by_cases e : j = i
    · subst e; exact yields_op hi (hnd _ _ hi) hy hH ⟨hH, h⟩
    · obtain ⟨u, y, hjy, hall⟩ := mem_ready.1 hj
      have hoff : ∀ e ∈ y.after, Region.binds .any e = true → e.on ≠ i := by
        intro e he hb heq
        have l1 := hall e he hb
        have l0 := (mem_ready.1 hr).1
        rw [heq] at l1
        by_cases hs : i < listed.size
        · simp [hs] at l0 l1; rw [l0] at l1; cases l1
        · simp [Array.getElem?_eq_none (Nat.le_of_not_lt hs)] at l1
      refine wpOpIn_mono (fun a' w' hk => ?_) (apart_op hjy (hfree j y hjy e u hoff) (hnd _ _ hjy) (fun cs b => hsel i x cs b hi) (fun cs b => hsel j y cs b hjy) hQ hy (h.2 j (ready_mono hj e)))
      obtain ⟨k1, k2, k3⟩ := hk
      refine ⟨k2, first_op hi hnd hsel hQ f (listed.setIfInBounds j true) a' w' (fun k z hk hki hun hno => hfree k z hk hki ?_ hno) (ready_mono hr (Ne.symm e)) k1 k2 ?_⟩
      · by_cases hjk : j = k
        · subst hjk; exact u
        · rw [getD_set_ne true hjk] at hun; exact hun
      · rw [Array.setIfInBounds_comm _ _ e]; exact k3

def TH (F : Fence) (P : Program) (X : Cx) (ops : Array Oper) (Q : Exit → Act → World → Prop) (K : Nat → Bool) (fuel : Nat) (listed : Array Bool) (st : AS) : Prop :=
  ∀ S ν a w (H : World → Prop), Sat X S ν st a w → H w → (∀ w', Ag K S ν st w w' → H w') → wpAnyF F P ops Q H fuel listed a w

theorem Sat.drew {S : Nat → Prop} {ν : Nat → Value} {a : Act} {w : World} (h : Sat X S ν st a w) : Sat X S ν st a { w with drawn := w.drawn + 1 } := by
  have gr : Gr w { w with drawn := w.drawn + 1 } S S := ⟨Nat.le_refl _, fun _ _ _ => rfl, fun _ h => h⟩
  exact ⟨h.defers, h.size, fun p hp => ⟨(h.env p hp).1, AV.mono gr (fun _ _ => rfl) (h.elt p hp) (h.env p hp).2⟩, fun c hc => Chunk.mono gr (fun _ _ => rfl) (h.hlt c hc) (fun _ _ => rfl) (h.hp c hc), h.nd, h.blk, h.imm, h.imm0,
    ⟨h.frame.os, h.frame.tape, h.frame.output, h.frame.size, h.frame.block⟩, h.elt, h.hlt, h.fix, h.ge⟩

theorem TE.draw {id : Nat} {l : List Oper} (K : Nat → Bool) (hm : P.follows .mixedOrders = true) (h : TH F P X l.toArray Q K l.length (List.replicate l.length false).toArray st) : TE X ((Code.region id l.toArray true).wpIn F 0 P Q) st := by
  intro S ν a w sat
  refine wpIn_region_any hm (wpAnyF_in (H := fun _ => True) _ _ _ _ ?_)
  have := h S ν a _ (fun _ => True) sat.drew trivial (fun _ _ => trivial)
  simpa using this

/-- One after the other may be taken first. -/
def takesOk (ops : Array Oper) : Array Bool → List Nat → Option (Array Bool)
  | listed, [] => some listed
  | listed, i :: is => match Region.free .any ops listed i, (Region.ready .any ops listed).contains i with
    | true, true => takesOk ops (listed.setIfInBounds i true) is
    | _, _ => none
def pick (all : List Oper) : List Nat → Option (List Oper)
  | [] => some []
  | i :: is => match nthO all i, pick all is with
    | some o, some r => some (o :: r)
    | _, _ => none
def atk (T : Tys) (N : Nat) (K : Nat → Bool) (all : List Oper) : List Oper → AS → List Prop → Option (AS × List Prop)
  | [], st, ps => some (st, ps)
  | o :: r, st, ps => match dstOk N o, aguard all st o with
    | true, some false => (st.put o.dst (.t [])).force fun s => atk T N K all r s ps
    | true, some true => match apure T K o st with
      | some (av, qs) => appK qs ps fun ps => (st.put o.dst av).force fun s => atk T N K all r s ps
      | none => none
    | _, _ => none

theorem TH.take1 [hF : Free F] (hT : T.Ok P) {i fuel : Nat} {listed : Array Bool} {oi : Oper} (hi : ops[i]? = some oi) (hs : Region.noSelect ops = true) (hnd : NoDefer ops) (hf : Region.free .any ops listed i = true) (hr : (Region.ready .any ops listed).contains i = true) (hQ : PanicOk Q) (hd : dstOk X.N oi = true)
    (hg : (aguard ops.toList st oi = some true ∧ ∃ av qs, apure T K oi st = some (av, qs) ∧ (∀ p ∈ qs, p) ∧ TH F P X ops Q K fuel (listed.setIfInBounds i true) (st.put oi.dst av)) ∨ (aguard ops.toList st oi = some false ∧ TH F P X ops Q K fuel (listed.setIfInBounds i true) (st.put oi.dst (.t [])))) :
    TH F P X ops Q K (fuel + 1) listed st := by
  intro S ν a w H sat hH hA
  have hag : ∀ (d : Option Tmp) (v : AV) w', Ag K S ν (st.put d v) w w' → Ag K S ν st w w' := fun d v w' h => by
    obtain ⟨h1, h2⟩ := h
    refine ⟨h1, fun b hb => h2 b ?_⟩
    rw [(AS.put_hp st d v).1]; exact hb
  rcases hg with ⟨hg, av, qs, h1, h2, h3⟩ | ⟨hg, h3⟩
  · obtain ⟨u, y1, y2, y3⟩ := apure_ok hT h1 h2 sat
    refine strengthen (H2 := Ag K S ν st w) hA _ _ _ _ (first_op (v := u) hi hnd (Region.noSelect_spec hs) hQ _ _ _ _ (Region.free_spec hi hf) (by simpa using hr) (.inl ⟨aguard_ok sat hg, y3⟩) (Ag.refl _ _ _ _ _) ?_)
    exact h3 S ν _ w _ (sat.put (dstOk_spec hd) y1 y2) (Ag.refl _ _ _ _ _) (fun w' => hag _ _ w')
  · refine strengthen (H2 := Ag K S ν st w) hA _ _ _ _ (first_op (v := undef) hi hnd (Region.noSelect_spec hs) hQ _ _ _ _ (Region.free_spec hi hf) (by simpa using hr) (.inr ⟨aguard_ok sat hg, rfl⟩) (Ag.refl _ _ _ _ _) ?_)
    exact h3 S ν _ w _ (sat.put (dstOk_spec hd) ⟨[], rfl, trivial⟩ (fun x hx => by cases hx)) (Ag.refl _ _ _ _ _) (fun w' => hag _ _ w')

theorem TH.takes_aux [Free F] (hT : T.Ok P) (hs : Region.noSelect ops = true) (hnd : NoDefer ops) (hQ : PanicOk Q) : ∀ {is : List Nat} {listed listed' : Array Bool} {l : List Oper} {st st' : AS} {acc ps : List Prop} {fuel : Nat}, takesOk ops listed is = some listed' → pick ops.toList is = some l → atk T X.N K ops.toList l st acc = some (st', ps) → (∀ p ∈ ps, p) →
    TH F P X ops Q K fuel listed' st' → TH F P X ops Q K (fuel + is.length) listed st ∧ ∀ p ∈ acc, p
  | [], listed, listed', l, st, st', acc, ps, fuel, h1, h2, h3, hps, hk => by
    cases h1; cases h2; cases h3; exact ⟨hk, hps⟩
  | i :: is, listed, listed', l, st, st', acc, ps, fuel, h1, h2, h3, hps, hk => by
    simp only [takesOk] at h1
    split at h1
    · rename_i hf hr
      simp only [pick] at h2
      split at h2
      · rename_i o r ho hp
        cases h2
        have hi : ops[i]? = some o := by rw [← Array.getElem?_toList, ← nthO_eq]; exact ho
        simp only [atk, AS.force_eq, appK_eq] at h3
        split at h3
        · rename_i hd hg
          obtain ⟨i1, i2⟩ := TH.takes_aux hT hs hnd hQ h1 hp h3 hps hk
          exact ⟨TH.take1 hT hi hs hnd hf hr hQ hd (.inr ⟨hg, i1⟩), i2⟩
        · rename_i hd hg
          split at h3
          · rename_i av qs ha
            obtain ⟨i1, i2⟩ := TH.takes_aux hT hs hnd hQ h1 hp h3 hps hk
            exact ⟨TH.take1 hT hi hs hnd hf hr hQ hd (.inl ⟨hg, av, qs, ha, fun p hp => i2 p (mem_appP.2 (.inl hp)), i1⟩), fun p hp => i2 p (mem_appP.2 (.inr hp))⟩
          · cases h3
        · cases h3
      · cases h2
    · cases h1
theorem TH.takes [Free F] (is : List Nat) {l ol : List Oper} {listed listed' : Array Bool} {ps : List Prop} {N fuel fuel' : Nat} (hT : T.Ok P) (hN : X.N = N) (hs : Region.noSelect l.toArray = true) (hnd : NoDefer l.toArray) (hQ : PanicOk Q) (h1 : takesOk l.toArray listed is = some listed') (h2 : pick l is = some ol) (h3 : st.force (fun s => atk T N K l ol s []) = some (st', ps)) (hfuel : fuel = fuel' + is.length)
    (hps : AllP ps) (hk : TH F P X l.toArray Q K fuel' listed' st') : TH F P X l.toArray Q K fuel listed st := by
  subst hN; subst hfuel
  rw [AS.force_eq] at h3
  exact (TH.takes_aux (ops := l.toArray) hT hs hnd hQ h1 (by simpa using h2) (by simpa using h3) hps.mem hk).1

/-- One operation that may come up, by a law of its own. -/
def StepAt (F : Fence) (P : Program) (X : Cx) (ops : Array Oper) (Q : Exit → Act → World → Prop) (K : Nat → Bool) (fuel : Nat) (listed : Array Bool) (st : AS) (i : Nat) : Prop :=
  ∃ o, ops[i]? = some o ∧ dstOk X.N o = true ∧ (∀ c, o.op ≠ .defer c) ∧ aguard ops.toList st o = some true ∧ ∃ R' : AS → Prop, StepTo P K o st R' ∧ ∀ s, R' s → TH F P X ops Q K fuel (listed.setIfInBounds i true) s
def AllAt (F : Fence) (P : Program) (X : Cx) (ops : Array Oper) (Q : Exit → Act → World → Prop) (K : Nat → Bool) (fuel : Nat) (listed : Array Bool) (st : AS) : List Nat → Prop
  | [] => True
  | [i] => StepAt F P X ops Q K fuel listed st i
  | i :: is => StepAt F P X ops Q K fuel listed st i ∧ AllAt F P X ops Q K fuel listed st is
theorem AllAt.mem {fuel : Nat} {listed : Array Bool} : ∀ {is : List Nat}, AllAt F P X ops Q K fuel listed st is → ∀ i ∈ is, StepAt F P X ops Q K fuel listed st i
  | [], _, _, h => by cases h
  | [i], h, j, hj => by rw [List.mem_singleton.1 hj]; exact h
  | i :: k :: is, h, j, hj => by
    rcases List.mem_cons.1 hj with rfl | hj
    · exact h.1
    · exact AllAt.mem h.2 j hj
theorem TH.branch [hF : Free F] (is : List Nat) {fuel : Nat} {listed : Array Bool} (hr : Region.ready .any ops listed = is) (hne : is ≠ []) (h : AllAt F P X ops Q K fuel listed st is) : TH F P X ops Q K (fuel + 1) listed st := by
  intro S ν a w H sat hH hA
  refine ⟨fun h0 => absurd (hr ▸ h0) hne, fun i hi => ?_⟩
  obtain ⟨o, h1, h2, hnd, h3, R', h4, h5⟩ := h.mem i (hr ▸ hi)
  unfold wpOpIn
  rw [h1]
  simp only [aguard_ok sat h3, if_true]
  refine wp_free hF hnd (h4 X S ν a w Q _ (dstOk_spec h2) sat fun s S' ν' a' w' hR hs hk => ?_) fun _ _ h => h
  have hHw : H w' := hA w' ⟨hk.size, hk.blk⟩
  refine ⟨hHw, h5 s hR S' ν' a' w' H hs hHw fun w2 h6 => hA w2 ⟨Nat.le_trans hk.size h6.1, fun b hb => ?_⟩⟩
  rw [h6.2 b ?_, hk.blk b hb]
  rcases hb with hb | ⟨ch, hc, hK, hb⟩
  · exact .inl (hk.sub b hb)
  · obtain ⟨h7, h8⟩ := hk.hp ch hc hK
    exact .inr ⟨ch, h7, hK, by rw [h8]; exact hb⟩
theorem TH.done {fuel : Nat} {listed : Array Bool} (hr : Region.ready .any ops listed = []) (h : TE X (Q .normal) st) : TH F P X ops Q K fuel listed st :=
  fun S ν a w H sat _ _ => by
  cases fuel with
  | zero => exact ⟨hr, h S ν a w sat⟩
  | succ f => exact ⟨fun _ => h S ν a w sat, fun i hi => by rw [hr] at hi; cases hi⟩
theorem StepAt.mem (hT : T.Ok P) {i fuel : Nat} {l : List Oper} {listed : Array Bool} {o : Oper} {ps : List Prop} {N : Nat} (hN : X.N = N) (hi : nthO l i = some o) (hd : dstOk N o = true) (hg : aguard l st o = some true) (h : st.force (fun s => amem T K o s) = some (st', ps)) (hps : AllP ps) (hk : TH F P X l.toArray Q K fuel (listed.setIfInBounds i true) st') : StepAt F P X l.toArray Q K fuel listed st i := by
  subst hN
  rw [AS.force_eq] at h
  exact ⟨o, by rw [← Array.getElem?_toList, ← nthO_eq]; exact hi, hd, amem_nd h, by simpa using hg, _, amem_ok hT h hps.mem, fun s e => e ▸ hk⟩
theorem StepAt.pure (hT : T.Ok P) {i fuel : Nat} {l : List Oper} {listed : Array Bool} {o : Oper} {av : AV} {ps : List Prop} {N : Nat} (hN : X.N = N) (hi : nthO l i = some o) (hd : dstOk N o = true) (hg : aguard l st o = some true) (h : st.force (fun s => apure T (fun _ => true) o s) = some (av, ps)) (hps : AllP ps) (hk : TH F P X l.toArray Q K fuel (listed.setIfInBounds i true) (st.put o.dst av)) : StepAt F P X l.toArray Q K fuel listed st i := by
  subst hN
  rw [AS.force_eq] at h
  refine ⟨o, by rw [← Array.getElem?_toList, ← nthO_eq]; exact hi, hd, apure_nd h, by simpa using hg, (· = st.put o.dst av), fun X' S ν a w Q' K' hd' sat hk' => ?_, fun s e => e ▸ hk⟩
  obtain ⟨u, y1, y2, y3⟩ := apure_ok hT h hps.mem sat
  refine wp_value (y3 w (Ag.refl _ _ _ _ _)) (hk' _ S ν _ w rfl (sat.put hd' y1 y2) ⟨Nat.le_refl _, fun _ h => h, fun ch hc _ => ⟨by rw [(AS.put_hp _ _ _).1]; exact hc, rfl⟩, fun _ _ => rfl⟩)
theorem StepAt.call {ι : Type} {f : FuncId} {args : List AV} {takes : List Chunk} {m M : Nat} {pre : ι → Prop} {res : ι → AV} {gives : ι → List Chunk} (hcon : Con P f args takes m M pre res gives) {i fuel : Nat} {l : List Oper} {listed : Array Bool} {o : Oper} {c : Call} {N : Nat} (hN : X.N = N) (hi : nthO l i = some o) (hd : dstOk N o = true) (hgd : aguard l st o = some true) (ho : o.op = .call c)
    {caps vs : List AV} {hrest : List Chunk} (g : Nat → Nat) (hc : acallee st c.callee = some (f, caps)) (hx : aops st c.args.toList = some vs) (hargs : All2 LeV (vs ++ caps) (args.map (AV.ren g))) (ht : TakeH st.hp (takes.map (Chunk.ren g)) hrest)
    (hK : ∀ c ∈ takes, K (g c.id) = false) (hg : ∀ i, i < m → g i < st.nid) (hk : ∀ x, pre x → TH F P X l.toArray Q K fuel (listed.setIfInBounds i true) (st.called hrest g m M o.dst (res x) (gives x))) : StepAt F P X l.toArray Q K fuel listed st i := by
  subst hN
  exact ⟨o, by rw [← Array.getElem?_toList, ← nthO_eq]; exact hi, hd, (fun c' hc' => by rw [ho] at hc'; cases hc'), by simpa using hgd, _, call_step hcon ho g hc hx hargs ht hK hg, fun s ⟨x, hx, e⟩ => e ▸ hk x hx⟩

/-! ### Slices -/
/-- A nil slice is one of the call's own. -/
theorem TE.nilOwn (t E sz : Nat) (hc : look st.env t = some (.o (.c (.slice none 0 0)))) (h : TE X R ((AS.mk st.env (.own st.nid E sz nilC :: st.hp) (st.nid + 1)).put (some t) (.o (.own st.nid)))) : TE X R st := by
  intro S ν a w sat
  have hm := sat.env _ (look_mem hc)
  have hv : a.tmps.getD t undef = .slice none 0 0 := hm.2.1
  have hs := sat.swap (takes := []) (gives := [.own st.nid E sz nilC]) (rest := st.hp) (nid := st.nid + 1) (S' := S) (ν' := upd ν st.nid (.slice none 0 0)) (w' := w) (.refl _) (Fr.refl _ _) upd_lt (fun _ h => h) (fun b hb => ⟨(sat.imm b hb).1, .inl hb⟩)
    (fun ch hch => by
      rw [List.mem_singleton.1 hch]
      exact ⟨[], by rw [upd_same]; exact World.ownsRow_nil _ _ _ _, fun i j hi => by simp [nilC] at hi⟩)
    (by simp [blks, Chunk.blk, upd_same, Value.ownBlock]) (fun b hb => by simp [blks, Chunk.blk, upd_same, Value.ownBlock] at hb)
    (fun ch hch => by rw [List.mem_singleton.1 hch]; exact Nat.lt_succ_self _) (Nat.le_succ _)
  exact h S _ a w (hs.reput hm.1 ⟨by rw [hv, upd_same], by rw [upd_same]; rfl⟩ (Nat.lt_succ_self _))

def A1.frz (id sz : Nat) (ct : Ct) : A1 → A1
  | .own i => match Nat.beq i id with
    | true => .ro sz ct.n ct.cell
    | false => .own i
  | a => a
def frzL (id sz : Nat) (ct : Ct) : List A1 → List A1
  | [] => []
  | a :: as => a.frz id sz ct :: frzL id sz ct as
def AV.frz (id sz : Nat) (ct : Ct) : AV → AV
  | .o a => .o (a.frz id sz ct)
  | .g as => .g (frzL id sz ct as)
  | v => v
def frzE (id sz : Nat) (ct : Ct) : Env → Env
  | [] => []
  | (t, v) :: e => (t, v.frz id sz ct) :: frzE id sz ct e
def frzH (id sz : Nat) (ct : Ct) : List Chunk → List Chunk
  | [] => []
  | .box i T cells :: r => .box i T (frzL id sz ct cells) :: frzH id sz ct r
  | c :: r => c :: frzH id sz ct r
theorem A1.frz_rel {id sz : Nat} {ct : Ct} {w : World} {S : Nat → Prop} {ν : Nat → Value} (hr : (DC.sl sz ct.n ct.cell).rel w S (ν id)) {a : A1} {u : Value} (h : a.rel w S ν u) : (a.frz id sz ct).rel w S ν u := by
  cases a with
  | own i =>
    simp only [A1.frz]
    split
    · rename_i hb
      have := Nat.eq_of_beq_eq_true hb
      subst this
      have : u = ν i := h.1
      rw [this]; exact hr
    · exact h
  | _ => exact h
theorem frzL_rel {id sz : Nat} {ct : Ct} {w : World} {S : Nat → Prop} {ν : Nat → Value} (hr : (DC.sl sz ct.n ct.cell).rel w S (ν id)) : ∀ {as : List A1} {us : List Value}, All2 (A1.rel w S ν) as us → All2 (A1.rel w S ν) (frzL id sz ct as) us
  | [], [], _ => trivial
  | _ :: _, _ :: _, h => ⟨A1.frz_rel hr h.1, frzL_rel hr h.2⟩
  | [], _ :: _, h => h.elim
  | _ :: _, [], h => h.elim
theorem A1.frz_lt {id sz m : Nat} {ct : Ct} {a : A1} (h : a.lt m) : (a.frz id sz ct).lt m := by
  cases a with
  | own i => simp only [A1.frz]; split <;> first | exact trivial | exact h
  | _ => exact h
theorem frzL_lt {id sz m : Nat} {ct : Ct} : ∀ {as : List A1}, (∀ a ∈ as, a.lt m) → ∀ a ∈ frzL id sz ct as, a.lt m
  | [], _, a, h => by cases h
  | x :: as, h, a, ha => by
    rcases List.mem_cons.1 ha with rfl | ha
    · exact A1.frz_lt (h x (List.mem_cons_self ..))
    · exact frzL_lt (fun y hy => h y (List.mem_cons_of_mem _ hy)) a ha
theorem AV.frz_rel {id sz : Nat} {ct : Ct} {w : World} {S : Nat → Prop} {ν : Nat → Value} (hr : (DC.sl sz ct.n ct.cell).rel w S (ν id)) {v : AV} {u : Value} (h : v.rel w S ν u) : (v.frz id sz ct).rel w S ν u := by
  cases v with
  | o a => exact A1.frz_rel hr h
  | g as => obtain ⟨us, e, h⟩ := h; exact ⟨us, e, frzL_rel hr h⟩
  | t xs => exact h
theorem AV.frz_lt {id sz m : Nat} {ct : Ct} {v : AV} (h : v.lt m) : (v.frz id sz ct).lt m := by
  cases v with
  | o a => exact A1.frz_lt h
  | g as => exact frzL_lt h
  | t xs => exact h
theorem frzE_mem {id sz : Nat} {ct : Ct} : ∀ {e : Env} {p : Nat × AV}, p ∈ frzE id sz ct e → ∃ v, (p.1, v) ∈ e ∧ p.2 = v.frz id sz ct
  | (t, v) :: e, p, h => by
    rcases List.mem_cons.1 h with rfl | h
    · exact ⟨v, List.mem_cons_self .., rfl⟩
    · obtain ⟨v', h1, h2⟩ := frzE_mem h
      exact ⟨v', List.mem_cons_of_mem _ h1, h2⟩
theorem frzH_spec {id sz m : Nat} {ct : Ct} {w : World} {S : Nat → Prop} {ν : Nat → Value} (hr : (DC.sl sz ct.n ct.cell).rel w S (ν id)) : ∀ {l : List Chunk}, (∀ c ∈ l, c.holds w S ν ∧ c.lt m) → (∀ c ∈ frzH id sz ct l, c.holds w S ν ∧ c.lt m) ∧ blks ν (frzH id sz ct l) = blks ν l
  | [], _ => ⟨(fun c hc => nomatch hc), rfl⟩
  | .box i T cells :: r, h => by
    obtain ⟨i1, i2⟩ := frzH_spec hr (l := r) fun c hc => h c (List.mem_cons_of_mem _ hc)
    refine ⟨fun c hc => ?_, ?_⟩
    · rcases List.mem_cons.1 hc with rfl | hc
      · obtain ⟨⟨b, us, h1, h2, h3⟩, h4, h5⟩ := h _ (List.mem_cons_self ..)
        exact ⟨⟨b, us, h1, h2, frzL_rel hr h3⟩, h4, frzL_lt h5⟩
      · exact i1 c hc
    · unfold blks at *
      rw [frzH, List.filterMap_cons, List.filterMap_cons, i2]; rfl
  | .own i E s c' :: r, h => by
    obtain ⟨i1, i2⟩ := frzH_spec hr (l := r) fun c hc => h c (List.mem_cons_of_mem _ hc)
    refine ⟨fun c hc => ?_, ?_⟩
    · rcases List.mem_cons.1 hc with rfl | hc
      · exact h _ (List.mem_cons_self ..)
      · exact i1 c hc
    · unfold blks at *
      show List.filterMap _ (Chunk.own i E s c' :: frzH id sz ct r) = _
      rw [List.filterMap_cons, List.filterMap_cons, i2]
  | .nest i E c' q :: r, h => by
    obtain ⟨i1, i2⟩ := frzH_spec hr (l := r) fun c hc => h c (List.mem_cons_of_mem _ hc)
    refine ⟨fun c hc => ?_, ?_⟩
    · rcases List.mem_cons.1 hc with rfl | hc
      · exact h _ (List.mem_cons_self ..)
      · exact i1 c hc
    · unfold blks at *
      show List.filterMap _ (Chunk.nest i E c' q :: frzH id sz ct r) = _
      rw [List.filterMap_cons, List.filterMap_cons, i2]
  | .obj i ob :: r, h => by
    obtain ⟨i1, i2⟩ := frzH_spec hr (l := r) fun c hc => h c (List.mem_cons_of_mem _ hc)
    refine ⟨fun c hc => ?_, ?_⟩
    · rcases List.mem_cons.1 hc with rfl | hc
      · exact h _ (List.mem_cons_self ..)
      · exact i1 c hc
    · unfold blks at *
      show List.filterMap _ (Chunk.obj i ob :: frzH id sz ct r) = _
      rw [List.filterMap_cons, List.filterMap_cons, i2]

/-- A slice of the call's own is given up: from now on it is only read. -/
theorem Sat.freeze {S : Nat → Prop} {ν : Nat → Value} {a : Act} {w : World} (id : Nat) {E sz : Nat} {ct : Ct} {rest : List Chunk} (htk : takeOwn (fun _ => true) st.hp id = some (E, sz, ct, rest)) (sat : Sat X S ν st a w) : Sat X (fun b => S b ∨ (ν id).ownBlock = some b) ν ⟨frzE id sz ct st.env, frzH id sz ct rest, st.nid⟩ a w := by
  obtain ⟨hp, _⟩ := takeOwn_perm htk
  have hmem : Chunk.own id E sz ct ∈ st.hp := hp.symm.subset (List.mem_cons_self ..)
  have hrest : ∀ c ∈ rest, c ∈ st.hp := fun c hc => hp.symm.subset (List.mem_cons_of_mem _ hc)
  obtain ⟨xs, o1, o2⟩ := sat.hp _ hmem
  have gr : Gr w w S (fun b => S b ∨ (ν id).ownBlock = some b) := ⟨Nat.le_refl _, fun _ _ _ => rfl, fun _ h => .inl h⟩
  have hr : (DC.sl sz ct.n ct.cell).rel w (fun b => S b ∨ (ν id).ownBlock = some b) (ν id) := by
    obtain ⟨A, c, e, h1, h2, h3, h4, h5⟩ := ownsRow_src o1
    refine ⟨A, c, e, h1, h2, h3, fun hn => ?_⟩
    obtain ⟨b, off, rfl, hb, _, hc⟩ := h5 hn
    refine ⟨b, off, rfl, .inr (by rw [e]; rfl), hb, fun i j hi hj => ?_⟩
    obtain ⟨u, u1, u2⟩ := o2 i j hi hj
    exact ⟨u, by rw [Nat.add_assoc]; exact hc _ _ u1, DC.mono gr u2⟩
  obtain ⟨f1, f2⟩ := frzH_spec (m := st.nid) (l := rest) hr fun c hc => ⟨Chunk.mono gr (fun _ _ => rfl) (sat.hlt c (hrest c hc)) (fun _ _ => rfl) (sat.hp c (hrest c hc)), sat.hlt c (hrest c hc)⟩
  have hblk : (blks ν (Chunk.own id E sz ct :: rest)).Nodup := (blks_perm hp).nodup_iff.1 sat.nd
  have hsub : (blks ν rest).Sublist (blks ν (Chunk.own id E sz ct :: rest)) := blks_sub (List.sublist_cons_self ..)
  have hne : ∀ b ∈ blks ν rest, (ν id).ownBlock ≠ some b := fun b hb e => by
    have : blks ν (Chunk.own id E sz ct :: rest) = b :: blks ν rest := by
      unfold blks
      rw [List.filterMap_cons]
      simp [Chunk.blk, e]
    rw [this] at hblk
    exact (List.nodup_cons.1 hblk).1 hb
  refine ⟨⟨fun d hd => ?_, sat.defers.2⟩, sat.size, fun p hp' => ?_, fun c hc => (f1 c hc).1, by rw [f2]; exact hblk.sublist hsub, fun b hb => ?_, fun b hb => ?_, fun b hb => .inl (sat.imm0 b hb), sat.frame, fun p hp' => ?_, fun c hc => (f1 c hc).2, sat.fix, sat.ge⟩
  · obtain ⟨D, d1, d2, d3, d4, d5⟩ := sat.defers.1 d hd
    refine ⟨D, d1, d2, d3, fun hs => hs.elim d4 fun e => d5 (mem_blks.2 ⟨_, hmem, e⟩), fun hm => d5 ?_⟩
    rw [show (AS.mk (frzE id sz ct st.env) (frzH id sz ct rest) st.nid).hp = frzH id sz ct rest from rfl, f2] at hm
    exact (blks_perm hp).symm.subset (hsub.subset hm)
  · obtain ⟨v, h1, h2⟩ := frzE_mem hp'
    obtain ⟨h3, h4⟩ := sat.env _ h1
    refine ⟨h3, ?_⟩
    rw [h2]
    exact AV.frz_rel hr (AV.mono gr (fun _ _ => rfl) (sat.elt _ h1) h4)
  · rw [f2] at hb
    have hb' : b ∈ blks ν st.hp := (blks_perm hp).symm.subset (hsub.subset hb)
    obtain ⟨h1, h2, h3⟩ := sat.blk b hb'
    exact ⟨h1, fun h4 => h4.elim h2 (hne b hb), h3⟩
  · rcases hb with hb | hb
    · exact sat.imm b hb
    · obtain ⟨h1, h2, h3⟩ := sat.blk b (mem_blks.2 ⟨_, hmem, hb⟩)
      exact ⟨h1, .inr h3⟩
  · obtain ⟨v, h1, h2⟩ := frzE_mem hp'
    rw [h2]
    exact AV.frz_lt (sat.elt _ h1)
theorem TE.freeze (id : Nat) {E sz : Nat} {ct : Ct} {rest : List Chunk} (htk : takeOwn (fun _ => true) st.hp id = some (E, sz, ct, rest)) (h : TE X R ⟨frzE id sz ct st.env, frzH id sz ct rest, st.nid⟩) : TE X R st :=
  fun _ _ _ _ sat => h _ _ _ _ (sat.freeze id htk)
theorem frzH_id {id sz : Nat} {ct : Ct} {ν : Nat → Value} : ∀ {l : List Chunk} {c : Chunk}, c ∈ l → ∃ c' ∈ frzH id sz ct l, c'.id = c.id ∧ c'.blk ν = c.blk ν
  | .box i T cells :: r, c, h => by
    rcases List.mem_cons.1 h with rfl | h
    · exact ⟨_, List.mem_cons_self .., rfl, rfl⟩
    · obtain ⟨c', h1, h2⟩ := frzH_id h
      exact ⟨c', List.mem_cons_of_mem _ h1, h2⟩
  | .own i E s' ct' :: r, c, h => by
    rcases List.mem_cons.1 h with rfl | h
    · exact ⟨_, List.mem_cons_self .., rfl, rfl⟩
    · obtain ⟨c', h1, h2⟩ := frzH_id h
      exact ⟨c', List.mem_cons_of_mem _ h1, h2⟩
  | .nest i E c' q :: r, c, h => by
    rcases List.mem_cons.1 h with rfl | h
    · exact ⟨_, List.mem_cons_self .., rfl, rfl⟩
    · obtain ⟨c', h1, h2⟩ := frzH_id h
      exact ⟨c', List.mem_cons_of_mem _ h1, h2⟩
  | .obj i ob :: r, c, h => by
    rcases List.mem_cons.1 h with rfl | h
    · exact ⟨_, List.mem_cons_self .., rfl, rfl⟩
    · obtain ⟨c', h1, h2⟩ := frzH_id h
      exact ⟨c', List.mem_cons_of_mem _ h1, h2⟩
theorem TH.freeze (id : Nat) {E sz fuel : Nat} {listed : Array Bool} {ct : Ct} {rest : List Chunk} (htk : takeOwn (fun _ => true) st.hp id = some (E, sz, ct, rest)) (h : TH F P X ops Q K fuel listed ⟨frzE id sz ct st.env, frzH id sz ct rest, st.nid⟩) : TH F P X ops Q K fuel listed st := by
  intro S ν a w H sat hH hA
  refine h _ _ a w H (sat.freeze id htk) hH fun w' hg => hA w' ⟨hg.1, fun b hb => hg.2 b ?_⟩
  rcases hb with hb | ⟨ch, hc, hk, hb⟩
  · exact .inl (.inl hb)
  · obtain ⟨hp, _⟩ := takeOwn_perm htk
    rcases List.mem_cons.1 (hp.subset hc) with rfl | hc
    · exact .inl (.inr hb)
    · obtain ⟨c', h1, h2, h3⟩ := frzH_id (id := id) (sz := sz) (ct := ct) (ν := ν) hc
      exact .inr ⟨c', h1, by rw [h2]; exact hk, by rw [h3]; exact hb⟩
end
end Go.Proofs.Ytfcihdkflnpcgaa.Am
namespace Go.Proofs.Ytfcihdkflnpcgaa.Am
def fieldsB (P : Program) (fs : List (Nat × Nat × Nat)) : Bool := fs.all fun p => decide ((P.info? p.1).map (·.size) = some p.2.2) && decide (0 < p.2.2)
theorem fieldsOk_of {P : Program} {fs : List (Nat × Nat × Nat)} (h : fieldsB P fs = true) : ∀ p ∈ fs, (P.info? p.1).map (·.size) = some p.2.2 ∧ 0 < p.2.2 := by
  intro p hp
  have := List.all_eq_true.1 h p hp
  simp only [Bool.and_eq_true, decide_eq_true_eq] at this
  exact this
theorem TI.mkOk {P : Program} {t : TI} {z : Value} {d : TypeDesc} (h1 : (P.info? t.id).map (fun i => (i.zero, i.size, i.bytes)) = some (some z, t.size, t.bytes)) (h2 : P.underlying t.id = some d) (h3 : TK.ok P d t.k) (h4 : d.isRow = t.agg) (h5 : z.cells.toList = t.zero)
    (h6 : t.zero.all Value.oneCell' = true) (h7 : t.zero.length = t.size) (h8 : (t.agg = false ∧ z.oneCell' = true ∧ t.size = 1) ∨ (t.agg = true ∧ z = .agg t.zero.toArray)) (h9 : 0 < t.size) : t.Ok P := by
  obtain ⟨i, e1, e2, e3, e4⟩ := info_parts h1
  refine ⟨⟨i, z, e1, e3, e4, e2, h5, fun v hv => List.all_eq_true.1 h6 v hv, h7, fun h => ?_, fun h => ?_⟩, ⟨d, h2, h3, h4⟩, h9, fun h => ?_⟩
  · rcases h8 with h8 | h8
    · exact h8.2.1
    · rw [h] at h8; cases h8.1
  · rcases h8 with h8 | h8
    · rw [h] at h8; cases h8.1
    · exact h8.2
  · rcases h8 with h8 | h8
    · exact h8.2.2
    · rw [h] at h8; cases h8.1
end Go.Proofs.Ytfcihdkflnpcgaa.Am
