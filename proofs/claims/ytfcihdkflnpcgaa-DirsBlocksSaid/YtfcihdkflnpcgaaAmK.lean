/- The abstract machine: more rules. No program is named. -/
import Derived.Test.YtfcihdkflnpcgaaAmJ
namespace Go.Proofs.Ytfcihdkflnpcgaa.Am
open Go.RowKit Lw
section
variable {F : Fence} {P : Program} {T : Tys} {X : Cx} {st st' : AS} {Q : Exit → Act → World → Prop} {R : Act → World → Prop}
/-- All ways through a part end in states of one family. -/
theorem TE.mid {ι : Type} (pre : ι → Prop) (inv : ι → AS) {c : Code} (h1 : TE X (c.wpIn F 0 P (Exit.then (At X pre inv) Q)) st) (h2 : ∀ x, pre x → TE X (Q .normal) (inv x)) : TE X (c.wpIn F 0 P Q) st := by
  refine fun S ν a w sat => Code.wpIn_mono (fun e a' w' q => ?_) (h1 S ν a w sat)
  cases e with
  | normal => obtain ⟨y, S', ν', hy, hs⟩ := q; exact h2 y hy _ _ _ _ hs
  | _ => exact q
theorem TE.goto {l : Nat} (h : TE X (Q (.goto l)) st) : TE X ((Code.goto l).wpIn F 0 P Q) st := fun S ν a w sat => wpIn_goto (h S ν a w sat)
theorem TE.thenG {K : Act → World → Prop} {l : Nat} (h : TE X (Q (.goto l)) st) : TE X (Exit.then K Q (.goto l)) st := h
theorem TE.inG {i l : Nat} (h : TE X (Q (.goto l)) st) : TE X (Exit.inBlock i Q (.goto l)) st := h
theorem TE.jumpN {J : Act → World → Prop} {l : Nat} (h : TE X (Q .normal) st) : TE X (Exit.jump l J Q .normal) st := h
theorem TE.jumpR {J : Act → World → Prop} {l : Nat} (h : TE X (Q .ret) st) : TE X (Exit.jump l J Q .ret) st := h
theorem TE.jumpE {J : Act → World → Prop} {l i : Nat} (h : TE X (Q (.exit i)) st) : TE X (Exit.jump l J Q (.exit i)) st := h
theorem TE.jumpG {J : Act → World → Prop} {l : Nat} (h : TE X J st) : TE X (Exit.jump l J Q (.goto l)) st := fun S ν a w sat => ⟨rfl, h S ν a w sat⟩
theorem PanicOk.jump {J : Act → World → Prop} {l : Nat} (h : PanicOk Q) : PanicOk (Exit.jump l J Q) := h
/-- A label that is jumped to, forward only. -/
theorem TE.scope {ι : Type} (l : Nat) (pre : ι → Prop) (inv : ι → AS) {c rest : Code} (hf : findLabel c l = some rest) (first : TE X (c.wpIn Fence.wide 0 P (Exit.jump l (At X pre inv) Q)) st) (pass : ∀ x, pre x → TE X (rest.wpIn Fence.wide 0 P (Exit.jump l (fun _ _ => False) Q)) (inv x)) : TE X ((Code.scope c).wpIn Fence.wide 0 P Q) st := by
  intro S ν a w sat
  refine wpIn_wide.2 (wp_scope_jumps l (At X pre inv) (fun _ _ => 0) hf (wpIn_wide.1 (first S ν a w sat)) ?_)
  rintro a w ⟨y, S', ν', hy, hs⟩
  refine Code.wp_mono (fun e a' w' q => ?_) (wpIn_wide.1 (pass y hy S' ν' a w hs))
  cases e with
  | goto l' => exact q.2.elim
  | _ => exact q
/-- A nil cell is set. -/
def setNil : List A1 → Nat → A1 → Option (List A1)
  | [], _, _ => none
  | .c (.slice none 0 0) :: r, 0, a => some (a :: r)
  | x :: r, i + 1, a => match setNil r i a with
    | some r' => some (x :: r')
    | none => none
  | _ :: _, 0, _ => none
def nilB (id i : Nat) (a : A1) : List Chunk → Option (List Chunk)
  | [] => none
  | .box id' T cells :: r => match Nat.beq id' id with
    | true => match setNil cells i a with
      | some cells' => some (.box id' T cells' :: r)
      | none => none
    | false => match nilB id i a r with
      | some r' => some (.box id' T cells :: r')
      | none => none
  | c :: r => match nilB id i a r with
    | some r' => some (c :: r')
    | none => none
theorem setNil_ok {w : World} {S : Nat → Prop} {ν : Nat → Value} {a : A1} (ha : a.rel w S ν (.slice none 0 0)) : ∀ {cells : List A1} {i : Nat} {cells' : List A1} {us : List Value}, setNil cells i a = some cells' → All2 (A1.rel w S ν) cells us → All2 (A1.rel w S ν) cells' us ∧ ∀ c ∈ cells', c ∈ cells ∨ c = a
  | [], i, cells', us, h, _ => by cases i <;> simp [setNil] at h
  | x :: r, 0, cells', [], h, hu => hu.elim
  | x :: r, 0, cells', u :: us, h, hu => by
    unfold setNil at h
    split at h
    · simp_all
    · rename_i r' e1 e2
      simp only [List.cons.injEq] at e1
      obtain ⟨rfl, rfl⟩ := e1
      obtain ⟨h1, h2⟩ := hu
      cases h
      exact ⟨⟨by rw [h1.1]; exact ha, h2⟩, fun c hc => (List.mem_cons.1 hc).elim (fun e => .inr e) (fun e => .inl (List.mem_cons_of_mem _ e))⟩
    · simp_all
    · cases h
  | x :: r, i + 1, cells', [], h, hu => hu.elim
  | x :: r, i + 1, cells', u :: us, h, hu => by
    simp only [setNil] at h
    split at h
    · rename_i r' hr
      cases h
      obtain ⟨i1, i2⟩ := setNil_ok ha hr hu.2
      exact ⟨⟨hu.1, i1⟩, fun c hc => (List.mem_cons.1 hc).elim (fun e => .inl (e ▸ List.mem_cons_self ..)) (fun e => (i2 c e).elim (fun e => .inl (List.mem_cons_of_mem _ e)) .inr)⟩
    · cases h
theorem nilB_ok {w : World} {S : Nat → Prop} {ν : Nat → Value} {a : A1} {m : Nat} (ha : a.rel w S ν (.slice none 0 0)) (hal : a.lt m) {id i : Nat} : ∀ {hp hp' : List Chunk}, nilB id i a hp = some hp' → (∀ c ∈ hp, c.holds w S ν ∧ c.lt m) → (∀ c ∈ hp', c.holds w S ν ∧ c.lt m) ∧ blks ν hp' = blks ν hp
  | [], hp', h, _ => by simp [nilB] at h
  | c :: r, hp', h, hh => by
    have hr := fun c' hc' => hh c' (List.mem_cons_of_mem c hc')
    have rec' : ∀ r', nilB id i a r = some r' → (∀ c' ∈ c :: r', c'.holds w S ν ∧ c'.lt m) ∧ blks ν (c :: r') = blks ν (c :: r) := fun r' e => by
      obtain ⟨i1, i2⟩ := nilB_ok ha hal e hr
      refine ⟨fun c' hc' => (List.mem_cons.1 hc').elim (fun e => e ▸ hh c (List.mem_cons_self ..)) (i1 c'), ?_⟩
      rw [blks, List.filterMap_cons, ← blks, i2, blks, ← List.filterMap_cons]; rfl
    cases c with
    | own id' E sz ct =>
      simp only [nilB] at h
      split at h
      · rename_i r' hr'; cases h; exact rec' r' hr'
      · cases h
    | nest id' E ct j =>
      simp only [nilB] at h
      split at h
      · rename_i r' hr'; cases h; exact rec' r' hr'
      · cases h
    | obj id' ob =>
      simp only [nilB] at h
      split at h
      · rename_i r' hr'; cases h; exact rec' r' hr'
      · cases h
    | box id' T cells =>
      simp only [nilB] at h
      split at h
      · split at h
        · rename_i cells' hc
          cases h
          obtain ⟨⟨b, us, h1, h2, h3⟩, h4⟩ := hh _ (List.mem_cons_self ..)
          obtain ⟨j1, j2⟩ := setNil_ok ha hc h3
          refine ⟨fun c' hc' => (List.mem_cons.1 hc').elim (fun e => ?_) (hr c'), rfl⟩
          subst e
          exact ⟨⟨b, us, h1, h2, j1⟩, h4.1, fun x hx => (j2 x hx).elim (h4.2 x) (fun e => e ▸ hal)⟩
        · cases h
      · split at h
        · rename_i r' hr'; cases h; exact rec' r' hr'
        · cases h
/-- The nil slice in a box is a slice of the call's own. -/
theorem TE.nilBox (id i E sz : Nat) {hp' : List Chunk} (hb : nilB id i (.own st.nid) (.own st.nid E sz nilC :: st.hp) = some hp') {st2 : AS} (hst : (AS.mk st.env hp' (st.nid + 1)).force some = some st2) (h : TE X R st2) : TE X R st := by
  rw [AS.force_eq] at hst
  cases hst
  intro S ν a w sat
  have hs := sat.swap (takes := []) (gives := [.own st.nid E sz nilC]) (rest := st.hp) (nid := st.nid + 1) (S' := S) (ν' := upd ν st.nid (.slice none 0 0)) (w' := w) (.refl _) (Fr.refl _ _) upd_lt (fun _ h => h) (fun b hb => ⟨(sat.imm b hb).1, .inl hb⟩)
    (fun ch hch => by
      rw [List.mem_singleton.1 hch]
      exact ⟨[], by rw [upd_same]; exact World.ownsRow_nil _ _ _ _, fun i j hi => by simp [nilC] at hi⟩)
    (by simp [blks, Chunk.blk, upd_same, Value.ownBlock]) (fun b hb => by simp [blks, Chunk.blk, upd_same, Value.ownBlock] at hb)
    (fun ch hch => by rw [List.mem_singleton.1 hch]; exact Nat.lt_succ_self _) (Nat.le_succ _)
  obtain ⟨k1, k2⟩ := nilB_ok (w := w) (S := S) (ν := upd ν st.nid (.slice none 0 0)) (a := .own st.nid) (m := st.nid + 1) ⟨by rw [upd_same], by rw [upd_same]; rfl⟩ (Nat.lt_succ_self _) hb (fun c hc => ⟨hs.hp c hc, hs.hlt c hc⟩)
  exact h S _ a w ⟨⟨fun d hd => let ⟨D, d1, d2, d3, d4, d5⟩ := hs.defers.1 d hd; ⟨D, d1, d2, d3, d4, fun hm => d5 (by rw [k2] at hm; exact hm)⟩, hs.defers.2⟩, hs.size, hs.env, fun c hc => (k1 c hc).1, by rw [k2]; exact hs.nd, by rw [k2]; exact hs.blk, hs.imm, hs.imm0, hs.frame, hs.elt, fun c hc => (k1 c hc).2, hs.fix, hs.ge⟩
theorem LeA.rclo {g : Nat → Nat} {f : FuncId} {c c' : List (Nat × Nat)} (h : A1.clo f c = (A1.clo f c').ren g) : LeA (.clo f c) ((A1.clo f c').ren g) := h ▸ LeA.refl _
def idxI {α : Type} (p : α → Bool) : List α → Nat → Int
  | [], _ => -1
  | x :: r, k => if p x then (k : Int) else idxI p r (k + 1)
theorem idxI_drop {α : Type} (p : α → Bool) {l : List α} {k : Nat} (h : k < l.length) (d : α) : idxI p (l.drop k) k = if p (l.getD k d) then (k : Int) else idxI p (l.drop (k + 1)) (k + 1) := by
  rw [List.drop_eq_getElem_cons h, List.getD_eq_getElem?_getD, List.getElem?_eq_getElem h]; rfl
def RowsOk {α : Type} (f : α → Nat → DC) (sz : Nat) : List (List DC) → List α → Prop
  | [], [] => True
  | r :: rs, x :: xs => (∀ j, j < sz → LeX (nthD r j) (f x j)) ∧ RowsOk f sz rs xs
  | _, _ => False
theorem RowsOk.len {α : Type} {f : α → Nat → DC} {sz : Nat} : ∀ {rs : List (List DC)} {l : List α}, RowsOk f sz rs l → rs.length = l.length
  | [], [], _ => rfl
  | r :: rs, x :: xs, h => by rw [List.length_cons, List.length_cons, RowsOk.len h.2]
  | [], _ :: _, h => h.elim
  | _ :: _, [], h => h.elim
theorem RowsOk.at {α : Type} {f : α → Nat → DC} {sz : Nat} (d : α) : ∀ {rs : List (List DC)} {l : List α}, RowsOk f sz rs l → ∀ i j, i < l.length → j < sz → LeX (nthD (nthR rs i) j) (f (l.getD i d) j)
  | [], [], _, i, j, hi, _ => absurd hi (Nat.not_lt_zero i)
  | r :: rs, x :: xs, h, 0, j, _, hj => h.1 j hj
  | r :: rs, x :: xs, h, i + 1, j, hi, hj => by
    have := RowsOk.at d h.2 i j (by simpa using hi) hj
    rw [nthR, show (x :: xs).getD (i + 1) d = xs.getD i d by simp]; exact this
  | [], _ :: _, h, _, _, _, _ => h.elim
  | _ :: _, [], h, _, _, _, _ => h.elim
theorem listC_lit {α : Type} {f : α → Nat → DC} {d : α} {sz : Nat} {rs : List (List DC)} {l : List α} (h : RowsOk f sz rs l) : LeDC sz (litC rs) (listC f d l) := by
  refine ⟨h.len, fun i j hi hj => ?_⟩
  exact h.at d i j (by rw [← h.len]; exact hi) hj
theorem litnil_app (sz : Nat) (c : Ct) : LeDC sz (appC (litC []) c) c := by
  refine ⟨by simp [appC, litC], fun i j hi hj => LeX.of_eq ?_⟩
  simp [appC, litC]
theorem LeA.rlit {α : Type} {f : α → Nat → DC} {d : α} {sz n : Nat} {rs : List (List DC)} {l : List α} {g : Nat → Nat} (hn : n = l.length) (h : RowsOk f sz rs l) : LeA (.ro sz (litC rs).n (litC rs).cell) ((A1.ro sz n (listC f d l).cell).ren g) := by
  subst hn
  exact LeA.rro (listC_lit h)
theorem LeX.lit {α : Type} {f : α → Nat → DC} {d : α} {sz n : Nat} {rs : List (List DC)} {l : List α} (hn : n = l.length) (h : RowsOk f sz rs l) : LeX (.sl sz (litC rs).n (litC rs).cell) (.sl sz n (listC f d l).cell) := by
  subst hn
  exact LeX.sl (listC_lit h)
theorem nth1x {r : List DC} {g : Nat → DC} (h0 : LeX (nthD r 0) (g 0)) : ∀ j, j < 1 → LeX (nthD r j) (g j)
  | 0, _ => h0
theorem nth2x {r : List DC} {g : Nat → DC} (h0 : LeX (nthD r 0) (g 0)) (h1 : LeX (nthD r 1) (g 1)) : ∀ j, j < 2 → LeX (nthD r j) (g j)
  | 0, _ => h0
  | 1, _ => h1
theorem nth3x {r : List DC} {g : Nat → DC} (h0 : LeX (nthD r 0) (g 0)) (h1 : LeX (nthD r 1) (g 1)) (h2 : LeX (nthD r 2) (g 2)) : ∀ j, j < 3 → LeX (nthD r j) (g j)
  | 0, _ => h0
  | 1, _ => h1
  | 2, _ => h2
theorem nth4x {r : List DC} {g : Nat → DC} (h0 : LeX (nthD r 0) (g 0)) (h1 : LeX (nthD r 1) (g 1)) (h2 : LeX (nthD r 2) (g 2)) (h3 : LeX (nthD r 3) (g 3)) : ∀ j, j < 4 → LeX (nthD r j) (g j)
  | 0, _ => h0
  | 1, _ => h1
  | 2, _ => h2
  | 3, _ => h3
theorem nth1 {r : List DC} {g : Nat → DC} (h0 : nthD r 0 = g 0) : ∀ j, j < 1 → nthD r j = g j
  | 0, _ => h0
theorem nth2 {r : List DC} {g : Nat → DC} (h0 : nthD r 0 = g 0) (h1 : nthD r 1 = g 1) : ∀ j, j < 2 → nthD r j = g j
  | 0, _ => h0
  | 1, _ => h1
theorem nth3 {r : List DC} {g : Nat → DC} (h0 : nthD r 0 = g 0) (h1 : nthD r 1 = g 1) (h2 : nthD r 2 = g 2) : ∀ j, j < 3 → nthD r j = g j
  | 0, _ => h0
  | 1, _ => h1
  | 2, _ => h2
theorem nth4 {r : List DC} {g : Nat → DC} (h0 : nthD r 0 = g 0) (h1 : nthD r 1 = g 1) (h2 : nthD r 2 = g 2) (h3 : nthD r 3 = g 3) : ∀ j, j < 4 → nthD r j = g j
  | 0, _ => h0
  | 1, _ => h1
  | 2, _ => h2
  | 3, _ => h3
theorem TE.freezeN (id : Nat) {E sz : Nat} {ct : Ct} {rest : List Chunk} (htk : takeOwn (fun _ => true) st.hp id = some (E, sz, ct, rest)) {st2 : AS} (hst : (AS.mk (frzE id sz ct st.env) (frzH id sz ct rest) st.nid).force some = some st2) (h : TE X R st2) : TE X R st := by
  rw [AS.force_eq] at hst
  cases hst
  exact TE.freeze id htk h
theorem TL.freezeN (id : Nat) {l : List Oper} {fuel : Nat} {lb : List Bool} {K : Nat → Bool} {E sz : Nat} {ct : Ct} {rest : List Chunk} (htk : takeOwn (fun _ => true) st.hp id = some (E, sz, ct, rest)) {st2 : AS} (hst : (AS.mk (frzE id sz ct st.env) (frzH id sz ct rest) st.nid).force some = some st2) (h : TL F P X l Q K fuel lb st2) : TL F P X l Q K fuel lb st := by
  rw [AS.force_eq] at hst
  cases hst
  exact fun hh => TH.freeze id htk (h hh)
theorem TE.post2 {ι : Type} {fn : Func} {takes : List Chunk} {pre : ι → Prop} {res : ι → AV} {gives : ι → List Chunk} {e : Exit} (he : e = .normal ∨ e = .ret) (hB : X.B0 = fun b => b ∈ blks X.ν0 takes) (hT : T.Ok P) (x : ι) (hpre : pre x) {rvs : List AV} {rv : AV} (hr : ares T st fn.results.toList = some rvs) (hv : retV rvs = some rv)
    (hle : LeV rv ((res x).ren (gOf X.m st.hp (gives x) (appN (pairV rv (res x)) (idsN X.m))))) (hg : SubH st.hp ((gives x).map (Chunk.ren (gOf X.m st.hp (gives x) (appN (pairV rv (res x)) (idsN X.m)))))) : TE X (postR P fn (RetR X takes pre res gives) e) st :=
  TE.post he hB x hpre _ hT hr hv hle hg gOf_fix
/-- A function of the library that leaves the world as it was. -/
theorem con_same {ι : Type} {f : FuncId} {args : List AV} {M : Nat} {pre : ι → Prop} {res : ι → AV} {fn : Func} (hf : P.funcs[f]? = some fn) (hn : (fn.name == "runtime.NumGoroutine") = false) (hb : fn.body.isNone = false) (wf : ∀ x, (res x).ltB M = true)
    (h : ∀ w S ν vs, All2 (AV.rel w S ν) args vs → Calls P f vs.toArray w fun e w' => ∃ x u, e = .returned u ∧ pre x ∧ (res x).rel w S ν u ∧ w' = w) : Con P f args [] 0 M pre res (fun _ => []) := by
  refine ⟨⟨fn, hf, hn, hb⟩, rfl, Nat.zero_le _, fun x => ⟨wf x, rfl⟩, fun w S ν vs ha _ _ _ hS => Calls.mono (h w S ν vs ha) ?_⟩
  rintro e w' ⟨x, u, he, hp, hr, rfl⟩
  exact ⟨x, S, ν, u, he, hp, hr, Fr.refl _ _, fun _ _ => rfl, fun _ h => h, fun b hb => ⟨hS b hb, .inl hb⟩, (fun c hc => nomatch hc), List.nodup_nil, (fun b hb => nomatch hb)⟩
theorem args0 {w : World} {S : Nat → Prop} {ν : Nat → Value} {vs : List Value} (h : All2 (AV.rel w S ν) [] vs) : vs = [] := by
  cases vs with
  | nil => rfl
  | cons v vs => exact h.elim
theorem argsC {w : World} {S : Nat → Prop} {ν : Nat → Value} {v : Value} {r : List AV} {vs : List Value} (h : All2 (AV.rel w S ν) (.o (.c v) :: r) vs) : ∃ vs', vs = v :: vs' ∧ All2 (AV.rel w S ν) r vs' := by
  cases vs with
  | nil => exact h.elim
  | cons u vs => obtain ⟨h1, h2⟩ := h; exact ⟨vs, by rw [h1.1], h2⟩
theorem args1 {w : World} {S : Nat → Prop} {ν : Nat → Value} {v : Value} {vs : List Value} (h : All2 (AV.rel w S ν) [.o (.c v)] vs) : vs = [v] := by
  obtain ⟨r, rfl, h2⟩ := argsC h
  obtain rfl := args0 h2
  rfl
theorem args2 {w : World} {S : Nat → Prop} {ν : Nat → Value} {v u : Value} {vs : List Value} (h : All2 (AV.rel w S ν) [.o (.c v), .o (.c u)] vs) : vs = [v, u] := by
  obtain ⟨r, rfl, h2⟩ := argsC h
  obtain rfl := args1 h2
  rfl
def allLt (g : Nat → Nat) : Nat → Nat → Bool
  | 0, _ => true
  | m + 1, n => match Nat.blt (g m) n with
    | true => allLt g m n
    | false => false
theorem allLt_ok {g : Nat → Nat} : ∀ {m n : Nat}, allLt g m n = true → ∀ i, i < m → g i < n
  | 0, _, _, i, hi => absurd hi (Nat.not_lt_zero i)
  | m + 1, n, h, i, hi => by
    simp only [allLt] at h
    split at h
    · rename_i hb
      rcases Nat.lt_succ_iff_lt_or_eq.1 hi with h' | rfl
      · exact allLt_ok h i h'
      · exact Nat.le_of_ble_eq_true hb
    · cases h
def dropId (i : Nat) : List Chunk → Option (List Chunk)
  | [] => none
  | c :: r => match Nat.beq c.id i with
    | true => some r
    | false => match dropId i r with
      | some r' => some (c :: r')
      | none => none
/-- What is left behind a call. -/
def restN (g : Nat → Nat) : List Chunk → List Chunk → Option (List Chunk)
  | hp, [] => some hp
  | hp, c :: r => match dropId (g c.id) hp with
    | some hp' => restN g hp' r
    | none => none
theorem TE.callN [Free F] {ι : Type} {f : FuncId} {args : List AV} {takes : List Chunk} {m M : Nat} {pre : ι → Prop} {res : ι → AV} {gives : ι → List Chunk} (hcon : Con P f args takes m M pre res gives) {l : List Oper} {o : Oper} {c : Call} {rest : List Oper} {N : Nat} (hN : X.N = N) (hd : dstOk N o = true) (hgd : aguard l st o = some true) (ho : o.op = .call c)
    {caps vs : List AV} {hrest : List Chunk} (hc : acallee st c.callee = some (f, caps)) (hx : aops st c.args.toList = some vs) (hargs : All2 LeV (vs ++ caps) (args.map (AV.ren (gOf 0 st.hp takes (pairVs (vs ++ caps) args))))) (hrs : restN (gOf 0 st.hp takes (pairVs (vs ++ caps) args)) st.hp takes = some hrest) (ht : TakeH st.hp (takes.map (Chunk.ren (gOf 0 st.hp takes (pairVs (vs ++ caps) args)))) hrest)
    (hg : allLt (gOf 0 st.hp takes (pairVs (vs ++ caps) args)) m st.nid = true) (hk : ∀ x, pre x → TE X (wpListIn F 0 P l.toArray Q rest) (st.called hrest (gOf 0 st.hp takes (pairVs (vs ++ caps) args)) m M o.dst (res x) (gives x))) : TE X (wpListIn F 0 P l.toArray Q (o :: rest)) st :=
  TE.call hcon hN hd hgd ho _ hc hx hargs ht (allLt_ok hg) hk
def allK (K : Nat → Bool) (g : Nat → Nat) : List Chunk → Bool
  | [] => true
  | c :: r => match K (g c.id) with
    | true => false
    | false => allK K g r
theorem allK_ok {K : Nat → Bool} {g : Nat → Nat} : ∀ {cs : List Chunk}, allK K g cs = true → ∀ c ∈ cs, K (g c.id) = false
  | [], _, c, hc => nomatch hc
  | c :: r, h, d, hd => by
    simp only [allK] at h
    split at h
    · cases h
    · rename_i hk
      rcases List.mem_cons.1 hd with rfl | hd
      · exact hk
      · exact allK_ok h d hd
theorem StepL.callN {K : Nat → Bool} {ι : Type} {f : FuncId} {args : List AV} {takes : List Chunk} {m M : Nat} {pre : ι → Prop} {res : ι → AV} {gives : ι → List Chunk} (hcon : Con P f args takes m M pre res gives) {i fuel : Nat} {l : List Oper} {lb lb' : List Bool} {o : Oper} {c : Call} {N : Nat} (hN : X.N = N) (hi : nthO l i = some o) (hd : dstOk N o = true) (hgd : aguard l st o = some true) (ho : o.op = .call c)
    {caps vs : List AV} {hrest : List Chunk} (hc : acallee st c.callee = some (f, caps)) (hx : aops st c.args.toList = some vs) (hargs : All2 LeV (vs ++ caps) (args.map (AV.ren (gOf 0 st.hp takes (pairVs (vs ++ caps) args))))) (hrs : restN (gOf 0 st.hp takes (pairVs (vs ++ caps) args)) st.hp takes = some hrest) (ht : TakeH st.hp (takes.map (Chunk.ren (gOf 0 st.hp takes (pairVs (vs ++ caps) args)))) hrest)
    (hK : allK K (gOf 0 st.hp takes (pairVs (vs ++ caps) args)) takes = true) (hg : allLt (gOf 0 st.hp takes (pairVs (vs ++ caps) args)) m st.nid = true) (hb : normB (setB lb i) some = some lb') (hk : ∀ x, pre x → TL F P X l Q K fuel lb' (st.called hrest (gOf 0 st.hp takes (pairVs (vs ++ caps) args)) m M o.dst (res x) (gives x))) : StepL F P X l Q K fuel lb st i :=
  StepL.callM hcon hN hi hd hgd ho hc hx rfl hargs ht (allK_ok hK) (allLt_ok hg) hb hk
end
end Go.Proofs.Ytfcihdkflnpcgaa.Am
