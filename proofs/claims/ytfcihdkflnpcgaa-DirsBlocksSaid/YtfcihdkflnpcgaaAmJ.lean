/- The abstract machine: regions that draw their order are run by themselves. No program is named. -/
import Derived.Test.YtfcihdkflnpcgaaAmI
namespace Go.Proofs.Ytfcihdkflnpcgaa.Am
open Go.RowKit Lw

section
variable {F : Fence} {P : Program} {T : Tys} {X : Cx} {st st' : AS} {Q : Exit → Act → World → Prop} {ops : Array Oper} {R : Act → World → Prop} {K : Nat → Bool}

/-! ### What is ready, and what may be taken, on lists (Array's functions are not carried out by 'rfl') -/
def operL : Op → Option (List Operand)
  | .alloc _ => some []
  | .move x | .assign x | .box _ x | .load _ x | .nilCheck x | .unOp _ _ x | .convert _ _ x | .makeInterface _ x | .fieldAddr _ x _ | .field _ x _ | .range _ x | .next x _ | .typeAssert x _ _ _ | .extract x _ => some [x]
  | .pick c a b => some [c, a, b]
  | .build _ ps | .buildSlice _ _ ps => some (ps.toList.map (·.2))
  | .store _ a v | .binOp _ _ a v _ | .makeSlice _ a v | .indexAddr _ a v | .index _ a v | .lookup _ a v _ => some [a, v]
  | .makeFunc _ first captured => some (first.toList ++ captured.toList)
  | .slice _ x l h m => some (x :: (l.toList ++ (h.toList ++ m.toList)))
  | .call c => match c.callee with
    | .value f => some (f :: c.args.toList)
    | .invoke r _ => some (r :: c.args.toList)
    | .builtin _ => some c.args.toList
  | _ => none
theorem operL_ok {o : Op} {l : List Operand} (h : operL o = some l) : o.operands.toList = l := by
  cases o with
  | call c =>
    simp only [operL] at h
    simp only [Op.operands, Call.operands]
    split at h <;> cases h <;> rename_i e <;> rw [e] <;> simp
  | slice x a l h' m =>
    cases h
    cases l <;> cases h' <;> cases m <;> simp [Op.operands]
  | makeFunc f a b => cases h; simp [Op.operands]
  | build t ps => cases h; simp [Op.operands]
  | buildSlice t n ps => cases h; simp [Op.operands]
  | _ => first | (cases h; rfl) | cases h
def tmpsL : List Operand → List Tmp
  | [] => []
  | .tmp t :: r => t :: tmpsL r
  | _ :: r => tmpsL r
theorem tmpsL_ok : ∀ (l : List Operand), (l.filterMap fun | .tmp t => some t | _ => none) = tmpsL l
  | [] => rfl
  | x :: r => by cases x <;> simp [tmpsL, tmpsL_ok r]
def looksL (l : List Oper) (o : Oper) : Option (List Tmp) := match operL o.op with
  | some xs => match gslot l o with
    | some t => some (t :: tmpsL xs)
    | none => some (tmpsL xs)
  | none => none
theorem looksL_ok {l : List Oper} {o : Oper} {ts : List Tmp} (h : looksL l o = some ts) (t : Tmp) : t ∈ o.looksAt l.toArray ↔ t ∈ ts := by
  simp only [looksL] at h
  split at h
  · rename_i xs hx
    have e0 : o.looksAt l.toArray = tmpsL o.op.operands.toList ++ (match o.guard with
      | some (g, _) => ((l.toArray[g]?).bind (·.dst)).toList
      | none => ([] : List Tmp)) := congrArg (· ++ _) (tmpsL_ok _)
    rw [e0, operL_ok hx, List.mem_append]
    have hg : (match o.guard with
      | some (g, _) => ((l.toArray[g]?).bind (·.dst)).toList
      | none => ([] : List Tmp)) = (gslot l o).toList := by
      unfold gslot
      cases o.guard with
      | none => rfl
      | some p =>
        simp only [nthO_eq]
        rw [show l.toArray[p.1]? = l[p.1]? by simp]
        cases l[p.1]? <;> rfl
    rw [hg]
    split at h <;> rename_i hs <;> cases h <;> rw [hs] <;> simp [or_comm]
  · cases h
def hasL (t : Nat) : List Nat → Bool
  | [] => false
  | x :: r => match Nat.beq x t with
    | true => true
    | false => hasL t r
theorem hasL_ok {t : Nat} : ∀ {l : List Nat}, hasL t l = false → t ∉ l
  | [], _ => by simp
  | x :: r, h => by
    simp only [hasL] at h
    split at h
    · cases h
    · rename_i hx
      rw [List.mem_cons, not_or]
      exact ⟨fun e => absurd hx (by rw [e, Nat.beq_refl]; simp), hasL_ok h⟩
def clash (d : Option Tmp) (l : List Nat) : Bool := match d with
  | some t => hasL t l
  | none => false
def apartL (l : List Oper) (x y : Oper) : Bool := match looksL l x, looksL l y with
  | some lx, some ly => match clash x.dst ly, clash y.dst lx, clash x.dst (match y.dst with | some t => [t] | none => []) with
    | false, false, false => true
    | _, _, _ => false
  | _, _ => false
theorem apartL_ok {l : List Oper} {x y : Oper} (h : apartL l x y = true) : x.apart l.toArray y = true := by
  unfold apartL at h
  split at h
  · rename_i lx ly hx hy
    split at h
    · rename_i h1 h2 h3
      unfold Oper.apart
      rw [Bool.and_eq_true]
      constructor
      · cases hd : x.dst with
        | none => rfl
        | some d =>
          rw [hd] at h1 h3
          simp only [Bool.and_eq_true, Bool.not_eq_true', bne_iff_ne, ne_eq]
          refine ⟨?_, fun e => ?_⟩
          · rw [Bool.eq_false_iff]
            intro hc
            exact hasL_ok h1 ((looksL_ok hy d).1 (by simpa using hc))
          · rw [e] at h3
            exact hasL_ok h3 (by simp)
      · cases hd : y.dst with
        | none => rfl
        | some d =>
          rw [hd] at h2
          simp only [Bool.not_eq_true']
          rw [Bool.eq_false_iff]
          intro hc
          exact hasL_ok h2 ((looksL_ok hx d).1 (by simpa using hc))
    · cases h
  · cases h
def bnd (e : Edge) : Bool := match e.ground with
  | .textOnly _ => false
  | .gcOnly _ => false
  | _ => true
theorem bnd_eq (e : Edge) : Region.binds .any e = bnd e := by
  unfold Region.binds bnd
  cases e.ground <;> rfl
def getB : List Bool → Nat → Bool → Bool
  | [], _, d => d
  | b :: _, 0, _ => b
  | _ :: r, i + 1, d => getB r i d
theorem getB_eq : ∀ (l : List Bool) (i : Nat) (d : Bool), getB l i d = l.toArray.getD i d
  | [], i, d => by simp [getB]
  | b :: r, 0, d => by simp [getB]
  | b :: r, i + 1, d => by
    rw [getB, getB_eq r i d]; simp
def waitsOn (i : Nat) : List Edge → Bool
  | [] => false
  | e :: r => match bnd e, Nat.beq e.on i with
    | true, true => true
    | _, _ => waitsOn i r
theorem waitsOn_ok {i : Nat} : ∀ {es : List Edge}, waitsOn i es = true → (es.any fun e => Region.binds .any e && e.on == i) = true
  | [], h => by cases h
  | e :: r, h => by
    simp only [waitsOn] at h
    rw [List.any_cons, bnd_eq]
    split at h
    · rename_i h1 h2
      rw [h1, show (e.on == i) = true from beq_iff_eq.2 (Nat.eq_of_beq_eq_true h2)]; rfl
    · rw [waitsOn_ok h, Bool.or_true]
def freeL (l : List Oper) (i : Nat) (oi : Oper) : Nat → List Oper → List Bool → Bool
  | _, [], _ => true
  | j, oj :: r, b :: bs => match Nat.beq j i, b with
    | true, _ => freeL l i oi (j + 1) r bs
    | _, true => freeL l i oi (j + 1) r bs
    | false, false => match waitsOn i oj.after.toList with
      | true => freeL l i oi (j + 1) r bs
      | false => match apartL l oi oj with
        | true => freeL l i oi (j + 1) r bs
        | false => false
  | _, _ :: _, [] => false
theorem freeL_ok {l : List Oper} {i : Nat} {oi : Oper} : ∀ {r : List Oper} {bs : List Bool} {j0 : Nat}, freeL l i oi j0 r bs = true → ∀ k oj, r[k]? = some oj → (j0 + k == i || bs.toArray.getD k true || (oj.after.any (fun e => Region.binds .any e && e.on == i) || oi.apart l.toArray oj)) = true
  | [], _, _, _, k, oj, hk => by simp at hk
  | o :: r, [], _, h, _, _, _ => by cases h
  | o :: r, b :: bs, j0, h, k, oj, hk => by
    simp only [freeL] at h
    have step : freeL l i oi (j0 + 1) r bs = true → 0 < k → (j0 + k == i || (b :: bs).toArray.getD k true || (oj.after.any (fun e => Region.binds .any e && e.on == i) || oi.apart l.toArray oj)) = true := fun h h0 => by
      obtain ⟨k', rfl⟩ : ∃ k', k = k' + 1 := ⟨k - 1, by omega⟩
      have := freeL_ok h k' oj (by simpa using hk)
      rw [show j0 + (k' + 1) = j0 + 1 + k' by omega, show (b :: bs).toArray.getD (k' + 1) true = bs.toArray.getD k' true by simp]
      exact this
    rcases Nat.eq_zero_or_pos k with rfl | hk0
    · have hoj : o = oj := by simpa using hk
      subst hoj
      have hb : (b :: bs).toArray.getD 0 true = b := by simp
      rw [hb]
      cases hji : Nat.beq j0 i with
      | true => rw [show (j0 + 0 == i) = true from beq_iff_eq.2 (Nat.eq_of_beq_eq_true hji)]; rfl
      | false =>
        cases b with
        | true => simp
        | false =>
          simp only [hji] at h
          cases hw : waitsOn i o.after.toList with
          | true =>
            have := waitsOn_ok hw
            rw [show (o.after.any fun e => Region.binds .any e && e.on == i) = true by rw [← Array.any_toList]; exact this]; simp
          | false =>
            cases ha : apartL l oi o with
            | true => rw [apartL_ok ha]; simp
            | false => simp only [hw, ha] at h; cases h
    · refine step ?_ hk0
      split at h
      · exact h
      · exact h
      · split at h
        · exact h
        · split at h
          · exact h
          · cases h
theorem freeL_free {l : List Oper} {lb : List Bool} {i : Nat} {oi : Oper} (hi : l.toArray[i]? = some oi) (h : freeL l i oi 0 l lb = true) : Region.free .any l.toArray lb.toArray i = true := by
  unfold Region.free
  rw [hi]
  simp only [List.all_eq_true, List.mem_range]
  intro j hj
  have hj' : j < l.length := by simpa using hj
  have := freeL_ok h j l[j] (by simp [hj'])
  have e : l.toArray[j]? = some l[j] := by simp [hj']
  rw [e]
  simpa using this
def readyOp (lb : List Bool) : List Edge → Bool
  | [] => true
  | e :: r => match bnd e with
    | true => match getB lb e.on false with
      | true => readyOp lb r
      | false => false
    | false => readyOp lb r
theorem readyOp_eq {lb : List Bool} : ∀ {es : List Edge}, readyOp lb es = es.all fun e => !Region.binds .any e || lb.toArray.getD e.on false
  | [] => rfl
  | e :: r => by
    simp only [readyOp]
    rw [List.all_cons, bnd_eq, ← getB_eq]
    cases bnd e <;> cases getB lb e.on false <;> simp [readyOp_eq (es := r)]
def readyL (lb : List Bool) : Nat → List Oper → List Bool → List Nat
  | j, o :: r, false :: bs => match readyOp lb o.after.toList with
    | true => j :: readyL lb (j + 1) r bs
    | false => readyL lb (j + 1) r bs
  | j, _ :: r, true :: bs => readyL lb (j + 1) r bs
  | _, _, _ => []
theorem readyL_eq {lb : List Bool} {ops : Array Oper} {listed : Array Bool} (hl : lb.toArray = listed) : ∀ {r : List Oper} {bs : List Bool} {j : Nat}, (∀ k, k < r.length → ops[j + k]? = r[k]? ∧ listed.getD (j + k) true = bs.toArray.getD k true) → r.length = bs.length →
    (List.range' j r.length).filter (fun i => !listed.getD i true && ((ops[i]?).map (·.after.all fun e => !Region.binds .any e || listed.getD e.on false)).getD false) = readyL lb j r bs
  | [], [], j, _, _ => rfl
  | [], b :: bs, j, _, hn => by simp at hn
  | o :: r, [], j, _, hn => by simp at hn
  | o :: r, b :: bs, j, h, hn => by
    have h0 := h 0 (by simp)
    have hrec := readyL_eq hl (r := r) (bs := bs) (j := j + 1) (fun k hk => by
      have := h (k + 1) (by simp; omega)
      rw [show j + 1 + k = j + (k + 1) by omega]
      exact ⟨by simpa using this.1, by simpa using this.2⟩) (by simpa using hn)
    rw [List.length_cons, List.range'_succ, List.filter_cons, hrec]
    rw [show ops[j]? = some o by simpa using h0.1, show listed.getD j true = b by simpa using h0.2]
    have he : o.after.all (fun e => !Region.binds .any e || listed.getD e.on false) = readyOp lb o.after.toList := by
      rw [readyOp_eq, hl, Array.all_toList]
    simp only [Option.map_some, Option.getD_some, he]
    cases b
    · simp only [readyL, Bool.not_false, Bool.true_and]
      cases readyOp lb o.after.toList <;> rfl
    · simp [readyL]
theorem ready_eq {l : List Oper} {lb : List Bool} (hn : lb.length = l.length) : Region.ready .any l.toArray lb.toArray = readyL lb 0 l lb := by
  unfold Region.ready
  rw [List.range_eq_range']
  have := readyL_eq (lb := lb) (ops := l.toArray) rfl (r := l) (bs := lb) (j := 0) (fun k hk => by simp) hn.symm
  simpa using this
def setB : List Bool → Nat → List Bool
  | [], _ => []
  | _ :: r, 0 => true :: r
  | b :: r, i + 1 => b :: setB r i
theorem setB_eq : ∀ (l : List Bool) (i : Nat), setB l i = l.set i true
  | [], _ => rfl
  | _ :: r, 0 => rfl
  | b :: r, i + 1 => by rw [setB, setB_eq r i]; rfl
theorem setB_arr (l : List Bool) (i : Nat) : l.toArray.setIfInBounds i true = (setB l i).toArray := by rw [setB_eq]; simp
theorem setB_len (l : List Bool) (i : Nat) : (setB l i).length = l.length := by rw [setB_eq]; simp
def selL : List Oper → Bool
  | [] => true
  | o :: r => match o.op with
    | .select .. => false
    | .defer _ => false
    | _ => selL r
theorem selL_ok : ∀ {l : List Oper}, selL l = true → Region.noSelect l.toArray = true
  | [], _ => by simp [Region.noSelect]
  | o :: r, h => by
    have := selL_ok (l := r)
    simp only [Region.noSelect, List.all_toArray, List.all_cons] at this ⊢
    simp only [selL] at h
    split at h
    · cases h
    · cases h
    · rename_i hs _
      rw [Bool.and_eq_true]
      refine ⟨?_, this h⟩
      split
      · rename_i e; exact absurd e (hs _ _)
      · rfl
theorem selL_nd : ∀ {l : List Oper}, selL l = true → NoDefer l.toArray
  | [], _, i, o, hi => by simp at hi
  | x :: r, h, i, o, hi => by
    have := selL_nd (l := r)
    simp only [selL] at h
    split at h
    · cases h
    · cases h
    · rename_i hd
      cases i with
      | zero => simp at hi; subst hi; exact hd
      | succ i => exact this h i o (by simpa using hi)

/-- A region whose operations are taken in any order: what is listed is a list. -/
def TL (F : Fence) (P : Program) (X : Cx) (l : List Oper) (Q : Exit → Act → World → Prop) (K : Nat → Bool) (fuel : Nat) (lb : List Bool) (st : AS) : Prop :=
  selL l = true ∧ lb.length = l.length → TH F P X l.toArray Q K fuel lb.toArray st

/-- The first operation of a list that may be taken. -/
def take1? (T : Tys) (N : Nat) (K : Nat → Bool) (l : List Oper) (lb : List Bool) (st : AS) : List Nat → Option (Nat × AS × List Prop)
  | [] => none
  | i :: is => match nthO l i with
    | some o => match dstOk N o, aguard l st o with
      | true, some false => match freeL l i o 0 l lb with
        | true => some (i, st.put o.dst (.t []), [])
        | false => take1? T N K l lb st is
      | true, some true => match apure T K o st with
        | some (av, qs) => match freeL l i o 0 l lb with
          | true => some (i, st.put o.dst av, qs)
          | false => take1? T N K l lb st is
        | none => take1? T N K l lb st is
      | _, _ => take1? T N K l lb st is
    | none => take1? T N K l lb st is
def normB.{u} {α : Sort u} : List Bool → (List Bool → α) → α
  | [], k => k []
  | true :: r, k => normB r fun r => k (true :: r)
  | false :: r, k => normB r fun r => k (false :: r)
theorem normB_eq.{u} {α : Sort u} : ∀ (l : List Bool) (k : List Bool → α), normB l k = k l
  | [], _ => rfl
  | true :: r, k => by rw [normB, normB_eq r]
  | false :: r, k => by rw [normB, normB_eq r]
def autoT (T : Tys) (N : Nat) (K : Nat → Bool) (l : List Oper) : Nat → List Bool → AS → List Prop → List Bool × AS × List Prop × Nat
  | 0, lb, st, ps => (lb, st, ps, 0)
  | f + 1, lb, st, ps => match take1? T N K l lb st (readyL lb 0 l lb) with
    | some (i, st', qs) => appK qs ps fun ps => normB (setB lb i) fun lb => st'.force fun s => autoT T N K l f lb s ps
    | none => (lb, st, ps, f + 1)
/-- At least one. -/
def autoT1 (T : Tys) (N : Nat) (K : Nat → Bool) (l : List Oper) (f : Nat) (lb : List Bool) (st : AS) : Option (List Bool × AS × List Prop × Nat) := match f with
  | 0 => none
  | f + 1 => match take1? T N K l lb st (readyL lb 0 l lb) with
    | some (i, st', qs) => some (appK qs [] fun ps => normB (setB lb i) fun lb => st'.force fun s => autoT T N K l f lb s ps)
    | none => none

theorem take1_ok {N : Nat} {l : List Oper} {lb : List Bool} {i : Nat} {qs : List Prop} : ∀ {is : List Nat}, take1? T N K l lb st is = some (i, st', qs) →
    i ∈ is ∧ ∃ o, l.toArray[i]? = some o ∧ Region.free .any l.toArray lb.toArray i = true ∧ dstOk N o = true ∧
      ((aguard l st o = some true ∧ ∃ av, apure T K o st = some (av, qs) ∧ st' = st.put o.dst av) ∨ (aguard l st o = some false ∧ st' = st.put o.dst (.t []) ∧ qs = []))
  | [], h => by cases h
  | j :: is, h => by
    have rec' : take1? T N K l lb st is = some (i, st', qs) → i ∈ j :: is ∧ ∃ o, l.toArray[i]? = some o ∧ Region.free .any l.toArray lb.toArray i = true ∧ dstOk N o = true ∧
      ((aguard l st o = some true ∧ ∃ av, apure T K o st = some (av, qs) ∧ st' = st.put o.dst av) ∨ (aguard l st o = some false ∧ st' = st.put o.dst (.t []) ∧ qs = [])) := fun h => by
      obtain ⟨h1, h2⟩ := take1_ok h
      exact ⟨List.mem_cons_of_mem _ h1, h2⟩
    simp only [take1?] at h
    split at h
    · rename_i o ho
      have ho' : l.toArray[j]? = some o := by rw [← Array.getElem?_toList, ← nthO_eq]; exact ho
      split at h
      · rename_i hd hg
        split at h
        · rename_i hf
          cases h
          exact ⟨List.mem_cons_self .., o, ho', freeL_free ho' hf, hd, .inr ⟨hg, rfl, rfl⟩⟩
        · exact rec' h
      · rename_i hd hg
        split at h
        · rename_i av qs' ha
          split at h
          · rename_i hf
            cases h
            exact ⟨List.mem_cons_self .., o, ho', freeL_free ho' hf, hd, .inl ⟨hg, av, ha, rfl⟩⟩
          · exact rec' h
        · exact rec' h
      · exact rec' h
    · exact rec' h

theorem TL.take1 [Free F] (hT : T.Ok P) {l : List Oper} {lb : List Bool} {i fuel : Nat} {qs : List Prop} (hQ : PanicOk Q) (h : take1? T X.N K l lb st (readyL lb 0 l lb) = some (i, st', qs)) (hq : ∀ p ∈ qs, p)
    (hk : TL F P X l Q K fuel (setB lb i) st') : TL F P X l Q K (fuel + 1) lb st := by
  rintro ⟨hs, hn⟩
  obtain ⟨hm, o, ho, hf, hd, hh⟩ := take1_ok h
  have hk' := hk ⟨hs, by rw [setB_len, hn]⟩
  rw [← setB_arr] at hk'
  refine TH.take1 hT ho (selL_ok hs) (selL_nd hs) hf (by rw [ready_eq hn]; simpa using hm) hQ hd ?_
  rcases hh with ⟨hg, av, ha, rfl⟩ | ⟨hg, rfl, rfl⟩
  · exact .inl ⟨hg, av, qs, ha, hq, hk'⟩
  · exact .inr ⟨hg, hk'⟩

theorem autoT_ok [Free F] (hT : T.Ok P) {l : List Oper} (hQ : PanicOk Q) : ∀ {f f' : Nat} {lb lb' : List Bool} {st st' : AS} {acc ps : List Prop}, autoT T X.N K l f lb st acc = (lb', st', ps, f') → (∀ p ∈ ps, p) →
    (∀ p ∈ acc, p) ∧ (TL F P X l Q K f' lb' st' → TL F P X l Q K f lb st)
  | 0, f', lb, lb', st, st', acc, ps, h, hp => by
    cases h; exact ⟨hp, id⟩
  | f + 1, f', lb, lb', st, st', acc, ps, h, hp => by
    simp only [autoT] at h
    split at h
    · rename_i i st1 qs h1
      rw [appK_eq] at h
      simp only [AS.force_eq, normB_eq] at h
      obtain ⟨i1, i2⟩ := autoT_ok hT hQ h hp
      exact ⟨fun p hp => i1 p (mem_appP.2 (.inr hp)), fun hk => TL.take1 hT hQ h1 (fun p hp => i1 p (mem_appP.2 (.inl hp))) (i2 hk)⟩
    · cases h; exact ⟨hp, id⟩

/-- Everything that can be taken is taken. -/
theorem TL.auto [Free F] {l : List Oper} {lb lb' : List Bool} {ps : List Prop} {N f f' : Nat} (hT : T.Ok P) (hN : X.N = N) (hQ : PanicOk Q) (h : st.force (fun s => autoT1 T N K l f lb s) = some (lb', st', ps, f'))
    (hps : AllP ps) (hk : TL F P X l Q K f' lb' st') : TL F P X l Q K f lb st := by
  subst hN
  rw [AS.force_eq] at h
  cases f with
  | zero => cases h
  | succ f =>
    simp only [autoT1] at h
    split at h
    · rename_i i st1 qs h1
      rw [Option.some_inj, appK_eq] at h
      simp only [AS.force_eq, normB_eq] at h
      obtain ⟨i1, i2⟩ := autoT_ok (F := F) hT hQ h hps.mem
      exact TL.take1 hT hQ h1 (fun p hp => i1 p (mem_appP.2 (.inl hp))) (i2 hk)
    · cases h

def repB : List Oper → List Bool
  | [] => []
  | _ :: r => false :: repB r
theorem repB_eq : ∀ (l : List Oper), repB l = List.replicate l.length false
  | [] => rfl
  | _ :: r => by rw [repB, repB_eq r]; rfl
theorem TE.drawN {id : Nat} {l : List Oper} {lb : List Bool} (hm : P.follows .mixedOrders = true) (hs : selL l = true) (hb : normB (repB l) some = some lb) (h : TL F P X l Q (fun i => i.blt st.nid) l.length lb st) : TE X ((Code.region id l.toArray true).wpIn F 0 P Q) st := by
  rw [normB_eq, repB_eq] at hb
  cases hb
  exact TE.draw _ hm (h ⟨hs, by simp⟩)
/-- With a choice of what the region does not change. -/
theorem TE.drawK (K : Nat → Bool) {id : Nat} {l : List Oper} {lb : List Bool} (hm : P.follows .mixedOrders = true) (hs : selL l = true) (hb : normB (repB l) some = some lb) (h : TL F P X l Q K l.length lb st) : TE X ((Code.region id l.toArray true).wpIn F 0 P Q) st := by
  rw [normB_eq, repB_eq] at hb
  cases hb
  exact TE.draw _ hm (h ⟨hs, by simp⟩)
def hasCp : List Oper → Bool
  | [] => false
  | o :: l => match o.op with
    | .call c => match c.callee with
      | .builtin .copy => true
      | .builtin .clear => true
      | _ => hasCp l
    | _ => hasCp l
theorem TE.drawC {id : Nat} {l : List Oper} {lb : List Bool} (_hc : hasCp l = true) (hm : P.follows .mixedOrders = true) (hs : selL l = true) (hb : normB (repB l) some = some lb) (h : TL F P X l Q (fun _ => false) l.length lb st) : TE X ((Code.region id l.toArray true).wpIn F 0 P Q) st := TE.drawK _ hm hs hb h
theorem TL.done {fuel : Nat} {l : List Oper} {lb : List Bool} (hr : readyL lb 0 l lb = []) (h : TE X (Q .normal) st) : TL F P X l Q K fuel lb st :=
  fun ⟨_, hn⟩ => TH.done (by rw [ready_eq hn]; exact hr) h
theorem TL.split {l : List Oper} {t fuel : Nat} {b : Bool} {lb : List Bool} (hc : look st.env t = some (.o (.sb b))) (ht : b = true → TL F P X l Q K fuel lb (st.put (some t) (.o (.c (.bool true))))) (hf : b = false → TL F P X l Q K fuel lb (st.put (some t) (.o (.c (.bool false))))) : TL F P X l Q K fuel lb st := by
  intro hh S ν a w H sat hH hA
  have hm := sat.env _ (look_mem hc)
  have hv : a.tmps.getD t undef = .bool b := hm.2
  have key : ∀ b', b = b' → Sat X S ν (st.put (some t) (.o (.c (.bool b')))) a w := by
    rintro b' rfl
    exact sat.reput hm.1 ⟨hv, rfl⟩ trivial
  have hA' : ∀ v w', Ag K S ν (st.put (some t) v) w w' → H w' := fun v w' h => hA w' ⟨h.1, fun b hb => h.2 b (by rw [(AS.put_hp st (some t) v).1]; exact hb)⟩
  cases b
  · exact hf rfl hh S ν a w H (key _ rfl) hH (hA' _)
  · exact ht rfl hh S ν a w H (key _ rfl) hH (hA' _)
/-- The slot that ready operations wait for. -/
def gslots (l : List Oper) (st : AS) : List Nat → Option Nat
  | [] => none
  | i :: is => match nthO l i with
    | some o => match aguard l st o with
      | none => gslot l o
      | _ => gslots l st is
    | none => gslots l st is
theorem TL.gsplit {l : List Oper} {t fuel : Nat} {b : Bool} {lb : List Bool} (hg : gslots l st (readyL lb 0 l lb) = some t) (hc : look st.env t = some (.o (.sb b))) (ht : b = true → TL F P X l Q K fuel lb (st.put (some t) (.o (.c (.bool true)))))
    (hf : b = false → TL F P X l Q K fuel lb (st.put (some t) (.o (.c (.bool false))))) : TL F P X l Q K fuel lb st := TL.split hc ht hf
/-- One operation, by a law of its own. -/
def StepL (F : Fence) (P : Program) (X : Cx) (l : List Oper) (Q : Exit → Act → World → Prop) (K : Nat → Bool) (fuel : Nat) (lb : List Bool) (st : AS) (i : Nat) : Prop :=
  selL l = true ∧ lb.length = l.length → StepAt F P X l.toArray Q K fuel lb.toArray st i
def AllL (F : Fence) (P : Program) (X : Cx) (l : List Oper) (Q : Exit → Act → World → Prop) (K : Nat → Bool) (fuel : Nat) (lb : List Bool) (st : AS) : List Nat → Prop
  | [] => True
  | [i] => StepL F P X l Q K fuel lb st i
  | i :: is => StepL F P X l Q K fuel lb st i ∧ AllL F P X l Q K fuel lb st is
theorem AllL.at {l : List Oper} {fuel : Nat} {lb : List Bool} (hh : selL l = true ∧ lb.length = l.length) : ∀ {is : List Nat}, AllL F P X l Q K fuel lb st is → AllAt F P X l.toArray Q K fuel lb.toArray st is
  | [], _ => trivial
  | [i], h => h hh
  | i :: k :: is, h => ⟨h.1 hh, AllL.at hh h.2⟩
theorem TL.branch [Free F] {l : List Oper} {i : Nat} {is : List Nat} {fuel : Nat} {lb : List Bool} (hr : readyL lb 0 l lb = i :: is) (h : AllL F P X l Q K fuel lb st (i :: is)) : TL F P X l Q K (fuel + 1) lb st :=
  fun hh => TH.branch (i :: is) (by rw [ready_eq hh.2]; exact hr) (by simp) (h.at hh)
theorem StepL.mem (hT : T.Ok P) {i fuel : Nat} {l : List Oper} {lb lb' : List Bool} {o : Oper} {ps : List Prop} {N : Nat} (hN : X.N = N) (hi : nthO l i = some o) (hd : dstOk N o = true) (hg : aguard l st o = some true) (h : st.force (fun s => amem T K o s) = some (st', ps)) (hps : AllP ps) (hb : normB (setB lb i) some = some lb') (hk : TL F P X l Q K fuel lb' st') : StepL F P X l Q K fuel lb st i :=
  fun hh => StepAt.mem hT hN hi hd hg h hps (by
    rw [normB_eq] at hb
    cases hb
    have := hk ⟨hh.1, by rw [setB_len, hh.2]⟩
    rwa [← setB_arr] at this)
theorem StepL.pure (hT : T.Ok P) {i fuel : Nat} {l : List Oper} {lb lb' : List Bool} {o : Oper} {av : AV} {ps : List Prop} {N : Nat} (hN : X.N = N) (hi : nthO l i = some o) (hd : dstOk N o = true) (hg : aguard l st o = some true) (h : st.force (fun s => apure T (fun _ => true) o s) = some (av, ps)) (hps : AllP ps) (hb : normB (setB lb i) some = some lb') (hk : TL F P X l Q K fuel lb' (st.put o.dst av)) : StepL F P X l Q K fuel lb st i :=
  fun hh => StepAt.pure hT hN hi hd hg h hps (by
    rw [normB_eq] at hb
    cases hb
    have := hk ⟨hh.1, by rw [setB_len, hh.2]⟩
    rwa [← setB_arr] at this)
theorem StepL.call0 {ι : Type} {f : FuncId} {args : List AV} {M : Nat} {pre : ι → Prop} {res : ι → AV} {gives : ι → List Chunk} (hcon : Con P f args [] 0 M pre res gives) {i fuel : Nat} {l : List Oper} {lb lb' : List Bool} {o : Oper} {c : Call} {N : Nat} (hN : X.N = N) (hi : nthO l i = some o) (hd : dstOk N o = true) (hgd : aguard l st o = some true) (ho : o.op = .call c)
    {caps vs : List AV} (hc : acallee st c.callee = some (f, caps)) (hx : aops st c.args.toList = some vs) (hargs : All2 LeV (vs ++ caps) (args.map (AV.ren id)))
    (hb : normB (setB lb i) some = some lb') (hk : ∀ x, pre x → TL F P X l Q K fuel lb' (st.called st.hp id 0 M o.dst (res x) (gives x))) : StepL F P X l Q K fuel lb st i :=
  fun hh => StepAt.call0 hcon hN hi hd hgd ho hc hx hargs fun x hx' => by
    rw [normB_eq] at hb
    cases hb
    have := hk x hx' ⟨hh.1, by rw [setB_len, hh.2]⟩
    rwa [← setB_arr] at this
theorem StepL.callM {ι : Type} {f : FuncId} {args : List AV} {takes : List Chunk} {m M : Nat} {pre : ι → Prop} {res : ι → AV} {gives : ι → List Chunk} (hcon : Con P f args takes m M pre res gives) {i fuel : Nat} {l : List Oper} {lb lb' : List Bool} {o : Oper} {c : Call} {N : Nat} (hN : X.N = N) (hi : nthO l i = some o) (hd : dstOk N o = true) (hgd : aguard l st o = some true) (ho : o.op = .call c)
    {caps vs : List AV} {hrest : List Chunk} (hc : acallee st c.callee = some (f, caps)) (hx : aops st c.args.toList = some vs) {g : Nat → Nat} (hgg : g = gOf 0 st.hp takes (pairVs (vs ++ caps) args)) (hargs : All2 LeV (vs ++ caps) (args.map (AV.ren g))) (ht : TakeH st.hp (takes.map (Chunk.ren g)) hrest)
    (hK : ∀ c ∈ takes, K (g c.id) = false) (hg : ∀ i, i < m → g i < st.nid) (hb : normB (setB lb i) some = some lb') (hk : ∀ x, pre x → TL F P X l Q K fuel lb' (st.called hrest g m M o.dst (res x) (gives x))) : StepL F P X l Q K fuel lb st i :=
  fun hh => StepAt.call hcon hN hi hd hgd ho g hc hx hargs ht hK hg fun x hx' => by
    rw [normB_eq] at hb
    cases hb
    have := hk x hx' ⟨hh.1, by rw [setB_len, hh.2]⟩
    rwa [← setB_arr] at this
/-- A state of a family. -/
def At (X : Cx) {ι : Type} (pre : ι → Prop) (inv : ι → AS) (a : Act) (w : World) : Prop := ∃ y S ν, pre y ∧ Sat X S ν (inv y) a w
theorem TE.at {ι : Type} {pre : ι → Prop} {inv : ι → AS} (y : ι) (hy : pre y) (h : Ent X (gEnv X.m st (inv y)) st (inv y)) : TE X (At X pre inv) st :=
  fun _ _ _ _ sat => ⟨y, _, _, hy, h.sat sat⟩
/-- All ways through the first part end in states of one family. -/
theorem TE.seqM {ι : Type} (pre : ι → Prop) (inv : ι → AS) {c d : Code} (h1 : TE X (c.wpIn F 0 P (Exit.then (At X pre inv) Q)) st) (h2 : ∀ x, pre x → TE X (d.wpIn F 0 P Q) (inv x)) : TE X ((c.seq d).wpIn F 0 P Q) st := by
  refine TE.seq fun S ν a w sat => Code.wpIn_mono (fun e a' w' q => ?_) (h1 S ν a w sat)
  cases e with
  | normal => obtain ⟨y, S', ν', hy, hs⟩ := q; exact h2 y hy _ _ _ _ hs
  | _ => exact q
/-- One operation alone is ready. -/
theorem TL.one [Free F] {l : List Oper} {i : Nat} {fuel : Nat} {lb : List Bool} (hr : readyL lb 0 l lb = [i]) (h : StepL F P X l Q K fuel lb st i) : TL F P X l Q K (fuel + 1) lb st := TL.branch hr h
end
end Go.Proofs.Ytfcihdkflnpcgaa.Am
