/- The abstract machine: slices seen as parts, loops whose state is reckoned out, structs compared. No program is named. -/
import Derived.Test.YtfcihdkflnpcgaaAmN
import Derived.Laws.StructEq
namespace Go.Proofs.Ytfcihdkflnpcgaa.Am
open Go.RowKit Lw

abbrev U : Unit → Prop := fun _ => True
abbrev G0 : Unit → List Chunk := fun _ => []
def ownA (id sz n C : Nat) : A1 → A1
  | .own i => match Nat.beq i id with
    | true => .vw id sz 0 n C
    | false => .own i
  | a => a
def ownL (id sz n C : Nat) : List A1 → List A1
  | [] => []
  | a :: as => ownA id sz n C a :: ownL id sz n C as
def ownV (id sz n C : Nat) : AV → AV
  | .o a => .o (ownA id sz n C a)
  | .g as => .g (ownL id sz n C as)
  | v => v
def ownE (id sz n C : Nat) : Env → Env
  | [] => []
  | (t, v) :: e => (t, ownV id sz n C v) :: ownE id sz n C e
section
variable {F : Fence} {P : Program} {T : Tys} {X : Cx} {S : Nat → Prop} {ν : Nat → Value} {st st' : AS} {a : Act} {w : World} {Q : Exit → Act → World → Prop} {R : Act → World → Prop} {K : Nat → Bool}
theorem ownA_rel {id g sz n C : Nat} (h1 : ν id = .slice (some ⟨g, 0, none⟩) n C) (hn : n ≤ C) {a : A1} {u : Value} (h : a.rel w S ν u) : (ownA id sz n C a).rel w S ν u := by
  unfold ownA
  split
  · split
    · rename_i hi
      have hi := Nat.eq_of_beq_eq_true hi
      subst hi
      obtain ⟨rfl, _⟩ := h
      exact ⟨g, n, C, 0, h1, h1, hn, by omega, fun _ => by omega⟩
    · exact h
  · exact h
theorem ownA_lt {id sz n C m : Nat} {a : A1} (h : a.lt m) : (ownA id sz n C a).lt m := by
  unfold ownA
  split
  · split
    · rename_i hi
      have hi := Nat.eq_of_beq_eq_true hi
      subst hi; exact h
    · exact h
  · exact h
theorem ownL_rel {id g sz n C : Nat} (h1 : ν id = .slice (some ⟨g, 0, none⟩) n C) (hn : n ≤ C) : ∀ {as : List A1} {us : List Value}, All2 (A1.rel w S ν) as us → All2 (A1.rel w S ν) (ownL id sz n C as) us
  | [], [], _ => trivial
  | _ :: _, _ :: _, ⟨a1, a2⟩ => ⟨ownA_rel h1 hn a1, ownL_rel h1 hn a2⟩
  | [], _ :: _, h => h.elim
  | _ :: _, [], h => h.elim
theorem ownL_lt {id sz n C m : Nat} : ∀ {as : List A1}, (∀ a ∈ as, a.lt m) → ∀ a ∈ ownL id sz n C as, a.lt m
  | _ :: _, h, x, hx => by
    rcases List.mem_cons.1 hx with rfl | hx
    · exact ownA_lt (h _ (List.mem_cons_self ..))
    · exact ownL_lt (fun a ha => h a (List.mem_cons_of_mem _ ha)) x hx
theorem ownV_rel {id g sz n C : Nat} (h1 : ν id = .slice (some ⟨g, 0, none⟩) n C) (hn : n ≤ C) {v : AV} {u : Value} (h : v.rel w S ν u) : (ownV id sz n C v).rel w S ν u := by
  cases v with
  | o a => exact ownA_rel (w := w) (S := S) h1 hn h
  | g as => obtain ⟨us, e, r⟩ := h; exact ⟨us, e, ownL_rel h1 hn r⟩
  | t xs => exact h
theorem ownV_lt {id sz n C m : Nat} {v : AV} (h : v.lt m) : (ownV id sz n C v).lt m := by
  cases v with
  | o a => exact ownA_lt h
  | g as => exact ownL_lt h
  | t xs => exact h
theorem ownE_mem {id sz n C : Nat} : ∀ {e : Env} {p : Nat × AV}, p ∈ ownE id sz n C e → ∃ v, (p.1, v) ∈ e ∧ p.2 = ownV id sz n C v
  | (t, v) :: e, p, h => by
    rcases List.mem_cons.1 h with rfl | h
    · exact ⟨v, List.mem_cons_self .., rfl⟩
    · obtain ⟨v, h1, h2⟩ := ownE_mem h
      exact ⟨v, List.mem_cons_of_mem _ h1, h2⟩
theorem Sat.view (id : Nat) {E sz : Nat} {ct : Ct} (htk : findOwn (fun _ => true) st.hp id = some (E, sz, ct)) (hpos : 0 < ct.n) (sat : Sat X S ν st a w) : ∃ C, ct.n ≤ C ∧ C ≤ 9223372036854775807 ∧ Sat X S ν ⟨ownE id sz ct.n C st.env, st.hp, st.nid⟩ a w := by
  obtain ⟨xs, o1, o2⟩ := sat.hp _ (findOwn_ok htk).1
  have hor := o1.2
  rcases hor with ⟨_, e⟩ | ⟨g, cap, cur, e, _, hg, hnc, hcm, _⟩
  · omega
  · refine ⟨cap, hnc, by unfold maxLen at hcm; omega, Sat.reenv (e := st.env) sat fun p hp => ?_⟩
    obtain ⟨v, h1, h2⟩ := ownE_mem hp
    exact ⟨v, h1, fun u hu => by rw [h2]; exact ownV_rel e hnc hu, fun hl => by rw [h2]; exact ownV_lt hl⟩
/-- A slice of the call's own is seen as a part of what it lies in. -/
theorem TE.view (id : Nat) {E sz : Nat} {ct : Ct} (htk : findOwn (fun _ => true) st.hp id = some (E, sz, ct)) (hpos : 0 < ct.n) (h : ∀ C, ct.n ≤ C → C ≤ 9223372036854775807 → TE X R ⟨ownE id sz ct.n C st.env, st.hp, st.nid⟩) : TE X R st := by
  intro S ν a w sat
  obtain ⟨C, h1, h2, h3⟩ := sat.view id htk hpos
  exact h C h1 h2 S ν a w h3
/-- A part that begins where the whole begins is a slice of the call's own. -/
theorem TE.shut (t : Nat) {id sz n k E : Nat} {ct : Ct} {rest : List Chunk} (hl : look st.env t = some (.o (.vw id sz 0 n k))) (htk : takeOwn (fun _ => true) st.hp id = some (E, sz, ct, rest)) (h0 : 0 < k) (hn : n ≤ ct.n)
    (h : TE X R ((AS.mk st.env (.own st.nid E sz (headC ct n) :: rest) (st.nid + 1)).put (some t) (.o (.own st.nid)))) : TE X R st := by
  intro S ν a w sat
  obtain ⟨ht, hv⟩ := sat.env _ (look_mem hl)
  obtain ⟨g, N, C, oo, v1, v2, v3, v4, v5⟩ := vw_at (w := w) (S := S) hv
  obtain ⟨hp, _⟩ := takeOwn_perm htk
  have hm : Chunk.own id E sz ct ∈ st.hp := hp.symm.subset (List.mem_cons_self ..)
  obtain ⟨xs, h1, h2⟩ := sat.hp _ hm
  obtain ⟨hN, cur, hg, hnc, hcm, hcs, htake, hxl⟩ := own_at h1 v1
  have hoo : oo = 0 := by rw [v5 h0]; omega
  subst hoo
  have hkC : k = C := by omega
  subst hkC
  have hlt := sat.hlt _ hm
  have hbk : (Chunk.own id E sz ct).blk ν = some g := by simp [Chunk.blk, v1, Value.ownBlock]
  have hblk : blks ν [Chunk.own id E sz ct] = [g] := by simp [blks, hbk]
  have hbs := sat.blk g (mem_blks.2 ⟨_, hm, hbk⟩)
  have hb : n * sz ≤ ct.n * sz := Nat.mul_le_mul_right _ hn
  have hb1 : ct.n * sz ≤ k * sz := Nat.mul_le_mul_right _ hnc
  refine h S (upd ν st.nid (.slice (some ⟨g, 0, none⟩) n k)) a w (Sat.reput ?_ ht (v := .o (.own st.nid)) ⟨by rw [upd_same]; exact v2, by rw [upd_same]; rfl⟩ (Nat.lt_succ_self _))
  refine sat.swap (nid := st.nid + 1) (takes := [.own id E sz ct]) (gives := [.own st.nid E sz (headC ct n)]) hp (Fr.refl _ _) upd_lt (fun _ h => h) (fun b hb => ⟨(sat.imm b hb).1, .inl hb⟩) (fun ch hc => ?_) ?_ (fun b hb => ?_) (fun ch hc => ?_) (Nat.le_succ _)
  · rw [List.mem_singleton.1 hc]
    refine ⟨xs.take (n * sz), ⟨?_, .inr ⟨g, k, cur, upd_same _ _ _, Nat.zero_le _, hg, by show n ≤ k; omega, hcm, hcs, ?_⟩⟩, fun i j hi hj => ?_⟩
    · rw [List.length_take, hxl]; show _ = n * sz; omega
    · rw [← htake, List.take_take, Nat.min_eq_left hb]; rfl
    · have hi : i < n := hi
      have hb2 : (i + 1) * sz ≤ n * sz := Nat.mul_le_mul_right _ hi
      rw [Nat.add_mul, Nat.one_mul] at hb2
      obtain ⟨u, u1, u2⟩ := h2 i j (by omega) hj
      exact ⟨u, by rw [List.getElem?_take, if_pos (by omega)]; exact u1, u2⟩
  · simp [blks, Chunk.blk, upd_same, Value.ownBlock]
  · have : b = g := by simpa [blks, Chunk.blk, upd_same, Value.ownBlock] using hb
    subst this
    exact ⟨hbs.1, hbs.2.1, .inl (by rw [hblk]; simp)⟩
  · rw [List.mem_singleton.1 hc]; exact Nat.lt_succ_self _

/-! Loops. -/
def dsts : Code → List Nat
  | .region _ ops _ => ops.toList.filterMap (·.dst)
  | .seq x y => dsts x ++ dsts y
  | .cond _ x y => dsts x ++ dsts y
  | .block _ x => dsts x
  | .loop x => dsts x
  | .rangeFunc _ ps x y => ps.toList ++ (dsts x ++ dsts y)
  | .scope x => dsts x
  | _ => []
def memN : List Nat → Nat → Bool
  | [], _ => false
  | a :: l, i => match Nat.beq a i with
    | true => true
    | false => memN l i
def dropE (ts : List Nat) : Env → Env
  | [] => []
  | (t, v) :: e => match memN ts t with
    | true => dropE ts e
    | false => (t, v) :: dropE ts e
def dropH (ids : List Nat) : List Chunk → List Chunk
  | [] => []
  | c :: r => match memN ids c.id with
    | true => dropH ids r
    | false => c :: dropH ids r
def appE : Env → Env → Env
  | [], e => e
  | p :: r, e => p :: appE r e
def appH : List Chunk → List Chunk → List Chunk
  | [], e => e
  | p :: r, e => p :: appH r e
/-- A loop: what its rounds do not write stays as it is; es, hs: what they write. -/
theorem TE.loopG [Free F] {ι : Type} (pre : ι → Prop) (es : ι → Env) (ids : List Nat) (hs : ι → List Chunk) (μ : ι → Nat) (x0 : ι) {c : Code} {E0 : Env} {H0 : List Chunk} {n0 : Nat}
    (hE : st.force (fun s => forceE (dropE (dsts c) s.env) fun e => forceH (dropH ids s.hp) fun h => AS.mk e h s.nid) = ⟨E0, H0, n0⟩)
    (h0 : pre x0) (he : Ent X (gEnv X.m st ⟨appE (es x0) E0, appH (hs x0) H0, n0⟩) st ⟨appE (es x0) E0, appH (hs x0) H0, n0⟩)
    (round : ∀ x, pre x → TE X (c.wpIn F 0 P (Exit.then (Again X pre (fun x => ⟨appE (es x) E0, appH (hs x) H0, n0⟩) μ (μ x)) Q)) ⟨appE (es x) E0, appH (hs x) H0, n0⟩) : TE X ((Code.loop c).wpIn F 0 P Q) st :=
  TE.loop' pre (fun x => ⟨appE (es x) E0, appH (hs x) H0, n0⟩) μ x0 h0 he round

/-! Two, three, four operations that may come up. -/
theorem TL.two [Free F] {l : List Oper} {i j : Nat} {fuel : Nat} {lb : List Bool} (hr : readyL lb 0 l lb = [i, j]) (h1 : StepL F P X l Q K fuel lb st i) (h2 : StepL F P X l Q K fuel lb st j) : TL F P X l Q K (fuel + 1) lb st := TL.branch hr ⟨h1, h2⟩
theorem TL.three [Free F] {l : List Oper} {i j k : Nat} {fuel : Nat} {lb : List Bool} (hr : readyL lb 0 l lb = [i, j, k]) (h1 : StepL F P X l Q K fuel lb st i) (h2 : StepL F P X l Q K fuel lb st j) (h3 : StepL F P X l Q K fuel lb st k) : TL F P X l Q K (fuel + 1) lb st := TL.branch hr ⟨h1, h2, h3⟩
theorem TL.four [Free F] {l : List Oper} {i j k m : Nat} {fuel : Nat} {lb : List Bool} (hr : readyL lb 0 l lb = [i, j, k, m]) (h1 : StepL F P X l Q K fuel lb st i) (h2 : StepL F P X l Q K fuel lb st j) (h3 : StepL F P X l Q K fuel lb st k) (h4 : StepL F P X l Q K fuel lb st m) : TL F P X l Q K (fuel + 1) lb st := TL.branch hr ⟨h1, h2, h3, h4⟩
/-! Structs of cells are compared. -/
def eqCell (k : TK) : A1 → A1 → Option Bool
  | .c (.int j m), .c (.int j' n) => match k, decide (j = j') with
    | .int _, true => some (decide (m = n))
    | _, _ => none
  | .c (.string s), .c (.string t) => match k with
    | .str => some (decide (s = t))
    | _ => none
  | x, y => match k, abool x, abool y with
    | .bool, some a, some b => some (decide (a = b))
    | _, _, _ => none
def eqCells (T : Tys) (as bs : List A1) : List (Nat × Nat × Nat) → Option Bool
  | [] => some true
  | (ft, off, _) :: r => match tlook T ft, nth as off, nth bs off with
    | some ti, some a, some b => match eqCell ti.k a b, eqCells T as bs r with
      | some p, some q => some (p && q)
      | _, _ => none
    | _, _, _ => none
def eqOkB (P : Program) (t : TypeId) : Bool := (P.fieldsOf t).toList.all (fun f => f.name != "_") && !P.stoodInHeld t && !P.eqGuardType P.depth t
theorem eqCell_ok (hT : T.Ok P) {ft : Nat} {ti : TI} (ht : tlook T ft = some ti) {x y : A1} {b : Bool} {u v : Value} (h : eqCell ti.k x y = some b) (hx : x.rel w S ν u) (hy : y.rel w S ν v) (d : Nat) (w' : World) : (Op.equalIn (d + 1) ft u v).run P w' = .ok b w' ∧ ti.agg = false := by
  obtain ⟨hti, hid⟩ := hT.get ht
  obtain ⟨dd, hu, hk, hrow⟩ := hti.und
  rw [hid] at hu
  unfold eqCell at h
  split at h
  · split at h
    · rename_i k' hkk hj
      cases h
      obtain ⟨rfl, _⟩ := hx
      obtain ⟨rfl, _⟩ := hy
      have hj := of_decide_eq_true hj
      subst hj
      rw [hkk] at hk
      have hk : dd = .int _ := hk
      subst hk
      exact ⟨by rw [run_equalIn_int w' d ft _ _ _ _ hu]; rfl, hrow.symm⟩
    · cases h
  · split at h
    · rename_i hkk
      cases h
      obtain ⟨rfl, _⟩ := hx
      obtain ⟨rfl, _⟩ := hy
      rw [hkk] at hk
      have hk : dd = .string := hk
      subst hk
      refine ⟨?_, hrow.symm⟩
      rw [run_equalIn_string w' d ft _ _ hu]
      congr 1
      rw [ByteArray.toList_eq, ByteArray.toList_eq]; exact str_eq _ _
    · cases h
  · split at h
    · rename_i a' b' hkk ha hb
      cases h
      obtain rfl := abool_ok ha hx
      obtain rfl := abool_ok hb hy
      rw [hkk] at hk
      have hk : dd = .bool := hk
      subst hk
      exact ⟨by rw [run_equalIn_bool' w' d ft _ _ hu]; rfl, hrow.symm⟩
    · cases h
theorem eqFields_ok (hT : T.Ok P) {as bs : List A1} {us vs : List Value} (hu : All2 (A1.rel w S ν) as us) (hv : All2 (A1.rel w S ν) bs vs) (d : Nat) (w' : World) : ∀ {l : List Field} {fs : List (Nat × Nat × Nat)} {b : Bool}, l.map (fun f => (f.type, f.offset)) = fs.map (fun p => (p.1, p.2.1)) → (∀ f ∈ l, f.name ≠ "_") → eqCells T as bs fs = some b →
    (Op.eqFields (d + 1) us.toArray vs.toArray l).run P w' = .ok b w'
  | [], [], b, _, _, h => by cases h; rfl
  | f :: l, (ft, off, z) :: fs, b, hm, hn, h => by
    obtain ⟨h1, h2⟩ := List.cons.inj hm
    have e1 : f.type = ft := (Prod.mk.inj h1).1
    have e2 : f.offset = off := (Prod.mk.inj h1).2
    subst e1 e2
    simp only [eqCells] at h
    split at h
    · rename_i ti x y ht hx hy
      split at h
      · rename_i p q hp hq
        cases h
        rw [nth_eq] at hx hy
        obtain ⟨u, u1, u2⟩ := hu.get hx
        obtain ⟨v, v1, v2⟩ := hv.get hy
        obtain ⟨k1, k2⟩ := eqCell_ok hT ht hp u2 v2 d w'
        have hag : (isAgg f.type).run P w' = .ok false w' := by
          obtain ⟨hti, hid⟩ := hT.get ht
          obtain ⟨dd, hund, _, hrow⟩ := hti.und
          rw [hid] at hund
          rw [k2] at hrow
          have : P.underlying f.type = some dd := hund
          simp [isAgg, run_underlying this]
          cases dd <;> first | rfl | cases hrow
        have ih := eqFields_ok hT hu hv d w' (l := l) (fs := fs) h2 (fun f hf => hn f (List.mem_cons_of_mem _ hf)) hq
        have hu' : (us.toArray)[f.offset]? = some u := by simpa using u1
        have hv' : (vs.toArray)[f.offset]? = some v := by simpa using v1
        simp only [Op.eqFields, if_pos (hn f (List.mem_cons_self ..)), part, Sem.run_bind, hag, Result.andThen_ok, Bool.false_eq_true, if_false, hu', hv', Sem.run_pure, k1]
        cases p
        · rfl
        · simpa using ih
      · cases h
    · cases h
  | [], _ :: _, _, h, _, _ => nomatch h
  | _ :: _, [], _, h, _, _ => nomatch h
theorem m_eqS (hT : T.Ok P) {o : Oper} {op : BinOp} {t t' : TypeId} {x y : Operand} {zi z1 z2 : Nat} {z3 : List Value} {z4 : Bool} {fs : List (Nat × Nat × Nat)} {as bs : List A1} {b : Bool} (hok : eqOkB P t = true) (ho : o.op = .binOp op t x y t') (hop : op = .eql ∨ op = .neq) (ht : tlook T t = some ⟨zi, .struct fs, z1, z2, z3, z4⟩)
    (hx : aop st x = some (.g as)) (hy : aop st y = some (.g bs)) (h : eqCells T as bs fs = some b) : StepTo P K o st (· = st.put o.dst (.o (.sb (b == (op == .eql))))) := by
  intro X S ν a w Q K' hd sat hk
  obtain ⟨⟨us, e1, r1⟩, _⟩ := aop_ok sat hx
  obtain ⟨⟨vs, e2, r2⟩, _⟩ := aop_ok sat hy
  obtain ⟨arr, hund, hm, _⟩ := und_struct hT ht
  have hf : P.fieldsOf t = arr := by unfold Program.fieldsOf; rw [hund]
  unfold eqOkB at hok
  rw [hf] at hok
  simp only [Bool.and_eq_true, Bool.not_eq_true'] at hok
  obtain ⟨⟨k1, k2⟩, k3⟩ := hok
  have hr := eqFields_ok hT r1 r2 9998 w hm (fun f hf => by simpa using List.all_eq_true.1 k1 f hf) h
  have hst := run_equalIn_struct (P := P) w 9999 t us.toArray vs.toArray (by rw [hf]; exact hund) k2
  rw [hf, hr] at hst
  refine wp_value (w' := w) (u := .bool (b == (op == .eql))) ?_ (hk _ S ν _ _ rfl (sat.put hd rfl trivial) ⟨Nat.le_refl _, fun _ h => h, fun ch hc hk => ⟨by rw [(AS.put_hp _ _ _).1]; exact hc, rfl⟩, fun _ _ => rfl⟩)
  rw [exec_binOp ho, Sem.run_bind, e1, e2]
  have : (do eqGuard op t x y (.agg us.toArray) (.agg vs.toArray); binOp op t (.agg us.toArray) (.agg vs.toArray) : Sem Value).run P w = .ok (.bool (b == (op == .eql))) w := by
    rw [Sem.run_bind, run_eqGuard_agg w op t x y _ _ k3, Result.andThen_ok]
    rcases hop with rfl | rfl
    · rw [run_eql_struct, hst]; cases b <;> rfl
    · rw [run_neq_struct, hst]; cases b <;> rfl
  rw [this]; rfl
end
end Go.Proofs.Ytfcihdkflnpcgaa.Am
