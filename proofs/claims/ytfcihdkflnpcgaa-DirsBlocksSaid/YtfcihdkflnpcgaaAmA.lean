/- The abstract machine: stores. No program is named. -/
import Derived.Test.YtfcihdkflnpcgaaAm9
namespace Go.Proofs.Ytfcihdkflnpcgaa.Am
open Go.RowKit Lw

section
variable {P : Program} {T : Tys} {K : Nat → Bool} {X : Cx} {S S' : Nat → Prop} {ν ν' : Nat → Value} {st : AS} {a : Act} {w w' : World} {o : Oper} {av : AV} {ps : List Prop}

theorem heap_setCell_same {b i : Nat} {us : List Value} {Tb : TypeId} {fr : Nat × Nat} {v : Value} (h : w.heap[b]? = some (.cells us.toArray Tb fr)) : (w.setCell ⟨b, i, none⟩ v).heap[b]? = some (.cells (us.set i v).toArray Tb fr) := by
  simp only [World.setCell, Array.getElem?_modify, if_pos, h, Option.map_some]
  simp
def setL {α : Type} : List α → Nat → List α → List α
  | l, _, [] => l
  | l, i, v :: vs => setL (l.set i v) (i + 1) vs
theorem heap_setCells_same {b : Nat} {Tb : TypeId} {fr : Nat × Nat} : ∀ {vs us : List Value} {i : Nat} {w : World}, w.heap[b]? = some (.cells us.toArray Tb fr) → (w.setCells b i vs).heap[b]? = some (.cells (setL us i vs).toArray Tb fr)
  | [], _, _, _, h => h
  | _ :: vs, _, _, _, h => heap_setCells_same (vs := vs) (heap_setCell_same h)
theorem heap_setCells_other {b k : Nat} (hk : k ≠ b) : ∀ {vs : List Value} {i : Nat} {w : World}, (w.setCells b i vs).heap[k]? = w.heap[k]?
  | [], _, _ => rfl
  | v :: vs, i, w => (heap_setCells_other hk (vs := vs)).trans (Below.heap_setCell w ⟨b, i, none⟩ v k hk)
theorem setCells_rest (b : Nat) : ∀ (vs : List Value) (i : Nat) (w : World), (w.setCells b i vs).os = w.os ∧ (w.setCells b i vs).tape = w.tape ∧ (w.setCells b i vs).output = w.output ∧ (w.setCells b i vs).heap.size = w.heap.size
  | [], _, _ => ⟨rfl, rfl, rfl, rfl⟩
  | v :: vs, i, w => by
    obtain ⟨h1, h2, h3, h4⟩ := setCells_rest b vs (i + 1) (w.setCell ⟨b, i, none⟩ v)
    exact ⟨h1, h2, h3, by rw [World.setCells, h4]; simp [World.setCell]⟩
theorem setMany_rel {m : Nat} : ∀ {as l r : List A1} {i : Nat} {us vs : List Value}, setMany l i as = some r → All2 (A1.rel w S ν) l us → All2 (A1.rel w S ν) as vs → (∀ x ∈ l, x.lt m) → (∀ x ∈ as, x.lt m) → All2 (A1.rel w S ν) r (setL us i vs) ∧ (∀ x ∈ r, x.lt m) ∧ (as = [] ∨ i + as.length ≤ us.length)
  | [], l, r, i, us, vs, h, h1, h2, h3, h4 => by
    cases vs with
    | nil => cases h; exact ⟨h1, h3, .inl rfl⟩
    | cons v vs => exact h2.elim
  | x :: as, l, r, i, us, vs, h, h1, h2, h3, h4 => by
    cases vs with
    | nil => exact h2.elim
    | cons v vs =>
      simp only [setMany] at h
      split at h
      · rename_i l' hl
        obtain ⟨rfl, hlt⟩ := setN_eq hl
        have hlen := h1.length
        obtain ⟨i1, i2, i3⟩ := setMany_rel (as := as) h (h1.set h2.1) h2.2 (fun y hy => by
          rcases List.mem_or_eq_of_mem_set hy with hy | rfl
          · exact h3 y hy
          · exact h4 _ (List.mem_cons_self ..)) (fun y hy => h4 y (List.mem_cons_of_mem _ hy))
        refine ⟨i1, i2, .inr ?_⟩
        rcases i3 with rfl | i3
        · simp; omega
        · simp at i3 ⊢; omega
      · cases h

theorem run_storeAt1 (hT : T.Ok P) {t : TypeId} {ti : TI} (ht : tlook T t = some ti) (hag : ti.agg = false) {b i : Nat} {us : List Value} {Tb : TypeId} {v : Value} (hg : w.heap[b]? = some (.cells us.toArray Tb (0, 0))) (hi : i < us.length) (hv : v.oneCell' = true) :
    (Instr.storeAt t (.pointer (some ⟨b, i, none⟩)) v).run P w = .ok () (w.setCell ⟨b, i, none⟩ v) := by
  have hs := run_sizeOf' hT ht w
  rw [(hT.get ht).1.one hag] at hs
  have hc : w.cell? ⟨b, i, none⟩ = some us[i] := row_at hg (List.getElem?_eq_getElem hi)
  have hf : w.frozen? ⟨b, i, none⟩ = false := by simp [World.frozen?, hg]
  have h0 : (⟨b, i, none⟩ : Addr).add 0 = ⟨b, i, none⟩ := rfl
  simp only [Instr.storeAt, Instr.sureAddr, Sem.run_bind, Sem.run_pure, Result.andThen_ok, storeVar, hs, one_cells hv]
  simp only [List.size_toArray, List.length_singleton, ne_eq, not_true, if_false, storeCells, h0, Sem.run_bind, run_store P w _ v .plain hv, hc, hf, Result.andThen_ok, Bool.false_eq_true, Sem.run_pure]

theorem exec_store {t : TypeId} {x y : Operand} (ho : o.op = .store t x y) (h : (Instr.storeAt t (a.eval x) (a.eval y)).run P w = .ok () w') : (execOp a.eval o).run P w = .ok .skip w' := by
  unfold execOp
  rw [ho]
  simp only [Sem.run_bind, h, Result.andThen_ok, Sem.run_pure]

theorem m_store_box (hT : T.Ok P) {t : TypeId} {x y : Operand} {ti : TI} {id off Tb : Nat} {v : AV} {cells cells' : List A1} {rest : List Chunk} (ho : o.op = .store t x y) (hdst : o.dst = none) (ht : tlook T t = some ti) (hx : aop st x = some (.o (.ptr id off))) (hy : aop st y = some v)
    (htk : takeBox (fun i => !K i) st.hp id = some (Tb, cells, rest)) (hc : storeC cells off ti v = some cells') : StepTo P K o st (· = ⟨st.env, .box id Tb cells' :: rest, st.nid⟩) := by
  intro X S ν a w Q K' hd sat hk
  obtain ⟨hp, hK⟩ := takeBox_perm htk
  have hm : Chunk.box id Tb cells ∈ st.hp := hp.symm.subset (List.mem_cons_self ..)
  obtain ⟨b, us, h1, h2, h3⟩ := sat.hp _ hm
  obtain ⟨hx1, hx2⟩ := aop_ok sat hx
  obtain ⟨b', h4, h5⟩ := hx1
  have h4 : ν id = .pointer (some ⟨b', 0, none⟩) := h4
  rw [h1] at h4
  cases h4
  obtain ⟨hy1, hy2⟩ := aop_ok sat hy
  have hlt := sat.hlt _ hm
  have hblk : blks ν [Chunk.box id Tb cells] = [b] := by simp [blks, Chunk.blk, h1]
  have hbs := sat.blk b (mem_blks.2 ⟨_, hm, by simp [Chunk.blk, h1]⟩)
  have key : ∀ (vs : List Value), (Instr.storeAt t (a.eval x) (a.eval y)).run P w = .ok () (w.setCells b off vs) → All2 (A1.rel w S ν) cells' (setL us off vs) → (∀ z ∈ cells', z.lt st.nid) → o.wp P a w K' Q := by
    intro vs hrun hr hl
    obtain ⟨e1, e2, e3, e4⟩ := setCells_rest b vs off w
    have gr : Gr w (w.setCells b off vs) S S := ⟨by rw [e4]; exact Nat.le_refl _, fun k hs _ => heap_setCells_other fun e => hbs.2.1 (by rw [← e]; exact hs), fun _ h => h⟩
    refine wp_skip' hdst (exec_store ho hrun) ?_
    obtain ⟨s1, s2⟩ := swap_kp (takes := [.box id Tb cells]) (gives := [.box id Tb cells']) (rest := rest) (nid := st.nid) (ν' := ν) (S' := S) (K := K) (w' := w.setCells b off vs) (o := o) (av := .o (.sb true)) (u := .bool true) hd sat hp
      (fun ch hc => by rw [List.mem_singleton.1 hc]; show K id = false; simpa using hK) ⟨e1, e2, e3, by rw [e4]; exact Nat.le_refl _, fun k hk hn => heap_setCells_other fun e => hn (by rw [hblk, e]; simp)⟩ (fun _ _ => rfl) (fun _ h => h)
      (fun k hs => ⟨by rw [e4]; exact (sat.imm k hs).1, .inl hs⟩)
      (fun ch hc => by
        rw [List.mem_singleton.1 hc]
        exact ⟨b, _, h1, heap_setCells_same h2, hr.imp fun z u hz => A1.mono gr (fun _ _ => rfl) (hl z hz)⟩)
      (by simp [blks, Chunk.blk, h1]) (fun k hk => by
        have : k = b := by simpa [blks, Chunk.blk, h1] using hk
        subst this
        exact ⟨by rw [e4]; exact hbs.1, hbs.2.1, .inl (by rw [hblk]; simp)⟩)
      (fun ch hc => by rw [List.mem_singleton.1 hc]; exact ⟨hlt.1, hl⟩) (Nat.le_refl _) rfl trivial
    rw [hdst] at s1 s2
    exact hk _ _ _ _ _ rfl s1 s2
  unfold storeC at hc
  split at hc
  · rename_i v' hag
    obtain ⟨rfl, hlt'⟩ := setN_eq hc
    have hy1 : v'.rel w S ν (a.eval y) := hy1
    refine key [a.eval y] ?_ (h3.set hy1) fun z hz => ?_
    · rw [h5]; exact run_storeAt1 hT ht hag h2 (by rw [← h3.length]; exact hlt') (A1.one hy1)
    · rcases List.mem_or_eq_of_mem_set hz with hz | rfl
      · exact hlt.2 z hz
      · exact hy2
  · rename_i as hag
    split at hc
    · rename_i hlen
      have hlen := Nat.eq_of_beq_eq_true hlen
      obtain ⟨vs, hy3, hy4⟩ := hy1
      obtain ⟨r1, r2, r3⟩ := setMany_rel hc h3 hy4 hlt.2 hy2
      refine key vs ?_ r1 r2
      rw [h5, hy3]
      have hvl := hy4.length
      have hin : off + vs.length ≤ us.length := by
        rcases r3 with rfl | r3
        · have := (hT.get ht).1.pos; simp at hlen; omega
        · omega
      have hag' : vs.toArray.toList = vs := by simp
      have := run_storeAt_mid (P := P) w b off t vs.toArray (fun j hj => by
        have hj : j < vs.length := by simpa using hj
        have hc := row_at (i := off + j) h2 (List.getElem?_eq_getElem (by omega))
        exact ⟨by rw [hc]; rfl, by simp [World.frozen?, h2]⟩) (by
          obtain ⟨i, z, e1, e2, _⟩ := (hT.get ht).1.info
          rw [(hT.get ht).2] at e1
          rw [e1]; simp [e2, ← hlen, hvl]) (by
          rw [Array.all_eq_true_iff_forall_mem]
          intro z hz
          obtain ⟨x', hx', hr'⟩ := hy4.mem (by simpa using hz)
          exact A1.one hr')
      simpa using this
    · cases hc
  · cases hc

theorem nthD_ok {ds : List DC} {vs : List Value} (h : All2 (DC.rel w S) ds vs) {j : Nat} (hj : j < ds.length) : ∃ u, vs[j]? = some u ∧ (nthD ds j).rel w S u := by
  have he : ∀ (l : List DC) (i : Nat), i < l.length → l[i]? = some (nthD l i) := by
    intro l
    induction l with
    | nil => intro i hi; simp at hi
    | cons x l ih =>
      intro i hi
      cases i with
      | zero => rfl
      | succ i => simp [nthD]; exact ih i (by simpa using hi)
  exact h.get (he ds j hj)
theorem setL_get {α : Type} : ∀ {vs l : List α} {i j : Nat}, (setL l i vs)[j]? = if i ≤ j ∧ j < i + vs.length ∧ j < l.length then vs[j - i]? else l[j]?
  | [], l, i, j => by simp [setL]; intro h1 h2; omega
  | v :: vs, l, i, j => by
    rw [setL, setL_get (vs := vs)]
    simp only [List.length_set, List.length_cons]
    by_cases h1 : i + 1 ≤ j ∧ j < i + 1 + vs.length ∧ j < l.length
    · rw [if_pos h1, if_pos (by omega)]
      rw [show j - i = (j - (i + 1)) + 1 by omega]; rfl
    · rw [if_neg h1]
      by_cases h2 : i = j
      · subst h2
        by_cases h3 : i < l.length
        · rw [if_pos (by omega)]; simp [h3]
        · rw [if_neg (by omega), List.getElem?_set_self', List.getElem?_eq_none (by omega)]; rfl
      · rw [if_neg (by omega), List.getElem?_set_ne h2]

/-- A store into a slice of the call's own: the cells vs from off on of row k. -/
theorem m_store_own (hT : T.Ok P) {t : TypeId} {x y : Operand} {id E sz k off : Nat} {ct ct' : Ct} {rest : List Chunk} {ds : List DC} (ho : o.op = .store t x y) (hdst : o.dst = none) (hx : aop st x = some (.o (.optr id sz k off)))
    (htk : takeOwn (fun i => !K i) st.hp id = some (E, sz, ct, rest)) (hkn : k < ct.n) (hoff : off + ds.length ≤ sz) (hpos : 0 < ds.length)
    (hct : ct'.n = ct.n ∧ ∀ i j, ct'.cell i j = if i = k ∧ off ≤ j ∧ j < off + ds.length then nthD ds (j - off) else ct.cell i j)
    (hrun : ∀ X S ν (a : Act) w, Sat X S ν st a w → ∃ vs, All2 (DC.rel w S) ds vs ∧ (∀ v ∈ vs, v.oneCell' = true) ∧ ∀ b i us (Tb : TypeId), w.heap[b]? = some (.cells us Tb (0, 0)) → i + vs.length ≤ us.size → (Instr.storeAt t (.pointer (some ⟨b, i, none⟩)) (a.eval y)).run P w = .ok () (w.setCells b i vs)) :
    StepTo P K o st (· = ⟨st.env, .own id E sz ct' :: rest, st.nid⟩) := by
  intro X S ν a w Q K' hd sat hk
  obtain ⟨hp, hK⟩ := takeOwn_perm htk
  have hm : Chunk.own id E sz ct ∈ st.hp := hp.symm.subset (List.mem_cons_self ..)
  obtain ⟨xs, h1, h2⟩ := sat.hp _ hm
  obtain ⟨hx1, hx2⟩ := aop_ok sat hx
  obtain ⟨g, n, cp, h3, h4⟩ := hx1
  have hlt := sat.hlt _ hm
  rw [h3] at h1
  obtain ⟨hl, hor⟩ := h1
  rcases hor with ⟨e, _⟩ | ⟨g', cap', cur, e, _, hg, hnc, hcm, hcs, htake⟩
  · cases e
  injection e with e1 e2 e3
  injection e1 with e1
  injection e1 with e1
  subst e1; subst e2; subst e3
  have hbk : (Chunk.own id E sz ct).blk ν = some g := by simp [Chunk.blk, h3, Value.ownBlock]
  have hblk : blks ν [Chunk.own id E sz ct] = [g] := by simp [blks, hbk]
  have hbs := sat.blk g (mem_blks.2 ⟨_, hm, hbk⟩)
  obtain ⟨vs, v1, v2, v3⟩ := hrun X S ν a w sat
  have hvl := v1.length
  obtain ⟨e1, e2, e3, e4⟩ := setCells_rest g vs (k * sz + off) w
  have hin : (k + 1) * sz ≤ ct.n * sz := Nat.mul_le_mul_right _ hkn
  have hin2 : ct.n * sz ≤ cp * sz := Nat.mul_le_mul_right _ hnc
  rw [Nat.add_mul, Nat.one_mul] at hin
  have hrun' := v3 g (k * sz + off) cur E hg (by rw [hcs]; omega)
  have gr : Gr w (w.setCells g (k * sz + off) vs) S S := ⟨by rw [e4]; exact Nat.le_refl _, fun k hs _ => heap_setCells_other fun e => hbs.2.1 (by rw [← e]; exact hs), fun _ h => h⟩
  refine wp_skip' hdst (exec_store ho (by rw [h4]; exact hrun')) ?_
  obtain ⟨s1, s2⟩ := swap_kp (takes := [.own id E sz ct]) (gives := [.own id E sz ct']) (rest := rest) (nid := st.nid) (ν' := ν) (S' := S) (K := K) (w' := w.setCells g (k * sz + off) vs) (o := o) (av := .o (.sb true)) (u := .bool true) hd sat hp
    (fun ch hc => by rw [List.mem_singleton.1 hc]; show K id = false; simpa using hK) ⟨e1, e2, e3, by rw [e4]; exact Nat.le_refl _, fun k hk hn => heap_setCells_other fun e => hn (by rw [hblk, e]; simp)⟩ (fun _ _ => rfl) (fun _ h => h)
    (fun k hs => ⟨by rw [e4]; exact (sat.imm k hs).1, .inl hs⟩)
    (fun ch hc => by
      rw [List.mem_singleton.1 hc]
      have hg' : w.heap[g]? = some (.cells cur.toList.toArray E (0, 0)) := by simpa using hg
      refine ⟨(setL cur.toList (k * sz + off) vs).take (ct.n * sz), ⟨?_, .inr ⟨g, cp, (setL cur.toList (k * sz + off) vs).toArray, by rw [h3, hct.1], Nat.zero_le _, heap_setCells_same hg', by rw [hct.1]; exact hnc, hcm, ?_, by rw [hct.1]⟩⟩, fun i j hi hj => ?_⟩
      · have : ∀ {vs l : List Value} {i : Nat}, (setL l i vs).length = l.length := by
          intro vs; induction vs with
          | nil => intro l i; rfl
          | cons v vs ih => intro l i; rw [setL, ih]; simp
        rw [List.length_take, this, Array.length_toList, hcs, hct.1]; omega
      · have : ∀ {vs l : List Value} {i : Nat}, (setL l i vs).length = l.length := by
          intro vs; induction vs with
          | nil => intro l i; rfl
          | cons v vs ih => intro l i; rw [setL, ih]; simp
        rw [List.size_toArray, this, Array.length_toList, hcs]
      · rw [hct.1] at hi
        have hb1 : (i + 1) * sz ≤ ct.n * sz := Nat.mul_le_mul_right _ hi
        rw [Nat.add_mul, Nat.one_mul] at hb1
        rw [hct.2 i j, List.getElem?_take, if_pos (by omega), setL_get]
        by_cases hc1 : i = k ∧ off ≤ j ∧ j < off + ds.length
        · obtain ⟨rfl, c2, c3⟩ := hc1
          rw [if_pos ⟨by omega, by omega, by rw [Array.length_toList, hcs]; omega⟩, if_pos ⟨rfl, c2, c3⟩]
          obtain ⟨u, u1, u2⟩ := nthD_ok v1 (j := j - off) (by omega)
          exact ⟨u, by rw [← u1]; congr 1; omega, DC.mono gr u2⟩
        · rw [if_neg (c := i = k ∧ off ≤ j ∧ j < off + ds.length) hc1]
          obtain ⟨u, u1, u2⟩ := h2 i j hi hj
          refine ⟨u, ?_, DC.mono gr u2⟩
          rw [if_neg ?_]
          · rw [← htake, List.getElem?_take, if_pos (by omega)] at u1; exact u1
          · rintro ⟨c1, c2, c3⟩
            rcases Nat.lt_trichotomy i k with c | c | c
            · have : (i + 1) * sz ≤ k * sz := Nat.mul_le_mul_right _ c
              rw [Nat.add_mul, Nat.one_mul] at this; omega
            · subst c; exact hc1 ⟨rfl, by omega, by omega⟩
            · have : (k + 1) * sz ≤ i * sz := Nat.mul_le_mul_right _ c
              rw [Nat.add_mul, Nat.one_mul] at this; omega)
    (by simp [blks, Chunk.blk, h3, Value.ownBlock]) (fun k hk => by
      have : k = g := by simpa [blks, Chunk.blk, h3, Value.ownBlock] using hk
      subst this
      exact ⟨by rw [e4]; exact hbs.1, hbs.2.1, .inl (by rw [hblk]; simp)⟩)
    (fun ch hc => by rw [List.mem_singleton.1 hc]; exact hlt) (Nat.le_refl _) rfl trivial
  rw [hdst] at s1 s2
  exact hk _ _ _ _ _ rfl s1 s2
end
end Go.Proofs.Ytfcihdkflnpcgaa.Am
