/- The abstract machine: operations that leave the world as it is do what the machine says. No program is named. -/
import Derived.Test.YtfcihdkflnpcgaaAm3
namespace Go.Proofs.Ytfcihdkflnpcgaa.Am
open Go.RowKit Lw

section
variable {P : Program} {T : Tys} {Kf : Nat → Bool} {X : Cx} {S : Nat → Prop} {ν : Nat → Value} {st : AS} {a : Act} {w : World}

/-- In every world that is like w where it matters, the operation yields one value, of which av is said. -/
def Yl (P : Program) (Kf : Nat → Bool) (S : Nat → Prop) (ν : Nat → Value) (st : AS) (a : Act) (w : World) (o : Oper) (av : AV) : Prop :=
  ∃ u, av.rel w S ν u ∧ av.lt st.nid ∧ ∀ w', Ag Kf S ν st w w' → (execOp a.eval o).run P w' = .ok (.value u) w'

theorem run_loadVar1 {t : TypeId} {d : TypeDesc} {ad : Addr} {v : Value} (hu : P.underlying t = some d) (hd : d.isRow = false) (hc : w.cell? ad = some v) : (loadVar t ad).run P w = .ok v w := by
  have : (isAgg t).run P w = .ok false w := by
    unfold isAgg
    rw [Sem.run_bind, run_underlying hu w]
    cases d <;> simp_all
  simp [loadVar, Sem.run_bind, this, hc]

theorem rowN_ok {cell : Nat → DC} {b o : Nat} : ∀ (n off : Nat), (∀ j, off ≤ j → j < off + n → ∃ u', w.cell? ⟨b, o + j, none⟩ = some u' ∧ (cell j).rel w S u') →
    ∃ us : List Value, us.length = n ∧ (∀ j v, us[j]? = some v → w.cell? ⟨b, o + off + j, none⟩ = some v) ∧ All2 (A1.rel w S ν) (rowN cell off n) us
  | 0, off, _ => ⟨[], rfl, fun j v h => by simp at h, trivial⟩
  | n + 1, off, h => by
    obtain ⟨u, h1, h2⟩ := h off (Nat.le_refl _) (by omega)
    obtain ⟨us, h3, h4, h5⟩ := rowN_ok (cell := cell) (b := b) (o := o) n (off + 1) fun j hj hj' => h j (by omega) (by omega)
    refine ⟨u :: us, by simp [h3], fun j v hv => ?_, ⟨DC.toA_rel h2, h5⟩⟩
    cases j with
    | zero => cases hv; exact h1
    | succ j => have := h4 j v hv; rw [show o + off + (j + 1) = o + (off + 1) + j by omega]; exact this
theorem rowN_lt {cell : Nat → DC} {m : Nat} : ∀ (n off : Nat), ∀ x ∈ rowN cell off n, x.lt m
  | 0, _, x, h => by cases h
  | n + 1, off, x, h => by
    rcases List.mem_cons.1 h with rfl | h
    · exact DC.toA_lt _ _
    · exact rowN_lt n (off + 1) x h

/-- A part of a row that is read. -/
theorem load_row (hT : T.Ok P) {t : TypeId} {ti : TI} (ht : tlook T t = some ti) {b o off sz : Nat} {cell : Nat → DC} {av : AV} (h : row1 cell off sz ti = some av)
    (hc : ∀ j, j < sz → ∃ u', w.cell? ⟨b, o + j, none⟩ = some u' ∧ (cell j).rel w S u') :
    ∃ u, av.rel w S ν u ∧ (∀ m, av.lt m) ∧ ∀ w' : World, w'.heap[b]? = w.heap[b]? → (Instr.loadAt t (.pointer (some ⟨b, o + off, none⟩))).run P w' = .ok u w' := by
  obtain ⟨hti, hid⟩ := hT.get ht
  obtain ⟨d, hu, _, hrow⟩ := hti.und
  rw [hid] at hu
  unfold row1 at h
  split at h
  · rename_i hle hagg
    have hlt : off < sz := by have := Nat.le_of_ble_eq_true hle; have := hti.pos; omega
    obtain ⟨u, h1, h2⟩ := hc off hlt
    have hr : ∀ w' : World, w'.heap[b]? = w.heap[b]? → (Instr.loadAt t (.pointer (some ⟨b, o + off, none⟩))).run P w' = .ok u w' := fun w' hw' => by
      simp only [Instr.loadAt, Instr.sureAddr, Sem.run_bind, Sem.run_pure, Result.andThen_ok]
      exact run_loadVar1 hu (by rw [hrow]; exact hagg) (by rw [World.cell?_of_block (a := ⟨b, o + off, none⟩) hw']; exact h1)
    split at h
    · rename_i v hcell
      cases h
      rw [hcell] at h2
      exact ⟨u, h2, fun _ => trivial, hr⟩
    · rename_i s n c hcell
      cases h
      rw [hcell] at h2
      exact ⟨u, h2, fun _ => trivial, hr⟩
    · rename_i hcell
      cases h
      rw [hcell] at h2
      exact ⟨u, h2, fun _ => trivial, hr⟩
  · rename_i hle hagg
    cases h
    have hle' := Nat.le_of_ble_eq_true hle
    obtain ⟨us, h3, h4, h5⟩ := rowN_ok (ν := ν) (cell := cell) (b := b) (o := o) ti.size off fun j _ hj => hc j (by omega)
    refine ⟨.agg us.toArray, ⟨us, rfl, h5⟩, fun m x hx => rowN_lt _ _ x hx, fun w' hw' => ?_⟩
    refine run_loadAt_mid w' b (o + off) t us d (fun j v hv => ?_) hu (by rw [hrow]; exact hagg) ?_
    · rw [World.cell?_of_block (a := ⟨b, o + off + j, none⟩) hw']; exact h4 j v hv
    · obtain ⟨i, z, e1, e2, _⟩ := hti.info
      rw [hid] at e1
      rw [e1, h3]; simp [e2]
  · cases h

/-- A part of a box that is read. -/
theorem load_box (hT : T.Ok P) {t : TypeId} {ti : TI} (ht : tlook T t = some ti) {b off : Nat} {cells : List A1} {us : List Value} {Tb : TypeId} {av : AV} (h : part1 cells off ti = some av)
    (hg : w.heap[b]? = some (.cells us.toArray Tb (0, 0))) (hr : All2 (A1.rel w S ν) cells us) {m : Nat} (hm : ∀ x ∈ cells, x.lt m) :
    ∃ u, av.rel w S ν u ∧ av.lt m ∧ ∀ w' : World, w'.heap[b]? = w.heap[b]? → (Instr.loadAt t (.pointer (some ⟨b, off, none⟩))).run P w' = .ok u w' := by
  obtain ⟨hti, hid⟩ := hT.get ht
  obtain ⟨d, hu, _, hrow⟩ := hti.und
  rw [hid] at hu
  unfold part1 at h
  split at h
  · rename_i hagg
    split at h
    · rename_i x hx
      cases h
      rw [nth_eq] at hx
      obtain ⟨u, h1, h2⟩ := hr.get hx
      refine ⟨u, h2, hm x (List.mem_of_getElem? hx), fun w' hw' => ?_⟩
      simp only [Instr.loadAt, Instr.sureAddr, Sem.run_bind, Sem.run_pure, Result.andThen_ok]
      exact run_loadVar1 hu (by rw [hrow]; exact hagg) (row_at (us := us) (by rw [hw']; exact hg) h1)
    · cases h
  · rename_i hagg
    split at h
    · rename_i r hd
      split at h
      · rename_i q hq
        cases h
        have e1 := dropN_eq hd
        obtain ⟨e2, e3⟩ := takeN_eq hq
        subst e1
        have hrq : All2 (A1.rel w S ν) q ((us.drop off).take ti.size) := by rw [e2]; exact (hr.drop off).take ti.size
        refine ⟨.agg ((us.drop off).take ti.size).toArray, ⟨_, rfl, hrq⟩, fun x hx => hm x (List.mem_of_mem_drop (List.mem_of_mem_take (e2 ▸ hx))), fun w' hw' => ?_⟩
        refine run_loadAt_mid w' b off t _ d (fun j v hv => ?_) hu (by rw [hrow]; exact hagg) ?_
        · rw [List.getElem?_take] at hv
          split at hv
          · rw [List.getElem?_drop] at hv
            exact row_at (us := us) (by rw [hw']; exact hg) hv
          · cases hv
        · obtain ⟨i, z, e4, e5, _⟩ := hti.info
          rw [hid] at e4
          have := hrq.length
          rw [e4, ← this, e3]; simp [e5]
      · cases h
    · cases h

theorem own_cell {E sz n : Nat} {v : Value} {xs : List Value} (h : w.ownsRow 0 E sz v n xs) {i j : Nat} {u : Value} (hu : xs[i * sz + j]? = some u) :
    ∃ g cp, v = .slice (some ⟨g, 0, none⟩) n cp ∧ w.cell? ⟨g, i * sz + j, none⟩ = some u := by
  obtain ⟨A, c, rfl, _, _, _, hl, _⟩ := ownsRow_src h
  have hx : i * sz + j < xs.length := (List.getElem?_eq_some_iff.1 hu).1
  have hn : 0 < n := by
    rcases Nat.eq_zero_or_pos n with h0 | h0
    · subst h0; omega
    · exact h0
  obtain ⟨g, rfl, _, _, hc⟩ := ownsRow_at h hn
  exact ⟨g, c, rfl, hc _ _ hu⟩

theorem agg_fields {P : Program} {w : World} {arr : Array Field} {fs : List (Nat × Nat × Nat)} (h : arr.toList.map (fun f => (f.type, f.offset)) = fs.map (fun p => (p.1, p.2.1))) {f : Nat} {p : Nat × Nat × Nat} (hf : field? fs f = some p) :
    ∃ fd, arr[f]? = some fd ∧ fd.type = p.1 ∧ fd.offset = p.2.1 ∧ p ∈ fs := by
  have hf' : fs[f]? = some p := by
    have : ∀ (l : List (Nat × Nat × Nat)) (i : Nat), field? l i = l[i]? := by
      intro l
      induction l with
      | nil => intro i; simp [field?]
      | cons x l ih => intro i; cases i <;> simp [field?, ih]
    rw [← this]; exact hf
  have h2 : (arr.toList.map (fun f => (f.type, f.offset)))[f]? = some (p.1, p.2.1) := by rw [h]; simp [hf']
  rw [List.getElem?_map] at h2
  cases h3 : arr.toList[f]? with
  | none => rw [h3] at h2; cases h2
  | some fd =>
    rw [h3] at h2
    have h4 : (fd.type, fd.offset) = (p.1, p.2.1) := by simpa using h2
    exact ⟨fd, by rw [← Array.getElem?_toList]; exact h3, (Prod.mk.inj h4).1, (Prod.mk.inj h4).2, List.mem_of_getElem? hf'⟩

theorem add_none' (b o i : Nat) : (⟨b, o, none⟩ : Addr).add i = ⟨b, o + i, none⟩ := by unfold Addr.add; split <;> simp_all

theorem run_fieldAt (hT : T.Ok P) {s : TypeId} {z1 z2 : Nat} {z3 : List Value} {z4 : Bool} {zi : Nat} {fs : List (Nat × Nat × Nat)} (ht : tlook T s = some ⟨zi, .struct fs, z1, z2, z3, z4⟩) {f : Nat} {p : Nat × Nat × Nat} (hf : field? fs f = some p) (b o : Nat) (w : World) :
    (Instr.fieldAt s (.pointer (some ⟨b, o, none⟩)) f).run P w = .ok (.pointer (some ⟨b, o + p.2.1, none⟩)) w := by
  obtain ⟨hti, hid⟩ := hT.get ht
  obtain ⟨d, hu, ⟨arr, rfl, h1, h2⟩, _⟩ := hti.und
  rw [hid] at hu
  obtain ⟨fd, e1, e2, e3, e4⟩ := agg_fields (P := P) (w := w) h1 hf
  obtain ⟨s1, s2⟩ := h2 p e4
  have hs : (sizeOf fd.type).run P w = .ok p.2.2 w := by
    rw [e2]
    cases hq : P.info? p.1 with
    | none => simp [hq] at s1
    | some i => simp [sizeOf, typeInfo, hq]; simpa [hq] using s1
  simp only [Instr.fieldAt, Sem.run_bind, run_underlying hu w, Result.andThen_ok, e1, Instr.sureAddr, Sem.run_pure, fieldPlace, hs, if_neg (show ¬ p.2.2 = 0 by omega), add_none', e3]

theorem execOp_move {o : Oper} {x : Operand} (h : o.op = .move x ∨ o.op = .assign x) : execOp a.eval o = pure (.value (a.eval x)) := by
  unfold execOp
  rcases h with h | h <;> rw [h]

theorem ptr_off {id off fo : Nat} {u : Value} (h : ptrRel ν (id, off) u) : ∃ b, u = .pointer (some ⟨b, off, none⟩) ∧ ptrRel ν (id, off + fo) (.pointer (some ⟨b, off + fo, none⟩)) := by
  obtain ⟨b, h1, h2⟩ := h
  exact ⟨b, h2, b, h1, rfl⟩
end
end Go.Proofs.Ytfcihdkflnpcgaa.Am
