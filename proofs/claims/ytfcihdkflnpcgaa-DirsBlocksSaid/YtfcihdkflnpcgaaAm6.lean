/- The abstract machine: the law for operations that leave the world as it is. No program is named. -/
import Derived.Test.YtfcihdkflnpcgaaAm5
namespace Go.Proofs.Ytfcihdkflnpcgaa.Am
open Go.RowKit Lw

section
variable {P : Program} {T : Tys} {Kf : Nat → Bool} {X : Cx} {S : Nat → Prop} {ν : Nat → Value} {st : AS} {a : Act} {w : World} {o : Oper} {av : AV} {ps : List Prop}

theorem yl_pure {v : Value} (h1 : av.rel w S ν v) (h2 : av.lt st.nid) (h3 : ∀ w', (execOp a.eval o).run P w' = .ok (.value v) w') : Yl P Kf S ν st a w o av := ⟨v, h1, h2, fun w' _ => h3 w'⟩

theorem box_of (sat : Sat X S ν st a w) {id Tb off : Nat} {cells : List A1} (h : findBox Kf st.hp id = some (Tb, cells)) {u : Value} (hu : ptrRel ν (id, off) u) :
    ∃ b us, u = .pointer (some ⟨b, off, none⟩) ∧ ν id = .pointer (some ⟨b, 0, none⟩) ∧ w.heap[b]? = some (.cells us.toArray Tb (0, 0)) ∧ All2 (A1.rel w S ν) cells us ∧ (∀ x ∈ cells, x.lt st.nid) ∧ ∀ w', Ag Kf S ν st w w' → w'.heap[b]? = w.heap[b]? := by
  obtain ⟨hm, hk⟩ := findBox_ok h
  obtain ⟨b, us, h1, h2, h3⟩ := sat.hp _ hm
  obtain ⟨b', h4, h5⟩ := hu
  have h4 : ν id = .pointer (some ⟨b', 0, none⟩) := h4
  rw [h1] at h4
  cases h4
  exact ⟨b, us, h5, h1, h2, h3, (sat.hlt _ hm).2, fun w' hw' => hw'.2 b (.inr ⟨_, hm, hk, by simp [Chunk.blk, h1]⟩)⟩

theorem own_of (sat : Sat X S ν st a w) {id E sz : Nat} {ct : Ct} (h : findOwn Kf st.hp id = some (E, sz, ct)) {i : Nat} (hi : i < ct.n) (hsz : 0 < sz) :
    ∃ g cp, ν id = .slice (some ⟨g, 0, none⟩) ct.n cp ∧ (∀ j, j < sz → ∃ u, w.cell? ⟨g, i * sz + j, none⟩ = some u ∧ (ct.cell i j).rel w S u) ∧ ∀ w', Ag Kf S ν st w w' → w'.heap[g]? = w.heap[g]? := by
  obtain ⟨hm, hk⟩ := findOwn_ok h
  obtain ⟨xs, h1, h2⟩ := sat.hp _ hm
  obtain ⟨u0, e0, _⟩ := h2 i 0 hi hsz
  obtain ⟨g, cp, hv, _⟩ := own_cell h1 e0
  refine ⟨g, cp, hv, fun j hj => ?_, fun w' hw' => hw'.2 g (.inr ⟨_, hm, hk, by simp [Chunk.blk, hv, Value.ownBlock]⟩)⟩
  obtain ⟨u, e, r⟩ := h2 i j hi hj
  obtain ⟨g', cp', hv', hc⟩ := own_cell h1 e
  rw [hv] at hv'
  cases hv'
  exact ⟨u, hc, r⟩

theorem own_val (sat : Sat X S ν st a w) {id E sz : Nat} {ct : Ct} (h : findOwn Kf st.hp id = some (E, sz, ct)) : ∃ A c, ν id = .slice A ct.n c ∧ ct.n ≤ c ∧ c ≤ maxLen := by
  obtain ⟨hm, hk⟩ := findOwn_ok h
  obtain ⟨xs, h1, h2⟩ := sat.hp _ hm
  obtain ⟨A, c, h3, h4, h5, _⟩ := ownsRow_src h1
  exact ⟨A, c, h3, h4, h5⟩

theorem capsOf_ok (sat : Sat X S ν st a w) : ∀ {xs : List Operand} {r : List (Nat × Nat)}, capsOf st xs = some r → All2 (ptrRel ν) r (xs.map a.eval) ∧ ∀ p ∈ r, p.1 < st.nid
  | [], r, h => by cases h; exact ⟨trivial, fun p hp => by cases hp⟩
  | x :: xs, r, h => by
    simp only [capsOf] at h
    split at h
    · rename_i id off q h1 h2
      cases h
      obtain ⟨i1, i2⟩ := capsOf_ok sat h2
      obtain ⟨j1, j2⟩ := aop_ok sat h1
      exact ⟨⟨j1, i1⟩, fun p hp => by
        rcases List.mem_cons.1 hp with rfl | hp
        · exact j2
        · exact i2 p hp⟩
    · cases h
theorem partsOf_ok (sat : Sat X S ν st a w) : ∀ {xs : List (Nat × Operand)} {r : List (Nat × AV)}, partsOf st xs = some r → All2 (fun (p : Nat × AV) (v : Nat × Value) => p.1 = v.1 ∧ p.2.rel w S ν v.2 ∧ p.2.lt st.nid) r (xs.map fun p => (p.1, a.eval p.2))
  | [], r, h => by cases h; exact trivial
  | (i, x) :: xs, r, h => by
    simp only [partsOf] at h
    split at h
    · rename_i v q h1 h2
      cases h
      obtain ⟨j1, j2⟩ := aop_ok sat h1
      exact ⟨⟨rfl, j1, j2⟩, partsOf_ok sat h2⟩
    · cases h

theorem y_move (sat : Sat X S ν st a w) {x : Operand} (ho : o.op = .move x ∨ o.op = .assign x) (h : aop st x = some av) : Yl P Kf S ν st a w o av :=
  yl_pure (aop_ok sat h).1 (aop_ok sat h).2 fun w' => by rw [execOp_move ho]; rfl

theorem y_pick (sat : Sat X S ν st a w) {c x y : Operand} {b : Bool} (ho : o.op = .pick c x y) (hc : aop st c = some (.o (.c (.bool b)))) (h : aop st (if b then x else y) = some av) : Yl P Kf S ν st a w o av := by
  have h1 : a.eval c = .bool b := (aop_ok sat hc).1.1
  refine yl_pure (aop_ok sat h).1 (aop_ok sat h).2 fun w' => ?_
  unfold execOp
  rw [ho]
  simp only [h1, asBool, Sem.run_bind, Sem.run_pure, Result.andThen_ok]
  cases b <;> rfl

theorem y_load (hT : T.Ok P) (sat : Sat X S ν st a w) {t : TypeId} {x : Operand} {v : Value} (ho : o.op = .load t x) (hx : a.eval x = v) {B : World → Prop} (hB : ∀ w', Ag Kf S ν st w w' → B w') (h : ∃ u, av.rel w S ν u ∧ av.lt st.nid ∧ ∀ w', B w' → (Instr.loadAt t v).run P w' = .ok u w') : Yl P Kf S ν st a w o av := by
  obtain ⟨u, h1, h2, h3⟩ := h
  refine ⟨u, h1, h2, fun w' hw' => ?_⟩
  unfold execOp
  rw [ho]
  simp only [hx, Sem.run_bind, h3 w' (hB w' hw'), Result.andThen_ok, Sem.run_pure]

theorem run_index_str {t : TypeId} (ht : P.underlying t = some .string) {s : ByteArray} {k : Int} {ik : IntKind} (hk : 0 ≤ k ∧ k < s.size) (w : World) :
    (Instr.index t (.string s) (.int ik k)).run P w = .ok (.int .u8 ((s.data.toList.getD k.toNat 0).toNat : Int)) w := by
  obtain ⟨k, rfl⟩ := Int.eq_ofNat_of_zero_le hk.1
  have hlt : k < s.size := by omega
  have e : s[k]? = some s[k] := by simp [hlt]
  have e2 : s.data.toList.getD k 0 = s[k] := by
    have : k < s.data.toList.length := hlt
    rw [List.getD_eq_getElem?_getD, List.getElem?_eq_getElem this]; rfl
  simp only [Instr.index, asIntOf, Sem.run_bind, Sem.run_pure, Result.andThen_ok, run_underlying ht w, if_pos hk.1, Int.toNat_natCast, e, e2]

theorem run_indexAt_slice (hT : T.Ok P) {t e : TypeId} {te : TI} (ht : P.underlying t = some (.slice e)) (he : tlook T e = some te) {b o n c : Nat} {k : Int} {ik : IntKind} (hk : 0 ≤ k ∧ k < n) (w : World) :
    (Instr.indexAt t (.slice (some ⟨b, o, none⟩) n c) (.int ik k)).run P w = .ok (.pointer (some ⟨b, o + k.toNat * te.size, none⟩)) w := by
  simp only [Instr.indexAt, asIntOf, Sem.run_bind, Sem.run_pure, Result.andThen_ok, run_underlying ht w, if_pos hk, run_sizeOf' hT he w, add_none']

theorem run_len_str {t : TypeId} (ht : P.underlying t = some .string) (s : ByteArray) (ty : TypeId) (w : World) : (Builtin.len_ #[t] ty #[.string s]).run P w = .ok (.int .i64 (s.size : Nat)) w := by
  simp [Builtin.len_, run_underlying ht, goInt]
theorem run_len_slice {t e : TypeId} (ht : P.underlying t = some (.slice e)) (A : Option Addr) (n c : Nat) (ty : TypeId) (w : World) : (Builtin.len_ #[t] ty #[.slice A n c]).run P w = .ok (.int .i64 (n : Nat)) w := by
  simp [Builtin.len_, run_underlying ht, goInt]
theorem exec_builtin {b : Builtin} {xs : List Operand} {ts : Array TypeId} {c : Call} (ho : o.op = .call c) (hc : c.callee = .builtin b) (hx : c.args.toList = xs) (ht : c.argTypes = ts) :
    ∃ cs, execOp a.eval o = builtin b ts o.type cs (xs.map a.eval).toArray := by
  have hx' : c.args = xs.toArray := by rw [← hx]
  unfold execOp
  rw [ho]
  refine ⟨c.args.map fun | .const _ => true | _ => false, ?_⟩
  simp [resolve, hc, invoke, ht, hx', bind, Sem.bind, pure]
  rfl

theorem yl_len (sat : Sat X S ν st a w) {x : Operand} {t : TypeId} {n : Nat} {c : Call} (ho : o.op = .call c) (hc : c.callee = .builtin .len) (hx : c.args.toList = [x]) (ht : c.argTypes.toList = [t]) (hav : av = .o (.c (.int .i64 (n : Nat))))
    (h : ∀ w', (Builtin.len_ #[t] o.type #[a.eval x]).run P w' = .ok (.int .i64 (n : Nat)) w') : Yl P Kf S ν st a w o av := by
  subst hav
  have ht' : c.argTypes = #[t] := by rw [← Array.toList_inj]; exact ht
  refine yl_pure (v := .int .i64 (n : Nat)) ⟨rfl, rfl⟩ trivial fun w' => ?_
  obtain ⟨cs, e⟩ := exec_builtin (a := a) ho hc hx ht'
  rw [e]
  simp only [builtin, List.map_cons, List.map_nil, Sem.run_bind]
  rw [h w']
  simp

theorem und_struct (hT : T.Ok P) {t zi z1 z2 : Nat} {fs : List (Nat × Nat × Nat)} {z3 : List Value} {z4 : Bool} (ht : tlook T t = some ⟨zi, .struct fs, z1, z2, z3, z4⟩) :
    ∃ arr : Array Field, P.underlying t = some (.struct arr) ∧ arr.toList.map (fun f => (f.type, f.offset)) = fs.map (fun p => (p.1, p.2.1)) ∧ ∀ p ∈ fs, (P.info? p.1).map (·.size) = some p.2.2 ∧ 0 < p.2.2 := by
  obtain ⟨hti, hid⟩ := hT.get ht
  obtain ⟨d, hu, ⟨arr, rfl, h1, h2⟩, _⟩ := hti.und
  have hid : zi = t := hid
  subst hid
  exact ⟨arr, hu, h1, h2⟩

theorem run_field (hT : T.Ok P) {s zi z1 z2 : Nat} {fs : List (Nat × Nat × Nat)} {z3 : List Value} {z4 : Bool} (ht : tlook T s = some ⟨zi, .struct fs, z1, z2, z3, z4⟩) {f ft fo fz : Nat} (hf : field? fs f = some (ft, fo, fz)) {ti : TI} (hti : tlook T ft = some ti)
    {as : List A1} {us : List Value} (hp : part1 as fo ti = some av) (hr : All2 (A1.rel w S ν) as us) {m : Nat} (hm : ∀ x ∈ as, x.lt m) :
    ∃ u, av.rel w S ν u ∧ av.lt m ∧ ∀ w' : World, (Instr.field s (.agg us.toArray) f).run P w' = .ok u w' := by
  obtain ⟨arr, hu, h1, h2⟩ := und_struct hT ht
  obtain ⟨fd, e1, e2, e3, e4⟩ := agg_fields (P := P) (w := w) h1 hf
  obtain ⟨ht2, hid⟩ := hT.get hti
  obtain ⟨d, hu2, _, hrow⟩ := ht2.und
  rw [hid] at hu2
  have e2 : fd.type = ft := e2
  have e3 : fd.offset = fo := e3
  have hagg : ∀ w' : World, (isAgg ft).run P w' = .ok ti.agg w' := fun w' => by
    unfold isAgg
    rw [Sem.run_bind, run_underlying hu2 w', ← hrow]
    cases d <;> simp_all
  have hrun : ∀ w' : World, (Instr.field s (.agg us.toArray) f).run P w' = (part ft us.toArray fo).run P w' := fun w' => by
    simp only [Instr.field, Sem.run_bind, run_underlying hu w', Result.andThen_ok, e1, asAgg, Sem.run_pure, e2, e3]
  unfold part1 at hp
  split at hp
  · rename_i ha
    split at hp
    · rename_i x hx
      cases hp
      rw [nth_eq] at hx
      obtain ⟨u, h3, h4⟩ := hr.get hx
      refine ⟨u, h4, hm x (List.mem_of_getElem? hx), fun w' => ?_⟩
      rw [hrun w']
      simp only [part, Sem.run_bind, hagg w', ha, Result.andThen_ok]
      simp [h3]
    · cases hp
  · rename_i ha
    split at hp
    · rename_i r hd
      split at hp
      · rename_i q hq
        cases hp
        have f1 := dropN_eq hd
        obtain ⟨f2, f3⟩ := takeN_eq hq
        subst f1
        have hrq : All2 (A1.rel w S ν) q ((us.drop fo).take ti.size) := by rw [f2]; exact (hr.drop fo).take ti.size
        refine ⟨.agg ((us.drop fo).take ti.size).toArray, ⟨_, rfl, hrq⟩, fun x hx => hm x (List.mem_of_mem_drop (List.mem_of_mem_take (f2 ▸ hx))), fun w' => ?_⟩
        rw [hrun w']
        simp only [part, Sem.run_bind, hagg w', ha, Result.andThen_ok, run_sizeOf' hT hti w', if_true, Sem.run_pure]
        congr 2
        rw [← Array.toList_inj]
        simp [List.extract_eq_take_drop]
      · cases hp
    · cases hp

theorem places_of : ∀ {arr : List Field} {fs : List (Nat × Nat × Nat)}, arr.map (fun f => (f.type, f.offset)) = fs.map (fun p => (p.1, p.2.1)) → (∀ p ∈ fs, (P.info? p.1).map (·.size) = some p.2.2 ∧ 0 < p.2.2) →
    arr.mapM (fun f => (P.info? f.type).map fun i => (f.offset, i.size)) = some (fs.map fun p => (p.2.1, p.2.2))
  | [], [], _, _ => rfl
  | f :: arr, p :: fs, h, h2 => by
    simp only [List.map_cons, List.cons.injEq, Prod.mk.injEq] at h
    obtain ⟨⟨e1, e2⟩, h⟩ := h
    have := (h2 p (List.mem_cons_self ..)).1
    simp only [List.mapM_cons, List.map_cons]
    rw [places_of h fun q hq => h2 q (List.mem_cons_of_mem _ hq), e1, e2]
    cases hq : P.info? p.1 with
    | none => rw [hq] at this; cases this
    | some i => rw [hq] at this; simp at this; simp [this]
  | [], _ :: _, h, _ => by simp at h
  | _ :: _, [], h, _ => by simp at h
theorem field?_eq : ∀ (l : List (Nat × Nat × Nat)) (i : Nat), field? l i = l[i]?
  | [], i => by simp [field?]
  | _ :: _, 0 => rfl
  | _ :: l, i + 1 => by simp [field?, field?_eq l i]

theorem run_build' (hT : T.Ok P) {s zi z1 z2 : Nat} {fs : List (Nat × Nat × Nat)} {z3 : List Value} {z4 : Bool} (ht : tlook T s = some ⟨zi, .struct fs, z1, z2, z3, z4⟩) {zs : List A1} (hz : cellsC z3 = some zs) {ps : List (Nat × AV)} {r : List A1} (hr : fieldZ zs fs ps = some r)
    {vs : List (Nat × Value)} {m : Nat} (hv : All2 (fun (p : Nat × AV) (v : Nat × Value) => p.1 = v.1 ∧ p.2.rel w S ν v.2 ∧ p.2.lt m) ps vs) :
    ∃ us, All2 (A1.rel w S ν) r us ∧ (∀ x ∈ r, x.lt m) ∧ ∀ w' : World, (Instr.build s vs.toArray).run P w' = .ok (.agg us.toArray) w' := by
  obtain ⟨arr, hu, h1, h2⟩ := und_struct hT ht
  obtain ⟨i, z, e1, e2, e3, e4, e5, _⟩ := (hT.get ht).1.info
  have hid := (hT.get ht).2
  rw [hid] at e1
  have e5 : z.cells.toList = z3 := e5
  obtain ⟨c1, c2⟩ := cellsC_ok (w := w) (S := S) (ν := ν) hz
  have hpl := places_of h1 h2
  obtain ⟨us', f1, f2, f3⟩ := fieldZ_ok (places := fun x => ((fs.map fun p => (p.2.1, p.2.2)).toArray)[x]?) hr c1 (c2 m) hv (fun i p hp => by rw [field?_eq] at hp; simp [hp])
  refine ⟨us', f2, f3, fun w' => run_build w' s _ _ ?_⟩
  unfold Program.built
  simp only [e1, hu, e4, hpl]
  rw [← e5] at f1
  simpa using f1
end
end Go.Proofs.Ytfcihdkflnpcgaa.Am
