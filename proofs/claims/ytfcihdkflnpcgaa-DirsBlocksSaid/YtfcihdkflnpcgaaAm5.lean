/- The abstract machine: operations that leave the world as it is, all of them. No program is named. -/
import Derived.Test.YtfcihdkflnpcgaaAm4
namespace Go.Proofs.Ytfcihdkflnpcgaa.Am
open Go.RowKit Lw

section
variable {P : Program} {T : Tys} {Kf : Nat → Bool} {X : Cx} {S : Nat → Prop} {ν : Nat → Value} {st : AS} {a : Act} {w : World} {o : Oper} {av : AV} {ps : List Prop}

theorem eqGuard_one {op : BinOp} {t : TypeId} {x y : Operand} {u v : Value} (hu : u.oneCell' = true) (hn : u ≠ .nilIface) (w : World) : (eqGuard op t x y u v).run P w = .ok () w := by
  cases op <;> first | rfl | (cases u <;> first | rfl | (exact (hn rfl).elim) | (cases hu; done))

theorem run_eq_bool {t : TypeId} (ht : P.underlying t = some .bool) (a b : Bool) (w : World) : (Op.equal t (.bool a) (.bool b)).run P w = .ok (a == b) w := by
  have : ∀ d, (Op.equalIn (d + 1) t (.bool a) (.bool b)).run P w = .ok (a == b) w := fun d => by
    rw [Op.equalIn, Sem.run_bind, run_underlying ht]; simp
  exact this 9999
theorem abool_ok {x : A1} {b : Bool} {u : Value} (h : abool x = some b) (hx : x.rel w S ν u) : u = .bool b := by
  unfold abool at h
  split at h
  · cases h; exact hx
  · cases h; exact hx.1
  · cases h
theorem abin_ok {op : BinOp} {x y : A1} {r : A1} {xo yo : Operand} (t : TypeId) {tb : Bool} (htb : tb = true → P.underlying t = some .bool) {u v : Value} (h : abin tb op x y = some (r, ps)) (hps : ∀ p ∈ ps, p) (hx : x.rel w S ν u) (hy : y.rel w S ν v) :
    ∃ z, r.rel w S ν z ∧ (∀ m, r.lt m) ∧ ∀ w', (do eqGuard op t xo yo u v; binOp op t u v : Sem Value).run P w' = .ok z w' := by
  unfold abin at h
  split at h
  · obtain ⟨rfl, _⟩ := hx
    obtain ⟨rfl, _⟩ := hy
    obtain ⟨z, h1, h2, h3⟩ := abinInt_ok (P := P) (w := w) (S := S) (ν := ν) t h hps
    exact ⟨z, h1, h2, fun w' => by rw [Sem.run_bind, eqGuard_one rfl (by intro e; cases e)]; simpa using h3 w'⟩
  · obtain ⟨rfl, _⟩ := hx
    obtain ⟨rfl, _⟩ := hy
    obtain ⟨z, h1, h2, h3⟩ := abinStr_ok (P := P) (w := w) (S := S) (ν := ν) t h hps
    exact ⟨z, h1, h2, fun w' => by rw [Sem.run_bind, eqGuard_one rfl (by intro e; cases e)]; simpa using h3 w'⟩
  · split at h
    · rename_i a b ha hb
      cases h
      obtain rfl := abool_ok ha hx
      obtain rfl := abool_ok hb hy
      exact ⟨_, rfl, fun _ => trivial, fun w' => by
        rw [Sem.run_bind, eqGuard_one rfl (by intro e; cases e)]
        simp only [Result.andThen_ok, binOp, Sem.run_bind, run_eq_bool (htb rfl), Sem.run_pure]⟩
    · rename_i a b ha hb
      cases h
      obtain rfl := abool_ok ha hx
      obtain rfl := abool_ok hb hy
      exact ⟨_, rfl, fun _ => trivial, fun w' => by
        rw [Sem.run_bind, eqGuard_one rfl (by intro e; cases e)]
        simp only [Result.andThen_ok, binOp, Sem.run_bind, run_eq_bool (htb rfl), Sem.run_pure]⟩
    · cases h

def unsb : A1 → A1
  | .sb b => .c (.bool b)
  | a => a

theorem asB {x : Operand} (sat : Sat X S ν st a w) {v : AV} (h : aop st x = some v) : v.rel w S ν (a.eval x) ∧ v.lt st.nid := aop_ok sat h

theorem optInt_ok (sat : Sat X S ν st a w) {d n : Int} {x : Option Operand} (h : optInt st d x = some n) : (x = none ∧ n = d) ∨ ∃ y k, x = some y ∧ a.eval y = .int k n := by
  unfold optInt at h
  split at h
  · cases h; exact .inl ⟨rfl, rfl⟩
  · rename_i y
    split at h
    · rename_i k n' hy
      cases h
      exact .inr ⟨y, k, rfl, (aop_ok sat hy).1.1⟩
    · cases h

theorem run_sizeOf' (hT : T.Ok P) {t : TypeId} {ti : TI} (ht : tlook T t = some ti) (w : World) : (sizeOf t).run P w = .ok ti.size w := by
  obtain ⟨hti, hid⟩ := hT.get ht
  obtain ⟨i, z, e1, e2, _⟩ := hti.info
  rw [hid] at e1
  simp [sizeOf, typeInfo, e1, e2]
theorem und_slice (hT : T.Ok P) {t e zi z1 z2 : Nat} {z3 : List Value} {z4 : Bool} (ht : tlook T t = some ⟨zi, .slice e, z1, z2, z3, z4⟩) : P.underlying t = some (.slice e) := by
  obtain ⟨hti, hid⟩ := hT.get ht
  obtain ⟨d, hu, hd, _⟩ := hti.und
  have hd : d = .slice e := hd
  subst hd
  have hid : zi = t := hid
  subst hid
  exact hu
theorem und_str (hT : T.Ok P) {t zi z1 z2 : Nat} {z3 : List Value} {z4 : Bool} (ht : tlook T t = some ⟨zi, .str, z1, z2, z3, z4⟩) : P.underlying t = some .string := by
  obtain ⟨hti, hid⟩ := hT.get ht
  obtain ⟨d, hu, hd, _⟩ := hti.und
  have hd : d = .string := hd
  subst hd
  have hid : zi = t := hid
  subst hid
  exact hu
theorem und_int (hT : T.Ok P) {t zi z1 z2 : Nat} {k : IntKind} {z3 : List Value} {z4 : Bool} (ht : tlook T t = some ⟨zi, .int k, z1, z2, z3, z4⟩) : P.underlying t = some (.int k) := by
  obtain ⟨hti, hid⟩ := hT.get ht
  obtain ⟨d, hu, hd, _⟩ := hti.und
  have hd : d = .int k := hd
  subst hd
  have hid : zi = t := hid
  subst hid
  exact hu

theorem run_sliceBounds_plain {b : Bool} {n c : Nat} {lo hi : Option Operand} {l h : Int} (hl : (lo = none ∧ l = 0) ∨ ∃ y k, lo = some y ∧ a.eval y = .int k l) (hh : (hi = none ∧ h = n) ∨ ∃ y k, hi = some y ∧ a.eval y = .int k h)
    (hb : 0 ≤ l ∧ l ≤ h ∧ h ≤ n) (hc : n ≤ c) (w : World) : (Instr.sliceBounds b n c (lo.map a.eval) (hi.map a.eval) none).run P w = .ok (l.toNat, h.toNat, c) w := by
  obtain ⟨h, rfl⟩ := Int.eq_ofNat_of_zero_le (show 0 ≤ h by omega)
  obtain ⟨l, rfl⟩ := Int.eq_ofNat_of_zero_le hb.1
  have e1 : h ≤ c := by omega
  have e2 : l ≤ h := by omega
  have e4 : h ≤ n := by omega
  rcases hl with ⟨rfl, hl0⟩ | ⟨y, k, rfl, hy⟩ <;> rcases hh with ⟨rfl, hh0⟩ | ⟨y', k', rfl, hy'⟩
  · obtain rfl : l = 0 := by omega
    obtain rfl : h = n := by omega
    simp [Instr.sliceBounds]
  · obtain rfl : l = 0 := by omega
    simp [Instr.sliceBounds, Instr.sliceBound, asIntOf, hy', e1]
  · obtain rfl : h = n := by omega
    simp [Instr.sliceBounds, Instr.sliceBound, asIntOf, hy, e2]
  · simp [Instr.sliceBounds, Instr.sliceBound, asIntOf, hy, hy', e1, e2]
theorem run_sliceBounds_max {b : Bool} {n c : Nat} {lo : Option Operand} {hi mx : Operand} {l h m : Int} {kh km : IntKind} (hl : (lo = none ∧ l = 0) ∨ ∃ y k, lo = some y ∧ a.eval y = .int k l) (hh : a.eval hi = .int kh h) (hm : a.eval mx = .int km m)
    (hb : 0 ≤ l ∧ l ≤ h ∧ h ≤ m ∧ m ≤ n) (hc : n ≤ c) (w : World) : (Instr.sliceBounds b n c (lo.map a.eval) (some (a.eval hi)) (some (a.eval mx))).run P w = .ok (l.toNat, h.toNat, m.toNat) w := by
  obtain ⟨m, rfl⟩ := Int.eq_ofNat_of_zero_le (show 0 ≤ m by omega)
  obtain ⟨h, rfl⟩ := Int.eq_ofNat_of_zero_le (show 0 ≤ h by omega)
  obtain ⟨l, rfl⟩ := Int.eq_ofNat_of_zero_le hb.1
  have e0 : m ≤ c := by omega
  have e1 : h ≤ m := by omega
  have e2 : l ≤ h := by omega
  rcases hl with ⟨rfl, hl0⟩ | ⟨y, k, rfl, hy⟩
  · obtain rfl : l = 0 := by omega
    simp [Instr.sliceBounds, Instr.sliceBound, asIntOf, hh, hm, e0, e1]
  · simp [Instr.sliceBounds, Instr.sliceBound, asIntOf, hh, hm, hy, e0, e1, e2]

/-- A part of a read-only slice. -/
theorem ro_cut {sz n : Nat} {cell : Nat → Nat → DC} {l h m : Nat} {A : Option Addr} {c : Nat} (hr : (DC.sl sz n cell).rel w S (.slice A n c)) (hb : l ≤ h ∧ h ≤ n) (hm : h ≤ m ∧ m ≤ c) (hsz : 0 < sz) :
    (DC.sl sz (h - l) (fun i j => cell (l + i) j)).rel w S (.slice (if m = l then A else A.map (·.add (l * sz))) (h - l) (m - l)) := by
  obtain ⟨A', c', e, h1, h2, h3, h4⟩ := hr
  cases e
  refine ⟨_, _, rfl, by omega, by omega, fun hA => ?_, fun hn => ?_⟩
  · split at hA
    · omega
    · cases A with
      | none => have := h3 rfl; omega
      | some x => cases hA
  · obtain ⟨b, off, rfl, hs, hb', hc⟩ := h4 (by omega)
    refine ⟨b, off + l * sz, ?_, hs, hb', fun i j hi hj => ?_⟩
    · rw [if_neg (by omega)]; simp [add_none']
    · obtain ⟨u, e, r⟩ := hc (l + i) j (by omega) hj
      refine ⟨u, ?_, r⟩
      rw [show off + l * sz + i * sz + j = off + (l + i) * sz + j by rw [Nat.add_mul]; omega]; exact e

theorem fieldZ_ok : ∀ {ps : List (Nat × AV)} {z r : List A1} {fs : List (Nat × Nat × Nat)} {us : List Value} {vs : List (Nat × Value)} {places : Nat → Option (Nat × Nat)} {m : Nat}, fieldZ z fs ps = some r → All2 (A1.rel w S ν) z us → (∀ x ∈ z, x.lt m) → All2 (fun (p : Nat × AV) (v : Nat × Value) => p.1 = v.1 ∧ p.2.rel w S ν v.2 ∧ p.2.lt m) ps vs →
    (∀ i p, field? fs i = some p → places i = some (p.2.1, p.2.2)) → ∃ us', Instr.fill places us.toArray vs = some us'.toArray ∧ All2 (A1.rel w S ν) r us' ∧ ∀ x ∈ r, x.lt m
  | [], z, r, fs, us, vs, places, m, h, hz, hm, hv, hp => by
    cases vs with
    | nil => cases h; exact ⟨us, rfl, hz, hm⟩
    | cons v vs => exact hv.elim
  | (i, v) :: q, z, r, fs, us, vs, places, m, h, hz, hm, hv, hp => by
    cases vs with
    | nil => exact hv.elim
    | cons v' vs =>
      obtain ⟨⟨e1, e2, e3⟩, hv⟩ := hv
      simp only [fieldZ] at h
      split at h
      · rename_i t off x hf
        split at h
        · rename_i z' hz'
          obtain ⟨rfl, hlt⟩ := setN_eq hz'
          have hp1 := hp _ _ hf
          have e2 : x.rel w S ν v'.2 := e2
          have hone := A1.one e2
          have hcells : v'.2.cells = #[v'.2] := by cases hq : v'.2 <;> first | rfl | (rw [hq] at hone; cases hone)
          have hlen := hz.length
          have hz2 : All2 (A1.rel w S ν) (z.set off x) (us.set off v'.2) := hz.set e2
          obtain ⟨us', h1, h2, h3⟩ := fieldZ_ok (ps := q) (places := places) h hz2 (fun y hy => by
            rcases List.mem_or_eq_of_mem_set hy with hy | rfl
            · exact hm y hy
            · exact e3) hv hp
          refine ⟨us', ?_, h2, h3⟩
          obtain ⟨i', u'⟩ := v'
          have e1 : i = i' := e1
          subst e1
          simp only [Instr.fill, hp1]
          have hcells : u'.cells = #[u'] := hcells
          rw [hcells]
          have : off < us.length := by rw [← hlen]; exact hlt
          rw [if_neg (by simp; omega)]
          simpa using h1
        · cases h
      · cases h
end
end Go.Proofs.Ytfcihdkflnpcgaa.Am
