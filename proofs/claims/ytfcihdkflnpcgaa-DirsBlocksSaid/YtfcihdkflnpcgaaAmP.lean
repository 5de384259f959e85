/- The abstract machine: a slice whose last element is a slice of the call's own. No program is named. -/
import Derived.Test.YtfcihdkflnpcgaaAmM
namespace Go.Proofs.Ytfcihdkflnpcgaa.Am
open Go.RowKit Lw
/-- One row of one cell. -/
def rowC (d : DC) : Ct := ⟨1, fun _ _ => d⟩
section
variable {F : Fence} {P : Program} {X : Cx} {R : Act → World → Prop} {st : AS} {S : Nat → Prop} {ν : Nat → Value} {a : Act} {w : World} {ops : Array Oper} {Q : Exit → Act → World → Prop} {K : Nat → Bool}
theorem Sat.cx (sat : Sat X S ν st a w) {m : Nat} {ν0 : Nat → Value} (h1 : ∀ i, i < m → ν i = ν0 i) (h2 : m ≤ st.nid) : Sat ⟨X.N, X.w0, X.B0, X.S0, ν0, m, X.mks⟩ S ν st a w :=
  ⟨sat.defers, sat.size, sat.env, sat.hp, sat.nd, sat.blk, sat.imm, sat.imm0, sat.frame, sat.elt, sat.hlt, h1, h2⟩
theorem Sat.uncx {m : Nat} {ν0 : Nat → Value} (sat : Sat ⟨X.N, X.w0, X.B0, X.S0, ν0, m, X.mks⟩ S ν st a w) (h1 : ∀ i, i < X.m → ν0 i = X.ν0 i) (h2 : X.m ≤ m) : Sat X S ν st a w :=
  ⟨sat.defers, sat.size, sat.env, sat.hp, sat.nd, sat.blk, sat.imm, sat.imm0, sat.frame, sat.elt, sat.hlt, fun i hi => (sat.fix i (Nat.lt_of_lt_of_le hi h2)).trans (h1 i hi), Nat.le_trans h2 sat.ge⟩
/-- From here on all names stand for fixed values. -/
theorem TE.pin (h : ∀ ν0 : Nat → Value, (∀ i, i < X.m → ν0 i = X.ν0 i) → X.m ≤ st.nid → TE ⟨X.N, X.w0, X.B0, X.S0, ν0, st.nid, X.mks⟩ R st) : TE X R st :=
  fun S ν a w sat => h ν sat.fix sat.ge S ν a w (sat.cx (fun _ _ => rfl) (Nat.le_refl _))
theorem TE.unpin {m : Nat} {ν0 : Nat → Value} (h1 : ∀ i, i < X.m → ν0 i = X.ν0 i) (h2 : X.m ≤ m) (h : TE X R st) : TE ⟨X.N, X.w0, X.B0, X.S0, ν0, m, X.mks⟩ R st :=
  fun S ν a w sat => h S ν a w (sat.uncx h1 h2)
theorem TH.pin {fuel : Nat} {listed : Array Bool} (h : ∀ ν0 : Nat → Value, (∀ i, i < X.m → ν0 i = X.ν0 i) → X.m ≤ st.nid → TH F P ⟨X.N, X.w0, X.B0, X.S0, ν0, st.nid, X.mks⟩ ops Q K fuel listed st) : TH F P X ops Q K fuel listed st :=
  fun S ν a w H sat => h ν sat.fix sat.ge S ν a w H (sat.cx (fun _ _ => rfl) (Nat.le_refl _))
theorem TH.unpin {m : Nat} {ν0 : Nat → Value} {fuel : Nat} {listed : Array Bool} (h1 : ∀ i, i < X.m → ν0 i = X.ν0 i) (h2 : X.m ≤ m) (h : TH F P X ops Q K fuel listed st) : TH F P ⟨X.N, X.w0, X.B0, X.S0, ν0, m, X.mks⟩ ops Q K fuel listed st :=
  fun S ν a w H sat => h S ν a w H (sat.uncx h1 h2)
theorem TL.pin {l : List Oper} {fuel : Nat} {lb : List Bool} (h : ∀ ν0 : Nat → Value, (∀ i, i < X.m → ν0 i = X.ν0 i) → X.m ≤ st.nid → TL F P ⟨X.N, X.w0, X.B0, X.S0, ν0, st.nid, X.mks⟩ l Q K fuel lb st) : TL F P X l Q K fuel lb st :=
  fun hh => TH.pin fun ν0 h1 h2 => h ν0 h1 h2 hh
theorem TL.unpin {m : Nat} {ν0 : Nat → Value} {l : List Oper} {fuel : Nat} {lb : List Bool} (h1 : ∀ i, i < X.m → ν0 i = X.ν0 i) (h2 : X.m ≤ m) (h : TL F P X l Q K fuel lb st) : TL F P ⟨X.N, X.w0, X.B0, X.S0, ν0, m, X.mks⟩ l Q K fuel lb st :=
  fun hh => TH.unpin h1 h2 (h hh)
/-- A slot that holds what the name j stands for. -/
theorem Sat.slotOwn (sat : Sat X S ν st a w) (t j : Nat) {v : Value} (hl : look st.env t = some (.o (.c v))) (hj : j < X.m) (hv : v = X.ν0 j) : Sat X S ν (st.put (some t) (.o (.own j))) a w := by
  obtain ⟨ht, hr⟩ := sat.env _ (look_mem hl)
  obtain ⟨e1, e2⟩ := hr
  have e3 : ν j = v := (sat.fix j hj).trans hv.symm
  exact sat.reput ht (v := .o (.own j)) ⟨e1.trans e3.symm, by rw [e3]; exact e2⟩ (Nat.lt_of_lt_of_le hj sat.ge)
theorem TE.slotOwn (t j : Nat) {v : Value} (hl : look st.env t = some (.o (.c v))) (hj : Nat.blt j X.m = true) (hv : v = X.ν0 j) (h : TE X R (st.put (some t) (.o (.own j)))) : TE X R st :=
  fun S ν a w sat => h S ν a w (sat.slotOwn t j hl (blt_lt hj) hv)
theorem Sat.slotC (sat : Sat X S ν st a w) (t : Nat) {j : Nat} (hl : look st.env t = some (.o (.own j))) (hj : j < X.m) : Sat X S ν (st.put (some t) (.o (.c (X.ν0 j)))) a w := by
  obtain ⟨ht, hr⟩ := sat.env _ (look_mem hl)
  obtain ⟨e1, e2⟩ := hr
  have e3 : ν j = X.ν0 j := sat.fix j hj
  exact sat.reput ht (v := .o (.c (X.ν0 j))) ⟨e1.trans e3, by rw [← e3]; exact e2⟩ trivial
theorem TE.slotC (t : Nat) (v : Value) {j : Nat} (hl : look st.env t = some (.o (.own j))) (hj : Nat.blt j X.m = true) (hv : v = X.ν0 j) (h : TE X R (st.put (some t) (.o (.c v)))) : TE X R st := by
  subst hv; exact fun S ν a w sat => h S ν a w (sat.slotC t hl (blt_lt hj))
theorem TH.re {fuel : Nat} {listed : Array Bool} {st' : AS} (hh : st'.hp = st.hp) (hs : ∀ {S : Nat → Prop} {ν : Nat → Value} {a : Act} {w : World}, Sat X S ν st a w → Sat X S ν st' a w) (h : TH F P X ops Q K fuel listed st') : TH F P X ops Q K fuel listed st := by
  intro S ν a w H sat hH hA
  refine h S ν a w H (hs sat) hH fun w' hg => hA w' ?_
  unfold Ag at hg ⊢
  rw [hh] at hg
  exact hg
theorem TL.slotOwn (t j : Nat) {l : List Oper} {fuel : Nat} {lb : List Bool} {v : Value} (hl : look st.env t = some (.o (.c v))) (hj : Nat.blt j X.m = true) (hv : v = X.ν0 j) (h : TL F P X l Q K fuel lb (st.put (some t) (.o (.own j)))) : TL F P X l Q K fuel lb st :=
  fun hh => TH.re (st' := st.put (some t) (.o (.own j))) rfl (fun sat => sat.slotOwn t j hl (blt_lt hj) hv) (h hh)
theorem TL.slotC (t : Nat) (v : Value) {j : Nat} {l : List Oper} {fuel : Nat} {lb : List Bool} (hl : look st.env t = some (.o (.own j))) (hj : Nat.blt j X.m = true) (hv : v = X.ν0 j) (h : TL F P X l Q K fuel lb (st.put (some t) (.o (.c v)))) : TL F P X l Q K fuel lb st := by
  subst hv; exact fun hh => TH.re (st' := st.put (some t) (.o (.c (X.ν0 j)))) rfl (fun sat => sat.slotC t hl (blt_lt hj)) (h hh)
/-- A slice with a link is a slice. -/
theorem Sat.unlink {n E j : Nat} {ct : Ct} {rest : List Chunk} {d : DC} (sat : Sat X S ν st a w) (htk : takeNest (fun _ => true) st.hp n = some (E, ct, j, rest)) (hd : d.rel w S (ν j)) : Sat X S ν ⟨st.env, .own n E 1 (appC ct (rowC d)) :: rest, st.nid⟩ a w := by
  obtain ⟨hp, _⟩ := takeNest_perm htk
  have hm : Chunk.nest n E ct j ∈ st.hp := hp.symm.subset (List.mem_cons_self ..)
  obtain ⟨xs, h1, h2, h3, h4⟩ := sat.hp _ hm
  have hlt := sat.hlt _ hm
  refine sat.swap (nid := st.nid) (takes := [.nest n E ct j]) (gives := [.own n E 1 (appC ct (rowC d))]) hp (Fr.refl _ _) (fun _ _ => rfl) (fun _ h => h) (fun b hb => ⟨(sat.imm b hb).1, .inl hb⟩) (fun ch hc => ?_) ?_ (fun b hb => ?_) (fun ch hc => ?_) (Nat.le_refl _)
  · obtain rfl := List.mem_singleton.1 hc
    refine ⟨xs, h1, fun i k hi hk => ?_⟩
    have hk0 : k = 0 := by omega
    subst hk0
    simp only [Nat.mul_one, Nat.add_zero]
    have hi' : i < ct.n + 1 := hi
    by_cases hic : i < ct.n
    · obtain ⟨u, e, r⟩ := h2 i hic
      exact ⟨u, e, by simp only [appC, if_pos hic]; exact r⟩
    · have : i = ct.n := by omega
      subst this
      exact ⟨_, h3, by simp only [appC, if_neg hic]; exact hd⟩
  · unfold blks
    rw [List.filterMap_cons]
    cases (Chunk.own n E 1 (appC ct (rowC d))).blk ν <;> simp
  · have hb' : b ∈ blks ν [Chunk.nest n E ct j] := hb
    obtain ⟨ch, hc, e⟩ := mem_blks.1 hb'
    obtain rfl := List.mem_singleton.1 hc
    obtain ⟨k1, k2, k3⟩ := sat.blk b (mem_blks.2 ⟨_, hm, e⟩)
    exact ⟨k1, k2, .inl hb'⟩
  · obtain rfl := List.mem_singleton.1 hc
    exact hlt.1
theorem Sat.link {n E j : Nat} {ct ct' : Ct} {rest : List Chunk} (sat : Sat X S ν st a w) (htk : takeOwn (fun _ => true) st.hp n = some (E, 1, ct', rest)) (hj : j < X.m) (hle : LeDC 1 ct' (appC ct (rowC (.c (X.ν0 j))))) : Sat X S ν ⟨st.env, .nest n E ct j :: rest, st.nid⟩ a w := by
  obtain ⟨hp, _⟩ := takeOwn_perm htk
  have hm : Chunk.own n E 1 ct' ∈ st.hp := hp.symm.subset (List.mem_cons_self ..)
  obtain ⟨xs, h1, h2⟩ := sat.hp _ hm
  have hlt := sat.hlt _ hm
  have hjn : j < st.nid := Nat.lt_of_lt_of_le hj sat.ge
  have hn : ct'.n = ct.n + 1 := hle.en
  refine sat.swap (nid := st.nid) (takes := [.own n E 1 ct']) (gives := [.nest n E ct j]) hp (Fr.refl _ _) (fun _ _ => rfl) (fun _ h => h) (fun b hb => ⟨(sat.imm b hb).1, .inl hb⟩) (fun ch hc => ?_) ?_ (fun b hb => ?_) (fun ch hc => ?_) (Nat.le_refl _)
  · obtain rfl := List.mem_singleton.1 hc
    refine ⟨xs, by rw [← hn]; exact h1, fun i hi => ?_, ?_⟩
    · obtain ⟨u, e, r⟩ := h2 i 0 (by omega) Nat.zero_lt_one
      have := hle.ec i 0 (by omega) Nat.zero_lt_one _ _ _ r
      simp only [appC, if_pos hi] at this
      exact ⟨u, by simpa using e, this⟩
    · obtain ⟨u, e, r⟩ := h2 ct.n 0 (by omega) Nat.zero_lt_one
      have := hle.ec ct.n 0 (by omega) Nat.zero_lt_one _ _ _ r
      simp only [appC, if_neg (Nat.lt_irrefl _)] at this
      obtain ⟨rfl, k⟩ := this
      have e2 : ν j = X.ν0 j := sat.fix j hj
      exact ⟨by rw [e2]; simpa using e, by rw [e2]; exact k⟩
  · unfold blks
    rw [List.filterMap_cons]
    cases (Chunk.nest n E ct j).blk ν <;> simp
  · have hb' : b ∈ blks ν [Chunk.own n E 1 ct'] := hb
    obtain ⟨ch, hc, e⟩ := mem_blks.1 hb'
    obtain rfl := List.mem_singleton.1 hc
    obtain ⟨k1, k2, k3⟩ := sat.blk b (mem_blks.2 ⟨_, hm, e⟩)
    exact ⟨k1, k2, .inl hb'⟩
  · obtain rfl := List.mem_singleton.1 hc
    exact ⟨hlt, hjn⟩
/-- Once names are fixed, the link is a value. -/
theorem TE.unlink (n : Nat) (v : Value) {E j : Nat} {ct : Ct} {rest : List Chunk} (htk : takeNest (fun _ => true) st.hp n = some (E, ct, j, rest)) (hj : Nat.blt j X.m = true) (hv : v = X.ν0 j) (h : TE X R ⟨st.env, .own n E 1 (appC ct (rowC (.c v))) :: rest, st.nid⟩) : TE X R st :=
  fun S ν a w sat => by
    have hj := blt_lt hj
    subst hv
    obtain ⟨hp, _⟩ := takeNest_perm htk
    have hm : Chunk.nest n E ct j ∈ st.hp := hp.symm.subset (List.mem_cons_self ..)
    obtain ⟨xs, h1, h2, h3, h4⟩ := sat.hp _ hm
    have e2 : ν j = X.ν0 j := sat.fix j hj
    exact h S ν a w (sat.unlink htk ⟨e2, by rw [← e2]; exact h4⟩)
theorem TE.link (n j : Nat) (ct : Ct) (v : Value) {E : Nat} {ct' : Ct} {rest : List Chunk} (htk : takeOwn (fun _ => true) st.hp n = some (E, 1, ct', rest)) (hj : Nat.blt j X.m = true) (hv : v = X.ν0 j) (hle : LeDC 1 ct' (appC ct (rowC (.c v)))) (h : TE X R ⟨st.env, .nest n E ct j :: rest, st.nid⟩) : TE X R st := by
  subst hv; exact fun S ν a w sat => h S ν a w (sat.link htk (blt_lt hj) hle)
/-- The linked slice is given up: it is only read from now on. -/
theorem TE.unnest (n j : Nat) {E E' sz : Nat} {ct ctj : Ct} {rest rest2 : List Chunk} (htk : takeOwn (fun _ => true) st.hp j = some (E', sz, ctj, rest)) (htn : takeNest (fun _ => true) (frzH j sz ctj rest) n = some (E, ct, j, rest2))
    (h : TE X R ⟨frzE j sz ctj st.env, .own n E 1 (appC ct (rowC (.sl sz ctj.n ctj.cell))) :: rest2, st.nid⟩) : TE X R st := by
  intro S ν a w sat
  obtain ⟨hp, _⟩ := takeOwn_perm htk
  have hmem : Chunk.own j E' sz ctj ∈ st.hp := hp.symm.subset (List.mem_cons_self ..)
  obtain ⟨xs, o1, o2⟩ := sat.hp _ hmem
  have gr : Gr w w S (fun b => S b ∨ (ν j).ownBlock = some b) := ⟨Nat.le_refl _, fun _ _ _ => rfl, fun _ h => .inl h⟩
  have hr : (DC.sl sz ctj.n ctj.cell).rel w (fun b => S b ∨ (ν j).ownBlock = some b) (ν j) := by
    obtain ⟨A, c, e, h1, h2, h3, h4, h5⟩ := ownsRow_src o1
    refine ⟨A, c, e, h1, h2, h3, fun hn => ?_⟩
    obtain ⟨b, off, rfl, hb, _, hc⟩ := h5 hn
    refine ⟨b, off, rfl, .inr (by rw [e]; rfl), hb, fun i j hi hj => ?_⟩
    obtain ⟨u, u1, u2⟩ := o2 i j hi hj
    exact ⟨u, by rw [Nat.add_assoc]; exact hc _ _ u1, DC.mono gr u2⟩
  exact h _ ν a w ((sat.freeze j htk).unlink htn hr)
section
variable {T : Tys} {o : Oper}
/-- An operation that leaves the world as it is, and reads a slice with a link. -/
theorem m_nestPure (hT : T.Ok P) (n : Nat) {E j : Nat} {ct : Ct} {rest : List Chunk} {av : AV} {ps : List Prop} (htk : takeNest (fun _ => true) st.hp n = some (E, ct, j, rest)) (h : apure0 T (fun _ => true) o ⟨st.env, .own n E 1 (appC ct (rowC .any)) :: rest, st.nid⟩ = some (av, ps)) (hps : AllP ps) : StepTo P K o st (· = st.put o.dst av) := by
  intro X S ν a w Q K' hd sat hk
  obtain ⟨hp, _⟩ := takeNest_perm htk
  have hm : Chunk.nest n E ct j ∈ st.hp := hp.symm.subset (List.mem_cons_self ..)
  obtain ⟨xs, h1, h2, h3, h4⟩ := sat.hp _ hm
  obtain ⟨u, k1, k2, k3⟩ := apure0_ok hT h hps.mem (sat.unlink htk (d := .any) h4)
  exact wp_value (w' := w) (u := u) (k3 w (Ag.refl _ _ _ _ _)) (hk _ S ν _ _ rfl (sat.put hd k1 k2) ⟨Nat.le_refl _, fun _ h => h, fun ch hc hk => ⟨by rw [(AS.put_hp _ _ _).1]; exact hc, rfl⟩, fun _ _ => rfl⟩)
/-- The last element is read. -/
theorem m_nestLoad (hT : T.Ok P) {t : TypeId} {x : Operand} {ti : TI} {n E j k : Nat} {ct : Ct} {rest : List Chunk} (ho : o.op = .load t x) (hti : tlook T t = some ti) (hag : ti.agg = false) (hsz : ti.size = 1) (hx : aop st x = some (.o (.optr n 1 k 0))) (htk : takeNest (fun _ => true) st.hp n = some (E, ct, j, rest)) (hk : k = ct.n) : StepTo P K o st (· = st.put o.dst (.o (.own j))) := by
  subst hk
  intro X S ν a w Q K' hd sat hK
  obtain ⟨hp, _⟩ := takeNest_perm htk
  have hm : Chunk.nest n E ct j ∈ st.hp := hp.symm.subset (List.mem_cons_self ..)
  obtain ⟨xs, h1, h2, h3, h4⟩ := sat.hp _ hm
  have h : apure0 T (fun _ => true) o ⟨st.env, .own n E 1 (appC ct (rowC (.c (ν j)))) :: rest, st.nid⟩ = some (.o (.c (ν j)), [ct.n < ct.n + 1]) := by
    have hx' : aop ⟨st.env, .own n E 1 (appC ct (rowC (.c (ν j)))) :: rest, st.nid⟩ x = some (.o (.optr n 1 ct.n 0)) := by
      cases x <;> exact hx
    have hf : findOwn (fun _ => true) (.own n E 1 (appC ct (rowC (.c (ν j)))) :: rest) n = some (E, 1, appC ct (rowC (.c (ν j)))) := by
      simp only [findOwn, Nat.beq_refl]
    have hc : (appC ct (rowC (.c (ν j)))).cell ct.n 0 = .c (ν j) := by simp only [appC, if_neg (Nat.lt_irrefl _)]; rfl
    unfold apure0
    rw [ho]
    simp only [hti, hx', hf, row1, hag, hsz, hc, Nat.beq_refl]
    rfl
  obtain ⟨u, k1, k2, k3⟩ := apure0_ok hT h (by intro p hp; obtain rfl := List.mem_singleton.1 hp; exact Nat.lt_succ_self _) (sat.unlink htk (d := .c (ν j)) ⟨rfl, h4⟩)
  exact wp_value (w' := w) (u := u) (k3 w (Ag.refl _ _ _ _ _)) (hK _ S ν _ _ rfl (sat.put hd (v := .o (.own j)) k1 (sat.hlt _ hm).2) ⟨Nat.le_refl _, fun _ h => h, fun ch hc hk => ⟨by rw [(AS.put_hp _ _ _).1]; exact hc, rfl⟩, fun _ _ => rfl⟩)
end
theorem set_last {ct : Ct} {d d' : DC} {k : Nat} (hk : k = ct.n) : LeDC 1 (setC (appC ct (rowC d)) k 0 d') (appC ct (rowC d')) := ⟨rfl, fun i j hi hj => by
  subst hk
  obtain rfl : j = 0 := by omega
  have h1 : i < ct.n + 1 := hi
  simp only [setC, appC, rowC]
  by_cases hic : i < ct.n
  · rw [if_neg (by omega), if_pos hic, if_pos hic]; exact LeX.refl _
  · rw [if_pos ⟨by omega, trivial⟩, if_neg hic]; exact LeX.refl _⟩
theorem lit_row (d : DC) : LeDC 1 (litC [[d]]) (rowC d) := ⟨rfl, fun i j hi hj => by
  have h1 : i < 1 := hi
  obtain rfl : i = 0 := by omega
  obtain rfl : j = 0 := by omega
  exact LeX.refl _⟩
end
end Go.Proofs.Ytfcihdkflnpcgaa.Am
