/- Texts of this claim, joined. -/
import Derived.Test.YthhpofehcnjmmaaPk3
set_option linter.unusedSimpArgs false
set_option linter.unusedVariables false
/- The abstract machine: a slice of one's own is lent out of several slots; a slice of plain values that was made meanwhile stays. No program is named. -/
namespace Go.Proofs.Ythhpofehcnjmmaa.Am
open Go.RowKit Lw
section
variable {F : Fence} {P : Program} {T : Tys} {X Y : Cx} {st : AS} {R : Act → World → Prop} {S S1 : Nat → Prop} {ν : Nat → Value} {a : Act} {w : World}
/-- A slice of one's own is lent; the slots ts hold it. -/
theorem TE.lendL (ts : List Nat) (t id : Nat) {E sz : Nat} {ct : Ct} {rest : List Chunk} (hk : X.mks = false) (hl0 : look st.env t = some (.o (.own id))) (hl : ∀ t ∈ ts, look st.env t = some (.o (.own id))) (htk : takeOwn (fun _ => true) st.hp id = some (E, sz, ct, rest)) (hn : 0 < ct.n) {e2 : Env} {h2 : List Chunk} {n2 : Nat} (hst : (AS.mk (frzE id sz ct st.env) (frzH id sz ct rest) st.nid).force some = some ⟨e2, h2, n2⟩)
    (h : ∀ w0 B0 S0 ν0 v S1 g, Lent X ⟨X.N, w0, B0, S0, ν0, X.m, false⟩ E sz ct v S1 g → TE ⟨X.N, w0, B0, S0, ν0, X.m, false⟩ R ⟨appE e2 (ts.map fun t => (t, .o (.c v))), h2, n2⟩) : TE X R st := by
  rw [AS.force_eq] at hst
  cases hst
  intro S ν a w sat
  have sat2 := sat.freeze id htk
  obtain ⟨hp, _⟩ := takeOwn_perm htk
  have hmem : Chunk.own id E sz ct ∈ st.hp := hp.symm.subset (List.mem_cons_self ..)
  obtain ⟨xs, o1, o2⟩ := sat.hp _ hmem
  obtain ⟨_, _, hone⟩ := sat.env _ (look_mem hl0)
  obtain ⟨g, hg⟩ : ∃ g, (ν id).ownBlock = some g := by
    rcases o1.2 with ⟨_, e⟩ | ⟨g, cap, cur, e, _⟩
    · omega
    · exact ⟨g, by rw [e]; rfl⟩
  have hgb : (Chunk.own id E sz ct).blk ν = some g := hg
  obtain ⟨b1, b2, b3⟩ := sat.blk g (mem_blks.2 ⟨_, hmem, hgb⟩)
  have hd := sat.defers.2.2 hk
  refine h w (fun b => b ∈ blks ν (frzH id sz ct rest)) (fun b => S b ∨ (ν id).ownBlock = some b) ν (ν id) S g ⟨rfl, rfl, hk, rfl, fun b => ?_, sat.fix, sat.frame, sat.imm, sat.imm0, ⟨b1, b2, b3⟩, fun b hb => ?_, ⟨xs, o1, o2⟩, hg, hone⟩ _ ν a w ⟨⟨fun d hd' => (by rw [hd] at hd'; cases hd'), sat.defers.2.1, fun _ => hd⟩, sat.size, fun p hp' => ?_, sat2.hp, sat2.nd, fun b hb => ⟨(sat2.blk b hb).1, (sat2.blk b hb).2.1, .inr hb⟩, fun b hb => ⟨(sat2.imm b hb).1, .inl hb⟩, fun b hb => hb, Fr.refl _ _, fun p hp' => ?_, sat2.hlt, fun _ _ => rfl, sat.ge⟩
  · show S b ∨ (ν id).ownBlock = some b ↔ _
    rw [hg]
    constructor
    · rintro (h | h)
      · exact .inl h
      · cases h; exact .inr rfl
    · rintro (h | h)
      · exact .inl h
      · subst h; exact .inr rfl
  · obtain ⟨c1, c2, c3⟩ := sat2.blk b hb
    exact ⟨c1, fun h => c2 (.inl h), fun e => c2 (.inr (by rw [hg, e])), c3⟩
  · rcases appE_mem hp' with h1 | h1
    · exact sat2.env p h1
    · obtain ⟨t', ht', rfl⟩ := List.mem_map.1 h1
      obtain ⟨k1, k2, _⟩ := sat.env _ (look_mem (hl t' ht'))
      exact ⟨k1, k2, hone⟩
  · rcases appE_mem hp' with h1 | h1
    · exact sat2.elt p h1
    · obtain ⟨t', ht', rfl⟩ := List.mem_map.1 h1
      trivial
def delL : List Nat → Env → Env
  | [], e => e
  | t :: ts, e => del (delL ts e) t
theorem delL_mem : ∀ {ts : List Nat} {e : Env} {p : Nat × AV}, p ∈ delL ts e → p ∈ e
  | [], _, _, h => h
  | _ :: _, _, _, h => delL_mem (del_mem h).1
/-- The lent slice comes back into the slots ts; of what was made meanwhile the slice id2 of plain values stays. -/
theorem TE.thawL {E sz : Nat} {ct : Ct} {v : Value} {g : Nat} (L : Lent X Y E sz ct v S1 g) (ts : List Nat) (hm : ∀ t ∈ ts, (t, AV.o (.c v)) ∈ st.env) {t2 id2 E2 sz2 : Nat} {ct2 : Ct} (hm2 : (t2, AV.o (.own id2)) ∈ st.env) (hc2 : Chunk.own id2 E2 sz2 ct2 ∈ st.hp) (hpl : ∀ i j, ∃ u, ct2.cell i j = .c u) {st2 : AS} (hst : (AS.mk (appE (ts.map fun t => (t, .o (.own st.nid))) ((t2, .o (.own id2)) :: plainE (delL ts st.env))) [.own st.nid E sz ct, .own id2 E2 sz2 ct2] (st.nid + 1)).force some = some st2) (h : TE X R st2) : TE Y R st := by
  rw [AS.force_eq] at hst
  cases hst
  intro S ν a w sat
  have hd := sat.defers.2.2 L.k2
  have hgB : ¬ Y.B0 g := fun h => (L.B0 g h).2.2.1 rfl
  have hgh := sat.frame.block g L.g1.1 hgB
  have gr : Gr Y.w0 w S1 S1 := ⟨sat.frame.size, fun b hb hlt => sat.frame.block b hlt fun h => (L.B0 b h).2.1 hb, fun _ h => h⟩
  obtain ⟨xs, ⟨o1, o2⟩, o3⟩ := L.own
  have hlt2 : id2 < st.nid := sat.hlt _ hc2
  have e2 : upd ν st.nid v id2 = ν id2 := upd_lt id2 hlt2
  have hS1 : ∀ b, S1 b → S b := fun b hb => sat.imm0 b ((L.S0 b).2 (.inl hb))
  have hSg : S g := sat.imm0 g ((L.S0 g).2 (.inr rfl))
  have hb2 : ∀ b, (ν id2).ownBlock = some b → b < w.heap.size ∧ ¬ S b ∧ (Y.w0.heap.size ≤ b ∨ Y.B0 b) := fun b hb => sat.blk b (mem_blks.2 ⟨_, hc2, hb⟩)
  have hb1 : ∀ b, (upd ν st.nid v st.nid).ownBlock = some b → b = g := fun b hb => by
    rw [upd_same, L.blk] at hb
    exact (Option.some.inj hb).symm
  refine h S1 (upd ν st.nid v) a w ⟨⟨fun d hd' => (by rw [hd] at hd'; cases hd'), sat.defers.2.1, fun _ => hd⟩, by rw [← L.N]; exact sat.size, fun p hp => ?_, fun ch hc => ?_, ?_, fun b hb => ?_, fun b hb => ⟨Nat.lt_of_lt_of_le (L.imm b hb).1 sat.frame.size, (L.imm b hb).2⟩, L.imm0, L.frame sat.frame, fun p hp => ?_, fun ch hc => ?_, fun i hi => ?_, ?_⟩
  · rcases appE_mem hp with hp | hp
    · obtain ⟨t, ht, rfl⟩ := List.mem_map.1 hp
      obtain ⟨h1, h2, h3⟩ := sat.env _ (hm t ht)
      exact ⟨by rw [← L.N]; exact h1, by rw [upd_same]; exact h2, by rw [upd_same]; exact L.one⟩
    rcases List.mem_cons.1 hp with hp | hp
    · subst hp
      obtain ⟨h1, h2, h3⟩ := sat.env _ hm2
      exact ⟨by rw [← L.N]; exact h1, by rw [e2]; exact h2, by rw [e2]; exact h3⟩
    · obtain ⟨h1, h2⟩ := plainE_mem hp
      obtain ⟨h3, h4⟩ := sat.env p (delL_mem h1)
      refine ⟨by rw [← L.N]; exact h3, ?_⟩
      rcases h2 with ⟨u, e⟩ | ⟨u, e⟩
      · rw [e] at h4 ⊢; exact h4
      · rw [e] at h4 ⊢; exact h4
  · rcases List.mem_cons.1 hc with hc | hc
    · subst hc
      refine ⟨xs, ⟨o1, ?_⟩, fun i j hi hj => ?_⟩
      · rw [upd_same]
        rcases o2 with o2 | ⟨g', cap, cur, e1, e2, e3, e4⟩
        · exact .inl o2
        · have : g' = g := by
            have := L.blk
            rw [e1] at this
            exact Option.some.inj this
          subst this
          exact .inr ⟨g', cap, cur, e1, e2, by rw [hgh]; exact e3, e4⟩
      · obtain ⟨u, u1, u2⟩ := o3 i j hi hj
        exact ⟨u, u1, DC.mono gr u2⟩
    · rw [List.mem_singleton.1 hc]
      obtain ⟨ys, p1, p2⟩ := sat.hp _ hc2
      refine ⟨ys, by rw [e2]; exact p1, fun i j hi hj => ?_⟩
      obtain ⟨u, u1, u2⟩ := p2 i j hi hj
      obtain ⟨z, hz⟩ := hpl i j
      rw [hz] at u2 ⊢
      exact ⟨u, u1, u2⟩
  · have h1 : (Chunk.own st.nid E sz ct).blk (upd ν st.nid v) = some g := by
      show (upd ν st.nid v st.nid).ownBlock = some g
      rw [upd_same]
      exact L.blk
    have h2 : (Chunk.own id2 E2 sz2 ct2).blk (upd ν st.nid v) = (ν id2).ownBlock := by
      show (upd ν st.nid v id2).ownBlock = _
      rw [e2]
    show (List.filterMap (Chunk.blk (upd ν st.nid v)) [Chunk.own st.nid E sz ct, Chunk.own id2 E2 sz2 ct2]).Nodup
    rw [List.filterMap_cons, h1, List.filterMap_cons, h2]
    cases h3 : (ν id2).ownBlock with
    | none => simp
    | some b =>
      have := (hb2 b h3).2.1
      have hne : g ≠ b := fun e => this (e ▸ hSg)
      simp [hne]
  · obtain ⟨ch, hc, hbk⟩ := mem_blks.1 hb
    rcases List.mem_cons.1 hc with hc | hc
    · subst hc
      rw [hb1 b hbk]
      exact ⟨Nat.lt_of_lt_of_le L.g1.1 sat.frame.size, L.g1.2.1, L.g1.2.2⟩
    · rw [List.mem_singleton.1 hc] at hbk
      have hbk : (upd ν st.nid v id2).ownBlock = some b := hbk
      rw [e2] at hbk
      obtain ⟨q1, q2, q3⟩ := hb2 b hbk
      refine ⟨q1, fun h => q2 (hS1 b h), ?_⟩
      rcases q3 with q3 | q3
      · exact .inl (Nat.le_trans L.fr.size q3)
      · exact (L.B0 b q3).2.2.2
  · rcases appE_mem hp with hp | hp
    · obtain ⟨t, ht, rfl⟩ := List.mem_map.1 hp
      exact Nat.lt_succ_self _
    rcases List.mem_cons.1 hp with hp | hp
    · subst hp; exact Nat.lt_succ_of_lt hlt2
    · obtain ⟨h1, h2⟩ := plainE_mem hp
      rcases h2 with ⟨u, e⟩ | ⟨u, e⟩ <;> (rw [e]; trivial)
  · rcases List.mem_cons.1 hc with hc | hc
    · subst hc; exact Nat.lt_succ_self _
    · rw [List.mem_singleton.1 hc]; exact Nat.lt_succ_of_lt hlt2
  · have hge := sat.ge
    rw [L.m] at hge
    rw [upd_lt i (by omega), sat.fix i (by rw [L.m]; exact hi), L.fix i hi]
  · have hge := sat.ge
    rw [L.m] at hge
    exact Nat.le_succ_of_le hge
end
end Go.Proofs.Ythhpofehcnjmmaa.Am
