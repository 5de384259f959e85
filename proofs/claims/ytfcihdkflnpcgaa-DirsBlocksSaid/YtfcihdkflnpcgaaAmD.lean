/- The abstract machine: one law for all operations that make or write memory; plain regions. No program is named. -/
import Derived.Test.YtfcihdkflnpcgaaAmC
namespace Go.Proofs.Ytfcihdkflnpcgaa.Am
open Go.RowKit Lw

section
variable {P : Program} {T : Tys} {K : Nat → Bool} {X : Cx} {S S' : Nat → Prop} {ν ν' : Nat → Value} {st st' : AS} {a : Act} {w w' : World} {o : Oper} {av : AV} {ps : List Prop}

theorem StepTo.eq {R R' : AS → Prop} (h : StepTo P K o st R) (he : ∀ s, R s → R' s) : StepTo P K o st R' :=
  fun X S ν a w Q K' hd sat hk => h X S ν a w Q K' hd sat fun st' S' ν' a' w' hr => hk st' S' ν' a' w' (he _ hr)

theorem findOwn_take {Kf : Nat → Bool} : ∀ {l : List Chunk} {id E sz : Nat} {ct : Ct} {r : List Chunk}, takeOwn Kf l id = some (E, sz, ct, r) → True := fun _ => trivial

set_option maxHeartbeats 1000000 in
theorem amem0_ok (hT : T.Ok P) (h : amem0 T K o st = some (st', ps)) (hps : ∀ p ∈ ps, p) : StepTo P K o st (· = st') := by
  unfold amem0 at h
  split at h
  · -- alloc
    rename_i e ho
    split at h
    · rename_i ti ht
      split at h
      · rename_i cs hc; cases h; exact m_alloc hT ho ht hc
      · cases h
    · cases h
  · -- box
    rename_i e x ho
    split at h
    · rename_i v hx; cases h; exact m_box ho (.inl ⟨v, hx, rfl⟩)
    · rename_i as hx; cases h; exact m_box ho (.inr hx)
    · cases h
  · -- buildSlice
    rename_i t len parts ho
    split at h
    · rename_i zi e z1 z2 z3 z4 ht
      split at h
      · rename_i te he
        split at h
        · rename_i rows hr
          split at h
          · rename_i hl hb
            cases h
            exact m_buildSlice hT ho (und_slice hT ht) he hr (Nat.eq_of_beq_eq_true hl) (Nat.le_of_ble_eq_true hb)
          · cases h
        · cases h
      · cases h
    · cases h
  · -- store
    rename_i t x y ho
    split at h
    · rename_i ti id off v hdst ht hx hy
      split at h
      · rename_i Tb cells rest htk
        split at h
        · rename_i cells' hc
          cases h
          exact m_store_box hT ho hdst ht hx hy htk hc
        · cases h
      · cases h
    · rename_i ti id sz k off v hdst ht hx hy
      split at h
      · rename_i E sz' ct rest d htk hag hdc
        split at h
        · rename_i hsz hoff
          cases h
          have hk : k < ct.n := hps _ (by simp)
          have hsz := Nat.eq_of_beq_eq_true hsz
          subst hsz
          have hoff : off < sz := Nat.le_of_ble_eq_true hoff
          refine m_store_own (ds := [d]) (ct' := setC ct k off d) hT ho hdst hx htk hk (by simp; omega) (by simp) ⟨rfl, fun i j => ?_⟩ ?_
          · simp only [setC, List.length_singleton]
            by_cases h1 : i = k ∧ j = off
            · obtain ⟨rfl, rfl⟩ := h1
              rw [if_pos ⟨rfl, rfl⟩, if_pos ⟨rfl, Nat.le_refl _, by omega⟩, Nat.sub_self]; rfl
            · rw [if_neg h1, if_neg (by rintro ⟨h2, h3, h4⟩; exact h1 ⟨h2, by omega⟩)]
          · intro X S ν a w sat
            obtain ⟨y1, y2⟩ := aop_ok sat hy
            have y1 : v.rel w S ν (a.eval y) := y1
            refine ⟨[a.eval y], ⟨A1.toD_rel hdc y1, trivial⟩, fun u hu => by rw [List.mem_singleton.1 hu]; exact A1.one y1, fun b i us Tb hg hi => ?_⟩
            exact run_storeAt1 (us := us.toList) hT ht hag (by simpa using hg) (by simp at hi ⊢; omega) (A1.one y1)
        · cases h
      · cases h
    · rename_i ti id sz k off as hdst ht hx hy
      split at h
      · rename_i E sz' ct rest ds htk hag hdc
        split at h
        · rename_i hsz hoff hlen
          cases h
          have hk : k < ct.n := hps _ (by simp)
          have hsz := Nat.eq_of_beq_eq_true hsz
          subst hsz
          have hoff := Nat.le_of_ble_eq_true hoff
          have hlen := Nat.eq_of_beq_eq_true hlen
          have hpos := (hT.get ht).1.pos
          refine m_store_own (ds := ds) (ct' := setRowC ct k off ds) hT ho hdst hx htk hk hoff (by omega) ⟨rfl, fun i j => rfl⟩ ?_
          intro X S ν a w sat
          obtain ⟨⟨vs, y1, y3⟩, y2⟩ := aop_ok sat hy
          have hr := toDs_rel hdc y3
          have hone : ∀ u ∈ vs, u.oneCell' = true := fun u hu => by obtain ⟨x', _, hr'⟩ := y3.mem hu; exact A1.one hr'
          refine ⟨vs, hr, hone, fun b i us Tb hg hi => ?_⟩
          rw [y1]
          have hg' : w.heap[b]? = some (.cells us.toList.toArray Tb (0, 0)) := by simpa using hg
          have := run_storeAt_mid (P := P) w b i t vs.toArray (fun j hj => by
            have hj : j < vs.length := by simpa using hj
            have hc := row_at (i := i + j) hg' (List.getElem?_eq_getElem (by rw [Array.length_toList]; omega))
            exact ⟨by rw [hc]; rfl, by simp [World.frozen?, hg]⟩) (by
              obtain ⟨i', z, e1, e2, _⟩ := (hT.get ht).1.info
              rw [(hT.get ht).2] at e1
              have := hr.length
              rw [e1]; simp [e2]; omega) (by
              rw [Array.all_eq_true_iff_forall_mem]
              intro z hz
              exact hone z (by simpa using hz))
          simpa using this
        · cases h
      · cases h
    · cases h
  · -- makeSlice
    rename_i t l c ho
    split at h
    · rename_i zi e z1 z2 z3 z4 k n ht hc
      split at h
      · rename_i te k2 he
        cases h
        exact m_make0 hT ho (und_slice hT ht) he hc (hps _ (by simp))
      · rename_i te he hnn
        split at h
        · rename_i k2 m hl2
          cases h
          exact m_make hT ho (und_slice hT ht) he hl2 hc (hps _ (by simp)) (hps _ (by simp))
        · cases h
      · cases h
    · cases h
  · -- convert
    rename_i src dst x ho
    split at h
    · rename_i s hs hd hx
      split at h
      · rename_i he
        cases h
        exact m_str_bytes hT ho (und_str hT hs) (und_slice hT hd) he hx (hps _ (by simp))
      · cases h
    · rename_i v hs hd hx
      split at h
      · rename_i ct he hsrc
        cases h
        exact m_bytes_str hT ho (und_slice hT hs) (und_str hT hd) he hx hsrc (hps _ (by simp))
      · cases h
    · cases h
  · -- append
    rename_i c ho
    split at h
    · rename_i s x t u hc hx ht
      split at h
      · rename_i zi e z1 z2 z3 z4 id htt hs
        split at h
        · rename_i te E sz ct rest he htk
          split at h
          · rename_i str hE hsz hby hv
            have hE := Nat.eq_of_beq_eq_true hE
            have hsz := Nat.eq_of_beq_eq_true hsz
            subst hE; subst hsz
            split at h
            · rename_i hu
              cases h
              exact m_appstr hT ho hc hx ht (und_slice hT htt) (und_str hT hu) he hs (.inl ⟨id, rfl, htk⟩) hv (hps _ (by simp))
            · cases h
          · rename_i v hnn hE hsz hby hv
            have hE := Nat.eq_of_beq_eq_true hE
            have hsz := Nat.eq_of_beq_eq_true hsz
            subst hE; subst hsz
            split at h
            · rename_i src htu hsrc
              cases h
              have htu := Nat.eq_of_beq_eq_true htu
              subst htu
              exact m_append hT ho hc hx ht (und_slice hT htt) he hs (.inl ⟨id, rfl, htk⟩) hv hsrc (Nat.le_of_ble_eq_true hby) (hps _ (by simp))
            · cases h
          · cases h
        · cases h
      · rename_i zi e z1 z2 z3 z4 htt hs
        split at h
        · rename_i te he
          split at h
          · rename_i str hby hv
            split at h
            · rename_i hu
              cases h
              exact m_appstr hT ho hc hx ht (und_slice hT htt) (und_str hT hu) he hs (.inr ⟨rfl, rfl, rfl⟩) hv (by have h1 : str.size ≤ 140737488355328 := hps _ (by simp); simpa [nilC] using h1)
            · cases h
          · rename_i v hnn hby hv
            split at h
            · rename_i src htu hsrc
              cases h
              have htu := Nat.eq_of_beq_eq_true htu
              subst htu
              exact m_append hT ho hc hx ht (und_slice hT htt) he hs (.inr ⟨rfl, rfl, rfl⟩) hv hsrc (Nat.le_of_ble_eq_true hby) (by have h1 : src.n * te.bytes ≤ 140737488355328 := hps _ (by simp); simpa [nilC] using h1)
            · cases h
          · cases h
        · cases h
      · cases h
    · cases h
  · cases h
end
end Go.Proofs.Ytfcihdkflnpcgaa.Am
