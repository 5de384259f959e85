/- Texts of this claim, joined. -/
import Derived.Test.YthhpofehcnjmmaaPk3
set_option linter.unusedSimpArgs false
set_option linter.unusedVariables false
set_option linter.unusedSimpArgs false
set_option linter.unusedVariables false
namespace Go.Proofs.Ythhpofehcnjmmaa.Br
open At
section
variable {l : List Bn} {n : Nat}
def fromI (P : Nat → Bool) (p len : Nat) : List Nat := (List.range' p (len - p)).filter P
theorem fromI_end {P : Nat → Bool} {p len : Nat} (h : len ≤ p) : fromI P p len = [] := by
  unfold fromI
  rw [show len - p = 0 by omega]
  rfl
theorem fromI_step {P : Nat → Bool} {p len : Nat} (h : p < len) : fromI P p len = if P p = true then p :: fromI P (p + 1) len else fromI P (p + 1) len := by
  unfold fromI
  rw [show len - p = (len - (p + 1)) + 1 by omega, List.range'_succ, List.filter_cons]
theorem fromI_skip {P : Nat → Bool} {len q : Nat} : ∀ {d p : Nat}, q - p = d → p ≤ q → (∀ k, p ≤ k → k < q → P k = false) → fromI P p len = fromI P q len
  | 0, p, hd, h1, _ => by rw [show p = q by omega]
  | d + 1, p, hd, h1, h2 => by
    rcases Nat.lt_or_ge p len with h3 | h3
    · rw [fromI_step h3, h2 p (Nat.le_refl _) (by omega), if_neg (by decide)]
      exact fromI_skip (d := d) (by omega) (by omega) fun k a b => h2 k (by omega) b
    · rw [fromI_end h3, fromI_end (by omega)]
theorem fromI_zero (P : Nat → Bool) (len : Nat) : fromI P 0 len = idxs P len := by
  unfold fromI idxs
  rw [List.range_eq_range', Nat.sub_zero]
theorem fromI_len {P : Nat → Bool} {p q len : Nat} (h : p ≤ q) : (fromI P q len).length ≤ (fromI P p len).length := by
  rcases Nat.lt_or_ge q len with h1 | h1
  · unfold fromI
    have : List.range' p (len - p) = List.range' p (q - p) ++ List.range' q (len - q) := by
      have := List.range'_append_1 (s := p) (m := q - p) (n := len - q)
      rw [show p + (q - p) = q by omega, show q - p + (len - q) = len - p by omega] at this
      exact this.symm
    rw [this, List.filter_append, List.length_append]
    omega
  · rw [fromI_end h1]; exact Nat.zero_le _
def dirP (l : List Bn) (i : Nat) : Bool := decide ((l.getD i b0).nd.kind = 1)
def dirsF (l : List Bn) (p : Nat) : List Di := (fromI (dirP l) p l.length).map (dirI l)
theorem dirsF_dir {p : Nat} (hp : p < l.length) (h : (l.getD p b0).nd.kind = 1) : dirsF l p = dirI l p :: dirsF l (p + 1) := by
  unfold dirsF
  rw [fromI_step hp, show dirP l p = true from decide_eq_true h, if_pos rfl]
  rfl
theorem dirsF_not {p : Nat} (hp : p < l.length) (h : (l.getD p b0).nd.kind ≠ 1) : dirsF l p = dirsF l (p + 1) := by
  unfold dirsF
  rw [fromI_step hp, show dirP l p = false from decide_eq_false h, if_neg (by decide)]
theorem dirsF_len {p q : Nat} (h : p ≤ q) : (dirsF l q).length ≤ (dirsF l p).length := by
  unfold dirsF
  rw [List.length_map, List.length_map]
  exact fromI_len h
theorem dirsF_zero (l : List Bn) : dirsF l 0 = (dirsL l).map (dirI l) := by
  unfold dirsF
  rw [fromI_zero]
  rfl
theorem kids_from (h : Bok l) (hn : n < l.length) : kidsL l n = fromI (kidP l n) (n + 1) l.length := by
  have hti : (nds l).length = l.length := List.length_map ..
  rw [kids_idxs, ← fromI_zero]
  refine fromI_skip (d := n + 1) (by omega) (by omega) fun k _ hk => decide_eq_false fun e => ?_
  have := above_less (nds l) k (by omega)
  omega
theorem bn_not (h : Bok l) {p : Nat} (hp : p < l.length) (hk : (l.getD p b0).nd.kind ≠ 1) (hd : (l.getD p b0).nd.depth = (l.getD n b0).nd.depth + 1) : bnOf ((l.getD n b0).nd.depth + 1) (entI l n p) = l.getD p b0 := by
  have hmk := (bok_iff.1 h).2 p hp
  have ho : (l.getD p b0).opq = false := by
    cases e : (l.getD p b0).opq
    · rfl
    · exact absurd (marks_opq hmk e).2 hk
  have hr : (l.getD p b0).red = [] := Decidable.byContradiction fun e => hk (marks_red hmk e).2.1
  unfold bnOf entI entN
  dsimp only
  rw [if_neg hk, ← hd]
  dsimp only
  rcases e : l.getD p b0 with ⟨⟨d, nm, k, at_, da, ma, mi, c⟩, o, r⟩
  rw [e] at ho hr
  dsimp only at ho hr
  rw [ho, hr]
theorem bn_dir (h : Bok l) {p : Nat} (hp : p < l.length) (hk : (l.getD p b0).nd.kind = 1) {x : Bn} (hd : x.nd.depth = (l.getD p b0).nd.depth) (hnm : x.nd.name = (l.getD p b0).nd.name) (hx : x.nd.kind = 1 ∧ x.nd.data = eS ∧ x.nd.major = 0 ∧ x.nd.minor = 0 ∧ x.nd.cls = 0) : bnDir x (dirI l p) = l.getD p b0 := by
  have hf := fields_iff.1 (node_at h hp).1
  obtain ⟨x1, x2, x3, x4, x5⟩ := hx
  unfold bnDir dirI
  dsimp only
  obtain ⟨_, ⟨f2, f3, f4, f5, f6⟩, _⟩ := hf
  have d1 := size_zero (f2 (by omega) (by omega))
  have d2 := f3 (by omega)
  have d3 := f5 (.inl hk)
  rcases e : l.getD p b0 with ⟨⟨d, nm, k, at_, da, ma, mi, c⟩, o, r⟩
  rw [e] at hk hd hnm d1 d2 d3
  rcases x with ⟨⟨xd, xn, xk, xa, xda, xma, xmi, xc⟩, xo, xr⟩
  dsimp only at *
  rw [hd, hnm, x1, x2, x3, x4, x5, hk, d1, d2.1, d2.2, d3]
theorem take_bn' {q : Nat} (h : q < l.length) : l.take q ++ [l.getD q b0] = l.take (q + 1) := (take_bn h).symm
theorem put_from (h : Bok l) : ∀ (d p : Nat), l.length - p = d → ∀ {n f : Nat}, n < p → p ≤ l.length → (p < l.length → (l.getD p b0).nd.depth ≤ (l.getD n b0).nd.depth + 1) → (∀ k, n < k → k < p → (l.getD n b0).nd.depth < (l.getD k b0).nd.depth) → (dirsF l p).length < f →
    ∃ e, p ≤ e ∧ e ≤ l.length ∧ (e < l.length → (l.getD e b0).nd.depth ≤ (l.getD n b0).nd.depth) ∧ (∀ k, n < k → k < e → (l.getD n b0).nd.depth < (l.getD k b0).nd.depth) ∧
      putEs (putF f) ((l.getD n b0).nd.depth + 1) ((fromI (kidP l n) p l.length).map (entI l n)) (dirsF l p, l.take p) = ((dirsF l e, l.take e), 0) := by
  intro d
  induction d using Nat.strongRecOn with
  | _ d ih =>
  intro p hd n f hn hp hle hab hf
  have hti : (nds l).length = l.length := List.length_map ..
  have hT := bok_tok h
  by_cases hend : p < l.length ∧ (l.getD n b0).nd.depth < (l.getD p b0).nd.depth
  · obtain ⟨hpl, hdep⟩ := hend
    have hd1 : (l.getD p b0).nd.depth = (l.getD n b0).nd.depth + 1 := by have := hle hpl; omega
    -- p is an entry of n
    have hkid : aboveI (nds l) p = n := by
      have key : ∀ q, n < q → q ≤ p → aboveR ((l.getD n b0).nd.depth + 1) ((nds l).take q).reverse = (n : Int) := by
        intro q
        induction q with
        | zero => intro h1; omega
        | succ q ihq =>
          intro h1 h2
          rcases Nat.lt_or_ge n q with h3 | h3
          · rw [above_hi (by omega) (by rw [nds_getD]; have := hab q h3 (by omega); omega)]
            exact ihq h3 (by omega)
          · obtain rfl : n = q := by omega
            rw [above_lo (by omega) (by rw [nds_getD]; omega)]
      unfold aboveI
      rw [nds_getD, hd1]
      exact key p hn (Nat.le_refl _)
    have hs : fromI (kidP l n) p l.length = p :: fromI (kidP l n) (p + 1) l.length := by
      rw [fromI_step hpl, show kidP l n p = true from decide_eq_true hkid, if_pos rfl]
    have h120 : l.length ≤ 120 := by have := (tok_node hT).2.1; omega
    obtain ⟨f', rfl⟩ : ∃ f', f = f' + 1 := ⟨f - 1, by omega⟩
    have hd8 : (l.getD p b0).nd.depth ≤ 8 := by
      obtain ⟨q, rfl⟩ : ∃ q, p = q + 1 := ⟨p - 1, by omega⟩
      have hp' := (node_zero ((tok_node hT).2.2 (q + 1) (by omega))).1
      rw [take_rev (by omega), nds_getD] at hp'
      have := (place_more hp').1
      rw [nds_getD] at this
      exact this
    have htl : (l.take p).length = p := by rw [List.length_take]; omega
    -- what is put for p
    have hone : ∃ e, p + 1 ≤ e ∧ e ≤ l.length ∧ (e < l.length → (l.getD e b0).nd.depth ≤ (l.getD p b0).nd.depth) ∧ (∀ k, p < k → k < e → (l.getD p b0).nd.depth < (l.getD k b0).nd.depth) ∧
        putF (f' + 1) (bnOf ((l.getD n b0).nd.depth + 1) (entI l n p)) (dirsF l p, l.take p) = ((dirsF l e, l.take e), 0) := by
      by_cases hk : (l.getD p b0).nd.kind = 1
      · have hbk : (bnOf ((l.getD n b0).nd.depth + 1) (entI l n p)).nd.kind = 1 := by
          show (entN (l.getD p b0).nd).kind = 1
          rw [ent_kind]; exact hk
        have hbd : (bnOf ((l.getD n b0).nd.depth + 1) (entI l n p)).nd.depth = (l.getD p b0).nd.depth := hd1.symm
        have hbn : bnDir (bnOf ((l.getD n b0).nd.depth + 1) (entI l n p)) (dirI l p) = l.getD p b0 := by
          refine bn_dir h hpl hk hbd rfl ⟨hbk, ?_⟩
          show (entN (l.getD p b0).nd).data = eS ∧ (entN (l.getD p b0).nd).major = 0 ∧ (entN (l.getD p b0).nd).minor = 0 ∧ (entN (l.getD p b0).nd).cls = 0
          unfold entN
          rw [if_pos hk]
          exact ⟨rfl, rfl, rfl, rfl⟩
        have hdf := dirsF_dir hpl hk
        rw [hdf] at hf ⊢
        rw [putF, if_pos hbk]
        dsimp only
        rw [if_neg (by rw [hbd, htl]; omega), hbn, hbd, take_bn' hpl]
        have hke : (dirI l p).ents = (fromI (kidP l p) (p + 1) l.length).map (entI l p) := by
          show (kidsL l p).map (entI l p) = _
          rw [kids_from h hpl]
        rw [hke]
        rw [List.length_cons] at hf
        refine ih (l.length - (p + 1)) (by omega) (p + 1) rfl (by omega) (by omega) (fun h1 => ?_) (fun k a b => by omega) (by omega)
        have := (tok_place hT (q := p) (by omega)).2.1
        rw [nds_getD, nds_getD] at this
        exact this
      · have hbn := bn_not h hpl hk hd1
        refine ⟨p + 1, Nat.le_refl _, hpl, fun h1 => ?_, fun k a b => by omega, ?_⟩
        · have := (tok_place hT (q := p) (by omega)).2.2
          rw [nds_getD, nds_getD, if_neg hk] at this
          omega
        · rw [hbn, putF, if_neg hk, if_neg (by rw [htl]; omega), take_bn' hpl, dirsF_not hpl hk]
    obtain ⟨e1, g1, g2, g3, g4, g5⟩ := hone
    have hskip : fromI (kidP l n) (p + 1) l.length = fromI (kidP l n) e1 l.length := by
      refine fromI_skip rfl g1 fun k a b => decide_eq_false fun e => ?_
      have := (kid_at h (kid_iff.2 ⟨by omega, e⟩)).2.2.1
      have := g4 k (by omega) b
      omega
    obtain ⟨e2, i1, i2, i3, i4, i5⟩ := ih (l.length - e1) (by omega) e1 rfl (n := n) (f := f' + 1) (by omega) g2 (fun h1 => by have := g3 h1; omega) (fun k a b => by
      rcases Nat.lt_trichotomy k p with c | c | c
      · exact hab k a c
      · rw [c]; exact hdep
      · have := g4 k c b; omega) (Nat.lt_of_le_of_lt (dirsF_len (by omega)) hf)
    refine ⟨e2, by omega, i2, i3, i4, ?_⟩
    rw [hs, hskip, List.map_cons, putEs, g5]
    dsimp only
    rw [if_neg (fun k => k rfl)]
    exact i5
  · refine ⟨p, Nat.le_refl _, hp, fun h1 => by omega, hab, ?_⟩
    have : fromI (kidP l n) p l.length = [] := by
      rcases Nat.lt_or_ge p l.length with h1 | h1
      · -- no entry of n comes behind
        have key : ∀ m, p ≤ m → m < l.length → aboveI (nds l) m ≠ n := by
          intro m h2 h3 e
          have hk3 := (kid_at h (kid_iff.2 ⟨h3, e⟩)).2.2.1
          have key2 : ∀ q, p ≤ q → q < l.length → ∀ dd : Int, (l.getD n b0).nd.depth < dd → dd ≤ (l.getD n b0).nd.depth + 1 → aboveR dd ((nds l).take (q + 1)).reverse ≠ n := by
            intro q h4 h5 dd h6 h7
            induction q with
            | zero => omega
            | succ q ihq =>
              by_cases c : (l.getD (q + 1) b0).nd.depth < dd
              · rw [above_lo (by omega) (by rw [nds_getD]; exact c)]; omega
              · rw [above_hi (by omega) (by rw [nds_getD]; omega)]
                rcases Nat.lt_or_ge p (q + 1) with c2 | c2
                · exact ihq (by omega) (by omega)
                · obtain rfl : p = q + 1 := by omega
                  omega
          rcases Nat.lt_or_ge p m with c | c
          · obtain ⟨q, rfl⟩ : ∃ q, m = q + 1 := ⟨m - 1, by omega⟩
            refine key2 q (by omega) (by omega) (l.getD (q + 1) b0).nd.depth (by omega) (by omega) ?_
            have e' := e
            unfold aboveI at e'
            rw [nds_getD] at e'
            exact e'
          · obtain rfl : p = m := by omega
            omega
        have := fromI_skip (P := kidP l n) (p := p) (q := l.length) (len := l.length) rfl (by omega) fun k a b => decide_eq_false (key k a b)
        rw [this, fromI_end (Nat.le_refl _)]
      · exact fromI_end h1
    rw [this]
    rfl
theorem put_all (h : Bok l) : putI ((dirsL l).map (dirI l)) = (([], l), 0) := by
  have hti : (nds l).length = l.length := List.length_map ..
  have hT := bok_tok h
  have h0 : 0 < l.length := by have := (tok_node hT).1; omega
  have hp := (node_zero ((tok_node hT).2.2 0 (by omega))).1
  rw [nds_getD] at hp
  have hr : (l.getD 0 b0).nd.depth = 0 ∧ (l.getD 0 b0).nd.name.size = 0 ∧ (l.getD 0 b0).nd.kind = 1 := by
    rw [show ((nds l).take 0).reverse = [] from rfl] at hp
    unfold placeE at hp
    dsimp only at hp
    split at hp
    · exact absurd hp (by decide)
    · omega
  obtain ⟨r1, r2, r3⟩ := hr
  unfold putI
  have hdf : dirsF l 0 = dirI l 0 :: dirsF l 1 := dirsF_dir h0 r3
  rw [← dirsF_zero, hdf]
  have hbn : bnDir rootB (dirI l 0) = l.getD 0 b0 := bn_dir h h0 r3 r1.symm (size_zero r2).symm ⟨rfl, rfl, rfl, rfl, rfl⟩
  rw [putF, if_pos rfl]
  dsimp only
  rw [if_neg (by simp), hbn]
  have hke : (dirI l 0).ents = (fromI (kidP l 0) 1 l.length).map (entI l ((0 : Nat) : Int)) := by
    show (kidsL l ((0 : Nat) : Int)).map (entI l ((0 : Nat) : Int)) = _
    rw [kids_from h h0]
  obtain ⟨e, e1, e2, e3, e4, e5⟩ := put_from h (l.length - 1) 1 rfl (n := 0) (f := (dirI l 0 :: dirsF l 1).length) (by omega) (by omega) (fun h1 => by
    have := (tok_place hT (q := 0) (by omega)).2.1
    rw [nds_getD, nds_getD] at this
    exact this) (fun k a b => by omega) (by rw [List.length_cons]; omega)
  have he : e = l.length := by
    rcases Nat.lt_or_ge e l.length with c | c
    · obtain ⟨q, rfl⟩ : ∃ q, e = q + 1 := ⟨e - 1, by omega⟩
      have := (tok_place hT (q := q) (by omega)).1
      rw [nds_getD] at this
      have := e3 c
      omega
    · omega
  have ht : ([] : List Bn) ++ [l.getD 0 b0] = l.take 1 := by
    have := take_bn' h0
    rwa [List.take_zero] at this
  rw [hke, ht, show rootB.nd.depth + 1 = (l.getD 0 b0).nd.depth + 1 by rw [r1]]
  rw [e5, he, List.take_length]
  unfold dirsF
  rw [fromI_end (Nat.le_refl _)]
  rfl
theorem make_all (h : Bok l) : makeE ((dirsL l).map (dirI l)) = (l, 0) := by
  unfold makeE
  rw [put_all h, if_neg (fun k => k rfl), if_neg (fun k => k rfl), if_neg (fun k => k h)]
  refine if_neg ?_
  rw [Bool.not_eq_true, List.any_eq_false]
  intro p hp
  obtain ⟨i, hi, rfl⟩ := List.getElem_of_mem hp
  rw [List.getElem_zip, List.getElem_map]
  simp
def cntD (b : List Bn) : Nat := b.countP fun x => decide (x.nd.kind = 1)
theorem putEs_cnt {rec : Bn → List Di × List Bn → Mk} (hr : ∀ x s, (rec x s).2 = 0 → cntD (rec x s).1.2 + (rec x s).1.1.length = cntD s.2 + s.1.length) {d : Int} : ∀ (es : List En) (s : List Di × List Bn), (putEs rec d es s).2 = 0 → cntD (putEs rec d es s).1.2 + (putEs rec d es s).1.1.length = cntD s.2 + s.1.length
  | [], s, _ => rfl
  | x :: r, s, h => by
    rw [putEs] at h ⊢
    by_cases c : (rec (bnOf d x) s).2 ≠ 0
    · rw [if_pos c] at h; exact absurd h c
    · rw [if_neg c] at h ⊢
      rw [putEs_cnt hr r _ h]
      exact hr _ _ (Decidable.not_not.1 c)
theorem putF_cnt : ∀ (f : Nat) (x : Bn) (s : List Di × List Bn), (putF f x s).2 = 0 → cntD (putF f x s).1.2 + (putF f x s).1.1.length = cntD s.2 + s.1.length
  | 0, x, s, h => absurd h (by show ¬ ((6 : Int) = 0); decide)
  | f + 1, x, (ds, b), h => by
    rw [putF] at h ⊢
    by_cases hk : x.nd.kind = 1
    · rw [if_pos hk] at h ⊢
      cases ds with
      | nil => exact absurd h (by show ¬ ((6 : Int) = 0); decide)
      | cons d r =>
        dsimp only at h ⊢
        by_cases c : 120 ≤ b.length ∨ 8 < x.nd.depth
        · rw [if_pos c] at h; exact absurd h (by show ¬ ((3 : Int) = 0); decide)
        · rw [if_neg c] at h ⊢
          rw [putEs_cnt (putF_cnt f) _ _ h]
          unfold cntD
          rw [List.countP_append, List.length_cons]
          have : List.countP (fun x => decide (x.nd.kind = 1)) [bnDir x d] = 1 := by
            rw [List.countP_cons_of_pos (by exact decide_eq_true hk)]; rfl
          dsimp only
          omega
    · rw [if_neg hk] at h ⊢
      by_cases c : 120 ≤ b.length ∨ 8 < x.nd.depth
      · rw [if_pos c] at h; exact absurd h (by show ¬ ((3 : Int) = 0); decide)
      · rw [if_neg c]
        unfold cntD
        rw [List.countP_append]
        have : List.countP (fun x => decide (x.nd.kind = 1)) [x] = 0 := by
          rw [List.countP_cons_of_neg (by simpa using hk)]; rfl
        dsimp only
        omega
theorem dirs_cnt (b : List Bn) : (dirsL b).length = cntD b := by
  unfold dirsL idxs cntD
  rw [← List.countP_eq_length_filter]
  conv => rhs; arg 2; rw [← range_map b]
  rw [List.countP_map]
  rfl
theorem put_dirs {ds : List Di} (h : (putI ds).2 = 0) (h1 : (putI ds).1.1 = []) : (dirsL (putI ds).1.2).length = ds.length := by
  have := putF_cnt (ds.length + 1) rootB (ds, []) h
  rw [dirs_cnt]
  show cntD (putF (ds.length + 1) rootB (ds, [])).1.2 = ds.length
  have h2 : (putF (ds.length + 1) rootB (ds, [])).1.1 = [] := h1
  rw [h2] at this
  simpa [cntD] using this
theorem make_has {ds : List Di} (h : (makeE ds).2 = 0) : Bok (makeE ds).1 ∧ (dirsL (makeE ds).1).length = ds.length ∧ ∀ i, i < ds.length → dirI (makeE ds).1 ((dirsL (makeE ds).1).getD i 0) = ds.getD i di0 := by
  unfold makeE at h ⊢
  by_cases c1 : (putI ds).2 ≠ 0
  · rw [if_pos c1] at h; exact absurd h c1
  rw [if_neg c1] at h ⊢
  by_cases c2 : (putI ds).1.1 ≠ []
  · rw [if_pos c2] at h; exact absurd h (by decide)
  rw [if_neg c2] at h ⊢
  by_cases c3 : (checkB (putI ds).1.2).2 ≠ 0
  · rw [if_pos c3] at h; exact absurd h c3
  rw [if_neg c3] at h ⊢
  by_cases c4 : ((dirsL (putI ds).1.2).zip ds).any (fun p => decide (dirI (putI ds).1.2 p.1 ≠ p.2)) = true
  · rw [if_pos c4] at h; exact absurd h (by decide)
  rw [if_neg c4]
  have hl := put_dirs (Decidable.not_not.1 c1) (Decidable.not_not.1 c2)
  dsimp only
  refine ⟨Decidable.not_not.1 c3, hl, fun i hi => ?_⟩
  rw [Bool.not_eq_true, List.any_eq_false] at c4
  have hm : ((dirsL (putI ds).1.2)[i]'(by omega), ds[i]) ∈ (dirsL (putI ds).1.2).zip ds := by
    rw [List.mem_iff_getElem]
    exact ⟨i, by rw [List.length_zip]; omega, by rw [List.getElem_zip]⟩
  have := c4 _ hm
  rw [decide_eq_true_eq, Decidable.not_not] at this
  rw [List.getD_eq_getElem?_getD, List.getElem?_eq_getElem (by omega), List.getD_eq_getElem?_getD, List.getElem?_eq_getElem hi]
  exact this
end
end Go.Proofs.Ythhpofehcnjmmaa.Br
