/- The laws of the records, in plain words. No program is named. -/
import Derived.Test.YtlbgepgpihklfaaRecSpec
namespace Go.Proofs.Ytlbgepgpihklfaa.Rec

theorem leVal_lowI (n m : Nat) : leVal (lowI n m) = n % 256 ^ m := by
  induction m generalizing n with
  | zero => simp [lowI, leVal, Nat.mod_one]
  | succ m ih =>
    rw [lowI, leVal, ih, Nat.pow_succ, Nat.mul_comm (256 ^ m), Nat.mod_mul]
    simp
theorem lowI_leVal (l : Bs) : lowI (leVal l) l.length = l := by
  induction l with
  | nil => rfl
  | cons b l ih =>
    have := b.toNat_lt
    rw [leVal, List.length_cons, lowI, show (b.toNat + 256 * leVal l) / 256 = leVal l by omega, ih]
    congr 1
    rw [← UInt8.toNat_inj]; simp

theorem ofNat_toNat (m : Nat) (h : m < 256) : (UInt8.ofNat m).toNat = m := by simp; omega
theorem pow9 : (128 : Nat) ^ 9 * 2 = 18446744073709551616 := by decide
/-- A number in groups is read back. -/
theorem grpD_grpF (f : Nat) : ∀ k z m rest, f + k = 10 → z + m * 128 ^ k < 18446744073709551616 → (0 < k → 0 < m) → grpD f z (grpF f m ++ rest) = (0, z + m * 128 ^ k, k + (grpF f m).length) := by
  induction f with
  | zero =>
    intro k z m rest hk hb hm
    obtain rfl : k = 10 := by omega
    have : 0 < m := hm (by omega)
    have : 1 * 128 ^ 10 ≤ m * 128 ^ 10 := Nat.mul_le_mul_right _ this
    have : (128 : Nat) ^ 10 = 128 * 128 ^ 9 := by decide
    have := pow9
    omega
  | succ f ih =>
    intro k z m rest hk hb hm
    have hk9 : 9 - f = k := by omega
    have h9 : k = 9 → m ≤ 1 := by
      rintro rfl
      rcases Nat.lt_or_ge 1 m with h | h
      · have : 2 * 128 ^ 9 ≤ m * 128 ^ 9 := Nat.mul_le_mul_right _ h
        have := pow9; omega
      · exact h
    rw [grpF]
    by_cases h1 : m < 128
    · rw [if_pos h1, List.singleton_append, grpD, ofNat_toNat m (by omega), Nat.mod_eq_of_lt h1, if_neg (by omega), if_pos h1, if_neg (by omega), hk9]
      simp; omega
    · rw [if_neg h1, List.cons_append, grpD, ofNat_toNat _ (by omega), show (m % 128 + 128) % 128 = m % 128 by omega, if_neg (by omega), if_neg (by omega), hk9]
      have e : z + m % 128 * 128 ^ k + m / 128 * 128 ^ (k + 1) = z + m * 128 ^ k := by
        rw [Nat.pow_succ, Nat.mul_comm (128 ^ k) 128, ← Nat.mul_assoc, Nat.add_assoc, ← Nat.add_mul]
        congr 2; omega
      rw [ih (k + 1) _ (m / 128) rest (by omega) (by rw [e]; exact hb) (fun _ => by omega), e]
      simp; omega
theorem grpD_part (f : Nat) : ∀ z m j, j < (grpF f m).length → (grpD f z ((grpF f m).take j)).1 = 10 := by
  induction f with
  | zero => intro z m j hj; simp [grpF] at hj
  | succ f ih =>
    intro z m j hj
    cases j with
    | zero => rw [List.take_zero]; rfl
    | succ j =>
      rw [grpF] at hj ⊢
      by_cases hlt : m < 128
      · rw [if_pos hlt] at hj; simp at hj
      · rw [if_neg hlt] at hj ⊢
        have hf : f ≠ 0 := by rintro rfl; simp [grpF] at hj
        rw [List.take_succ_cons, grpD, ofNat_toNat _ (by omega), show (m % 128 + 128) % 128 = m % 128 by omega, if_neg (by omega), if_neg (by omega)]
        exact ih _ _ _ (by simpa using hj)
theorem grpD_read (f : Nat) : ∀ k z rest n u, f + k = 10 → grpD f z rest = (0, n, u) → ∃ m, n = z + m * 128 ^ k ∧ (0 < k → 0 < m) ∧ m < 128 ^ f ∧ (k = 9 → m ≤ 1) ∧ u = k + (grpF f m).length ∧ grpF f m = rest.take (u - k) ∧ u - k ≤ rest.length := by
  induction f with
  | zero => intro k z rest n u hk h; simp [grpD] at h
  | succ f ih =>
    intro k z rest n u hk h
    have hk9 : 9 - f = k := by omega
    cases rest with
    | nil => simp [grpD] at h
    | cons b r =>
      have hb := b.toNat_lt
      rw [grpD, hk9] at h
      split at h
      · cases h
      · rename_i h1
        split at h
        · rename_i h2
          split at h
          · cases h
          · rename_i h3
            rw [Nat.mod_eq_of_lt h2] at h h1 h3
            cases h
            have hfm : grpF (f + 1) b.toNat = [b] := by
              rw [grpF, if_pos h2]; congr 1
              rw [← UInt8.toNat_inj]; simp
            refine ⟨b.toNat, rfl, fun _ => by omega, ?_, fun _ => by omega, ?_, ?_, ?_⟩
            · have : (128 : Nat) ^ 1 ≤ 128 ^ (f + 1) := Nat.pow_le_pow_right (by decide) (by omega)
              omega
            · rw [hfm]; simp; omega
            · rw [hfm, show 10 - f - k = 1 by omega]; rfl
            · simp; omega
        · rename_i h2
          obtain ⟨m, e1, e2, e3, e4, e5, e6, e7⟩ := ih (k + 1) _ r n u (by omega) h
          have hm0 : 0 < m := e2 (by omega)
          have hfm : grpF (f + 1) (b.toNat % 128 + m * 128) = b :: grpF f m := by
            rw [grpF, if_neg (by omega), show (b.toNat % 128 + m * 128) % 128 + 128 = b.toNat by omega, show (b.toNat % 128 + m * 128) / 128 = m by omega]
            congr 1
            rw [← UInt8.toNat_inj]; simp
          refine ⟨b.toNat % 128 + m * 128, ?_, fun _ => by omega, ?_, fun h9 => ?_, ?_, ?_, ?_⟩
          · rw [e1, Nat.pow_succ, Nat.add_mul, Nat.mul_assoc, Nat.mul_comm 128 (128 ^ k), Nat.add_assoc]
          · rw [Nat.pow_succ]; omega
          · obtain rfl : f = 0 := by omega
            simp at e3; omega
          · rw [hfm]; simp; omega
          · rw [hfm, show u - k = (u - (k + 1)) + 1 by omega, List.take_succ_cons, e6]
          · simp; omega
theorem grpI_read (n : Nat) (h : n < 18446744073709551616) (rest : Bs) : grpD 10 0 (grpI n ++ rest) = (0, n, (grpI n).length) := by
  have := grpD_grpF 10 0 0 n rest rfl (by simpa using h) (fun h => absurd h (by omega))
  simpa [grpI] using this
theorem grpI_back {rest : Bs} {n u : Nat} (h : grpD 10 0 rest = (0, n, u)) : n < 18446744073709551616 ∧ u = (grpI n).length ∧ grpI n = rest.take u ∧ u ≤ rest.length := by
  obtain ⟨m, e1, _, e3, _, e5, e6, e7⟩ := grpD_read 10 0 0 rest n u rfl h
  obtain rfl : m = n := by simpa using e1.symm
  have hlt := grpD_lt 10 0 rest (by omega) (by decide)
  rw [h] at hlt
  exact ⟨hlt, by simpa [grpI] using e5, by simpa [grpI] using e6, by simpa using e7⟩
theorem grpI_part (n j : Nat) (h : j < (grpI n).length) : (grpD 10 0 ((grpI n).take j)).1 = 10 := grpD_part 10 0 n j h

theorem cntD_read {lim n : Nat} (h : n ≤ lim) (hl : lim < 18446744073709551616) (rest : Bs) : cntD lim (grpI n ++ rest) = (0, n, (grpI n).length) := by
  unfold cntD
  rw [grpI_read n (by omega)]
  rw [if_neg (by simp), if_neg (by simp; omega)]
theorem cntD_part (lim n j : Nat) (h : j < (grpI n).length) : (cntD lim ((grpI n).take j)).1 = 10 := by
  have := grpI_part n j h
  unfold cntD
  rw [if_pos (by rw [this]; decide), this]
theorem cntD_back {lim : Nat} {rest : Bs} {n u : Nat} (h : cntD lim rest = (0, n, u)) : n ≤ lim ∧ u = (grpI n).length ∧ grpI n = rest.take u ∧ u ≤ rest.length := by
  unfold cntD at h
  split at h
  · rename_i h1; injection h with h3; exact absurd h3 h1
  · split at h
    · cases h
    · rename_i h2
      obtain ⟨e1, e2, e3, e4⟩ := grpI_back h
      rw [h] at h2
      exact ⟨by simpa using h2, e2, e3, e4⟩

theorem ba_eq (s : ByteArray) : (⟨s.data.toList.toArray⟩ : ByteArray) = s := by cases s; simp
theorem ba_nil {s : ByteArray} (h : s.size = 0) : s = ⟨#[]⟩ := by
  cases s with
  | mk d =>
    have : d.size = 0 := h
    rw [Array.eq_empty_of_size_eq_zero this]
theorem listI_at (l : List UInt32) (i : Nat) (h : i < l.length) (rest : Bs) : ((listI l ++ rest).drop (4 * i)).take 4 = lowI l[i].toNat 4 := by
  induction l generalizing i with
  | nil => simp at h
  | cons a l ih =>
    rw [show listI (a :: l) = lowI a.toNat 4 ++ listI l from rfl, List.append_assoc]
    cases i with
    | zero => simp [List.take_append_of_le_length, lowI_len, List.take_of_length_le]
    | succ i =>
      rw [show 4 * (i + 1) = 4 + 4 * i by omega, ← List.drop_drop, List.drop_left' (lowI_len _ _)]
      have := ih i (by simpa using h)
      simpa using this
theorem nums_listI (l : List UInt32) (rest : Bs) : ((List.range l.length).map fun i => UInt32.ofNat (leVal (((listI l ++ rest).drop (4 * i)).take 4))) = l := by
  apply List.ext_getElem (by simp)
  intro i h1 h2
  simp only [List.getElem_map, List.getElem_range]
  rw [listI_at l i h2, leVal_lowI]
  rw [← UInt32.toNat_inj]
  have := l[i].toNat_lt
  simp
theorem listI_nums (R : Bs) (m : Nat) (h : R.length = 4 * m) : listI ((List.range m).map fun i => UInt32.ofNat (leVal ((R.drop (4 * i)).take 4))) = R := by
  induction m generalizing R with
  | zero => have : R = [] := List.eq_nil_of_length_eq_zero (by omega); subst this; rfl
  | succ m ih =>
    have h4 : R = R.take 4 ++ R.drop 4 := (List.take_append_drop 4 R).symm
    have hl : (R.take 4).length = 4 := by rw [List.length_take]; omega
    have hv := leVal_lt (R.take 4)
    rw [hl] at hv
    rw [List.range_succ_eq_map, List.map_cons, List.map_map, show listI (_ :: _) = lowI (UInt32.ofNat (leVal ((R.drop (4 * 0)).take 4))).toNat 4 ++ listI _ from rfl]
    have e1 : (UInt32.ofNat (leVal ((R.drop (4 * 0)).take 4))).toNat = leVal (R.take 4) := by simp; omega
    rw [e1]
    have e2 := lowI_leVal (R.take 4)
    rw [hl] at e2
    rw [e2]
    have e3 := ih (R.drop 4) (by rw [List.length_drop]; omega)
    have e4 : ((List.range m).map ((fun i => UInt32.ofNat (leVal ((R.drop (4 * i)).take 4))) ∘ Nat.succ)) = (List.range m).map fun i => UInt32.ofNat (leVal (((R.drop 4).drop (4 * i)).take 4)) := by
      apply List.map_congr_left
      intro i _
      simp only [Function.comp, List.drop_drop]
      congr 4; omega
    rw [e4, e3]
    exact List.take_append_drop 4 R

/-- What is written of a value is read back. -/
theorem oneD_valI {k : Nat} {x : RcT} {v : Bs} (hk : okKind k = true) (h : valI k x = (0, v)) (rest : Bs) : oneD k (v ++ rest) = (0, x, v.length) := by
  have hk' : k = 98 ∨ k = 119 ∨ k = 100 ∨ k = 113 ∨ k = 118 ∨ k = 115 ∨ k = 108 := by simpa [okKind] using hk
  have hx := x.1.toNat_lt
  have num : 0 < widthN k → oneD k (v ++ rest) = (0, x, v.length) := by
    intro hw
    rw [valI_n k (widthN k) x rfl hw] at h
    split at h
    · cases h
    · rename_i h1
      split at h
      · cases h
      · rename_i h2
        cases h
        have h3 : x.1.toNat < 256 ^ widthN k := by
          rcases Nat.lt_or_ge (widthN k) 8 with h8 | h8
          · rcases Nat.lt_or_ge x.1.toNat (256 ^ widthN k) with h9 | h9
            · exact h9
            · exact absurd ⟨h8, h9⟩ h2
          · have : (256 : Nat) ^ 8 ≤ 256 ^ widthN k := Nat.pow_le_pow_right (by decide) h8
            have : (256 : Nat) ^ 8 = 18446744073709551616 := by decide
            omega
        unfold oneD
        rw [if_pos hw, if_neg (by rw [List.length_append, lowI_len]; omega), List.take_left' (lowI_len _ _), leVal_lowI, Nat.mod_eq_of_lt h3, lowI_len]
        have e1 : x.2.1 = ⟨#[]⟩ := ba_nil (by omega)
        have e2 : x.2.2 = [] := List.eq_nil_of_length_eq_zero (by omega)
        obtain ⟨a, b, c⟩ := x
        simp only at e1 e2
        subst e1 e2
        simp
  rcases hk' with rfl | rfl | rfl | rfl | rfl | rfl | rfl
  · exact num (by decide)
  · exact num (by decide)
  · exact num (by decide)
  · exact num (by decide)
  · rw [valI_v] at h
    split at h
    · cases h
    · rename_i h1
      cases h
      unfold oneD
      rw [if_neg (by decide), if_pos rfl, grpI_read _ hx, if_neg (by simp)]
      have e1 : x.2.1 = ⟨#[]⟩ := ba_nil (by omega)
      have e2 : x.2.2 = [] := List.eq_nil_of_length_eq_zero (by omega)
      obtain ⟨a, b, c⟩ := x
      simp only at e1 e2
      subst e1 e2
      simp
  · rw [valI_s] at h
    split at h
    · cases h
    · rename_i h1
      split at h
      · cases h
      · rename_i h2
        cases h
        have hlen : x.2.1.data.toList.length = x.2.1.size := rfl
        unfold oneD
        rw [if_neg (by decide), if_neg (by decide), if_pos rfl, List.append_assoc, cntD_read (by omega) (by decide), if_neg (by simp), if_neg (by simp [List.length_append])]
        simp only [List.drop_left, List.length_append]
        rw [List.take_left' hlen]
        have e0 : x.1 = 0 := by rw [← UInt64.toNat_inj]; simp; omega
        have e2 : x.2.2 = [] := List.eq_nil_of_length_eq_zero (by omega)
        obtain ⟨a, b, c⟩ := x
        simp only at e0 e2 hlen
        subst e0 e2
        simp [hlen]
  · rw [valI_l] at h
    split at h
    · cases h
    · rename_i h1
      split at h
      · cases h
      · rename_i h2
        cases h
        unfold oneD
        rw [if_neg (by decide), if_neg (by decide), if_neg (by decide), List.append_assoc, cntD_read (by omega) (by decide), if_neg (by simp), if_neg (by simp [List.length_append, listI_len])]
        have e0 : x.1 = 0 := by rw [← UInt64.toNat_inj]; simp; omega
        have e1 : x.2.1 = ⟨#[]⟩ := ba_nil (by omega)
        have e3 := nums_listI x.2.2 rest
        obtain ⟨a, b, c⟩ := x
        simp only at e0 e1 e3
        subst e0 e1
        simp only [List.length_append, listI_len, ← List.drop_drop, List.drop_left]
        rw [e3]

/-- Of fewer bytes more are wanted. -/
theorem oneD_part {k : Nat} {x : RcT} {v : Bs} (hk : okKind k = true) (h : valI k x = (0, v)) {j : Nat} (hj : j < v.length) : (oneD k (v.take j)).1 = 10 := by
  have hk' : k = 98 ∨ k = 119 ∨ k = 100 ∨ k = 113 ∨ k = 118 ∨ k = 115 ∨ k = 108 := by simpa [okKind] using hk
  have num : 0 < widthN k → (oneD k (v.take j)).1 = 10 := by
    intro hw
    rw [valI_n k (widthN k) x rfl hw] at h
    split at h
    · cases h
    · split at h
      · cases h
      · cases h
        rw [lowI_len] at hj
        unfold oneD
        rw [if_pos hw, if_pos (by rw [List.length_take, lowI_len]; omega)]
  rcases hk' with rfl | rfl | rfl | rfl | rfl | rfl | rfl
  · exact num (by decide)
  · exact num (by decide)
  · exact num (by decide)
  · exact num (by decide)
  · rw [valI_v] at h
    split at h
    · cases h
    · cases h
      have := grpI_part _ _ hj
      unfold oneD
      rw [if_neg (by decide), if_pos rfl, if_pos (by rw [this]; decide), this]
  · rw [valI_s] at h
    split at h
    · cases h
    · split at h
      · cases h
      · cases h
        unfold oneD
        rw [if_neg (by decide), if_neg (by decide), if_pos rfl]
        by_cases hl : j < (grpI x.2.1.size).length
        · have := cntD_part 400 _ _ hl
          rw [List.take_append_of_le_length (by omega), if_pos (by rw [this]; decide), this]
        · have hlen : x.2.1.data.toList.length = x.2.1.size := rfl
          rw [List.take_append, List.take_of_length_le (by omega), cntD_read (by omega) (by decide), if_neg (by simp), if_pos]
          simp only [List.length_append, List.length_take] at hj ⊢
          omega
  · rw [valI_l] at h
    split at h
    · cases h
    · split at h
      · cases h
      · cases h
        unfold oneD
        rw [if_neg (by decide), if_neg (by decide), if_neg (by decide)]
        by_cases hl : j < (grpI x.2.2.length).length
        · have := cntD_part 60 _ _ hl
          rw [List.take_append_of_le_length (by omega), if_pos (by rw [this]; decide), this]
        · have hlen := listI_len x.2.2
          rw [List.take_append, List.take_of_length_le (by omega), cntD_read (by omega) (by decide), if_neg (by simp), if_pos]
          simp only [List.length_append, List.length_take] at hj ⊢
          omega
/-- What is read of bytes is written as they are. -/
theorem valI_oneD {k : Nat} {x : RcT} {rest : Bs} {n : Nat} (hk : okKind k = true) (h : oneD k rest = (0, x, n)) : n ≤ rest.length ∧ valI k x = (0, rest.take n) := by
  have hk' : k = 98 ∨ k = 119 ∨ k = 100 ∨ k = 113 ∨ k = 118 ∨ k = 115 ∨ k = 108 := by simpa [okKind] using hk
  have num : 0 < widthN k → n ≤ rest.length ∧ valI k x = (0, rest.take n) := by
    intro hw
    unfold oneD at h
    rw [if_pos hw] at h
    split at h
    · cases h
    · rename_i h1
      cases h
      have hl : (rest.take (widthN k)).length = widthN k := by rw [List.length_take]; omega
      have hv := leVal_lt (rest.take (widthN k))
      rw [hl] at hv
      have h8 : widthN k ≤ 8 := by unfold widthN; (repeat' split) <;> omega
      have : (256 : Nat) ^ widthN k ≤ 256 ^ 8 := Nat.pow_le_pow_right (by decide) h8
      have h64 : (256 : Nat) ^ 8 = 18446744073709551616 := by decide
      have hu : (UInt64.ofNat (leVal (rest.take (widthN k)))).toNat = leVal (rest.take (widthN k)) := by simp; omega
      refine ⟨by omega, ?_⟩
      rw [valI_n k (widthN k) _ rfl hw, if_neg (by simp; rfl), if_neg (by simp only [hu]; omega)]
      simp only [hu]
      have := lowI_leVal (rest.take (widthN k))
      rw [hl] at this
      rw [this]
  rcases hk' with rfl | rfl | rfl | rfl | rfl | rfl | rfl
  · exact num (by decide)
  · exact num (by decide)
  · exact num (by decide)
  · exact num (by decide)
  · unfold oneD at h
    rw [if_neg (by decide), if_pos rfl] at h
    split at h
    · rename_i h1; injection h with h3; exact absurd h3 h1
    · rename_i h1
      have hg : grpD 10 0 rest = (0, (grpD 10 0 rest).2.1, (grpD 10 0 rest).2.2) := by
        rw [← Decidable.not_not.1 h1]
      obtain ⟨e1, e2, e3, e4⟩ := grpI_back hg
      generalize grpD 10 0 rest = G at *
      cases h
      have hu : (UInt64.ofNat G.2.1).toNat = G.2.1 := by simp; omega
      refine ⟨e4, ?_⟩
      rw [valI_v, if_neg (by simp; rfl)]
      simp only [hu, e3]
  · unfold oneD at h
    rw [if_neg (by decide), if_neg (by decide), if_pos rfl] at h
    split at h
    · rename_i h1; injection h with h3; exact absurd h3 h1
    · rename_i h1
      split at h
      · cases h
      · rename_i h2
        have hg : cntD 400 rest = (0, (cntD 400 rest).2.1, (cntD 400 rest).2.2) := by
          rw [← Decidable.not_not.1 h1]
        obtain ⟨e1, e2, e3, e4⟩ := cntD_back hg
        generalize cntD 400 rest = G at *
        cases h
        have hsz : (⟨((rest.drop G.2.2).take G.2.1).toArray⟩ : ByteArray).size = G.2.1 := by
          show ((rest.drop G.2.2).take G.2.1).toArray.size = G.2.1
          simp; omega
        refine ⟨by omega, ?_⟩
        rw [valI_s, if_neg (by simp), if_neg (by simp only [hsz]; omega)]
        simp only [hsz, e3]
        rw [List.take_add]
  · unfold oneD at h
    rw [if_neg (by decide), if_neg (by decide), if_neg (by decide)] at h
    split at h
    · rename_i h1; injection h with h3; exact absurd h3 h1
    · rename_i h1
      split at h
      · cases h
      · rename_i h2
        have hg : cntD 60 rest = (0, (cntD 60 rest).2.1, (cntD 60 rest).2.2) := by
          rw [← Decidable.not_not.1 h1]
        obtain ⟨e1, e2, e3, e4⟩ := cntD_back hg
        generalize cntD 60 rest = G at *
        cases h
        have hR : ((rest.drop G.2.2).take (4 * G.2.1)).length = 4 * G.2.1 := by rw [List.length_take, List.length_drop]; omega
        have := listI_nums _ _ hR
        have hmap : ((List.range G.2.1).map fun i => UInt32.ofNat (leVal ((rest.drop (G.2.2 + 4 * i)).take 4))) = (List.range G.2.1).map fun i => UInt32.ofNat (leVal ((((rest.drop G.2.2).take (4 * G.2.1)).drop (4 * i)).take 4)) := by
          apply List.map_congr_left
          intro i hi
          have := List.mem_range.1 hi
          rw [List.drop_take, List.take_take, Nat.min_eq_left (by omega), List.drop_drop]
        refine ⟨by omega, ?_⟩
        rw [valI_l, if_neg (by simp; rfl), if_neg (by simp; omega)]
        rw [hmap, this]
        simp only [List.length_map, List.length_range, e3]
        rw [List.take_add]
end Go.Proofs.Ytlbgepgpihklfaa.Rec
