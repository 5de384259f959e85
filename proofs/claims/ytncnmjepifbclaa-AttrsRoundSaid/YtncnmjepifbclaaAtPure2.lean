/- The attributes as plain functions: what Check asks. No program is named. -/
import Derived.Test.YtncnmjepifbclaaAtPure
namespace Go.Proofs.Ytncnmjepifbclaa.At
def dupQ (l : List At) : Nat → Bool
  | 0 => false
  | q + 1 => dupQ l q || (l.take q).any fun y => decide (y.1 = (l.getD q d0).1)
def invQ (l : List At) : Nat → Bool
  | 0 => false
  | q + 1 => invQ l q || (l.take q).any fun y => ltS (l.getD q d0).1 y.1
theorem any_take_succ {l : List At} {p : At → Bool} {k : Nat} (hk : k < l.length) : (l.take (k + 1)).any p = ((l.take k).any p || p (l.getD k d0)) := by
  rw [take_snoc (d := d0) hk, List.any_append]; simp
theorem alonesE_drop {l : List At} {q : Nat} (hq : q < l.length) : alonesE (l.drop q) = if aloneE (l.getD q d0) ≠ 0 then aloneE (l.getD q d0) else alonesE (l.drop (q + 1)) := by
  rw [List.drop_eq_getElem_cons hq, alonesE, List.getD_eq_getElem?_getD, List.getElem?_eq_getElem hq]; rfl
theorem take_any_iff {l : List At} {p : At → Bool} {q : Nat} (hq : q ≤ l.length) : (l.take q).any p = true ↔ ∃ k, k < q ∧ p (l.getD k d0) = true := by
  induction q with
  | zero => simp
  | succ q ih =>
    rw [any_take_succ (by omega), Bool.or_eq_true, ih (by omega)]
    constructor
    · rintro (⟨k, h1, h2⟩ | h)
      · exact ⟨k, by omega, h2⟩
      · exact ⟨q, by omega, h⟩
    · rintro ⟨k, h1, h2⟩
      rcases Nat.lt_or_ge k q with h | h
      · exact .inl ⟨k, h, h2⟩
      · obtain rfl : k = q := by omega
        exact .inr h2
theorem dupQ_iff {l : List At} {q : Nat} (hq : q ≤ l.length) : dupQ l q = true ↔ ∃ i k, k < i ∧ i < q ∧ (l.getD k d0).1 = (l.getD i d0).1 := by
  induction q with
  | zero => simp [dupQ]
  | succ q ih =>
    rw [dupQ, Bool.or_eq_true, ih (by omega), take_any_iff (by omega)]
    constructor
    · rintro (⟨i, k, h1, h2, h3⟩ | ⟨k, h1, h2⟩)
      · exact ⟨i, k, h1, by omega, h3⟩
      · exact ⟨q, k, h1, by omega, of_decide_eq_true h2⟩
    · rintro ⟨i, k, h1, h2, h3⟩
      rcases Nat.lt_or_ge i q with h | h
      · exact .inl ⟨i, k, h1, h, h3⟩
      · obtain rfl : i = q := by omega
        exact .inr ⟨k, h1, decide_eq_true h3⟩
theorem invQ_iff {l : List At} {q : Nat} (hq : q ≤ l.length) : invQ l q = true ↔ ∃ i k, k < i ∧ i < q ∧ ltS (l.getD i d0).1 (l.getD k d0).1 = true := by
  induction q with
  | zero => simp [invQ]
  | succ q ih =>
    rw [invQ, Bool.or_eq_true, ih (by omega), take_any_iff (by omega)]
    constructor
    · rintro (⟨i, k, h1, h2, h3⟩ | ⟨k, h1, h2⟩)
      · exact ⟨i, k, h1, by omega, h3⟩
      · exact ⟨q, k, h1, by omega, h2⟩
    · rintro ⟨i, k, h1, h2, h3⟩
      rcases Nat.lt_or_ge i q with h | h
      · exact .inl ⟨i, k, h1, h, h3⟩
      · obtain rfl : i = q := by omega
        exact .inr ⟨k, h1, h3⟩
theorem dupB_iff {l : List At} : dupB l = true ↔ ∃ i k, k < i ∧ i < l.length ∧ (l.getD k d0).1 = (l.getD i d0).1 := by
  induction l with
  | nil => simp [dupB]
  | cons x l ih =>
    rw [dupB, Bool.or_eq_true, ih, List.any_eq_true]
    constructor
    · rintro (⟨y, h1, h2⟩ | ⟨i, k, h1, h2, h3⟩)
      · obtain ⟨k, hk, rfl⟩ := mem_getD h1
        exact ⟨k + 1, 0, by omega, by simpa using hk, by simpa using (of_decide_eq_true h2).symm⟩
      · exact ⟨i + 1, k + 1, by omega, by simpa using h2, by simpa using h3⟩
    · rintro ⟨i, k, h1, h2, h3⟩
      cases i with
      | zero => omega
      | succ i =>
        have h2 : i < l.length := by simpa using h2
        cases k with
        | zero => exact .inl ⟨_, getD_mem h2, decide_eq_true (by simpa using h3.symm)⟩
        | succ k => exact .inr ⟨i, k, by omega, h2, by simpa using h3⟩
theorem sortedB_iff {l : List At} : sortedB l = true ↔ ∀ i, i + 1 < l.length → ltS (l.getD (i + 1) d0).1 (l.getD i d0).1 = false := by
  induction l with
  | nil => simp [sortedB]
  | cons x l ih =>
    cases l with
    | nil => simp [sortedB]
    | cons y l =>
      rw [sortedB, Bool.and_eq_true, ih]
      constructor
      · rintro ⟨h1, h2⟩ i hi
        cases i with
        | zero => simpa using h1
        | succ i => have := h2 i (by simpa using hi); simpa using this
      · intro h
        refine ⟨by have := h 0 (by simp); simpa using this, fun i hi => ?_⟩
        have := h (i + 1) (by simpa using hi)
        simpa using this
/-- Without equal names: sorted is strictly sorted. -/
theorem srt_of {l : List At} (h1 : dupB l = false) (h2 : sortedB l = true) : Srt l := by
  have h2 := sortedB_iff.1 h2
  intro i j hij hj
  induction j with
  | zero => omega
  | succ j ih =>
    have hs : ltS (l.getD j d0).1 (l.getD (j + 1) d0).1 = true := by
      cases h : ltS (l.getD j d0).1 (l.getD (j + 1) d0).1
      · have := ltS_tri h (h2 j hj)
        have := dupB_iff.2 ⟨j + 1, j, by omega, hj, this⟩
        rw [h1] at this; cases this
      · rfl
    rcases Nat.lt_or_ge i j with h | h
    · exact ltS_trans (ih h (by omega)) hs
    · obtain rfl : i = j := by omega
      exact hs
theorem invQ_sorted {l : List At} (h1 : dupB l = false) : invQ l l.length = !sortedB l := by
  cases h : sortedB l
  · cases h3 : invQ l l.length
    · exfalso
      have : sortedB l = true := sortedB_iff.2 fun i hi => by
        cases h4 : ltS (l.getD (i + 1) d0).1 (l.getD i d0).1
        · rfl
        · have := (invQ_iff (Nat.le_refl _)).2 ⟨i + 1, i, by omega, hi, h4⟩
          rw [h3] at this; cases this
      rw [h] at this; cases this
    · rfl
  · cases h3 : invQ l l.length
    · rfl
    · obtain ⟨i, k, h4, h5, h6⟩ := (invQ_iff (Nat.le_refl _)).1 h3
      rw [ltS_asymm (srt_of h1 h k i h4 h5)] at h6; cases h6
theorem dupQ_dupB (l : List At) : dupQ l l.length = dupB l := by
  rw [Bool.eq_iff_iff, dupQ_iff (Nat.le_refl _), dupB_iff]
theorem srt_iff {l : List At} : Srt l ↔ dupB l = false ∧ sortedB l = true := by
  refine ⟨fun h => ⟨?_, sortedB_iff.2 fun i hi => ltS_asymm (h i (i + 1) (by omega) hi)⟩, fun h => srt_of h.1 h.2⟩
  cases h3 : dupB l
  · rfl
  · obtain ⟨i, k, h4, h5, h6⟩ := dupB_iff.1 h3
    have := h k i h4 h5
    rw [h6, ltS_irrefl] at this; cases this
theorem pos_spec {l : List At} {n : ByteArray} (hs : Srt l) : posI l n ≤ l.length ∧ (∀ k, k < posI l n → ltS (l.getD k d0).1 n = true) ∧ ∀ k, posI l n ≤ k → k < l.length → ltS (l.getD k d0).1 n = false := by
  have key : ∃ i, i ≤ l.length ∧ (∀ k, k < i → ltS (l.getD k d0).1 n = true) ∧ ∀ k, i ≤ k → k < l.length → ltS (l.getD k d0).1 n = false := by
    suffices h : ∀ m, m ≤ l.length → (∀ k, k < m → ltS (l.getD k d0).1 n = true) ∨ ∃ i, i ≤ l.length ∧ (∀ k, k < i → ltS (l.getD k d0).1 n = true) ∧ ∀ k, i ≤ k → k < l.length → ltS (l.getD k d0).1 n = false by
      rcases h l.length (Nat.le_refl _) with h | h
      · exact ⟨l.length, Nat.le_refl _, h, fun k h1 h2 => by omega⟩
      · exact h
    intro m
    induction m with
    | zero => exact fun _ => .inl fun k hk => absurd hk (Nat.not_lt_zero _)
    | succ m ih =>
      intro hm
      rcases ih (by omega) with h | h
      · cases h1 : ltS (l.getD m d0).1 n
        · refine .inr ⟨m, by omega, h, fun k hk hk2 => ?_⟩
          rcases Nat.eq_or_lt_of_le hk with e | e
          · rw [← e]; exact h1
          · cases h2 : ltS (l.getD k d0).1 n
            · rfl
            · have := ltS_trans (hs m k e hk2) h2
              rw [h1] at this; cases this
        · refine .inl fun k hk => ?_
          rcases Nat.lt_or_ge k m with e | e
          · exact h k e
          · obtain rfl : k = m := by omega
            exact h1
      · exact .inr h
  obtain ⟨i, h1, h2, h3⟩ := key
  rw [posI_eq h1 h2 h3]
  exact ⟨h1, h2, h3⟩
theorem pos_has {l : List At} {n : ByteArray} (hs : Srt l) (h : hasI l n = true) : posI l n < l.length ∧ (l.getD (posI l n) d0).1 = n := by
  obtain ⟨h1, h2, h3⟩ := pos_spec (n := n) hs
  exact (hasI_at h2 h3 hs).1 h
/-- An attribute is set. -/
def setI (l : List At) (x : At) : List At := if hasI l x.1 then l.set (posI l x.1) x else l.take (posI l x.1) ++ x :: l.drop (posI l x.1)
theorem sizeI_app (l m : List At) : sizeI (l ++ m) = sizeI l + sizeI m := by
  induction l with
  | nil => simp [sizeI]
  | cons x l ih => simp only [List.cons_append, sizeI, ih]; omega
theorem setI_len (l : List At) (x : At) : (setI l x).length ≤ l.length + 1 := by
  unfold setI; split
  · simp
  · simp only [List.length_append, List.length_cons, List.length_take, List.length_drop]; omega
theorem sizeI_set (l : List At) (x : At) (p : Nat) : sizeI (l.set p x) ≤ sizeI l + (2 + x.1.size + x.2.size) := by
  induction l generalizing p with
  | nil => simp [sizeI]
  | cons y l ih =>
    cases p with
    | zero => simp only [List.set_cons_zero, sizeI]; omega
    | succ p => simp only [List.set_cons_succ, sizeI]; have := ih p; omega
theorem setI_size (l : List At) (x : At) : sizeI (setI l x) ≤ sizeI l + (2 + x.1.size + x.2.size) := by
  unfold setI; split
  · exact sizeI_set _ _ _
  · have h := sizeI_app (l.take (posI l x.1)) (l.drop (posI l x.1))
    rw [List.take_append_drop] at h
    rw [sizeI_app, sizeI]; omega
theorem checkE_of {l : List At} (h1 : l.length ≤ 6) (h2 : alonesE l = 0) (h3 : dupB l = false) : checkE l = if !sortedB l then 6 else if fullB l then 5 else 0 := by
  unfold checkE; rw [if_neg (by omega), if_neg (by simp [h2]), if_neg (by simp [h3])]
theorem checkE_srt {l : List At} (h : checkE l = 0) : l.length ≤ 6 ∧ alonesE l = 0 ∧ Srt l ∧ fullB l = false := by
  unfold checkE at h
  split at h
  · cases h
  · split at h
    · contradiction
    · split at h
      · cases h
      · split at h
        · cases h
        · split at h
          · cases h
          · rename_i h1 h2 h3 h4 h5
            exact ⟨by omega, by simpa using h2, srt_of (by simpa using h3) (by simpa using h4), by simpa using h5⟩
end Go.Proofs.Ytncnmjepifbclaa.At
