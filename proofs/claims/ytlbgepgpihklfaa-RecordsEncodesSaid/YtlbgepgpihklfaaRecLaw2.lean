/- The laws of whole records, in plain words. No program is named. -/
import Derived.Test.YtlbgepgpihklfaaRecLaw
namespace Go.Proofs.Ytlbgepgpihklfaa.Rec

theorem formI_all {s : Bs} (h : formI s = 0) : s.length ≤ 64 ∧ ∀ k ∈ s, okKind k.toNat = true := by
  unfold formI at h
  split at h
  · cases h
  · split at h
    · rename_i h1 h2
      exact ⟨by omega, fun k hk => List.all_eq_true.1 h2 k hk⟩
    · cases h
theorem encL_out (s : Bs) : ∀ (xs : List RcT) (out b : Bs), (∀ k ∈ s, okKind k.toNat = true) → s.length = xs.length → encL s xs out = (0, b) → ∃ v, b = out ++ v ∧ b.length ≤ 4000 ∧
    (∀ pre rest dec, decL s (pre ++ (v ++ rest)) dec pre.length = if 4000 < pre.length + v.length then (3, [], 0) else (0, dec ++ xs, pre.length + v.length)) ∧
    (∀ pre dec j, j < v.length → decL s (pre ++ v.take j) dec pre.length = (10, [], 0)) := by
  induction s with
  | nil =>
    intro xs out b _ hl h
    have : xs = [] := List.eq_nil_of_length_eq_zero (by simpa using hl.symm)
    subst this
    rw [encL] at h
    split at h
    · cases h
    · cases h
      refine ⟨[], by simp, by omega, fun pre rest dec => ?_, fun pre dec j hj => absurd hj (by simp)⟩
      rw [decL]; simp
    · simp
  | cons k s ih =>
    intro xs out b hk hl h
    cases xs with
    | nil => simp at hl
    | cons x xs =>
      rw [encL] at h
      have hok := hk k (List.mem_cons_self ..)
      split at h
      · rename_i h0
        obtain ⟨v1, hv1⟩ : ∃ v1, valI k.toNat x = (0, v1) := ⟨(valI k.toNat x).2, by rw [← h0]⟩
        rw [hv1] at h
        obtain ⟨v, e1, e2, e3, e4⟩ := ih xs (out ++ v1) b (fun k' hk' => hk k' (List.mem_cons_of_mem _ hk')) (by simpa using hl) h
        refine ⟨v1 ++ v, by rw [e1, List.append_assoc], e2, fun pre rest dec => ?_, fun pre dec j hj => ?_⟩
        · rw [decL, List.drop_left, List.append_assoc, oneD_valI hok hv1, if_neg (by simp)]
          have := e3 (pre ++ v1) rest (dec ++ [x])
          rw [List.append_assoc, List.length_append] at this
          rw [this, List.length_append]
          simp only [← Nat.add_assoc, List.append_assoc, List.singleton_append]
        · rw [decL, List.drop_left]
          by_cases hj1 : j < v1.length
          · have := oneD_part hok hv1 hj1
            rw [List.take_append_of_le_length (by omega), this, if_pos (by decide)]
          · rw [List.take_append, List.take_of_length_le (by omega), oneD_valI hok hv1, if_neg (by simp)]
            have := e4 (pre ++ v1) (dec ++ [x]) (j - v1.length) (by rw [List.length_append] at hj; omega)
            rw [List.append_assoc, List.length_append] at this
            exact this
      · rename_i h0; injection h with h1; exact absurd h1 h0
theorem decL_back (s : Bs) : ∀ (bs : Bs) (dec xs : List RcT) (at_ n : Nat), (∀ k ∈ s, okKind k.toNat = true) → at_ ≤ bs.length → decL s bs dec at_ = (0, xs, n) → ∃ ys, xs = dec ++ ys ∧ ys.length = s.length ∧ at_ ≤ n ∧ n ≤ bs.length ∧ n ≤ 4000 ∧
    ∀ out : Bs, out.length = at_ → encL s ys out = (0, out ++ (bs.drop at_).take (n - at_)) := by
  induction s with
  | nil =>
    intro bs dec xs at_ n _ ha h
    rw [decL] at h
    split at h
    · cases h
    · rename_i h0
      cases h
      refine ⟨[], by simp, rfl, Nat.le_refl _, ha, by omega, fun out ho => ?_⟩
      rw [encL]
      · rw [if_neg (by omega)]; simp
      · simp
  | cons k s ih =>
    intro bs dec xs at_ n hk ha h
    have hok := hk k (List.mem_cons_self ..)
    rw [decL] at h
    split at h
    · rename_i h0; injection h with h1; exact absurd h1 h0
    · rename_i h0
      obtain ⟨x, m, hx⟩ : ∃ x m, oneD k.toNat (bs.drop at_) = (0, x, m) := ⟨(oneD k.toNat (bs.drop at_)).2.1, (oneD k.toNat (bs.drop at_)).2.2, by rw [← Decidable.not_not.1 h0]⟩
      rw [hx] at h
      obtain ⟨v1, v2⟩ := valI_oneD hok hx
      rw [List.length_drop] at v1
      obtain ⟨ys, e1, e2, e3, e4, e5, e6⟩ := ih bs (dec ++ [x]) xs (at_ + m) n (fun k' hk' => hk k' (List.mem_cons_of_mem _ hk')) (by omega) h
      refine ⟨x :: ys, by rw [e1, List.append_assoc]; rfl, by simp [e2], by omega, e4, e5, fun out ho => ?_⟩
      rw [encL, v2, if_pos rfl]
      have := e6 (out ++ (bs.drop at_).take m) (by rw [List.length_append, List.length_take, List.length_drop]; omega)
      rw [this, List.append_assoc]
      congr 2
      rw [← List.drop_drop, show n - at_ = m + (n - (at_ + m)) by omega, List.take_add]

/-- Decode of a record, followed by any bytes, is the values; of fewer bytes, more are wanted. -/
theorem decI_encI {s : Bs} {xs : List RcT} {b : Bs} (h : encI s xs = (0, b)) : b.length ≤ 4000 ∧ (∀ rest, decI s (b ++ rest) = (0, xs, b.length)) ∧ ∀ j, j < b.length → decI s (b.take j) = (10, [], 0) := by
  unfold encI at h
  split at h
  · rename_i h1; injection h with h2; exact absurd h2 h1
  · rename_i h1
    have hf := Decidable.not_not.1 h1
    split at h
    · cases h
    · rename_i hl
      obtain ⟨v, e1, e2, e3, e4⟩ := encL_out s xs [] b (formI_all hf).2 (by omega) h
      rw [List.nil_append] at e1
      subst e1
      refine ⟨e2, fun rest => ?_, fun j hj => ?_⟩
      · unfold decI
        rw [if_neg h1]
        have := e3 [] rest []
        simp only [List.nil_append, List.length_nil, Nat.zero_add] at this
        rw [this, if_neg (by omega)]
      · unfold decI
        rw [if_neg h1]
        have := e4 [] [] j hj
        simpa using this
/-- The record of what Decode returns is the bytes that were read. -/
theorem encI_decI {s bs : Bs} {xs : List RcT} {n : Nat} (h : decI s bs = (0, xs, n)) : n ≤ bs.length ∧ n ≤ 4000 ∧ xs.length = s.length ∧ encI s xs = (0, bs.take n) := by
  unfold decI at h
  split at h
  · rename_i h1; injection h with h2; exact absurd h2 h1
  · rename_i h1
    have hf := Decidable.not_not.1 h1
    obtain ⟨ys, e1, e2, e3, e4, e5, e6⟩ := decL_back s bs [] xs 0 n (formI_all hf).2 (Nat.zero_le _) h
    rw [List.nil_append] at e1
    subst e1
    refine ⟨e4, e5, e2, ?_⟩
    unfold encI
    rw [if_neg h1, if_neg (by omega)]
    have := e6 [] rfl
    simpa using this
theorem decI_err {s bs : Bs} (h : (decI s bs).1 ≠ 0) : (decI s bs).2 = ([], 0) := by
  unfold decI at h ⊢
  split
  · rfl
  · rename_i h1
    rw [if_neg h1] at h
    have : ∀ (s : Bs) (dec : List RcT) (at_ : Nat), (decL s bs dec at_).1 ≠ 0 → (decL s bs dec at_).2 = ([], 0) := by
      intro s
      induction s with
      | nil =>
        intro dec at_ h
        rw [decL] at h ⊢
        split
        · rfl
        · rename_i h2; rw [if_neg h2] at h; exact absurd rfl h
      | cons k s ih =>
        intro dec at_ h
        rw [decL] at h ⊢
        split
        · rfl
        · rename_i h2; rw [if_neg h2] at h; exact ih _ _ h
    exact this s [] 0 h
theorem encI_err {s : Bs} {xs : List RcT} (h : (encI s xs).1 ≠ 0) : (encI s xs).2 = [] := by
  unfold encI at h ⊢
  split
  · rfl
  · rename_i h1
    rw [if_neg h1] at h
    split
    · rfl
    · rename_i h2
      rw [if_neg h2] at h
      have : ∀ (s : Bs) (xs : List RcT) (out : Bs), (encL s xs out).1 ≠ 0 → (encL s xs out).2 = [] := by
        intro s
        induction s with
        | nil =>
          intro xs out h
          rw [encL] at h ⊢
          · split
            · rfl
            · rename_i h2; rw [if_neg h2] at h; exact absurd rfl h
          · simp
          · simp
        | cons k s ih =>
          intro xs out h
          cases xs with
          | nil =>
            rw [encL] at h ⊢
            · split
              · rfl
              · rename_i h2; rw [if_neg h2] at h; exact absurd rfl h
            · simp
            · simp
          | cons x xs =>
            rw [encL] at h ⊢
            split
            · rename_i h2; rw [if_pos h2] at h; exact ih _ _ h
            · rfl
      exact this s xs [] h
theorem rcsEq_refl (xs : List RcT) : rcsEq xs xs = true := by
  induction xs with
  | nil => rfl
  | cons x xs ih => simp [rcsEq, rcEq, ih]
end Go.Proofs.Ytlbgepgpihklfaa.Rec
