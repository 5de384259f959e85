/- The directories as plain functions: bytes and blocks. No program is named. -/
import Derived.Test.YtfcihdkflnpcgaaDrPure2
namespace Go.Proofs.Ytfcihdkflnpcgaa.Dr
open At
theorem aloneE_zero {x : De} (h : aloneE x = 0) : nameE x.1 = 0 ∧ 1 ≤ x.1.size ∧ x.1.size ≤ 24 ∧ 0 ≤ x.2.2 ∧ x.2.2 ≤ 60 ∧ (x.2.1 = true → x.2.2 = 0) ∧ (x.2.1 = false → 1 ≤ x.2.2) := by
  have h0 : nameE x.1 = 0 := by
    unfold aloneE at h
    split at h
    · contradiction
    · rename_i h1; exact Decidable.not_not.1 h1
  have h1 : rangeB x = true := by
    unfold aloneE at h
    rw [if_neg (by simp [h0])] at h
    split at h
    · assumption
    · cases h
  have h2 : 1 ≤ x.1.size ∧ x.1.size ≤ 24 := by
    unfold nameE at h0
    split at h0
    · cases h0
    · rename_i k
      split at h0
      · cases h0
      · exact ⟨by rcases Nat.eq_zero_or_pos x.1.size with e | e; exact absurd (.inl e) k; exact e, by omega⟩
  unfold rangeB at h1
  cases hw : x.2.1
  · rw [hw] at h1
    have := of_decide_eq_true h1
    exact ⟨h0, h2.1, h2.2, by omega, by omega, (fun h => nomatch h), fun _ => this.1⟩
  · rw [hw] at h1
    have := of_decide_eq_true h1
    exact ⟨h0, h2.1, h2.2, by omega, by omega, (fun _ => this), fun h => nomatch h⟩
theorem bytesE_len (x : De) : (bytesE x).length = x.1.size + 2 := by
  have h1 : x.1.data.toList.length = x.1.size := rfl
  simp only [bytesE, List.length_cons, List.length_append, h1, List.length_nil]
theorem headB_toNat {x : De} (h : x.1.size ≤ 24) : (headB x).toNat = if x.2.1 then x.1.size + 128 else x.1.size := by
  unfold headB
  split
  · simp; omega
  · simp; omega
theorem addI_nil (b : List UInt8) : addI [] b = [b] := by simp [addI]
theorem addI_new {d : List (List UInt8)} {t b : List UInt8} (h : 96 < t.length + b.length) : addI (d ++ [t]) b = d ++ [t] ++ [b] := by
  unfold addI
  rw [if_pos (.inr (by simpa using h))]
theorem addI_last {d : List (List UInt8)} {t b : List UInt8} (h : ¬ 96 < t.length + b.length) : addI (d ++ [t]) b = d ++ [t ++ b] := by
  unfold addI
  rw [if_neg (by simpa using h)]
  simp
theorem packI_snoc {l : List De} {q : Nat} (hq : q < l.length) : packI (l.take (q + 1)) = addI (packI (l.take q)) (bytesE (l.getD q d0)) := by
  rw [take_snoc (d := d0) hq]
  unfold packI
  rw [List.foldl_append]; rfl
theorem packI_append (l m : List De) : packI (l ++ m) = m.foldl (fun b x => addI b (bytesE x)) (packI l) := by unfold packI; rw [List.foldl_append]
theorem snoc_cases {α : Type} (l : List α) : l = [] ∨ ∃ d t, l = d ++ [t] := by
  rcases List.eq_nil_or_concat l with h | ⟨d, t, h⟩
  · exact .inl h
  · exact .inr ⟨d, t, by simpa using h⟩
theorem packI_bd {l : List De} (h : ∀ x ∈ l, x.1.size ≤ 24) : (packI l).length ≤ l.length ∧ (∀ b ∈ packI l, b.length ≤ 96) ∧ (packI l = [] → l = []) := by
  rw [← List.reverse_reverse l] at h ⊢
  generalize l.reverse = r at h ⊢
  induction r with
  | nil => simp [packI]
  | cons x r ih =>
    rw [List.reverse_cons] at h ⊢
    obtain ⟨h1, h2, h3⟩ := ih fun y hy => h y (List.mem_append_left _ hy)
    have hx : (bytesE x).length ≤ 26 := by rw [bytesE_len]; have := h x (by simp); omega
    rw [packI_append]
    simp only [List.foldl_cons, List.foldl_nil, List.length_append, List.length_cons, List.length_nil]
    rcases snoc_cases (packI r.reverse) with e | ⟨d, t, e⟩
    · rw [e, addI_nil]
      exact ⟨by simp, fun b hb => by rw [List.mem_singleton.1 hb]; omega, fun h => by cases h⟩
    · rw [e] at h1 h2 ⊢
      by_cases h4 : 96 < t.length + (bytesE x).length
      · rw [addI_new h4]
        refine ⟨by simp at h1 ⊢; omega, fun b hb => ?_, fun h => by simp at h⟩
        rcases List.mem_append.1 hb with hb | hb
        · exact h2 b hb
        · rw [List.mem_singleton.1 hb]; omega
      · rw [addI_last h4]
        refine ⟨by simp at h1 ⊢; omega, fun b hb => ?_, fun h => by simp at h⟩
        rcases List.mem_append.1 hb with hb | hb
        · exact h2 b (List.mem_append_left _ hb)
        · rw [List.mem_singleton.1 hb, List.length_append]; omega
theorem names_of {l : List De} (h : checkE l = 0) : ∀ x ∈ l, x.1.size ≤ 24 := fun x hx => (aloneE_zero (alonesE_iff.1 (checkE_zero h).2.1 x hx)).2.2.1
/-- The entry at the head of bytes. -/
def entB (h : UInt8) (r : List UInt8) : De := (⟨(r.take (h.toNat % 128)).toArray⟩, decide (128 ≤ h.toNat), ((r.getD (h.toNat % 128) 0).toNat : Int))
theorem readI_nil : readI [] = some [] := by rw [readI]
theorem readI_no {h : UInt8} {r : List UInt8} (k : r.length < h.toNat % 128 + 1) : readI (h :: r) = none := by rw [readI, if_pos k]
theorem readI_yes {h : UInt8} {r : List UInt8} (k : ¬ r.length < h.toNat % 128 + 1) : readI (h :: r) = (readI (r.drop (h.toNat % 128 + 1))).map (entB h r :: ·) := by rw [readI, if_neg k]; rfl
theorem entB_size (h : UInt8) (r : List UInt8) : (entB h r).1.size ≤ 127 := by
  show (r.take (h.toNat % 128)).toArray.size ≤ 127
  simp; omega
theorem readsI_step {bl : List (List UInt8)} {q : Nat} (hq : q < bl.length) : readsI (bl.drop q) = match readI (bl.getD q []) with
    | none => none
    | some l => (readsI (bl.drop (q + 1))).map (l ++ ·) := by
  rw [List.drop_eq_getElem_cons hq, readsI, List.getD_eq_getElem?_getD, List.getElem?_eq_getElem hq]; rfl
theorem unpackR_no {bl : List (List UInt8)} (h1 : bl.length ≤ 8) (h : readsI bl = none) : unpackR bl = ([], 6) := by
  unfold unpackR; rw [if_neg (by omega), h]
theorem unpackR_some {bl : List (List UInt8)} {out : List De} (h1 : bl.length ≤ 8) (h : readsI bl = some out) : unpackR bl = if (packR out).2 = 0 ∧ (packR out).1 = bl then (out, 0) else ([], 6) := by
  unfold unpackR; rw [if_neg (by omega), h]
theorem and127 (n : Nat) : n &&& 127 = n % 128 := Nat.and_two_pow_sub_one_eq_mod n 7
theorem packR_cases (l : List De) : ((packR l).2 = 0 → checkE l = 0 ∧ (packR l).1 = packI l) ∧ ((packR l).2 ≠ 0 → (packR l).1 = []) := by
  unfold packR
  split
  · rename_i h; exact ⟨fun h2 => absurd h2 h, fun _ => rfl⟩
  · rename_i h; exact ⟨fun _ => ⟨Decidable.not_not.1 h, rfl⟩, fun h2 => absurd rfl h2⟩
theorem insI_len (l : List De) (x : De) : (insI l x).length = l.length + 1 := by
  unfold insI; simp only [List.length_append, List.length_cons, List.length_take, List.length_drop]; omega
theorem putR_len (l : List De) (x : De) : (putR l x).1.length ≤ l.length + 1 := by
  unfold putR
  split
  · simp
  · split
    · simp
    · split
      · simp
      · simp [insI_len]
theorem dropR_len (l : List De) (n : ByteArray) : (dropR l n).1.length ≤ l.length := by
  unfold dropR
  split
  · simp
  · split
    · exact (List.eraseIdx_sublist l _).length_le
    · simp
theorem turnR_len (l : List De) (n : ByteArray) (x : De) : (turnR l n x).1.length ≤ l.length + 1 := by
  unfold turnR
  split
  · simp
  · split
    · simp
    · exact Nat.le_trans (putR_len _ _) (Nat.succ_le_succ (dropR_len _ _))
end Go.Proofs.Ytfcihdkflnpcgaa.Dr
