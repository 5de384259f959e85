/- The directories as plain functions: which block an entry is in. No program is named. -/
import Derived.Test.YtfcihdkflnpcgaaDrPure5
namespace Go.Proofs.Ytfcihdkflnpcgaa.Dr
open At
/-- The last block of the first q entries, and how many bytes it has then. -/
def bk (l : List De) (q : Nat) : Nat := (packI (l.take q)).length - 1
def lf (l : List De) (q : Nat) : Nat := ((packI (l.take q)).getLastD []).length
theorem bk_zero (l : List De) : bk l 0 = 0 := rfl
theorem lf_zero (l : List De) : lf l 0 = 0 := rfl
theorem packI_pos {l : List De} (hn : ∀ x ∈ l, x.1.size ≤ 24) {q : Nat} (h0 : 0 < q) (hq : q ≤ l.length) : ∃ d t, packI (l.take q) = d ++ [t] := by
  rcases snoc_cases (packI (l.take q)) with e | h
  · have := (packI_bd (l := l.take q) fun x hx => hn x (List.mem_of_mem_take hx)).2.2 e
    have h2 := congrArg List.length this
    rw [List.length_take, List.length_nil] at h2
    omega
  · exact h
theorem bk_at {l : List De} {q : Nat} {d : List (List UInt8)} {t : List UInt8} (h : packI (l.take q) = d ++ [t]) : bk l q = d.length ∧ lf l q = t.length := by
  unfold bk lf
  rw [h]
  constructor
  · rw [List.length_append, List.length_singleton]; omega
  · simp
theorem lf_le {l : List De} (hn : ∀ x ∈ l, x.1.size ≤ 24) (q : Nat) : lf l q ≤ 96 ∧ bk l q ≤ q := by
  have hb := packI_bd (l := l.take q) fun x hx => hn x (List.mem_of_mem_take hx)
  refine ⟨?_, ?_⟩
  · unfold lf
    rcases snoc_cases (packI (l.take q)) with e | ⟨d, t, e⟩
    · rw [e]; exact Nat.zero_le _
    · rw [e] at hb ⊢
      have := hb.2.1 t (by simp)
      simpa using this
  · unfold bk
    have := hb.1
    rw [List.length_take] at this
    omega
theorem bk_step {l : List De} (hn : ∀ x ∈ l, x.1.size ≤ 24) {q : Nat} (hq : q < l.length) : (0 < q ∧ 96 < lf l q + ((l.getD q d0).1.size + 2) → bk l (q + 1) = bk l q + 1 ∧ lf l (q + 1) = (l.getD q d0).1.size + 2) ∧ (¬ (0 < q ∧ 96 < lf l q + ((l.getD q d0).1.size + 2)) → bk l (q + 1) = bk l q ∧ lf l (q + 1) = lf l q + ((l.getD q d0).1.size + 2)) := by
  have hs := packI_snoc hq
  have hbl := bytesE_len (l.getD q d0)
  rcases Nat.eq_zero_or_pos q with h0 | h0
  · subst h0
    have e : packI (l.take 1) = [] ++ [bytesE (l.getD 0 d0)] := by rw [hs]; exact addI_nil _
    obtain ⟨b1, b2⟩ := bk_at (q := 1) e
    refine ⟨fun h => absurd h.1 (Nat.lt_irrefl _), fun _ => ⟨b1, ?_⟩⟩
    rw [b2, hbl, lf_zero]; omega
  · obtain ⟨d, t, e⟩ := packI_pos hn h0 (Nat.le_of_lt hq)
    obtain ⟨b1, b2⟩ := bk_at e
    rw [e] at hs
    by_cases h : 96 < t.length + (bytesE (l.getD q d0)).length
    · rw [addI_new h] at hs
      obtain ⟨c1, c2⟩ := bk_at hs
      rw [List.length_append, List.length_singleton] at c1
      exact ⟨fun _ => ⟨by omega, by omega⟩, fun h2 => absurd ⟨h0, by omega⟩ h2⟩
    · rw [addI_last h] at hs
      obtain ⟨c1, c2⟩ := bk_at hs
      rw [List.length_append] at c2
      exact ⟨fun h2 => absurd h2.2 (by omega), fun _ => ⟨by omega, by omega⟩⟩
theorem bk_in {l : List De} (hn : ∀ x ∈ l, x.1.size ≤ 24) {q : Nat} (hq : q < l.length) : bk l (q + 1) < (packI l).length ∧ lf l (q + 1) ≤ ((packI l).getD (bk l (q + 1)) []).length ∧ ((packI l).getD (bk l (q + 1)) []).length ≤ 96 := by
  obtain ⟨d, t, e⟩ := packI_pos hn (Nat.succ_pos q) hq
  obtain ⟨b1, b2⟩ := bk_at e
  obtain ⟨s, r, e2⟩ := packI_take e
  have hb := (packI_bd hn).2.1
  rw [b1, b2]
  have hg : (packI l).getD d.length [] = t ++ s := by
    rw [e2, List.getD_eq_getElem?_getD, List.getElem?_append_right (Nat.le_refl _), Nat.sub_self]; rfl
  rw [hg]
  refine ⟨by rw [e2]; simp, by rw [List.length_append]; omega, hb _ (by rw [e2]; simp)⟩
theorem bk_end {l : List De} (hn : ∀ x ∈ l, x.1.size ≤ 24) : (0 < l.length → bk l l.length + 1 = (packI l).length) ∧ (l.length = 0 → (packI l).length = 0) := by
  constructor
  · intro h
    obtain ⟨d, t, e⟩ := packI_pos hn h (Nat.le_refl _)
    obtain ⟨b1, b2⟩ := bk_at e
    rw [List.take_length] at e
    rw [b1, e]; simp
  · intro h
    rw [List.length_eq_zero_iff.1 h]; rfl
theorem touch_ge {l m : List De} {p : Nat} (hp : p ≤ l.length) (hn : ∀ x ∈ l, x.1.size ≤ 24) (hm : m.take p = l.take p) (n i : Nat) (hi : i ∈ touchI (packI l) (packI m) n) : bk l p ≤ i := by
  rcases Nat.eq_zero_or_pos p with h0 | h0
  · subst h0; rw [bk_zero]; exact Nat.zero_le _
  · obtain ⟨d, t, e⟩ := packI_pos hn h0 hp
    rw [(bk_at e).1]
    exact touch_from hm e n i hi
theorem touch_first {l m : List De} {p : Nat} {T : List Nat} {e : Int} (hl : checkE l = 0) (hmc : checkE m = 0) (hp : p ≤ l.length) (hm : m.take p = l.take p) (h : touchR l m = (T, e)) : e = 0 ∧ (0 < T.length → bk l p ≤ T.getD 0 0) := by
  unfold touchR at h
  rw [(unpack_pack hl).1, (unpack_pack hmc).1] at h
  dsimp only at h
  rw [if_neg (by simp), if_neg (by simp)] at h
  cases h
  refine ⟨rfl, fun h0 => touch_ge hp (names_of hl) hm (packI m).length _ ?_⟩
  rw [List.getD_eq_getElem?_getD, List.getElem?_eq_getElem h0]
  exact List.getElem_mem h0
/-- What the law of the blocks asks of the list that was changed. -/
theorem find_zero {l : List De} {n : ByteArray} {a : Nat} {f : Bool} {e : Int} (hl : checkE l = 0) (h : findR l n = (a, f, e)) : (e = 0 → a = posI l n ∧ f = hasI l n ∧ nameE n = 0) ∧ a ≤ l.length := by
  unfold findR at h
  split at h
  · rename_i h1
    cases h
    exact ⟨fun h2 => absurd h2 h1, Nat.zero_le _⟩
  · rename_i h1
    cases h
    exact ⟨fun _ => ⟨rfl, rfl, (orE2_zero.1 (Decidable.not_not.1 h1)).2⟩, (pos_spec (checkE_zero hl).2.2).1⟩
theorem drop_take {l D : List De} {n : ByteArray} {y : De} (h : dropR l n = (D, y, 0)) : D.take (posI l n) = l.take (posI l n) := by
  unfold dropR findR at h
  by_cases h1 : orE [checkE l, nameE n] ≠ 0
  · simp only [if_pos h1] at h
    exact absurd (congrArg (fun z => z.2.2) h) h1
  · simp only [if_neg h1, ne_eq, not_true_eq_false, if_false] at h
    split at h
    · cases h; exact take_erase _
    · cases h
theorem put_take {l P : List De} {x : De} (h : putR l x = (P, 0)) : P.take (posI l x.1) = l.take (posI l x.1) := by
  obtain ⟨h1, _, _, _, rfl, _⟩ := put_ok h
  exact take_ins (checkE_zero h1).2.2
end Go.Proofs.Ytfcihdkflnpcgaa.Dr
