/- The record of two forms is the records of both: the plain law, and the walk of the statement's function. -/
import Derived.Test.YtlbgepgpihklfaaRecSh
namespace Go.Proofs.Ytlbgepgpihklfaa.Rec
open Go.RowKit Lw

/-- As encL, without the limit. -/
def encR : Bs → List RcT → Bs → Int × Bs
  | k :: s, x :: l, out => if (valI k.toNat x).1 = 0 then encR s l (out ++ (valI k.toNat x).2) else ((valI k.toNat x).1, [])
  | _, _, out => (0, out)
theorem encL_R (s : Bs) (l : List RcT) (out : Bs) : encL s l out = if (encR s l out).1 ≠ 0 then ((encR s l out).1, []) else if 4000 < (encR s l out).2.length then (3, []) else (0, (encR s l out).2) := by
  induction s generalizing l out with
  | nil => cases l <;> rfl
  | cons k s ih =>
    cases l with
    | nil => rfl
    | cons x l =>
      rw [encL, encR]
      by_cases h : (valI k.toNat x).1 = 0
      · rw [if_pos h, if_pos h, ih]
      · rw [if_neg h, if_neg h, if_pos h]
theorem encR_out (s : Bs) (l : List RcT) (out : Bs) (h : (encR s l []).1 = 0) : encR s l out = (0, out ++ (encR s l []).2) := by
  induction s generalizing l out with
  | nil => cases l <;> simp [encR]
  | cons k s ih =>
    cases l with
    | nil => simp [encR]
    | cons x l =>
      rw [encR] at h ⊢
      by_cases h1 : (valI k.toNat x).1 = 0
      · rw [if_pos h1] at h ⊢
        have h0 : (encR s l []).1 = 0 := by
          rcases Classical.em ((encR s l []).1 = 0) with h2 | h2
          · exact h2
          · exfalso
            have aux : ∀ (s : Bs) (l : List RcT) (o o' : Bs), (encR s l o).1 = (encR s l o').1 := by
              intro s
              induction s with
              | nil => intro l o o'; cases l <;> rfl
              | cons k s ih =>
                intro l o o'
                cases l with
                | nil => rfl
                | cons x l =>
                  rw [encR, encR]
                  split
                  · exact ih _ _ _
                  · rfl
            exact h2 ((aux s l _ _).symm.trans h)
        rw [ih l _ h0]
        have e : (encR (k :: s) (x :: l) []).2 = (valI k.toNat x).2 ++ (encR s l []).2 := by
          rw [encR, if_pos h1, ih l _ h0]; simp
        rw [e]; simp
      · rw [if_neg h1] at h; exact absurd h h1
theorem encR_append (s t : Bs) (l m : List RcT) (out : Bs) (hl : l.length = s.length) : encR (s ++ t) (l ++ m) out = if (encR s l out).1 = 0 then encR t m (encR s l out).2 else encR s l out := by
  induction s generalizing l out with
  | nil =>
    obtain rfl : l = [] := List.eq_nil_of_length_eq_zero hl
    simp [encR]
  | cons k s ih =>
    cases l with
    | nil => simp at hl
    | cons x l =>
      rw [List.cons_append, List.cons_append, encR, encR]
      by_cases h : (valI k.toNat x).1 = 0
      · rw [if_pos h, if_pos h, ih _ _ (by simpa using hl)]
      · rw [if_neg h, if_neg h, if_neg h]
theorem formI_ok (s : Bs) (h : formI s = 0) : s.length ≤ 64 ∧ s.all (fun k => okKind k.toNat) = true := by
  unfold formI at h
  by_cases h1 : 64 < s.length
  · rw [if_pos h1] at h; cases h
  · rw [if_neg h1] at h
    by_cases h2 : s.all (fun k => okKind k.toNat) = true
    · exact ⟨by omega, h2⟩
    · rw [if_neg h2] at h; cases h
theorem formI_mk (s : Bs) (h1 : s.length ≤ 64) (h2 : s.all (fun k => okKind k.toNat) = true) : formI s = 0 := by
  unfold formI; rw [if_neg (by omega), if_pos h2]
theorem encI_ok {s : Bs} {l : List RcT} {a : Bs} (h : encI s l = (0, a)) : formI s = 0 ∧ l.length = s.length ∧ encR s l [] = (0, a) ∧ a.length ≤ 4000 := by
  unfold encI at h
  by_cases h1 : formI s = 0
  · rw [if_neg (by simpa using h1)] at h
    by_cases h2 : l.length = s.length
    · rw [if_neg (by simpa using h2), encL_R] at h
      by_cases h3 : (encR s l []).1 = 0
      · rw [if_neg (by simpa using h3)] at h
        by_cases h4 : 4000 < (encR s l []).2.length
        · rw [if_pos h4] at h; cases h
        · rw [if_neg h4] at h
          have e : (encR s l []).2 = a := by injection h
          exact ⟨h1, h2, by rw [← e, ← h3], by rw [← e]; omega⟩
      · rw [if_pos (by simpa using h3)] at h
        injection h with h _; exact absurd h h3
    · rw [if_pos (by simpa using h2)] at h; cases h
  · rw [if_pos (by simpa using h1)] at h
    injection h with h _; exact absurd h h1
theorem encI_mk {s : Bs} {l : List RcT} {a : Bs} (h1 : formI s = 0) (h2 : l.length = s.length) (h3 : encR s l [] = (0, a)) : encI s l = if 4000 < a.length then (3, []) else (0, a) := by
  unfold encI
  rw [if_neg (by simpa using h1), if_neg (by simpa using h2), encL_R, h3]
  rfl
/-- THE PLAIN LAW. -/
theorem enc_both {s t : Bs} {l m : List RcT} {a b : Bs} (hs : s.length ≤ 32) (ht : t.length ≤ 32) (ha : encI s l = (0, a)) (hb : encI t m = (0, b)) :
    encI (s ++ t) (l ++ m) = if 4000 < a.length + b.length then (3, []) else (0, a ++ b) := by
  obtain ⟨a1, a2, a3, a4⟩ := encI_ok ha
  obtain ⟨b1, b2, b3, b4⟩ := encI_ok hb
  have h1 : formI (s ++ t) = 0 := formI_mk _ (by simp; omega) (by rw [List.all_append, (formI_ok s a1).2, (formI_ok t b1).2]; rfl)
  have h3 : encR (s ++ t) (l ++ m) [] = (0, a ++ b) := by
    rw [encR_append _ _ _ _ _ a2, a3]
    show (if (0 : Int) = 0 then encR t m a else _) = _
    rw [if_pos rfl, encR_out t m a (by rw [b3]), b3]
  rw [encI_mk h1 (by simp [a2, b2]) h3, List.length_append]

theorem farL_len {xs : List RcT} {n : Nat} (h : farL xs n = false) : ∀ x ∈ xs, x.2.1.size ≤ 500 ∧ x.2.2.length ≤ 70 := by
  induction xs generalizing n with
  | nil => intro x hx; cases hx
  | cons y r ih =>
    rw [farL] at h
    by_cases h1 : 500 < y.2.1.size ∨ 70 < y.2.2.length
    · rw [if_pos h1] at h; cases h
    · rw [if_neg h1] at h
      intro x hx
      rcases List.mem_cons.1 hx with rfl | hx
      · omega
      · exact ih h x hx
theorem farI_len {xs : List RcT} (h : farI xs = false) : xs.length ≤ 70 ∧ ∀ x ∈ xs, x.2.1.size ≤ 500 ∧ x.2.2.length ≤ 70 := by
  unfold farI at h
  by_cases h1 : 70 < xs.length
  · rw [if_pos h1] at h; cases h
  · rw [if_neg h1] at h; exact ⟨by omega, farL_len h⟩
end Go.Proofs.Ytlbgepgpihklfaa.Rec
