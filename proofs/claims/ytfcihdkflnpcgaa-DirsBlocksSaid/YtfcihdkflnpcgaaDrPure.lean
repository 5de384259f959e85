/- The directories as plain functions. No program is named. -/
import Derived.Test.YtfcihdkflnpcgaaAtPure
namespace Go.Proofs.Ytfcihdkflnpcgaa.Dr
open At
/-- An entry: name, whether it is white, number. -/
abbrev De := ByteArray × Bool × Int
abbrev d0 : De := (⟨#[]⟩, false, 0)
def badP (b : UInt8) : Bool := decide (b.toNat < 33 ∨ 126 < b.toNat ∨ b.toNat = 47)
/-- What is wrong with a name. -/
def nameE (s : ByteArray) : Int := if s.size = 0 ∨ s = ⟨#[46]⟩ ∨ s = ⟨#[46, 46]⟩ ∨ s.data.toList.any badP = true then 6 else if 24 < s.size then 3 else 0
def rangeB (x : De) : Bool := if x.2.1 then decide (x.2.2 = 0) else decide (1 ≤ x.2.2 ∧ x.2.2 ≤ 60)
def aloneE (x : De) : Int := if nameE x.1 ≠ 0 then nameE x.1 else if rangeB x then 0 else 7
def alonesE : List De → Int
  | [] => 0
  | x :: l => if aloneE x ≠ 0 then aloneE x else alonesE l
def dupB : List De → Bool
  | [] => false
  | x :: l => l.any (fun y => decide (y.1 = x.1)) || dupB l
def sortedB : List De → Bool
  | [] => true
  | [_] => true
  | x :: y :: l => !ltS y.1 x.1 && sortedB (y :: l)
def checkE (l : List De) : Int :=
  if 24 < l.length then 3 else if alonesE l ≠ 0 then alonesE l else if dupB l then 8 else if !sortedB l then 6 else 0
def posI (l : List De) (n : ByteArray) : Nat := (l.takeWhile fun y => ltS y.1 n).length
theorem posI_eq {l : List De} {n : ByteArray} {i : Nat} (hi : i ≤ l.length) (h1 : ∀ k, k < i → ltS (l.getD k d0).1 n = true) (h2 : ∀ k, i ≤ k → k < l.length → ltS (l.getD k d0).1 n = false) : posI l n = i := by
  unfold posI; exact takeWhile_len (d := d0) (p := fun y => ltS y.1 n) hi h1 h2
def Srt (l : List De) : Prop := ∀ i j, i < j → j < l.length → ltS (l.getD i d0).1 (l.getD j d0).1 = true
theorem mem_getD {l : List De} {y : De} (h : y ∈ l) : ∃ k, k < l.length ∧ l.getD k d0 = y := by
  obtain ⟨k, hk, e⟩ := List.getElem_of_mem h
  exact ⟨k, hk, by rw [List.getD_eq_getElem?_getD, List.getElem?_eq_getElem hk]; exact e⟩
theorem getD_mem {l : List De} {k : Nat} (h : k < l.length) : l.getD k d0 ∈ l := by
  rw [List.getD_eq_getElem?_getD, List.getElem?_eq_getElem h]; exact List.getElem_mem h
def hasI (l : List De) (n : ByteArray) : Bool := l.any fun y => decide (y.1 = n)
theorem hasI_at {l : List De} {n : ByteArray} {i : Nat} (h1 : ∀ k, k < i → ltS (l.getD k d0).1 n = true) (h2 : ∀ k, i ≤ k → k < l.length → ltS (l.getD k d0).1 n = false) (hs : Srt l) : hasI l n = true ↔ i < l.length ∧ (l.getD i d0).1 = n := by
  unfold hasI
  rw [List.any_eq_true]
  constructor
  · rintro ⟨y, hy, e⟩
    have e := of_decide_eq_true e
    obtain ⟨k, hk, rfl⟩ := mem_getD hy
    rcases Nat.lt_trichotomy k i with h | h | h
    · have := h1 k h; rw [e, ltS_irrefl] at this; cases this
    · subst h; exact ⟨hk, e⟩
    · have a := hs i k h hk
      have b := h2 i (Nat.le_refl _) (by omega)
      rw [e, b] at a; cases a
  · rintro ⟨h, e⟩
    exact ⟨_, getD_mem h, by simpa using e⟩
def dupQ (l : List De) : Nat → Bool
  | 0 => false
  | q + 1 => dupQ l q || (l.take q).any fun y => decide (y.1 = (l.getD q d0).1)
theorem any_take_succ {l : List De} {p : De → Bool} {k : Nat} (hk : k < l.length) : (l.take (k + 1)).any p = ((l.take k).any p || p (l.getD k d0)) := by
  rw [take_snoc (d := d0) hk, List.any_append]; simp
theorem alonesE_drop {l : List De} {q : Nat} (hq : q < l.length) : alonesE (l.drop q) = if aloneE (l.getD q d0) ≠ 0 then aloneE (l.getD q d0) else alonesE (l.drop (q + 1)) := by
  rw [List.drop_eq_getElem_cons hq, alonesE, List.getD_eq_getElem?_getD, List.getElem?_eq_getElem hq]; rfl
theorem take_any_iff {l : List De} {p : De → Bool} {q : Nat} (hq : q ≤ l.length) : (l.take q).any p = true ↔ ∃ k, k < q ∧ p (l.getD k d0) = true := by
  induction q with
  | zero => simp
  | succ q ih =>
    rw [any_take_succ (by omega), Bool.or_eq_true, ih (by omega)]
    constructor
    · rintro (⟨k, h1, h2⟩ | h)
      · exact ⟨k, by omega, h2⟩
      · exact ⟨q, by omega, h⟩
    · rintro ⟨k, h1, h2⟩
      rcases Nat.lt_or_ge k q with h | h
      · exact .inl ⟨k, h, h2⟩
      · obtain rfl : k = q := by omega
        exact .inr h2
theorem dupQ_iff {l : List De} {q : Nat} (hq : q ≤ l.length) : dupQ l q = true ↔ ∃ i k, k < i ∧ i < q ∧ (l.getD k d0).1 = (l.getD i d0).1 := by
  induction q with
  | zero => simp [dupQ]
  | succ q ih =>
    rw [dupQ, Bool.or_eq_true, ih (by omega), take_any_iff (by omega)]
    constructor
    · rintro (⟨i, k, h1, h2, h3⟩ | ⟨k, h1, h2⟩)
      · exact ⟨i, k, h1, by omega, h3⟩
      · exact ⟨q, k, h1, by omega, of_decide_eq_true h2⟩
    · rintro ⟨i, k, h1, h2, h3⟩
      rcases Nat.lt_or_ge i q with h | h
      · exact .inl ⟨i, k, h1, h, h3⟩
      · obtain rfl : i = q := by omega
        exact .inr ⟨k, h1, decide_eq_true h3⟩
theorem dupB_iff {l : List De} : dupB l = true ↔ ∃ i k, k < i ∧ i < l.length ∧ (l.getD k d0).1 = (l.getD i d0).1 := by
  induction l with
  | nil => simp [dupB]
  | cons x l ih =>
    rw [dupB, Bool.or_eq_true, ih, List.any_eq_true]
    constructor
    · rintro (⟨y, h1, h2⟩ | ⟨i, k, h1, h2, h3⟩)
      · obtain ⟨k, hk, rfl⟩ := mem_getD h1
        exact ⟨k + 1, 0, by omega, by simpa using hk, by simpa using (of_decide_eq_true h2).symm⟩
      · exact ⟨i + 1, k + 1, by omega, by simpa using h2, by simpa using h3⟩
    · rintro ⟨i, k, h1, h2, h3⟩
      cases i with
      | zero => omega
      | succ i =>
        have h2 : i < l.length := by simpa using h2
        cases k with
        | zero => exact .inl ⟨_, getD_mem h2, decide_eq_true (by simpa using h3.symm)⟩
        | succ k => exact .inr ⟨i, k, by omega, h2, by simpa using h3⟩
theorem sortedB_iff {l : List De} : sortedB l = true ↔ ∀ i, i + 1 < l.length → ltS (l.getD (i + 1) d0).1 (l.getD i d0).1 = false := by
  induction l with
  | nil => simp [sortedB]
  | cons x l ih =>
    cases l with
    | nil => simp [sortedB]
    | cons y l =>
      rw [sortedB, Bool.and_eq_true, ih]
      constructor
      · rintro ⟨h1, h2⟩ i hi
        cases i with
        | zero => simpa using h1
        | succ i => have := h2 i (by simpa using hi); simpa using this
      · intro h
        refine ⟨by have := h 0 (by simp); simpa using this, fun i hi => ?_⟩
        have := h (i + 1) (by simpa using hi)
        simpa using this
theorem srt_of {l : List De} (h1 : dupB l = false) (h2 : sortedB l = true) : Srt l := by
  have h2 := sortedB_iff.1 h2
  intro i j hij hj
  induction j with
  | zero => omega
  | succ j ih =>
    have hs : ltS (l.getD j d0).1 (l.getD (j + 1) d0).1 = true := by
      cases h : ltS (l.getD j d0).1 (l.getD (j + 1) d0).1
      · have := ltS_tri h (h2 j hj)
        have := dupB_iff.2 ⟨j + 1, j, by omega, hj, this⟩
        rw [h1] at this; cases this
      · rfl
    rcases Nat.lt_or_ge i j with h | h
    · exact ltS_trans (ih h (by omega)) hs
    · obtain rfl : i = j := by omega
      exact hs
theorem dupQ_dupB (l : List De) : dupQ l l.length = dupB l := by
  rw [Bool.eq_iff_iff, dupQ_iff (Nat.le_refl _), dupB_iff]
theorem srt_iff {l : List De} : Srt l ↔ dupB l = false ∧ sortedB l = true := by
  refine ⟨fun h => ⟨?_, sortedB_iff.2 fun i hi => ltS_asymm (h i (i + 1) (by omega) hi)⟩, fun h => srt_of h.1 h.2⟩
  cases h3 : dupB l
  · rfl
  · obtain ⟨i, k, h4, h5, h6⟩ := dupB_iff.1 h3
    have := h k i h4 h5
    rw [h6, ltS_irrefl] at this; cases this
theorem pos_spec {l : List De} {n : ByteArray} (hs : Srt l) : posI l n ≤ l.length ∧ (∀ k, k < posI l n → ltS (l.getD k d0).1 n = true) ∧ ∀ k, posI l n ≤ k → k < l.length → ltS (l.getD k d0).1 n = false := by
  have key : ∃ i, i ≤ l.length ∧ (∀ k, k < i → ltS (l.getD k d0).1 n = true) ∧ ∀ k, i ≤ k → k < l.length → ltS (l.getD k d0).1 n = false := by
    suffices h : ∀ m, m ≤ l.length → (∀ k, k < m → ltS (l.getD k d0).1 n = true) ∨ ∃ i, i ≤ l.length ∧ (∀ k, k < i → ltS (l.getD k d0).1 n = true) ∧ ∀ k, i ≤ k → k < l.length → ltS (l.getD k d0).1 n = false by
      rcases h l.length (Nat.le_refl _) with h | h
      · exact ⟨l.length, Nat.le_refl _, h, fun k h1 h2 => by omega⟩
      · exact h
    intro m
    induction m with
    | zero => exact fun _ => .inl fun k hk => absurd hk (Nat.not_lt_zero _)
    | succ m ih =>
      intro hm
      rcases ih (by omega) with h | h
      · cases h1 : ltS (l.getD m d0).1 n
        · refine .inr ⟨m, by omega, h, fun k hk hk2 => ?_⟩
          rcases Nat.eq_or_lt_of_le hk with e | e
          · rw [← e]; exact h1
          · cases h2 : ltS (l.getD k d0).1 n
            · rfl
            · have := ltS_trans (hs m k e hk2) h2
              rw [h1] at this; cases this
        · refine .inl fun k hk => ?_
          rcases Nat.lt_or_ge k m with e | e
          · exact h k e
          · obtain rfl : k = m := by omega
            exact h1
      · exact .inr h
  obtain ⟨i, h1, h2, h3⟩ := key
  rw [posI_eq h1 h2 h3]
  exact ⟨h1, h2, h3⟩
theorem pos_has {l : List De} {n : ByteArray} (hs : Srt l) (h : hasI l n = true) : posI l n < l.length ∧ (l.getD (posI l n) d0).1 = n := by
  obtain ⟨h1, h2, h3⟩ := pos_spec (n := n) hs
  exact (hasI_at h2 h3 hs).1 h
theorem srt_inj {l : List De} (hs : Srt l) {i j : Nat} (hi : i < l.length) (hj : j < l.length) (h : (l.getD i d0).1 = (l.getD j d0).1) : i = j := by
  rcases Nat.lt_trichotomy i j with c | c | c
  · have := hs i j c hj; rw [h, ltS_irrefl] at this; cases this
  · exact c
  · have := hs j i c hi; rw [h, ltS_irrefl] at this; cases this
theorem has_at {l : List De} {n : ByteArray} {q : Nat} (hs : Srt l) (hq : q < l.length) (h : (l.getD q d0).1 = n) : hasI l n = true ∧ posI l n = q := by
  have h1 : hasI l n = true := List.any_eq_true.2 ⟨_, getD_mem hq, by simpa using h⟩
  obtain ⟨h2, h3⟩ := pos_has hs h1
  exact ⟨h1, srt_inj hs h2 hq (by rw [h3, h])⟩
theorem has_no {l : List De} {n : ByteArray} (h : ∀ k, k < l.length → (l.getD k d0).1 ≠ n) : hasI l n = false := by
  cases h1 : hasI l n
  · rfl
  · obtain ⟨y, hy, e⟩ := List.any_eq_true.1 h1
    obtain ⟨k, hk, rfl⟩ := mem_getD hy
    exact absurd (of_decide_eq_true e) (h k hk)
theorem mem_take {l : List De} {p : Nat} {y : De} (h : y ∈ l.take p) : ∃ k, k < p ∧ k < l.length ∧ l.getD k d0 = y := by
  obtain ⟨k, hk, e⟩ := mem_getD h
  rw [List.length_take] at hk
  refine ⟨k, by omega, by omega, ?_⟩
  rw [← e, List.getD_eq_getElem?_getD, List.getD_eq_getElem?_getD, List.getElem?_take, if_pos (by omega)]
theorem mem_drop {l : List De} {p : Nat} {y : De} (h : y ∈ l.drop p) : ∃ k, p ≤ k ∧ k < l.length ∧ l.getD k d0 = y := by
  obtain ⟨k, hk, e⟩ := mem_getD h
  rw [List.length_drop] at hk
  refine ⟨p + k, by omega, by omega, ?_⟩
  rw [← e, List.getD_eq_getElem?_getD, List.getD_eq_getElem?_getD, List.getElem?_drop]
def withoutI (l : List De) (n : ByteArray) : List De := l.filter fun y => !decide (y.1 = n)
def withI (l : List De) (x : De) : List De := (withoutI l x.1).takeWhile (fun y => ltS y.1 x.1) ++ x :: (withoutI l x.1).dropWhile (fun y => ltS y.1 x.1)
section
variable {l : List De} {n : ByteArray}
theorem filter_all {α : Type} {p : α → Bool} {a : List α} (h : ∀ x ∈ a, p x = true) : a.filter p = a := List.filter_eq_self.2 h
theorem split_lo (hs : Srt l) : ∀ y ∈ l.take (posI l n), ltS y.1 n = true := fun y hy => by
  obtain ⟨k, h1, h2, rfl⟩ := mem_take hy
  exact (pos_spec hs).2.1 k h1
theorem split_hi (hs : Srt l) : ∀ y ∈ l.drop (posI l n), ltS y.1 n = false := fun y hy => by
  obtain ⟨k, h1, h2, rfl⟩ := mem_drop hy
  exact (pos_spec hs).2.2 k h1 h2
theorem drop_pos (hs : Srt l) (hh : hasI l n = true) : l.drop (posI l n) = l.getD (posI l n) d0 :: l.drop (posI l n + 1) ∧ (l.getD (posI l n) d0).1 = n ∧ ∀ y ∈ l.drop (posI l n + 1), ltS n y.1 = true := by
  obtain ⟨h1, h2⟩ := pos_has hs hh
  refine ⟨?_, h2, fun y hy => ?_⟩
  · rw [List.drop_eq_getElem_cons h1, List.getD_eq_getElem?_getD, List.getElem?_eq_getElem h1]; rfl
  · obtain ⟨k, k1, k2, rfl⟩ := mem_drop hy
    have := hs (posI l n) k (by omega) k2
    rwa [h2] at this
theorem erase_without (hs : Srt l) (hh : hasI l n = true) : l.eraseIdx (posI l n) = withoutI l n := by
  obtain ⟨h1, h2, h3⟩ := drop_pos hs hh
  unfold withoutI
  conv => rhs; rw [← List.take_append_drop (posI l n) l]
  rw [List.filter_append, filter_all (fun y hy => by have := split_lo (n := n) hs y hy; simp [ltS_ne this]), h1, List.filter_cons, h2]
  rw [List.eraseIdx_eq_take_drop_succ]
  simp only [decide_true, Bool.not_true, Bool.false_eq_true, if_false]
  rw [filter_all fun y hy => by have := ltS_ne (h3 y hy); simp [Ne.symm this]]
theorem without_no (hh : hasI l n = false) : withoutI l n = l := by
  unfold withoutI
  refine filter_all fun y hy => ?_
  have : ¬ y.1 = n := fun e => by
    have : hasI l n = true := List.any_eq_true.2 ⟨y, hy, decide_eq_true e⟩
    rw [hh] at this; cases this
  simp [this]
end
end Go.Proofs.Ytfcihdkflnpcgaa.Dr
