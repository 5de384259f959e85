/- The attributes as plain functions: a sorted list that is changed. No program is named. -/
import Derived.Test.YtncnmjepifbclaaAtPure2
namespace Go.Proofs.Ytncnmjepifbclaa.At
/-- The first k blocks of bytes. -/
def blkN (b : List UInt8) (k : Nat) : List (List UInt8) := (List.range k).map fun i => (b.drop (96 * i)).take 96
def blkI (b : List UInt8) : List (List UInt8) := blkN b ((b.length + 95) / 96)
theorem blkN_snoc (b : List UInt8) (k : Nat) : blkN b (k + 1) = blkN b k ++ [(b.drop (96 * k)).take 96] := by simp [blkN, List.range_succ]
theorem blkN_len (b : List UInt8) (k : Nat) : (blkN b k).length = k := by simp [blkN]
def packR (l : List At) : List (List UInt8) × Int := if checkE l ≠ 0 then ([], checkE l) else (blkI (bytesI l), 0)
def getR (l : List At) (n : ByteArray) : ByteArray × Int := if checkE l ≠ 0 then (⟨#[]⟩, checkE l) else if hasI l n then ((l.getD (posI l n) d0).2, 0) else (⟨#[]⟩, 4)
/-- A list that fits, or that it is full. -/
def fitI (l : List At) : List At × Int := if fullB l then ([], 5) else (l, 0)
theorem fitI_1 (l : List At) : (fitI l).1 = if fullB l then [] else l := by unfold fitI; split <;> rfl
theorem fitI_2 (l : List At) : (fitI l).2 = if fullB l then 5 else 0 := by unfold fitI; split <;> rfl
def setR (l : List At) (x : At) : List At × Int := if orE [checkE l, aloneE x] ≠ 0 then ([], orE [checkE l, aloneE x]) else fitI (setI l x)
def delR (l : List At) (n : ByteArray) : List At × Int := if (getR l n).2 ≠ 0 then ([], (getR l n).2) else (l.eraseIdx (posI l n), 0)
def spareR (l : List At) (s : ByteArray) : Int × Int := if orE [checkE l, keyE s] ≠ 0 then (0, orE [checkE l, keyE s]) else if fullB (setI l (s, ⟨#[]⟩)) then (0, 5) else (min (288 - (sizeI (setI l (s, ⟨#[]⟩)) : Int)) 200, 0)
theorem srt_inj {l : List At} (hs : Srt l) {i j : Nat} (hi : i < l.length) (hj : j < l.length) (h : (l.getD i d0).1 = (l.getD j d0).1) : i = j := by
  rcases Nat.lt_trichotomy i j with c | c | c
  · have := hs i j c hj; rw [h, ltS_irrefl] at this; cases this
  · exact c
  · have := hs j i c hi; rw [h, ltS_irrefl] at this; cases this
theorem has_at {l : List At} {n : ByteArray} {q : Nat} (hs : Srt l) (hq : q < l.length) (h : (l.getD q d0).1 = n) : hasI l n = true ∧ posI l n = q := by
  have h1 : hasI l n = true := List.any_eq_true.2 ⟨_, getD_mem hq, by simpa using h⟩
  obtain ⟨h2, h3⟩ := pos_has hs h1
  exact ⟨h1, srt_inj hs h2 hq (by rw [h3, h])⟩
theorem has_no {l : List At} {n : ByteArray} (h : ∀ k, k < l.length → (l.getD k d0).1 ≠ n) : hasI l n = false := by
  cases h1 : hasI l n
  · rfl
  · obtain ⟨y, hy, e⟩ := List.any_eq_true.1 h1
    obtain ⟨k, hk, rfl⟩ := mem_getD hy
    exact absurd (of_decide_eq_true e) (h k hk)
end Go.Proofs.Ytncnmjepifbclaa.At
namespace Go.Proofs.Ytncnmjepifbclaa.At
theorem mem_take {l : List At} {p : Nat} {y : At} (h : y ∈ l.take p) : ∃ k, k < p ∧ k < l.length ∧ l.getD k d0 = y := by
  obtain ⟨k, hk, e⟩ := mem_getD h
  rw [List.length_take] at hk
  refine ⟨k, by omega, by omega, ?_⟩
  rw [← e, List.getD_eq_getElem?_getD, List.getD_eq_getElem?_getD, List.getElem?_take, if_pos (by omega)]
theorem mem_drop {l : List At} {p : Nat} {y : At} (h : y ∈ l.drop p) : ∃ k, p ≤ k ∧ k < l.length ∧ l.getD k d0 = y := by
  obtain ⟨k, hk, e⟩ := mem_getD h
  rw [List.length_drop] at hk
  refine ⟨p + k, by omega, by omega, ?_⟩
  rw [← e, List.getD_eq_getElem?_getD, List.getD_eq_getElem?_getD, List.getElem?_drop]
theorem takeWhile_all {α : Type} {p : α → Bool} : ∀ {a b : List α}, (∀ x ∈ a, p x = true) → (∀ x, b.head? = some x → p x = false) → (a ++ b).takeWhile p = a ∧ (a ++ b).dropWhile p = b
  | [], [], _, _ => ⟨rfl, rfl⟩
  | [], y :: b, _, h => by have := h y rfl; exact ⟨List.takeWhile_cons_of_neg (by simp [this]), List.dropWhile_cons_of_neg (by simp [this])⟩
  | x :: a, b, h1, h2 => by
    have := h1 x (List.mem_cons_self ..)
    obtain ⟨e1, e2⟩ := takeWhile_all (a := a) (b := b) (fun y hy => h1 y (List.mem_cons_of_mem _ hy)) h2
    exact ⟨by rw [List.cons_append, List.takeWhile_cons_of_pos this, e1], by rw [List.cons_append, List.dropWhile_cons_of_pos this, e2]⟩
theorem set_cut {α : Type} (x : α) : ∀ {l : List α} {p : Nat}, p < l.length → l.set p x = l.take p ++ x :: l.drop (p + 1)
  | _ :: _, 0, _ => rfl
  | y :: l, p + 1, h => by simp only [List.set_cons_succ, List.take_succ_cons, List.drop_succ_cons, List.cons_append]; rw [set_cut x (Nat.lt_of_succ_lt_succ h)]
theorem filter_all {α : Type} {p : α → Bool} {a : List α} (h : ∀ x ∈ a, p x = true) : a.filter p = a := List.filter_eq_self.2 h
section
variable {l : List At} {n : ByteArray}
theorem split_lo (hs : Srt l) : ∀ y ∈ l.take (posI l n), ltS y.1 n = true := fun y hy => by
  obtain ⟨k, h1, h2, rfl⟩ := mem_take hy
  exact (pos_spec hs).2.1 k h1
theorem split_hi (hs : Srt l) : ∀ y ∈ l.drop (posI l n), ltS y.1 n = false := fun y hy => by
  obtain ⟨k, h1, h2, rfl⟩ := mem_drop hy
  exact (pos_spec hs).2.2 k h1 h2
theorem drop_pos (hs : Srt l) (hh : hasI l n = true) : l.drop (posI l n) = l.getD (posI l n) d0 :: l.drop (posI l n + 1) ∧ (l.getD (posI l n) d0).1 = n ∧ ∀ y ∈ l.drop (posI l n + 1), ltS n y.1 = true := by
  obtain ⟨h1, h2⟩ := pos_has hs hh
  refine ⟨?_, h2, fun y hy => ?_⟩
  · rw [List.drop_eq_getElem_cons h1, List.getD_eq_getElem?_getD, List.getElem?_eq_getElem h1]; rfl
  · obtain ⟨k, k1, k2, rfl⟩ := mem_drop hy
    have := hs (posI l n) k (by omega) k2
    rwa [h2] at this
theorem erase_without (hs : Srt l) (hh : hasI l n = true) : l.eraseIdx (posI l n) = withoutI l n := by
  obtain ⟨h1, h2, h3⟩ := drop_pos hs hh
  unfold withoutI
  conv => rhs; rw [← List.take_append_drop (posI l n) l]
  rw [List.filter_append, filter_all (fun y hy => by have := split_lo (n := n) hs y hy; simp [ltS_ne this]), h1, List.filter_cons, h2]
  rw [List.eraseIdx_eq_take_drop_succ]
  simp only [decide_true, Bool.not_true, Bool.false_eq_true, if_false]
  rw [filter_all fun y hy => by have := ltS_ne (h3 y hy); simp [Ne.symm this]]
theorem without_no (hh : hasI l n = false) : withoutI l n = l := by
  unfold withoutI
  refine filter_all fun y hy => ?_
  have : ¬ y.1 = n := fun e => by
    have : hasI l n = true := List.any_eq_true.2 ⟨y, hy, decide_eq_true e⟩
    rw [hh] at this; cases this
  simp [this]
theorem set_with {x : At} (hs : Srt l) : setI l x = withI l x := by
  unfold setI withI
  cases hh : hasI l x.1
  · rw [if_neg (by decide), without_no hh]
    obtain ⟨e1, e2⟩ := takeWhile_all (p := fun y : At => ltS y.1 x.1) (split_lo (n := x.1) hs) (b := l.drop (posI l x.1)) fun y hy => split_hi hs y (List.mem_of_mem_head? (by rw [hy]; rfl))
    rw [List.take_append_drop] at e1 e2
    rw [e1, e2]
  · rw [if_pos rfl, ← erase_without hs hh]
    obtain ⟨h1, h2, h3⟩ := drop_pos hs hh
    rw [List.eraseIdx_eq_take_drop_succ]
    obtain ⟨e1, e2⟩ := takeWhile_all (p := fun y : At => ltS y.1 x.1) (split_lo (n := x.1) hs) (b := l.drop (posI l x.1 + 1)) fun y hy => ltS_asymm (h3 y (List.mem_of_mem_head? (by rw [hy]; rfl)))
    rw [e1, e2]
    exact set_cut x (pos_has hs hh).1
end
end Go.Proofs.Ytncnmjepifbclaa.At
