/- The directories as plain functions: what the calls return. No program is named. -/
import Derived.Test.YtfcihdkflnpcgaaDrPure
namespace Go.Proofs.Ytfcihdkflnpcgaa.Dr
open At
def findR (l : List De) (n : ByteArray) : Nat × Bool × Int := if orE [checkE l, nameE n] ≠ 0 then (0, false, orE [checkE l, nameE n]) else (posI l n, hasI l n, 0)
def insI (l : List De) (x : De) : List De := l.take (posI l x.1) ++ x :: l.drop (posI l x.1)
def putR (l : List De) (x : De) : List De × Int := if orE [checkE l, aloneE x] ≠ 0 then ([], orE [checkE l, aloneE x]) else if hasI l x.1 then ([], 8) else if l.length = 24 then ([], 5) else (insI l x, 0)
def dropR (l : List De) (n : ByteArray) : List De × De × Int := if (findR l n).2.2 ≠ 0 then ([], d0, (findR l n).2.2) else if hasI l n then (l.eraseIdx (posI l n), l.getD (posI l n) d0, 0) else ([], d0, 4)
def turnR (l : List De) (n : ByteArray) (x : De) : List De × Int := if orE [checkE l, nameE n, aloneE x] ≠ 0 then ([], orE [checkE l, nameE n, aloneE x]) else if (dropR l n).2.2 ≠ 0 then ([], (dropR l n).2.2) else putR (dropR l n).1 x
def headB (x : De) : UInt8 := if x.2.1 then UInt8.ofNat (x.1.size + 128) else UInt8.ofNat x.1.size
def bytesE (x : De) : List UInt8 := headB x :: (x.1.data.toList ++ [UInt8.ofNat x.2.2.toNat])
/-- Bytes are put into the last block, or a new one. -/
def addI (bl : List (List UInt8)) (b : List UInt8) : List (List UInt8) := if bl = [] ∨ 96 < (bl.getLastD []).length + b.length then bl ++ [b] else bl.dropLast ++ [bl.getLastD [] ++ b]
def packI (l : List De) : List (List UInt8) := l.foldl (fun b x => addI b (bytesE x)) []
def packR (l : List De) : List (List UInt8) × Int := if checkE l ≠ 0 then ([], checkE l) else (packI l, 0)
def readI : List UInt8 → Option (List De)
  | [] => some []
  | h :: r => if r.length < h.toNat % 128 + 1 then none else (readI (r.drop (h.toNat % 128 + 1))).map (((⟨(r.take (h.toNat % 128)).toArray⟩, decide (128 ≤ h.toNat), ((r.getD (h.toNat % 128) 0).toNat : Int)) : De) :: ·)
termination_by b => b.length
decreasing_by simp only [List.length_drop, List.length_cons]; omega
def readsI : List (List UInt8) → Option (List De)
  | [] => some []
  | b :: bs => match readI b with
    | none => none
    | some l => (readsI bs).map (l ++ ·)
def unpackR (bl : List (List UInt8)) : List De × Int := if 8 < bl.length then ([], 3) else match readsI bl with
  | none => ([], 6)
  | some out => if (packR out).2 = 0 ∧ (packR out).1 = bl then (out, 0) else ([], 6)
def touchI (a b : List (List UInt8)) (n : Nat) : List Nat := (List.range n).filter fun i => decide (a.length ≤ i) || !decide (a.getD i [] = b.getD i [])
def touchR (old now : List De) : List Nat × Int := if (packR old).2 ≠ 0 then ([], (packR old).2) else if (packR now).2 ≠ 0 then ([], (packR now).2) else (touchI (packR old).1 (packR now).1 (packR now).1.length, 0)
theorem checkE_zero {l : List De} (h : checkE l = 0) : l.length ≤ 24 ∧ alonesE l = 0 ∧ Srt l := by
  unfold checkE at h
  split at h
  · cases h
  · split at h
    · contradiction
    · split at h
      · cases h
      · split at h
        · cases h
        · rename_i h1 h2 h3 h4
          exact ⟨by omega, by simpa using h2, srt_of (by simpa using h3) (by simpa using h4)⟩
theorem checkE_iff {l : List De} : checkE l = 0 ↔ l.length ≤ 24 ∧ alonesE l = 0 ∧ Srt l := by
  refine ⟨checkE_zero, fun ⟨h1, h2, h3⟩ => ?_⟩
  obtain ⟨h4, h5⟩ := srt_iff.1 h3
  unfold checkE
  rw [if_neg (by omega), if_neg (by simp [h2]), if_neg (by simp [h4]), if_neg (by simp [h5])]
theorem alonesE_iff {l : List De} : alonesE l = 0 ↔ ∀ x ∈ l, aloneE x = 0 := by
  induction l with
  | nil => simp [alonesE]
  | cons x l ih =>
    rw [alonesE]
    constructor
    · intro h
      split at h
      · contradiction
      · rename_i h1
        intro y hy
        rcases List.mem_cons.1 hy with rfl | hy
        · simpa using h1
        · exact ih.1 h y hy
    · intro h
      rw [if_neg (by simpa using h x (List.mem_cons_self ..))]
      exact ih.2 fun y hy => h y (List.mem_cons_of_mem _ hy)
theorem orE2 {a b : Int} : orE [a, b] = if a ≠ 0 then a else b := by simp only [orE]; split <;> simp_all
theorem orE2_zero {a b : Int} : orE [a, b] = 0 ↔ a = 0 ∧ b = 0 := by rw [orE2]; split <;> simp_all
theorem orE3_zero {a b c : Int} : orE [a, b, c] = 0 ↔ a = 0 ∧ b = 0 ∧ c = 0 := by
  simp only [orE]; split
  · simp_all
  · split <;> simp_all
/-- What is taken out of a directory leaves one. -/
theorem srt_erase {l : List De} (hs : Srt l) (p : Nat) : Srt (l.eraseIdx p) := by
  intro i j hij hj
  rcases Nat.lt_or_ge p l.length with hp | hp
  · rw [List.length_eraseIdx_of_lt hp] at hj
    have e : ∀ k, (l.eraseIdx p).getD k d0 = l.getD (if k < p then k else k + 1) d0 := fun k => by
      rw [List.getD_eq_getElem?_getD, List.getD_eq_getElem?_getD, List.getElem?_eraseIdx]; split <;> rfl
    rw [e, e]
    exact hs _ _ (by split <;> split <;> omega) (by split <;> omega)
  · rw [List.eraseIdx_of_length_le hp] at hj ⊢; exact hs i j hij hj
theorem check_erase {l : List De} (h : checkE l = 0) (p : Nat) : checkE (l.eraseIdx p) = 0 := by
  obtain ⟨h1, h2, h3⟩ := checkE_zero h
  have h4 : (l.eraseIdx p).length ≤ l.length := (List.eraseIdx_sublist l p).length_le
  exact checkE_iff.2 ⟨by omega, alonesE_iff.2 fun x hx => alonesE_iff.1 h2 x ((List.eraseIdx_sublist l p).subset hx), srt_erase h3 p⟩
theorem dup_nodup {l : List De} : dupB l = false ↔ (l.map (·.1)).Nodup := by
  induction l with
  | nil => simp [dupB]
  | cons x l ih =>
    rw [dupB, Bool.or_eq_false_iff, ih, List.map_cons, List.nodup_cons]
    refine and_congr_left fun _ => ?_
    rw [List.any_eq_false]
    constructor
    · rintro h hm
      obtain ⟨y, hy, e⟩ := List.mem_map.1 hm
      exact h y hy (decide_eq_true e)
    · intro h y hy e
      exact h (List.mem_map.2 ⟨y, hy, of_decide_eq_true e⟩)
theorem find_at {l : List De} {n : ByteArray} {q : Nat} (hs : Srt l) (hq : q ≤ l.length) (h1 : ∀ i, i < q → ltS (l.getD i d0).1 n = true) (h2 : q < l.length → ltS (l.getD q d0).1 n = false) : posI l n = q ∧ (hasI l n = true ↔ q < l.length ∧ (l.getD q d0).1 = n) := by
  have h3 : ∀ i, q ≤ i → i < l.length → ltS (l.getD i d0).1 n = false := fun i a b => by
    rcases Nat.eq_or_lt_of_le a with e | e
    · subst e; exact h2 b
    · cases h : ltS (l.getD i d0).1 n
      · rfl
      · have := ltS_trans (hs q i e b) h
        rw [h2 (by omega)] at this; cases this
  exact ⟨posI_eq hq h1 h3, hasI_at h1 h3 hs⟩
theorem checkE_of {l : List De} (h1 : l.length ≤ 24) (h2 : alonesE l = 0) (h3 : dupB l = false) : checkE l = if !sortedB l then 6 else 0 := by
  unfold checkE; rw [if_neg (by omega), if_neg (by simp [h2]), if_neg (by simp [h3])]
theorem orE3 {a b c : Int} : orE [a, b, c] = if orE [a, b] ≠ 0 then orE [a, b] else c := by
  simp only [orE]; split
  · simp_all
  · split <;> simp_all
theorem turnR_eq {l : List De} {n : ByteArray} {x : De} : turnR l n x = if orE [checkE l, nameE n] ≠ 0 then ([], orE [checkE l, nameE n]) else if aloneE x ≠ 0 then ([], aloneE x) else if hasI l n then (if hasI (l.eraseIdx (posI l n)) x.1 then ([], 8) else (insI (l.eraseIdx (posI l n)) x, 0)) else ([], 4) := by
  unfold turnR dropR findR
  rw [orE3]
  by_cases h1 : orE [checkE l, nameE n] ≠ 0
  · simp only [if_pos h1]
  · simp only [if_neg h1]
    by_cases h2 : aloneE x ≠ 0
    · simp only [if_pos h2]
    · simp only [if_neg h2, ne_eq, not_true_eq_false, if_false]
      cases hh : hasI l n
      · simp
      · have hc := (orE2_zero.1 (Decidable.not_not.1 h1)).1
        obtain ⟨c1, c2, c3⟩ := checkE_zero hc
        have hp := (pos_has c3 hh).1
        have hl := List.length_eraseIdx_of_lt hp
        have ho : orE [checkE (l.eraseIdx (posI l n)), aloneE x] = 0 := orE2_zero.2 ⟨check_erase hc _, Decidable.not_not.1 h2⟩
        simp only [if_true, not_true_eq_false, if_false]
        unfold putR
        rw [if_neg (by simp [ho]), if_neg (show ¬ (l.eraseIdx (posI l n)).length = 24 by omega)]
end Go.Proofs.Ytfcihdkflnpcgaa.Dr
