/- The record encoding as plain functions on lists of bytes. No program is named. -/
import Derived.Test.YtlbgepgpihklfaaLib
namespace Go.Proofs.Ytlbgepgpihklfaa.Rec
abbrev Bs := List UInt8
abbrev RcT := UInt64 × ByteArray × List UInt32
def widthN (k : Nat) : Nat := if k = 98 then 1 else if k = 119 then 2 else if k = 100 then 4 else if k = 113 then 8 else 0
def lowI (n : Nat) : Nat → Bs
  | 0 => []
  | m + 1 => UInt8.ofNat n :: lowI (n / 256) m
theorem lowI_len (n m : Nat) : (lowI n m).length = m := by
  induction m generalizing n with
  | zero => rfl
  | succ m ih => simp [lowI, ih]
theorem lowI_snoc (n m : Nat) : lowI n (m + 1) = lowI n m ++ [UInt8.ofNat (n / 256 ^ m)] := by
  induction m generalizing n with
  | zero => simp [lowI]
  | succ m ih =>
    rw [lowI, ih (n / 256)]
    simp only [lowI, List.cons_append]
    rw [Nat.div_div_eq_div_mul, Nat.pow_succ, Nat.mul_comm 256]
def grpF : Nat → Nat → Bs
  | 0, _ => []
  | f + 1, n => if n < 128 then [UInt8.ofNat n] else UInt8.ofNat (n % 128 + 128) :: grpF f (n / 128)
def grpI (n : Nat) : Bs := grpF 10 n
theorem grpF_fuel (f n : Nat) (hf : 0 < f) (h : n < 128 ^ f) : grpF (f + 1) n = grpF f n := by
  induction f generalizing n with
  | zero => omega
  | succ f ih =>
    by_cases hn : n < 128
    · simp [grpF, hn]
    · have h2 : 0 < f := by
        rcases Nat.eq_zero_or_pos f with h0 | h0
        · subst h0; simp at h; omega
        · exact h0
      rw [grpF, if_neg hn, ih (n / 128) h2 (by rw [Nat.pow_succ] at h; exact Nat.div_lt_of_lt_mul (by omega))]
      rw [grpF, if_neg hn]
theorem grpF_len (f n : Nat) : (grpF f n).length ≤ f := by
  induction f generalizing n with
  | zero => simp [grpF]
  | succ f ih => rw [grpF]; split <;> simp [ih]
theorem grpI_len (n : Nat) : (grpI n).length ≤ 10 := grpF_len 10 n
theorem grpI_small (n : Nat) (h : n < 128) : grpI n = [UInt8.ofNat n] := by simp [grpI, grpF, h]
theorem grpI_big (n : Nat) (h : 128 ≤ n) (h2 : n < 18446744073709551616) : grpI n = UInt8.ofNat (n % 128 + 128) :: grpI (n / 128) := by
  have : grpF 10 (n / 128) = grpF 9 (n / 128) := grpF_fuel 9 (n / 128) (by omega) (by rw [show (128 : Nat) ^ 9 = 9223372036854775808 by decide]; omega)
  unfold grpI
  rw [this, grpF, if_neg (by omega)]
theorem grpI_pos (n : Nat) : 0 < (grpI n).length := by
  unfold grpI; rw [grpF]; split <;> simp
/-- The bytes of a list of numbers. -/
def listI (l : List UInt32) : Bs := l.flatMap fun n => lowI n.toNat 4
theorem listI_len (l : List UInt32) : (listI l).length = 4 * l.length := by
  induction l with
  | nil => rfl
  | cons a l ih => simp [listI, lowI_len] at *; omega
theorem listI_snoc (l : List UInt32) (k : Nat) (h : k < l.length) : listI (l.take (k + 1)) = listI (l.take k) ++ lowI l[k].toNat 4 := by
  unfold listI; rw [List.take_succ_eq_append_getElem h, List.flatMap_append]; rfl
/-- The error and the bytes of one value. -/
def valI (k : Nat) (x : RcT) : Int × Bs :=
  if (k ≠ 115 ∧ 0 < x.2.1.size) ∨ (k ≠ 108 ∧ 0 < x.2.2.length) ∨ ((k = 115 ∨ k = 108) ∧ 0 < x.1.toNat) then (2, [])
  else if 0 < widthN k ∧ widthN k < 8 ∧ 256 ^ widthN k ≤ x.1.toNat then (7, [])
  else if 400 < x.2.1.size ∨ 60 < x.2.2.length then (3, [])
  else if k = 118 then (0, grpI x.1.toNat)
  else if k = 115 then (0, grpI x.2.1.size ++ x.2.1.data.toList)
  else if k = 108 then (0, grpI x.2.2.length ++ listI x.2.2)
  else (0, lowI x.1.toNat (widthN k))
theorem valI_v (x : RcT) : valI 118 x = if 0 < x.2.1.size ∨ 0 < x.2.2.length then (2, []) else (0, grpI x.1.toNat) := by
  unfold valI
  by_cases h : 0 < x.2.1.size ∨ 0 < x.2.2.length
  · rw [if_pos h, if_pos (by rcases h with h | h <;> simp [h])]
  · rw [if_neg h, if_neg (by omega), if_neg (by simp [widthN]), if_neg (by omega), if_pos rfl]
theorem valI_s (x : RcT) : valI 115 x = if 0 < x.1.toNat ∨ 0 < x.2.2.length then (2, []) else if 400 < x.2.1.size then (3, []) else (0, grpI x.2.1.size ++ x.2.1.data.toList) := by
  unfold valI
  by_cases h : 0 < x.1.toNat ∨ 0 < x.2.2.length
  · rw [if_pos h, if_pos (by rcases h with h | h <;> simp [h])]
  · rw [if_neg h, if_neg (by omega), if_neg (by simp [widthN])]
    by_cases h2 : 400 < x.2.1.size
    · rw [if_pos h2, if_pos (Or.inl h2)]
    · rw [if_neg h2, if_neg (by omega), if_neg (by decide), if_pos rfl]
theorem valI_l (x : RcT) : valI 108 x = if 0 < x.1.toNat ∨ 0 < x.2.1.size then (2, []) else if 60 < x.2.2.length then (3, []) else (0, grpI x.2.2.length ++ listI x.2.2) := by
  unfold valI
  by_cases h : 0 < x.1.toNat ∨ 0 < x.2.1.size
  · rw [if_pos h, if_pos (by rcases h with h | h <;> simp [h])]
  · rw [if_neg h, if_neg (by omega), if_neg (by simp [widthN])]
    by_cases h2 : 60 < x.2.2.length
    · rw [if_pos h2, if_pos (Or.inr h2)]
    · rw [if_neg h2, if_neg (by omega), if_neg (by decide), if_neg (by decide), if_pos rfl]
theorem valI_n (k wd : Nat) (x : RcT) (hw : widthN k = wd) (h0 : 0 < wd) : valI k x = if 0 < x.2.1.size ∨ 0 < x.2.2.length then (2, []) else if wd < 8 ∧ 256 ^ wd ≤ x.1.toNat then (7, []) else (0, lowI x.1.toNat wd) := by
  subst hw
  have hk : k ≠ 115 ∧ k ≠ 108 ∧ k ≠ 118 := by refine ⟨?_, ?_, ?_⟩ <;> (rintro rfl; simp [widthN] at h0)
  obtain ⟨h1, h2, h3⟩ := hk
  unfold valI
  by_cases h : 0 < x.2.1.size ∨ 0 < x.2.2.length
  · rw [if_pos h, if_pos (by rcases h with h | h <;> simp [h, h1, h2])]
  · rw [if_neg h, if_neg (by simp only [h1, h2, or_false, false_and]; omega)]
    by_cases h4 : widthN k < 8 ∧ 256 ^ widthN k ≤ x.1.toNat
    · rw [if_pos h4, if_pos ⟨h0, h4⟩]
    · rw [if_neg h4, if_neg (fun h => h4 h.2), if_neg (by omega), if_neg h3, if_neg h1, if_neg h2]
theorem sz_nil {b : ByteArray} (h : b.toList = []) : b.size = 0 := by
  rw [ByteArray.toList_eq] at h
  have : b.data.toList.length = b.size := by cases b; rfl
  rw [← this, h]; rfl
theorem sz_pos {b : ByteArray} (h : b.toList.isEmpty = false) : 0 < b.size := by
  rw [ByteArray.toList_eq] at h
  have : b.data.toList.length = b.size := by cases b; rfl
  rw [← this]
  rcases hl : b.data.toList with _ | ⟨a, l⟩
  · rw [hl] at h; simp at h
  · simp
def okKind (k : Nat) : Bool := decide (k = 98 ∨ k = 119 ∨ k = 100 ∨ k = 113 ∨ k = 118 ∨ k = 115 ∨ k = 108)
def formI (s : Bs) : Int := if 64 < s.length then 3 else if s.all (fun k => okKind k.toNat) then 0 else 2
/-- The values of a form, one after the other; out: the bytes before. -/
def encL : Bs → List RcT → Bs → Int × Bs
  | k :: s, x :: l, out => if (valI k.toNat x).1 = 0 then encL s l (out ++ (valI k.toNat x).2) else ((valI k.toNat x).1, [])
  | _, _, out => if 4000 < out.length then (3, []) else (0, out)
def encI (s : Bs) (l : List RcT) : Int × Bs :=
  if formI s ≠ 0 then (formI s, []) else if l.length ≠ s.length then (2, []) else encL s l []
end Go.Proofs.Ytlbgepgpihklfaa.Rec
