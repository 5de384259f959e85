/- The attributes as plain functions. No program is named. -/
import Derived.Test.YtfcihdkflnpcgaaAmY
namespace Go.Proofs.Ytfcihdkflnpcgaa.At
/-- The order of strings. -/
def ltS (a b : ByteArray) : Bool := Op.bytesLess a.data.toList b.data.toList
theorem less_iff : ∀ (x y : List UInt8), Op.bytesLess x y = true ↔ x < y
  | _, [] => by rw [Op.bytesLess]; simp
  | [], b :: y => by simp [Op.bytesLess]
  | a :: x, b :: y => by rw [Op.bytesLess, List.cons_lt_cons_iff, Bool.or_eq_true, Bool.and_eq_true, less_iff x y]; simp
theorem ltS_iff {a b : ByteArray} : ltS a b = true ↔ a.data.toList < b.data.toList := less_iff _ _
theorem str_ext {a b : ByteArray} (h : a.data.toList = b.data.toList) : a = b := by
  cases a; cases b; congr; exact Array.toList_inj.1 h
theorem ltS_irrefl (a : ByteArray) : ltS a a = false := by
  cases h : ltS a a
  · rfl
  · exact absurd (ltS_iff.1 h) (List.lt_irrefl _)
theorem ltS_trans {a b c : ByteArray} (h : ltS a b = true) (k : ltS b c = true) : ltS a c = true := ltS_iff.2 (List.lt_trans (ltS_iff.1 h) (ltS_iff.1 k))
theorem ltS_asymm {a b : ByteArray} (h : ltS a b = true) : ltS b a = false := by
  cases k : ltS b a
  · rfl
  · have := ltS_trans h k; rw [ltS_irrefl] at this; cases this
theorem ltS_tri {a b : ByteArray} (h : ltS a b = false) (k : ltS b a = false) : a = b := by
  have h1 : ¬ a.data.toList < b.data.toList := fun h' => by rw [ltS_iff.2 h'] at h; cases h
  have h2 : ¬ b.data.toList < a.data.toList := fun h' => by rw [ltS_iff.2 h'] at k; cases k
  exact str_ext (List.le_antisymm (List.not_lt.1 h2) (List.not_lt.1 h1))
theorem ltS_ne {a b : ByteArray} (h : ltS a b = true) : a ≠ b := fun e => by rw [e, ltS_irrefl] at h; cases h
def cmpI (a b : ByteArray) : Int := if ltS a b then -1 else if a = b then 0 else 1
theorem cmpI_lt {a b : ByteArray} : cmpI a b < 0 ↔ ltS a b = true := by
  unfold cmpI; split
  · simp [*]
  · rename_i h; split <;> simp [h]
theorem cmpI_eq {a b : ByteArray} : cmpI a b = 0 ↔ a = b := by
  unfold cmpI; split
  · rename_i h; simp [ltS_ne h]
  · split <;> simp [*]
theorem cmpI_gt {a b : ByteArray} : cmpI a b = 1 ↔ ltS b a = true := by
  unfold cmpI; split
  · rename_i h; simp [ltS_asymm h]
  · split
    · rename_i h; simp [h, ltS_irrefl]
    · rename_i h1 h2
      simp only [true_iff]
      cases h : ltS b a
      · exact absurd (ltS_tri (by simpa using h1) h) h2
      · rfl

/-- An attribute: name and value. -/
abbrev At := ByteArray × ByteArray
abbrev d0 : At := (⟨#[]⟩, ⟨#[]⟩)
def badB (b : UInt8) : Bool := decide (b.toNat < 33 ∨ 126 < b.toNat)
def keyE (s : ByteArray) : Int := if s.size = 0 ∨ s.data.toList.any badB = true then 6 else if 40 < s.size then 3 else 0
def aloneE (x : At) : Int := if keyE x.1 ≠ 0 then keyE x.1 else if 200 < x.2.size then 3 else 0
def sizeI : List At → Nat
  | [] => 0
  | x :: l => (2 + x.1.size + x.2.size) + sizeI l
def alonesE : List At → Int
  | [] => 0
  | x :: l => if aloneE x ≠ 0 then aloneE x else alonesE l
def dupB : List At → Bool
  | [] => false
  | x :: l => l.any (fun y => decide (y.1 = x.1)) || dupB l
def sortedB : List At → Bool
  | [] => true
  | [_] => true
  | x :: y :: l => !ltS y.1 x.1 && sortedB (y :: l)
def fullB (l : List At) : Bool := decide (6 < l.length ∨ 288 < sizeI l)
def checkE (l : List At) : Int :=
  if 6 < l.length then 3 else if alonesE l ≠ 0 then alonesE l else if dupB l then 8 else if !sortedB l then 6 else if fullB l then 5 else 0
def getI (l : List At) (n : ByteArray) : Option ByteArray := (l.find? fun y => decide (y.1 = n)).map (·.2)
def withoutI (l : List At) (n : ByteArray) : List At := l.filter fun y => !decide (y.1 = n)
def withI (l : List At) (x : At) : List At := (withoutI l x.1).takeWhile (fun y => ltS y.1 x.1) ++ x :: (withoutI l x.1).dropWhile (fun y => ltS y.1 x.1)
/-- How many names come before a name. -/
def posI (l : List At) (n : ByteArray) : Nat := (l.takeWhile fun y => ltS y.1 n).length

theorem takeWhile_len {α : Type} {p : α → Bool} {d : α} : ∀ {l : List α} {i : Nat}, i ≤ l.length → (∀ k, k < i → p (l.getD k d) = true) → (∀ k, i ≤ k → k < l.length → p (l.getD k d) = false) → (l.takeWhile p).length = i
  | [], i, hi, _, _ => by simp at hi; simp [hi]
  | x :: l, 0, _, _, h => by
    have := h 0 (Nat.le_refl _) (Nat.succ_pos _)
    simp only [List.getD_cons_zero] at this
    simp [this]
  | x :: l, i + 1, hi, h1, h2 => by
    have := h1 0 (Nat.succ_pos _)
    simp only [List.getD_cons_zero] at this
    rw [List.takeWhile_cons, if_pos this, List.length_cons, takeWhile_len (d := d) (i := i) (Nat.le_of_succ_le_succ hi) (fun k hk => by have := h1 (k + 1) (by omega); simpa using this) fun k hk hk' => by have := h2 (k + 1) (by omega) (by rw [List.length_cons]; omega); simpa using this]
theorem posI_eq {l : List At} {n : ByteArray} {i : Nat} (hi : i ≤ l.length) (h1 : ∀ k, k < i → ltS (l.getD k d0).1 n = true) (h2 : ∀ k, i ≤ k → k < l.length → ltS (l.getD k d0).1 n = false) : posI l n = i := by
  unfold posI; exact takeWhile_len (d := d0) (p := fun y => ltS y.1 n) hi h1 h2
def orE : List Int → Int
  | [] => 0
  | e :: l => if e ≠ 0 then e else orE l
theorem orE_drop {l : List Int} {k : Nat} (hk : k < l.length) : orE (l.drop k) = if l.getD k 0 ≠ 0 then l.getD k 0 else orE (l.drop (k + 1)) := by
  rw [List.drop_eq_getElem_cons hk, orE, List.getD_eq_getElem?_getD, List.getElem?_eq_getElem hk]; rfl
/-- The bytes of an attribute, of a list. -/
def rowB (x : At) : List UInt8 := UInt8.ofNat x.1.size :: (x.1.data.toList ++ UInt8.ofNat x.2.size :: x.2.data.toList)
def bytesI (l : List At) : List UInt8 := l.flatMap rowB
theorem rowB_len (x : At) : (rowB x).length = 2 + x.1.size + x.2.size := by
  have h1 : x.1.data.toList.length = x.1.size := rfl
  have h2 : x.2.data.toList.length = x.2.size := rfl
  simp only [rowB, List.length_cons, List.length_append, h1, h2]; omega
theorem bytesI_len (l : List At) : (bytesI l).length = sizeI l := by
  induction l with
  | nil => rfl
  | cons x l ih => rw [bytesI, List.flatMap_cons, List.length_append, rowB_len, sizeI, ← ih]; rfl
theorem take_snoc {α : Type} {l : List α} {d : α} {q : Nat} (hq : q < l.length) : l.take (q + 1) = l.take q ++ [l.getD q d] := by
  rw [List.take_succ_eq_append_getElem hq, List.getD_eq_getElem?_getD, List.getElem?_eq_getElem hq]; rfl
theorem bytesI_snoc {l : List At} {q : Nat} (hq : q < l.length) : bytesI (l.take (q + 1)) = bytesI (l.take q) ++ rowB (l.getD q d0) := by
  rw [take_snoc (d := d0) hq, bytesI, List.flatMap_append]; simp [bytesI]
theorem sizeI_snoc {l : List At} {q : Nat} (hq : q < l.length) : sizeI (l.take (q + 1)) = sizeI (l.take q) + (2 + (l.getD q d0).1.size + (l.getD q d0).2.size) := by
  rw [← bytesI_len, ← bytesI_len, bytesI_snoc hq, List.length_append, rowB_len]
theorem sizeI_take (l : List At) (q : Nat) : sizeI (l.take q) ≤ sizeI l := by
  induction l generalizing q with
  | nil => simp
  | cons x l ih =>
    cases q with
    | zero => simp [sizeI]
    | succ q => simp only [List.take_succ_cons, sizeI]; have := ih q; omega
/-- Strictly sorted. -/
def Srt (l : List At) : Prop := ∀ i j, i < j → j < l.length → ltS (l.getD i d0).1 (l.getD j d0).1 = true
theorem mem_getD {l : List At} {y : At} (h : y ∈ l) : ∃ k, k < l.length ∧ l.getD k d0 = y := by
  obtain ⟨k, hk, e⟩ := List.getElem_of_mem h
  exact ⟨k, hk, by rw [List.getD_eq_getElem?_getD, List.getElem?_eq_getElem hk]; exact e⟩
theorem getD_mem {l : List At} {k : Nat} (h : k < l.length) : l.getD k d0 ∈ l := by
  rw [List.getD_eq_getElem?_getD, List.getElem?_eq_getElem h]; exact List.getElem_mem h
/-- A name is there exactly if it stands at its place. -/
def hasI (l : List At) (n : ByteArray) : Bool := l.any fun y => decide (y.1 = n)
theorem hasI_at {l : List At} {n : ByteArray} {i : Nat} (h1 : ∀ k, k < i → ltS (l.getD k d0).1 n = true) (h2 : ∀ k, i ≤ k → k < l.length → ltS (l.getD k d0).1 n = false) (hs : Srt l) : hasI l n = true ↔ i < l.length ∧ (l.getD i d0).1 = n := by
  unfold hasI
  rw [List.any_eq_true]
  constructor
  · rintro ⟨y, hy, e⟩
    have e := of_decide_eq_true e
    obtain ⟨k, hk, rfl⟩ := mem_getD hy
    rcases Nat.lt_trichotomy k i with h | h | h
    · have := h1 k h; rw [e, ltS_irrefl] at this; cases this
    · subst h; exact ⟨hk, e⟩
    · have a := hs i k h hk
      have b := h2 i (Nat.le_refl _) (by omega)
      rw [e, b] at a; cases a
  · rintro ⟨h, e⟩
    exact ⟨_, getD_mem h, by simpa using e⟩
end Go.Proofs.Ytfcihdkflnpcgaa.At
