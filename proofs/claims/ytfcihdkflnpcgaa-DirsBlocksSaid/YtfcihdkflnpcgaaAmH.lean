/- The abstract machine: contents that are lists. No program is named. -/
import Derived.Test.YtfcihdkflnpcgaaAmG
namespace Go.Proofs.Ytfcihdkflnpcgaa.Am
open Go.RowKit Lw

/-- A list, each element laid in a row by f. -/
def listC {α : Type} (f : α → Nat → DC) (d : α) (l : List α) : Ct := ⟨l.length, fun i j => f (l.getD i d) j⟩
def byteR (b : UInt8) (_ : Nat) : DC := .c (.int .u8 b.toNat)
def bytesC (l : List UInt8) : Ct := listC byteR 0 l
def LeDC (sz : Nat) (a b : Ct) : Prop := LeD sz a.n a.cell b.n b.cell
theorem LeDC.refl (sz : Nat) (a : Ct) : LeDC sz a a := LeD.refl
theorem LeDC.trans {sz : Nat} {a b c : Ct} (h : LeDC sz a b) (k : LeDC sz b c) : LeDC sz a c :=
  ⟨h.en.trans k.en, fun i j hi hj => (h.ec i j hi hj).trans (k.ec i j (by rw [← h.en]; exact hi) hj)⟩
theorem LeDC.of_eq {sz : Nat} {a b : Ct} (h : a = b) : LeDC sz a b := h ▸ LeDC.refl _ _
theorem LeDC.nil {sz : Nat} {a b : Ct} (ha : a.n = 0) (hb : b.n = 0) : LeDC sz a b := ⟨ha.trans hb.symm, fun i j hi => by rw [ha] at hi; exact absurd hi (Nat.not_lt_zero i)⟩
theorem LeDC.app {sz : Nat} {a b a' b' : Ct} (h : LeDC sz a a') (k : LeDC sz b b') : LeDC sz (appC a b) (appC a' b') := by
  refine ⟨by simp only [appC]; rw [h.en, k.en], fun i j hi hj => ?_⟩
  simp only [appC] at hi ⊢
  rw [← h.en]
  by_cases hlt : i < a.n
  · rw [if_pos hlt, if_pos hlt]; exact h.ec i j hlt hj
  · rw [if_neg hlt, if_neg hlt]; exact k.ec _ j (by omega) hj
section
variable {α : Type} {f : α → Nat → DC} {d : α} {sz : Nat}
theorem getD_append_lt {l m : List α} {i : Nat} (h : i < l.length) : (l ++ m).getD i d = l.getD i d := by
  simp [List.getD_eq_getElem?_getD, List.getElem?_append_left h]
theorem getD_append_ge {l m : List α} {i : Nat} (h : l.length ≤ i) : (l ++ m).getD i d = m.getD (i - l.length) d := by
  simp [List.getD_eq_getElem?_getD, List.getElem?_append_right h]
theorem listC_app (l m : List α) : LeDC sz (appC (listC f d l) (listC f d m)) (listC f d (l ++ m)) := by
  refine ⟨by simp [appC, listC], fun i j hi hj => LeX.of_eq ?_⟩
  have hi : i < l.length + m.length := hi
  show (if i < l.length then f (l.getD i d) j else f (m.getD (i - l.length) d) j) = f ((l ++ m).getD i d) j
  by_cases h : i < l.length
  · rw [if_pos h, getD_append_lt h]
  · rw [if_neg h, getD_append_ge (by omega)]
theorem listC_oneX {row : List DC} (x : α) (h : ∀ j, j < sz → LeX (nthD row j) (f x j)) : LeDC sz (litC [row]) (listC f d [x]) := by
  refine ⟨rfl, fun i j hi hj => ?_⟩
  have hi : i < 1 := hi
  obtain rfl : i = 0 := by omega
  exact h j hj
theorem listC_one {row : List DC} (x : α) (h : ∀ j, j < sz → nthD row j = f x j) : LeDC sz (litC [row]) (listC f d [x]) := listC_oneX x fun j hj => LeX.of_eq (h j hj)
theorem listC_snocX {row : List DC} {l l' : List α} (x : α) (hl : l' = l ++ [x]) (h : ∀ j, j < sz → LeX (nthD row j) (f x j)) : LeDC sz (appC (listC f d l) (litC [row])) (listC f d l') := by
  subst hl
  exact (LeDC.app (LeDC.refl _ _) (listC_oneX x h)).trans (listC_app _ _)
theorem listC_snoc {row : List DC} {l l' : List α} (x : α) (hl : l' = l ++ [x]) (h : ∀ j, j < sz → nthD row j = f x j) : LeDC sz (appC (listC f d l) (litC [row])) (listC f d l') := listC_snocX x hl fun j hj => LeX.of_eq (h j hj)
theorem listC_first {row : List DC} {l' : List α} (x : α) (hl : l' = [x]) (h : ∀ j, j < sz → nthD row j = f x j) : LeDC sz (appC nilC (litC [row])) (listC f d l') := by
  subst hl
  have : LeDC sz nilC (listC f d []) := LeDC.nil rfl rfl
  exact (LeDC.app this (listC_one x h)).trans (listC_app [] [x])
theorem nilC_app (c : Ct) : LeDC sz (appC nilC c) c := by
  refine ⟨by simp [appC, nilC], fun i j hi hj => LeX.of_eq ?_⟩
  simp [appC, nilC]
/-- Contents that say more, element by element. -/
theorem listC_le {α β : Type} {f : α → Nat → DC} {g : β → Nat → DC} {d : α} {e : β} {sz : Nat} {l : List α} {m : List β} (hn : l.length = m.length) (h : ∀ i j, i < l.length → j < sz → LeX (f (l.getD i d) j) (g (m.getD i e) j)) : LeDC sz (listC f d l) (listC g e m) := ⟨hn, h⟩
end
theorem strC_eq (s : ByteArray) : strC s = bytesC s.data.toList := rfl
theorem byte_nth {z : Int} {b : UInt8} (h : z = b.toNat) : ∀ j, j < 1 → nthD [.c (.int .u8 z)] j = byteR b j := by
  intro j hj
  obtain rfl : j = 0 := by omega
  subst h; rfl
theorem ctBytes_bytesC (l : List UInt8) : ctBytes (bytesC l).n (bytesC l).cell = l := by
  unfold ctBytes bytesC listC byteR
  apply List.ext_getElem?
  intro i
  by_cases h : i < l.length
  · simp [h, dcByte]
  · simp [h]
theorem bytesC_ok (l : List UInt8) : ∀ i, i < (bytesC l).n → ∃ b : UInt8, (bytesC l).cell i 0 = .c (.int .u8 b.toNat) := fun i _ => ⟨l.getD i 0, rfl⟩
theorem strnil_iff (s : ByteArray) : s = ByteArray.mk #[] ↔ s.size = 0 := by
  constructor
  · rintro rfl; rfl
  · intro h
    cases s with
    | mk d =>
      have : d = #[] := Array.eq_empty_of_size_eq_zero h
      rw [this]
theorem bytesC_n (l : List UInt8) : (bytesC l).n = l.length := rfl
theorem listC_n {α : Type} (f : α → Nat → DC) (d : α) (l : List α) : (listC f d l).n = l.length := rfl
theorem litC_n (l : List (List DC)) : (litC l).n = l.length := rfl
theorem appC_n (a b : Ct) : (appC a b).n = a.n + b.n := rfl
theorem nilC_n : nilC.n = 0 := rfl
theorem strC_n (s : ByteArray) : (strC s).n = s.size := rfl
theorem zeroC_n (n : Nat) (z : List Value) : (zeroC n z).n = n := rfl
theorem setC_n (c : Ct) (k o : Nat) (d : DC) : (setC c k o d).n = c.n := rfl
end Go.Proofs.Ytfcihdkflnpcgaa.Am
