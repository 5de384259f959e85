/- The attributes as plain functions: blocks. No program is named. -/
import Derived.Test.YtncnmjepifbclaaAtPure2
namespace Go.Proofs.Ytncnmjepifbclaa.At
/-- The first k blocks of bytes. -/
def blkN (b : List UInt8) (k : Nat) : List (List UInt8) := (List.range k).map fun i => (b.drop (96 * i)).take 96
def blkI (b : List UInt8) : List (List UInt8) := blkN b ((b.length + 95) / 96)
theorem blkN_snoc (b : List UInt8) (k : Nat) : blkN b (k + 1) = blkN b k ++ [(b.drop (96 * k)).take 96] := by simp [blkN, List.range_succ]
theorem blkN_len (b : List UInt8) (k : Nat) : (blkN b k).length = k := by simp [blkN]
def packR (l : List At) : List (List UInt8) × Int := if checkE l ≠ 0 then ([], checkE l) else (blkI (bytesI l), 0)
def getR (l : List At) (n : ByteArray) : ByteArray × Int := if checkE l ≠ 0 then (⟨#[]⟩, checkE l) else if hasI l n then ((l.getD (posI l n) d0).2, 0) else (⟨#[]⟩, 4)
/-- A list that fits, or that it is full. -/
def fitI (l : List At) : List At × Int := if fullB l then ([], 5) else (l, 0)
theorem fitI_1 (l : List At) : (fitI l).1 = if fullB l then [] else l := by unfold fitI; split <;> rfl
theorem fitI_2 (l : List At) : (fitI l).2 = if fullB l then 5 else 0 := by unfold fitI; split <;> rfl
def setR (l : List At) (x : At) : List At × Int := if orE [checkE l, aloneE x] ≠ 0 then ([], orE [checkE l, aloneE x]) else fitI (setI l x)
def delR (l : List At) (n : ByteArray) : List At × Int := if (getR l n).2 ≠ 0 then ([], (getR l n).2) else (l.eraseIdx (posI l n), 0)
def spareR (l : List At) (s : ByteArray) : Int × Int := if orE [checkE l, keyE s] ≠ 0 then (0, orE [checkE l, keyE s]) else if fullB (setI l (s, ⟨#[]⟩)) then (0, 5) else (min (288 - (sizeI (setI l (s, ⟨#[]⟩)) : Int)) 200, 0)
theorem srt_inj {l : List At} (hs : Srt l) {i j : Nat} (hi : i < l.length) (hj : j < l.length) (h : (l.getD i d0).1 = (l.getD j d0).1) : i = j := by
  rcases Nat.lt_trichotomy i j with c | c | c
  · have := hs i j c hj; rw [h, ltS_irrefl] at this; cases this
  · exact c
  · have := hs j i c hi; rw [h, ltS_irrefl] at this; cases this
theorem has_at {l : List At} {n : ByteArray} {q : Nat} (hs : Srt l) (hq : q < l.length) (h : (l.getD q d0).1 = n) : hasI l n = true ∧ posI l n = q := by
  have h1 : hasI l n = true := List.any_eq_true.2 ⟨_, getD_mem hq, by simpa using h⟩
  obtain ⟨h2, h3⟩ := pos_has hs h1
  exact ⟨h1, srt_inj hs h2 hq (by rw [h3, h])⟩
theorem has_no {l : List At} {n : ByteArray} (h : ∀ k, k < l.length → (l.getD k d0).1 ≠ n) : hasI l n = false := by
  cases h1 : hasI l n
  · rfl
  · obtain ⟨y, hy, e⟩ := List.any_eq_true.1 h1
    obtain ⟨k, hk, rfl⟩ := mem_getD hy
    exact absurd (of_decide_eq_true e) (h k hk)
end Go.Proofs.Ytncnmjepifbclaa.At
