/- The attributes as plain functions: blocks read, what is spare by trying. No program is named. -/
import Derived.Test.YtncnmjepifbclaaAtPure6
namespace Go.Proofs.Ytncnmjepifbclaa.At
/-- The string at the beginning of bytes, behind its length. -/
def takeI : List UInt8 → Option (ByteArray × List UInt8)
  | [] => none
  | n :: r => if r.length < n.toNat then none else some (⟨(r.take n.toNat).toArray⟩, r.drop n.toNat)
def takeT (b : List UInt8) : ByteArray × List UInt8 := (takeI b).getD (⟨#[]⟩, [])
theorem takeI_len {b : List UInt8} {s : ByteArray} {r : List UInt8} (h : takeI b = some (s, r)) : 1 + s.size + r.length = b.length := by
  cases b with
  | nil => cases h
  | cons n b =>
    simp only [takeI] at h
    split at h
    · cases h
    · obtain ⟨rfl, rfl⟩ := Prod.mk.inj (Option.some.inj h)
      have : (ByteArray.mk (b.take n.toNat).toArray).size = (b.take n.toNat).length := by simp [ByteArray.size]
      rw [this, List.length_take, List.length_drop, List.length_cons]; omega
def readF : Nat → List UInt8 → Option (List At)
  | _, [] => some []
  | 0, _ :: _ => none
  | n + 1, b@(_ :: _) => match takeI b with
    | none => none
    | some (s, r) => match takeI r with
      | none => none
      | some (t, q) => (readF n q).map ((s, t) :: ·)
theorem readF_more : ∀ {n m : Nat} {b : List UInt8}, b.length ≤ n → n ≤ m → readF m b = readF n b
  | _, _, [], _, _ => by cases ‹Nat› <;> (rw [readF]; cases ‹Nat› <;> rw [readF])
  | 0, _, _ :: _, h, _ => by simp at h
  | n + 1, 0, _ :: _, _, h => by omega
  | n + 1, m + 1, x :: b, h, h2 => by
    rw [readF, readF]
    cases h3 : takeI (x :: b) with
    | none => rfl
    | some p =>
      obtain ⟨s, r⟩ := p
      dsimp only
      cases h4 : takeI r with
      | none => rfl
      | some p =>
        obtain ⟨t, q⟩ := p
        dsimp only
        have := takeI_len h3
        have := takeI_len h4
        rw [readF_more (n := n) (m := m) (b := q) (by omega) (by omega)]
def readI (b : List UInt8) : Option (List At) := readF b.length b
theorem readI_nil : readI [] = some [] := rfl
theorem readI_step {b : List UInt8} (hb : 0 < b.length) : readI b = match takeI b with
    | none => none
    | some (s, r) => match takeI r with
      | none => none
      | some (t, q) => (readI q).map ((s, t) :: ·) := by
  cases b with
  | nil => cases hb
  | cons x b =>
    unfold readI
    rw [List.length_cons, readF]
    cases h3 : takeI (x :: b) with
    | none => rfl
    | some p =>
      obtain ⟨s, r⟩ := p
      dsimp only
      cases h4 : takeI r with
      | none => rfl
      | some p =>
        obtain ⟨t, q⟩ := p
        dsimp only
        have := takeI_len h3
        have := takeI_len h4
        rw [List.length_cons] at *
        rw [readF_more (n := q.length) (m := b.length) (b := q) (Nat.le_refl _) (by omega)]
theorem takeI_row {s : ByteArray} {r : List UInt8} (hs : s.size < 256) : takeI (UInt8.ofNat s.size :: (s.data.toList ++ r)) = some (s, r) := by
  have h1 : (UInt8.ofNat s.size).toNat = s.size := by simp; omega
  have h2 : s.data.toList.length = s.size := rfl
  simp only [takeI]
  rw [h1, if_neg (by rw [List.length_append]; omega), List.take_left' h2, List.drop_left' h2]
theorem readI_bytes {l : List At} (h : ∀ y ∈ l, y.1.size < 256 ∧ y.2.size < 256) : readI (bytesI l) = some l := by
  induction l with
  | nil => rfl
  | cons x l ih =>
    obtain ⟨h1, h2⟩ := h x (List.mem_cons_self ..)
    have e : bytesI (x :: l) = UInt8.ofNat x.1.size :: (x.1.data.toList ++ (UInt8.ofNat x.2.size :: (x.2.data.toList ++ bytesI l))) := by
      simp [bytesI, rowB]
    rw [readI_step (by rw [e]; simp), e, takeI_row h1]
    dsimp only
    rw [takeI_row h2]
    dsimp only
    rw [ih fun y hy => h y (List.mem_cons_of_mem _ hy)]
    rfl
def unpackR (bl : List (List UInt8)) : List At × Int := if 3 < bl.length then ([], 3) else match readI bl.flatten with
  | none => ([], 6)
  | some out => if (packR out).2 = 0 ∧ (packR out).1 = bl then (out, 0) else ([], 6)
theorem aloneE_sz {y : At} (h : aloneE y = 0) : y.1.size < 256 ∧ y.2.size < 256 := by
  obtain ⟨h1, h2⟩ := aloneE_val.1 h
  refine ⟨?_, by omega⟩
  unfold keyE at h1
  split at h1
  · cases h1
  · split at h1
    · cases h1
    · omega
theorem blkN_flat (b : List UInt8) : ∀ k, (blkN b k).flatten = b.take (96 * k)
  | 0 => by simp [blkN]
  | k + 1 => by
    rw [blkN_snoc, List.flatten_append, blkN_flat b k]
    simp only [List.flatten_cons, List.flatten_nil, List.append_nil]
    rw [show 96 * (k + 1) = 96 * k + 96 by omega, List.take_add]
theorem blkI_flat (b : List UInt8) : (blkI b).flatten = b := by
  unfold blkI
  rw [blkN_flat, List.take_of_length_le (by omega)]
theorem unpack_pack {l : List At} (h : checkE l = 0) : packR l = (blkI (bytesI l), 0) ∧ unpackR (blkI (bytesI l)) = (l, 0) := by
  obtain ⟨k1, k2, k3⟩ := checkE_zero.1 h
  have hp : packR l = (blkI (bytesI l), 0) := by unfold packR; rw [if_neg (fun h' => h' h)]
  refine ⟨hp, ?_⟩
  have hl : (blkI (bytesI l)).length ≤ 3 := by
    unfold blkI
    rw [blkN_len, bytesI_len]
    have := of_decide_eq_false k3
    omega
  unfold unpackR
  rw [if_neg (by omega), blkI_flat, readI_bytes fun y hy => aloneE_sz (k1 y hy)]
  dsimp only
  rw [hp, if_pos ⟨rfl, rfl⟩]
theorem packR_cases (l : List At) : (packR l).2 = 0 ↔ checkE l = 0 := by
  unfold packR
  by_cases h : checkE l = 0
  · rw [if_neg (fun h' => h' h)]; simp [h]
  · rw [if_pos h]
theorem pack_unpack {bl : List (List UInt8)} (h : (unpackR bl).2 = 0) : packR (unpackR bl).1 = (bl, 0) := by
  unfold unpackR at h ⊢
  split at h
  · cases h
  · rename_i h1
    rw [if_neg h1]
    cases hr : readI bl.flatten with
    | none => rw [hr] at h; cases h
    | some out =>
      rw [hr] at h
      dsimp only at h ⊢
      split at h
      · rename_i h2
        rw [if_pos h2]
        exact Prod.ext h2.2 h2.1
      · cases h
theorem flat_len (b : List (List UInt8)) (h : ∀ x ∈ b, x.length ≤ 300) : b.flatten.length ≤ 300 * b.length := by
  induction b with
  | nil => simp
  | cons x b ih =>
    have h1 := h x (List.mem_cons_self ..)
    have h2 := ih fun y hy => h y (List.mem_cons_of_mem _ hy)
    rw [List.flatten_cons, List.length_append, List.length_cons]; omega
/-- The attributes whose names begin so. -/
def preB (s t : ByteArray) : Bool := decide (s.size ≤ t.size ∧ t.extract 0 s.size = s)
def underI (l : List At) (s : ByteArray) : List At := l.filter fun y => preB s y.1
def underR (l : List At) (s : ByteArray) : List At × Int := if checkE l ≠ 0 then ([], checkE l) else (underI l s, 0)
theorem underI_snoc {l : List At} {s : ByteArray} {q : Nat} (hq : q < l.length) : underI (l.take (q + 1)) s = underI (l.take q) s ++ (if preB s (l.getD q d0).1 then [l.getD q d0] else []) := by
  rw [take_snoc (d := d0) hq]
  unfold underI
  rw [List.filter_append]
  congr 1
  generalize l.getD q d0 = y
  cases h : preB s y.1
  · simp [h]
  · simp [h]
theorem underI_len (l : List At) (s : ByteArray) : (underI l s).length ≤ l.length := List.length_filter_le _ _
/-- The greatest length, when all are tried. -/
def xs (n : Nat) : ByteArray := ⟨(List.replicate n (120 : UInt8)).toArray⟩
theorem xs_size (n : Nat) : (xs n).size = n := by simp [xs, ByteArray.size]
def bestQ (l : List At) (s : ByteArray) : Nat → Int
  | 0 => -1
  | q + 1 => if fullB (withI l (s, xs q)) then bestQ l s q else q
theorem bestQ_law {l : List At} (hs : Srt l) (s : ByteArray) : ∀ q, bestQ l s q = if (setI l (s, ⟨#[]⟩)).length ≤ 6 ∧ sizeI (setI l (s, ⟨#[]⟩)) ≤ 288 ∧ 0 < q then min ((q : Int) - 1) (288 - (sizeI (setI l (s, ⟨#[]⟩)) : Int)) else -1
  | 0 => by rw [bestQ, if_neg (by omega)]
  | q + 1 => by
    have hv := fullB_val hs s (xs q)
    rw [xs_size, set_with hs (x := (s, xs q))] at hv
    rw [bestQ]
    cases hF : fullB (withI l (s, xs q))
    · obtain ⟨h1, h2⟩ := hv.1 hF
      rw [if_neg (by decide), if_pos ⟨h1, by omega, by omega⟩]; omega
    · rw [if_pos rfl, bestQ_law hs s q]
      have h3 : ¬ ((setI l (s, ⟨#[]⟩)).length ≤ 6 ∧ sizeI (setI l (s, ⟨#[]⟩)) + q ≤ 288) := fun h => by rw [hv.2 h] at hF; cases hF
      by_cases c1 : (setI l (s, ⟨#[]⟩)).length ≤ 6 ∧ sizeI (setI l (s, ⟨#[]⟩)) ≤ 288
      · rw [if_pos ⟨c1.1, c1.2, by omega⟩, if_pos ⟨c1.1, c1.2, by omega⟩]; omega
      · rw [if_neg (by omega), if_neg (by omega)]
theorem best_spare {l : List At} {s : ByteArray} (h0 : checkE l = 0) (hk : keyE s = 0) : spareR l s = if bestQ l s 201 < 0 then (0, 5) else (bestQ l s 201, 0) := by
  have hs := (checkE_zero.1 h0).2.1
  have hF := fullB_val hs s ⟨#[]⟩
  have hz : (ByteArray.mk #[]).size = 0 := rfl
  rw [hz, Nat.add_zero] at hF
  have hb := bestQ_law hs s 201
  unfold spareR
  rw [if_neg (fun h => h (orE_zero.2 ⟨h0, hk⟩))]
  by_cases c : (setI l (s, ⟨#[]⟩)).length ≤ 6 ∧ sizeI (setI l (s, ⟨#[]⟩)) ≤ 288
  · rw [if_pos ⟨c.1, c.2, by omega⟩] at hb
    rw [hF.2 c, if_neg (by decide), hb, if_neg (by omega)]
    congr 1; omega
  · rw [if_neg (by omega)] at hb
    have : fullB (setI l (s, ⟨#[]⟩)) = true := by
      cases h : fullB (setI l (s, ⟨#[]⟩))
      · exact absurd (hF.1 h) c
      · rfl
    rw [this, if_pos rfl, hb, if_pos (by omega)]
end Go.Proofs.Ytncnmjepifbclaa.At
