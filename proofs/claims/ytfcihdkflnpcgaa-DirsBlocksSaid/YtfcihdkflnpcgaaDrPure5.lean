/- The directories as plain functions: blocks and back. No program is named. -/
import Derived.Test.YtfcihdkflnpcgaaDrPure4
namespace Go.Proofs.Ytfcihdkflnpcgaa.Dr
open At
theorem addI_ext (d : List (List UInt8)) (t b : List UInt8) : ∃ s r, addI (d ++ [t]) b = d ++ (t ++ s) :: r := by
  by_cases h : 96 < t.length + b.length
  · exact ⟨[], [b], by rw [addI_new h]; simp⟩
  · exact ⟨b, [], by rw [addI_last h]⟩
theorem pack_ext : ∀ (m : List De) (d : List (List UInt8)) (t : List UInt8), ∃ s r, m.foldl (fun b x => addI b (bytesE x)) (d ++ [t]) = d ++ (t ++ s) :: r
  | [], d, t => ⟨[], [], by simp⟩
  | x :: m, d, t => by
    rw [List.foldl_cons]
    by_cases h : 96 < t.length + (bytesE x).length
    · rw [addI_new h]
      obtain ⟨s, r, e⟩ := pack_ext m (d ++ [t]) (bytesE x)
      exact ⟨[], (bytesE x ++ s) :: r, by rw [e]; simp⟩
    · rw [addI_last h]
      obtain ⟨s, r, e⟩ := pack_ext m d (t ++ bytesE x)
      exact ⟨bytesE x ++ s, r, by rw [e]; simp⟩
theorem packI_take {l : List De} {q : Nat} {d : List (List UInt8)} {t : List UInt8} (h : packI (l.take q) = d ++ [t]) : ∃ s r, packI l = d ++ (t ++ s) :: r := by
  have : packI l = (l.drop q).foldl (fun b x => addI b (bytesE x)) (packI (l.take q)) := by rw [← packI_append, List.take_append_drop]
  rw [this, h]
  exact pack_ext _ _ _
/-- Not more than eight blocks. -/
theorem packI_cnt {l : List De} (h : ∀ x ∈ l, x.1.size ≤ 24) : packI l = [] ∧ l = [] ∨ ∃ d t c, packI l = d ++ [t] ∧ 3 * d.length + c ≤ l.length ∧ 1 ≤ c ∧ t.length ≤ 26 * c := by
  rw [← List.reverse_reverse l] at h ⊢
  generalize l.reverse = r at h ⊢
  induction r with
  | nil => exact .inl ⟨rfl, rfl⟩
  | cons x r ih =>
    rw [List.reverse_cons] at h ⊢
    have hx : (bytesE x).length ≤ 26 := by rw [bytesE_len]; have := h x (by simp); omega
    rw [packI_append]
    simp only [List.foldl_cons, List.foldl_nil, List.length_append, List.length_cons, List.length_nil]
    rcases ih fun y hy => h y (List.mem_append_left _ hy) with ⟨e, _⟩ | ⟨d, t, c, e, h1, h2, h3⟩
    · exact .inr ⟨[], bytesE x, 1, by rw [e, addI_nil]; rfl, by simp, Nat.le_refl _, by omega⟩
    · rw [e]
      by_cases h4 : 96 < t.length + (bytesE x).length
      · exact .inr ⟨d ++ [t], bytesE x, 1, addI_new h4, by rw [List.length_append, List.length_singleton]; omega, Nat.le_refl _, by omega⟩
      · exact .inr ⟨d, t ++ bytesE x, c + 1, addI_last h4, by omega, by omega, by rw [List.length_append]; omega⟩
theorem packI_8 {l : List De} (h : checkE l = 0) : (packI l).length ≤ 8 := by
  have hl := (checkE_zero h).1
  rcases packI_cnt (names_of h) with ⟨e, _⟩ | ⟨d, t, c, e, h1, h2, h3⟩
  · rw [e]; decide
  · rw [e, List.length_append, List.length_singleton]; omega
theorem readI_append : ∀ (n : Nat) (a b : List UInt8) (la : List De), a.length ≤ n → readI a = some la → readI (a ++ b) = (readI b).map (la ++ ·)
  | _, [], b, la, _, h => by
    rw [readI_nil] at h
    cases h
    simp
  | 0, x :: a, _, _, hn, _ => by simp at hn
  | n + 1, x :: a, b, la, hn, h => by
    by_cases k : a.length < x.toNat % 128 + 1
    · rw [readI_no k] at h; cases h
    · rw [readI_yes k] at h
      have k2 : ¬ (a ++ b).length < x.toNat % 128 + 1 := by rw [List.length_append]; omega
      rw [List.cons_append, readI_yes k2]
      cases hr : readI (a.drop (x.toNat % 128 + 1)) with
      | none => rw [hr] at h; cases h
      | some lr =>
        rw [hr] at h
        cases h
        rw [List.drop_append_of_le_length (by omega), readI_append n _ b lr (by rw [List.length_drop]; simp only [List.length_cons] at hn; omega) hr, Option.map_map]
        have e : entB x (a ++ b) = entB x a := by
          unfold entB
          rw [List.take_append_of_le_length (by omega), List.getD_eq_getElem?_getD, List.getD_eq_getElem?_getD, List.getElem?_append_left (by omega)]
        rw [e]
        congr 1
theorem readI_entry {x : De} (h : aloneE x = 0) : readI (bytesE x) = some [x] := by
  obtain ⟨h0, h1, h2, h3, h4, h5, h6⟩ := aloneE_zero h
  have hs : x.1.data.toList.length = x.1.size := rfl
  have hb := headB_toNat h2
  have hm : (headB x).toNat % 128 = x.1.size := by rw [hb]; split <;> omega
  unfold bytesE
  rw [readI_yes (by rw [hm]; simp only [List.length_append, List.length_singleton, hs]; omega), hm, List.drop_of_length_le (by simp only [List.length_append, List.length_singleton, hs]; omega), readI_nil]
  have e : entB (headB x) (x.1.data.toList ++ [UInt8.ofNat x.2.2.toNat]) = x := by
    unfold entB
    rw [hm]
    refine Prod.ext ?_ (Prod.ext ?_ ?_)
    · refine str_ext ?_
      show (List.take x.1.size (x.1.data.toList ++ [UInt8.ofNat x.2.2.toNat])) = _
      rw [List.take_append_of_le_length (by rw [hs]; exact Nat.le_refl _), List.take_of_length_le (by rw [hs]; exact Nat.le_refl _)]
    · show decide (128 ≤ (headB x).toNat) = x.2.1
      rw [hb]
      cases hw : x.2.1
      · simp; omega
      · simp
    · show (((x.1.data.toList ++ [UInt8.ofNat x.2.2.toNat]).getD x.1.size 0).toNat : Int) = x.2.2
      rw [List.getD_eq_getElem?_getD, List.getElem?_append_right (by rw [hs]; exact Nat.le_refl _), hs, Nat.sub_self]
      simp; omega
  rw [e]; rfl
theorem readsI_append : ∀ (a b : List (List UInt8)) (la : List De), readsI a = some la → readsI (a ++ b) = (readsI b).map (la ++ ·)
  | [], b, la, h => by
    rw [readsI] at h
    cases h
    simp
  | x :: a, b, la, h => by
    rw [readsI] at h
    rw [List.cons_append, readsI]
    cases hx : readI x with
    | none => rw [hx] at h; cases h
    | some lx =>
      rw [hx] at h
      dsimp only at h ⊢
      cases ha : readsI a with
      | none => rw [ha] at h; cases h
      | some lr =>
        rw [ha] at h
        cases h
        rw [readsI_append a b lr ha, Option.map_map]
        congr 1
        funext z
        simp
theorem readsI_one (t : List UInt8) : readsI [t] = readI t := by
  rw [readsI]
  cases readI t with
  | none => rfl
  | some l => simp [readsI]
theorem reads_pack {l : List De} (h : ∀ x ∈ l, aloneE x = 0) : ∃ d t ld lt, (packI l = [] ∧ l = []) ∨ (packI l = d ++ [t] ∧ readsI d = some ld ∧ readI t = some lt ∧ ld ++ lt = l) := by
  rw [← List.reverse_reverse l] at h ⊢
  generalize l.reverse = r at h ⊢
  induction r with
  | nil => exact ⟨[], [], [], [], .inl ⟨rfl, rfl⟩⟩
  | cons x r ih =>
    rw [List.reverse_cons] at h ⊢
    have hx := readI_entry (h x (by simp))
    rw [packI_append]
    simp only [List.foldl_cons, List.foldl_nil]
    obtain ⟨d, t, ld, lt, ⟨e, e2⟩ | ⟨e, h1, h2, h3⟩⟩ := ih fun y hy => h y (List.mem_append_left _ hy)
    · exact ⟨[], bytesE x, [], [x], .inr ⟨by rw [e, addI_nil]; rfl, rfl, hx, by rw [e2]⟩⟩
    · rw [e]
      by_cases h4 : 96 < t.length + (bytesE x).length
      · refine ⟨d ++ [t], bytesE x, ld ++ lt, [x], .inr ⟨addI_new h4, ?_, hx, by rw [h3]⟩⟩
        rw [readsI_append d [t] ld h1, readsI_one, h2]; rfl
      · refine ⟨d, t ++ bytesE x, ld, lt ++ [x], .inr ⟨addI_last h4, h1, ?_, by rw [← h3]; simp⟩⟩
        rw [readI_append _ t (bytesE x) lt (Nat.le_refl _) h2, hx]; rfl
theorem unpack_pack {l : List De} (h : checkE l = 0) : packR l = (packI l, 0) ∧ unpackR (packI l) = (l, 0) := by
  have h1 : packR l = (packI l, 0) := by unfold packR; rw [if_neg (by simp [h])]
  refine ⟨h1, ?_⟩
  have hr : readsI (packI l) = some l := by
    obtain ⟨d, t, ld, lt, ⟨e, e2⟩ | ⟨e, k1, k2, k3⟩⟩ := reads_pack (alonesE_iff.1 (checkE_zero h).2.1)
    · rw [e, e2]; rfl
    · rw [e, readsI_append d [t] ld k1, readsI_one, k2, ← k3]; rfl
  rw [unpackR_some (packI_8 h) hr, h1]
  rw [if_pos ⟨rfl, rfl⟩]
theorem pack_unpack {b : List (List UInt8)} {m : List De} (h : unpackR b = (m, 0)) : packR m = (b, 0) := by
  unfold unpackR at h
  split at h
  · cases h
  · split at h
    · cases h
    · split at h
      · rename_i h1; cases h; exact Prod.ext h1.2 h1.1
      · cases h
theorem pack_bd {l : List De} {A : List (List UInt8)} (h : packR l = (A, 0)) : checkE l = 0 ∧ A = packI l ∧ A.length ≤ 8 ∧ ∀ b ∈ A, b.length ≤ 96 := by
  have hc := packR_cases l
  rw [h] at hc
  obtain ⟨h1, h2⟩ := hc.1 rfl
  have h2 : A = packI l := h2
  subst h2
  exact ⟨h1, rfl, packI_8 h1, (packI_bd (names_of h1)).2.1⟩
theorem readI_sizes' : ∀ (n : Nat) (a : List UInt8) (la : List De), a.length ≤ n → readI a = some la → la.length ≤ a.length ∧ ∀ x ∈ la, x.1.size ≤ 127
  | _, [], la, _, h => by
    rw [readI_nil] at h
    cases h
    simp
  | 0, x :: a, _, hn, _ => by simp at hn
  | n + 1, x :: a, la, hn, h => by
    by_cases k : a.length < x.toNat % 128 + 1
    · rw [readI_no k] at h; cases h
    · rw [readI_yes k] at h
      cases hr : readI (a.drop (x.toNat % 128 + 1)) with
      | none => rw [hr] at h; cases h
      | some lr =>
        rw [hr] at h
        cases h
        obtain ⟨h1, h2⟩ := readI_sizes' n _ lr (by rw [List.length_drop]; simp only [List.length_cons] at hn; omega) hr
        rw [List.length_drop] at h1
        refine ⟨by simp only [List.length_cons]; omega, fun y hy => ?_⟩
        rcases List.mem_cons.1 hy with rfl | hy
        · exact entB_size x a
        · exact h2 y hy
theorem readI_sizes {a : List UInt8} {la : List De} (h : readI a = some la) : la.length ≤ a.length ∧ ∀ x ∈ la, x.1.size ≤ 127 := readI_sizes' _ a la (Nat.le_refl _) h
theorem touchI_self (a : List (List UInt8)) : touchI a a a.length = [] := by
  unfold touchI
  rw [List.filter_eq_nil_iff]
  intro i hi
  have : i < a.length := List.mem_range.1 hi
  simp; omega
theorem touchI_snoc (a b : List (List UInt8)) (n : Nat) : touchI a b (n + 1) = if a.length ≤ n ∨ a.getD n [] ≠ b.getD n [] then touchI a b n ++ [n] else touchI a b n := by
  unfold touchI
  rw [List.range_succ, List.filter_append, List.filter_cons, List.filter_nil]
  by_cases h1 : a.length ≤ n
  · simp [h1]
  · by_cases h2 : a.getD n [] = b.getD n []
    · rw [if_neg (by simp [h1]; simpa using h2), if_neg (by simp [h1]; simpa using h2)]; simp
    · rw [if_pos (by simp [h1]; simpa using h2), if_pos (.inr h2)]
theorem touchI_len (a b : List (List UInt8)) (n : Nat) : (touchI a b n).length ≤ n := by
  unfold touchI; exact Nat.le_trans (List.length_filter_le _ _) (by simp)
theorem touch_self {l : List De} (h : checkE l = 0) : touchR l l = ([], 0) := by
  unfold touchR
  rw [(unpack_pack h).1]
  dsimp only
  rw [if_neg (by simp), if_neg (by simp), touchI_self]
/-- What lies before the same beginning is not touched. -/
theorem touch_from {l m : List De} {p : Nat} {d : List (List UInt8)} {t : List UInt8} (hm : m.take p = l.take p) (h : packI (l.take p) = d ++ [t]) (n i : Nat) (hi : i ∈ touchI (packI l) (packI m) n) : d.length ≤ i := by
  obtain ⟨s, r, e⟩ := packI_take h
  obtain ⟨s', r', e'⟩ := packI_take (hm ▸ h)
  rcases Nat.lt_or_ge i d.length with h1 | h1
  · exfalso
    unfold touchI at hi
    have h2 := (List.mem_filter.1 hi).2
    rw [e, e', List.getD_eq_getElem?_getD, List.getD_eq_getElem?_getD, List.getElem?_append_left h1, List.getElem?_append_left h1] at h2
    simp at h2
    omega
  · exact h1
theorem take_ins {l : List De} {x : De} (hs : Srt l) : (insI l x).take (posI l x.1) = l.take (posI l x.1) := by
  have hp := (pos_spec (n := x.1) hs).1
  unfold insI
  rw [List.take_append_of_le_length (by rw [List.length_take]; omega), List.take_take, Nat.min_self]
theorem take_erase {l : List De} (p : Nat) : (l.eraseIdx p).take p = l.take p := by
  rcases Nat.lt_or_ge p l.length with h | h
  · rw [List.eraseIdx_eq_take_drop_succ, List.take_append_of_le_length (by rw [List.length_take]; omega), List.take_take, Nat.min_self]
  · rw [List.eraseIdx_of_length_le h]
end Go.Proofs.Ytfcihdkflnpcgaa.Dr
