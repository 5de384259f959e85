/- The attributes as plain functions: what is spare, the order of changes. No program is named. -/
import Derived.Test.YtncnmjepifbclaaAtPure5
namespace Go.Proofs.Ytncnmjepifbclaa.At
def rs (x : At) : Nat := 2 + x.1.size + x.2.size
theorem sizeI_setE {l : List At} {p : Nat} {x : At} (h : p < l.length) : sizeI (l.set p x) + rs (l.getD p d0) = sizeI l + rs x := by
  induction l generalizing p with
  | nil => cases h
  | cons y l ih =>
    cases p with
    | zero => simp only [List.set_cons_zero, sizeI, List.getD_cons_zero, rs]; omega
    | succ p =>
      have := ih (Nat.lt_of_succ_lt_succ h)
      simp only [List.set_cons_succ, sizeI, List.getD_cons_succ, rs] at this ⊢; omega
theorem size_val (l : List At) (hs : Srt l) (n v : ByteArray) : sizeI (setI l (n, v)) = sizeI (setI l (n, ⟨#[]⟩)) + v.size ∧ (setI l (n, v)).length = (setI l (n, ⟨#[]⟩)).length := by
  have hz : (ByteArray.mk #[]).size = 0 := rfl
  unfold setI
  cases hh : hasI l n
  · rw [if_neg (by decide), if_neg (by decide)]
    simp only [sizeI_app, sizeI, List.length_append, List.length_cons, hz]
    exact ⟨by omega, trivial⟩
  · rw [if_pos rfl, if_pos rfl]
    have hp := (pos_has hs hh).1
    have h1 := sizeI_setE (x := (n, v)) hp
    have h2 := sizeI_setE (x := (n, ⟨#[]⟩)) hp
    simp only [rs, hz] at h1 h2
    simp only [List.length_set]
    exact ⟨by omega, trivial⟩
theorem aloneE_val {n v : ByteArray} : aloneE (n, v) = 0 ↔ keyE n = 0 ∧ v.size ≤ 200 := by
  unfold aloneE
  by_cases h : keyE n = 0
  · rw [if_neg (fun h' => h' h)]
    by_cases h2 : 200 < v.size
    · rw [if_pos h2]; simp; omega
    · rw [if_neg h2]; simp [h]; omega
  · rw [if_pos h]; simp [h]
theorem fullB_val {l : List At} (hs : Srt l) (n v : ByteArray) : fullB (setI l (n, v)) = false ↔ (setI l (n, ⟨#[]⟩)).length ≤ 6 ∧ sizeI (setI l (n, ⟨#[]⟩)) + v.size ≤ 288 := by
  obtain ⟨h1, h2⟩ := size_val l hs n v
  unfold fullB
  rw [decide_eq_false_iff_not, h1, h2]
  omega
theorem setR_cases {l : List At} {x : At} (h0 : checkE l = 0) : ((setR l x).2 = 0 ↔ aloneE x = 0 ∧ fullB (setI l x) = false) ∧ ((setR l x).2 ≠ 0 → (setR l x).1 = []) := by
  unfold setR
  by_cases ha : aloneE x = 0
  · have hz := orE_zero.2 ⟨h0, ha⟩
    rw [if_neg (fun h => h hz), fitI_1, fitI_2]
    cases hF : fullB (setI l x)
    · simp [ha]
    · simp
  · have hz : orE [checkE l, aloneE x] ≠ 0 := fun h => ha (orE_zero.1 h).2
    rw [if_pos hz]
    simp [hz, ha]
/-- What Set of a value does, seen from Spare. -/
theorem spare_law {l : List At} {n v : ByteArray} (h0 : checkE l = 0) :
    ((spareR l n).2 ≠ 0 → (setR l (n, v)).2 ≠ 0 ∧ (setR l (n, v)).1 = []) ∧
    ((spareR l n).2 = 0 → 0 ≤ (spareR l n).1 ∧ (spareR l n).1 ≤ 200 ∧ ((setR l (n, v)).2 = 0 ↔ (v.size : Int) ≤ (spareR l n).1) ∧
      ((setR l (n, v)).2 = 0 → checkE (setR l (n, v)).1 = 0 ∧ sizeI (setR l (n, v)).1 ≤ 288 ∧ ((spareR l n).1 = 200 ∨ (sizeI (setR l (n, v)).1 : Int) + (spareR l n).1 - v.size = 288))) := by
  have hs := (checkE_zero.1 h0).2.1
  obtain ⟨c1, c2⟩ := setR_cases (x := (n, v)) h0
  have hz0 : (ByteArray.mk #[]).size = 0 := rfl
  have hF0 := fullB_val hs n ⟨#[]⟩
  have hFv := fullB_val hs n v
  rw [hz0] at hF0
  have hal := aloneE_val (n := n) (v := v)
  have hsp : spareR l n = if keyE n ≠ 0 then (0, keyE n) else if fullB (setI l (n, ⟨#[]⟩)) then (0, 5) else (min (288 - (sizeI (setI l (n, ⟨#[]⟩)) : Int)) 200, 0) := by
    unfold spareR
    have : orE [checkE l, keyE n] = keyE n := by
      rw [h0]; unfold orE; rw [if_neg (fun h => h rfl)]; unfold orE
      by_cases hk : keyE n = 0
      · rw [if_neg (fun h => h hk), hk]; rfl
      · rw [if_pos hk]
    rw [this]
  obtain ⟨S, hS⟩ : ∃ S, S = spareR l n := ⟨_, rfl⟩
  rw [← hS] at hsp ⊢
  by_cases hk : keyE n = 0
  · rw [if_neg (fun h => h hk)] at hsp
    cases hF : fullB (setI l (n, ⟨#[]⟩))
    · rw [hF, if_neg (by decide)] at hsp
      obtain ⟨f1, f2⟩ := hF0.1 hF
      rw [hsp]
      refine ⟨fun h => absurd rfl h, fun _ => ⟨by dsimp only; omega, by dsimp only; omega, ?_, fun hz => ?_⟩⟩
      · dsimp only
        rw [c1, hal, hFv]
        constructor
        · rintro ⟨⟨_, h1⟩, _, h2⟩; omega
        · intro h; exact ⟨⟨hk, by omega⟩, f1, by omega⟩
      · obtain ⟨e1, e2⟩ := c1.1 hz
        have hr : setR l (n, v) = ((setR l (n, v)).1, 0) := by rw [← hz]
        obtain ⟨_, _, g3, g4, g5⟩ := setR_ok hr
        have hsz := (size_val l hs n v).1
        rw [← g3] at hsz
        obtain ⟨_, f4⟩ := hFv.1 e2
        refine ⟨g5, by omega, ?_⟩
        dsimp only
        omega
    · rw [hF, if_pos rfl] at hsp
      rw [hsp]
      refine ⟨fun _ => ?_, fun h => by cases h⟩
      have hn : (setR l (n, v)).2 ≠ 0 := fun hz => by
        obtain ⟨_, e2⟩ := c1.1 hz
        obtain ⟨g1, g2⟩ := hFv.1 e2
        have := hF0.2 ⟨g1, by omega⟩
        rw [hF] at this; cases this
      exact ⟨hn, c2 hn⟩
  · rw [if_pos hk] at hsp
    rw [hsp]
    refine ⟨fun _ => ?_, fun h => absurd h hk⟩
    have hn : (setR l (n, v)).2 ≠ 0 := fun hz => hk (hal.1 (c1.1 hz).1).1
    exact ⟨hn, c2 hn⟩

def notIn (l : List At) (y : At) : Bool := !(l.any fun z => decide (z = y))
theorem notIn_iff {l : List At} {y : At} : notIn l y = true ↔ y ∉ l := by
  unfold notIn
  rw [Bool.not_eq_true', List.any_eq_false]
  constructor
  · intro h hy; exact h y hy (decide_eq_true rfl)
  · intro h z hz e; exact h (by rw [← of_decide_eq_true e]; exact hz)
/-- One that is left is set. -/
theorem order_step {l rest : List At} {k : Nat} (h0 : checkE l = 0) (hsub : rest.Sublist l) (hk : k < rest.length) :
    setR (l.filter fun y => notIn rest y) (rest.getD k d0) = (l.filter fun y => notIn (rest.eraseIdx k) y, 0) := by
  obtain ⟨k1, k2, k3⟩ := checkE_zero.1 h0
  have hx : rest.getD k d0 ∈ rest := getD_mem hk
  have hxl := hsub.subset hx
  have hd := check_sub (List.filter_sublist (p := fun y => notIn rest y) (l := l)) h0
  have hnd : rest.Nodup := by
    have : l.Nodup := (srt_pw.1 k2).imp fun h e => by rw [e, ltS_irrefl] at h; cases h
    exact this.sublist hsub
  have hset : setI (l.filter fun y => notIn rest y) (rest.getD k d0) = l.filter fun y => notIn (rest.eraseIdx k) y := by
    refine srt_ext (srt_set (srt_filter k2 _) _) (srt_filter k2 _) fun y => ?_
    rw [mem_set (srt_filter k2 _), List.mem_filter, List.mem_filter]
    have he : ∀ y, y ∈ rest.eraseIdx k ↔ y ∈ rest ∧ y ≠ rest.getD k d0 := by
      intro y
      rw [List.mem_eraseIdx_iff_getElem]
      constructor
      · rintro ⟨i, hi, hne, rfl⟩
        refine ⟨List.getElem_mem hi, fun e => hne ?_⟩
        rw [getD_lt hk] at e
        exact (List.getElem_inj hnd).1 e
      · rintro ⟨hy, hne⟩
        obtain ⟨i, hi, rfl⟩ := List.getElem_of_mem hy
        refine ⟨i, hi, fun e => hne ?_, rfl⟩
        subst e; rw [getD_lt hk]
    simp only [notIn_iff, he]
    constructor
    · rintro (rfl | ⟨⟨h1, h2⟩, h3⟩)
      · exact ⟨hxl, fun h => h.2 rfl⟩
      · exact ⟨h1, fun h => h2 h.1⟩
    · rintro ⟨h1, h2⟩
      by_cases e : y = rest.getD k d0
      · exact .inl e
      · refine .inr ⟨⟨h1, fun h => h2 ⟨h, e⟩⟩, fun e2 => e ?_⟩
        obtain ⟨i, hi, e3⟩ := mem_getD h1
        obtain ⟨j, hj, e4⟩ := mem_getD hxl
        have := srt_inj k2 hi hj (by rw [e3, e4]; exact e2)
        subst this
        rw [← e3, e4]
  have hF : fullB (setI (l.filter fun y => notIn rest y) (rest.getD k d0)) = false := by
    rw [hset]; exact fullB_sub (List.filter_sublist ..) k3
  unfold setR
  rw [if_neg (fun h => h (orE_zero.2 ⟨hd, k1 _ hxl⟩))]
  unfold fitI
  rw [hF, if_neg (by decide), hset]
theorem order_start (l : List At) : (l.filter fun y => notIn l y) = [] := by
  rw [List.filter_eq_nil_iff]
  intro y hy h
  exact notIn_iff.1 h hy
theorem order_end (l : List At) : (l.filter fun y => notIn [] y) = l := by
  rw [List.filter_eq_self]
  intro y _
  exact notIn_iff.2 (List.not_mem_nil)
/-- All of a list are set. -/
def mergeI (l m : List At) : List At := m.foldl setI l
def mergeR (l m : List At) : List At × Int := if orE [checkE l, checkE m] ≠ 0 then ([], orE [checkE l, checkE m]) else fitI (mergeI l m)
theorem mergeI_snoc {l m : List At} {q : Nat} (hq : q < m.length) : mergeI l (m.take (q + 1)) = setI (mergeI l (m.take q)) (m.getD q d0) := by
  rw [take_snoc (d := d0) hq]; unfold mergeI; rw [List.foldl_append]; rfl
end Go.Proofs.Ytncnmjepifbclaa.At
