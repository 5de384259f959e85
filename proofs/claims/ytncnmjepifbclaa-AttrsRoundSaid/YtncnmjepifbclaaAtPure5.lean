/- The attributes as plain functions: a checked list as a map. No program is named. -/
import Derived.Test.YtncnmjepifbclaaAtPure4
namespace Go.Proofs.Ytncnmjepifbclaa.At
theorem getD_lt {l : List At} {k : Nat} (h : k < l.length) : l.getD k d0 = l[k] := by
  rw [List.getD_eq_getElem?_getD, List.getElem?_eq_getElem h]; rfl
theorem srt_pw {l : List At} : Srt l ↔ l.Pairwise fun a b => ltS a.1 b.1 = true := by
  rw [List.pairwise_iff_getElem]
  constructor
  · intro h i j hi hj hij
    have := h i j hij hj
    rwa [getD_lt hi, getD_lt hj] at this
  · intro h i j hij hj
    rw [getD_lt (by omega), getD_lt hj]
    exact h i j (by omega) hj hij
theorem mem_with {l : List At} {x y : At} : y ∈ withI l x ↔ y = x ∨ (y ∈ l ∧ y.1 ≠ x.1) := by
  have h : y ∈ withoutI l x.1 ↔ y ∈ l ∧ y.1 ≠ x.1 := by unfold withoutI; rw [List.mem_filter]; simp
  unfold withI
  rw [← h, List.mem_append, List.mem_cons]
  conv => rhs; rw [← List.takeWhile_append_dropWhile (p := fun y => ltS y.1 x.1) (l := withoutI l x.1), List.mem_append]
  constructor
  · rintro (h | h | h)
    · exact .inr (.inl h)
    · exact .inl h
    · exact .inr (.inr h)
  · rintro (h | h | h)
    · exact .inr (.inl h)
    · exact .inl h
    · exact .inr (.inr h)
theorem mem_set {l : List At} (hs : Srt l) {x y : At} : y ∈ setI l x ↔ y = x ∨ (y ∈ l ∧ y.1 ≠ x.1) := by rw [set_with hs]; exact mem_with
theorem srt_set {l : List At} (hs : Srt l) (x : At) : Srt (setI l x) := by
  have hp := srt_pw.1 hs
  unfold setI
  cases hh : hasI l x.1
  · rw [if_neg (by decide)]
    refine srt_pw.2 (List.pairwise_append.2 ⟨hp.sublist (List.take_sublist ..), List.pairwise_cons.2 ⟨fun y hy => ?_, hp.sublist (List.drop_sublist ..)⟩, fun a ha b hb => ?_⟩)
    · have h1 := split_hi (n := x.1) hs y hy
      cases h2 : ltS x.1 y.1
      · have := ltS_tri h1 h2
        have : hasI l x.1 = true := List.any_eq_true.2 ⟨y, List.mem_of_mem_drop hy, decide_eq_true this⟩
        rw [hh] at this; cases this
      · rfl
    · have h1 := split_lo (n := x.1) hs a ha
      rcases List.mem_cons.1 hb with rfl | hb
      · exact h1
      · have h2 := split_hi (n := x.1) hs b hb
        cases h3 : ltS a.1 b.1
        · cases h4 : ltS b.1 a.1
          · rw [ltS_tri h3 h4] at h1; rw [h1] at h2; cases h2
          · rw [ltS_trans h4 h1] at h2; cases h2
        · rfl
  · rw [if_pos rfl]
    obtain ⟨h1, h2, h3⟩ := drop_pos hs hh
    rw [set_cut x (pos_has hs hh).1]
    refine srt_pw.2 (List.pairwise_append.2 ⟨hp.sublist (List.take_sublist ..), List.pairwise_cons.2 ⟨h3, hp.sublist (List.drop_sublist ..)⟩, fun a ha b hb => ?_⟩)
    have h4 := split_lo (n := x.1) hs a ha
    rcases List.mem_cons.1 hb with rfl | hb
    · exact h4
    · exact ltS_trans h4 (h3 b hb)
theorem srt_filter {l : List At} (hs : Srt l) (p : At → Bool) : Srt (l.filter p) := srt_pw.2 ((srt_pw.1 hs).sublist (List.filter_sublist ..))
/-- Sorted lists of the same attributes are one. -/
theorem srt_ext : ∀ {a b : List At}, Srt a → Srt b → (∀ y, y ∈ a ↔ y ∈ b) → a = b
  | [], [], _, _, _ => rfl
  | [], y :: b, _, _, h => by have := (h y).2 (List.mem_cons_self ..); cases this
  | x :: a, [], _, _, h => by have := (h x).1 (List.mem_cons_self ..); cases this
  | x :: a, y :: b, ha, hb, h => by
    have ha' := List.pairwise_cons.1 (srt_pw.1 ha)
    have hb' := List.pairwise_cons.1 (srt_pw.1 hb)
    have e : x = y := by
      rcases List.mem_cons.1 ((h x).1 (List.mem_cons_self ..)) with e | h1
      · exact e
      · rcases List.mem_cons.1 ((h y).2 (List.mem_cons_self ..)) with e | h2
        · exact e.symm
        · have := ltS_asymm (hb'.1 x h1)
          rw [ha'.1 y h2] at this; cases this
    subst e
    rw [srt_ext (a := a) (b := b) (srt_pw.2 ha'.2) (srt_pw.2 hb'.2) fun z => ?_]
    have hx : ∀ {c : List At}, (∀ y ∈ c, ltS x.1 y.1 = true) → x ∉ c := fun hc hm => by have := hc x hm; rw [ltS_irrefl] at this; cases this
    constructor
    · intro hz
      rcases List.mem_cons.1 ((h z).1 (List.mem_cons_of_mem _ hz)) with e | h1
      · subst e; exact absurd hz (hx ha'.1)
      · exact h1
    · intro hz
      rcases List.mem_cons.1 ((h z).2 (List.mem_cons_of_mem _ hz)) with e | h1
      · subst e; exact absurd hz (hx hb'.1)
      · exact h1
theorem alonesE_iff {l : List At} : alonesE l = 0 ↔ ∀ y ∈ l, aloneE y = 0 := by
  induction l with
  | nil => simp [alonesE]
  | cons x l ih =>
    rw [alonesE]
    by_cases h : aloneE x = 0
    · rw [if_neg (fun h' => h' h), ih]
      simp [h]
    · rw [if_pos h]
      constructor
      · intro h2; exact absurd h2 h
      · intro h2; exact absurd (h2 x (List.mem_cons_self ..)) h
theorem checkE_zero {l : List At} : checkE l = 0 ↔ (∀ y ∈ l, aloneE y = 0) ∧ Srt l ∧ fullB l = false := by
  constructor
  · intro h
    obtain ⟨h1, h2, h3, h4⟩ := checkE_srt h
    exact ⟨alonesE_iff.1 h2, h3, h4⟩
  · rintro ⟨h1, h2, h3⟩
    have h6 : l.length ≤ 6 := by
      unfold fullB at h3
      have := of_decide_eq_false h3
      omega
    obtain ⟨k1, k2⟩ := srt_iff.1 h2
    rw [checkE_of h6 (alonesE_iff.2 h1) k1, k2, h3]; rfl
theorem getR_mem {l : List At} {n v : ByteArray} (h0 : checkE l = 0) (h : (n, v) ∈ l) : getR l n = (v, 0) := by
  obtain ⟨k, hk, e⟩ := mem_getD h
  have hs := (checkE_zero.1 h0).2.1
  obtain ⟨h1, h2⟩ := has_at (n := n) hs hk (by rw [e])
  unfold getR
  rw [if_neg (fun h => h h0), if_pos h1, h2, e]
theorem getR_none {l : List At} {n : ByteArray} (h0 : checkE l = 0) (h : ∀ y ∈ l, y.1 ≠ n) : getR l n = (⟨#[]⟩, 4) := by
  unfold getR
  rw [if_neg (fun h => h h0), has_no fun k hk => h _ (getD_mem hk)]; rfl
theorem getR_same {l m : List At} {n : ByteArray} (hl : checkE l = 0) (hm : checkE m = 0) (h : ∀ v, (n, v) ∈ l ↔ (n, v) ∈ m) : getR l n = getR m n := by
  by_cases hx : ∃ v, (n, v) ∈ l
  · obtain ⟨v, hv⟩ := hx
    rw [getR_mem hl hv, getR_mem hm ((h v).1 hv)]
  · have hn : ∀ {q : List At}, (∀ v, (n, v) ∈ l ↔ (n, v) ∈ q) → ∀ y ∈ q, y.1 ≠ n := fun {q} hq y hy e => hx ⟨y.2, (hq y.2).2 (by rw [← e]; exact hy)⟩
    rw [getR_none hl (hn fun _ => Iff.rfl), getR_none hm (hn h)]
theorem orE_zero {a b : Int} : orE [a, b] = 0 ↔ a = 0 ∧ b = 0 := by
  unfold orE
  by_cases ha : a = 0
  · rw [if_neg (fun h => h ha)]
    unfold orE
    by_cases hb : b = 0
    · rw [if_neg (fun h => h hb)]; simp [ha, hb, orE]
    · rw [if_pos hb]; simp [ha]
  · rw [if_pos ha]; simp [ha]
/-- A list that was set and fits is checked. -/
theorem setR_ok {l a : List At} {x : At} (h : setR l x = (a, 0)) : checkE l = 0 ∧ aloneE x = 0 ∧ a = setI l x ∧ fullB a = false ∧ checkE a = 0 := by
  unfold setR at h
  split at h
  · rename_i h1; obtain ⟨_, h2⟩ := Prod.mk.inj h; exact absurd h2 h1
  · rename_i h1
    obtain ⟨h2, h3⟩ := orE_zero.1 (Decidable.not_not.1 h1)
    unfold fitI at h
    split at h
    · cases h
    · rename_i hF
      obtain ⟨rfl, _⟩ := Prod.mk.inj h
      have hF : fullB (setI l x) = false := by simpa using hF
      obtain ⟨k1, k2, k3⟩ := checkE_zero.1 h2
      refine ⟨h2, h3, rfl, hF, checkE_zero.2 ⟨fun y hy => ?_, srt_set k2 x, hF⟩⟩
      rcases (mem_set k2).1 hy with rfl | ⟨hy, _⟩
      · exact h3
      · exact k1 y hy
theorem sizeI_sub {l m : List At} (h : l.Sublist m) : sizeI l ≤ sizeI m := by
  induction h with
  | slnil => exact Nat.le_refl _
  | cons x h ih => rw [sizeI]; omega
  | cons_cons x h ih => rw [sizeI, sizeI]; omega
theorem fullB_sub {l m : List At} (h : l.Sublist m) (hm : fullB m = false) : fullB l = false := by
  unfold fullB at *
  have h1 := of_decide_eq_false hm
  have := h.length_le
  have := sizeI_sub h
  exact decide_eq_false (by omega)
theorem check_sub {l m : List At} (h : l.Sublist m) (hm : checkE m = 0) : checkE l = 0 := by
  obtain ⟨k1, k2, k3⟩ := checkE_zero.1 hm
  exact checkE_zero.2 ⟨fun y hy => k1 y (h.subset hy), srt_pw.2 ((srt_pw.1 k2).sublist h), fullB_sub h k3⟩
theorem delR_ok {l b : List At} {n : ByteArray} (h : delR l n = (b, 0)) : checkE l = 0 ∧ hasI l n = true ∧ b = withoutI l n ∧ checkE b = 0 ∧ b.length + 1 = l.length := by
  unfold delR at h
  split at h
  · rename_i h1; obtain ⟨_, h2⟩ := Prod.mk.inj h; exact absurd h2 h1
  · rename_i h1
    have h1 := Decidable.not_not.1 h1
    obtain ⟨rfl, _⟩ := Prod.mk.inj h
    obtain ⟨h0, hh⟩ : checkE l = 0 ∧ hasI l n = true := by
      unfold getR at h1
      split at h1
      · rename_i h2; exact absurd h1 h2
      · rename_i h2
        split at h1
        · rename_i h3; exact ⟨Decidable.not_not.1 h2, h3⟩
        · cases h1
    have hs := (checkE_zero.1 h0).2.1
    have hp := (pos_has hs hh).1
    refine ⟨h0, hh, erase_without hs hh, check_sub (List.eraseIdx_sublist ..) h0, ?_⟩
    rw [List.length_eraseIdx, if_pos hp]; omega
theorem mem_without {l : List At} {n : ByteArray} {y : At} : y ∈ withoutI l n ↔ y ∈ l ∧ y.1 ≠ n := by unfold withoutI; rw [List.mem_filter]; simp
/-- Get behind Set. -/
theorem get_set {l a : List At} {x : At} (h : setR l x = (a, 0)) : getR a x.1 = (x.2, 0) ∧ ∀ n, n ≠ x.1 → getR a n = getR l n := by
  obtain ⟨h1, h2, rfl, h4, h5⟩ := setR_ok h
  have hs := (checkE_zero.1 h1).2.1
  refine ⟨getR_mem h5 ((mem_set hs).2 (.inl rfl)), fun n hn => getR_same h5 h1 fun v => ?_⟩
  rw [mem_set hs]
  constructor
  · rintro (e | ⟨h, _⟩)
    · exact absurd (by rw [← e]) hn
    · exact h
  · exact fun h => .inr ⟨h, hn⟩
/-- Get behind Del. -/
theorem get_del {l b : List At} {n : ByteArray} (h : delR l n = (b, 0)) : getR b n = (⟨#[]⟩, 4) ∧ ∀ m, m ≠ n → getR b m = getR l m := by
  obtain ⟨h1, h2, rfl, h4, h5⟩ := delR_ok h
  refine ⟨getR_none h4 fun y hy => (mem_without.1 hy).2, fun m hm => getR_same h4 h1 fun v => ?_⟩
  rw [mem_without]
  exact ⟨fun h => h.1, fun h => ⟨h, hm⟩⟩
end Go.Proofs.Ytncnmjepifbclaa.At
