/- The directories as plain functions: a directory as a map. No program is named. -/
import Derived.Test.YtfcihdkflnpcgaaDrPure3
namespace Go.Proofs.Ytfcihdkflnpcgaa.Dr
open At
theorem getD_lt {l : List De} {k : Nat} (h : k < l.length) : l.getD k d0 = l[k] := by
  rw [List.getD_eq_getElem?_getD, List.getElem?_eq_getElem h]; rfl
theorem srt_pw {l : List De} : Srt l ↔ l.Pairwise fun a b => ltS a.1 b.1 = true := by
  rw [List.pairwise_iff_getElem]
  constructor
  · intro h i j hi hj hij
    have := h i j hij hj
    rwa [getD_lt hi, getD_lt hj] at this
  · intro h i j hij hj
    rw [getD_lt (by omega), getD_lt hj]
    exact h i j (by omega) hj hij
/-- Sorted lists of the same attributes are one. -/
theorem srt_ext : ∀ {a b : List De}, Srt a → Srt b → (∀ y, y ∈ a ↔ y ∈ b) → a = b
  | [], [], _, _, _ => rfl
  | [], y :: b, _, _, h => by have := (h y).2 (List.mem_cons_self ..); cases this
  | x :: a, [], _, _, h => by have := (h x).1 (List.mem_cons_self ..); cases this
  | x :: a, y :: b, ha, hb, h => by
    have ha' := List.pairwise_cons.1 (srt_pw.1 ha)
    have hb' := List.pairwise_cons.1 (srt_pw.1 hb)
    have e : x = y := by
      rcases List.mem_cons.1 ((h x).1 (List.mem_cons_self ..)) with e | h1
      · exact e
      · rcases List.mem_cons.1 ((h y).2 (List.mem_cons_self ..)) with e | h2
        · exact e.symm
        · have := ltS_asymm (hb'.1 x h1)
          rw [ha'.1 y h2] at this; cases this
    subst e
    rw [srt_ext (a := a) (b := b) (srt_pw.2 ha'.2) (srt_pw.2 hb'.2) fun z => ?_]
    have hx : ∀ {c : List De}, (∀ y ∈ c, ltS x.1 y.1 = true) → x ∉ c := fun hc hm => by have := hc x hm; rw [ltS_irrefl] at this; cases this
    constructor
    · intro hz
      rcases List.mem_cons.1 ((h z).1 (List.mem_cons_of_mem _ hz)) with e | h1
      · subst e; exact absurd hz (hx ha'.1)
      · exact h1
    · intro hz
      rcases List.mem_cons.1 ((h z).2 (List.mem_cons_of_mem _ hz)) with e | h1
      · subst e; exact absurd hz (hx hb'.1)
      · exact h1
theorem ins_perm (l : List De) (x : De) : (insI l x).Perm (x :: l) := by
  unfold insI
  have := List.perm_middle (a := x) (l₁ := l.take (posI l x.1)) (l₂ := l.drop (posI l x.1))
  rwa [List.take_append_drop] at this
theorem mem_ins {l : List De} {x y : De} : y ∈ insI l x ↔ y = x ∨ y ∈ l := by rw [(ins_perm l x).mem_iff, List.mem_cons]
theorem hasI_iff {l : List De} {n : ByteArray} : hasI l n = true ↔ ∃ y ∈ l, y.1 = n := by
  unfold hasI; rw [List.any_eq_true]
  exact exists_congr fun y => and_congr_right fun _ => decide_eq_true_iff
theorem srt_ins {l : List De} (hs : Srt l) {x : De} (hh : hasI l x.1 = false) : Srt (insI l x) := by
  have hp := srt_pw.1 hs
  unfold insI
  refine srt_pw.2 (List.pairwise_append.2 ⟨hp.sublist (List.take_sublist ..), List.pairwise_cons.2 ⟨fun y hy => ?_, hp.sublist (List.drop_sublist ..)⟩, fun a ha b hb => ?_⟩)
  · have h1 := split_hi (n := x.1) hs y hy
    cases h2 : ltS x.1 y.1
    · have := ltS_tri h1 h2
      rw [hasI_iff.2 ⟨y, List.mem_of_mem_drop hy, this⟩] at hh; cases hh
    · rfl
  · have h1 := split_lo (n := x.1) hs a ha
    rcases List.mem_cons.1 hb with rfl | hb
    · exact h1
    · have h2 := split_hi (n := x.1) hs b hb
      cases h3 : ltS a.1 b.1
      · cases h4 : ltS b.1 a.1
        · rw [ltS_tri h3 h4] at h1; rw [h1] at h2; cases h2
        · rw [ltS_trans h4 h1] at h2; cases h2
      · rfl
theorem put_ok {l a : List De} {x : De} (h : putR l x = (a, 0)) : checkE l = 0 ∧ aloneE x = 0 ∧ hasI l x.1 = false ∧ l.length < 24 ∧ a = insI l x ∧ checkE a = 0 := by
  unfold putR at h
  split at h
  · rename_i h1; exact absurd (congrArg Prod.snd h) h1
  · rename_i h1
    obtain ⟨c1, c2⟩ := orE2_zero.1 (Decidable.not_not.1 h1)
    obtain ⟨d1, d2, d3⟩ := checkE_zero c1
    split at h
    · cases h
    · rename_i h2
      have h2 : hasI l x.1 = false := by simpa using h2
      split at h
      · cases h
      · rename_i h3
        cases h
        refine ⟨c1, c2, h2, by omega, rfl, checkE_iff.2 ⟨by rw [insI_len]; omega, alonesE_iff.2 fun y hy => ?_, srt_ins d3 h2⟩⟩
        rcases mem_ins.1 hy with rfl | hy
        · exact c2
        · exact alonesE_iff.1 d2 y hy
theorem put_is {l : List De} {x : De} (h1 : checkE l = 0) (h2 : aloneE x = 0) (h3 : hasI l x.1 = false) (h4 : l.length < 24) : putR l x = (insI l x, 0) := by
  unfold putR
  rw [if_neg (by rw [orE2_zero.2 ⟨h1, h2⟩]; decide), if_neg (by simp [h3]), if_neg (by omega)]
theorem drop_ok {l b : List De} {n : ByteArray} {y : De} (h : dropR l n = (b, y, 0)) : checkE l = 0 ∧ nameE n = 0 ∧ hasI l n = true ∧ y.1 = n ∧ y ∈ l ∧ b.length + 1 = l.length ∧ checkE b = 0 ∧ ∀ z, z ∈ b ↔ z ∈ l ∧ z.1 ≠ n := by
  unfold dropR findR at h
  by_cases h1 : orE [checkE l, nameE n] ≠ 0
  · simp only [if_pos h1] at h
    exact absurd (congrArg (fun z => z.2.2) h) h1
  · simp only [if_neg h1, ne_eq, not_true_eq_false, if_false] at h
    obtain ⟨c1, c2⟩ := orE2_zero.1 (Decidable.not_not.1 h1)
    obtain ⟨d1, d2, d3⟩ := checkE_zero c1
    split at h
    · rename_i hh
      obtain ⟨p1, p2⟩ := pos_has d3 hh
      cases h
      refine ⟨c1, c2, hh, p2, getD_mem p1, by rw [List.length_eraseIdx_of_lt p1]; omega, check_erase c1 _, fun z => ?_⟩
      rw [erase_without d3 hh]
      unfold withoutI
      rw [List.mem_filter]; simp
    · cases h
theorem turn_ok {l c : List De} {n : ByteArray} {x : De} (h : turnR l n x = (c, 0)) : ∃ b y, dropR l n = (b, y, 0) ∧ putR b x = (c, 0) := by
  unfold turnR at h
  split at h
  · rename_i h1; exact absurd (congrArg Prod.snd h) h1
  · split at h
    · rename_i h1; exact absurd (congrArg Prod.snd h) h1
    · rename_i h1
      obtain ⟨b, y, e, hD⟩ : ∃ b y e, dropR l n = (b, y, e) := ⟨_, _, _, rfl⟩
      rw [hD] at h h1
      have : e = 0 := Decidable.not_not.1 h1
      subst this
      exact ⟨b, y, hD, h⟩
/-- Does Find find an entry? -/
def hasB (l : List De) (x : De) : Bool := decide (checkE l = 0) && (decide (nameE x.1 = 0) && l.any fun y => decide (y = x))
theorem hasB_iff {l : List De} {x : De} : hasB l x = true ↔ checkE l = 0 ∧ nameE x.1 = 0 ∧ x ∈ l := by
  unfold hasB
  rw [Bool.and_eq_true, Bool.and_eq_true, decide_eq_true_eq, decide_eq_true_eq, List.any_eq_true]
  refine and_congr_right fun _ => and_congr_right fun _ => ⟨?_, fun h => ⟨x, h, decide_eq_true rfl⟩⟩
  rintro ⟨y, hy, e⟩
  exact of_decide_eq_true e ▸ hy
def allD (l m : List De) (but : ByteArray) : Bool := l.all fun y => decide (y.1 = but) || hasB m y
theorem hasB_mem {l : List De} {x : De} (h1 : checkE l = 0) (h2 : x ∈ l) : hasB l x = true := hasB_iff.2 ⟨h1, (aloneE_zero (alonesE_iff.1 (checkE_zero h1).2.1 x h2)).1, h2⟩
theorem allD_of {l m : List De} {but : ByteArray} (h1 : checkE m = 0) (h2 : ∀ y ∈ l, y.1 ≠ but → y ∈ m) : allD l m but = true := by
  unfold allD
  rw [List.all_eq_true]
  intro y hy
  by_cases h : y.1 = but
  · simp [h]
  · simp [h, hasB_mem h1 (h2 y hy h)]
theorem hasB_at {l : List De} {x : De} (h1 : checkE l = 0) (h2 : nameE x.1 = 0) : hasB l x = (hasI l x.1 && decide (l.getD (posI l x.1) d0 = x)) := by
  have hs := (checkE_zero h1).2.2
  rw [Bool.eq_iff_iff, hasB_iff, Bool.and_eq_true, decide_eq_true_eq]
  constructor
  · rintro ⟨_, _, h⟩
    have hh := hasI_iff.2 ⟨x, h, rfl⟩
    obtain ⟨p1, p2⟩ := pos_has hs hh
    refine ⟨hh, ?_⟩
    obtain ⟨k, hk, rfl⟩ := mem_getD h
    rw [srt_inj hs p1 hk p2]
  · rintro ⟨hh, e⟩
    exact ⟨h1, h2, e ▸ getD_mem (pos_has hs hh).1⟩
theorem hasB_no {l : List De} {x : De} (h : orE [checkE l, nameE x.1] ≠ 0) : hasB l x = false := by
  cases hb : hasB l x
  · rfl
  · obtain ⟨h1, h2, _⟩ := hasB_iff.1 hb
    exact absurd (orE2_zero.2 ⟨h1, h2⟩) h
theorem map_put {l a : List De} {x : De} (h : putR l x = (a, 0)) : checkE a = 0 ∧ a.length = l.length + 1 ∧ hasB a x = true ∧ allD l a ⟨#[]⟩ = true := by
  obtain ⟨h1, h2, h3, h4, rfl, h6⟩ := put_ok h
  exact ⟨h6, insI_len l x, hasB_mem h6 (mem_ins.2 (.inl rfl)), allD_of h6 fun y hy _ => mem_ins.2 (.inr hy)⟩
theorem map_drop {l b : List De} {n : ByteArray} {y : De} (h : dropR l n = (b, y, 0)) : checkE b = 0 ∧ b.length + 1 = l.length ∧ hasB l y = true ∧ y.1 = n ∧ allD b l ⟨#[]⟩ = true ∧ allD l b n = true := by
  obtain ⟨h1, h2, h3, h4, h5, h6, h7, h8⟩ := drop_ok h
  exact ⟨h7, h6, hasB_mem h1 h5, h4, allD_of h1 fun z hz _ => ((h8 z).1 hz).1, allD_of h7 fun z hz hn => (h8 z).2 ⟨hz, hn⟩⟩
theorem map_turn {l c : List De} {n : ByteArray} {x : De} (h : turnR l n x = (c, 0)) : checkE c = 0 ∧ c.length = l.length ∧ hasB c x = true ∧ allD l c n = true := by
  obtain ⟨b, y, hD, hP⟩ := turn_ok h
  obtain ⟨h1, h2, h3, h4, h5, h6, h7, h8⟩ := drop_ok hD
  obtain ⟨k1, k2, k3, k4⟩ := map_put hP
  obtain ⟨j1, j2, j3, j4, rfl, j6⟩ := put_ok hP
  exact ⟨k1, by omega, k3, allD_of k1 fun z hz hn => mem_ins.2 (.inr ((h8 z).2 ⟨hz, hn⟩))⟩
theorem map_find {l : List De} {n : ByteArray} (h : (findR l n).2.2 = 0) : (findR l n).2.1 = decide ((dropR l n).2.2 = 0) := by
  unfold dropR
  rw [if_neg (by simp [h])]
  unfold findR at h ⊢
  split at h
  · rename_i h1; exact absurd h h1
  · rename_i h1
    rw [if_neg h1]
    cases hasI l n <;> rfl
theorem putR_mem {l : List De} {x y : De} (h : y ∈ (putR l x).1) : y = x ∨ y ∈ l := by
  unfold putR at h
  split at h
  · cases h
  · split at h
    · cases h
    · split at h
      · cases h
      · exact mem_ins.1 h
theorem dropR_mem {l : List De} {n : ByteArray} {y : De} (h : y ∈ (dropR l n).1) : y ∈ l := by
  unfold dropR at h
  split at h
  · cases h
  · split at h
    · exact (List.eraseIdx_sublist l _).subset h
    · cases h
theorem dropR_size {l : List De} {n : ByteArray} {m : Nat} (h : ∀ x ∈ l, x.1.size ≤ m) : (dropR l n).2.1.1.size ≤ m := by
  unfold dropR
  split
  · exact Nat.zero_le _
  · split
    · by_cases hp : posI l n < l.length
      · exact h _ (getD_mem hp)
      · rw [List.getD_eq_getElem?_getD, List.getElem?_eq_none (by omega)]; exact Nat.zero_le _
    · exact Nat.zero_le _
theorem turnR_mem {l : List De} {n : ByteArray} {x y : De} (h : y ∈ (turnR l n x).1) : y = x ∨ y ∈ l := by
  unfold turnR at h
  split at h
  · cases h
  · split at h
    · cases h
    · exact (putR_mem h).imp_right dropR_mem
/-! In any order. -/
theorem order_step {l d rest : List De} {k : Nat} (hl : checkE l = 0) (hs : Srt d) (hp : (d ++ rest).Perm l) (hk : k < rest.length) : putR d (rest.getD k d0) = (insI d (rest.getD k d0), 0) ∧ Srt (insI d (rest.getD k d0)) ∧ (insI d (rest.getD k d0) ++ rest.eraseIdx k).Perm l := by
  obtain ⟨c1, c2, c3⟩ := checkE_zero hl
  have hm : rest.getD k d0 ∈ rest := getD_mem hk
  have hn : ((d ++ rest).map (·.1)).Nodup := (hp.map _).nodup_iff.2 (dup_nodup.1 (srt_iff.1 c3).1)
  have hh : hasI d (rest.getD k d0).1 = false := by
    cases h : hasI d (rest.getD k d0).1
    · rfl
    · obtain ⟨y, hy, e⟩ := hasI_iff.1 h
      rw [List.map_append] at hn
      exact absurd e ((List.nodup_append.1 hn).2.2 y.1 (List.mem_map_of_mem hy) _ (List.mem_map_of_mem hm))
  have hlen : d.length + rest.length = l.length := by have := hp.length_eq; rwa [List.length_append] at this
  have hd : checkE d = 0 := checkE_iff.2 ⟨by omega, alonesE_iff.2 fun x hx => alonesE_iff.1 c2 x (hp.subset (List.mem_append_left _ hx)), hs⟩
  refine ⟨put_is hd (alonesE_iff.1 c2 _ (hp.subset (List.mem_append_right _ hm))) hh (by omega), srt_ins hs hh, ?_⟩
  have e1 : rest.Perm (rest.getD k d0 :: rest.eraseIdx k) := by
    rw [getD_lt hk, List.eraseIdx_eq_take_drop_succ]
    conv => lhs; rw [← List.take_append_drop k rest, List.drop_eq_getElem_cons hk]
    exact List.perm_middle
  refine List.Perm.trans ?_ hp
  refine ((ins_perm d (rest.getD k d0)).append_right _).trans ?_
  refine List.Perm.trans ?_ (e1.symm.append_left d)
  exact List.perm_middle.symm
theorem order_end {l d : List De} (hl : checkE l = 0) (hs : Srt d) (hp : d.Perm l) : d = l :=
  srt_ext hs (checkE_zero hl).2.2 fun y => hp.mem_iff
end Go.Proofs.Ytfcihdkflnpcgaa.Dr
