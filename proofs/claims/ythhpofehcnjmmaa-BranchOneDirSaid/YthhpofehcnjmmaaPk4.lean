/- Texts of this claim, joined. -/
import Derived.Test.YthhpofehcnjmmaaPk3
set_option linter.unusedSimpArgs false
set_option linter.unusedVariables false
/- Branches as plain functions: each directory of a branch is right. No program is named. -/
set_option linter.unusedSimpArgs false
set_option linter.unusedVariables false
namespace Go.Proofs.Ythhpofehcnjmmaa.Br
open At
section
variable {l : List Bn} {n : Nat}
def kidP (l : List Bn) (n i : Nat) : Bool := decide (aboveI (nds l) i = (n : Int))
theorem idxs_low {p : Nat → Bool} : ∀ {n : Nat}, (∀ i, i < n → p i = false) → idxs p n = []
  | 0, _ => rfl
  | n + 1, h => by
    rw [idxs_succ, h n (by omega), if_neg (by decide), idxs_low fun i hi => h i (by omega)]
theorem above_less (l : List Nd) (i : Nat) (hi : i ≤ l.length) : aboveI l i < i := by
  have h3 := above_lt (d := (l.getD i n0).depth) (l.take i).reverse
  rw [List.length_reverse, List.length_take] at h3
  exact Int.lt_of_lt_of_le h3 (by omega)
/-- The entries before a place, in the directory n. -/
theorem sib_kids (h : Bok l) (hn : n < l.length) : ∀ {q : Nat}, n < q → q ≤ l.length → aboveR ((l.getD n b0).nd.depth + 1) ((nds l).take q).reverse = (n : Int) → sib ((l.getD n b0).nd.depth + 1) ((nds l).take q).reverse = ((idxs (kidP l n) q).length, (idxs (kidP l n) q).getLast?.map fun k => (l.getD k b0).nd.name)
  | 0, h1, _, _ => absurd h1 (Nat.not_lt_zero _)
  | q + 1, h1, h2, h3 => by
    have hti : (nds l).length = l.length := List.length_map ..
    rw [take_rev (by omega)] at h3 ⊢
    rw [nds_getD] at h3 ⊢
    rw [aboveR] at h3
    rw [sib]
    by_cases e : n = q
    · subst e
      rw [if_pos (by omega)]
      have h0 : idxs (kidP l n) (n + 1) = [] := idxs_low fun i hi => decide_eq_false fun e => by
        have := above_less (nds l) i (by omega)
        omega
      rw [h0]
      rfl
    have hlen : ((nds l).take q).reverse.length = q := by rw [List.length_reverse, List.length_take]; omega
    by_cases c : (l.getD q b0).nd.depth < (l.getD n b0).nd.depth + 1
    · rw [if_pos c, hlen] at h3
      omega
    rw [if_neg c] at h3
    rw [if_neg c, sib_kids h hn (by omega) (by omega) h3, idxs_succ]
    by_cases d : (l.getD q b0).nd.depth = (l.getD n b0).nd.depth + 1
    · have : aboveI (nds l) q = n := by unfold aboveI; rw [nds_getD, d]; exact h3
      rw [if_pos d, show kidP l n q = true from decide_eq_true this, if_pos rfl]
      rw [List.length_append, List.getLast?_append]
      rfl
    · have : aboveI (nds l) q ≠ n := fun e => d (kid_at h (kid_iff.2 ⟨by omega, e⟩)).2.2.1
      rw [if_neg d, show kidP l n q = false from decide_eq_false this, if_neg (by decide)]
theorem idxs_pre (p : Nat → Bool) {q : Nat} : ∀ {m : Nat}, q ≤ m → idxs p q <+: idxs p m
  | 0, h => by obtain rfl : q = 0 := by omega
               exact List.prefix_refl _
  | m + 1, h => by
    rcases Nat.lt_or_ge q (m + 1) with h1 | h1
    · refine (idxs_pre p (q := q) (m := m) (by omega)).trans ?_
      rw [idxs_succ]
      split
      · exact List.prefix_append _ _
      · exact List.prefix_refl _
    · obtain rfl : q = m + 1 := by omega
      exact List.prefix_refl _
/-- What stands in a list of indices before one of them. -/
theorem idxs_upto {p : Nat → Bool} {n m : Nat} (h : m < (idxs p n).length) : idxs p ((idxs p n).getD m 0) = (idxs p n).take m := by
  have hm : (idxs p n)[m] ∈ idxs p n := List.getElem_mem h
  have hg : (idxs p n).getD m 0 = (idxs p n)[m] := by rw [List.getD_eq_getElem?_getD, List.getElem?_eq_getElem h]; rfl
  rw [hg]
  obtain ⟨h1, h2⟩ := idxs_mem.1 hm
  generalize e : (idxs p n)[m] = j at *
  have h3 : idxs p (j + 1) <+: idxs p n := idxs_pre p h1
  rw [idxs_succ, if_pos h2] at h3
  obtain ⟨r, hr⟩ := h3
  have h4 : (idxs p n)[(idxs p j).length]? = some j := by
    rw [← hr, List.append_assoc, List.getElem?_append_right (Nat.le_refl _)]
    simp
  have h5 : (idxs p n).Nodup := List.Pairwise.filter _ List.nodup_range
  have h6 : (idxs p j).length < (idxs p n).length := (List.getElem?_eq_some_iff.1 h4).1
  have h7 : (idxs p j).length = m := by
    rw [List.getElem?_eq_getElem h6] at h4
    have h8 : (idxs p n)[(idxs p j).length] = (idxs p n)[m] := by rw [e]; exact Option.some.inj h4
    rcases Nat.lt_trichotomy (idxs p j).length m with k | k | k
    · exact absurd h8 (List.pairwise_iff_getElem.1 h5 _ _ h6 h k)
    · exact k
    · exact absurd h8.symm (List.pairwise_iff_getElem.1 h5 _ _ h h6 k)
  rw [← hr, ← h7, List.append_assoc, List.take_left]
theorem kids_idxs (l : List Bn) (n : Nat) : kidsL l n = idxs (kidP l n) l.length := rfl
/-- An entry of a directory: what is right about its place. -/
theorem kid_place (h : Bok l) {m : Nat} (hm : m < (kidsL l n).length) : m < 24 ∧ pnameE (l.getD ((kidsL l n).getD m 0) b0).nd.name = 0 ∧ (0 < m → ltS (l.getD ((kidsL l n).getD (m - 1) 0) b0).nd.name (l.getD ((kidsL l n).getD m 0) b0).nd.name = true) := by
  have hti : (nds l).length = l.length := List.length_map ..
  have hmem : (kidsL l n).getD m 0 ∈ kidsL l n := by
    rw [List.getD_eq_getElem?_getD, List.getElem?_eq_getElem hm]
    exact List.getElem_mem hm
  obtain ⟨k1, k2, k3, k4⟩ := kid_at h hmem
  have ka := (kid_iff.1 hmem).2
  have hup := idxs_upto (p := kidP l n) (n := l.length) (m := m) hm
  rw [← kids_idxs] at hup
  generalize (kidsL l n).getD m 0 = j at *
  have ha : aboveR ((l.getD n b0).nd.depth + 1) ((nds l).take j).reverse = (n : Int) := by
    rw [← ka]; unfold aboveI; rw [nds_getD, k3]
  have hs := sib_kids h (by omega) k1 (by omega) ha
  rw [hup] at hs
  have hp := (node_zero ((tok_node (bok_tok h)).2.2 j (by omega))).1
  rw [nds_getD] at hp
  obtain ⟨q, rfl⟩ : ∃ q, j = q + 1 := ⟨j - 1, by omega⟩
  rw [take_rev (by omega)] at hp hs
  obtain ⟨p1, p2, p3⟩ := place_zero hp
  obtain ⟨p4, p5, p6, p7⟩ := place_more hp
  rw [k3, hs] at p3 p6
  have hl : ((kidsL l n).take m).length = m := by rw [List.length_take]; omega
  rw [hl] at p3
  refine ⟨p3, p5, fun h0 => ?_⟩
  refine p6 _ ?_
  have : ((kidsL l n).take m).getLast? = some ((kidsL l n).getD (m - 1) 0) := by
    rw [List.getLast?_eq_getElem?, hl, List.getElem?_take_of_lt (by omega), List.getD_eq_getElem?_getD, List.getElem?_eq_getElem (by omega)]
    rfl
  dsimp only
  rw [this]
  rfl
theorem kids_24 (h : Bok l) : (kidsL l n).length ≤ 24 := by
  by_cases c : (kidsL l n).length ≤ 24
  · exact c
  · have := (kid_place h (n := n) (m := 24) (by omega)).1
    omega
theorem fields_iff {x : Nd} : fieldsE x = 0 ↔ (1 ≤ x.kind ∧ x.kind ≤ 5) ∧ ((x.kind ≠ 2 → x.kind ≠ 3 → x.data.size = 0) ∧ (x.kind ≠ 4 → x.major = 0 ∧ x.minor = 0) ∧ (x.kind = 5 → x.attrs.length = 0) ∧ (x.kind = 1 ∨ x.kind = 5 → x.cls = 0) ∧ (x.kind = 3 → x.data.size ≠ 0)) ∧ ((x.kind = 2 → x.data.size ≤ 384) ∧ (x.kind = 3 → x.data.size ≤ 200)) ∧ 0 ≤ x.major ∧ x.major ≤ 255 ∧ 0 ≤ x.minor ∧ x.minor ≤ 255 := by
  unfold fieldsE
  split
  · exact ⟨fun h => absurd h (by decide), fun h => by omega⟩
  split
  · exact ⟨fun h => absurd h (by decide), fun h => by omega⟩
  split
  · exact ⟨fun h => absurd h (by decide), fun h => by omega⟩
  split
  · exact ⟨fun h => absurd h (by decide), fun h => by omega⟩
  · rename_i a b c d
    refine ⟨fun _ => ?_, fun _ => rfl⟩
    omega
theorem size_zero {s : ByteArray} (h : s.size = 0) : s = eS := by
  cases s with
  | mk a =>
    have : a.size = 0 := h
    rw [show a = #[] from Array.eq_empty_of_size_eq_zero this]
theorem node_at (h : Bok l) {i : Nat} (hi : i < l.length) : fieldsE (l.getD i b0).nd = 0 ∧ checkE (l.getD i b0).nd.attrs = 0 ∧ classE ((nds l).take i).reverse (l.getD i b0).nd = 0 := by
  have hti : (nds l).length = l.length := List.length_map ..
  have := node_zero ((tok_node (bok_tok h)).2.2 i (by omega))
  rw [nds_getD] at this
  exact this.2
/-- A node by itself is right. -/
theorem alone_ok {x : Nd} (hf : fieldsE x = 0) (ha : checkE x.attrs = 0) : aloneE (entN x) = 0 := by
  have key : ∀ y : Nd, fieldsE y = 0 → checkE y.attrs = 0 → y.cls = 0 → y.depth = 1 → y.name = ⟨#[110]⟩ → (checkT [{ n0 with kind := 1 }, y]).2 = 0 := by
    intro y h1 h2 h3 h4 h5
    have e1 : nodeE [] { n0 with kind := 1 } = 0 := by decide
    have e2 : nodeE [{ n0 with kind := 1 }] y = 0 := by
      have p : placeE [{ n0 with kind := 1 }] y = 0 := by
        unfold placeE
        dsimp only
        rw [h4, h5]
        decide
      have c : classE [{ n0 with kind := 1 }] y = 0 := by
        unfold classE
        rw [h3]
        refine if_neg ?_
        rintro (a | a | a)
        · exact absurd a (by decide)
        · exact absurd a (by decide)
        · exact absurd a.1 (by decide)
      unfold nodeE
      rw [if_neg (fun k => k p), if_neg (fun k => k h1), if_neg (fun k => k h2)]
      exact c
    unfold checkT
    rw [if_neg (by simp), if_neg (by simp)]
    have e3 : errAt [] [{ n0 with kind := 1 }, y] 0 = none := by
      rw [errAt, if_neg (fun k => k e1), errAt, if_neg (fun k => k e2), errAt]
    rw [e3]
    have e4 : loneAt [{ n0 with kind := 1 }, y] [{ n0 with kind := 1 }, y] 0 = none := by
      refine lone_none _ _ fun x hx => ?_
      rcases List.mem_cons.1 hx with rfl | hx
      · exact fun k => absurd k.1 (by decide)
      · rw [List.mem_singleton] at hx
        subst hx
        rw [h3]
        exact fun k => absurd k.1 (by decide)
    dsimp only
    rw [e4]
  unfold aloneE aloneT
  have hf' := fields_iff.1 hf
  refine key _ ?_ ?_ rfl rfl rfl
  · unfold entN
    split
    · exact fields_iff.2 (by dsimp only [n0]; refine ⟨by omega, ⟨fun _ _ => rfl, fun _ => ⟨rfl, rfl⟩, fun h => absurd h (by decide), fun _ => rfl, fun h => absurd h (by decide)⟩, ⟨fun h => absurd h (by decide), fun h => absurd h (by decide)⟩, by omega⟩)
    · refine fields_iff.2 ?_
      dsimp only
      obtain ⟨f1, ⟨f2, f3, f4, f5, f6⟩, f7, f8⟩ := hf'
      exact ⟨f1, ⟨f2, f3, f4, fun _ => rfl, f6⟩, f7, f8⟩
  · unfold entN
    split
    · decide
    · exact ha
theorem range_map (l : List Bn) : (List.range l.length).map (fun i => l.getD i b0) = l := by
  refine List.ext_getElem (by simp) fun i h1 h2 => ?_
  rw [List.getElem_map, List.getElem_range, getD_b h2]
/-- How many nodes a class has. -/
theorem names_count {i : Nat} (h : (l.getD i b0).nd.cls ≠ 0) : (namesL l i).length = countC (nds l) (l.getD i b0).nd.cls := by
  unfold namesL idxs countC nds
  rw [List.countP_map, ← List.countP_eq_length_filter]
  conv => rhs; arg 2; rw [← range_map l]
  rw [List.countP_map]
  refine List.countP_congr fun k hk => ?_
  rw [namesP_cls h k]
  rfl
theorem lone_tok {l : List Nd} (h : Tok l) : loneAt l l 0 = none := by
  have h2 := tok_iff.1 h
  unfold checkT at h2
  split at h2
  · exact absurd h2 (by decide)
  split at h2
  · exact absurd h2 (by decide)
  split at h2
  · rename_i i e he
    have := errAt_some he
    have : e = 0 := (Prod.mk.inj h2).2
    contradiction
  · split at h2
    · exact absurd h2 (by simp)
    · assumption
theorem lone_zero {l : List Nd} : ∀ {r : List Nd} {i : Nat}, loneAt l r i = none → ∀ x ∈ r, ¬ (0 < x.cls ∧ countC l x.cls = 1)
  | [], _, _, x, hx => nomatch hx
  | y :: r, i, h, x, hx => by
    rw [loneAt] at h
    split at h
    · cases h
    · rename_i c
      rcases List.mem_cons.1 hx with rfl | hx
      · exact c
      · exact lone_zero h x hx
/-- The class of a node, and how many names it has. -/
theorem names_cls (h : Bok l) {i : Nat} (hi : i < l.length) : 0 ≤ (l.getD i b0).nd.cls ∧ (0 < (l.getD i b0).nd.cls ↔ 1 < (namesL l i).length) ∧ 1 ≤ (namesL l i).length := by
  have hti : (nds l).length = l.length := List.length_map ..
  have h1 := (node_at h hi).2.2
  have h2 : 0 ≤ (l.getD i b0).nd.cls := by
    unfold classE at h1
    split at h1
    · exact absurd h1 (by decide)
    · omega
  have hmem : i ∈ namesL l i := idxs_mem.2 ⟨hi, by unfold namesP; simp⟩
  have h3 : 1 ≤ (namesL l i).length := List.length_pos_of_mem hmem
  refine ⟨h2, ?_, h3⟩
  by_cases c : (l.getD i b0).nd.cls = 0
  · rw [names_zero hi c, c]
    simp
  · have h4 := names_count c
    have h5 := lone_zero (lone_tok (bok_tok h)) (l.getD i b0).nd (by
      rw [getD_b hi]; exact List.mem_map_of_mem (List.getElem_mem hi))
    rw [← h4] at h5
    omega
theorem getD_map' {α β : Type} {f : α → β} {l : List α} {i : Nat} {d : α} {e : β} (h : i < l.length) : (l.map f).getD i e = f (l.getD i d) := by
  rw [List.getD_eq_getElem?_getD, List.getElem?_map, List.getD_eq_getElem?_getD, List.getElem?_eq_getElem h]
  rfl
theorem ent_kind (x : Nd) : (entN x).kind = x.kind := by
  unfold entN
  split
  · rename_i h; exact h.symm
  · rfl
theorem ent_cls {x : Nd} (h : fieldsE x = 0) : (entN x).cls = x.cls := by
  unfold entN
  split
  · rename_i h1
    exact ((fields_iff.1 h).2.1.2.2.2.1 (.inl h1)).symm
  · rfl
theorem ent_dn (x : Nd) : (entN x).depth = 0 ∧ (entN x).name = eS := by
  unfold entN
  split <;> exact ⟨rfl, rfl⟩
theorem ltS_nil (a : ByteArray) : ltS a eS = false := by
  cases h : ltS a eS
  · rfl
  · exact absurd (ltS_iff.1 h) (List.not_lt_nil _)
/-- An entry of a directory of a branch is right. -/
theorem ent_ok (h : Bok l) {m : Nat} (hm : m < (kidsL l n).length) : entE (dirI l n) (lastN (dirI l n) m) (entI l n ((kidsL l n).getD m 0)) = 0 := by
  have hmem : (kidsL l n).getD m 0 ∈ kidsL l n := by
    rw [List.getD_eq_getElem?_getD, List.getElem?_eq_getElem hm]
    exact List.getElem_mem hm
  obtain ⟨k1, k2, k3, k4⟩ := kid_at h hmem
  have ka := (kid_iff.1 hmem).2
  obtain ⟨p1, p2, p3⟩ := kid_place h hm
  have hlast : (m = 0 ∧ lastN (dirI l n) m = eS) ∨ ltS (lastN (dirI l n) m) (l.getD ((kidsL l n).getD m 0) b0).nd.name = true := by
    cases m with
    | zero => exact .inl ⟨rfl, rfl⟩
    | succ m =>
      refine .inr ?_
      have := p3 (by omega)
      have e : lastN (dirI l n) (m + 1) = (l.getD ((kidsL l n).getD m 0) b0).nd.name := by
        show (((kidsL l n).map (entI l n)).getD m e0).name = _
        rw [getD_map' (d := 0) (by omega)]
        rfl
      rw [e]
      exact this
  generalize lastN (dirI l n) m = last at *
  generalize (kidsL l n).getD m 0 = j at *
  obtain ⟨f1, f2, f3⟩ := node_at h k2
  obtain ⟨c1, c2, c3⟩ := names_cls h k2
  have hal := alone_ok f1 f2
  have hek := ent_kind (l.getD j b0).nd
  have hec := ent_cls f1
  have hed := ent_dn (l.getD j b0).nd
  have hf := fields_iff.1 f1
  have hne : (l.getD j b0).nd.name.size ≠ 0 := (name_size p2).2
  unfold entE
  have e1 : (entI l n j).name = (l.getD j b0).nd.name := rfl
  have e2 : (entI l n j).node = entN (l.getD j b0).nd := rfl
  have e3 : (entI l n j).names = ((namesL l j).length : Int) := rfl
  rw [e1, e2, e3, if_neg (fun k => k p2)]
  have g1 : (l.getD j b0).nd.name ≠ last := by
    rcases hlast with ⟨_, hl⟩ | hl
    · rw [hl]; intro e; rw [e] at hne; exact hne rfl
    · exact fun e => ltS_ne hl e.symm
  have g2 : ltS (l.getD j b0).nd.name last = false := by
    rcases hlast with ⟨_, hl⟩ | hl
    · rw [hl]; exact ltS_nil _
    · exact ltS_asymm hl
  rw [if_neg g1, if_neg (by rw [g2, hed.1, hed.2]; simp), if_neg (fun k => k hal), hec, if_neg (by omega), if_neg (by omega), hek]
  refine if_neg ?_
  rintro (⟨q1, q2⟩ | ⟨q1, q2⟩ | q | ⟨q1, q2⟩)
  · unfold entN at q2
    rw [if_pos q1] at q2
    have : (l.getD j b0).nd.cls = 0 := hf.2.1.2.2.2.1 (.inl q1)
    rcases q2 with q2 | q2
    · exact q2 rfl
    · omega
  · have : (l.getD j b0).nd.cls = 0 := hf.2.1.2.2.2.1 (.inr q1)
    rcases q2 with q2 | q2
    · omega
    · have hmk := (bok_iff.1 h).2 j k2
      have ho : (l.getD j b0).opq = false := by
        cases e : (l.getD j b0).opq
        · rfl
        · have := (marks_opq hmk e).2; omega
      have hr : (l.getD j b0).red = [] := Decidable.byContradiction fun e => by
        have := (marks_red hmk e).2.1; omega
      rw [marksE_X, marksX_none hr ho, ka] at hmk
      have hq : opqAt l (n : Int) = true := by
        unfold opqAt
        rw [Int.toNat_natCast]
        have : (l.getD n b0).opq = true := q2
        rw [this]
        simp
      rw [if_pos ⟨q1, hq⟩] at hmk
      exact absurd hmk (by decide)
  · exact q rfl
  · have h1 : (namesL l j).length = 1 := by omega
    have hmj : j ∈ namesL l j := idxs_mem.2 ⟨k2, by unfold namesP; simp⟩
    obtain ⟨z, hz⟩ := List.length_eq_one_iff.1 h1
    rw [hz, List.mem_singleton] at hmj
    subst hmj
    have : firstP l n j = true := by
      unfold firstP
      rw [hz]
      simp [ka]
    have q3 : firstP l n j = false := q1
    rw [this] at q3
    exact absurd q3 (by decide)
/-- Each directory of a branch is right. -/
theorem dir_ok (h : Bok l) (hn : n < l.length) (hk : (l.getD n b0).nd.kind = 1) : checkD (dirI l n) = (0, 0) := by
  have hmk := (bok_iff.1 h).2 n hn
  have h24 := kids_24 h (n := n)
  have hlen : (dirI l n).ents.length = (kidsL l n).length := List.length_map ..
  have hr : pcheckE (dirI l n).red = 0 := by
    by_cases e : (l.getD n b0).red = []
    · show pcheckE (l.getD n b0).red = 0
      rw [e]; rfl
    · exact (marks_red hmk e).2.2.2.1
  have ho : ¬ ((dirI l n).opq = true ∧ (dirI l n).red ≠ []) := fun k => by
    have := (marks_opq hmk k.1).1
    exact k.2 this
  unfold checkD
  rw [if_neg (fun k => k (node_at h hn).2.1), if_neg ho, if_neg (fun k => k hr), if_neg (by omega), firstD_none _ _ fun k _ hk' => ?_]
  have hk2 : k < (kidsL l n).length := by omega
  have : (dirI l n).ents.getD k e0 = entI l n ((kidsL l n).getD k 0) := by
    show ((kidsL l n).map (entI l n)).getD k e0 = _
    rw [getD_map' (d := 0) hk2]
  rw [this]
  exact ent_ok h hk2
end
end Go.Proofs.Ythhpofehcnjmmaa.Br
