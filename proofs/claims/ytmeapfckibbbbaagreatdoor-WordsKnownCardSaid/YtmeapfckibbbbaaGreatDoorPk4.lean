/- Texts of this claim, joined. -/
import Derived.Test.YtmeapfckibbbbaaGreatDoorPk3
import Derived.Lib.Join
import Derived.ScopeJumps
import Derived.Deep.Slices
import Derived.Deep.Fields
import Derived.ChangeArms
import Derived.ChangeSame
import Derived.ChangeSlices
import Derived.ChangeOld
import Derived.OpenShut
import Derived.Carry
import Derived.ProofKit
import Derived.Lib.Atoi
import Derived.LaidLaws
set_option linter.unusedSimpArgs false
set_option linter.unusedVariables false
/- The words as plain functions of bytes: lists and their expressions are inverse to each other. No program is named. -/
namespace Go.Proofs.YtmeapfckibbbbaaGreatDoor.Wo
def upN (x : Int) : Nat → List Int
  | 0 => [x]
  | n + 1 => x :: upN (x + 1) n
theorem runN_up (x n : Nat) : (List.range (n + 1)).map (fun i => ((x + i : Nat) : Int)) = upN x n := by
  induction n generalizing x with
  | zero => rfl
  | succ n ih =>
    rw [List.range_succ_eq_map, List.map_cons, List.map_map]
    show _ :: _ = _ :: upN _ n
    rw [show ((x : Int) + 1) = ((x + 1 : Nat) : Int) from by omega, ← ih (x + 1)]
    congr 1
    refine List.map_congr_left fun i _ => ?_
    show ((x + (i + 1) : Nat) : Int) = _
    rw [show x + (i + 1) = x + 1 + i by omega]
theorem runN_eq {q : Nat × Nat} (h : q.1 ≤ q.2) : runN q = upN q.1 (q.2 - q.1) := by
  unfold runN
  rw [show q.2 + 1 - q.1 = (q.2 - q.1) + 1 by omega, runN_up]
def ascL : List Int → Prop
  | [] => True
  | [_] => True
  | a :: b :: r => a < b ∧ ascL (b :: r)
theorem asc_iff (l : List Int) : ascL l ↔ ∀ k, k + 1 < l.length → l.getD k 0 < l.getD (k + 1) 0 := by
  induction l with
  | nil => exact ⟨fun _ k h => absurd h (Nat.not_lt_zero _), fun _ => trivial⟩
  | cons a r ih =>
    cases r with
    | nil => exact ⟨fun _ k h => absurd h (by simp), fun _ => trivial⟩
    | cons b r =>
      show (a < b ∧ ascL (b :: r)) ↔ _
      rw [ih]
      constructor
      · rintro ⟨h1, h2⟩ k hk
        cases k with
        | zero => exact h1
        | succ k => exact h2 k (by simpa using hk)
      · intro h
        exact ⟨h 0 (by simp), fun k hk => h (k + 1) (by simpa using hk)⟩
theorem form_asc (l : List Int) : formI l l.length = 0 ↔ ascL l := by
  rw [asc_iff]
  constructor
  · intro h k hk
    refine Decidable.byContradiction fun hn => ?_
    have := formI_bad (l := l) (k := k + 1) (Nat.succ_pos _) (by rw [Nat.add_sub_cancel]; omega) l.length hk
    rw [h] at this
    cases this
  · intro h
    have key : ∀ n, n ≤ l.length → formI l n = 0 := by
      intro n
      induction n with
      | zero => intro _; rfl
      | succ n ih =>
        intro hn
        unfold formI
        rw [if_neg (fun k => ?_), ih (by omega)]
        have := h (n - 1) (by omega)
        rw [show n - 1 + 1 = n by omega] at this
        omega
    exact key _ (Nat.le_refl _)
theorem asc_up {t : List Int} (h : ascL t) : ∀ (n : Nat) (x : Int), (∀ b ∈ t.head?, x + n < b) → ascL (upN x n ++ t)
  | 0, x, hb => by
    cases t with
    | nil => trivial
    | cons b r => exact ⟨by have := hb b rfl; simpa using this, h⟩
  | n + 1, x, hb => by
    have ih := asc_up h n (x + 1) (fun b h' => by have := hb b h'; omega)
    cases n with
    | zero => exact ⟨by omega, ih⟩
    | succ n => exact ⟨by omega, ih⟩
theorem runG_up {t : List Int} : ∀ (n : Nat) (x : Int), (∀ b ∈ t.head?, b ≠ x + n + 1) → ∃ r, upN x n ++ t = x :: r ∧ runG x r = n ∧ r.drop n = t
  | 0, x, hb => by
    refine ⟨t, rfl, ?_, rfl⟩
    cases t with
    | nil => rfl
    | cons b r => rw [runG, if_neg (by have := hb b rfl; simpa using this)]
  | n + 1, x, hb => by
    obtain ⟨r, h1, h2, h3⟩ := runG_up (t := t) n (x + 1) (fun b h' => by have := hb b h'; omega)
    refine ⟨(x + 1) :: r, ?_, ?_, h3⟩
    · rw [← h1]; rfl
    · rw [runG, if_pos rfl, h2]
/-- Runs that stand apart. -/
def goodR : List (Nat × Nat) → Prop
  | [] => True
  | [q] => q.1 ≤ q.2
  | q :: p :: r => q.1 ≤ q.2 ∧ q.2 + 1 < p.1 ∧ goodR (p :: r)
def runT (q : Nat × Nat) : Bs := runS q.1 (q.2 - q.1)
def joinR : List (Nat × Nat) → Bs
  | [] => []
  | q :: r => runT q ++ (match r with
    | [] => []
    | p :: r' => 44 :: joinR (p :: r'))
theorem goodR_one {q : Nat × Nat} {r : List (Nat × Nat)} (h : goodR (q :: r)) : q.1 ≤ q.2 ∧ goodR r ∧ ∀ p ∈ r.head?, q.2 + 1 < p.1 := by
  cases r with
  | nil => exact ⟨h, trivial, fun p hp => nomatch hp⟩
  | cons p r => exact ⟨h.1, h.2.2, fun x hx => by cases hx; exact h.2.1⟩
theorem flat_cons (q : Nat × Nat) (r : List (Nat × Nat)) : flatR (q :: r) = runN q ++ flatR r := by simp [flatR]
theorem flat_head {q : Nat × Nat} {r : List (Nat × Nat)} (h : q.1 ≤ q.2) : (flatR (q :: r)).head? = some (q.1 : Int) := by
  rw [flat_cons, runN_eq h]
  cases q.2 - q.1 <;> rfl
theorem flat_asc : ∀ {R : List (Nat × Nat)}, goodR R → ascL (flatR R)
  | [], _ => trivial
  | q :: r, h => by
    obtain ⟨h1, h2, h3⟩ := goodR_one h
    rw [flat_cons, runN_eq h1]
    refine asc_up (flat_asc h2) _ _ fun b hb => ?_
    cases r with
    | nil => cases hb
    | cons p r =>
      rw [flat_head (goodR_one h2).1] at hb
      have := h3 p rfl
      cases hb
      omega
theorem list_flat : ∀ {R : List (Nat × Nat)}, goodR R → listX (flatR R) = joinR R
  | [], _ => by rw [show flatR [] = [] from rfl, listX]; rfl
  | q :: r, h => by
    obtain ⟨h1, h2, h3⟩ := goodR_one h
    have hb : ∀ b ∈ (flatR r).head?, b ≠ (q.1 : Int) + ((q.2 - q.1 : Nat) : Int) + 1 := fun b hb => by
      cases r with
      | nil => cases hb
      | cons p r =>
        rw [flat_head (goodR_one h2).1] at hb
        have := h3 p rfl
        cases hb
        omega
    obtain ⟨t, g1, g2, g3⟩ := runG_up (t := flatR r) (q.2 - q.1) q.1 hb
    have ih := list_flat h2
    rw [flat_cons, runN_eq h1, g1, listG_cons, g2, g3]
    cases r with
    | nil => rfl
    | cons p r =>
      show runT q ++ tailG (flatR (p :: r)) = runT q ++ 44 :: joinR (p :: r)
      congr 1
      have hh := flat_head (r := r) (goodR_one h2).1
      cases hf : flatR (p :: r) with
      | nil => rw [hf] at hh; cases hh
      | cons a s =>
        show 44 :: listX (a :: s) = 44 :: joinR (p :: r)
        rw [← hf, ih]
/-- The runs of numbers that ascend. -/
theorem runs_of : ∀ (n : Nat) (l : List Int), l.length ≤ n → ascL l → (∀ a ∈ l, 0 ≤ a) → ∃ R, goodR R ∧ flatR R = l
  | _, [], _, _, _ => ⟨[], trivial, rfl⟩
  | 0, a :: r, h, _, _ => by simp at h
  | n + 1, a :: r, h, hs, h0 => by
    have ha := h0 a (List.mem_cons_self ..)
    have key : ∀ (r : List Int) (a : Int), ascL (a :: r) → ∃ t, a :: r = upN a (runG a r) ++ t ∧ t.length ≤ r.length ∧ ascL t ∧ (∀ x ∈ t, x ∈ r) ∧ ∀ b ∈ t.head?, a + (runG a r : Nat) + 1 < b := by
      intro r
      induction r with
      | nil => exact fun a _ => ⟨[], rfl, Nat.le_refl _, trivial, fun x hx => hx, fun b hb => nomatch hb⟩
      | cons b r ih =>
        intro a hs
        by_cases hb : b = a + 1
        · subst hb
          obtain ⟨t, g1, g2, g3, g4, g5⟩ := ih (a + 1) hs.2
          refine ⟨t, ?_, by simp; omega, g3, fun x hx => List.mem_cons_of_mem _ (g4 x hx), fun y hy => ?_⟩
          · rw [runG, if_pos rfl]
            show a :: ((a + 1) :: r) = a :: (upN (a + 1) (runG (a + 1) r) ++ t)
            rw [← g1]
          · rw [runG, if_pos rfl]
            have := g5 y hy
            omega
        · refine ⟨b :: r, ?_, Nat.le_refl _, hs.2, fun x hx => hx, fun y hy => ?_⟩
          · rw [runG, if_neg hb]; rfl
          · cases hy
            rw [runG, if_neg hb]
            have := hs.1
            omega
    obtain ⟨t, g1, g2, g3, g4, g5⟩ := key r a hs
    obtain ⟨R, k1, k2⟩ := runs_of n t (by simp at h; omega) g3 (fun x hx => h0 x (List.mem_cons_of_mem _ (g4 x hx)))
    have e1 : ((a.toNat : Nat) : Int) = a := by omega
    refine ⟨(a.toNat, a.toNat + runG a r) :: R, ?_, ?_⟩
    · cases R with
      | nil => show a.toNat ≤ a.toNat + runG a r; omega
      | cons p R =>
        refine ⟨by dsimp only; omega, ?_, k1⟩
        have := flat_head (r := R) (goodR_one k1).1
        rw [k2] at this
        have := g5 _ this
        dsimp only
        omega
    · rw [flat_cons, runN_eq (by dsimp only; omega), k2]
      dsimp only
      rw [e1, Nat.add_sub_cancel_left, ← g1]
theorem dec_no {n : Nat} {c : UInt8} (hc : c.toNat < 48) : ∀ x ∈ Lib.itoa (n : Int), x ≠ c := fun x hx e => by
  have := (itoa_nat n).1.all x hx
  subst e
  omega
theorem runT_no (q : Nat × Nat) : ∀ x ∈ runT q, x ≠ 44 := by
  intro x hx
  unfold runT runS at hx
  rcases List.mem_append.1 hx with hx | hx
  · exact dec_no (by decide) x hx
  · split at hx
    · cases hx
    · rcases List.mem_cons.1 hx with rfl | hx
      · decide
      · rw [show ((q.1 : Int) + ((q.2 - q.1 : Nat) : Int)) = ((q.1 + (q.2 - q.1) : Nat) : Int) from by omega] at hx
        exact dec_no (by decide) x hx
theorem run_runT {q : Nat × Nat} (h : q.1 ≤ q.2) : runI (runT q) = some q := by
  obtain ⟨x, y⟩ := q
  dsimp only at h
  unfold runT runS
  dsimp only
  obtain ⟨d1, d2⟩ := itoa_nat x
  rw [run_parts]
  by_cases hxy : y - x = 0
  · rw [if_pos hxy, List.append_nil, partsI, parts_miss (dec_no (by decide)), List.nil_append]
    dsimp only
    rw [if_pos (dgs_iff.2 d1), d2]
    congr 2
    omega
  · obtain ⟨e1, e2⟩ := itoa_nat y
    rw [if_neg hxy, show ((x : Int) + ((y - x : Nat) : Int)) = (y : Int) from by omega, partsI, parts_hit (dec_no (by decide)), partsI, parts_miss (dec_no (by decide)), List.nil_append, List.nil_append]
    dsimp only
    rw [if_pos ⟨dgs_iff.2 d1, dgs_iff.2 e1, by omega⟩, d2, e2]
theorem runT_run {p : Bs} {q : Nat × Nat} (h : runI p = some q) : runT q = p := by
  unfold runI at h
  rcases cutB_c 45 p with ⟨h1, h2⟩ | ⟨i, h1, h2, h3, h4⟩
  · rw [h1] at h
    dsimp only at h
    rw [if_pos rfl] at h
    split at h
    · rename_i hd
      cases h
      unfold runT runS
      dsimp only
      rw [Nat.sub_self, if_pos rfl, List.append_nil, nat_itoa (dgs_iff.1 hd)]
    · cases h
  · rw [h1] at h
    dsimp only at h
    rw [if_neg (by decide)] at h
    split at h
    · rename_i hd
      obtain ⟨d1, d2, d3⟩ := hd
      cases h
      unfold runT runS
      dsimp only
      rw [if_neg (by omega), nat_itoa (dgs_iff.1 d1), show ((natI (p.take i) : Int) + ((natI (p.drop (i + 1)) - natI (p.take i) : Nat) : Int)) = (natI (p.drop (i + 1)) : Int) from by omega, nat_itoa (dgs_iff.1 d2)]
      exact h4.symm
    · cases h
theorem parts_join : ∀ {R : List (Nat × Nat)}, R ≠ [] → partsI 44 (joinR R) = R.map runT
  | [], h => absurd rfl h
  | [q], _ => by
    show partsI 44 (runT q ++ []) = _
    rw [List.append_nil, partsI, parts_miss (runT_no q)]; rfl
  | q :: p :: r, _ => by
    show partsI 44 (runT q ++ 44 :: joinR (p :: r)) = _
    rw [partsI, parts_hit (runT_no q), parts_join (R := p :: r) (by simp)]; rfl
theorem join_parts : ∀ (n : Nat) (s : Bs) (R : List (Nat × Nat)), s.length ≤ n → partsI 44 s = R.map runT → joinR R = s
  | n, s, R, hn, h => by
    rcases index_c 44 s with ⟨h1, h2⟩ | ⟨i, h1, h2, h3, h4⟩
    · rw [partsI, parts_miss h2, List.nil_append] at h
      cases R with
      | nil => cases h
      | cons q r =>
        cases r with
        | nil =>
          injection h with h5 _
          show runT q ++ [] = s
          rw [List.append_nil, h5]
        | cons p r => cases h
    · have h5 : partsI 44 s = s.take i :: partsI 44 (s.drop (i + 1)) := by
        conv => lhs; rw [h4]
        rw [partsI, parts_hit h3, List.nil_append]
      rw [h5] at h
      cases R with
      | nil => cases h
      | cons q r =>
        injection h with h6 h7
        cases n with
        | zero => omega
        | succ n =>
          have ih := join_parts n (s.drop (i + 1)) r (by rw [List.length_drop]; omega) h7
          cases r with
          | nil => exact absurd h7 (parts_ne _ _ _)
          | cons p r =>
            show runT q ++ 44 :: joinR (p :: r) = s
            rw [ih, ← h6]
            exact h4.symm
theorem runs_join : ∀ {R : List (Nat × Nat)} {last : Option Nat}, goodR R → (∀ q ∈ R.head?, afterI last q.1 = true) → runsI last (R.map runT) = some R
  | [], _, _, _ => rfl
  | q :: r, last, h, ha => by
    obtain ⟨h1, h2, h3⟩ := goodR_one h
    rw [List.map_cons, runsI, run_runT h1]
    dsimp only
    rw [if_pos (ha q rfl), runs_join (last := some q.2) h2 fun p hp => by show decide (q.2 + 1 < p.1) = true; exact decide_eq_true (h3 p hp)]
    rfl
theorem join_runs : ∀ {ps : List Bs} {last : Option Nat} {R : List (Nat × Nat)}, runsI last ps = some R → ps = R.map runT ∧ goodR R ∧ ∀ q ∈ R.head?, afterI last q.1 = true
  | [], _, R, h => by cases h; exact ⟨rfl, trivial, fun q hq => nomatch hq⟩
  | p :: ps, last, R, h => by
    rw [runsI] at h
    split at h
    · cases h
    · rename_i x y hr
      split at h
      · rename_i hl
        cases hR : runsI (some y) ps with
        | none => rw [hR] at h; cases h
        | some R' =>
          rw [hR] at h
          cases h
          obtain ⟨g1, g2, g3⟩ := join_runs hR
          have hxy := run_le hr
          refine ⟨?_, ?_, fun q hq => by cases hq; exact hl⟩
          · rw [List.map_cons, runT_run hr, ← g1]
          · cases R' with
            | nil => exact hxy
            | cons z zs => exact ⟨hxy, of_decide_eq_true (g3 z rfl), g2⟩
      · cases h
theorem last_mem : ∀ {R : List (Nat × Nat)}, goodR R → R ≠ [] → ((lastR R : Nat) : Int) ∈ flatR R
  | [], _, h => absurd rfl h
  | [q], h, _ => by
    show (q.2 : Int) ∈ flatR [q]
    rw [flat_cons]
    have h : q.1 ≤ q.2 := h
    refine List.mem_append.2 (.inl (List.mem_map.2 ⟨q.2 - q.1, List.mem_range.2 (by omega), by rw [show q.1 + (q.2 - q.1) = q.2 by omega]⟩))
  | q :: p :: r, h, _ => by
    rw [flat_cons]
    exact List.mem_append.2 (.inr (last_mem (R := p :: r) h.2.2 (by simp)))
theorem join_head {q : Nat × Nat} {r : List (Nat × Nat)} : joinR (q :: r) ≠ [45] := by
  have h1 := (itoa_nat q.1).1
  cases hi : Lib.itoa (q.1 : Int) with
  | nil => exact absurd hi h1.ne
  | cons c t =>
    intro e
    unfold joinR runT runS at e
    rw [hi] at e
    have hc := h1.all c (by rw [hi]; exact List.mem_cons_self ..)
    rw [List.cons_append, List.cons_append] at e
    injection e with e _
    subst e
    revert hc
    decide
/-- What is written of a list is read as it. -/
theorem parse_list {l : List Int} {w : Bs} (h : listI l = (w, 0)) : parseI w = (l, 0) := by
  unfold listI at h
  split at h
  · cases h
  · rename_i h1
    split at h
    · cases h
    · rename_i h2
      split at h
      · cases h
      · rename_i h3
        split at h
        · rename_i h4
          subst h4
          cases h
          rfl
        · rename_i h4
          cases h
          have h2 : ∀ a ∈ l, 0 ≤ a ∧ a ≤ 1000000000 := fun a ha => of_decide_eq_true (List.all_eq_true.1 (Bool.not_eq_false _ ▸ h2 : l.all okN = true) a ha)
          have h3 := (form_asc l).1 (Decidable.not_not.1 h3)
          obtain ⟨R, k1, k2⟩ := runs_of l.length l (Nat.le_refl _) h3 fun a ha => (h2 a ha).1
          have hR : R ≠ [] := fun e => h4 (by rw [← k2, e]; rfl)
          rw [← k2, list_flat k1]
          unfold parseI
          cases R with
          | nil => exact absurd rfl hR
          | cons q r =>
            rw [if_neg join_head, parts_join hR, runs_join k1 fun _ _ => rfl]
            dsimp only
            have hm := last_mem k1 hR
            rw [k2] at hm
            have := (h2 _ hm).2
            rw [if_neg (by omega), k2, if_neg h1]
theorem flat_ok {R : List (Nat × Nat)} (h : ∀ q ∈ R, q.1 ≤ q.2 ∧ q.2 ≤ lastR R) (hl : lastR R ≤ 1000000000) : (flatR R).all okN = true := by
  rw [List.all_eq_true]
  intro a ha
  obtain ⟨q, hq, ha⟩ := List.mem_flatMap.1 ha
  obtain ⟨i, hi, rfl⟩ := List.mem_map.1 ha
  have := List.mem_range.1 hi
  have := h q hq
  exact decide_eq_true ⟨by omega, by omega⟩
/-- What is read as a list is what is written of it. -/
theorem list_parse {s : Bs} {m : List Int} (h : parseI s = (m, 0)) : listI m = (s, 0) := by
  unfold parseI at h
  split at h
  · rename_i h0
    cases h
    rw [h0]; rfl
  · split at h
    · cases h
    · rename_i R hR
      split at h
      · cases h
      · rename_i h1
        split at h
        · cases h
        · rename_i h2
          cases h
          obtain ⟨g1, g2, _⟩ := join_runs hR
          have hne : R ≠ [] := fun e => parts_ne 44 s [] (by have g1 : partsG 44 [] s = _ := g1; rw [g1, e]; rfl)
          unfold listI
          rw [if_neg h2, flat_ok (runs_le hR) (by omega), if_neg (by decide), if_neg (fun k => k ((form_asc _).2 (flat_asc g2))), if_neg (fun e => ?_), list_flat g2, join_parts s.length s R (Nat.le_refl _) g1]
          have := last_mem g2 hne
          rw [e] at this
          cases this
end Go.Proofs.YtmeapfckibbbbaaGreatDoor.Wo
/- The words as plain functions of bytes: a line of fields, put together. No program is named. -/
namespace Go.Proofs.YtmeapfckibbbbaaGreatDoor.Wo
theorem line_join (l : List Fld) : lineI l = Go.Lib.join (l.map wordOf) [32] := by
  induction l with
  | nil => rfl
  | cons f r ih =>
    cases r with
    | nil => rw [lineI_one, List.map_cons, List.map_nil, Go.Lib.join_one]
    | cons g r =>
      rw [lineI_more, ih]
      simp only [List.map_cons]
      rw [Go.Lib.join_cons, Go.Lib.join_cons]
      simp [Go.Lib.joinTail]
theorem line_snoc (l : List Fld) (f : Fld) : lineI (l ++ [f]) = if l = [] then wordOf f else lineI l ++ 32 :: wordOf f := by
  induction l with
  | nil => rw [if_pos rfl, List.nil_append, lineI_one]
  | cons g r ih =>
    rw [if_neg (by simp)]
    cases r with
    | nil => rw [List.singleton_append, lineI_more, lineI_one, lineI_one]
    | cons h r =>
      rw [List.cons_append, List.cons_append, lineI_more, lineI_more, ← List.cons_append, ih, if_neg (by simp)]
      simp
theorem word_len {f : Fld} (h : longF f = false) : (wordOf f).length ≤ 8002 := by
  have h : f.1.length ≤ 2000 := Nat.le_of_not_lt (of_decide_eq_false h)
  unfold wordOf
  split
  · unfold quoteI
    have := escs_len f.1
    rw [List.length_cons, List.length_append, List.length_singleton]
    omega
  · omega
theorem line_len : ∀ {l : List Fld}, (∀ f ∈ l, longF f = false) → (lineI l).length ≤ 8003 * l.length
  | [], _ => Nat.le_refl _
  | [f], h => by
    rw [lineI_one]
    have := word_len (h f (List.mem_cons_self ..))
    simp; omega
  | f :: g :: r, h => by
    have h1 := word_len (h f (List.mem_cons_self ..))
    have h2 := line_len (l := g :: r) fun x hx => h x (List.mem_cons_of_mem _ hx)
    rw [lineI_more, List.length_append, List.length_cons, List.length_cons (as := g :: r)]
    omega
def formF (l : List Fld) : Int := if l.all goodF = true then 0 else 6
theorem takeF {l : List Fld} {q : Nat} (h : q < l.length) : l.take (q + 1) = l.take q ++ [l.getD q ([], false)] := by
  rw [List.take_add_one, List.getD_eq_getElem?_getD, List.getElem?_eq_getElem h]
  rfl
theorem formF_good {l : List Fld} {f : Fld} (h : goodF f = true) : formF (l ++ [f]) = formF l := by
  unfold formF
  rw [List.all_append, List.all_cons, List.all_nil, h, Bool.and_true, Bool.and_true]
theorem formF_bad {l : List Fld} {f : Fld} (h : goodF f = false) : formF (l ++ [f]) = 6 := by
  unfold formF
  rw [List.all_append, List.all_cons, List.all_nil, h, Bool.false_and, Bool.and_false]
  rfl
theorem long_any {l : List Fld} {q : Nat} (hq : q < l.length) (h : 2000 < (l.getD q ([], false)).1.length) : l.any longF = true := by
  rw [List.any_eq_true]
  refine ⟨l[q], List.getElem_mem hq, ?_⟩
  rw [List.getD_eq_getElem?_getD, List.getElem?_eq_getElem hq] at h
  exact decide_eq_true h
theorem short_all {l : List Fld} (h : ∀ k, k < l.length → (l.getD k ([], false)).1.length ≤ 2000) : l.any longF = false := by
  rw [List.any_eq_false]
  intro x hx
  obtain ⟨i, hi, rfl⟩ := List.mem_iff_getElem.1 hx
  have := h i hi
  rw [List.getD_eq_getElem?_getD, List.getElem?_eq_getElem hi] at this
  unfold longF
  simpa using this
theorem bad_all {l : List Fld} {q : Nat} (hq : q < l.length) (h : goodF (l.getD q ([], false)) = false) : l.all goodF = false := by
  rw [List.all_eq_false]
  refine ⟨l[q], List.getElem_mem hq, ?_⟩
  rw [List.getD_eq_getElem?_getD, List.getElem?_eq_getElem hq] at h
  simpa using h
theorem good_all {l : List Fld} (h : ∀ k, k < l.length → goodF (l.getD k ([], false)) = true) : l.all goodF = true := by
  rw [List.all_eq_true]
  intro x hx
  obtain ⟨i, hi, rfl⟩ := List.mem_iff_getElem.1 hx
  have := h i hi
  rwa [List.getD_eq_getElem?_getD, List.getElem?_eq_getElem hi] at this
end Go.Proofs.YtmeapfckibbbbaaGreatDoor.Wo
/- The words as plain functions of bytes: the nines at the end of a decimal form. No program is named. -/
namespace Go.Proofs.YtmeapfckibbbbaaGreatDoor.Wo
abbrev nineC (c : UInt8) : Bool := decide (c.toNat = 57)
/-- How many nines stand at the end. -/
def nines (l : Bs) : Nat := (l.reverse.takeWhile nineC).length
theorem nines_some {p : Bs} {x : UInt8} (k : Nat) (hx : x.toNat ≠ 57) : nines (p ++ [x] ++ List.replicate k 57) = k := by
  unfold nines
  rw [List.reverse_append, List.reverse_replicate, List.takeWhile_append_of_pos (fun c hc => by rw [List.eq_of_mem_replicate hc]; decide), List.reverse_append]
  simp [List.takeWhile_cons, hx]
theorem nines_all (k : Nat) : nines (List.replicate k 57) = k := by
  unfold nines
  rw [List.reverse_replicate, List.takeWhile_replicate, if_pos (by decide)]
  simp
theorem tail_nine {l : Bs} {i : Nat} (h : ∀ k, i ≤ k → k < l.length → (l.getD k 0).toNat = 57) : l.drop i = List.replicate (l.length - i) 57 := by
  refine List.ext_getElem (by simp) fun j h1 h2 => ?_
  rw [List.length_drop] at h1
  have := h (i + j) (by omega) (by omega)
  rw [List.getD_eq_getElem?_getD, List.getElem?_eq_getElem (by omega)] at this
  rw [List.getElem_drop, List.getElem_replicate]
  exact UInt8.toNat_inj.1 this
theorem nines_at {l : Bs} {i : Nat} (hi : i < l.length) (hx : (l.getD i 0).toNat ≠ 57) (h : ∀ k, i + 1 ≤ k → k < l.length → (l.getD k 0).toNat = 57) : nines l = l.length - 1 - i ∧ l = l.take i ++ [l.getD i 0] ++ List.replicate (nines l) 57 := by
  have ht := tail_nine h
  have hl : l = l.take i ++ [l.getD i 0] ++ List.replicate (l.length - (i + 1)) 57 := by
    rw [← ht, List.append_assoc, List.singleton_append, ← drop_at hi, List.take_append_drop]
  have hn : nines l = l.length - (i + 1) := by
    conv => lhs; rw [hl]
    exact nines_some _ hx
  refine ⟨by omega, ?_⟩
  rw [hn]
  exact hl
theorem nines_none {l : Bs} (h : ∀ k, k < l.length → (l.getD k 0).toNat = 57) : nines l = l.length ∧ l = List.replicate (nines l) 57 := by
  have ht := tail_nine (l := l) (i := 0) fun k _ hk => h k hk
  rw [List.drop_zero, Nat.sub_zero] at ht
  have hn : nines l = l.length := by
    conv => lhs; rw [ht]
    exact nines_all _
  exact ⟨hn, by rw [hn]; exact ht⟩
theorem nines_le (l : Bs) : nines l ≤ l.length := by
  unfold nines
  have := (List.takeWhile_sublist nineC (l := l.reverse)).length_le
  rw [List.length_reverse] at this
  exact this
/-- What a form is, of the nines at its end. -/
theorem nines_form (l : Bs) : (nines l = l.length ∧ l = List.replicate (nines l) 57) ∨ (nines l < l.length ∧ (l.getD (l.length - 1 - nines l) 0).toNat ≠ 57 ∧ l = l.take (l.length - 1 - nines l) ++ [l.getD (l.length - 1 - nines l) 0] ++ List.replicate (nines l) 57) := by
  have key : ∀ n, n ≤ l.length → (∀ k, n ≤ k → k < l.length → (l.getD k 0).toNat = 57) → (nines l = l.length ∧ l = List.replicate (nines l) 57) ∨ (nines l < l.length ∧ (l.getD (l.length - 1 - nines l) 0).toNat ≠ 57 ∧ l = l.take (l.length - 1 - nines l) ++ [l.getD (l.length - 1 - nines l) 0] ++ List.replicate (nines l) 57) := by
    intro n
    induction n with
    | zero => exact fun _ h => .inl (nines_none fun k hk => h k (Nat.zero_le _) hk)
    | succ n ih =>
      intro hn h
      by_cases hx : (l.getD n 0).toNat = 57
      · refine ih (by omega) fun k h1 h2 => ?_
        rcases Nat.lt_or_ge n k with h3 | h3
        · exact h k h3 h2
        · obtain rfl : k = n := by omega
          exact hx
      · obtain ⟨h1, h2⟩ := nines_at (by omega) hx h
        have h3 : l.length - 1 - nines l = n := by omega
        refine .inr ⟨by omega, ?_, ?_⟩
        · rw [h3]; exact hx
        · rw [h3]; exact h2
  exact key l.length (Nat.le_refl _) fun k h1 h2 => absurd h1 (by omega)
theorem next_lt {a b n : Bs} (hb : Dgs b) (hn : Dgs n ∧ natI n = natI a + 1) : decide (cmpI n b < 0) = decide (natI a + 1 < natI b) := by
  have := (cmp_spec hn.1 hb).1
  rw [hn.2] at this
  exact decide_eq_decide.2 this
end Go.Proofs.YtmeapfckibbbbaaGreatDoor.Wo
/- The abstract machine: shifts and bits of signed numbers that are not negative. No program is named. -/
namespace Go.Proofs.YtmeapfckibbbbaaGreatDoor.Am
open Go.RowKit Lw
section
variable {P : Program} {K : Nat → Bool} {o : Oper} {st : AS}
theorem m_shlI {t t' : TypeId} {x y : Operand} {z s : Int} {k : IntKind} (ho : o.op = .binOp .shl t x y t') (hx : aop st x = some (.o (.c (.int .i64 z)))) (hy : aop st y = some (.o (.c (.int k s)))) (hs : 0 ≤ s ∧ s ≤ 64) (hz : -9223372036854775808 ≤ z * 2 ^ s.toNat ∧ z * 2 ^ s.toNat ≤ 9223372036854775807) : StepTo P K o st (· = st.put o.dst (.o (.c (.int .i64 (z * 2 ^ s.toNat))))) := by
  intro X S ν a w Q K' hdst sat hk
  have e1 : a.eval x = .int .i64 z := (aop_ok sat hx).1.1
  have e2 : a.eval y = .int k s := (aop_ok sat hy).1.1
  refine wp_value (w' := w) (u := .int .i64 (z * 2 ^ s.toNat)) ?_ (hk _ S ν _ _ rfl (sat.put hdst (v := .o (.c (.int .i64 (z * 2 ^ s.toNat)))) ⟨rfl, rfl⟩ trivial) ⟨Nat.le_refl _, fun _ h => h, fun ch hc hk => ⟨by rw [(AS.put_hp _ _ _).1]; exact hc, rfl⟩, fun _ _ => rfl⟩)
  rw [exec_binOp ho, Sem.run_bind, Sem.run_bind, e1, e2, show (eqGuard .shl t x y (.int .i64 z) (.int k s)).run P w = .ok () w from rfl, Result.andThen_ok]
  have hb : (binOp .shl t (.int .i64 z) (.int k s)).run P w = .ok (.int .i64 (z * 2 ^ s.toNat)) w := by
    show (Op.shift .shl .i64 z k s).run P w = _
    simp only [Op.shift, if_neg (show ¬ s < 0 by omega), Sem.run_pure]
    rw [show IntKind.i64.bits = 64 from rfl, Nat.min_eq_left (show s.toNat ≤ 64 by omega), wrap_i64 hz]
  rw [hb]; rfl
theorem m_orI {t t' : TypeId} {x y : Operand} {z d : Int} (ho : o.op = .binOp .or t x y t') (hx : aop st x = some (.o (.c (.int .i64 z)))) (hy : aop st y = some (.o (.c (.int .i64 d)))) (hz : 0 ≤ z ∧ z < 9223372036854775808) (hd : 0 ≤ d ∧ d < 9223372036854775808) : StepTo P K o st (· = st.put o.dst (.o (.c (.int .i64 ((z.toNat ||| d.toNat : Nat) : Int))))) := by
  intro X S ν a w Q K' hdst sat hk
  have e1 : a.eval x = .int .i64 z := (aop_ok sat hx).1.1
  have e2 : a.eval y = .int .i64 d := (aop_ok sat hy).1.1
  refine wp_value (w' := w) (u := .int .i64 ((z.toNat ||| d.toNat : Nat) : Int)) ?_ (hk _ S ν _ _ rfl (sat.put hdst (v := .o (.c (.int .i64 ((z.toNat ||| d.toNat : Nat) : Int)))) ⟨rfl, rfl⟩ trivial) ⟨Nat.le_refl _, fun _ h => h, fun ch hc hk => ⟨by rw [(AS.put_hp _ _ _).1]; exact hc, rfl⟩, fun _ _ => rfl⟩)
  rw [exec_binOp ho, Sem.run_bind, Sem.run_bind, e1, e2, show (eqGuard .or t x y (.int .i64 z) (.int .i64 d)).run P w = .ok () w from rfl, Result.andThen_ok]
  have hb : (binOp .or t (.int .i64 z) (.int .i64 d)).run P w = .ok (.int .i64 ((z.toNat ||| d.toNat : Nat) : Int)) w := by
    show (Op.intBits .or .i64 z d).run P w = _
    simp only [Op.intBits, Sem.run_pure]
    have h1 : (BitVec.ofInt 64 z).toNat = z.toNat := by
      rw [BitVec.toNat_ofInt]; omega
    have h2 : (BitVec.ofInt 64 d).toNat = d.toNat := by
      rw [BitVec.toNat_ofInt]; omega
    have h3 : z.toNat ||| d.toNat < 2 ^ 63 := Nat.or_lt_two_pow (by omega) (by omega)
    show Result.ok (Value.int .i64 (IntKind.i64.wrap ((BitVec.ofInt 64 z ||| BitVec.ofInt 64 d).toNat : Nat))) w = _
    rw [BitVec.toNat_or, h1, h2, wrap_i64 (by omega)]
  rw [hb]; rfl
end
end Go.Proofs.YtmeapfckibbbbaaGreatDoor.Am
/- The abstract machine: a scope with labels that are jumped to, back and forward. No program is named. -/
namespace Go.Proofs.YtmeapfckibbbbaaGreatDoor.Am
open Go.RowKit Lw
/-- As Q; by a goto to label l: J l. -/
def jumpF (J : Nat → Act → World → Prop) (Q : Exit → Act → World → Prop) : Exit → Act → World → Prop
  | .goto l, a, w => J l a w
  | e, a, w => Q e a w
theorem wp_scope_fam {P : Program} {a : Act} {w : World} {Q : Exit → Act → World → Prop} {ι : Type} {c : Code} (rest : ι → Code) (lab : ι → Nat) (J : ι → Act → World → Prop) (μ : ι → Nat) (hf : ∀ x, findLabel c (lab x) = some (rest x))
    (first : c.wp P (jumpF (fun l a w => ∃ x, lab x = l ∧ J x a w) Q) a w)
    (pass : ∀ x a w, J x a w → (rest x).wp P (jumpF (fun l a' w' => ∃ y, lab y = l ∧ J y a' w' ∧ μ y < μ x) Q) a w) : (Code.scope c).wp P Q a w := by
  intro b k cs
  have hg : ∀ x, gotoIn (lab x) (.inScope c :: k) = some (.code (rest x) :: .inScope c :: k) := fun x => by simp [gotoIn, hf x]
  have key : ∀ n x a w, μ x = n → J x a w → ∃ e a' w', Q e a' w' ∧ Arrives P (lone (b.at a (.code (rest x) :: .inScope c :: k)) cs w) b k cs e a' w' := by
    intro n
    induction n using Nat.strongRecOn with
    | _ n ih =>
      intro x a w hn hJ
      obtain ⟨e, a₁, w₁, hq, harr⟩ := pass x a w hJ b (.inScope c :: k) cs
      cases e with
      | normal => exact ⟨.normal, a₁, w₁, hq, Steps.trans harr (.one step_inScope)⟩
      | exit id => exact ⟨.exit id, a₁, w₁, hq, fun k' hk => harr k' (by simp [exitTo, hk])⟩
      | goto l' =>
        obtain ⟨y, rfl, hJ', hlt⟩ := hq
        obtain ⟨e₂, a₂, w₂, hq₂, harr₂⟩ := ih _ (by omega) y a₁ w₁ rfl hJ'
        exact ⟨e₂, a₂, w₂, hq₂, .of_steps (harr _ (hg y)) harr₂⟩
      | ret => exact ⟨_, a₁, w₁, hq, harr⟩
      | panic ch => exact ⟨_, a₁, w₁, hq, harr⟩
      | outgrown => exact ⟨_, a₁, w₁, hq, harr⟩
  obtain ⟨e, a₁, w₁, hq, harr⟩ := first b (.inScope c :: k) cs
  cases e with
  | normal => exact ⟨.normal, a₁, w₁, hq, .head step_scope (Steps.trans harr (.one step_inScope))⟩
  | exit id => exact ⟨.exit id, a₁, w₁, hq, fun k' hk => .head step_scope (harr k' (by simp [exitTo, hk]))⟩
  | goto l' =>
    obtain ⟨y, rfl, hJ'⟩ := hq
    obtain ⟨e₂, a₂, w₂, hq₂, harr₂⟩ := key _ y a₁ w₁ rfl hJ'
    exact ⟨e₂, a₂, w₂, hq₂, .of_steps (.head step_scope (harr _ (hg y))) harr₂⟩
  | ret => exact ⟨_, a₁, w₁, hq, .of_steps (.one step_scope) harr⟩
  | panic ch => exact ⟨_, a₁, w₁, hq, .of_steps (.one step_scope) harr⟩
  | outgrown => exact ⟨_, a₁, w₁, hq, .of_steps (.one step_scope) harr⟩
section
variable {P : Program} {X : Cx} {st : AS} {Q : Exit → Act → World → Prop}
/-- A scope: inv says how things stand at each jump, lab which label it goes to; a jump from a jump lowers μ. -/
theorem TE.scopeF {ι : Type} (rest : ι → Code) (lab : ι → Nat) (pre : ι → Prop) (inv : ι → AS) (μ : ι → Nat) {c : Code} (hf : ∀ x, findLabel c (lab x) = some (rest x))
    (first : TE X (c.wpIn Fence.wide 0 P (jumpF (fun l => At X (fun x => lab x = l ∧ pre x) inv) Q)) st)
    (pass : ∀ x, pre x → TE X ((rest x).wpIn Fence.wide 0 P (jumpF (fun l => At X (fun y => lab y = l ∧ pre y ∧ μ y < μ x) inv) Q)) (inv x)) : TE X ((Code.scope c).wpIn Fence.wide 0 P Q) st := by
  intro S ν a w sat
  refine wpIn_wide.2 (wp_scope_fam rest lab (fun x a w => At X (fun y => y = x ∧ pre x) inv a w) μ hf ?_ ?_)
  · refine Code.wp_mono (fun e a' w' q => ?_) (wpIn_wide.1 (first S ν a w sat))
    cases e with
    | goto l' =>
      obtain ⟨y, S', ν', ⟨h1, h2⟩, hs⟩ := q
      exact ⟨y, h1, y, S', ν', ⟨rfl, h2⟩, hs⟩
    | _ => exact q
  · rintro x a w ⟨y, S', ν', ⟨rfl, hy⟩, hs⟩
    refine Code.wp_mono (fun e a' w' q => ?_) (wpIn_wide.1 (pass y hy S' ν' a w hs))
    cases e with
    | goto l' =>
      obtain ⟨z, S', ν', ⟨h1, h2, h3⟩, hs⟩ := q
      exact ⟨z, h1, ⟨z, S', ν', ⟨rfl, h2⟩, hs⟩, h3⟩
    | _ => exact q
def labS {α β : Type} (l1 l2 : Nat) : Sum α β → Nat
  | .inl _ => l1
  | .inr _ => l2
/-- A scope with two labels. -/
theorem TE.scope2 {α β : Type} (l1 l2 : Nat) (pre : Sum α β → Prop) (inv : Sum α β → AS) (μ : Sum α β → Nat) {c r1 r2 : Code} (h1 : findLabel c l1 = some r1) (h2 : findLabel c l2 = some r2)
    (first : TE X (c.wpIn Fence.wide 0 P (jumpF (fun l => At X (fun x => labS l1 l2 x = l ∧ pre x) inv) Q)) st)
    (pass1 : ∀ x, pre (.inl x) → TE X (r1.wpIn Fence.wide 0 P (jumpF (fun l => At X (fun y => labS l1 l2 y = l ∧ pre y ∧ μ y < μ (.inl x)) inv) Q)) (inv (.inl x)))
    (pass2 : ∀ x, pre (.inr x) → TE X (r2.wpIn Fence.wide 0 P (jumpF (fun l => At X (fun y => labS l1 l2 y = l ∧ pre y ∧ μ y < μ (.inr x)) inv) Q)) (inv (.inr x))) : TE X ((Code.scope c).wpIn Fence.wide 0 P Q) st := by
  refine TE.scopeF (fun x => match x with | .inl _ => r1 | .inr _ => r2) (labS l1 l2) pre inv μ ?_ first ?_
  · rintro (x | x)
    · exact h1
    · exact h2
  · rintro (x | x) h
    · exact pass1 x h
    · exact pass2 x h
/-- A scope with two labels; the first part runs into the first one, what stands behind the first one runs into the second one. -/
theorem TE.scope2' {α β : Type} (l1 l2 : Nat) (pre : Sum α β → Prop) (inv : Sum α β → AS) (μ : Sum α β → Nat) {c r1 r2 : Code} (h1 : findLabel c l1 = some (.seq .skip r1)) (h2 : findLabel c l2 = some (.seq .skip r2))
    (first : (∀ x, pre (.inl x) → TE X (r1.wpIn Fence.wide 0 P (jumpF (fun l => At X (fun x => labS l1 l2 x = l ∧ pre x) inv) Q)) (inv (.inl x))) → TE X (c.wpIn Fence.wide 0 P (jumpF (fun l => At X (fun x => labS l1 l2 x = l ∧ pre x) inv) Q)) st)
    (pass1 : ∀ x, pre (.inl x) → (∀ y, pre (.inr y) → μ (.inr y) < μ (.inl x) → TE X (r2.wpIn Fence.wide 0 P (jumpF (fun l => At X (fun z => labS l1 l2 z = l ∧ pre z ∧ μ z < μ (.inl x)) inv) Q)) (inv (.inr y))) → TE X (r1.wpIn Fence.wide 0 P (jumpF (fun l => At X (fun y => labS l1 l2 y = l ∧ pre y ∧ μ y < μ (.inl x)) inv) Q)) (inv (.inl x)))
    (pass2 : ∀ x, pre (.inr x) → TE X (r2.wpIn Fence.wide 0 P (jumpF (fun l => At X (fun y => labS l1 l2 y = l ∧ pre y ∧ μ y < μ (.inr x)) inv) Q)) (inv (.inr x))) : TE X ((Code.scope c).wpIn Fence.wide 0 P Q) st := by
  have p1 : ∀ x, pre (.inl x) → TE X (r1.wpIn Fence.wide 0 P (jumpF (fun l => At X (fun y => labS l1 l2 y = l ∧ pre y ∧ μ y < μ (.inl x)) inv) Q)) (inv (.inl x)) := fun x hx => pass1 x hx fun y hy hm S ν a w sat => Code.wpIn_mono (fun e a' w' q => by
    cases e with
    | goto l' =>
      obtain ⟨z, S', ν', ⟨g1, g2, g3⟩, hs⟩ := q
      exact ⟨z, S', ν', ⟨g1, g2, Nat.lt_trans g3 hm⟩, hs⟩
    | _ => exact q) (pass2 y hy S ν a w sat)
  refine TE.scope2 l1 l2 pre inv μ h1 h2 (first fun x hx S ν a w sat => Code.wpIn_mono (fun e a' w' q => ?_) (p1 x hx S ν a w sat)) (fun x hx => TE.seq (TE.skip (TE.thenN (p1 x hx)))) (fun x hx => TE.seq (TE.skip (TE.thenN (pass2 x hx))))
  cases e with
  | goto l' =>
    obtain ⟨z, S', ν', ⟨g1, g2, g3⟩, hs⟩ := q
    exact ⟨z, S', ν', ⟨g1, g2⟩, hs⟩
  | _ => exact q
variable {J : Nat → Act → World → Prop} {l : Nat}
theorem TE.jfN (h : TE X (Q .normal) st) : TE X (jumpF J Q .normal) st := h
theorem TE.jfR (h : TE X (Q .ret) st) : TE X (jumpF J Q .ret) st := h
theorem TE.jfE {i : Nat} (h : TE X (Q (.exit i)) st) : TE X (jumpF J Q (.exit i)) st := h
theorem TE.jfG (h : TE X (J l) st) : TE X (jumpF J Q (.goto l)) st := h
theorem PanicOk.jumpF (h : PanicOk Q) : PanicOk (Am.jumpF J Q) := h
end
end Go.Proofs.YtmeapfckibbbbaaGreatDoor.Am
/- The bridge: a function's contract of the abstract machine gives the statement's form. Arguments are opened by their types. No program is named. -/
namespace Go.Proofs.YtmeapfckibbbbaaGreatDoor.Am
open Go.RowKit Lw Go.ChangeShapes Go.WideShapes Go.Deep

/-- Cells that read as data of type t are a row of some x. -/
structure DOpen {α : Type} (P : Program) (t : TypeId) (sz : Nat) (row : α → Nat → DC) (good : α → Prop) : Prop where
  cells : P.cellsOf t = sz
  pos : 0 < sz
  get : ∀ {H : Type} {enc : TypeId × Value → H} {w : World} {base : Nat} {spare : Nat → Bool} {held : Bool} {n : Nat} {cs : List Value} {y : DataW H × List MemPlace}, DataW.trod enc P w base spare held n t cs = some y →
    cs.length = sz ∧ ∃ x : α, good x ∧ ∀ j u, cs[j]? = some u → (row x j).rel w (· < w.heap.size) u

section
variable {P : Program} {t e : TypeId}
def strR (s : ByteArray) (_ : Nat) : DC := .c (.string s)
def boolR (b : Bool) (_ : Nat) : DC := .c (.bool b)
def intR (z : Int) (_ : Nat) : DC := .c (.int .i64 z)
def u64R (b : UInt64) (_ : Nat) : DC := .c (.int .u64 b.toNat)
def u16R (b : UInt16) (_ : Nat) : DC := .c (.int .u16 b.toNat)
def u32R' (b : UInt32) (_ : Nat) : DC := .c (.int .u32 b.toNat)
def Any {α : Type} (_ : α) : Prop := True
def strG (s : ByteArray) : Prop := s.size ≤ maxLen
def intG (z : Int) : Prop := -9223372036854775808 ≤ z ∧ z ≤ 9223372036854775807
def listG {α : Type} (g : α → Prop) (l : List α) : Prop := l.length ≤ maxLen ∧ ∀ x ∈ l, g x

theorem one_get {v u : Value} {j : Nat} (h : [v][j]? = some u) : j = 0 ∧ u = v := by
  cases j with
  | zero => exact ⟨rfl, by simpa using h.symm⟩
  | succ j => simp at h
theorem DOpen.str (hc : P.cellsOf t = 1) (ht : P.underlying t = some .string) : DOpen P t 1 strR strG := by
  refine ⟨hc, by decide, fun {H enc w base spare held n cs y} h => ?_⟩
  obtain ⟨s, rfl, _, hs⟩ := DataW.trod_string ht h
  exact ⟨rfl, s, hs, fun j u hu => by obtain ⟨_, rfl⟩ := one_get hu; exact ⟨rfl, rfl⟩⟩
theorem DOpen.bool (hc : P.cellsOf t = 1) (ht : P.underlying t = some .bool) : DOpen P t 1 boolR Any := by
  refine ⟨hc, by decide, fun {H enc w base spare held n cs y} h => ?_⟩
  obtain ⟨s, rfl, _⟩ := DataW.trod_bool ht h
  exact ⟨rfl, s, trivial, fun j u hu => by obtain ⟨_, rfl⟩ := one_get hu; exact ⟨rfl, rfl⟩⟩
theorem wf_bounds {k : IntKind} {z : Int} (h : (Lit.int k z).wf = true) : k.min ≤ z ∧ z ≤ k.max := by simpa [Lit.wf] using h
theorem DOpen.i64 (hc : P.cellsOf t = 1) (ht : P.underlying t = some (.int .i64)) : DOpen P t 1 intR intG := by
  refine ⟨hc, by decide, fun {H enc w base spare held n cs y} h => ?_⟩
  obtain ⟨z, rfl, _, hz⟩ := DataW.trod_int ht h
  refine ⟨rfl, z, ?_, fun j u hu => by obtain ⟨_, rfl⟩ := one_get hu; exact ⟨rfl, rfl⟩⟩
  have := wf_bounds hz
  rwa [show IntKind.i64.min = -9223372036854775808 by decide, show IntKind.i64.max = 9223372036854775807 by decide] at this
theorem DOpen.u8 (hc : P.cellsOf t = 1) (ht : P.underlying t = some (.int .u8)) : DOpen P t 1 byteR Any := by
  refine ⟨hc, by decide, fun {H enc w base spare held n cs y} h => ?_⟩
  obtain ⟨z, rfl, _, hz⟩ := DataW.trod_int ht h
  have := wf_bounds hz
  rw [show IntKind.u8.min = 0 by decide, show IntKind.u8.max = 255 by decide] at this
  refine ⟨rfl, UInt8.ofNat z.toNat, trivial, fun j u hu => ?_⟩
  obtain ⟨_, rfl⟩ := one_get hu
  refine ⟨?_, rfl⟩
  congr 1; simp; omega
theorem DOpen.u16 (hc : P.cellsOf t = 1) (ht : P.underlying t = some (.int .u16)) : DOpen P t 1 u16R Any := by
  refine ⟨hc, by decide, fun {H enc w base spare held n cs y} h => ?_⟩
  obtain ⟨z, rfl, _, hz⟩ := DataW.trod_int ht h
  have := wf_bounds hz
  rw [show IntKind.u16.min = 0 by decide, show IntKind.u16.max = 65535 by decide] at this
  refine ⟨rfl, UInt16.ofNat z.toNat, trivial, fun j u hu => ?_⟩
  obtain ⟨_, rfl⟩ := one_get hu
  refine ⟨?_, rfl⟩
  congr 1; simp; omega
theorem DOpen.u32 (hc : P.cellsOf t = 1) (ht : P.underlying t = some (.int .u32)) : DOpen P t 1 u32R' Any := by
  refine ⟨hc, by decide, fun {H enc w base spare held n cs y} h => ?_⟩
  obtain ⟨z, rfl, _, hz⟩ := DataW.trod_int ht h
  have := wf_bounds hz
  rw [show IntKind.u32.min = 0 by decide, show IntKind.u32.max = 4294967295 by decide] at this
  refine ⟨rfl, UInt32.ofNat z.toNat, trivial, fun j u hu => ?_⟩
  obtain ⟨_, rfl⟩ := one_get hu
  refine ⟨?_, rfl⟩
  congr 1; simp; omega
theorem DOpen.u64 (hc : P.cellsOf t = 1) (ht : P.underlying t = some (.int .u64)) : DOpen P t 1 u64R Any := by
  refine ⟨hc, by decide, fun {H enc w base spare held n cs y} h => ?_⟩
  obtain ⟨z, rfl, _, hz⟩ := DataW.trod_int ht h
  have := wf_bounds hz
  rw [show IntKind.u64.min = 0 by decide, show IntKind.u64.max = 18446744073709551615 by decide] at this
  refine ⟨rfl, UInt64.ofNat z.toNat, trivial, fun j u hu => ?_⟩
  obtain ⟨_, rfl⟩ := one_get hu
  refine ⟨?_, rfl⟩
  congr 1; simp; omega
def slR {α : Type} (sz : Nat) (row : α → Nat → DC) (d : α) (xs : List α) (_ : Nat) : DC := .sl sz xs.length (listC row d xs).cell
theorem spot_at {w : World} {a : Addr} {v : Value} (h : w.cell? a = some v) : ∃ b o, a = ⟨b, o, none⟩ ∧ b < w.heap.size := by
  obtain ⟨b, o, s⟩ := a
  unfold World.cell? at h
  split at h
  · rename_i c _ _ hg
    refine ⟨b, o, ?_, (Array.getElem?_eq_some_iff.1 hg).1⟩
    cases s with
    | none => rfl
    | some x => simp at h
  · cases h
theorem DOpen.slice {α : Type} {sz : Nat} {row : α → Nat → DC} {good : α → Prop} (h : DOpen P e sz row good) (d : α) (hc : P.cellsOf t = 1) (ht : P.underlying t = some (.slice e)) : DOpen P t 1 (slR sz row d) (listG good) := by
  refine ⟨hc, by decide, fun {H enc w base spare held n cs y} hh => ?_⟩
  rcases open_slice ht hh with ⟨rfl, _⟩ | ⟨a, len, cap, m, n, D, Pl, rfl, _, hl, hm, hmm, _, hi⟩
  · exact ⟨rfl, [], ⟨Nat.zero_le _, fun x hx => nomatch hx⟩, fun j u hu => by obtain ⟨_, rfl⟩ := one_get hu; exact ⟨none, 0, rfl, Nat.le_refl _, Nat.zero_le _, fun _ => rfl, fun h => absurd h (Nat.lt_irrefl 0)⟩⟩
  · have hlm : len ≤ m := by rw [hmm]; split <;> omega
    have hch : ∀ i : Fin len, ∃ x : α, good x ∧ ∃ cs' : List Value, cs'.length = sz ∧ (∀ j, j < sz → w.cell? ((a.add (i.1 * sz)).add j) = cs'[j]?) ∧ ∀ j u, cs'[j]? = some u → (row x j).rel w (· < w.heap.size) u := by
      intro i
      obtain ⟨cs', hcs, hx⟩ := hi i.1 (Nat.lt_of_lt_of_le i.2 hlm)
      rw [h.cells] at hcs
      obtain ⟨_, hcl, hat⟩ := World.cells?_some hcs
      obtain ⟨_, x, hg, hr⟩ := h.get hx
      exact ⟨x, hg, cs', hcl, hat, hr⟩
    obtain ⟨f, hf⟩ := Classical.axiomOfChoice hch
    refine ⟨rfl, List.ofFn f, ⟨by simp; omega, fun x hx => ?_⟩, fun j u hu => ?_⟩
    · obtain ⟨q, rfl⟩ := List.mem_ofFn.1 hx
      exact (hf q).1
    obtain ⟨_, rfl⟩ := one_get hu
    refine ⟨some a, cap, by simp, by simpa using hl, hm, (fun h => by cases h), fun h0 => ?_⟩
    have h0' : 0 < len := by simpa using h0
    obtain ⟨_, cs0, hcl0, hat0, _⟩ := hf ⟨0, h0'⟩
    have h00 := hat0 0 h.pos
    have hv : cs0[0]? = some (cs0[0]'(by have := h.pos; omega)) := List.getElem?_eq_getElem _
    rw [hv] at h00
    have e0 : (a.add (0 * sz)).add 0 = a := by simp [Addr.add]
    rw [show ((⟨0, h0'⟩ : Fin len).1) = 0 from rfl, e0] at h00
    obtain ⟨b, o, rfl, hb⟩ := spot_at h00
    refine ⟨b, o, rfl, hb, hb, fun i j hi' hj => ?_⟩
    have hil : i < len := by simpa using hi'
    obtain ⟨_, cs', hcl, hat, hr⟩ := hf ⟨i, hil⟩
    have hj' : cs'[j]? = some (cs'[j]'(by omega)) := List.getElem?_eq_getElem _
    refine ⟨cs'[j]'(by omega), ?_, ?_⟩
    · have := hat j hj
      rw [add_none', add_none'] at this
      rw [this, hj']
    · have := hr j _ hj'
      have hx : (List.ofFn f).getD i d = f ⟨i, hil⟩ := by
        rw [List.getD_eq_getElem?_getD, List.getElem?_eq_getElem (by simpa using hil)]
        simp
      show (row ((List.ofFn f).getD i d) j).rel w (· < w.heap.size) _
      rw [hx]; exact this

/-- Fields from a place on. -/
def DFields {α : Type} (P : Program) (fs : List Field) (off sz : Nat) (row : α → Nat → DC) (good : α → Prop) : Prop :=
  ∀ {H : Type} {enc : TypeId × Value → H} {w : World} {base : Nat} {spare : Nat → Bool} {held : Bool} {n : Nat} {cs : List Value}, (∀ f ∈ fs, ∃ y, DataW.trod enc P w base spare held n f.type ((cs.drop f.offset).take (P.cellsOf f.type)) = some y) →
    ∃ x : α, good x ∧ ∀ j u, j < sz → cs[off + j]? = some u → (row x j).rel w (· < w.heap.size) u
theorem DFields.nil {off : Nat} : DFields P [] off 0 (fun (_ : Unit) _ => .c undef) Any := by
  intro H enc w base spare held n cs h
  exact ⟨(), trivial, fun j u hj => absurd hj (Nat.not_lt_zero j)⟩
def pairR {α β : Type} (sz : Nat) (r1 : α → Nat → DC) (r2 : β → Nat → DC) (x : α × β) (j : Nat) : DC := if j < sz then r1 x.1 j else r2 x.2 (j - sz)
def pairG {α β : Type} (g1 : α → Prop) (g2 : β → Prop) (x : α × β) : Prop := g1 x.1 ∧ g2 x.2
theorem DFields.cons {α β : Type} {f : Field} {fs : List Field} {off s1 s2 : Nat} {r1 : α → Nat → DC} {r2 : β → Nat → DC} {g1 : α → Prop} {g2 : β → Prop} (ho : f.offset = off) (h1 : DOpen P f.type s1 r1 g1) (h2 : DFields P fs (off + s1) s2 r2 g2) : DFields P (f :: fs) off (s1 + s2) (pairR s1 r1 r2) (pairG g1 g2) := by
  intro H enc w base spare held n cs h
  obtain ⟨y, hy⟩ := h f (List.mem_cons_self ..)
  rw [h1.cells, ho] at hy
  obtain ⟨hl, x1, ga, hx1⟩ := h1.get hy
  obtain ⟨x2, gb, hx2⟩ := h2 (enc := enc) (w := w) (base := base) (spare := spare) (held := held) (n := n) (cs := cs) fun f' hf' => h f' (List.mem_cons_of_mem _ hf')
  refine ⟨(x1, x2), ⟨ga, gb⟩, fun j u hj hu => ?_⟩
  unfold pairR
  by_cases hlt : j < s1
  · rw [if_pos hlt]
    refine hx1 j u ?_
    rw [List.getElem?_take_of_lt hlt, List.getElem?_drop]; exact hu
  · rw [if_neg hlt]
    refine hx2 (j - s1) u (by omega) ?_
    rw [show off + s1 + (j - s1) = off + j by omega]; exact hu
theorem DOpen.struct {α : Type} {fs : List Field} {sz : Nat} {row : α → Nat → DC} {good : α → Prop} (hc : P.cellsOf t = sz) (hp : 0 < sz) (ht : P.underlying t = some (.struct fs.toArray)) (h : DFields P fs 0 sz row good) : DOpen P t sz row good := by
  refine ⟨hc, hp, fun {H enc w base spare held n cs y} hh => ?_⟩
  obtain ⟨xs, m, _, _, hl, hlen, hf⟩ := DataW.trod_struct ht hh
  rw [hc] at hl
  refine ⟨hl, ?_⟩
  obtain ⟨x, g, hx⟩ := h (enc := enc) (w := w) (base := base) (spare := spare) (held := held) (n := m) (cs := cs) (fun f hm => by
    obtain ⟨i, hi, e⟩ := List.getElem_of_mem hm
    have := hf i f (by simp [hi, e])
    have hi' : i < xs.length := by rw [hlen]; simpa using hi
    rw [List.getElem?_eq_getElem hi'] at this
    exact ⟨_, this⟩)
  refine ⟨x, g, fun j u hu => hx j u ?_ (by rw [Nat.zero_add]; exact hu)⟩
  have := (List.getElem?_eq_some_iff.1 hu).1; omega
theorem DOpen.map {α β : Type} {sz : Nat} {row : α → Nat → DC} {row' : β → Nat → DC} {good : α → Prop} {good' : β → Prop} (h : DOpen P t sz row good) (f : α → β) (hr : ∀ x j, j < sz → row x j = row' (f x) j) (hg : ∀ x, good x → good' (f x)) : DOpen P t sz row' good' := by
  refine ⟨h.cells, h.pos, fun {H enc w base spare held n cs y} hh => ?_⟩
  obtain ⟨hl, x, g, hx⟩ := h.get hh
  refine ⟨hl, f x, hg x g, fun j u hu => ?_⟩
  rw [← hr x j (by have := (List.getElem?_eq_some_iff.1 hu).1; omega)]
  exact hx j u hu

/-! ### Arguments -/
def rowA {α : Type} (row : α → Nat → DC) (x : α) : Nat → Nat → List A1
  | _, 0 => []
  | i, n + 1 => (row x i).toA :: rowA row x (i + 1) n
/-- An argument of type t is described by mk x, for some x. -/
def AOpen {α : Type} (P : Program) (t : TypeId) (mk : α → AV) (good : α → Prop) : Prop :=
  ∀ {H : Type} {enc : TypeId × Value → H} {w : World} {base : Nat} {v : Value} {d : DataW H} {p : List MemPlace}, Value.okWide P w .any base t v → DataW.Trod enc P w 0 (fun _ => true) true t v d p → ∃ x : α, good x ∧ ∀ ν, (mk x).rel w (· < w.heap.size) ν v
theorem okWide_one {w : World} {r : Reach} {base : Nat} {v : Value} (h : Value.okWide P w r base t v) (hs : ∀ fs, P.underlying t ≠ some (.struct fs)) (ha : ∀ n e, P.underlying t ≠ some (.array n e)) : v.cells.toList = [v] := by
  cases v with
  | agg cs =>
    exfalso
    unfold Value.okWide at h
    split at h
    · rename_i fs e; exact hs _ e
    · rename_i n e' e; exact ha _ _ e
    · unfold Cell.okWide at h
      split at h <;> simp_all [Cell.ok]
  | _ => rfl
theorem AOpen.one {α : Type} {row : α → Nat → DC} {good : α → Prop} (h : DOpen P t 1 row good) (hs : ∀ fs, P.underlying t ≠ some (.struct fs)) (ha : ∀ n e, P.underlying t ≠ some (.array n e)) : AOpen P t (fun x => .o (row x 0).toA) good := by
  intro H enc w base v d p hok ⟨m, hm⟩
  rw [okWide_one hok hs ha] at hm
  obtain ⟨_, x, g, hx⟩ := h.get hm
  exact ⟨x, g, fun ν => DC.toA_rel (hx 0 v rfl)⟩
theorem rowA_rel {α : Type} {row : α → Nat → DC} {x : α} {w : World} {S : Nat → Prop} {ν : Nat → Value} : ∀ {cs : List Value} {i : Nat}, (∀ j u, cs[j]? = some u → (row x (i + j)).rel w S u) → All2 (A1.rel w S ν) (rowA row x i cs.length) cs
  | [], _, _ => trivial
  | c :: cs, i, h => ⟨DC.toA_rel (h 0 c rfl), rowA_rel (cs := cs) (i := i + 1) fun j u hu => by rw [show i + 1 + j = i + (j + 1) by omega]; exact h (j + 1) u hu⟩
theorem AOpen.agg {α : Type} {sz : Nat} {row : α → Nat → DC} {good : α → Prop} (h : DOpen P t sz row good) (hs : (∃ fs, P.underlying t = some (.struct fs)) ∨ ∃ n e, P.underlying t = some (.array n e)) : AOpen P t (fun x => .g (rowA row x 0 sz)) good := by
  intro H enc w base v d p hok ⟨m, hm⟩
  have : ∃ cs, v = .agg cs := by
    unfold Value.okWide at hok
    rcases hs with ⟨fs, e⟩ | ⟨n, e', e⟩ <;> rw [e] at hok <;> exact ⟨_, hok.choose_spec.1⟩
  obtain ⟨cs, rfl⟩ := this
  obtain ⟨hl, x, g, hx⟩ := h.get hm
  refine ⟨x, g, fun ν => ⟨cs.toList, by simp, ?_⟩⟩
  have hl' : cs.toList.length = sz := hl
  rw [← hl']
  exact rowA_rel fun j u hu => by rw [Nat.zero_add]; exact hx j u hu

theorem After.below {ι : Type} {m : Nat} {pre : ι → Prop} {res : ι → AV} {gives : ι → List Chunk} {S S' : Nat → Prop} {ν ν' : Nat → Value} {w w' : World} {e : Ending} {x : ι} {u : Value} (h : After [] m pre res gives S ν w e w' x S' ν' u) : Below w.heap.size w w' :=
  ⟨h.fr.os, h.fr.tape, h.fr.output, h.fr.size, fun k hk => h.fr.block k hk fun hm => by simp [blks] at hm⟩
/-- A law holds of all arguments that a contract speaks of. -/
theorem law_calls {f : FuncId} {args : List AV} {w : World} {vs : List Value} (hcon : Con P f args [] 0 0 (fun _ : Unit => True) (fun _ => .o (.c (.bool true))) (fun _ => [])) (h : All2 (AV.rel w (· < w.heap.size) (fun _ => undef)) args vs) :
    Calls P f vs.toArray w fun e w' => e = .returned (.bool true) ∧ Below w.heap.size w w' :=
  Calls.mono (hcon.call w _ _ vs h (fun c hc => nomatch hc) List.nodup_nil (fun b hb => nomatch hb) fun b hb => hb) fun e w' ⟨x, S', ν', u, ha⟩ => ⟨by rw [ha.e, show u = .bool true from ha.res.1], ha.below⟩
end
end Go.Proofs.YtmeapfckibbbbaaGreatDoor.Am
/- The words as plain functions of bytes: a list expression read, step by step. No program is named. -/
namespace Go.Proofs.YtmeapfckibbbbaaGreatDoor.Wo
theorem decFrom_dig : ∀ {a : Bs} (acc : Nat), (∀ c ∈ a, 48 ≤ c.toNat ∧ c.toNat ≤ 57) → Go.Lib.decFrom acc a = some (natF acc a)
  | [], acc, _ => rfl
  | c :: r, acc, h => by
    have hc := h c (List.mem_cons_self ..)
    rw [Go.Lib.decFrom, show Go.Lib.digitVal c = some (c.toNat - 48) from by unfold Go.Lib.digitVal; rw [if_pos (by omega)]]
    dsimp only
    rw [decFrom_dig _ fun x hx => h x (List.mem_cons_of_mem _ hx)]
    show some (natF (acc * 10 + (c.toNat - 48)) r) = some (natF (10 * acc + (c.toNat - 48)) r)
    rw [Nat.mul_comm]
theorem atoi_dgs {a : Bs} (h : Dgs a) : Go.Lib.atoi a = some (natI a : Int) := by
  cases a with
  | nil => exact absurd rfl h.ne
  | cons c r =>
    have hc := h.all c (List.mem_cons_self ..)
    have h1 : (c == 45) = false := by
      rw [beq_eq_false_iff_ne]
      intro e; subst e; revert hc; decide
    have h2 : (c == 43) = false := by
      rw [beq_eq_false_iff_ne]
      intro e; subst e; revert hc; decide
    unfold Go.Lib.atoi
    dsimp only
    rw [h1, h2]
    rw [if_neg (by decide), if_neg (by decide)]
    unfold Go.Lib.decNat
    rw [if_neg (by simp : ¬ (List.isEmpty (c :: r)) = true), decFrom_dig 0 h.all]
    rfl
def nat2 (e : Bs × Bs) : Nat × Nat := (natI e.1, natI e.2)
abbrev e0 : Bs × Bs := ([], [])
structure RunsAt (P : List Bs) (i : Nat) (E : List (Bs × Bs)) (last : Bs) : Prop where
  le : i ≤ P.length
  len : E.length = i
  all : ∀ e ∈ E, Dgs e.1 ∧ Dgs e.2
  lastE : E ≠ [] → E.getLastD e0 = ((E.getLastD e0).1, last) ∧ Dgs last
  run : (runsI (if i = 0 then none else some (natI last)) (P.drop i)).map (E.map nat2 ++ ·) = runsI none P
theorem runs_start (P : List Bs) : RunsAt P 0 [] [] := ⟨Nat.zero_le _, rfl, (fun e he => by cases he), fun h => absurd rfl h, by rw [if_pos rfl, List.drop_zero]; cases runsI none P <;> rfl⟩
section
variable {P : List Bs} {i : Nat} {E : List (Bs × Bs)} {last : Bs}
theorem drop_str (h : i < P.length) : P.drop i = P.getD i [] :: P.drop (i + 1) := by
  rw [List.drop_eq_getElem_cons h, List.getD_eq_getElem?_getD, List.getElem?_eq_getElem h]; rfl
theorem runs_none (g : RunsAt P i E last) (hi : i < P.length) (h : runI (P.getD i []) = none) : runsI none P = none := by
  rw [← g.run, drop_str hi, runsI, h]; rfl
theorem runs_after (g : RunsAt P i E last) (hi : i < P.length) {x y : Nat} (h : runI (P.getD i []) = some (x, y)) (h0 : i ≠ 0) (ha : ¬ natI last + 1 < x) : runsI none P = none := by
  rw [← g.run, drop_str hi, runsI, h]
  dsimp only
  rw [if_neg h0, if_neg (by show ¬ decide (natI last + 1 < x) = true; rw [decide_eq_true_iff]; exact ha)]
  rfl
theorem runs_more (g : RunsAt P i E last) (hi : i < P.length) {a b : Bs} (h : runI (P.getD i []) = some (natI a, natI b)) (ha : Dgs a) (hb : Dgs b) (hl : i ≠ 0 → natI last + 1 < natI a) : RunsAt P (i + 1) (E ++ [(a, b)]) b := by
  refine ⟨by omega, by rw [List.length_append, g.len]; rfl, fun e he => ?_, fun _ => ⟨by simp, hb⟩, ?_⟩
  · rcases List.mem_append.1 he with he | he
    · exact g.all e he
    · rw [List.mem_singleton.1 he]; exact ⟨ha, hb⟩
  · rw [← g.run, drop_str hi]
    conv => rhs; rw [runsI, h]
    dsimp only
    rw [if_neg (Nat.succ_ne_zero i)]
    have : afterI (if i = 0 then none else some (natI last)) (natI a) = true := by
      by_cases h0 : i = 0
      · rw [if_pos h0]; rfl
      · rw [if_neg h0]; exact decide_eq_true (hl h0)
    rw [if_pos this, List.map_append]
    cases runsI (some (natI b)) (P.drop (i + 1)) with
    | none => rfl
    | some R => simp [nat2]
theorem runs_end (g : RunsAt P i E last) (hi : P.length ≤ i) : runsI none P = some (E.map nat2) := by
  rw [← g.run, List.drop_of_length_le hi]
  simp [runsI]
end
theorem run_a {p : Bs} (h : ∀ x ∈ p, x ≠ 45) (hc : Go.Lib.cut p [45] = (p, [], false)) : runI p = if decI p = true then some (natI p, natI p) else none := by
  unfold runI
  rw [hc]
  dsimp only
  rw [if_pos rfl]
  have : dgsI p = decI p := by
    unfold dgsI
    rw [decide_eq_true, Bool.and_true]
    intro e
    cases p with
    | nil => cases e
    | cons c r => simp at e; exact h c (List.mem_cons_self ..) e
  rw [this]
theorem no_head {p : Bs} (h : ∀ x ∈ p, x ≠ 45) : p.head? ≠ some 45 := by
  intro e
  cases p with
  | nil => cases e
  | cons c r => simp at e; exact h c (List.mem_cons_self ..) e
theorem dgs_of {p : Bs} (h : p.head? ≠ some 45) (hd : decI p = true) : Dgs p := dgs_iff.1 (by unfold dgsI; rw [hd, decide_eq_true h]; rfl)
theorem dgs_no {p : Bs} (h : Dgs p) : decI p = true ∧ p.head? ≠ some 45 := by
  have := dgs_iff.2 h
  unfold dgsI at this
  rw [Bool.and_eq_true, decide_eq_true_iff] at this
  exact this
theorem run_b {p a b : Bs} (hc : Go.Lib.cut p [45] = (a, b, true)) : (¬ (Dgs a ∧ Dgs b ∧ natI a < natI b) → runI p = none) ∧ (Dgs a → Dgs b → natI a < natI b → runI p = some (natI a, natI b)) := by
  unfold runI
  rw [hc]
  dsimp only
  rw [if_neg (by decide)]
  refine ⟨fun h => if_neg fun k => h ⟨dgs_iff.1 k.1, dgs_iff.1 k.2.1, k.2.2⟩, fun h1 h2 h3 => if_pos ⟨dgs_iff.2 h1, dgs_iff.2 h2, h3⟩⟩
theorem parse_none {s : Bs} (h : s ≠ [45]) (hr : runsI none (partsI 44 s) = none) : parseI s = ([], 6) := by
  unfold parseI
  rw [if_neg h, hr]
theorem last_nat {E : List (Bs × Bs)} {last : Bs} (h : E.getLastD e0 = ((E.getLastD e0).1, last)) : lastR (E.map nat2) = natI last := by
  unfold lastR
  cases E with
  | nil =>
    have : last = [] := by have := congrArg Prod.snd h; exact this.symm
    subst this; rfl
  | cons x r =>
    rw [List.getLastD_eq_getLast?, List.getLast?_map]
    rw [List.getLastD_eq_getLast?] at h
    cases hg : (x :: r).getLast? with
    | none => simp at hg
    | some e =>
      rw [hg] at h
      simp only [Option.getD_some] at h
      rw [h]; rfl
theorem flat_snoc (R : List (Nat × Nat)) (q : Nat × Nat) : flatR (R ++ [q]) = flatR R ++ runN q := by simp [flatR]
theorem flat_take_le (R : List (Nat × Nat)) (k : Nat) : (flatR (R.take k)).length ≤ (flatR R).length := by
  conv => rhs; rw [← List.take_append_drop k R]
  unfold flatR
  rw [List.flatMap_append, List.length_append]
  omega
theorem dgs_short {a : Bs} (h : Dgs a) (hn : natI a ≤ 1000000000) : a.length ≤ 18 := by
  refine Nat.le_of_not_lt fun hl => ?_
  have h1 := nat_ge h (by omega)
  have h2 : 10 ^ 18 ≤ 10 ^ (a.length - 1) := Nat.pow_le_pow_right (by decide) (by omega)
  have h3 : (10 : Nat) ^ 18 = 1000000000000000000 := by decide
  omega
theorem takeE {E : List (Bs × Bs)} {q : Nat} (h : q < E.length) : (E.take (q + 1)).map nat2 = (E.take q).map nat2 ++ [nat2 (E.getD q e0)] := by
  rw [List.take_add_one, List.map_append, List.getD_eq_getElem?_getD, List.getElem?_eq_getElem h]
  rfl
theorem getE_mem {E : List (Bs × Bs)} {q : Nat} (h : q < E.length) : E.getD q e0 ∈ E := by
  rw [List.getD_eq_getElem?_getD, List.getElem?_eq_getElem h]
  exact List.getElem_mem h
theorem getP_mem {P : List Bs} {q : Nat} (h : q < P.length) : P.getD q [] ∈ P := by
  rw [List.getD_eq_getElem?_getD, List.getElem?_eq_getElem h]
  exact List.getElem_mem h
def upR (x k : Nat) : List Int := (List.range k).map fun i => ((x + i : Nat) : Int)
theorem upR_snoc (x k : Nat) : upR x (k + 1) = upR x k ++ [((x + k : Nat) : Int)] := by
  unfold upR
  rw [List.range_succ, List.map_append]
  rfl
theorem upR_len (x k : Nat) : (upR x k).length = k := by simp [upR]
theorem upR_run {q : Nat × Nat} {k : Nat} (h : q.2 + 1 - q.1 = k) : upR q.1 k = runN q := by rw [← h]; rfl
end Go.Proofs.YtmeapfckibbbbaaGreatDoor.Wo
/- The abstract machine: a law's contract over a laid table. No program is named. -/
namespace Go.Proofs.YtmeapfckibbbbaaGreatDoor.Am
open Go.RowKit Lw
section
variable {P : Program}
/-- A law holds of all arguments that a contract speaks of, where tables lie as they were laid. -/
theorem law_callsG {f : FuncId} {args : List AV} {takes : List Chunk} {m M : Nat} {w : World} {vs : List Value} {gives : Unit → List Chunk} (hst : allStat takes = true) (hcon : Con P f args takes m M (fun _ : Unit => True) (fun _ => .o (.c (.bool true))) gives) (h : All2 (AV.rel w (· < w.heap.size) (fun _ => undef)) args vs)
    (ht : ∀ c ∈ takes, c.holds w (· < w.heap.size) (fun _ => undef)) : Calls P f vs.toArray w fun e w' => e = .returned (.bool true) ∧ Below w.heap.size w w' := by
  have e0 : blks (fun _ => undef) takes = [] := allStat_blks hst
  refine Calls.mono (hcon.call w _ _ vs h ht (by rw [e0]; exact List.nodup_nil) (fun b hb => by rw [e0] at hb; exact nomatch hb) fun b hb => hb) fun e w' ⟨x, S', ν', u, ha⟩ => ⟨by rw [ha.e, show u = .bool true from ha.res.1], ⟨ha.fr.os, ha.fr.tape, ha.fr.output, ha.fr.size, fun k hk => ha.fr.block k hk fun hm => ?_⟩⟩
  rw [e0] at hm; exact nomatch hm
/-- A variable as it lies. -/
theorem stat_of_var {w : World} {P : Program} {name : String} {g sz : Nat} {cs : Array Value} {ν : Nat → Value} {cell : Nat → DC} (i : Nat) (hv : w.var? P name = some cs) (hg : P.globalNamed name = some g) (hs : cs.size = sz) (hc : ∀ j u, j < sz → cs[j]? = some u → (cell j).rel w (· < w.heap.size) u) : (Chunk.stat i g sz cell).holds w (· < w.heap.size) ν := by
  have h0 := hv
  unfold World.var? at hv
  rw [hg] at hv
  simp only [Option.bind_some] at hv
  split at hv
  · rename_i cs' T fr hh
    cases hv
    have hlt : g < w.heap.size := (Array.getElem?_eq_some_iff.1 hh).1
    refine ⟨hlt, hlt, fun j hj => ?_, _, _, _, hh, hs⟩
    have h1 := World.var?_cell hg h0 j
    have h2 : cs[j]? = some cs[j] := Array.getElem?_eq_getElem (by omega)
    rw [h2] at h1
    exact ⟨_, h1, hc j _ hj h2⟩
  · cases hv
end
end Go.Proofs.YtmeapfckibbbbaaGreatDoor.Am
