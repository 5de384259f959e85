/- Texts of this claim, joined. -/
import Derived.Test.YtmeapfckibbbbaaDoorPk3
import Derived.ScopeJumps
import Derived.Lib.Split
import Derived.LaidLaws
set_option linter.unusedSimpArgs false
set_option linter.unusedVariables false
/- The abstract machine: a scope with labels that are jumped to, back and forward. No program is named. -/
namespace Go.Proofs.YtmeapfckibbbbaaDoor.Am
open Go.RowKit Lw
/-- As Q; by a goto to label l: J l. -/
def jumpF (J : Nat → Act → World → Prop) (Q : Exit → Act → World → Prop) : Exit → Act → World → Prop
  | .goto l, a, w => J l a w
  | e, a, w => Q e a w
theorem wp_scope_fam {P : Program} {a : Act} {w : World} {Q : Exit → Act → World → Prop} {ι : Type} {c : Code} (rest : ι → Code) (lab : ι → Nat) (J : ι → Act → World → Prop) (μ : ι → Nat) (hf : ∀ x, findLabel c (lab x) = some (rest x))
    (first : c.wp P (jumpF (fun l a w => ∃ x, lab x = l ∧ J x a w) Q) a w)
    (pass : ∀ x a w, J x a w → (rest x).wp P (jumpF (fun l a' w' => ∃ y, lab y = l ∧ J y a' w' ∧ μ y < μ x) Q) a w) : (Code.scope c).wp P Q a w := by
  intro b k cs
  have hg : ∀ x, gotoIn (lab x) (.inScope c :: k) = some (.code (rest x) :: .inScope c :: k) := fun x => by simp [gotoIn, hf x]
  have key : ∀ n x a w, μ x = n → J x a w → ∃ e a' w', Q e a' w' ∧ Arrives P (lone (b.at a (.code (rest x) :: .inScope c :: k)) cs w) b k cs e a' w' := by
    intro n
    induction n using Nat.strongRecOn with
    | _ n ih =>
      intro x a w hn hJ
      obtain ⟨e, a₁, w₁, hq, harr⟩ := pass x a w hJ b (.inScope c :: k) cs
      cases e with
      | normal => exact ⟨.normal, a₁, w₁, hq, Steps.trans harr (.one step_inScope)⟩
      | exit id => exact ⟨.exit id, a₁, w₁, hq, fun k' hk => harr k' (by simp [exitTo, hk])⟩
      | goto l' =>
        obtain ⟨y, rfl, hJ', hlt⟩ := hq
        obtain ⟨e₂, a₂, w₂, hq₂, harr₂⟩ := ih _ (by omega) y a₁ w₁ rfl hJ'
        exact ⟨e₂, a₂, w₂, hq₂, .of_steps (harr _ (hg y)) harr₂⟩
      | ret => exact ⟨_, a₁, w₁, hq, harr⟩
      | panic ch => exact ⟨_, a₁, w₁, hq, harr⟩
      | outgrown => exact ⟨_, a₁, w₁, hq, harr⟩
  obtain ⟨e, a₁, w₁, hq, harr⟩ := first b (.inScope c :: k) cs
  cases e with
  | normal => exact ⟨.normal, a₁, w₁, hq, .head step_scope (Steps.trans harr (.one step_inScope))⟩
  | exit id => exact ⟨.exit id, a₁, w₁, hq, fun k' hk => .head step_scope (harr k' (by simp [exitTo, hk]))⟩
  | goto l' =>
    obtain ⟨y, rfl, hJ'⟩ := hq
    obtain ⟨e₂, a₂, w₂, hq₂, harr₂⟩ := key _ y a₁ w₁ rfl hJ'
    exact ⟨e₂, a₂, w₂, hq₂, .of_steps (.head step_scope (harr _ (hg y))) harr₂⟩
  | ret => exact ⟨_, a₁, w₁, hq, .of_steps (.one step_scope) harr⟩
  | panic ch => exact ⟨_, a₁, w₁, hq, .of_steps (.one step_scope) harr⟩
  | outgrown => exact ⟨_, a₁, w₁, hq, .of_steps (.one step_scope) harr⟩
section
variable {P : Program} {X : Cx} {st : AS} {Q : Exit → Act → World → Prop}
/-- A scope: inv says how things stand at each jump, lab which label it goes to; a jump from a jump lowers μ. -/
theorem TE.scopeF {ι : Type} (rest : ι → Code) (lab : ι → Nat) (pre : ι → Prop) (inv : ι → AS) (μ : ι → Nat) {c : Code} (hf : ∀ x, findLabel c (lab x) = some (rest x))
    (first : TE X (c.wpIn Fence.wide 0 P (jumpF (fun l => At X (fun x => lab x = l ∧ pre x) inv) Q)) st)
    (pass : ∀ x, pre x → TE X ((rest x).wpIn Fence.wide 0 P (jumpF (fun l => At X (fun y => lab y = l ∧ pre y ∧ μ y < μ x) inv) Q)) (inv x)) : TE X ((Code.scope c).wpIn Fence.wide 0 P Q) st := by
  intro S ν a w sat
  refine wpIn_wide.2 (wp_scope_fam rest lab (fun x a w => At X (fun y => y = x ∧ pre x) inv a w) μ hf ?_ ?_)
  · refine Code.wp_mono (fun e a' w' q => ?_) (wpIn_wide.1 (first S ν a w sat))
    cases e with
    | goto l' =>
      obtain ⟨y, S', ν', ⟨h1, h2⟩, hs⟩ := q
      exact ⟨y, h1, y, S', ν', ⟨rfl, h2⟩, hs⟩
    | _ => exact q
  · rintro x a w ⟨y, S', ν', ⟨rfl, hy⟩, hs⟩
    refine Code.wp_mono (fun e a' w' q => ?_) (wpIn_wide.1 (pass y hy S' ν' a w hs))
    cases e with
    | goto l' =>
      obtain ⟨z, S', ν', ⟨h1, h2, h3⟩, hs⟩ := q
      exact ⟨z, h1, ⟨z, S', ν', ⟨rfl, h2⟩, hs⟩, h3⟩
    | _ => exact q
def labS {α β : Type} (l1 l2 : Nat) : Sum α β → Nat
  | .inl _ => l1
  | .inr _ => l2
/-- A scope with two labels. -/
theorem TE.scope2 {α β : Type} (l1 l2 : Nat) (pre : Sum α β → Prop) (inv : Sum α β → AS) (μ : Sum α β → Nat) {c r1 r2 : Code} (h1 : findLabel c l1 = some r1) (h2 : findLabel c l2 = some r2)
    (first : TE X (c.wpIn Fence.wide 0 P (jumpF (fun l => At X (fun x => labS l1 l2 x = l ∧ pre x) inv) Q)) st)
    (pass1 : ∀ x, pre (.inl x) → TE X (r1.wpIn Fence.wide 0 P (jumpF (fun l => At X (fun y => labS l1 l2 y = l ∧ pre y ∧ μ y < μ (.inl x)) inv) Q)) (inv (.inl x)))
    (pass2 : ∀ x, pre (.inr x) → TE X (r2.wpIn Fence.wide 0 P (jumpF (fun l => At X (fun y => labS l1 l2 y = l ∧ pre y ∧ μ y < μ (.inr x)) inv) Q)) (inv (.inr x))) : TE X ((Code.scope c).wpIn Fence.wide 0 P Q) st := by
  refine TE.scopeF (fun x => match x with | .inl _ => r1 | .inr _ => r2) (labS l1 l2) pre inv μ ?_ first ?_
  · rintro (x | x)
    · exact h1
    · exact h2
  · rintro (x | x) h
    · exact pass1 x h
    · exact pass2 x h
/-- A scope with two labels; the first part runs into the first one, what stands behind the first one runs into the second one. -/
theorem TE.scope2' {α β : Type} (l1 l2 : Nat) (pre : Sum α β → Prop) (inv : Sum α β → AS) (μ : Sum α β → Nat) {c r1 r2 : Code} (h1 : findLabel c l1 = some (.seq .skip r1)) (h2 : findLabel c l2 = some (.seq .skip r2))
    (first : (∀ x, pre (.inl x) → TE X (r1.wpIn Fence.wide 0 P (jumpF (fun l => At X (fun x => labS l1 l2 x = l ∧ pre x) inv) Q)) (inv (.inl x))) → TE X (c.wpIn Fence.wide 0 P (jumpF (fun l => At X (fun x => labS l1 l2 x = l ∧ pre x) inv) Q)) st)
    (pass1 : ∀ x, pre (.inl x) → (∀ y, pre (.inr y) → μ (.inr y) < μ (.inl x) → TE X (r2.wpIn Fence.wide 0 P (jumpF (fun l => At X (fun z => labS l1 l2 z = l ∧ pre z ∧ μ z < μ (.inl x)) inv) Q)) (inv (.inr y))) → TE X (r1.wpIn Fence.wide 0 P (jumpF (fun l => At X (fun y => labS l1 l2 y = l ∧ pre y ∧ μ y < μ (.inl x)) inv) Q)) (inv (.inl x)))
    (pass2 : ∀ x, pre (.inr x) → TE X (r2.wpIn Fence.wide 0 P (jumpF (fun l => At X (fun y => labS l1 l2 y = l ∧ pre y ∧ μ y < μ (.inr x)) inv) Q)) (inv (.inr x))) : TE X ((Code.scope c).wpIn Fence.wide 0 P Q) st := by
  have p1 : ∀ x, pre (.inl x) → TE X (r1.wpIn Fence.wide 0 P (jumpF (fun l => At X (fun y => labS l1 l2 y = l ∧ pre y ∧ μ y < μ (.inl x)) inv) Q)) (inv (.inl x)) := fun x hx => pass1 x hx fun y hy hm S ν a w sat => Code.wpIn_mono (fun e a' w' q => by
    cases e with
    | goto l' =>
      obtain ⟨z, S', ν', ⟨g1, g2, g3⟩, hs⟩ := q
      exact ⟨z, S', ν', ⟨g1, g2, Nat.lt_trans g3 hm⟩, hs⟩
    | _ => exact q) (pass2 y hy S ν a w sat)
  refine TE.scope2 l1 l2 pre inv μ h1 h2 (first fun x hx S ν a w sat => Code.wpIn_mono (fun e a' w' q => ?_) (p1 x hx S ν a w sat)) (fun x hx => TE.seq (TE.skip (TE.thenN (p1 x hx)))) (fun x hx => TE.seq (TE.skip (TE.thenN (pass2 x hx))))
  cases e with
  | goto l' =>
    obtain ⟨z, S', ν', ⟨g1, g2, g3⟩, hs⟩ := q
    exact ⟨z, S', ν', ⟨g1, g2⟩, hs⟩
  | _ => exact q
variable {J : Nat → Act → World → Prop} {l : Nat}
theorem TE.jfN (h : TE X (Q .normal) st) : TE X (jumpF J Q .normal) st := h
theorem TE.jfR (h : TE X (Q .ret) st) : TE X (jumpF J Q .ret) st := h
theorem TE.jfE {i : Nat} (h : TE X (Q (.exit i)) st) : TE X (jumpF J Q (.exit i)) st := h
theorem TE.jfG (h : TE X (J l) st) : TE X (jumpF J Q (.goto l)) st := h
theorem PanicOk.jumpF (h : PanicOk Q) : PanicOk (Am.jumpF J Q) := h
end
end Go.Proofs.YtmeapfckibbbbaaDoor.Am
/- The words as plain functions of bytes: a string cut at a byte; list expressions read. No program is named. -/
namespace Go.Proofs.YtmeapfckibbbbaaDoor.Wo
def partsG (c : UInt8) (acc : Bs) : Bs → List Bs
  | [] => [acc]
  | x :: r => if x = c then acc :: partsG c [] r else partsG c (acc ++ [x]) r
/-- A string cut at a byte. -/
abbrev partsI (c : UInt8) (s : Bs) : List Bs := partsG c [] s
theorem parts_miss {c : UInt8} : ∀ {s acc : Bs}, (∀ x ∈ s, x ≠ c) → partsG c acc s = [acc ++ s]
  | [], acc, _ => by simp [partsG]
  | x :: r, acc, h => by
    rw [partsG, if_neg (h x (List.mem_cons_self ..)), parts_miss fun y hy => h y (List.mem_cons_of_mem _ hy)]
    simp
theorem parts_hit {c : UInt8} {t : Bs} : ∀ {s acc : Bs}, (∀ x ∈ s, x ≠ c) → partsG c acc (s ++ c :: t) = (acc ++ s) :: partsI c t
  | [], acc, _ => by rw [List.nil_append, partsG, if_pos rfl, List.append_nil]
  | x :: r, acc, h => by
    rw [List.cons_append, partsG, if_neg (h x (List.mem_cons_self ..)), parts_hit fun y hy => h y (List.mem_cons_of_mem _ hy)]
    simp
/-- Where the first c stands. -/
theorem index_c (c : UInt8) (s : Bs) : (Go.Lib.index s [c] = -1 ∧ ∀ x ∈ s, x ≠ c) ∨ ∃ i : Nat, Go.Lib.index s [c] = i ∧ i < s.length ∧ (∀ x ∈ s.take i, x ≠ c) ∧ s = s.take i ++ c :: s.drop (i + 1) := by
  induction s with
  | nil => exact .inl ⟨rfl, fun x hx => nomatch hx⟩
  | cons a r ih =>
    unfold Go.Lib.index
    by_cases hc : c = a
    · subst hc
      refine .inr ⟨0, by simp, by simp, by simp, by simp⟩
    · have hp : List.isPrefixOf [c] (a :: r) = false := by simp [List.isPrefixOf, hc]
      rw [hp]
      simp only [Bool.false_eq_true, if_false]
      rcases ih with ⟨h1, h2⟩ | ⟨i, h1, h2, h3, h4⟩
      · refine .inl ⟨by rw [h1]; rfl, fun x hx => ?_⟩
        rcases List.mem_cons.1 hx with rfl | hx
        · exact fun e => hc e.symm
        · exact h2 x hx
      · refine .inr ⟨i + 1, ?_, by simp; omega, ?_, ?_⟩
        · rw [h1]
          have : ((i : Int) == -1) = false := by simp <;> omega
          rw [this]
          simp
        · intro x hx
          rw [List.take_succ_cons] at hx
          rcases List.mem_cons.1 hx with rfl | hx
          · exact fun e => hc e.symm
          · exact h3 x hx
        · rw [List.take_succ_cons, List.cons_append, List.drop_succ_cons, ← h4]
theorem splitK_parts (c : UInt8) : ∀ (k : Nat) (s : Bs), Go.Lib.count s [c] ≤ k → Go.Lib.splitK [c] 0 k s = partsI c s := by
  intro k
  induction k with
  | zero =>
    intro s h
    rcases index_c c s with ⟨h1, h2⟩ | ⟨i, h1, h2, h3, h4⟩
    · rw [partsI, parts_miss h2]; rfl
    · rw [Go.Lib.count_hit (by simp) h1] at h
      omega
  | succ k ih =>
    intro s h
    unfold Go.Lib.splitK
    rcases index_c c s with ⟨h1, h2⟩ | ⟨i, h1, h2, h3, h4⟩
    · rw [h1, partsI, parts_miss h2]; rfl
    · rw [Go.Lib.count_hit (by simp) h1, List.length_singleton] at h
      have : (Go.Lib.index s [c] == -1) = false := by rw [h1]; simp <;> omega
      rw [this, h1]
      simp only [Bool.false_eq_true, if_false, List.length_singleton, Int.toNat_natCast, Nat.add_zero]
      rw [ih _ (by omega)]
      conv => rhs; rw [h4]
      show _ = partsG c [] (s.take i ++ c :: s.drop (i + 1))
      rw [parts_hit h3]
      rfl
theorem split_parts (c : UInt8) (s : Bs) : Go.Lib.split s [c] = partsI c s := splitK_parts c _ s (Nat.le_refl _)
theorem parts_ne (c : UInt8) : ∀ (s acc : Bs), partsG c acc s ≠ []
  | [], acc => by simp [partsG]
  | x :: r, acc => by
    rw [partsG]
    split
    · simp
    · exact parts_ne c r _
theorem parts_len (c : UInt8) : ∀ (s acc : Bs), (partsG c acc s).length ≤ s.length + 1
  | [], acc => by simp [partsG]
  | x :: r, acc => by
    rw [partsG]
    split
    · have := parts_len c r []
      simp only [List.length_cons]; omega
    · have := parts_len c r (acc ++ [x])
      simp only [List.length_cons]; omega
theorem parts_size (c : UInt8) : ∀ (s acc : Bs), ∀ p ∈ partsG c acc s, p.length ≤ acc.length + s.length
  | [], acc, p, h => by simp [partsG] at h; subst h; simp
  | x :: r, acc, p, h => by
    rw [partsG] at h
    split at h
    · rcases List.mem_cons.1 h with rfl | h
      · simp
      · have := parts_size c r [] p h
        simp at this ⊢; omega
    · have := parts_size c r _ p h
      simp at this ⊢; omega
/-- A run: its first and its last number. -/
def runI (p : Bs) : Option (Nat × Nat) := match Go.Lib.cut p [45] with
  | (a, b, is) => if is = false then (if dgsI a = true then some (natI a, natI a) else none) else if dgsI a = true ∧ dgsI b = true ∧ natI a < natI b then some (natI a, natI b) else none
theorem cutB_c (c : UInt8) (s : Bs) : (Go.Lib.cut s [c] = (s, [], false) ∧ ∀ x ∈ s, x ≠ c) ∨ ∃ i : Nat, Go.Lib.cut s [c] = (s.take i, s.drop (i + 1), true) ∧ i < s.length ∧ (∀ x ∈ s.take i, x ≠ c) ∧ s = s.take i ++ c :: s.drop (i + 1) := by
  unfold Go.Lib.cut
  rcases index_c c s with ⟨h1, h2⟩ | ⟨i, h1, h2, h3, h4⟩
  · refine .inl ⟨?_, h2⟩
    rw [h1]; rfl
  · refine .inr ⟨i, ?_, h2, h3, h4⟩
    rw [h1]
    simp
/-- What a run is, of the parts between the signs. -/
theorem run_parts (p : Bs) : runI p = match partsI 45 p with
    | [a] => if dgsI a = true then some (natI a, natI a) else none
    | [a, b] => if dgsI a = true ∧ dgsI b = true ∧ natI a < natI b then some (natI a, natI b) else none
    | _ => none := by
  unfold runI
  rcases cutB_c 45 p with ⟨h1, h2⟩ | ⟨i, h1, h2, h3, h4⟩
  · rw [h1, partsI, parts_miss h2]; rfl
  · rw [h1]
    conv => rhs; rw [h4]
    rw [partsI, parts_hit h3, List.nil_append]
    dsimp only
    rw [if_neg (by decide)]
    rcases cutB_c 45 (p.drop (i + 1)) with ⟨g1, g2⟩ | ⟨j, g1, g2, g3, g4⟩
    · rw [partsI, parts_miss g2]; rfl
    · have hm : (45 : UInt8) ∈ p.drop (i + 1) := by rw [g4]; simp
      rw [if_neg fun e => by have := (dgs_iff.1 e.2.1).all 45 hm; revert this; decide]
      rw [show partsI 45 (p.drop (i + 1)) = (p.drop (i + 1)).take j :: partsI 45 ((p.drop (i + 1)).drop (j + 1)) from by
        conv => lhs; rw [g4]
        rw [partsI, parts_hit g3, List.nil_append]]
      cases hx : partsI 45 ((p.drop (i + 1)).drop (j + 1)) with
      | nil => exact absurd hx (parts_ne _ _ _)
      | cons y ys => rfl
def afterI : Option Nat → Nat → Bool
  | none, _ => true
  | some z, x => decide (z + 1 < x)
def runsI : Option Nat → List Bs → Option (List (Nat × Nat))
  | _, [] => some []
  | last, p :: ps => match runI p with
    | none => none
    | some (x, y) => if afterI last x = true then (runsI (some y) ps).map ((x, y) :: ·) else none
def runN (x : Nat × Nat) : List Int := (List.range (x.2 + 1 - x.1)).map fun i => ((x.1 + i : Nat) : Int)
def flatR (R : List (Nat × Nat)) : List Int := R.flatMap runN
def lastR (R : List (Nat × Nat)) : Nat := (R.getLastD (0, 0)).2
def parseI (s : Bs) : List Int × Int := if s = [45] then ([], 0) else match runsI none (partsI 44 s) with
  | none => ([], 6)
  | some R => if 1000000000 < lastR R then ([], 7) else if 500 < (flatR R).length then ([], 3) else (flatR R, 0)
theorem runN_len (x : Nat × Nat) : (runN x).length = x.2 + 1 - x.1 := by simp [runN]
theorem run_le {p : Bs} {x y : Nat} (h : runI p = some (x, y)) : x ≤ y := by
  unfold runI at h
  split at h
  split at h
  · split at h
    · cases h; exact Nat.le_refl _
    · cases h
  · split at h
    · rename_i k; cases h; omega
    · cases h
/-- All numbers of runs are at most the last one, and each run ascends. -/
theorem runs_le : ∀ {ps : List Bs} {last : Option Nat} {R : List (Nat × Nat)}, runsI last ps = some R → ∀ q ∈ R, q.1 ≤ q.2 ∧ q.2 ≤ lastR R
  | [], _, R, h => by cases h; intro q hq; cases hq
  | p :: ps, last, R, h => by
    rw [runsI] at h
    split at h
    · cases h
    · rename_i x y hr
      split at h
      · cases hR : runsI (some y) ps with
        | none => rw [hR] at h; cases h
        | some R' =>
          rw [hR] at h
          cases h
          have ih := runs_le hR
          have hxy := run_le hr
          intro q hq
          cases R' with
          | nil =>
            rcases List.mem_cons.1 hq with rfl | hq
            · exact ⟨hxy, Nat.le_refl _⟩
            · cases hq
          | cons z zs =>
            have hl : lastR ((x, y) :: z :: zs) = lastR (z :: zs) := rfl
            rw [hl]
            rcases List.mem_cons.1 hq with rfl | hq
            · refine ⟨hxy, ?_⟩
              have h1 := ih z (List.mem_cons_self ..)
              cases ps with
              | nil => cases hR
              | cons p2 ps2 =>
                rw [runsI] at hR
                split at hR
                · cases hR
                · split at hR
                  · rename_i x2 y2 h2 ha
                    cases hR2 : runsI (some y2) ps2 with
                    | none => rw [hR2] at hR; cases hR
                    | some R2 =>
                      rw [hR2] at hR
                      injection hR with hR
                      injection hR with e1 e2
                      subst e1
                      have := of_decide_eq_true ha
                      dsimp only at h1 ⊢
                      omega
                  · cases hR
            · exact ih q hq
      · cases h
end Go.Proofs.YtmeapfckibbbbaaDoor.Wo
/- The words as plain functions of bytes: what is written is read, what is read is what is written. No program is named. -/
namespace Go.Proofs.YtmeapfckibbbbaaDoor.Wo
theorem esc_head (c : UInt8) : ∃ a t, escI c = a :: t ∧ a.toNat ≠ 34 := by
  unfold escI
  split
  · rename_i h
    exact ⟨c, [], rfl, (of_decide_eq_true h).2.2.1⟩
  · split
    · exact ⟨92, _, rfl, by decide⟩
    · exact ⟨92, _, rfl, by decide⟩
theorem unqG_esc : ∀ (l r : Bs), unqG (l.flatMap escI ++ 34 :: r) = some (l, (l.flatMap escI).length + 1)
  | [], r => by
    rw [List.flatMap_nil, List.nil_append, unqG, if_pos (by decide)]; rfl
  | c :: l, r => by
    obtain ⟨a, t, h1, h2⟩ := esc_head c
    have hd := dec_esc c (l.flatMap escI ++ 34 :: r)
    have hl := (esc_len c).1
    rw [List.flatMap_cons, List.append_assoc]
    have hs : escI c ++ (l.flatMap escI ++ 34 :: r) = a :: (t ++ (l.flatMap escI ++ 34 :: r)) := by rw [h1]; rfl
    rw [hs, unqG, if_neg h2, ← hs]
    rw [dif_neg (by rw [hd]; dsimp only; omega), hd]
    dsimp only
    rw [List.drop_left, unqG_esc l r]
    simp [Nat.add_assoc]
theorem unq_quote (x r : Bs) : unqI (quoteI x ++ r) = (x, (quoteI x).length) := by
  unfold quoteI
  show (if (34 : UInt8).toNat = 34 then finQ [] 1 (unqG ((x.flatMap escI ++ [34]) ++ r)) else ([], 0)) = _
  rw [if_pos (by decide), List.append_assoc, List.singleton_append, unqG_esc]
  simp [finQ]
  omega
theorem unqG_back : ∀ (n : Nat) (s : Bs) (x : Bs) (k : Nat), s.length ≤ n → unqG s = some (x, k) → s = x.flatMap escI ++ 34 :: s.drop k ∧ k = (x.flatMap escI).length + 1
  | n, [], x, k, _, h => by rw [unqG] at h; cases h
  | 0, a :: r, x, k, hn, h => by simp at hn
  | n + 1, a :: r, x, k, hn, h => by
    rw [unqG] at h
    split at h
    · rename_i ha
      obtain rfl : a = 34 := UInt8.toNat_inj.1 ha
      cases h
      exact ⟨rfl, rfl⟩
    · split at h
      · cases h
      · rename_i ha hd
        have hd' : (decI1 (a :: r)).2 ≠ 0 := hd
        obtain ⟨e1, e2⟩ := esc_dec hd'
        cases hg : unqG ((a :: r).drop (decI1 (a :: r)).2) with
        | none => rw [hg] at h; cases h
        | some y =>
          rw [hg] at h
          simp only [Option.map_some, Option.some.injEq, Prod.mk.injEq] at h
          obtain ⟨rfl, rfl⟩ := h
          obtain ⟨f1, f2⟩ := unqG_back n _ y.1 y.2 (by rw [List.length_drop]; simp at hn ⊢; omega) hg
          refine ⟨?_, ?_⟩
          · rw [List.flatMap_cons, List.append_assoc]
            rw [List.drop_drop] at f1
            rw [← f1]
            exact e1
          · rw [List.flatMap_cons, List.length_append, e2, f2]; omega
theorem unq_back {s : Bs} (h : (unqI s).2 ≠ 0) : s = quoteI (unqI s).1 ++ s.drop (unqI s).2 ∧ (quoteI (unqI s).1).length = (unqI s).2 := by
  cases s with
  | nil => exact absurd rfl h
  | cons a r =>
    unfold unqI at h ⊢
    dsimp only at h ⊢
    split at h
    · rename_i ha
      obtain rfl : a = 34 := UInt8.toNat_inj.1 ha
      rw [if_pos ha]
      cases hg : unqG r with
      | none => rw [hg] at h; exact absurd rfl h
      | some y =>
        obtain ⟨f1, f2⟩ := unqG_back r.length r y.1 y.2 (Nat.le_refl _) hg
        rw [Nat.add_comm] at f2
        simp only [finQ, List.nil_append]
        refine ⟨?_, ?_⟩
        · unfold quoteI
          rw [show 1 + y.2 = y.2 + 1 from Nat.add_comm _ _, List.drop_succ_cons, List.cons_append, List.append_assoc, List.singleton_append, ← f1]
        · unfold quoteI
          rw [List.length_cons, List.length_append, List.length_singleton]
          omega
    · exact absurd rfl h
/-- How a field stands in a line. -/
def wordOf (f : Fld) : Bs := if f.2 = true then quoteI f.1 else f.1
def goodF (f : Fld) : Bool := f.2 || bareI f.1
def lineI : List Fld → Bs
  | [] => []
  | f :: r => wordOf f ++ (match r with
    | [] => []
    | g :: r' => 32 :: lineI (g :: r'))
theorem lineI_one (f : Fld) : lineI [f] = wordOf f := by simp [lineI]
theorem lineI_more (f g : Fld) (r : List Fld) : lineI (f :: g :: r) = wordOf f ++ 32 :: lineI (g :: r) := by rw [lineI]
theorem bare_spec {l : Bs} (h : bareI l = true) : l ≠ [] ∧ ∀ c ∈ l, plainC c = true ∧ c.toNat ≠ 32 := by
  unfold bareI at h
  rw [Bool.and_eq_true] at h
  refine ⟨of_decide_eq_true h.1, fun c hc => ?_⟩
  have := List.all_eq_true.1 h.2 c hc
  rw [Bool.and_eq_true] at this
  exact ⟨this.1, of_decide_eq_true this.2⟩
theorem word_ne {f : Fld} (h : goodF f = true) : wordOf f ≠ [] := by
  unfold wordOf
  split
  · exact fun e => nomatch e
  · rename_i hq
    unfold goodF at h
    rw [Bool.or_eq_true] at h
    exact (bare_spec (h.resolve_left hq)).1
theorem wordI_app {l r : Bs} (h : ∀ c ∈ l, c.toNat ≠ 32) (hr : r = [] ∨ ∃ t, r = 32 :: t) : wordI (l ++ r) = l := by
  unfold wordI
  rw [List.takeWhile_append_of_pos (fun c hc => decide_eq_true (h c hc))]
  rcases hr with rfl | ⟨t, rfl⟩
  · simp
  · rw [List.takeWhile_cons, if_neg (by decide)]
    simp
theorem unq_bare {l r : Bs} (h : bareI l = true) : (unqI (l ++ r)).2 = 0 := by
  obtain ⟨h1, h2⟩ := bare_spec h
  cases l with
  | nil => exact absurd rfl h1
  | cons c t =>
    have := (of_decide_eq_true (h2 c (List.mem_cons_self ..)).1).2.2.1
    show (if c.toNat = 34 then _ else ([], 0) : Bs × Nat).2 = 0
    rw [if_neg this]
theorem field_word {f : Fld} (h : goodF f = true) {r : Bs} (hr : r = [] ∨ ∃ t, r = 32 :: t) : fieldI (wordOf f ++ r) = some (f, (wordOf f).length) := by
  obtain ⟨x, q⟩ := f
  cases q with
  | true =>
    show fieldI (quoteI x ++ r) = some ((x, true), (quoteI x).length)
    unfold fieldI
    rw [unq_quote, if_pos (show (quoteI x).length ≠ 0 from fun e => nomatch e)]
  | false =>
    have hb : bareI x = true := h
    show fieldI (x ++ r) = some ((x, false), x.length)
    unfold fieldI
    rw [if_neg (fun k => k (unq_bare hb)), wordI_app (fun c hc => ((bare_spec hb).2 c hc).2) hr, if_pos hb]
/-- The fields of a line that was written are these. -/
theorem fields_line : ∀ {l : List Fld}, l ≠ [] → (∀ f ∈ l, goodF f = true) → fieldsI (lineI l) = some l
  | [], h, _ => absurd rfl h
  | [f], _, hg => by
    have h1 := field_word (hg f (List.mem_cons_self ..)) (r := []) (.inl rfl)
    rw [List.append_nil] at h1
    rw [lineI_one, fieldsI_end h1 (Nat.le_refl _)]
  | f :: g :: r, _, hg => by
    have h1 := field_word (hg f (List.mem_cons_self ..)) (r := 32 :: lineI (g :: r)) (.inr ⟨_, rfl⟩)
    have h2 := fields_line (l := g :: r) (by simp) (fun x hx => hg x (List.mem_cons_of_mem _ hx))
    have h3 : (wordOf f ++ 32 :: lineI (g :: r)).drop ((wordOf f).length + 1) = lineI (g :: r) := by rw [← List.drop_drop, List.drop_left]; rfl
    rw [lineI_more, fieldsI_at h1 (by simp)]
    dsimp only
    rw [h3, h2, show ((wordOf f ++ 32 :: lineI (g :: r)).getD (wordOf f).length 0) = 32 from by simp [List.getD_eq_getElem?_getD]]
    rfl
theorem field_back {s : Bs} {f : Fld} {n : Nat} (h : fieldI s = some (f, n)) : s = wordOf f ++ s.drop n ∧ (wordOf f).length = n ∧ goodF f = true := by
  unfold fieldI at h
  split at h
  · rename_i hn
    cases h
    obtain ⟨h1, h2⟩ := unq_back hn
    exact ⟨h1, h2, rfl⟩
  · split at h
    · rename_i hb
      cases h
      refine ⟨?_, rfl, hb⟩
      show s = wordI s ++ s.drop (wordI s).length
      have := List.takeWhile_append_dropWhile (p := notSp) (l := s)
      conv => lhs; rw [← this]
      unfold wordI
      congr 1
      conv => rhs; rw [← this]
      rw [List.drop_append_of_le_length (by simp [this])]
      simp [this]
    · cases h
/-- The line of the fields that were read is what was read. -/
theorem line_fields : ∀ (n : Nat) (s : Bs) (l : List Fld), s.length ≤ n → fieldsI s = some l → lineI l = s ∧ l ≠ [] ∧ ∀ f ∈ l, goodF f = true
  | n, s, l, hn, h => by
    cases hf : fieldI s with
    | none => rw [fieldsI_no hf] at h; cases h
    | some y =>
      obtain ⟨f, k⟩ := y
      obtain ⟨h1, h2, h3⟩ := field_back hf
      have hw := word_ne h3
      rcases Nat.lt_or_ge k s.length with hk | hk
      · rw [fieldsI_at hf hk] at h
        split at h
        · cases h
        · rename_i hc
          have hc : (s.getD k 0).toNat = 32 := Decidable.not_not.1 hc
          cases hr : fieldsI (s.drop (k + 1)) with
          | none => rw [hr] at h; cases h
          | some l' =>
            rw [hr] at h
            cases h
            cases n with
            | zero => omega
            | succ n =>
              obtain ⟨g1, g2, g3⟩ := line_fields n (s.drop (k + 1)) l' (by rw [List.length_drop]; omega) hr
              refine ⟨?_, by simp, fun x hx => ?_⟩
              · cases l' with
                | nil => exact absurd rfl g2
                | cons g r =>
                  rw [lineI_more, g1]
                  conv => rhs; rw [h1, drop_at hk]
                  rw [show s.getD k 0 = 32 from UInt8.toNat_inj.1 hc]
              · rcases List.mem_cons.1 hx with rfl | hx
                · exact h3
                · exact g3 x hx
      · rw [fieldsI_end hf hk] at h
        cases h
        refine ⟨?_, by simp, fun x hx => ?_⟩
        · rw [lineI_one]
          conv => rhs; rw [h1, List.drop_of_length_le hk]
          simp
        · rcases List.mem_cons.1 hx with rfl | hx
          · exact h3
          · cases hx
def joinI (l : List Fld) : Bs × Int := if 64 < l.length ∨ l.any longF = true then ([], 3) else if l.all goodF = false then ([], 6) else if 8192 < (lineI l).length then ([], 3) else (lineI l, 0)
theorem line_nil {l : List Fld} (hg : ∀ f ∈ l, goodF f = true) (h : lineI l = []) : l = [] := by
  cases l with
  | nil => rfl
  | cons f r =>
    have hw := word_ne (hg f (List.mem_cons_self ..))
    cases r with
    | nil => rw [lineI_one] at h; exact absurd h hw
    | cons g r => rw [lineI_more] at h; exact absurd (List.append_eq_nil_iff.1 h).1 hw
theorem split_join {l : List Fld} {t : Bs} (h : joinI l = (t, 0)) : splitI t = (l, 0) := by
  unfold joinI at h
  split at h
  · cases h
  · rename_i h1
    split at h
    · cases h
    · rename_i h2
      split at h
      · cases h
      · rename_i h3
        injection h with e1 _
        subst e1
        have hg : ∀ f ∈ l, goodF f = true := fun f hf => List.all_eq_true.1 (by simpa using h2) f hf
        unfold splitI
        rw [if_neg h3]
        by_cases h0 : lineI l = []
        · rw [if_pos h0, line_nil hg h0]
        · have hl : l ≠ [] := fun e => h0 (by rw [e]; rfl)
          rw [if_neg h0, fields_line hl hg]
          dsimp only
          rw [if_neg (fun k => h1 k.symm)]
theorem join_split {s : Bs} {l : List Fld} (h : splitI s = (l, 0)) : joinI l = (s, 0) := by
  unfold splitI at h
  split at h
  · cases h
  · rename_i h1
    split at h
    · rename_i h2
      cases h
      subst h2
      rfl
    · split at h
      · cases h
      · rename_i fs hf
        split at h
        · cases h
        · rename_i h3
          cases h
          obtain ⟨g1, g2, g3⟩ := line_fields s.length s l (Nat.le_refl _) hf
          unfold joinI
          rw [if_neg (fun k => h3 k.symm), List.all_eq_true.2 g3, if_neg (by decide), g1, if_neg h1]
end Go.Proofs.YtmeapfckibbbbaaDoor.Wo
/- The words as plain functions of bytes: lists and their expressions are inverse to each other. No program is named. -/
namespace Go.Proofs.YtmeapfckibbbbaaDoor.Wo
def upN (x : Int) : Nat → List Int
  | 0 => [x]
  | n + 1 => x :: upN (x + 1) n
theorem runN_up (x n : Nat) : (List.range (n + 1)).map (fun i => ((x + i : Nat) : Int)) = upN x n := by
  induction n generalizing x with
  | zero => rfl
  | succ n ih =>
    rw [List.range_succ_eq_map, List.map_cons, List.map_map]
    show _ :: _ = _ :: upN _ n
    rw [show ((x : Int) + 1) = ((x + 1 : Nat) : Int) from by omega, ← ih (x + 1)]
    congr 1
    refine List.map_congr_left fun i _ => ?_
    show ((x + (i + 1) : Nat) : Int) = _
    rw [show x + (i + 1) = x + 1 + i by omega]
theorem runN_eq {q : Nat × Nat} (h : q.1 ≤ q.2) : runN q = upN q.1 (q.2 - q.1) := by
  unfold runN
  rw [show q.2 + 1 - q.1 = (q.2 - q.1) + 1 by omega, runN_up]
def ascL : List Int → Prop
  | [] => True
  | [_] => True
  | a :: b :: r => a < b ∧ ascL (b :: r)
theorem asc_iff (l : List Int) : ascL l ↔ ∀ k, k + 1 < l.length → l.getD k 0 < l.getD (k + 1) 0 := by
  induction l with
  | nil => exact ⟨fun _ k h => absurd h (Nat.not_lt_zero _), fun _ => trivial⟩
  | cons a r ih =>
    cases r with
    | nil => exact ⟨fun _ k h => absurd h (by simp), fun _ => trivial⟩
    | cons b r =>
      show (a < b ∧ ascL (b :: r)) ↔ _
      rw [ih]
      constructor
      · rintro ⟨h1, h2⟩ k hk
        cases k with
        | zero => exact h1
        | succ k => exact h2 k (by simpa using hk)
      · intro h
        exact ⟨h 0 (by simp), fun k hk => h (k + 1) (by simpa using hk)⟩
theorem form_asc (l : List Int) : formI l l.length = 0 ↔ ascL l := by
  rw [asc_iff]
  constructor
  · intro h k hk
    refine Decidable.byContradiction fun hn => ?_
    have := formI_bad (l := l) (k := k + 1) (Nat.succ_pos _) (by rw [Nat.add_sub_cancel]; omega) l.length hk
    rw [h] at this
    cases this
  · intro h
    have key : ∀ n, n ≤ l.length → formI l n = 0 := by
      intro n
      induction n with
      | zero => intro _; rfl
      | succ n ih =>
        intro hn
        unfold formI
        rw [if_neg (fun k => ?_), ih (by omega)]
        have := h (n - 1) (by omega)
        rw [show n - 1 + 1 = n by omega] at this
        omega
    exact key _ (Nat.le_refl _)
theorem asc_up {t : List Int} (h : ascL t) : ∀ (n : Nat) (x : Int), (∀ b ∈ t.head?, x + n < b) → ascL (upN x n ++ t)
  | 0, x, hb => by
    cases t with
    | nil => trivial
    | cons b r => exact ⟨by have := hb b rfl; simpa using this, h⟩
  | n + 1, x, hb => by
    have ih := asc_up h n (x + 1) (fun b h' => by have := hb b h'; omega)
    cases n with
    | zero => exact ⟨by omega, ih⟩
    | succ n => exact ⟨by omega, ih⟩
theorem runG_up {t : List Int} : ∀ (n : Nat) (x : Int), (∀ b ∈ t.head?, b ≠ x + n + 1) → ∃ r, upN x n ++ t = x :: r ∧ runG x r = n ∧ r.drop n = t
  | 0, x, hb => by
    refine ⟨t, rfl, ?_, rfl⟩
    cases t with
    | nil => rfl
    | cons b r => rw [runG, if_neg (by have := hb b rfl; simpa using this)]
  | n + 1, x, hb => by
    obtain ⟨r, h1, h2, h3⟩ := runG_up (t := t) n (x + 1) (fun b h' => by have := hb b h'; omega)
    refine ⟨(x + 1) :: r, ?_, ?_, h3⟩
    · rw [← h1]; rfl
    · rw [runG, if_pos rfl, h2]
/-- Runs that stand apart. -/
def goodR : List (Nat × Nat) → Prop
  | [] => True
  | [q] => q.1 ≤ q.2
  | q :: p :: r => q.1 ≤ q.2 ∧ q.2 + 1 < p.1 ∧ goodR (p :: r)
def runT (q : Nat × Nat) : Bs := runS q.1 (q.2 - q.1)
def joinR : List (Nat × Nat) → Bs
  | [] => []
  | q :: r => runT q ++ (match r with
    | [] => []
    | p :: r' => 44 :: joinR (p :: r'))
theorem goodR_one {q : Nat × Nat} {r : List (Nat × Nat)} (h : goodR (q :: r)) : q.1 ≤ q.2 ∧ goodR r ∧ ∀ p ∈ r.head?, q.2 + 1 < p.1 := by
  cases r with
  | nil => exact ⟨h, trivial, fun p hp => nomatch hp⟩
  | cons p r => exact ⟨h.1, h.2.2, fun x hx => by cases hx; exact h.2.1⟩
theorem flat_cons (q : Nat × Nat) (r : List (Nat × Nat)) : flatR (q :: r) = runN q ++ flatR r := by simp [flatR]
theorem flat_head {q : Nat × Nat} {r : List (Nat × Nat)} (h : q.1 ≤ q.2) : (flatR (q :: r)).head? = some (q.1 : Int) := by
  rw [flat_cons, runN_eq h]
  cases q.2 - q.1 <;> rfl
theorem flat_asc : ∀ {R : List (Nat × Nat)}, goodR R → ascL (flatR R)
  | [], _ => trivial
  | q :: r, h => by
    obtain ⟨h1, h2, h3⟩ := goodR_one h
    rw [flat_cons, runN_eq h1]
    refine asc_up (flat_asc h2) _ _ fun b hb => ?_
    cases r with
    | nil => cases hb
    | cons p r =>
      rw [flat_head (goodR_one h2).1] at hb
      have := h3 p rfl
      cases hb
      omega
theorem list_flat : ∀ {R : List (Nat × Nat)}, goodR R → listX (flatR R) = joinR R
  | [], _ => by rw [show flatR [] = [] from rfl, listX]; rfl
  | q :: r, h => by
    obtain ⟨h1, h2, h3⟩ := goodR_one h
    have hb : ∀ b ∈ (flatR r).head?, b ≠ (q.1 : Int) + ((q.2 - q.1 : Nat) : Int) + 1 := fun b hb => by
      cases r with
      | nil => cases hb
      | cons p r =>
        rw [flat_head (goodR_one h2).1] at hb
        have := h3 p rfl
        cases hb
        omega
    obtain ⟨t, g1, g2, g3⟩ := runG_up (t := flatR r) (q.2 - q.1) q.1 hb
    have ih := list_flat h2
    rw [flat_cons, runN_eq h1, g1, listG_cons, g2, g3]
    cases r with
    | nil => rfl
    | cons p r =>
      show runT q ++ tailG (flatR (p :: r)) = runT q ++ 44 :: joinR (p :: r)
      congr 1
      have hh := flat_head (r := r) (goodR_one h2).1
      cases hf : flatR (p :: r) with
      | nil => rw [hf] at hh; cases hh
      | cons a s =>
        show 44 :: listX (a :: s) = 44 :: joinR (p :: r)
        rw [← hf, ih]
/-- The runs of numbers that ascend. -/
theorem runs_of : ∀ (n : Nat) (l : List Int), l.length ≤ n → ascL l → (∀ a ∈ l, 0 ≤ a) → ∃ R, goodR R ∧ flatR R = l
  | _, [], _, _, _ => ⟨[], trivial, rfl⟩
  | 0, a :: r, h, _, _ => by simp at h
  | n + 1, a :: r, h, hs, h0 => by
    have ha := h0 a (List.mem_cons_self ..)
    have key : ∀ (r : List Int) (a : Int), ascL (a :: r) → ∃ t, a :: r = upN a (runG a r) ++ t ∧ t.length ≤ r.length ∧ ascL t ∧ (∀ x ∈ t, x ∈ r) ∧ ∀ b ∈ t.head?, a + (runG a r : Nat) + 1 < b := by
      intro r
      induction r with
      | nil => exact fun a _ => ⟨[], rfl, Nat.le_refl _, trivial, fun x hx => hx, fun b hb => nomatch hb⟩
      | cons b r ih =>
        intro a hs
        by_cases hb : b = a + 1
        · subst hb
          obtain ⟨t, g1, g2, g3, g4, g5⟩ := ih (a + 1) hs.2
          refine ⟨t, ?_, by simp; omega, g3, fun x hx => List.mem_cons_of_mem _ (g4 x hx), fun y hy => ?_⟩
          · rw [runG, if_pos rfl]
            show a :: ((a + 1) :: r) = a :: (upN (a + 1) (runG (a + 1) r) ++ t)
            rw [← g1]
          · rw [runG, if_pos rfl]
            have := g5 y hy
            omega
        · refine ⟨b :: r, ?_, Nat.le_refl _, hs.2, fun x hx => hx, fun y hy => ?_⟩
          · rw [runG, if_neg hb]; rfl
          · cases hy
            rw [runG, if_neg hb]
            have := hs.1
            omega
    obtain ⟨t, g1, g2, g3, g4, g5⟩ := key r a hs
    obtain ⟨R, k1, k2⟩ := runs_of n t (by simp at h; omega) g3 (fun x hx => h0 x (List.mem_cons_of_mem _ (g4 x hx)))
    have e1 : ((a.toNat : Nat) : Int) = a := by omega
    refine ⟨(a.toNat, a.toNat + runG a r) :: R, ?_, ?_⟩
    · cases R with
      | nil => show a.toNat ≤ a.toNat + runG a r; omega
      | cons p R =>
        refine ⟨by dsimp only; omega, ?_, k1⟩
        have := flat_head (r := R) (goodR_one k1).1
        rw [k2] at this
        have := g5 _ this
        dsimp only
        omega
    · rw [flat_cons, runN_eq (by dsimp only; omega), k2]
      dsimp only
      rw [e1, Nat.add_sub_cancel_left, ← g1]
theorem dec_no {n : Nat} {c : UInt8} (hc : c.toNat < 48) : ∀ x ∈ Lib.itoa (n : Int), x ≠ c := fun x hx e => by
  have := (itoa_nat n).1.all x hx
  subst e
  omega
theorem runT_no (q : Nat × Nat) : ∀ x ∈ runT q, x ≠ 44 := by
  intro x hx
  unfold runT runS at hx
  rcases List.mem_append.1 hx with hx | hx
  · exact dec_no (by decide) x hx
  · split at hx
    · cases hx
    · rcases List.mem_cons.1 hx with rfl | hx
      · decide
      · rw [show ((q.1 : Int) + ((q.2 - q.1 : Nat) : Int)) = ((q.1 + (q.2 - q.1) : Nat) : Int) from by omega] at hx
        exact dec_no (by decide) x hx
theorem run_runT {q : Nat × Nat} (h : q.1 ≤ q.2) : runI (runT q) = some q := by
  obtain ⟨x, y⟩ := q
  dsimp only at h
  unfold runT runS
  dsimp only
  obtain ⟨d1, d2⟩ := itoa_nat x
  rw [run_parts]
  by_cases hxy : y - x = 0
  · rw [if_pos hxy, List.append_nil, partsI, parts_miss (dec_no (by decide)), List.nil_append]
    dsimp only
    rw [if_pos (dgs_iff.2 d1), d2]
    congr 2
    omega
  · obtain ⟨e1, e2⟩ := itoa_nat y
    rw [if_neg hxy, show ((x : Int) + ((y - x : Nat) : Int)) = (y : Int) from by omega, partsI, parts_hit (dec_no (by decide)), partsI, parts_miss (dec_no (by decide)), List.nil_append, List.nil_append]
    dsimp only
    rw [if_pos ⟨dgs_iff.2 d1, dgs_iff.2 e1, by omega⟩, d2, e2]
theorem runT_run {p : Bs} {q : Nat × Nat} (h : runI p = some q) : runT q = p := by
  unfold runI at h
  rcases cutB_c 45 p with ⟨h1, h2⟩ | ⟨i, h1, h2, h3, h4⟩
  · rw [h1] at h
    dsimp only at h
    rw [if_pos rfl] at h
    split at h
    · rename_i hd
      cases h
      unfold runT runS
      dsimp only
      rw [Nat.sub_self, if_pos rfl, List.append_nil, nat_itoa (dgs_iff.1 hd)]
    · cases h
  · rw [h1] at h
    dsimp only at h
    rw [if_neg (by decide)] at h
    split at h
    · rename_i hd
      obtain ⟨d1, d2, d3⟩ := hd
      cases h
      unfold runT runS
      dsimp only
      rw [if_neg (by omega), nat_itoa (dgs_iff.1 d1), show ((natI (p.take i) : Int) + ((natI (p.drop (i + 1)) - natI (p.take i) : Nat) : Int)) = (natI (p.drop (i + 1)) : Int) from by omega, nat_itoa (dgs_iff.1 d2)]
      exact h4.symm
    · cases h
theorem parts_join : ∀ {R : List (Nat × Nat)}, R ≠ [] → partsI 44 (joinR R) = R.map runT
  | [], h => absurd rfl h
  | [q], _ => by
    show partsI 44 (runT q ++ []) = _
    rw [List.append_nil, partsI, parts_miss (runT_no q)]; rfl
  | q :: p :: r, _ => by
    show partsI 44 (runT q ++ 44 :: joinR (p :: r)) = _
    rw [partsI, parts_hit (runT_no q), parts_join (R := p :: r) (by simp)]; rfl
theorem join_parts : ∀ (n : Nat) (s : Bs) (R : List (Nat × Nat)), s.length ≤ n → partsI 44 s = R.map runT → joinR R = s
  | n, s, R, hn, h => by
    rcases index_c 44 s with ⟨h1, h2⟩ | ⟨i, h1, h2, h3, h4⟩
    · rw [partsI, parts_miss h2, List.nil_append] at h
      cases R with
      | nil => cases h
      | cons q r =>
        cases r with
        | nil =>
          injection h with h5 _
          show runT q ++ [] = s
          rw [List.append_nil, h5]
        | cons p r => cases h
    · have h5 : partsI 44 s = s.take i :: partsI 44 (s.drop (i + 1)) := by
        conv => lhs; rw [h4]
        rw [partsI, parts_hit h3, List.nil_append]
      rw [h5] at h
      cases R with
      | nil => cases h
      | cons q r =>
        injection h with h6 h7
        cases n with
        | zero => omega
        | succ n =>
          have ih := join_parts n (s.drop (i + 1)) r (by rw [List.length_drop]; omega) h7
          cases r with
          | nil => exact absurd h7 (parts_ne _ _ _)
          | cons p r =>
            show runT q ++ 44 :: joinR (p :: r) = s
            rw [ih, ← h6]
            exact h4.symm
theorem runs_join : ∀ {R : List (Nat × Nat)} {last : Option Nat}, goodR R → (∀ q ∈ R.head?, afterI last q.1 = true) → runsI last (R.map runT) = some R
  | [], _, _, _ => rfl
  | q :: r, last, h, ha => by
    obtain ⟨h1, h2, h3⟩ := goodR_one h
    rw [List.map_cons, runsI, run_runT h1]
    dsimp only
    rw [if_pos (ha q rfl), runs_join (last := some q.2) h2 fun p hp => by show decide (q.2 + 1 < p.1) = true; exact decide_eq_true (h3 p hp)]
    rfl
theorem join_runs : ∀ {ps : List Bs} {last : Option Nat} {R : List (Nat × Nat)}, runsI last ps = some R → ps = R.map runT ∧ goodR R ∧ ∀ q ∈ R.head?, afterI last q.1 = true
  | [], _, R, h => by cases h; exact ⟨rfl, trivial, fun q hq => nomatch hq⟩
  | p :: ps, last, R, h => by
    rw [runsI] at h
    split at h
    · cases h
    · rename_i x y hr
      split at h
      · rename_i hl
        cases hR : runsI (some y) ps with
        | none => rw [hR] at h; cases h
        | some R' =>
          rw [hR] at h
          cases h
          obtain ⟨g1, g2, g3⟩ := join_runs hR
          have hxy := run_le hr
          refine ⟨?_, ?_, fun q hq => by cases hq; exact hl⟩
          · rw [List.map_cons, runT_run hr, ← g1]
          · cases R' with
            | nil => exact hxy
            | cons z zs => exact ⟨hxy, of_decide_eq_true (g3 z rfl), g2⟩
      · cases h
theorem last_mem : ∀ {R : List (Nat × Nat)}, goodR R → R ≠ [] → ((lastR R : Nat) : Int) ∈ flatR R
  | [], _, h => absurd rfl h
  | [q], h, _ => by
    show (q.2 : Int) ∈ flatR [q]
    rw [flat_cons]
    have h : q.1 ≤ q.2 := h
    refine List.mem_append.2 (.inl (List.mem_map.2 ⟨q.2 - q.1, List.mem_range.2 (by omega), by rw [show q.1 + (q.2 - q.1) = q.2 by omega]⟩))
  | q :: p :: r, h, _ => by
    rw [flat_cons]
    exact List.mem_append.2 (.inr (last_mem (R := p :: r) h.2.2 (by simp)))
theorem join_head {q : Nat × Nat} {r : List (Nat × Nat)} : joinR (q :: r) ≠ [45] := by
  have h1 := (itoa_nat q.1).1
  cases hi : Lib.itoa (q.1 : Int) with
  | nil => exact absurd hi h1.ne
  | cons c t =>
    intro e
    unfold joinR runT runS at e
    rw [hi] at e
    have hc := h1.all c (by rw [hi]; exact List.mem_cons_self ..)
    rw [List.cons_append, List.cons_append] at e
    injection e with e _
    subst e
    revert hc
    decide
/-- What is written of a list is read as it. -/
theorem parse_list {l : List Int} {w : Bs} (h : listI l = (w, 0)) : parseI w = (l, 0) := by
  unfold listI at h
  split at h
  · cases h
  · rename_i h1
    split at h
    · cases h
    · rename_i h2
      split at h
      · cases h
      · rename_i h3
        split at h
        · rename_i h4
          subst h4
          cases h
          rfl
        · rename_i h4
          cases h
          have h2 : ∀ a ∈ l, 0 ≤ a ∧ a ≤ 1000000000 := fun a ha => of_decide_eq_true (List.all_eq_true.1 (Bool.not_eq_false _ ▸ h2 : l.all okN = true) a ha)
          have h3 := (form_asc l).1 (Decidable.not_not.1 h3)
          obtain ⟨R, k1, k2⟩ := runs_of l.length l (Nat.le_refl _) h3 fun a ha => (h2 a ha).1
          have hR : R ≠ [] := fun e => h4 (by rw [← k2, e]; rfl)
          rw [← k2, list_flat k1]
          unfold parseI
          cases R with
          | nil => exact absurd rfl hR
          | cons q r =>
            rw [if_neg join_head, parts_join hR, runs_join k1 fun _ _ => rfl]
            dsimp only
            have hm := last_mem k1 hR
            rw [k2] at hm
            have := (h2 _ hm).2
            rw [if_neg (by omega), k2, if_neg h1]
theorem flat_ok {R : List (Nat × Nat)} (h : ∀ q ∈ R, q.1 ≤ q.2 ∧ q.2 ≤ lastR R) (hl : lastR R ≤ 1000000000) : (flatR R).all okN = true := by
  rw [List.all_eq_true]
  intro a ha
  obtain ⟨q, hq, ha⟩ := List.mem_flatMap.1 ha
  obtain ⟨i, hi, rfl⟩ := List.mem_map.1 ha
  have := List.mem_range.1 hi
  have := h q hq
  exact decide_eq_true ⟨by omega, by omega⟩
/-- What is read as a list is what is written of it. -/
theorem list_parse {s : Bs} {m : List Int} (h : parseI s = (m, 0)) : listI m = (s, 0) := by
  unfold parseI at h
  split at h
  · rename_i h0
    cases h
    rw [h0]; rfl
  · split at h
    · cases h
    · rename_i R hR
      split at h
      · cases h
      · rename_i h1
        split at h
        · cases h
        · rename_i h2
          cases h
          obtain ⟨g1, g2, _⟩ := join_runs hR
          have hne : R ≠ [] := fun e => parts_ne 44 s [] (by have g1 : partsG 44 [] s = _ := g1; rw [g1, e]; rfl)
          unfold listI
          rw [if_neg h2, flat_ok (runs_le hR) (by omega), if_neg (by decide), if_neg (fun k => k ((form_asc _).2 (flat_asc g2))), if_neg (fun e => ?_), list_flat g2, join_parts s.length s R (Nat.le_refl _) g1]
          have := last_mem g2 hne
          rw [e] at this
          cases this
end Go.Proofs.YtmeapfckibbbbaaDoor.Wo
/- The abstract machine: a law's contract over a laid table. No program is named. -/
namespace Go.Proofs.YtmeapfckibbbbaaDoor.Am
open Go.RowKit Lw
section
variable {P : Program}
/-- A law holds of all arguments that a contract speaks of, where tables lie as they were laid. -/
theorem law_callsG {f : FuncId} {args : List AV} {takes : List Chunk} {m M : Nat} {w : World} {vs : List Value} {gives : Unit → List Chunk} (hst : allStat takes = true) (hcon : Con P f args takes m M (fun _ : Unit => True) (fun _ => .o (.c (.bool true))) gives) (h : All2 (AV.rel w (· < w.heap.size) (fun _ => undef)) args vs)
    (ht : ∀ c ∈ takes, c.holds w (· < w.heap.size) (fun _ => undef)) : Calls P f vs.toArray w fun e w' => e = .returned (.bool true) ∧ Below w.heap.size w w' := by
  have e0 : blks (fun _ => undef) takes = [] := allStat_blks hst
  refine Calls.mono (hcon.call w _ _ vs h ht (by rw [e0]; exact List.nodup_nil) (fun b hb => by rw [e0] at hb; exact nomatch hb) fun b hb => hb) fun e w' ⟨x, S', ν', u, ha⟩ => ⟨by rw [ha.e, show u = .bool true from ha.res.1], ⟨ha.fr.os, ha.fr.tape, ha.fr.output, ha.fr.size, fun k hk => ha.fr.block k hk fun hm => ?_⟩⟩
  rw [e0] at hm; exact nomatch hm
/-- A variable as it lies. -/
theorem stat_of_var {w : World} {P : Program} {name : String} {g sz : Nat} {cs : Array Value} {ν : Nat → Value} {cell : Nat → DC} (i : Nat) (hv : w.var? P name = some cs) (hg : P.globalNamed name = some g) (hs : cs.size = sz) (hc : ∀ j u, j < sz → cs[j]? = some u → (cell j).rel w (· < w.heap.size) u) : (Chunk.stat i g sz cell).holds w (· < w.heap.size) ν := by
  have h0 := hv
  unfold World.var? at hv
  rw [hg] at hv
  simp only [Option.bind_some] at hv
  split at hv
  · rename_i cs' T fr hh
    cases hv
    have hlt : g < w.heap.size := (Array.getElem?_eq_some_iff.1 hh).1
    refine ⟨hlt, hlt, fun j hj => ?_, _, _, _, hh, hs⟩
    have h1 := World.var?_cell hg h0 j
    have h2 : cs[j]? = some cs[j] := Array.getElem?_eq_getElem (by omega)
    rw [h2] at h1
    exact ⟨_, h1, hc j _ hj h2⟩
  · cases hv
end
end Go.Proofs.YtmeapfckibbbbaaDoor.Am
