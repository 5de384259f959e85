/- The records as plain functions, what is read. No program is named. -/
import Derived.Test.YtlbgepgpihklfaaRecPure
namespace Go.Proofs.Ytlbgepgpihklfaa.Rec
def leVal : Bs → Nat
  | [] => 0
  | b :: l => b.toNat + 256 * leVal l
theorem leVal_lt (l : Bs) : leVal l < 256 ^ l.length := by
  induction l with
  | nil => simp [leVal]
  | cons b l ih =>
    have := b.toNat_lt
    rw [leVal, List.length_cons, Nat.pow_succ]; omega
theorem leVal_append (l m : Bs) : leVal (l ++ m) = leVal l + 256 ^ l.length * leVal m := by
  induction l with
  | nil => simp [leVal]
  | cons b l ih => rw [List.cons_append, leVal, ih, leVal, List.length_cons, Nat.pow_succ]; grind
theorem leVal_snoc (l : Bs) (k : Nat) (h : k < l.length) : leVal (l.take (k + 1)) = leVal (l.take k) + l[k].toNat * 256 ^ k := by
  rw [List.take_succ_eq_append_getElem h, leVal_append, List.length_take, Nat.min_eq_left (by omega)]
  simp [leVal, Nat.mul_comm]
def grpD : Nat → Nat → Bs → Int × Nat × Nat
  | 0, _, _ => (6, 0, 0)
  | _ + 1, _, [] => (10, 0, 0)
  | f + 1, z, b :: r =>
    if f = 0 ∧ 1 < b.toNat % 128 then (6, 0, 0)
    else if b.toNat < 128 then (if f < 9 ∧ b.toNat % 128 = 0 then (6, 0, 0) else (0, z + b.toNat % 128 * 128 ^ (9 - f), 10 - f))
    else grpD f (z + b.toNat % 128 * 128 ^ (9 - f)) r
theorem grpD_bad (k v : Nat) (b : UInt8) (r : Bs) (g : Nat) (hk : k < 10) (hg : b.toNat % 128 = g) (h : (k = 9 ∧ 1 < g) ∨ (b.toNat < 128 ∧ 0 < k ∧ g = 0)) : grpD (10 - k) v (b :: r) = (6, 0, 0) := by
  obtain ⟨f, hf⟩ : ∃ f, 10 - k = f + 1 := ⟨9 - k, by omega⟩
  rw [hf, grpD, hg]
  rcases h with h | h
  · rw [if_pos (by omega)]
  · by_cases h1 : f = 0 ∧ 1 < g
    · rw [if_pos h1]
    · rw [if_neg h1, if_pos h.1, if_pos (by omega)]
theorem grpD_done (k v : Nat) (b : UInt8) (r : Bs) (g : Nat) (hk : k < 10) (hg : b.toNat % 128 = g) (h1 : ¬(k = 9 ∧ 1 < g)) (h2 : b.toNat < 128) (h3 : ¬(0 < k ∧ g = 0)) : grpD (10 - k) v (b :: r) = (0, v + g * 128 ^ k, k + 1) := by
  obtain ⟨f, hf⟩ : ∃ f, 10 - k = f + 1 := ⟨9 - k, by omega⟩
  rw [hf, grpD, hg, if_neg (by omega), if_pos h2, if_neg (by omega), show 9 - f = k by omega, show 10 - f = k + 1 by omega]
theorem grpD_on (k v : Nat) (b : UInt8) (r : Bs) (g : Nat) (hk : k < 10) (hg : b.toNat % 128 = g) (h1 : ¬(k = 9 ∧ 1 < g)) (h2 : ¬ b.toNat < 128) : grpD (10 - k) v (b :: r) = grpD (10 - (k + 1)) (v + g * 128 ^ k) r := by
  obtain ⟨f, hf⟩ : ∃ f, 10 - k = f + 1 := ⟨9 - k, by omega⟩
  rw [hf, grpD, hg, if_neg (by omega), if_neg h2, show 9 - f = k by omega, show 10 - (k + 1) = f by omega]
theorem grpD_lt (f z : Nat) (rest : Bs) (hf : f ≤ 10) (hz : z < 128 ^ (10 - f)) : (grpD f z rest).2.1 < 18446744073709551616 := by
  induction f generalizing z rest with
  | zero => simp [grpD]
  | succ f ih =>
    cases rest with
    | nil => simp [grpD]
    | cons b r =>
      have hg : b.toNat % 128 < 128 := Nat.mod_lt _ (by decide)
      generalize hgd : b.toNat % 128 = g at *
      rw [grpD, hgd]
      rw [show 10 - (f + 1) = 9 - f by omega] at hz
      have h9 : (128 : Nat) ^ 9 = 9223372036854775808 := by decide
      by_cases h1 : f = 0 ∧ 1 < g
      · rw [if_pos h1]; decide
      · rw [if_neg h1]
        by_cases h0 : f = 0
        · subst h0
          have hgp : g * 128 ^ 9 ≤ 1 * 128 ^ 9 := Nat.mul_le_mul_right _ (by omega)
          by_cases h2 : b.toNat < 128
          · rw [if_pos h2]
            split
            · decide
            · show z + g * 128 ^ 9 < _; omega
          · rw [if_neg h2]; simp [grpD]
        · have e : 128 ^ (10 - f) = 128 ^ (9 - f) * 128 := by rw [show 10 - f = (9 - f) + 1 by omega, Nat.pow_succ]
          have hgp : g * 128 ^ (9 - f) ≤ 127 * 128 ^ (9 - f) := Nat.mul_le_mul_right _ (by omega)
          have hlt : z + g * 128 ^ (9 - f) < 128 ^ (10 - f) := by omega
          by_cases h2 : b.toNat < 128
          · rw [if_pos h2]
            split
            · decide
            · show z + g * 128 ^ (9 - f) < _
              have : 128 ^ (10 - f) ≤ 128 ^ 9 := Nat.pow_le_pow_right (by decide) (by omega)
              omega
          · rw [if_neg h2]; exact ih _ _ (by omega) hlt
def cntD (limit : Nat) (rest : Bs) : Int × Nat × Nat :=
  if (grpD 10 0 rest).1 ≠ 0 then ((grpD 10 0 rest).1, 0, 0) else if limit < (grpD 10 0 rest).2.1 then (3, 0, 0) else grpD 10 0 rest
def rcZ : RcT := (0, ⟨#[]⟩, [])
def oneD (k : Nat) (rest : Bs) : Int × RcT × Nat :=
  if 0 < widthN k then (if rest.length < widthN k then (10, rcZ, 0) else (0, (UInt64.ofNat (leVal (rest.take (widthN k))), ⟨#[]⟩, []), widthN k))
  else if k = 118 then (if (grpD 10 0 rest).1 ≠ 0 then ((grpD 10 0 rest).1, rcZ, 0) else (0, (UInt64.ofNat (grpD 10 0 rest).2.1, ⟨#[]⟩, []), (grpD 10 0 rest).2.2))
  else if k = 115 then
    (if (cntD 400 rest).1 ≠ 0 then ((cntD 400 rest).1, rcZ, 0)
     else if rest.length < (cntD 400 rest).2.2 + (cntD 400 rest).2.1 then (10, rcZ, 0)
     else (0, (0, ⟨((rest.drop (cntD 400 rest).2.2).take (cntD 400 rest).2.1).toArray⟩, []), (cntD 400 rest).2.2 + (cntD 400 rest).2.1))
  else
    (if (cntD 60 rest).1 ≠ 0 then ((cntD 60 rest).1, rcZ, 0)
     else if rest.length < (cntD 60 rest).2.2 + 4 * (cntD 60 rest).2.1 then (10, rcZ, 0)
     else (0, (0, ⟨#[]⟩, (List.range (cntD 60 rest).2.1).map fun i => UInt32.ofNat (leVal ((rest.drop ((cntD 60 rest).2.2 + 4 * i)).take 4))), (cntD 60 rest).2.2 + 4 * (cntD 60 rest).2.1))
def decL : Bs → Bs → List RcT → Nat → Int × List RcT × Nat
  | [], _, out, at_ => if 4000 < at_ then (3, [], 0) else (0, out, at_)
  | k :: s, bs, out, at_ => if (oneD k.toNat (bs.drop at_)).1 ≠ 0 then ((oneD k.toNat (bs.drop at_)).1, [], 0) else decL s bs (out ++ [(oneD k.toNat (bs.drop at_)).2.1]) (at_ + (oneD k.toNat (bs.drop at_)).2.2)
def decI (s bs : Bs) : Int × List RcT × Nat := if formI s ≠ 0 then (formI s, [], 0) else decL s bs [] 0
theorem drop_beq {α : Type} [BEq α] {xs ys : List α} {k : Nat} (h1 : k < xs.length) (h2 : k < ys.length) : (xs.drop k == ys.drop k) = (xs[k] == ys[k] && (xs.drop (k + 1) == ys.drop (k + 1))) := by
  rw [List.drop_eq_getElem_cons h1, List.drop_eq_getElem_cons h2]; rfl
def rcEq (x y : RcT) : Bool := x.1 == y.1 && (x.2.1.toList == y.2.1.toList && x.2.2 == y.2.2)
def rcsEq : List RcT → List RcT → Bool
  | [], [] => true
  | x :: r, y :: s => rcEq x y && rcsEq r s
  | _, _ => false
theorem rcsEq_len {xs ys : List RcT} (h : xs.length ≠ ys.length) : rcsEq xs ys = false := by
  induction xs generalizing ys with
  | nil => cases ys with
    | nil => exact absurd rfl h
    | cons y s => rfl
  | cons x r ih => cases ys with
    | nil => rfl
    | cons y s => rw [rcsEq, ih (by simpa using h)]; simp
theorem rcsEq_drop {xs ys : List RcT} {k : Nat} (h1 : k < xs.length) (h2 : k < ys.length) : rcsEq (xs.drop k) (ys.drop k) = (rcEq xs[k] ys[k] && rcsEq (xs.drop (k + 1)) (ys.drop (k + 1))) := by
  rw [List.drop_eq_getElem_cons h1, List.drop_eq_getElem_cons h2]; rfl
def farL : List RcT → Nat → Bool
  | [], n => decide (6000 < n)
  | x :: r, n => if 500 < x.2.1.size ∨ 70 < x.2.2.length then true else farL r (n + x.2.1.size + 4 * x.2.2.length)
def farI (xs : List RcT) : Bool := if 70 < xs.length then true else farL xs 0
theorem farL_drop {xs : List RcT} {k m : Nat} (h : k < xs.length) : farL (xs.drop k) m = if 500 < xs[k].2.1.size ∨ 70 < xs[k].2.2.length then true else farL (xs.drop (k + 1)) (m + xs[k].2.1.size + 4 * xs[k].2.2.length) := by
  rw [List.drop_eq_getElem_cons h]; rfl
theorem valI_len (k : Nat) (x : RcT) : (valI k x).2.length ≤ 410 := by
  unfold valI
  have h1 := grpI_len x.1.toNat
  have h2 := grpI_len x.2.1.size
  have h3 := grpI_len x.2.2.length
  have h4 := listI_len x.2.2
  have h5 : x.2.1.data.toList.length = x.2.1.size := rfl
  split
  · simp
  · split
    · simp
    · split
      · simp
      · split
        · simp; omega
        · split
          · simp only [List.length_append]; omega
          · split
            · simp only [List.length_append]; omega
            · simp only [lowI_len]; unfold widthN; split <;> (try split) <;> (try split) <;> (try split) <;> omega

theorem encL_step (s : Bs) (l : List RcT) (k : Nat) (hs : k < s.length) (hl : k < l.length) (out : Bs) :
    encL (s.drop k) (l.drop k) out = if (valI s[k].toNat l[k]).1 = 0 then encL (s.drop (k + 1)) (l.drop (k + 1)) (out ++ (valI s[k].toNat l[k]).2) else ((valI s[k].toNat l[k]).1, []) := by
  rw [List.drop_eq_getElem_cons hs, List.drop_eq_getElem_cons hl]; rfl

theorem getD_of_lt {α : Type} {l : List α} {k : Nat} (h : k < l.length) (d : α) : l.getD k d = l[k] := by
  rw [List.getD_eq_getElem?_getD, List.getElem?_eq_getElem h]; rfl
theorem encL_stepD (s : Bs) (l : List RcT) (k : Nat) (hs : k < s.length) (hl : k < l.length) (out : Bs) :
    encL (s.drop k) (l.drop k) out = if (valI (s.getD k 0).toNat (l.getD k (0, ⟨#[]⟩, []))).1 = 0 then encL (s.drop (k + 1)) (l.drop (k + 1)) (out ++ (valI (s.getD k 0).toNat (l.getD k (0, ⟨#[]⟩, []))).2) else ((valI (s.getD k 0).toNat (l.getD k (0, ⟨#[]⟩, []))).1, []) := by
  rw [getD_of_lt hs, getD_of_lt hl]; exact encL_step s l k hs hl out
theorem encL_end (s : Bs) (l : List RcT) (out : Bs) : encL (s.drop s.length) l out = if 4000 < out.length then (3, []) else (0, out) := by
  rw [List.drop_length]; cases l <;> rfl
end Go.Proofs.Ytlbgepgpihklfaa.Rec
