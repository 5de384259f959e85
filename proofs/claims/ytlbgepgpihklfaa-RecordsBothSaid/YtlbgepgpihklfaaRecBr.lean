/- A slice's cells as rows. -/
import Derived.Test.YtlbgepgpihklfaaRecB
namespace Go.Proofs.Ytlbgepgpihklfaa.Rec
open Go.RowKit Lw

theorem flatten_src {α : Type} {vss : List (List α)} {m : Nat} (hl : ∀ us ∈ vss, us.length = m) (j : Nat) (u : α) (hu : vss.flatten[j]? = some u) : ∃ i k, ∃ h : i < vss.length, vss[i][k]? = some u ∧ j = i * m + k := by
  induction vss generalizing j with
  | nil => simp at hu
  | cons us vss ih =>
    have h0 : us.length = m := hl us (by simp)
    rw [List.flatten_cons] at hu
    by_cases hj : j < us.length
    · rw [List.getElem?_append_left hj] at hu
      exact ⟨0, j, by simp, hu, by simp⟩
    · rw [List.getElem?_append_right (by omega)] at hu
      obtain ⟨i, k, h, h1, h2⟩ := ih (fun us hus => hl us (by simp [hus])) _ hu
      exact ⟨i + 1, k, by simp; omega, h1, by rw [Nat.add_mul]; omega⟩
theorem flatten_len {α : Type} {vss : List (List α)} {m : Nat} (hl : ∀ us ∈ vss, us.length = m) : vss.flatten.length = vss.length * m := by
  induction vss with
  | nil => simp
  | cons us vss ih => rw [List.flatten_cons, List.length_append, ih (fun us hus => hl us (by simp [hus])), hl us (by simp), List.length_cons, Nat.add_mul]; omega

theorem sl_rows {α : Type} {E : El α} {w : World} {S : Nat → Prop} {A : Option Addr} {n : Nat} {xs : List α} (h : E.Sl w S A n xs) :
    ∃ vss : List (List Value), vss.length = xs.length ∧ (∀ (i : Nat) (h : i < vss.length) (h' : i < xs.length), E.rel w S vss[i] xs[i]) ∧
      (0 < n → ∃ b off, A = some ⟨b, off, none⟩ ∧ S b ∧ b < w.heap.size ∧ ∀ j u, vss.flatten[j]? = some u → w.cell? ⟨b, off + j, none⟩ = some u) := by
  by_cases hn : 0 < n
  · obtain ⟨b, off, rfl, hS, hb, hat⟩ := h.2 hn
    have hch : ∀ i : Fin xs.length, ∃ us, E.rel w S us xs[i.1] ∧ ∀ j v, us[j]? = some v → w.cell? ⟨b, off + i.1 * E.size + j, none⟩ = some v := fun i => hat i.1 i.2
    obtain ⟨f, hf⟩ := Classical.axiomOfChoice hch
    have hl : (List.ofFn f).length = xs.length := by simp
    refine ⟨List.ofFn f, hl, fun i h1 h2 => by rw [List.getElem_ofFn]; exact (hf ⟨i, h2⟩).1, fun _ => ⟨b, off, rfl, hS, hb, fun j u hu => ?_⟩⟩
    have hm : ∀ us ∈ List.ofFn f, us.length = E.size := by
      intro us hus
      obtain ⟨q, rfl⟩ := List.mem_ofFn.1 hus
      exact E.len (hf q).1
    obtain ⟨i, k, hi, h1, rfl⟩ := flatten_src hm j u hu
    rw [List.getElem_ofFn] at h1
    rw [← Nat.add_assoc]
    exact (hf ⟨i, by simpa using hi⟩).2 k u h1
  · have h0 : xs = [] := List.eq_nil_of_length_eq_zero (by have := h.1; omega)
    subst h0
    exact ⟨[], rfl, fun i h => absurd h (by simp), fun h => absurd h hn⟩
theorem rows_len {α : Type} {E : El α} {w : World} {S : Nat → Prop} {vss : List (List Value)} {xs : List α} (hl : vss.length = xs.length) (hr : ∀ (i : Nat) (h : i < vss.length) (h' : i < xs.length), E.rel w S vss[i] xs[i]) : ∀ us ∈ vss, us.length = E.size := by
  intro us hus
  obtain ⟨q, hq, rfl⟩ := List.getElem_of_mem hus
  exact E.len (hr q hq (by omega))
theorem rows_one {w : World} {S : Nat → Prop} {vss : List (List Value)} {xs : List RcT} (hl : vss.length = xs.length) (hr : ∀ (i : Nat) (h : i < vss.length) (h' : i < xs.length), rc.rel w S vss[i] xs[i]) : ∀ u ∈ vss.flatten, u.oneCell' = true := by
  intro u hu
  obtain ⟨us, hus, huu⟩ := List.mem_flatten.1 hu
  obtain ⟨q, hq, rfl⟩ := List.getElem_of_mem hus
  obtain ⟨a, b, e, rfl, c, d, rfl, rfl, A, n, cc, rfl, _⟩ := hr q hq (by omega)
  rw [e] at huu
  simp at huu
  rcases huu with rfl | rfl | rfl <;> rfl
theorem bytes_rows {w : World} {S : Nat → Prop} {A : Option Addr} {n : Nat} {bs : Bs} (h : u8.Sl w S A n bs) : 0 < n → ∃ b off, A = some ⟨b, off, none⟩ ∧ ∀ j u, (bytesV bs)[j]? = some u → w.cell? ⟨b, off + j, none⟩ = some u := by
  intro hp
  obtain ⟨b, off, rfl, _, _, hat⟩ := h.2 hp
  refine ⟨b, off, rfl, fun j u hu => ?_⟩
  have hj : j < bs.length := by have := (List.getElem?_eq_some_iff.1 hu).1; rwa [bytesV_length] at this
  obtain ⟨us, rfl, hc⟩ := hat j hj
  have := hc 0 _ rfl
  rw [show j * u8.size = j from Nat.mul_one j] at this
  rw [Nat.add_zero] at this
  rw [this, ← hu]; simp [bytesV, hj]
theorem lit0_owns {w : World} {base e size : Nat} (hb : base ≤ w.heap.size) : (w.alloc (.cells #[] e)).ownsRow base e size (.slice (some ⟨w.heap.size, 0, none⟩) 0 0) 0 [] :=
  World.ownsRow_lit w #[] 0 hb (by simp [maxLen]) (by simp)
theorem rel_at {w w' : World} {S S' : Nat → Prop} {vss uss : List (List Value)} {xs ys : List RcT} (k : Keep S w w') (hS : ∀ b, S b → b < w.heap.size → S' b)
    (hl : vss.length = xs.length) (hr : ∀ (i : Nat) (h : i < vss.length) (h' : i < xs.length), rc.rel w S vss[i] xs[i]) (hl' : uss.length = ys.length) (hr' : ∀ (i : Nat) (h : i < uss.length) (h' : i < ys.length), rc.rel w S uss[i] ys[i]) :
    ∀ (i : Nat) (h : i < (vss ++ uss).length) (h' : i < (xs ++ ys).length), rc.rel w' S' (vss ++ uss)[i] (xs ++ ys)[i] := by
  intro i h h'
  by_cases hi : i < vss.length
  · rw [List.getElem_append_left hi, List.getElem_append_left (by omega)]
    exact rc.mono k hS (hr i hi (by omega))
  · rw [List.getElem_append_right (by omega), List.getElem_append_right (by omega)]
    have := rc.mono k hS (hr' (i - vss.length) (by rw [List.length_append] at h; omega) (by rw [List.length_append] at h'; omega))
    simpa [hl] using this
end Go.Proofs.Ytlbgepgpihklfaa.Rec
