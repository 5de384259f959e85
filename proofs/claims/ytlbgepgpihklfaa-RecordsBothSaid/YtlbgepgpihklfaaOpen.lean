/- Arguments that are slices, opened as El. No program is named. -/
import Derived.Test.YtlbgepgpihklfaaLib
import Derived.Deep.Slices
import Derived.Deep.Fields
import Derived.Deep.Strs
import Derived.ChangeArms
import Derived.ChangeSame
import Derived.ChangeSlices
import Derived.Lib.SmallJoins
namespace Go.Proofs.Ytlbgepgpihklfaa.Lw
open Go.RowKit Go.ChangeShapes Go.WideShapes Go.Deep

section
variable {H : Type} {enc : TypeId × Value → H} {P : Program} {w : World} {base : Nat} {spare : Nat → Bool} {held : Bool}

theorem spot_none {w : World} {a : Addr} {v : Value} (h : w.cell? a = some v) : ∃ b o, a = ⟨b, o, none⟩ ∧ b < w.heap.size := by
  obtain ⟨b, o, s⟩ := a
  unfold World.cell? at h
  split at h
  · rename_i c _ _ hg
    refine ⟨b, o, ?_, (Array.getElem?_eq_some_iff.1 hg).1⟩
    cases s with
    | none => rfl
    | some x => simp at h
  · cases h

theorem add_none (b o i : Nat) : (⟨b, o, none⟩ : Addr).add i = ⟨b, o + i, none⟩ := by unfold Addr.add; split <;> simp_all

theorem open_els {α : Type} (E : El α) {t e : TypeId} {fuel : Nat} {cs : List Value} {x : DataW H × List MemPlace} (ht : P.underlying t = some (.slice e)) (hC : P.cellsOf e = E.size) (hp : 0 < E.size)
    (hel : ∀ n cs y, DataW.trod enc P w base spare held n e cs = some y → ∃ x : α, E.rel w (· < w.heap.size) cs x)
    (h : DataW.trod enc P w base spare held fuel t cs = some x) :
    ∃ A n c xs, cs = [.slice A n c] ∧ n ≤ c ∧ c ≤ maxLen ∧ (A = none → c = 0) ∧ E.Sl w (· < w.heap.size) A n xs := by
  rcases open_slice ht h with ⟨rfl, _⟩ | ⟨a, len, cap, m, n, D, Pl, rfl, _, hl, hm, hmm, _, hi⟩
  · exact ⟨none, 0, 0, [], rfl, Nat.le_refl _, Nat.zero_le _, fun _ => rfl, El.Sl.nil _ _ _⟩
  · have hlm : len ≤ m := by rw [hmm]; split <;> omega
    have hch : ∀ i : Fin len, ∃ x : α, ∃ cs', E.rel w (· < w.heap.size) cs' x ∧ cs'.length = E.size ∧ ∀ j, j < E.size → w.cell? ((a.add (i.1 * E.size)).add j) = cs'[j]? := by
      intro i
      obtain ⟨cs', hc, hx⟩ := hi i.1 (Nat.lt_of_lt_of_le i.2 hlm)
      rw [hC] at hc
      obtain ⟨_, hcl, hat⟩ := World.cells?_some hc
      obtain ⟨x, hr⟩ := hel _ _ _ hx
      exact ⟨x, cs', hr, hcl, hat⟩
    obtain ⟨f, hf⟩ := Classical.axiomOfChoice hch
    refine ⟨some a, len, cap, List.ofFn f, rfl, hl, hm, (fun h => by cases h), by simp, fun h0 => ?_⟩
    obtain ⟨cs0, _, hcl0, hat0⟩ := hf ⟨0, h0⟩
    have h00 := hat0 0 hp
    have hv : cs0[0]? = some (cs0[0]'(by omega)) := List.getElem?_eq_getElem _
    rw [hv] at h00
    have e0 : (a.add (0 * E.size)).add 0 = a := by simp [Addr.add]
    rw [show ((⟨0, h0⟩ : Fin len).1) = 0 from rfl, e0] at h00
    obtain ⟨b, o, rfl, hb⟩ := spot_none h00
    refine ⟨b, o, rfl, hb, hb, fun i hi' => ?_⟩
    have hil : i < len := by simpa using hi'
    obtain ⟨cs', hr, hcl, hat⟩ := hf ⟨i, hil⟩
    refine ⟨cs', by rw [List.getElem_ofFn]; exact hr, fun j v hv => ?_⟩
    have hj : j < E.size := by rw [← hcl]; exact (List.getElem?_eq_some_iff.1 hv).1
    have := hat j hj
    rw [add_none, add_none] at this
    rw [this, hv]

theorem el_u8 {e : TypeId} (he : P.underlying e = some (.int .u8)) : ∀ n cs y, DataW.trod enc P w base spare held n e cs = some y → ∃ x : UInt8, u8.rel w (· < w.heap.size) cs x := by
  intro n cs y h
  obtain ⟨z, rfl, _, hw⟩ := DataW.trod_int he h
  have hz : 0 ≤ z ∧ z < 256 := by
    have h2 : IntKind.u8.min ≤ z ∧ z ≤ IntKind.u8.max := by simpa [Lit.wf] using hw
    have ha : IntKind.u8.min = 0 := by decide
    have hb : IntKind.u8.max = 255 := by decide
    omega
  exact ⟨UInt8.ofNat z.toNat, by show [Value.int .u8 z] = [.int .u8 ((UInt8.ofNat z.toNat).toNat : Int)]; congr 2; simp; omega⟩
theorem el_u32 {e : TypeId} (he : P.underlying e = some (.int .u32)) : ∀ n cs y, DataW.trod enc P w base spare held n e cs = some y → ∃ x : UInt32, u32.rel w (· < w.heap.size) cs x := by
  intro n cs y h
  obtain ⟨z, rfl, _, hw⟩ := DataW.trod_int he h
  have hz : 0 ≤ z ∧ z < 4294967296 := by
    have h2 : IntKind.u32.min ≤ z ∧ z ≤ IntKind.u32.max := by simpa [Lit.wf] using hw
    have ha : IntKind.u32.min = 0 := by decide
    have hb : IntKind.u32.max = 4294967295 := by decide
    omega
  exact ⟨UInt32.ofNat z.toNat, by show [Value.int .u32 z] = [.int .u32 ((UInt32.ofNat z.toNat).toNat : Int)]; congr 2; simp; omega⟩
theorem el_u64 {e : TypeId} (he : P.underlying e = some (.int .u64)) : ∀ n cs y, DataW.trod enc P w base spare held n e cs = some y → ∃ x : UInt64, u64.rel w (· < w.heap.size) cs x := by
  intro n cs y h
  obtain ⟨z, rfl, _, hw⟩ := DataW.trod_int he h
  have hz : 0 ≤ z ∧ z < 18446744073709551616 := by
    have h2 : IntKind.u64.min ≤ z ∧ z ≤ IntKind.u64.max := by simpa [Lit.wf] using hw
    have ha : IntKind.u64.min = 0 := by decide
    have hb : IntKind.u64.max = 18446744073709551615 := by decide
    omega
  exact ⟨UInt64.ofNat z.toNat, by show [Value.int .u64 z] = [.int .u64 ((UInt64.ofNat z.toNat).toNat : Int)]; congr 2; simp; omega⟩
end
end Go.Proofs.Ytlbgepgpihklfaa.Lw
