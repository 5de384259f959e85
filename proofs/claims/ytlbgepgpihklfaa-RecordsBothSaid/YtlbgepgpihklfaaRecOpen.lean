/- The records' arguments opened. -/
import Derived.Test.YtlbgepgpihklfaaRecBw
import Derived.Test.YtlbgepgpihklfaaOpen
namespace Go.Proofs.Ytlbgepgpihklfaa.Rec
open Go.RowKit Lw Go.ChangeShapes Go.WideShapes Go.Deep

section
variable {H : Type} {enc : TypeId × Value → H} {w : World} {base : Nat} {spare : Nat → Bool} {held : Bool}
theorem el_u32s : ∀ n cs y, DataW.trod enc Try.prog w base spare held n 47 cs = some y → ∃ x : List UInt32, u32.slice.rel w (· < w.heap.size) cs x := by
  intro n cs y h
  obtain ⟨A, m, c, xs, rfl, h1, h2, _, h3⟩ := open_els u32 (e := 50) (by kernel_rfl) (by kernel_rfl) (by decide) (el_u32 (by kernel_rfl)) h
  exact ⟨xs, A, m, c, rfl, h1, h2, h3⟩
theorem el_rc : ∀ n cs y, DataW.trod enc Try.prog w base spare held n 49 cs = some y → ∃ x : RcT, rc.rel w (· < w.heap.size) cs x := by
  intro n cs y h
  obtain ⟨y0, y1, y2, k, _, hl, h0, h1, h2⟩ := trod_struct3 Try.underlying49 h
  have hl3 : cs.length = 3 := hl
  obtain ⟨v0, v1, v2, rfl⟩ : ∃ a b c, cs = [a, b, c] := by
    match cs, hl3 with
    | [a, b, c], _ => exact ⟨a, b, c, rfl⟩
  obtain ⟨x0, e0⟩ := el_u64 (P := Try.prog) (e := 46) (by kernel_rfl) _ _ _ h0
  obtain ⟨x1, e1, _⟩ := DataW.trod_string (P := Try.prog) (t := 9) (by kernel_rfl) h1
  obtain ⟨x2, A, m, c, e2, r2⟩ := el_u32s _ _ _ h2
  have f0 : [v0] = [Value.int .u64 x0.toNat] := e0
  have f1 : [v1] = [Value.string x1] := e1
  have f2 : [v2] = [Value.slice A m c] := e2
  injection f0 with f0; injection f1 with f1; injection f2 with f2
  subst f0 f1 f2
  exact ⟨(x0, x1, x2), rc_relI (x := (x0, x1, x2)) r2.1 r2.2.1 r2.2.2⟩
theorem open_rcs {n : Nat} {cs : List Value} {y : DataW H × List MemPlace} (h : DataW.trod enc Try.prog w base spare held n 22 cs = some y) :
    ∃ A n c xs, cs = [.slice A n c] ∧ n ≤ c ∧ c ≤ maxLen ∧ (A = none → c = 0) ∧ rc.Sl w (· < w.heap.size) A n xs :=
  open_els rc (e := 49) (by kernel_rfl) (by kernel_rfl) (by decide) el_rc h
end
end Go.Proofs.Ytlbgepgpihklfaa.Rec
