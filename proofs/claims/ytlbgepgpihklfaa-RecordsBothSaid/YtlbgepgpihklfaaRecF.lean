/- Walks: far, shown. -/
import Derived.Test.YtlbgepgpihklfaaRecS
namespace Go.Proofs.Ytlbgepgpihklfaa.Rec
open Go.RowKit Lw

def farL : List RcT → Nat → Bool
  | [], n => decide (6000 < n)
  | x :: r, n => if 500 < x.2.1.size ∨ 70 < x.2.2.length then true else farL r (n + x.2.1.size + 4 * x.2.2.length)
def farI (xs : List RcT) : Bool := if 70 < xs.length then true else farL xs 0
theorem farL_drop {xs : List RcT} {k m : Nat} (h : k < xs.length) : farL (xs.drop k) m = if 500 < xs[k].2.1.size ∨ 70 < xs[k].2.2.length then true else farL (xs.drop (k + 1)) (m + xs[k].2.1.size + 4 * xs[k].2.2.length) := by
  rw [List.drop_eq_getElem_cons h]; rfl

set_option maxRecDepth 20000 in
set_option maxHeartbeats 4000000 in
theorem far_any (A : Option Addr) (n c : Nat) (xs : List RcT) (w : World) (S : Nat → Prop) (h : rc.Sl w S A n xs) (hm : n ≤ 9223372036854775807) :
    Calls Try.prog 8 #[.slice A n c] w fun e w' => e = .returned (.bool (farI xs)) ∧ Dr w w' := by
  have hnx := h.1
  by_cases h70 : 70 < n
  · have Hf := Lib.hid (show farI xs = true by unfold farI; rw [if_pos (by omega)])
    clear h hnx
    go_enter Try.func8, Try.ntmps8
    go_wp2
    go_ret
    exact ⟨by rw [Hf.out]; rfl, Dr.refl _⟩
  · have Hf := Lib.hid (show farI xs = farL xs 0 by unfold farI; rw [if_neg (by omega)])
    have H := Lib.hid h
    have Hnx := Lib.hid hnx
    clear h hnx
    go_enter Try.func8, Try.ntmps8
    go_wp2
    go_loopw [3, 4] (fun z i wr => ∃ k m q : Nat, wr = w.drewN q ∧ k ≤ n ∧ i = .int .i64 k ∧ z = .int .i64 m ∧ m ≤ k * 1000 ∧ farI xs = farL (xs.drop k) m) (fun _ i _ => n - (intOf i).toNat)
    case atStart => exact ⟨0, 0, 0, rfl, by omega, rfl, rfl, by omega, Hf.out⟩
    case round =>
      obtain ⟨k, m, q, rfl, hk, rfl, rfl, hmk, hf⟩ := hrel
      have Hf2 := Lib.hid hf
      clear hf
      by_cases hlt : k < n
      · have hkx : k < xs.length := by rw [← Hnx.out]; exact hlt
        have Hs := Lib.hid (farL_drop (m := m) hkx)
        obtain ⟨b, off, rfl, hb, hx⟩ := H.out.at_ hkx
        obtain ⟨hx1, hx2, Ax, nx, cx, hx3, hx4, hx5, hx6⟩ := rc_at hx
        simp only [show rc.size = 3 from rfl] at hx1 hx2 hx3
        have hnl := hx6.1
        clear hx hx1 hx6
        generalize xs[k] = X at *
        unfold maxLen at hx5
        have Hnl := Lib.hid hnl
        clear hnl
        by_cases c1 : 500 < X.2.1.size
        · have c1' : (500 : Int) < (X.2.1.size : Int) := by omega
          have C1 := Lib.hid c1
          clear c1
          go_wp2
          go_ret
          exact ⟨by rw [Hf2.out, Hs.out, if_pos (.inl C1.out)]; rfl, (Dr.refl w).drewN _⟩
        · have c1' : (X.2.1.size : Int) ≤ 500 := by omega
          by_cases c2 : 70 < nx
          · have c2' : (70 : Int) < (nx : Int) := by omega
            have C2 := Lib.hid c2
            clear c1 c2
            go_wp2
            go_ret
            exact ⟨by rw [Hf2.out, Hs.out, if_pos (.inr (by rw [← Hnl.out]; exact C2.out))]; rfl, (Dr.refl w).drewN _⟩
          · have c2' : (nx : Int) ≤ 70 := by omega
            have C1 := Lib.hid c1
            have C2 := Lib.hid c2
            clear c1 c2
            have s1 : IntKind.i64.wrap ((m : Int) + (X.2.1.size : Int)) = (m : Int) + (X.2.1.size : Int) := IntWalk.i64_in _ (by omega)
            have s2 : IntKind.i64.wrap (4 * (nx : Int)) = 4 * (nx : Int) := IntWalk.i64_in _ (by omega)
            have s3 : IntKind.i64.wrap ((m : Int) + (X.2.1.size : Int) + 4 * (nx : Int)) = (m : Int) + (X.2.1.size : Int) + 4 * (nx : Int) := IntWalk.i64_in _ (by omega)
            have S1 := Lib.hid s1; have S2 := Lib.hid s2; have S3 := Lib.hid s3
            clear s1 s2 s3
            go_wp2
            have s1 := S1.out; have s2 := S2.out; have s3 := S3.out
            go_quiet (fail)
            clear s1 s2 s3
            go_wp2
            go_roundw
            case rel => exact ⟨k + 1, m + X.2.1.size + 4 * nx, _, rfl, by omega, by go_num, by go_num, by omega, by rw [Hf2.out, Hs.out, if_neg (by have := C1.out; have := C2.out; have := Hnl.out; omega), ← Hnl.out]⟩
            case measure => simp [intOf]; omega
      · have e1 : xs.drop k = [] := List.drop_eq_nil_of_le (by have := Hnx.out; omega)
        have Hl := Lib.hid (show farI xs = decide (6000 < m) by rw [Hf2.out, e1]; rfl)
        clear e1
        go_wp2
        go_ret
        refine ⟨?_, (Dr.refl w).drewN _⟩
        rw [Hl.out]
        have : decide (6000 < (m : Int)) = decide (6000 < m) := by simp; omega
        first | exact congrArg (fun b => Ending.returned (Value.bool b)) this | rfl
end Go.Proofs.Ytlbgepgpihklfaa.Rec
