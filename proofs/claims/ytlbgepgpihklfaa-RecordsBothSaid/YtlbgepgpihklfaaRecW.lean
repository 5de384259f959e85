/- Walks of the program's writer of records: low, short, number, groups, str, list. -/
import Derived.Test.YtlbgepgpihklfaaRecRefA
namespace Go.Proofs.Ytlbgepgpihklfaa.Rec
open Go.RowKit Lw

/-- The writer at block bw, its slice v, has written bytes xs. -/
def Wr (w : World) (base bw T : Nat) (v : Value) (xs : Bs) : Prop :=
  base ≤ bw ∧ w.heap[bw]? = some (.cells #[v] T (0, 0)) ∧ w.ownsRow base 5 1 v xs.length (bytesV xs)

theorem wr_step {w W w0 w1 : World} {base bw T : Nat} {v v' : Value} {xs ys : Bs} {m : Nat} {zs : List Value} (h : Wr w base bw T v xs) (hT : T ≠ 5) (ha : Appd base 5 1 w0 W w1 v v' m zs) (hW : Below w.heap.size w W) (hm : m = ys.length) (hz : zs = bytesV ys) :
    w1.heap[bw]? = some (.cells #[v] T (0, 0)) ∧ Wr (w1.setCell ⟨bw, 0, none⟩ v') base bw T v' ys ∧ WStep bw v v' w (w1.setCell ⟨bw, 0, none⟩ v') ∧ Below base w0 (w1.setCell ⟨bw, 0, none⟩ v') := by
  subst hm; subst hz
  have hlt : bw < w.heap.size := (Array.getElem?_eq_some_iff.1 h.2.1).1
  have h1 : w1.heap[bw]? = some (.cells #[v] T (0, 0)) := by rw [ha.grown.block bw (by have := hW.size; omega) (Ne.symm (own_ne h.2.2 h.2.1 hT)), hW.block bw hlt]; exact h.2.1
  exact ⟨h1, ⟨h.1, one_setCell h1, ownsRow_setCell_other ha.own (own_ne ha.own h1 hT) _⟩, (WStep.below hW).trans (WStep.app ha _), ha.below.setCell h.1 _⟩

theorem wr_mono {w w' : World} {base bw T : Nat} {v : Value} {xs : Bs} (h : Wr w base bw T v xs) (k : Below w.heap.size w w') : Wr w' base bw T v xs :=
  ⟨h.1, by rw [k.block bw (Array.getElem?_eq_some_iff.1 h.2.1).1]; exact h.2.1, ownsRow_below h.2.2 k (Nat.le_refl _)⟩

/-- What a writer's function leaves. -/
def WrOut (w : World) (base bw T : Nat) (v : Value) (ys : Bs) (w' : World) : Prop :=
  ∃ v', Wr w' base bw T v' ys ∧ WStep bw v v' w w' ∧ Below base w w'

theorem WrOut.trans {w w1 w2 : World} {base bw T : Nat} {v v1 : Value} {ys : Bs} (h : WStep bw v v1 w w1) (hb : Below base w w1) (h' : WrOut w1 base bw T v1 ys w2) : WrOut w base bw T v ys w2 := by
  obtain ⟨v2, h1, h2, h3⟩ := h'
  exact ⟨v2, h1, h.trans h2, hb.trans h3⟩

theorem byteW (z : Nat) : [Value.int .u8 (IntKind.u8.wrap (z : Int))] = bytesV [UInt8.ofNat z] := by
  rw [← byteV, IntKind.wrap_u8]

set_option maxRecDepth 20000 in
set_option maxHeartbeats 2000000 in
theorem wlow_any (x m base bw T : Nat) (v : Value) (xs : Bs) (w : World) (hm : m ≤ 8) (hw : Wr w base bw T v xs) (hT : T ≠ 5) (hl : xs.length ≤ 100000) :
    Calls Try.prog 42 #[.pointer (some ⟨bw, 0, none⟩), .int .u64 x, .int .i64 m] w fun e w' => e = .returned (.tuple #[]) ∧ WrOut w base bw T v (xs ++ lowI x m) w' := by
  go_enter Try.func42, Try.ntmps42
  go_wp2
  go_loopw [6, 8] (fun _ i wr => ∃ (k : Nat) (ys : Bs), k ≤ m ∧ i = .int .i64 k ∧ ys = xs ++ lowI x k ∧ WrOut w base bw T v ys wr) (fun _ i _ => m - (intOf i).toNat)
  case atStart => exact ⟨0, xs, by omega, rfl, by simp [lowI], v, hw, WStep.refl _ _ _, Below.refl _ _⟩
  case round =>
    obtain ⟨k, ys, hk, rfl, hys, v1, hwr, hst, hb⟩ := hrel
    have hlen : ys.length ≤ 100008 := by rw [hys]; simp [lowI_len]; omega
    have Hys := Lib.hid hys
    have Hwr := Lib.hid hwr
    have Hst := Lib.hid hst
    by_cases hlt : k < m
    · obtain ⟨hbw, hv, hown⟩ := hwr
      have hc := cell_of_one hv
      have hf := free_of_one hv
      have hbl := lt_of_block hv
      obtain ⟨z, hz⟩ : ∃ z : Nat, z = x / 256 ^ k := ⟨_, rfl⟩
      have Hz := Lib.hid hz
      have hsh : (x : Int) / 2 ^ (8 * k) = (z : Int) := by
        rw [hz, show (256 : Nat) = 2 ^ 8 by decide, ← Nat.pow_mul]; simp
      have s1 : IntKind.i64.wrap (8 * (k : Int)) = 8 * (k : Int) := IntWalk.i64_in _ (by omega)
      have s2 : (0 : Int) ≤ 8 * (k : Int) := by omega
      have s3 : 8 * (k : Int) ≤ 64 := by omega
      have s4 : (8 * (k : Int)).toNat = 8 * k := by omega
      have Hs1 := Lib.hid s1; have Hs4 := Lib.hid s4; have Hsh := Lib.hid hsh
      clear hv hw s1 s4 hsh hys hz hst
      go_wp2_with fail
      have s1 := Hs1.out; have s4 := Hs4.out; have hsh := Hsh.out
      go_region_law
        ((refine step_app1 (by rfl) _ _ 23 5 1 1 (by rfl) tyB base _ v1 _ [_] wr.heap.size (by rfl) (by rfl) (heap_alloc_new wr _) ((hown.alloc _).drew) ((hb.alloc (by omega) _).drew) (by simp; omega) rfl (by simp [Value.oneCell']) (by omega) (by omega) ?_; intro v' w1 ha; obtain ⟨A1, c1, rfl, _, _, _, _, _⟩ := ownsRow_src ha.own; have HS := Lib.hid (wr_step (ys := ys ++ [UInt8.ofNat z]) Hwr.out hT ha ⟨rfl, rfl, rfl, by simp, fun q hq => Below.heap_alloc wr _ q hq⟩ (by simp) (by rw [bytesV_append, byteW])); have hc1 := cell_of_one HS.out.1; have hf1 := free_of_one HS.out.1; clear ha))
      all_goals
        go_wp2_with fail
        go_roundw
        case rel =>
          have H := HS.out
          exact ⟨k + 1, ys ++ [UInt8.ofNat z], by omega, by go_num, by rw [Hys.out, lowI_snoc, Hz.out, List.append_assoc], _, H.2.1, Hst.out.trans H.2.2.1, H.2.2.2⟩
        case measure => simp [intOf]; omega
    · clear hys hwr hst
      go_wp2_with fail
      go_end0
      obtain rfl : k = m := by omega
      exact ⟨rfl, v1, by rw [← Hys.out]; exact Hwr.out, Hst.out, hb⟩

theorem or128_nat : ∀ a : Fin 256, a.val ||| 128 = a.val % 128 + 128 := by decide +kernel
theorem byteOr (z : Nat) : [Value.int .u8 (bits .or .u8 ((z : Int) % 256) 128)] = bytesV [UInt8.ofNat (z % 128 + 128)] := by
  rw [u8_or _ _ (by omega) (by omega) (by omega) (by omega)]
  have h1 : ((z : Int) % 256).toNat = z % 256 := by omega
  have h2 : (128 : Int).toNat = 128 := rfl
  have h3 := or128_nat ⟨z % 256, by omega⟩
  rw [h1, h2, h3]
  have h4 : z % 256 % 128 + 128 = z % 128 + 128 := by omega
  show [Value.int .u8 ((z % 256 % 128 + 128 : Nat) : Int)] = _
  rw [h4, byteV' (by omega)]

set_option maxRecDepth 20000 in
set_option maxHeartbeats 2000000 in
theorem wshort_any (x base bw T : Nat) (v : Value) (xs : Bs) (w : World) (hx : x < 18446744073709551616) (hw : Wr w base bw T v xs) (hT : T ≠ 5) (hl : xs.length ≤ 100000) :
    Calls Try.prog 45 #[.pointer (some ⟨bw, 0, none⟩), .int .u64 x] w fun e w' => e = .returned (.tuple #[]) ∧ WrOut w base bw T v (xs ++ grpI x) w' := by
  go_enter Try.func45, Try.ntmps45
  go_wp2
  go_loopw [1] (fun i wr => ∃ (z : Nat) (ys : Bs), z < 18446744073709551616 ∧ i = .int .u64 z ∧ ys.length + (grpI z).length ≤ 100010 ∧ xs ++ grpI x = ys ++ grpI z ∧ WrOut w base bw T v ys wr) (fun i _ => (intOf i).toNat)
  case atStart => exact ⟨x, xs, hx, rfl, by have := grpI_len x; omega, rfl, v, hw, WStep.refl _ _ _, Below.refl _ _⟩
  case round =>
    obtain ⟨z, ys, hz, rfl, hlen, hys, v1, hwr, hst, hb⟩ := hrel
    have hp := grpI_pos z
    have hyl : ys.length ≤ 100010 := by omega
    have Hlen := Lib.hid hlen
    have Hys := Lib.hid hys
    have Hwr := Lib.hid hwr
    have Hst := Lib.hid hst
    obtain ⟨hbw, hv, hown⟩ := hwr
    have hc := cell_of_one hv
    have hf := free_of_one hv
    have hbl := lt_of_block hv
    by_cases hlt : 128 ≤ z
    · have Hg := Lib.hid (grpI_big z hlt hz)
      clear hv hw hys hp hlen hst
      go_wp2_with (at_builtin; go_must (refine wpList_app1 (by rfl) _ _ 23 5 1 1 (by rfl) tyB base _ v1 _ [_] (by rfl) (by rfl) hown hb (by omega) rfl (by simp [Value.oneCell']) (by omega) (by omega) ?_); intro v' w1 ha; obtain ⟨A1, c1, rfl, _, _, _, _, _⟩ := ownsRow_src ha.own; have HS := Lib.hid (wr_step (ys := ys ++ [UInt8.ofNat (z % 128 + 128)]) Hwr.out hT ha (Below.refl _ _) (by simp) (by rw [bytesV_append, ← byteOr])); have hc1 := cell_of_one HS.out.1; have hf1 := free_of_one HS.out.1; clear ha)
      go_roundw
      case rel =>
        have H := HS.out
        refine ⟨z / 128, ys ++ [UInt8.ofNat (z % 128 + 128)], by omega, by go_num, ?_, by rw [Hys.out, Hg.out]; simp, _, H.2.1, Hst.out.trans H.2.2.1, H.2.2.2⟩
        have := Hlen.out; rw [Hg.out] at this; simp at *; omega
      case measure => simp [intOf]; omega
    · have Hg := Lib.hid (grpI_small z (by omega))
      clear hv hw hys hp hlen hz hst
      go_wp2_with (at_builtin; go_must (refine wpList_app1 (by rfl) _ _ 23 5 1 1 (by rfl) tyB base _ v1 _ [_] (by rfl) (by rfl) hown hb (by omega) rfl (by simp [Value.oneCell']) (by omega) (by omega) ?_); intro v' w1 ha; obtain ⟨A1, c1, rfl, _, _, _, _, _⟩ := ownsRow_src ha.own; have HS := Lib.hid (wr_step (ys := ys ++ [UInt8.ofNat z]) Hwr.out hT ha (Below.refl _ _) (by simp) (by rw [bytesV_append, ← byteV' (by omega)])); have hc1 := cell_of_one HS.out.1; have hf1 := free_of_one HS.out.1; clear ha)
      go_end0
      have H := HS.out
      refine ⟨rfl, ?_⟩
      rw [Hys.out, Hg.out]
      exact ⟨_, H.2.1, Hst.out.trans H.2.2.1, H.2.2.2⟩
end Go.Proofs.Ytlbgepgpihklfaa.Rec
