/- Walks of the reference's small functions of the records: width, form, low, groups, number. -/
import Derived.Test.YtlbgepgpihklfaaProg
import Derived.Test.YtlbgepgpihklfaaRecPure
namespace Go.Proofs.Ytlbgepgpihklfaa.Rec
open Go.RowKit Lw
theorem tyB : SlTy Try.prog 23 5 1 1 := .mk' (z := .int .u8 0) (by kernel_rfl) (by kernel_rfl) rfl (by decide)
theorem tyBz : ∀ i, Try.prog.info? 5 = some i → i.zero = some (.int .u8 0) := by
  intro i hi
  obtain ⟨j, h1, h2, _⟩ := info_parts (show (Try.prog.info? 5).map (fun i => (i.zero, i.size, i.bytes)) = some (some (.int .u8 0), 1, 1) by kernel_rfl)
  rw [h1] at hi; cases hi; exact h2

theorem ret_int {k : IntKind} {a b : Int} (h : a = b) : Ending.returned (.int k a) = .returned (.int k b) := by rw [h]
theorem byteV (z : Nat) : [Value.int .u8 ((z : Int) % 256)] = bytesV [UInt8.ofNat z] := by simp [bytesV]

set_option maxHeartbeats 400000 in
theorem width_any (k : Nat) (w : World) :
    Calls Try.prog 28 #[.int .u8 k] w fun e w' => e = .returned (.int .i64 (widthN k)) ∧ Dr w w' := by
  go_enter Try.func28, Try.ntmps28
  by_cases h1 : k = 98
  · subst h1; go_wp2; go_ret; exact ⟨rfl, .refl _⟩
  · by_cases h2 : k = 119
    · subst h2; go_wp2; go_ret; exact ⟨rfl, .refl _⟩
    · by_cases h3 : k = 100
      · subst h3; go_wp2; go_ret; exact ⟨rfl, .refl _⟩
      · by_cases h4 : k = 113
        · subst h4; go_wp2; go_ret; exact ⟨rfl, .refl _⟩
        · have e1 : ((k : Int) == 98) = false := by rw [beq_eq_false_iff_ne]; omega
          have e2 : ((k : Int) == 119) = false := by rw [beq_eq_false_iff_ne]; omega
          have e3 : ((k : Int) == 100) = false := by rw [beq_eq_false_iff_ne]; omega
          have e4 : ((k : Int) == 113) = false := by rw [beq_eq_false_iff_ne]; omega
          have hw : widthN k = 0 := by simp [widthN, h1, h2, h3, h4]
          have Hw := Lib.hid hw; clear hw h1 h2 h3 h4
          go_wp2; go_ret; exact ⟨by rw [Hw.out]; rfl, .refl _⟩

set_option maxHeartbeats 1000000 in
theorem low_any (x m : Nat) (w : World) (hx : x < 18446744073709551616) (hm : m ≤ 1000) :
    Calls Try.prog 30 #[.int .u64 x, .int .i64 m] w fun e w' => ∃ v, e = .returned v ∧ w'.ownsRow w.heap.size 5 1 v m (bytesV (lowI x m)) ∧ Below w.heap.size w w' := by
  go_enter Try.func30, Try.ntmps30
  go_wp2
  go_loopw [0, 5, 6] (fun y v i wr => ∃ k z : Nat, k ≤ m ∧ z = x / 256 ^ k ∧ z ≤ x ∧ i = .int .i64 k ∧ y = .int .u64 z ∧ wr.ownsRow w.heap.size 5 1 v k (bytesV (lowI x k)) ∧ Below w.heap.size w wr) (fun _ _ i _ => m - (intOf i).toNat)
  case atStart => exact ⟨0, x, by omega, by simp, by omega, rfl, rfl, World.ownsRow_nil _ _ _ _, Below.refl _ _⟩
  case round =>
    obtain ⟨k, z, hk, hz, hzx, rfl, rfl, hown, hb⟩ := hrel
    have Hz := Lib.hid hz; clear hz
    by_cases hlt : k < m
    · have hs := hb.size
      go_wp2_with (at_builtin; go_must (refine wpList_app1 rfl _ _ 23 5 1 1 (by rfl) tyB w.heap.size _ _ _ [_] (by rfl) (by rfl) hown hb (by omega) rfl (by simp [Value.oneCell']) (by omega) (by omega) ?_); intro v' w1 ha; have hown' := ha.own; have hb' := ha.below; clear hown hb ha)
      go_roundw
      case rel =>
        refine ⟨k + 1, z / 256, by omega, ?_, ?_, by go_num, by go_num, ?_, hb'⟩
        · rw [Hz.out, Nat.div_div_eq_div_mul, Nat.pow_succ]
        · exact Nat.le_trans (Nat.div_le_self _ _) hzx
        · rw [byteV, ← bytesV_append, Hz.out, ← lowI_snoc] at hown'; exact hown'
      case measure => simp [intOf]; omega
    · go_wp2_with fail
      go_ret
      obtain rfl : k = m := by omega
      exact ⟨_, rfl, hown, hb⟩

theorem byteV' {x : Nat} (h : x < 256) : [Value.int .u8 (x : Int)] = bytesV [UInt8.ofNat x] := by
  have : (UInt8.ofNat x).toNat = x := by simp; omega
  simp only [bytesV, List.map, this]

set_option maxRecDepth 20000 in
set_option maxHeartbeats 1000000 in
theorem groups_any (f : Nat) : ∀ (x : Nat) (w : World), x < 128 ^ (f + 1) → x < 18446744073709551616 →
    Calls Try.prog 29 #[.int .u64 x] w fun e w' => ∃ v, e = .returned v ∧ w'.ownsRow w.heap.size 5 1 v (grpI x).length (bytesV (grpI x)) ∧ Below w.heap.size w w' := by
  induction f with
  | zero =>
    intro x w h1 h2
    have h3 : x < 128 := by simpa using h1
    have Hg := Lib.hid (grpI_small x h3)
    clear h1 h2
    go_enter Try.func29, Try.ntmps29
    go_wp2_with fail
    go_ret
    exact ⟨_, rfl, by rw [Hg.out, ← byteV' (by omega)]; exact lit1_owns (Nat.le_refl _), (Below.refl _ _).alloc (Nat.le_refl _) _⟩
  | succ f ih =>
    intro x w h1 h2
    by_cases h3 : x < 128
    · have Hg := Lib.hid (grpI_small x h3)
      clear h1 h2 ih
      go_enter Try.func29, Try.ntmps29
      go_wp2_with fail
      go_ret
      exact ⟨_, rfl, by rw [Hg.out, ← byteV' (by omega)]; exact lit1_owns (Nat.le_refl _), (Below.refl _ _).alloc (Nat.le_refl _) _⟩
    · have Hg := Lib.hid (grpI_big x (by omega) h2)
      have ih2 := ih (x / 128) (w.alloc (.cells #[.int .u8 ((x : Int) % 128 + 128)] 5)) (by rw [Nat.pow_succ] at h1; exact Nat.div_lt_of_lt_mul (by omega)) (by omega)
      have hl : (grpI (x / 128)).length ≤ 10 := grpI_len _
      have Hi := Lib.hid ih2
      clear ih ih2 h1
      go_enter Try.func29, Try.ntmps29
      go_wp2_with fail
      refine Hi.out.mono ?_
      rintro e w1 ⟨v, rfl, hown, hb⟩
      have hd := ownsRow_below (lit1_owns (w := w) (e := 5) (u := .int .u8 ((x : Int) % 128 + 128)) (Nat.le_refl _)) hb (Nat.le_refl _)
      have hb1 : Below w.heap.size w w1 := ((Below.refl _ _).alloc (Nat.le_refl _) _).trans (hb.mono (by simp))
      have hs := hb.size
      obtain ⟨A, c, rfl, hn, hm, hA, hlen, hsrc⟩ := ownsRow_src hown
      clear hb
      go_wp2_with (at_builtin; go_must (refine wpList_apps rfl _ _ 23 5 1 1 (by rfl) tyB w.heap.size _ _ _ _ _ _ _ (by rfl) (by rfl) hA hd hb1 (by simp at hs; omega) hlen (fun h => (hsrc h).imp fun _ h => h.imp fun _ h => ⟨h.1, h.2.2.2⟩) (bytesV_one _) hn (by omega) (by omega) ?_); intro v' w2 ha; have hown' := ha.own; have hb' := ha.below; clear hd hb1 hown hsrc ha)
      go_ret
      refine ⟨_, rfl, ?_, hb'⟩
      rw [Hg.out]
      have e1 : [Value.int .u8 ((x : Int) % 128 + 128)] = bytesV [UInt8.ofNat (x % 128 + 128)] := by
        rw [← byteV' (by omega)]; simp
      rw [e1, ← bytesV_append, Nat.add_comm] at hown'
      exact hown'
end Go.Proofs.Ytlbgepgpihklfaa.Rec
