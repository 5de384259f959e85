/- Walks: equality of bytes, of lists of values; far. -/
import Derived.Test.YtlbgepgpihklfaaRecD
namespace Go.Proofs.Ytlbgepgpihklfaa.Rec
open Go.RowKit Lw

theorem drop_beq {α : Type} [BEq α] {xs ys : List α} {k : Nat} (h1 : k < xs.length) (h2 : k < ys.length) : (xs.drop k == ys.drop k) = (xs[k] == ys[k] && (xs.drop (k + 1) == ys.drop (k + 1))) := by
  rw [List.drop_eq_getElem_cons h1, List.drop_eq_getElem_cons h2]; rfl
theorem beq_u8 (x y : UInt8) : ((x.toNat : Int) != (y.toNat : Int)) = !(x == y) := by
  rw [Bool.eq_iff_iff]
  simp only [bne_iff_ne, Bool.not_eq_true', beq_eq_false_iff_ne, ne_eq]
  constructor
  · intro h e; exact h (by rw [e])
  · intro h e; exact h (UInt8.toNat_inj.1 (by omega))
theorem beq_u32 (x y : UInt32) : ((x.toNat : Int) != (y.toNat : Int)) = !(x == y) := by
  rw [Bool.eq_iff_iff]
  simp only [bne_iff_ne, Bool.not_eq_true', beq_eq_false_iff_ne, ne_eq]
  constructor
  · intro h e; exact h (by rw [e])
  · intro h e; exact h (UInt32.toNat_inj.1 (by omega))
theorem beq_u64 (x y : UInt64) : ((x.toNat : Int) != (y.toNat : Int)) = !(x == y) := by
  rw [Bool.eq_iff_iff]
  simp only [bne_iff_ne, Bool.not_eq_true', beq_eq_false_iff_ne, ne_eq]
  constructor
  · intro h e; exact h (by rw [e])
  · intro h e; exact h (UInt64.toNat_inj.1 (by omega))

set_option maxRecDepth 20000 in
set_option maxHeartbeats 2000000 in
theorem sameB_any (A A' : Option Addr) (n n' c c' : Nat) (xs ys : Bs) (w : World) (S S' : Nat → Prop) (h : u8.Sl w S A n xs) (h' : u8.Sl w S' A' n' ys) (hm : n ≤ 9223372036854775807) (hm' : n' ≤ 9223372036854775807) :
    Calls Try.prog 21 #[.slice A n c, .slice A' n' c'] w fun e w' => e = .returned (.bool (xs == ys)) ∧ Dr w w' := by
  have hnx := h.1
  have hny := h'.1
  by_cases hn : n = n'
  · subst hn
    have H := Lib.hid h
    have H' := Lib.hid h'
    have Hnx := Lib.hid hnx
    have Hny := Lib.hid hny
    clear h h' hnx hny
    go_enter Try.func21, Try.ntmps21
    go_wp2
    go_loopw [5] (fun i wr => ∃ k q : Nat, wr = w.drewN q ∧ k ≤ n ∧ i = .int .i64 k ∧ (xs == ys) = (xs.drop k == ys.drop k)) (fun i _ => n - (intOf i).toNat)
    case atStart => exact ⟨0, 0, rfl, by omega, rfl, rfl⟩
    case round =>
      obtain ⟨k, q, rfl, hk, rfl, hf⟩ := hrel
      have Hf := Lib.hid hf; clear hf
      by_cases hlt : k < n
      · have hkx : k < xs.length := by rw [← Hnx.out]; exact hlt
        have hky : k < ys.length := by rw [← Hny.out]; exact hlt
        obtain ⟨b, off, rfl, _, _, hx⟩ := El.Sl.one_at H.out hkx
        obtain ⟨b', off', rfl, _, _, hy⟩ := El.Sl.one_at H'.out hky
        have Hs := Lib.hid (drop_beq hkx hky)
        have hb := beq_u8 xs[k] ys[k]
        cases hv : xs[k] == ys[k]
        · have Hv := Lib.hid hv
          rw [hv] at hb
          have hb' : ((xs[k].toNat : Int) != (ys[k].toNat : Int)) = true := hb
          clear hv hb
          go_wp2
          go_quiet (fail)
          go_wp2
          go_ret
          exact ⟨by rw [Hf.out, Hs.out, Hv.out]; rfl, by first | exact (Dr.refl w).drewN _ | exact ((Dr.refl w).drewN _).drewN _⟩
        · have Hv := Lib.hid hv
          rw [hv] at hb
          have hb' : ((xs[k].toNat : Int) != (ys[k].toNat : Int)) = false := hb
          clear hv hb
          go_wp2
          go_quiet (fail)
          go_wp2
          go_roundw
          case rel => exact ⟨k + 1, _, rfl, by omega, by go_num, by rw [Hf.out, Hs.out, Hv.out]; rfl⟩
          case measure => simp [intOf]; omega
      · go_wp2
        go_ret
        have e1 : xs.drop k = [] := List.drop_eq_nil_of_le (by have := Hnx.out; omega)
        have e2 : ys.drop k = [] := List.drop_eq_nil_of_le (by have := Hny.out; omega)
        exact ⟨by rw [Hf.out, e1, e2]; rfl, by first | exact (Dr.refl w).drewN _ | exact ((Dr.refl w).drewN _).drewN _⟩
  · have hne : (xs == ys) = false := by
      rw [beq_eq_false_iff_ne]; intro e; rw [e] at hnx; omega
    have Hne := Lib.hid hne
    have : ((n : Int) != n') = true := by rw [bne_iff_ne]; omega
    clear hne hn
    go_enter Try.func21, Try.ntmps21
    go_wp2
    go_ret
    exact ⟨by rw [Hne.out]; rfl, Dr.refl _⟩

set_option maxHeartbeats 1000000 in
theorem lsame_any (A A' : Option Addr) (n n' c c' : Nat) (xs ys : Bs) (w : World) (S S' : Nat → Prop) (h : u8.Sl w S A n xs) (h' : u8.Sl w S' A' n' ys) (hm : n ≤ 9223372036854775807) (hm' : n' ≤ 9223372036854775807) :
    Calls Try.prog 13 #[.slice A n c, .slice A' n' c'] w fun e w' => e = .returned (.bool (xs == ys)) ∧ Dr w w' := by
  have H := Lib.hid (sameB_any A A' n n' c c' xs ys w S S' h h' hm hm')
  clear h h'
  go_enter Try.func13, Try.ntmps13
  go_wp2_with fail
  go_fit H.out
  rintro e w1 ⟨rfl, m, rfl⟩
  go_wp2_with fail
  go_ret
  exact ⟨rfl, m, rfl⟩

def rcEq (x y : RcT) : Bool := x.1 == y.1 && (x.2.1.toList == y.2.1.toList && x.2.2 == y.2.2)
def rcsEq : List RcT → List RcT → Bool
  | [], [] => true
  | x :: r, y :: s => rcEq x y && rcsEq r s
  | _, _ => false
theorem rcsEq_len {xs ys : List RcT} (h : xs.length ≠ ys.length) : rcsEq xs ys = false := by
  induction xs generalizing ys with
  | nil => cases ys with
    | nil => exact absurd rfl h
    | cons y s => rfl
  | cons x r ih => cases ys with
    | nil => rfl
    | cons y s => rw [rcsEq, ih (by simpa using h)]; simp
theorem rcsEq_drop {xs ys : List RcT} {k : Nat} (h1 : k < xs.length) (h2 : k < ys.length) : rcsEq (xs.drop k) (ys.drop k) = (rcEq xs[k] ys[k] && rcsEq (xs.drop (k + 1)) (ys.drop (k + 1))) := by
  rw [List.drop_eq_getElem_cons h1, List.drop_eq_getElem_cons h2]; rfl

set_option maxRecDepth 20000 in
set_option maxHeartbeats 8000000 in
theorem rsame_any (A A' : Option Addr) (n n' c c' : Nat) (xs ys : List RcT) (w : World) (S S' : Nat → Prop) (h : rc.Sl w S A n xs) (h' : rc.Sl w S' A' n' ys) (hm : n ≤ 9223372036854775807) (hm' : n' ≤ 9223372036854775807) :
    Calls Try.prog 12 #[.slice A n c, .slice A' n' c'] w fun e w' => e = .returned (.bool (rcsEq xs ys)) ∧ Dr w w' := by
  have hnx := h.1
  have hny := h'.1
  by_cases hn : n = n'
  · subst hn
    have H := Lib.hid h
    have H' := Lib.hid h'
    have Hnx := Lib.hid hnx
    have Hny := Lib.hid hny
    clear h h' hnx hny
    go_enter Try.func12, Try.ntmps12
    go_wp2
    go_loopw [5, 6] (fun i _ wr => ∃ k q : Nat, wr = w.drewN q ∧ k ≤ n ∧ i = .int .i64 k ∧ rcsEq xs ys = rcsEq (xs.drop k) (ys.drop k)) (fun i _ _ => n - (intOf i).toNat)
    case atStart => exact ⟨0, 0, rfl, by omega, rfl, rfl⟩
    case round =>
      obtain ⟨k, q, rfl, hk, rfl, hf⟩ := hrel
      have Hf := Lib.hid hf; clear hf
      by_cases hlt : k < n
      · have hkx : k < xs.length := by rw [← Hnx.out]; exact hlt
        have hky : k < ys.length := by rw [← Hny.out]; exact hlt
        have Hs := Lib.hid (rcsEq_drop hkx hky)
        obtain ⟨b, off, rfl, hb, hx⟩ := H.out.at_ hkx
        obtain ⟨b', off', rfl, hb', hy⟩ := H'.out.at_ hky
        obtain ⟨hx1, hx2, Ax, nx, cx, hx3, hx4, hx5, hx6⟩ := rc_at hx
        obtain ⟨hy1, hy2, Ay, ny, cy, hy3, hy4, hy5, hy6⟩ := rc_at hy
        simp only [show rc.size = 3 from rfl] at hx1 hx2 hx3 hy1 hy2 hy3
        clear hx hy
        generalize xs[k] = X at *
        generalize ys[k] = Y at *
        have Hhx6 := Lib.hid hx6
        have Hhy6 := Lib.hid hy6
        clear hx6 hy6
        unfold maxLen at hx5 hy5
        have hb1 := beq_u64 X.1 Y.1
        cases h1 : X.1 == Y.1
        · have Hv := Lib.hid h1
          rw [h1] at hb1
          have hb1' : ((X.1.toNat : Int) != (Y.1.toNat : Int)) = true := hb1
          clear hb1 h1
          go_wp2
          go_quiet (fail)
          go_wp2
          go_ret
          exact ⟨by rw [Hf.out, Hs.out, rcEq, Hv.out]; rfl, by first | exact (Dr.refl w).drewN _ | exact ((Dr.refl w).drewN _).drewN _⟩
        · have Hv1 := Lib.hid h1
          rw [h1] at hb1
          have hb1' : ((X.1.toNat : Int) != (Y.1.toNat : Int)) = false := hb1
          clear hb1 h1
          cases h2 : (X.2.1.toList == Y.2.1.toList)
          · have Hv2 := Lib.hid h2
            go_wp2
            go_quiet (fail)
            go_wp2
            go_ret
            exact ⟨by rw [Hf.out, Hs.out, rcEq, Hv1.out, Hv2.out]; rfl, by first | exact (Dr.refl w).drewN _ | exact ((Dr.refl w).drewN _).drewN _⟩
          · have Hv2 := Lib.hid h2
            by_cases h3 : nx = ny
            · have hb3 : ((nx : Int) != (ny : Int)) = false := by rw [bne_eq_false_iff_eq]; omega
              have Hb3 := Lib.hid hb3
              obtain rfl := h3
              clear hb3
              have hb3 := Hb3.out
              go_wp2
              go_quiet (fail)
              go_wp2
              go_loopw [6] (fun j wr => ∃ m q' : Nat, wr = w.drewN q' ∧ m ≤ nx ∧ j = .int .i64 m ∧ (X.2.2 == Y.2.2) = (X.2.2.drop m == Y.2.2.drop m)) (fun j _ => nx - (intOf j).toNat)
              case atStart => exact ⟨0, q + nq, by simp, by omega, rfl, rfl⟩
              case round =>
                obtain ⟨m, q', rfl, hmn, rfl, hg⟩ := hrel
                have Hg := Lib.hid hg; clear hg
                by_cases hm : m < nx
                · have hmx : m < X.2.2.length := by have := Hhx6.out.1; omega
                  have hmy : m < Y.2.2.length := by have := Hhy6.out.1; omega
                  obtain ⟨bx, ox, rfl, _, _, gx⟩ := El.Sl.one_at Hhx6.out hmx
                  obtain ⟨by', oy, rfl, _, _, gy⟩ := El.Sl.one_at Hhy6.out hmy
                  have Hs2 := Lib.hid (drop_beq hmx hmy)
                  have hb := beq_u32 X.2.2[m] Y.2.2[m]
                  cases hv : X.2.2[m] == Y.2.2[m]
                  · have Hv := Lib.hid hv
                    rw [hv] at hb
                    have hb' : ((X.2.2[m].toNat : Int) != (Y.2.2[m].toNat : Int)) = true := hb
                    clear hv hb
                    go_wp2
                    go_quiet (fail)
                    go_wp2
                    go_ret
                    exact ⟨by rw [Hf.out, Hs.out, rcEq, Hv1.out, Hv2.out, Hg.out, Hs2.out, Hv.out]; rfl, by first | exact (Dr.refl w).drewN _ | exact ((Dr.refl w).drewN _).drewN _⟩
                  · have Hv := Lib.hid hv
                    rw [hv] at hb
                    have hb' : ((X.2.2[m].toNat : Int) != (Y.2.2[m].toNat : Int)) = false := hb
                    clear hv hb
                    go_wp2
                    go_quiet (fail)
                    go_wp2
                    go_roundw
                    case rel => exact ⟨m + 1, _, rfl, by omega, by go_num, by rw [Hg.out, Hs2.out, Hv.out]; rfl⟩
                    case measure => simp [intOf]; omega
                · have e1 : X.2.2.drop m = [] := List.drop_eq_nil_of_le (by have := Hhx6.out.1; omega)
                  have e2 : Y.2.2.drop m = [] := List.drop_eq_nil_of_le (by have := Hhy6.out.1; omega)
                  have Hl := Lib.hid (show (X.2.2 == Y.2.2) = true by rw [Hg.out, e1, e2]; rfl)
                  clear e1 e2
                  go_wp2
                  go_roundw
                  case rel => exact ⟨k + 1, _, rfl, by omega, by go_num, by rw [Hf.out, Hs.out, rcEq, Hv1.out, Hv2.out, Hl.out]; rfl⟩
                  case measure => simp [intOf]; omega
            · have hne : (X.2.2 == Y.2.2) = false := by
                rw [beq_eq_false_iff_ne]; intro e; have := Hhx6.out.1; have := Hhy6.out.1; rw [e] at *; omega
              have Hne := Lib.hid hne
              have hb3 : ((nx : Int) != (ny : Int)) = true := by rw [bne_iff_ne]; omega
              clear h3 hne
              go_wp2
              go_quiet (fail)
              go_wp2
              go_ret
              exact ⟨by rw [Hf.out, Hs.out, rcEq, Hv1.out, Hv2.out, Hne.out]; rfl, by first | exact (Dr.refl w).drewN _ | exact ((Dr.refl w).drewN _).drewN _⟩
      · go_wp2
        go_ret
        have e1 : xs.drop k = [] := List.drop_eq_nil_of_le (by have := Hnx.out; omega)
        have e2 : ys.drop k = [] := List.drop_eq_nil_of_le (by have := Hny.out; omega)
        exact ⟨by rw [Hf.out, e1, e2]; rfl, by first | exact (Dr.refl w).drewN _ | exact ((Dr.refl w).drewN _).drewN _⟩
  · have hne : rcsEq xs ys = false := rcsEq_len (by omega)
    have Hne := Lib.hid hne
    have : ((n : Int) != n') = true := by rw [bne_iff_ne]; omega
    clear hne hn
    go_enter Try.func12, Try.ntmps12
    go_wp2
    go_ret
    exact ⟨by rw [Hne.out]; rfl, Dr.refl _⟩
end Go.Proofs.Ytlbgepgpihklfaa.Rec
