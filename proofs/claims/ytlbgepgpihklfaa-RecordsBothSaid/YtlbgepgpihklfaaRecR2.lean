/- Walks of the program's reader of records: short, count. -/
import Derived.Test.YtlbgepgpihklfaaRecR
import Derived.ScopeJumps
namespace Go.Proofs.Ytlbgepgpihklfaa.Rec
open Go.RowKit Lw

/-- A number in groups: its error, the number, the bytes read. f: how many groups may follow. -/
def grpD : Nat → Nat → Bs → Int × Nat × Nat
  | 0, _, _ => (6, 0, 0)
  | _ + 1, _, [] => (10, 0, 0)
  | f + 1, z, b :: r =>
    if f = 0 ∧ 1 < b.toNat % 128 then (6, 0, 0)
    else if b.toNat < 128 then (if f < 9 ∧ b.toNat % 128 = 0 then (6, 0, 0) else (0, z + b.toNat % 128 * 128 ^ (9 - f), 10 - f))
    else grpD f (z + b.toNat % 128 * 128 ^ (9 - f)) r

theorem grpD_bad (k v : Nat) (b : UInt8) (r : Bs) (g : Nat) (hk : k < 10) (hg : b.toNat % 128 = g) (h : (k = 9 ∧ 1 < g) ∨ (b.toNat < 128 ∧ 0 < k ∧ g = 0)) : grpD (10 - k) v (b :: r) = (6, 0, 0) := by
  obtain ⟨f, hf⟩ : ∃ f, 10 - k = f + 1 := ⟨9 - k, by omega⟩
  rw [hf, grpD, hg]
  rcases h with h | h
  · rw [if_pos (by omega)]
  · by_cases h1 : f = 0 ∧ 1 < g
    · rw [if_pos h1]
    · rw [if_neg h1, if_pos h.1, if_pos (by omega)]
theorem grpD_done (k v : Nat) (b : UInt8) (r : Bs) (g : Nat) (hk : k < 10) (hg : b.toNat % 128 = g) (h1 : ¬(k = 9 ∧ 1 < g)) (h2 : b.toNat < 128) (h3 : ¬(0 < k ∧ g = 0)) : grpD (10 - k) v (b :: r) = (0, v + g * 128 ^ k, k + 1) := by
  obtain ⟨f, hf⟩ : ∃ f, 10 - k = f + 1 := ⟨9 - k, by omega⟩
  rw [hf, grpD, hg, if_neg (by omega), if_pos h2, if_neg (by omega), show 9 - f = k by omega, show 10 - f = k + 1 by omega]
theorem grpD_on (k v : Nat) (b : UInt8) (r : Bs) (g : Nat) (hk : k < 10) (hg : b.toNat % 128 = g) (h1 : ¬(k = 9 ∧ 1 < g)) (h2 : ¬ b.toNat < 128) : grpD (10 - k) v (b :: r) = grpD (10 - (k + 1)) (v + g * 128 ^ k) r := by
  obtain ⟨f, hf⟩ : ∃ f, 10 - k = f + 1 := ⟨9 - k, by omega⟩
  rw [hf, grpD, hg, if_neg (by omega), if_neg h2, show 9 - f = k by omega, show 10 - (k + 1) = f by omega]

/-- What a reader's function leaves: its error, and how many bytes it read. -/
def RdOut (w : World) (br : Nat) (A : Option Addr) (n c at_ : Nat) (err : Int) (used : Nat) (w' : World) : Prop :=
  Only br w w' ∧ (err = 0 → Rd w' br A n c (at_ + used) 0 ∧ at_ + used ≤ n) ∧ (err ≠ 0 → ∃ a, Rd w' br A n c a err)

theorem and127_nat : ∀ a : Fin 256, a.val &&& 127 = a.val % 128 := by decide +kernel
theorem and127 (b : UInt8) (g : Nat) (h : b.toNat % 128 = g) : bits .and .u8 (b.toNat : Int) 127 = (g : Int) := by
  have hb := b.toNat_lt
  rw [u8_and _ _ (by omega) (by omega) (by omega) (by omega)]
  have h3 := and127_nat ⟨b.toNat, hb⟩
  have h2 : (127 : Int).toNat = 127 := rfl
  rw [Int.toNat_natCast, h2, h3, h]
theorem or_shift7 (z g k m : Nat) (hm : m = 7 * k) (hz : z < 128 ^ k) (hg : g < 128) (hk : k < 9 ∨ g ≤ 1) (hk' : k < 10) : bits .or .u64 (z : Int) (IntKind.u64.wrap ((g : Int) * 2 ^ m)) = ((z + g * 128 ^ k : Nat) : Int) := by
  subst hm
  have e : (128 : Nat) ^ k = 2 ^ (7 * k) := by rw [show (128 : Nat) = 2 ^ 7 by decide, ← Nat.pow_mul]
  have h64 : (128 : Nat) ^ 9 = 9223372036854775808 := by decide
  have hm : g * 128 ^ k < 18446744073709551616 ∧ z < 18446744073709551616 := by
    rcases Nat.lt_or_ge k 9 with h9 | h9
    · have hp : 128 ^ (k + 1) ≤ 128 ^ 9 := Nat.pow_le_pow_right (by decide) (by omega)
      have hm : g * 128 ^ k < 128 ^ (k + 1) := by rw [Nat.pow_succ, Nat.mul_comm]; exact Nat.mul_lt_mul_of_pos_left hg (Nat.pow_pos (by decide))
      have hz' : z < 128 ^ (k + 1) := by rw [Nat.pow_succ]; omega
      omega
    · obtain rfl : k = 9 := by omega
      have : g ≤ 1 := by omega
      have : g * 128 ^ 9 ≤ 1 * 128 ^ 9 := Nat.mul_le_mul_right _ this
      omega
  have w2 : (g : Int) * 2 ^ (7 * k) = ((g * 128 ^ k : Nat) : Int) := by rw [e]; simp
  have w3 : IntKind.u64.wrap ((g * 128 ^ k : Nat) : Int) = ((g * 128 ^ k : Nat) : Int) := by rw [IntKind.wrap_u64]; omega
  rw [w2, w3, u64_or_nat _ _ hm.2 hm.1]
  congr 1
  rw [Nat.or_comm, e, ← Nat.shiftLeft_eq, ← Nat.shiftLeft_add_eq_or_of_lt (by rw [← e]; exact hz), Nat.add_comm]

theorem jump_ret {l : Nat} {J : Act → World → Prop} {Q : Exit → Act → World → Prop} {a : Act} {w : World} (h : Q .ret a w) : Exit.jump l J Q .ret a w := h
theorem or_shift63 (z g : Nat) (hz : z < 128 ^ 9) (hg : g ≤ 1) : bits .or .u64 (z : Int) ((g : Int) * 9223372036854775808) = ((z + g * 128 ^ 9 : Nat) : Int) := by
  have h := or_shift7 z g 9 63 rfl hz (by omega) (by omega) (by omega)
  rw [show (2 : Int) ^ 63 = 9223372036854775808 by decide, IntKind.wrap_u64, Int.emod_eq_of_lt (by omega) (by omega)] at h
  exact h
theorem or_shift0 (z g : Nat) (hz : z < 128 ^ 0) (hg : g < 128) : bits .or .u64 (z : Int) (g : Int) = ((z + g * 128 ^ 0 : Nat) : Int) := by
  have h := or_shift7 z g 0 0 rfl hz hg (by omega) (by omega)
  rw [show (g : Int) * 2 ^ 0 = (g : Int) by simp, IntKind.wrap_u64, Int.emod_eq_of_lt (by omega) (by omega)] at h
  exact h
set_option maxRecDepth 20000 in
set_option maxHeartbeats 4000000 in
theorem short_any (br n c at_ : Nat) (A : Option Addr) (bs : Bs) (S : Nat → Prop) (w : World) (h : Rd w br A n c at_ 0) (hS : ¬ S br) (hs : u8.Sl w S A n bs) (hat : at_ ≤ n) (hn : n ≤ 1000000) (hnc : n ≤ c) (hc : c ≤ 9223372036854775807) :
    Calls Try.prog 46 #[.pointer (some ⟨br, 0, none⟩)] w fun e w' => e = .returned (.int .u64 (grpD 10 0 (bs.drop at_)).2.1) ∧ RdOut w br A n c at_ (grpD 10 0 (bs.drop at_)).1 (grpD 10 0 (bs.drop at_)).2.2 w' := by
  have Hs := Lib.hid hs
  have Hr := Lib.hid h
  clear hs h
  go_enter Try.func46, Try.ntmps46
  go_wp2_with fail
  refine wp_scope_jumps 0 (fun a W => ∃ (d : Nat) (a1 a2 a3 a4 a5 a6 a7 a8 a9 a10 a11 a12 a13 a14 a15 a16 a17 a18 a19 a20 a21 a22 a23 a24 a25 a26 a27 a28 a29 a30 a31 a32 a33 a34 a35 a36 a37 a38 a39 a40 a41 a42 a43 a44 a45 a46 a47 a48 : Value), a = { tmps := #[.pointer (some ⟨br, 0, none⟩), a1, a2, a3, a4, a5, a6, a7, a8, a9, a10, a11, a12, a13, a14, a15, a16, a17, a18, a19, a20, a21, a22, a23, a24, a25, a26, a27, a28, a29, a30, a31, a32, a33, a34, a35, a36, a37, a38, a39, a40, a41, a42, a43, a44, a45, a46, a47, a48], defers := [] } ∧ Rd W br A n c d 0 ∧ Only br w W ∧ (grpD 10 0 (bs.drop at_)) = (6, 0, 0)) (fun _ _ => 0) (by rfl) ?_ ?_
  · go_wp2_with fail
    go_loopw [3, 4, 5, 6] (fun z i _ _ wr => ∃ k v : Nat, k ≤ 10 ∧ z = .int .u64 v ∧ i = .int .i64 k ∧ v < 128 ^ k ∧ at_ + k ≤ n ∧ Rd wr br A n c (at_ + k) 0 ∧ Only br w wr ∧ grpD 10 0 (bs.drop at_) = grpD (10 - k) v (bs.drop (at_ + k))) (fun _ i _ _ _ => 10 - (intOf i).toNat)
    case atStart => exact ⟨0, 0, by omega, rfl, rfl, by decide, by omega, Hr.out, Only.refl _ _, rfl⟩
    case round =>
      obtain ⟨k, v, hk, rfl, rfl, hv, hkn, hd, ho, hg⟩ := hrel
      have Hd := Lib.hid hd
      have Ho := Lib.hid ho
      have Hg := Lib.hid hg
      have Hv := Lib.hid hv
      clear hd ho hg hv
      by_cases h10 : k < 10
      · by_cases hend : at_ + k < n
        · have hlb : at_ + k < bs.length := by have := Hs.out.1; omega
          generalize hb : bs[at_ + k] = b at *
          have Hb := Lib.hid hb
          have hdr : bs.drop (at_ + k) = b :: bs.drop (at_ + (k + 1)) := by rw [List.drop_eq_getElem_cons hlb, hb]; rfl
          have Hdr := Lib.hid hdr
          clear hb hdr
          have hb256 := b.toNat_lt
          have hg128 : b.toNat % 128 < 128 := Nat.mod_lt _ (by decide)
          obtain ⟨g, hgd⟩ : ∃ g, b.toNat % 128 = g := ⟨_, rfl⟩
          have Hgd := Lib.hid hgd
          have t1 := and127 b g hgd
          rw [hgd] at hg128
          have t2 : IntKind.u64.wrap (g : Int) = (g : Int) := by rw [IntKind.wrap_u64]; omega
          have gl : (g : Int) < 128 := by omega
          clear hgd
          by_cases h9 : k = 9
          · subst h9
            by_cases g1 : 1 < g
            · have g1' : (1 : Int) < (g : Int) := by omega
              have G1 := Lib.hid g1
              clear g1
              go_wp2_with (go_at_call 44; go_must (refine (take_ok br n c (at_ + 9) 1 A bs S _ Hd.out hS (Hs.out.keep (Ho.out.keep hS)) (by omega) hn hnc hc).mono ?_); rintro e w1 ⟨A1, c1, rfl, h1c, hc1, hs1, hd1, ho1⟩; obtain ⟨k0, k1, k2, k3, k4⟩ := rd_cells hd1; have Hd1 := Lib.hid hd1; have Ho1 := Lib.hid ho1; rw [Hdr.out] at hs1; obtain ⟨b1, off1, rfl, _, hbl1, hcell1⟩ := El.Sl.one_at (k := 0) hs1 (by simp); simp at hcell1; clear hd1 ho1 hs1)
              go_step3
              exact ⟨rfl, at_ + 9 + 1, _, _, _, _, _, _, _, _, _, _, _, _, _, _, _, _, _, _, _, _, _, _, _, _, _, _, _, _, _, _, _, _, _, _, _, _, _, _, _, _, _, _, _, _, _, _, _, _, rfl, Hd1.out, Ho.out.trans Ho1.out, by rw [Hg.out, Hdr.out]; exact grpD_bad 9 v b _ g (by omega) Hgd.out (.inl ⟨rfl, G1.out⟩)⟩
            · have g1' : (g : Int) ≤ 1 := by omega
              have G1 := Lib.hid g1
              clear g1
              by_cases c2 : b.toNat < 128
              · have c2' : (b.toNat : Int) < 128 := by omega
                have C2 := Lib.hid c2
                clear c2
                by_cases g0 : g = 0
                · have g0' : ((g : Int) == 0) = true := by simp [g0]
                  have G0 := Lib.hid g0
                  clear g0
                  go_wp2_with (go_at_call 44; go_must (refine (take_ok br n c (at_ + 9) 1 A bs S _ Hd.out hS (Hs.out.keep (Ho.out.keep hS)) (by omega) hn hnc hc).mono ?_); rintro e w1 ⟨A1, c1, rfl, h1c, hc1, hs1, hd1, ho1⟩; obtain ⟨k0, k1, k2, k3, k4⟩ := rd_cells hd1; have Hd1 := Lib.hid hd1; have Ho1 := Lib.hid ho1; rw [Hdr.out] at hs1; obtain ⟨b1, off1, rfl, _, hbl1, hcell1⟩ := El.Sl.one_at (k := 0) hs1 (by simp); simp at hcell1; clear hd1 ho1 hs1)
                  go_step3
                  exact ⟨rfl, at_ + 9 + 1, _, _, _, _, _, _, _, _, _, _, _, _, _, _, _, _, _, _, _, _, _, _, _, _, _, _, _, _, _, _, _, _, _, _, _, _, _, _, _, _, _, _, _, _, _, _, _, _, rfl, Hd1.out, Ho.out.trans Ho1.out, by rw [Hg.out, Hdr.out]; exact grpD_bad 9 v b _ g (by omega) Hgd.out (.inr ⟨C2.out, by omega, G0.out⟩)⟩
                · have g0' : ((g : Int) == 0) = false := by rw [beq_eq_false_iff_ne]; omega
                  have G0 := Lib.hid g0
                  clear g0
                  go_wp2_with (go_at_call 44; go_must (refine (take_ok br n c (at_ + 9) 1 A bs S _ Hd.out hS (Hs.out.keep (Ho.out.keep hS)) (by omega) hn hnc hc).mono ?_); rintro e w1 ⟨A1, c1, rfl, h1c, hc1, hs1, hd1, ho1⟩; obtain ⟨k0, k1, k2, k3, k4⟩ := rd_cells hd1; have Hd1 := Lib.hid hd1; have Ho1 := Lib.hid ho1; rw [Hdr.out] at hs1; obtain ⟨b1, off1, rfl, _, hbl1, hcell1⟩ := El.Sl.one_at (k := 0) hs1 (by simp); simp at hcell1; clear hd1 ho1 hs1)
                  refine jump_ret ?_
                  go_ret
                  have hr : grpD 10 0 (bs.drop at_) = (0, v + g * 128 ^ 9, 9 + 1) := by rw [Hg.out, Hdr.out]; exact grpD_done 9 v b _ g (by omega) Hgd.out (fun h => G1.out h.2) C2.out (fun h => G0.out h.2)
                  rw [hr]
                  exact ⟨by rw [← or_shift63 v g Hv.out (by omega)]; rfl, Ho.out.trans Ho1.out, fun _ => ⟨Hd1.out, by show at_ + (_ + 1) ≤ n; omega⟩, fun h => absurd rfl h⟩
              · have c2' : (128 : Int) ≤ (b.toNat : Int) := by omega
                have C2 := Lib.hid c2
                clear c2
                go_wp2_with (go_at_call 44; go_must (refine (take_ok br n c (at_ + 9) 1 A bs S _ Hd.out hS (Hs.out.keep (Ho.out.keep hS)) (by omega) hn hnc hc).mono ?_); rintro e w1 ⟨A1, c1, rfl, h1c, hc1, hs1, hd1, ho1⟩; obtain ⟨k0, k1, k2, k3, k4⟩ := rd_cells hd1; have Hd1 := Lib.hid hd1; have Ho1 := Lib.hid ho1; rw [Hdr.out] at hs1; obtain ⟨b1, off1, rfl, _, hbl1, hcell1⟩ := El.Sl.one_at (k := 0) hs1 (by simp); simp at hcell1; clear hd1 ho1 hs1)
                go_roundw
                case rel =>
                  have hp : 128 ^ (9 + 1) = 128 ^ 9 * 128 := Nat.pow_succ ..
                  have hgp : g * 128 ^ 9 ≤ 127 * 128 ^ 9 := Nat.mul_le_mul_right _ (by omega)
                  exact ⟨9 + 1, v + g * 128 ^ 9, by omega, congrArg (Value.int .u64) (or_shift63 v g Hv.out (by omega)), by go_num, by have := Hv.out; omega, by omega, Hd1.out, Ho.out.trans Ho1.out, by rw [Hg.out, Hdr.out]; exact grpD_on 9 v b _ g (by omega) Hgd.out (fun h => G1.out h.2) C2.out⟩
                case measure => simp only [intOf]; omega
          · have h9' : ((k : Int) == 9) = false := by rw [beq_eq_false_iff_ne]; omega
            have hk9 : k < 9 := by omega
            have H9 := Lib.hid h9
            clear h9
            by_cases c2 : b.toNat < 128
            · have c2' : (b.toNat : Int) < 128 := by omega
              have C2 := Lib.hid c2
              clear c2
              by_cases k0 : k = 0
              · subst k0
                go_wp2_with (go_at_call 44; go_must (refine (take_ok br n c (at_ + 0) 1 A bs S _ Hd.out hS (Hs.out.keep (Ho.out.keep hS)) (by omega) hn hnc hc).mono ?_); rintro e w1 ⟨A1, c1, rfl, h1c, hc1, hs1, hd1, ho1⟩; obtain ⟨k0, k1, k2, k3, k4⟩ := rd_cells hd1; have Hd1 := Lib.hid hd1; have Ho1 := Lib.hid ho1; rw [Hdr.out] at hs1; obtain ⟨b1, off1, rfl, _, hbl1, hcell1⟩ := El.Sl.one_at (k := 0) hs1 (by simp); simp at hcell1; clear hd1 ho1 hs1)
                refine jump_ret ?_
                go_ret
                have hr : grpD 10 0 (bs.drop at_) = (0, v + g * 128 ^ 0, 0 + 1) := by rw [Hg.out, Hdr.out]; exact grpD_done 0 v b _ g (by omega) Hgd.out (fun h => by omega) C2.out (fun h => by omega)
                rw [hr]
                exact ⟨by rw [← or_shift0 v g Hv.out (by omega)]; rfl, Ho.out.trans Ho1.out, fun _ => ⟨Hd1.out, by show at_ + (_ + 1) ≤ n; omega⟩, fun h => absurd rfl h⟩
              · have k0' : (0 : Int) < (k : Int) := by omega
                by_cases g0 : g = 0
                · have g0' : ((g : Int) == 0) = true := by simp [g0]
                  have G0 := Lib.hid g0
                  clear g0 k0
                  have s1 : IntKind.i64.wrap (7 * ((k : Nat) : Int)) = 7 * ((k : Nat) : Int) := IntWalk.i64_in _ (by omega)
                  have s2 : (0 : Int) ≤ 7 * (k : Int) := by omega
                  have s3 : 7 * (k : Int) ≤ 64 := by omega
                  have s4 : (7 * (k : Int)).toNat = 7 * k := by omega
                  go_wp2_with (go_at_call 44; go_must (refine (take_ok br n c (at_ + k) 1 A bs S _ Hd.out hS (Hs.out.keep (Ho.out.keep hS)) (by omega) hn hnc hc).mono ?_); rintro e w1 ⟨A1, c1, rfl, h1c, hc1, hs1, hd1, ho1⟩; obtain ⟨k0, k1, k2, k3, k4⟩ := rd_cells hd1; have Hd1 := Lib.hid hd1; have Ho1 := Lib.hid ho1; rw [Hdr.out] at hs1; obtain ⟨b1, off1, rfl, _, hbl1, hcell1⟩ := El.Sl.one_at (k := 0) hs1 (by simp); simp at hcell1; clear hd1 ho1 hs1)
                  go_step3
                  exact ⟨rfl, at_ + k + 1, _, _, _, _, _, _, _, _, _, _, _, _, _, _, _, _, _, _, _, _, _, _, _, _, _, _, _, _, _, _, _, _, _, _, _, _, _, _, _, _, _, _, _, _, _, _, _, _, rfl, Hd1.out, Ho.out.trans Ho1.out, by rw [Hg.out, Hdr.out]; exact grpD_bad k v b _ g (by omega) Hgd.out (.inr ⟨C2.out, by omega, G0.out⟩)⟩
                · have g0' : ((g : Int) == 0) = false := by rw [beq_eq_false_iff_ne]; omega
                  have G0 := Lib.hid g0
                  clear g0 k0
                  have s1 : IntKind.i64.wrap (7 * ((k : Nat) : Int)) = 7 * ((k : Nat) : Int) := IntWalk.i64_in _ (by omega)
                  have s2 : (0 : Int) ≤ 7 * (k : Int) := by omega
                  have s3 : 7 * (k : Int) ≤ 64 := by omega
                  have s4 : (7 * (k : Int)).toNat = 7 * k := by omega
                  go_wp2_with (go_at_call 44; go_must (refine (take_ok br n c (at_ + k) 1 A bs S _ Hd.out hS (Hs.out.keep (Ho.out.keep hS)) (by omega) hn hnc hc).mono ?_); rintro e w1 ⟨A1, c1, rfl, h1c, hc1, hs1, hd1, ho1⟩; obtain ⟨k0, k1, k2, k3, k4⟩ := rd_cells hd1; have Hd1 := Lib.hid hd1; have Ho1 := Lib.hid ho1; rw [Hdr.out] at hs1; obtain ⟨b1, off1, rfl, _, hbl1, hcell1⟩ := El.Sl.one_at (k := 0) hs1 (by simp); simp at hcell1; clear hd1 ho1 hs1)
                  refine jump_ret ?_
                  go_ret
                  have hr : grpD 10 0 (bs.drop at_) = (0, v + g * 128 ^ k, k + 1) := by rw [Hg.out, Hdr.out]; exact grpD_done k v b _ g (by omega) Hgd.out (fun h => by omega) C2.out (fun h => G0.out h.2)
                  rw [hr]
                  exact ⟨by rw [← or_shift7 v g k _ rfl Hv.out (by omega) (by omega) (by omega)]; rfl, Ho.out.trans Ho1.out, fun _ => ⟨Hd1.out, by show at_ + (_ + 1) ≤ n; omega⟩, fun h => absurd rfl h⟩
            · have c2' : (128 : Int) ≤ (b.toNat : Int) := by omega
              have C2 := Lib.hid c2
              clear c2
              have s1 : IntKind.i64.wrap (7 * ((k : Nat) : Int)) = 7 * ((k : Nat) : Int) := IntWalk.i64_in _ (by omega)
              have s2 : (0 : Int) ≤ 7 * (k : Int) := by omega
              have s3 : 7 * (k : Int) ≤ 64 := by omega
              have s4 : (7 * (k : Int)).toNat = 7 * k := by omega
              go_wp2_with (go_at_call 44; go_must (refine (take_ok br n c (at_ + k) 1 A bs S _ Hd.out hS (Hs.out.keep (Ho.out.keep hS)) (by omega) hn hnc hc).mono ?_); rintro e w1 ⟨A1, c1, rfl, h1c, hc1, hs1, hd1, ho1⟩; obtain ⟨k0, k1, k2, k3, k4⟩ := rd_cells hd1; have Hd1 := Lib.hid hd1; have Ho1 := Lib.hid ho1; rw [Hdr.out] at hs1; obtain ⟨b1, off1, rfl, _, hbl1, hcell1⟩ := El.Sl.one_at (k := 0) hs1 (by simp); simp at hcell1; clear hd1 ho1 hs1)
              go_roundw
              case rel =>
                have hp : 128 ^ (k + 1) = 128 ^ k * 128 := Nat.pow_succ ..
                have hgp : g * 128 ^ k ≤ 127 * 128 ^ k := Nat.mul_le_mul_right _ (by omega)
                exact ⟨k + 1, v + g * 128 ^ k, by omega, congrArg (Value.int .u64) (or_shift7 v g k _ rfl Hv.out (by omega) (by omega) (by omega)), by go_num, by have := Hv.out; omega, by omega, Hd1.out, Ho.out.trans Ho1.out, by rw [Hg.out, Hdr.out]; exact grpD_on k v b _ g (by omega) Hgd.out (fun h => by omega) C2.out⟩
              case measure => simp only [intOf]; omega
        · go_wp2_with (go_at_call 44; go_must (refine (take_more br n c (at_ + k) 1 A _ Hd.out (by omega) hn (by omega) (by omega)).mono ?_); rintro e w1 ⟨rfl, hd1, ho1⟩; obtain ⟨k0, k1, k2, k3, k4⟩ := rd_cells hd1; have Hd1 := Lib.hid hd1; have Ho1 := Lib.hid ho1; clear hd1 ho1)
          refine jump_ret ?_
          go_ret
          have hr : grpD 10 0 (bs.drop at_) = (10, 0, 0) := by
            rw [Hg.out, List.drop_eq_nil_of_le (by have := Hs.out.1; omega), show 10 - k = (9 - k) + 1 by omega]; rfl
          rw [hr]
          exact ⟨rfl, Ho.out.trans Ho1.out, fun h => absurd h (by decide), fun _ => ⟨_, Hd1.out⟩⟩
      · have h10' : k = 10 := by omega
        have H10 := Lib.hid h10'
        clear h10'
        go_wp2_with fail
        go_step3
        obtain ⟨k0, k1, k2, k3, k4⟩ := rd_cells Hd.out
        go_wp2_with fail
        refine jump_ret ?_
        go_ret
        have hr : grpD 10 0 (bs.drop at_) = (6, 0, 0) := by rw [Hg.out, H10.out]; rfl
        rw [hr]
        exact ⟨rfl, Ho.out.trans (Only.setCell br _ 2 _), fun h => absurd h (by decide), fun _ => ⟨_, rd_set2 Hd.out 6⟩⟩
  · rintro a W ⟨d, a1, a2, a3, a4, a5, a6, a7, a8, a9, a10, a11, a12, a13, a14, a15, a16, a17, a18, a19, a20, a21, a22, a23, a24, a25, a26, a27, a28, a29, a30, a31, a32, a33, a34, a35, a36, a37, a38, a39, a40, a41, a42, a43, a44, a45, a46, a47, a48, rfl, hd, ho, hg⟩
    obtain ⟨k0, k1, k2, k3, k4⟩ := rd_cells hd
    have Hd := Lib.hid hd
    have Hg := Lib.hid hg
    clear hd hg
    go_wp2_with fail
    refine jump_ret ?_
    go_ret
    rw [Hg.out]
    exact ⟨rfl, ho.trans (Only.setCell br _ 2 _), fun h => absurd h (by decide), fun _ => ⟨d, rd_set2 Hd.out 6⟩⟩
end Go.Proofs.Ytlbgepgpihklfaa.Rec
