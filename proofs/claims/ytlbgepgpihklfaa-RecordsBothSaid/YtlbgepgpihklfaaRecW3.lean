/- Walks of the program's writer of records: number, groups, str, list. -/
import Derived.Test.YtlbgepgpihklfaaRecW
import Derived.Test.YtlbgepgpihklfaaShelf
namespace Go.Proofs.Ytlbgepgpihklfaa.Rec
open Go.RowKit Lw

theorem bitLen_le (j x : Nat) (hx : x < 2 ^ 64) (hj : x < 2 ^ j) : Lib.bitLen x ≤ j := by
  induction j generalizing x with
  | zero => have : x = 0 := by simpa using hj
            subst this; decide
  | succ j ih =>
    by_cases h0 : x = 0
    · subst h0; exact Nat.le_trans (by decide : Lib.bitLen 0 ≤ 0) (Nat.zero_le _)
    · rw [Lib.bitLen_half x h0 hx]
      have := ih (x / 2) (by omega) (by rw [Nat.pow_succ] at hj; omega)
      omega
theorem bitLen_gt (j x : Nat) (hx : x < 2 ^ 64) (hj : 2 ^ j ≤ x) : j < Lib.bitLen x := by
  induction j generalizing x with
  | zero =>
    have h0 : x ≠ 0 := by simp at hj; omega
    rw [Lib.bitLen_half x h0 hx]; omega
  | succ j ih =>
    have h0 : x ≠ 0 := by rintro rfl; have := Nat.pow_pos (n := j + 1) (show 0 < 2 by decide); omega
    rw [Lib.bitLen_half x h0 hx]
    have := ih (x / 2) (by omega) (by rw [Nat.pow_succ] at hj; omega)
    omega

/-- A value of a record. -/
def RcV (w : World) (S : Nat → Prop) (A : Option Addr) (n c : Nat) (x : RcT) : Prop := n ≤ c ∧ c ≤ 9223372036854775807 ∧ u32.Sl w S A n x.2.2

abbrev rcAgg (x : RcT) (A : Option Addr) (n c : Nat) : Value := .agg #[.int .u64 x.1.toNat, .string x.2.1, .slice A n c]

/-- What a writer's method leaves. -/
def WrPost (w : World) (base bw T : Nat) (v : Value) (xs : Bs) (r : Int × Bs) (e : Ending) (w' : World) : Prop :=
  e = .returned (.int .i64 r.1) ∧ (r.1 = 0 → WrOut w base bw T v (xs ++ r.2) w') ∧ Below base w w'

theorem wrPost_err {w w' : World} {base bw T : Nat} {v : Value} {xs : Bs} {r : Int × Bs} {n : Int} (hr : r = (n, [])) (hn : n ≠ 0) (hb : Below base w w') : WrPost w base bw T v xs r (.returned (.int .i64 n)) w' := by
  subst hr; exact ⟨rfl, fun h => absurd h hn, hb⟩
theorem wrPost_ok {w w1 w2 : World} {base bw T : Nat} {v : Value} {xs : Bs} {r : Int × Bs} {ys : Bs} (hr : r = (0, ys)) (h1 : Below w.heap.size w w1) (hB : base ≤ w.heap.size) (h : WrOut w1 base bw T v (xs ++ ys) w2) : WrPost w base bw T v xs r (.returned (.int .i64 0)) w2 := by
  subst hr
  have := WrOut.trans (WStep.below (bw := bw) (v := v) h1) (h1.mono hB) h
  exact ⟨rfl, fun _ => this, by obtain ⟨_, _, _, h⟩ := this; exact h⟩

set_option maxRecDepth 20000 in
set_option maxHeartbeats 2000000 in
theorem wgroups_any (l wd : Nat) (f g : Value) (x : RcT) (A : Option Addr) (n c base bw T : Nat) (v : Value) (xs : Bs) (w : World) (hx : RcV w (· < base) A n c x) (hw : Wr w base bw T v xs) (hB : base ≤ w.heap.size) (hT : T ≠ 5) (hl : xs.length ≤ 90000) :
    Calls Try.prog 35 #[.pointer (some ⟨bw, 0, none⟩), .agg #[.int .u8 l, .int .i64 wd, f, g], rcAgg x A n c] w (WrPost w base bw T v xs (valI 118 x)) := by
  have hc := hx.2.1
  have hnc := hx.1
  have hnl := hx.2.2.1
  have hxx : x.1.toNat < 18446744073709551616 := x.1.toNat_lt
  have hw' : ∀ (k : Array Value) (q : Nat), Below w.heap.size w (((w.alloc (.cells k 60)).alloc (.cells #[.int .u64 x.1.toNat, .string x.2.1, .slice A n c] 49)).drewN q) :=
    fun k q => (((Below.refl _ _).alloc (Nat.le_refl _) _).alloc (by simp) _).trans ⟨rfl, rfl, rfl, Nat.le_refl _, fun _ _ => rfl⟩
  have Hw := Lib.hid hw'
  have Hwr := Lib.hid hw
  have Hn := Lib.hid hnl
  have Hx := Lib.hid hx
  have Hv := Lib.hid (valI_v x)
  clear hw' hw hx hnl
  by_cases h1 : x.2.1.toList = []
  · by_cases h2 : n = 0
    · subst h2
      go_enter Try.func35, Try.ntmps35
      go_wp2_with (go_at_call 45; go_must (refine (wshort_any _ base bw T v xs _ hxx (wr_mono Hwr.out (Hw.out _ 0)) hT (by omega)).mono ?_); rintro e w1 ⟨rfl, hw1⟩)
      go_ret
      exact wrPost_ok (by rw [Hv.out, if_neg]; rw [sz_nil h1, ← Hn.out]; omega) (Hw.out _ 0) hB hw1
    · have h2' : (0 : Int) < (n : Int) := by omega
      clear h2
      go_enter Try.func35, Try.ntmps35
      go_wp2_with fail
      go_ret
      exact wrPost_err (by rw [Hv.out, if_pos]; rw [← Hn.out]; omega) (by decide) ((Hw.out _ 0).mono hB)
  · have h1' : x.2.1.toList.isEmpty = false := by simpa using h1
    clear h1
    go_enter Try.func35, Try.ntmps35
    go_wp2_with fail
    go_ret
    exact wrPost_err (by rw [Hv.out, if_pos]; exact .inl (sz_pos h1')) (by decide) ((Hw.out _ 0).mono hB)

theorem natAbs_bit (x wd : Nat) (hx : x < 18446744073709551616) (hw : wd ≤ 8) : (8 * (wd : Int) < (Lib.bitLen x : Int)) ↔ (wd < 8 ∧ 256 ^ wd ≤ x) := by
  have e : 256 ^ wd = 2 ^ (8 * wd) := by rw [show (256 : Nat) = 2 ^ 8 by decide, ← Nat.pow_mul]
  have hx' : x < 2 ^ 64 := hx
  constructor
  · intro h
    have h1 : ¬ x < 2 ^ (8 * wd) := fun h2 => by have := bitLen_le _ _ hx' h2; omega
    refine ⟨?_, by omega⟩
    rcases Nat.lt_or_ge wd 8 with h3 | h3
    · exact h3
    · obtain rfl : wd = 8 := by omega
      exact absurd hx' h1
  · rintro ⟨_, h⟩
    have := bitLen_gt (8 * wd) x hx' (by omega)
    omega

set_option maxRecDepth 20000 in
set_option maxHeartbeats 2000000 in
theorem wnumber_any (l wd : Nat) (f g : Value) (x : RcT) (A : Option Addr) (n c base bw T : Nat) (v : Value) (xs : Bs) (w : World) (hx : RcV w (· < base) A n c x) (hw : Wr w base bw T v xs) (hB : base ≤ w.heap.size) (hT : T ≠ 5) (hl : xs.length ≤ 90000) (hwd : widthN l = wd) (h0 : 0 < wd) :
    Calls Try.prog 33 #[.pointer (some ⟨bw, 0, none⟩), .agg #[.int .u8 l, .int .i64 wd, f, g], rcAgg x A n c] w (WrPost w base bw T v xs (valI l x)) := by
  have hc := hx.2.1
  have hnc := hx.1
  have hnl := hx.2.2.1
  have hxx : x.1.toNat < 18446744073709551616 := x.1.toNat_lt
  have hw' : ∀ (k : Array Value) (q : Nat), Below w.heap.size w (((w.alloc (.cells k 60)).alloc (.cells #[.int .u64 x.1.toNat, .string x.2.1, .slice A n c] 49)).drewN q) :=
    fun k q => (((Below.refl _ _).alloc (Nat.le_refl _) _).alloc (by simp) _).trans ⟨rfl, rfl, rfl, Nat.le_refl _, fun _ _ => rfl⟩
  have Hw := Lib.hid hw'
  have Hwr := Lib.hid hw
  have Hn := Lib.hid hnl
  have Hx := Lib.hid hx
  have hw8 : wd ≤ 8 := by rw [← hwd]; unfold widthN; split <;> (try split) <;> (try split) <;> (try split) <;> omega
  have Hv := Lib.hid (valI_n l wd x hwd h0)
  have Hb := Lib.hid (natAbs_bit x.1.toNat wd hxx hw8)
  have Hlen := Lib.hid (fun W => Try.bits_Len64 (x.1.toNat : Int) W (by omega) (by omega))
  clear hw' hw hx hnl hwd
  by_cases h1 : x.2.1.toList = []
  · by_cases h2 : n = 0
    · subst h2
      have hs1 := Lib.hid (sz_nil h1)
      have s1 : IntKind.i64.wrap (8 * (wd : Int)) = 8 * (wd : Int) := IntWalk.i64_in _ (by omega)
      have Hs1 := Lib.hid s1; clear s1
      by_cases h3 : wd < 8 ∧ 256 ^ wd ≤ x.1.toNat
      · have h4 : decide (8 * (wd : Int) < (Lib.bitLen x.1.toNat : Int)) = true := by simpa using Hb.out.2 h3
        have H3 := Lib.hid h3
        have H4 := Lib.hid h4
        clear h3 h4 hxx
        go_enter Try.func33, Try.ntmps33
        go_wp2_with fail
        have s1 := Hs1.out; have h4 := H4.out
        go_quiet ((go_at_call 41; exact Calls.quiet_of_same (Hlen.out _)))
        go_wp2_with fail
        go_ret
        exact wrPost_err (by rw [Hv.out, if_neg (by rw [hs1.out, ← Hn.out]; omega), if_pos H3.out]) (by decide) ((Hw.out _ _).mono hB)
      · have h4 : decide (8 * (wd : Int) < (Lib.bitLen x.1.toNat : Int)) = false := by simpa using fun h => h3 (Hb.out.1 h)
        have H3 := Lib.hid h3
        have H4 := Lib.hid h4
        clear h3 h4
        go_enter Try.func33, Try.ntmps33
        go_wp2_with fail
        have s1 := Hs1.out; have h4 := H4.out
        go_quiet ((go_at_call 41; exact Calls.quiet_of_same (Hlen.out _)))
        go_wp2_with (go_at_call 42; go_must (refine (wlow_any _ _ base bw T v xs _ hw8 (wr_mono Hwr.out (Hw.out _ _)) hT (by omega)).mono ?_); rintro e w1 ⟨rfl, hw1⟩)
        go_ret
        exact wrPost_ok (by rw [Hv.out, if_neg (by rw [hs1.out, ← Hn.out]; omega), if_neg H3.out]) (Hw.out _ _) hB hw1
    · have h2' : (0 : Int) < (n : Int) := by omega
      clear h2
      go_enter Try.func33, Try.ntmps33
      go_wp2_with fail
      go_ret
      exact wrPost_err (by rw [Hv.out, if_pos]; rw [← Hn.out]; omega) (by decide) ((Hw.out _ 0).mono hB)
  · have h1' : x.2.1.toList.isEmpty = false := by simpa using h1
    clear h1
    go_enter Try.func33, Try.ntmps33
    go_wp2_with fail
    go_ret
    exact wrPost_err (by rw [Hv.out, if_pos]; exact .inl (sz_pos h1')) (by decide) ((Hw.out _ 0).mono hB)

set_option maxRecDepth 20000 in
set_option maxHeartbeats 2000000 in
theorem wstr_any (l wd : Nat) (f g : Value) (x : RcT) (A : Option Addr) (n c base bw T : Nat) (v : Value) (xs : Bs) (w : World) (hx : RcV w (· < base) A n c x) (hw : Wr w base bw T v xs) (hB : base ≤ w.heap.size) (hT : T ≠ 5) (hl : xs.length ≤ 90000) (hsz : x.2.1.size ≤ 9223372036854775807) :
    Calls Try.prog 37 #[.pointer (some ⟨bw, 0, none⟩), .agg #[.int .u8 l, .int .i64 wd, f, g], rcAgg x A n c] w (WrPost w base bw T v xs (valI 115 x)) := by
  have hc := hx.2.1
  have hnc := hx.1
  have hnl := hx.2.2.1
  have hxx : x.1.toNat < 18446744073709551616 := x.1.toNat_lt
  have hw' : ∀ (k : Array Value) (q : Nat), Below w.heap.size w (((w.alloc (.cells k 60)).alloc (.cells #[.int .u64 x.1.toNat, .string x.2.1, .slice A n c] 49)).drewN q) :=
    fun k q => (((Below.refl _ _).alloc (Nat.le_refl _) _).alloc (by simp) _).trans ⟨rfl, rfl, rfl, Nat.le_refl _, fun _ _ => rfl⟩
  have Hw := Lib.hid hw'
  have Hwr := Lib.hid hw
  have Hn := Lib.hid hnl
  have Hx := Lib.hid hx
  have Hv := Lib.hid (valI_s x)
  have hbx : bw < w.heap.size := lt_of_block hw.2.1
  have hvx : ∀ k, v.ownBlock = some k → k < w.heap.size := fun k hk => (hw.2.2.lt k hk).2
  have Hvx := Lib.hid hvx
  clear hw' hw hx hnl hvx
  by_cases h1 : x.1.toNat = 0
  · have H1 := Lib.hid h1
    have h1' : ((x.1.toNat : Int) != 0) = false := by simp [h1]
    clear h1
    by_cases h2 : n = 0
    · subst h2
      by_cases h3 : 400 < x.2.1.size
      · have h3' : (400 : Int) < (x.2.1.size : Int) := by omega
        clear h3
        go_enter Try.func37, Try.ntmps37
        go_wp2_with fail
        go_ret
        exact wrPost_err (by rw [Hv.out, if_neg (by rw [H1.out, ← Hn.out]; omega), if_pos (by omega)]) (by decide) ((Hw.out _ 0).mono hB)
      · have h3' : (x.2.1.size : Int) ≤ 400 := by omega
        have h3'' : x.2.1.size < 18446744073709551616 := by omega
        have hgl := grpI_len x.2.1.size
        clear hxx
        go_enter Try.func37, Try.ntmps37
        go_wp2_with (go_at_call 45; go_must (refine (wshort_any x.2.1.size base bw T v xs _ h3'' (wr_mono Hwr.out (Hw.out _ 0)) hT (by omega)).mono ?_); rintro e w1 ⟨rfl, v1, hwr, hst, hb1⟩)
        have hs1 := hst.size
        simp at hs1
        have hc1 := cell_of_one hwr.2.1
        have hf1 := free_of_one hwr.2.1
        have hxc : w1.cell? ⟨w.heap.size + 1, 1, none⟩ = some (.string x.2.1) := by
          rw [hst.cell (by simp) (by omega) (by intro e; have := Hvx.out _ e.symm; omega)]
          exact cell_alloc_two (i := 1) rfl
        obtain ⟨ys, hys⟩ : ∃ ys, ys = xs ++ grpI x.2.1.size := ⟨_, rfl⟩
        have hyl : ys.length ≤ 90010 := by rw [hys, List.length_append]; omega
        rw [← hys] at hwr
        have Hys := Lib.hid hys
        have Hwr1 := Lib.hid hwr
        have Hst := Lib.hid hst
        obtain ⟨hbw, hv1, hown⟩ := hwr
        clear hv1 hst hys
        go_region_law
          ((refine step_appstr (by rfl) _ _ 23 9 5 (by rfl) tyB (by kernel_rfl) tyBz base _ v1 _ x.2.1 (by rfl) (by rfl) (hown.drew) (hb1.drew) (by simp; omega) (by omega) ?_; intro v' w2 ha; obtain ⟨A1, c1, rfl, _, _, _, _, _⟩ := ownsRow_src ha.own; have HS := Lib.hid (wr_step (ys := ys ++ x.2.1.data.toList) Hwr1.out hT ha ⟨rfl, rfl, rfl, Nat.le_refl _, fun _ _ => rfl⟩ (by rw [List.length_append]; rfl) (by rw [bytesV_append])); have hc2 := cell_of_one HS.out.1; have hf2 := free_of_one HS.out.1; clear ha))
        all_goals
          go_wp2_with fail
          go_ret
          have H := HS.out
          exact wrPost_ok (ys := grpI x.2.1.size ++ x.2.1.data.toList) (by rw [Hv.out, if_neg (by rw [H1.out, ← Hn.out]; omega), if_neg (by omega)]) (Hw.out _ 0) hB (by rw [← List.append_assoc, ← Hys.out]; exact ⟨_, H.2.1, Hst.out.trans H.2.2.1, H.2.2.2⟩)
    · have h2' : (0 : Int) < (n : Int) := by omega
      clear h2
      go_enter Try.func37, Try.ntmps37
      go_wp2_with fail
      go_ret
      exact wrPost_err (by rw [Hv.out, if_pos]; rw [← Hn.out]; omega) (by decide) ((Hw.out _ 0).mono hB)
  · have h1' : ((x.1.toNat : Int) != 0) = true := by rw [bne_iff_ne]; omega
    have H1 := Lib.hid h1
    clear h1
    go_enter Try.func37, Try.ntmps37
    go_wp2_with fail
    go_ret
    exact wrPost_err (by rw [Hv.out, if_pos]; have := H1.out; omega) (by decide) ((Hw.out _ 0).mono hB)

set_option maxRecDepth 20000 in
set_option maxHeartbeats 2000000 in
theorem wlist_any (l wd : Nat) (f g : Value) (x : RcT) (A : Option Addr) (n c base bw T : Nat) (v : Value) (xs : Bs) (w : World) (hx : RcV w (· < base) A n c x) (hw : Wr w base bw T v xs) (hB : base ≤ w.heap.size) (hT : T ≠ 5) (hl : xs.length ≤ 90000) :
    Calls Try.prog 39 #[.pointer (some ⟨bw, 0, none⟩), .agg #[.int .u8 l, .int .i64 wd, f, g], rcAgg x A n c] w (WrPost w base bw T v xs (valI 108 x)) := by
  have hc := hx.2.1
  have hnc := hx.1
  have hnl := hx.2.2.1
  have hxx : x.1.toNat < 18446744073709551616 := x.1.toNat_lt
  have hw' : ∀ (k : Array Value) (q : Nat), Below w.heap.size w (((w.alloc (.cells k 60)).alloc (.cells #[.int .u64 x.1.toNat, .string x.2.1, .slice A n c] 49)).drewN q) :=
    fun k q => (((Below.refl _ _).alloc (Nat.le_refl _) _).alloc (by simp) _).trans ⟨rfl, rfl, rfl, Nat.le_refl _, fun _ _ => rfl⟩
  have Hw := Lib.hid hw'
  have Hwr := Lib.hid hw
  have Hn := Lib.hid hnl
  have Hx := Lib.hid hx
  have Hv := Lib.hid (valI_l x)
  have hbx : bw < w.heap.size := lt_of_block hw.2.1
  have hvx : ∀ k, v.ownBlock = some k → k < w.heap.size := fun k hk => (hw.2.2.lt k hk).2
  have Hvx := Lib.hid hvx
  clear hw' hw hx hnl hvx
  by_cases h1 : x.1.toNat = 0
  · have H1 := Lib.hid h1
    have h1' : ((x.1.toNat : Int) != 0) = false := by simp [h1]
    clear h1
    by_cases h2 : x.2.1.toList = []
    · by_cases h3 : 60 < n
      · have h3' : (60 : Int) < (n : Int) := by omega
        clear h3
        go_enter Try.func39, Try.ntmps39
        go_wp2_with fail
        go_ret
        exact wrPost_err (by rw [Hv.out, if_neg (by rw [H1.out, sz_nil h2]; omega), if_pos (by rw [← Hn.out]; omega)]) (by decide) ((Hw.out _ 0).mono hB)
      · have h3' : (n : Int) ≤ 60 := by omega
        have h3'' : n < 18446744073709551616 := by omega
        have hgl := grpI_len n
        clear hxx
        go_enter Try.func39, Try.ntmps39
        go_wp2_with (go_at_call 45; go_must (refine (wshort_any n base bw T v xs _ h3'' (wr_mono Hwr.out (Hw.out _ 0)) hT (by omega)).mono ?_); rintro e w1 ⟨rfl, v1, hwr, hst, hb1⟩; have hs1 := hst.size; simp at hs1; have hxc : w1.cell? ⟨w.heap.size + 1, 2, none⟩ = some (.slice A n c) := (hst.cell (by simp) (by omega) (by intro e; have := Hvx.out _ e.symm; omega)).trans (cell_alloc_two (i := 2) rfl); have Hwr1 := Lib.hid hwr; have Hst := Lib.hid hst; clear hwr hst)
        go_loopw [8, 32] (fun _ i wr => ∃ (k : Nat) (ys : Bs), k ≤ n ∧ i = .int .i64 k ∧ ys = xs ++ grpI n ++ listI (x.2.2.take k) ∧ WrOut w base bw T v ys wr) (fun _ i _ => n - (intOf i).toNat)
        case atStart =>
          exact ⟨0, _, by omega, rfl, rfl, v1, by simpa [listI] using Hwr1.out, (WStep.below (Hw.out _ 0)).trans Hst.out, ((Hw.out _ 0).mono hB).trans hb1⟩
        case round =>
          obtain ⟨k, ys, hk, rfl, hys, v2, hwr, hst, hb⟩ := hrel
          have hlen : ys.length ≤ 90400 := by rw [hys]; have := listI_len (x.2.2.take k); have := List.length_take_le k x.2.2; simp; omega
          by_cases hlt : k < n
          · have hkx : k < x.2.2.length := by rw [← Hn.out]; exact hlt
            obtain ⟨b, off, rfl, hbS, hbl, hcell⟩ := El.Sl.one_at (Hx.out.2.2) hkx
            have hcell' := (hb.cell (p := ⟨b, off + k, none⟩) hbS).trans hcell
            have hz : x.2.2[k].toNat < 4294967296 := x.2.2[k].toNat_lt
            have Hsn := Lib.hid (listI_snoc x.2.2 k hkx)
            generalize x.2.2[k] = z at *
            have Hys := Lib.hid hys
            have Hst2 := Lib.hid hst
            have Hwr2 := Lib.hid hwr
            clear hys hst hwr hcell hxc hbS
            go_wp2_with (go_at_call 42; go_must (refine (wlow_any z.toNat 4 base bw T v2 ys _ (by omega) Hwr2.out hT (by omega)).mono ?_); rintro e w2 ⟨rfl, hw2⟩)
            go_roundw
            case rel => exact ⟨k + 1, ys ++ lowI z.toNat 4, by omega, by go_num, by rw [Hys.out, Hsn.out]; simp only [List.append_assoc], WrOut.trans Hst2.out hb hw2⟩
            case measure => simp [intOf]; omega
          · have hkn : k = n := by omega
            have Hys := Lib.hid hys
            have Hst2 := Lib.hid hst
            have Hwr2 := Lib.hid hwr
            have Hkn := Lib.hid hkn
            clear hys hst hwr hxc hkn
            go_wp2_with fail
            go_ret
            have e1 : ys = xs ++ (grpI n ++ listI x.2.2) := by rw [Hys.out, Hkn.out, Hn.out, List.take_length, List.append_assoc]
            refine wrPost_ok (ys := grpI n ++ listI x.2.2) (by rw [Hv.out, if_neg (by rw [H1.out, sz_nil h2]; omega), if_neg (by rw [← Hn.out]; omega), Hn.out]) (Below.refl _ _) hB ?_
            rw [← e1]; exact ⟨v2, Hwr2.out, Hst2.out, hb⟩
    · have h2' : x.2.1.toList.isEmpty = false := by simpa using h2
      clear h2
      go_enter Try.func39, Try.ntmps39
      go_wp2_with fail
      go_ret
      exact wrPost_err (by rw [Hv.out, if_pos]; have := sz_pos h2'; omega) (by decide) ((Hw.out _ 0).mono hB)
  · have h1' : ((x.1.toNat : Int) != 0) = true := by rw [bne_iff_ne]; omega
    have H1 := Lib.hid h1
    clear h1
    go_enter Try.func39, Try.ntmps39
    go_wp2_with fail
    go_ret
    exact wrPost_err (by rw [Hv.out, if_pos]; have := H1.out; omega) (by decide) ((Hw.out _ 0).mono hB)
end Go.Proofs.Ytlbgepgpihklfaa.Rec
