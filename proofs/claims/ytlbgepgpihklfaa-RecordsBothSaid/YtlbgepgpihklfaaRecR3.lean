/- Walks of the program's reader of records: count, number, groups, str. -/
import Derived.Test.YtlbgepgpihklfaaRecR2
import Derived.Laws.ResultCell
namespace Go.Proofs.Ytlbgepgpihklfaa.Rec
open Go.RowKit Lw

theorem grpD_lt (f z : Nat) (rest : Bs) (hf : f ≤ 10) (hz : z < 128 ^ (10 - f)) : (grpD f z rest).2.1 < 18446744073709551616 := by
  induction f generalizing z rest with
  | zero => simp [grpD]
  | succ f ih =>
    cases rest with
    | nil => simp [grpD]
    | cons b r =>
      have hg : b.toNat % 128 < 128 := Nat.mod_lt _ (by decide)
      generalize hgd : b.toNat % 128 = g at *
      rw [grpD, hgd]
      rw [show 10 - (f + 1) = 9 - f by omega] at hz
      have h9 : (128 : Nat) ^ 9 = 9223372036854775808 := by decide
      by_cases h1 : f = 0 ∧ 1 < g
      · rw [if_pos h1]; decide
      · rw [if_neg h1]
        by_cases h0 : f = 0
        · subst h0
          have hgp : g * 128 ^ 9 ≤ 1 * 128 ^ 9 := Nat.mul_le_mul_right _ (by omega)
          by_cases h2 : b.toNat < 128
          · rw [if_pos h2]
            split
            · decide
            · show z + g * 128 ^ 9 < _; omega
          · rw [if_neg h2]; simp [grpD]
        · have e : 128 ^ (10 - f) = 128 ^ (9 - f) * 128 := by rw [show 10 - f = (9 - f) + 1 by omega, Nat.pow_succ]
          have hgp : g * 128 ^ (9 - f) ≤ 127 * 128 ^ (9 - f) := Nat.mul_le_mul_right _ (by omega)
          have hlt : z + g * 128 ^ (9 - f) < 128 ^ (10 - f) := by omega
          by_cases h2 : b.toNat < 128
          · rw [if_pos h2]
            split
            · decide
            · show z + g * 128 ^ (9 - f) < _
              have : 128 ^ (10 - f) ≤ 128 ^ 9 := Nat.pow_le_pow_right (by decide) (by omega)
              omega
          · rw [if_neg h2]; exact ih _ _ (by omega) hlt

/-- A number of bytes or elements, up to a limit. -/
def cntD (limit : Nat) (rest : Bs) : Int × Nat × Nat :=
  if (grpD 10 0 rest).1 ≠ 0 then ((grpD 10 0 rest).1, 0, 0) else if limit < (grpD 10 0 rest).2.1 then (3, 0, 0) else grpD 10 0 rest

set_option maxRecDepth 20000 in
set_option maxHeartbeats 4000000 in
theorem count_any (br n c at_ limit : Nat) (A : Option Addr) (bs : Bs) (S : Nat → Prop) (w : World) (h : Rd w br A n c at_ 0) (hS : ¬ S br) (hs : u8.Sl w S A n bs) (hat : at_ ≤ n) (hn : n ≤ 1000000) (hnc : n ≤ c) (hc : c ≤ 9223372036854775807) (hlim : limit ≤ 1000) :
    Calls Try.prog 47 #[.pointer (some ⟨br, 0, none⟩), .int .u64 limit] w fun e w' => e = .returned (.int .i64 (cntD limit (bs.drop at_)).2.1) ∧ RdOut w br A n c at_ (cntD limit (bs.drop at_)).1 (cntD limit (bs.drop at_)).2.2 w' := by
  have H := Lib.hid (short_any br n c at_ A bs S w h hS hs hat hn hnc hc)
  have Hc := Lib.hid (show cntD limit (bs.drop at_) = if (grpD 10 0 (bs.drop at_)).1 ≠ 0 then ((grpD 10 0 (bs.drop at_)).1, 0, 0) else if limit < (grpD 10 0 (bs.drop at_)).2.1 then (3, 0, 0) else grpD 10 0 (bs.drop at_) from rfl)
  have hlt := grpD_lt 10 0 (bs.drop at_) (by omega) (by decide)
  clear h hs
  generalize hr : grpD 10 0 (bs.drop at_) = r at *
  generalize cntD limit (bs.drop at_) = q at *
  clear hr
  obtain ⟨e, v, u⟩ := r
  by_cases he : e = 0
  · subst he
    by_cases hl : limit < v
    · have hl' : (limit : Int) < (v : Int) := by omega
      have Hl := Lib.hid hl
      clear hl hlt
      go_enter Try.func47, Try.ntmps47
      go_wp2_with (go_at_call 46; go_must (refine H.out.mono ?_); rintro e w1 ⟨rfl, ho, hd, _⟩; have Hd := Lib.hid (hd rfl).1; obtain ⟨k0, k1, k2, k3, k4⟩ := rd_cells Hd.out; clear hd)
      go_ret
      rw [Hc.out, if_neg (by simp), if_pos Hl.out]
      exact ⟨rfl, ho.trans (Only.setCell br _ 2 _), fun h => absurd h (by decide), fun _ => ⟨_, rd_set2 Hd.out 3⟩⟩
    · have hl' : (v : Int) ≤ (limit : Int) := by omega
      have Hl := Lib.hid hl
      clear hl hlt
      go_enter Try.func47, Try.ntmps47
      go_wp2_with (go_at_call 46; go_must (refine H.out.mono ?_); rintro e w1 ⟨rfl, ho, hd, _⟩; have Hd := Lib.hid (hd rfl); obtain ⟨k0, k1, k2, k3, k4⟩ := rd_cells Hd.out.1; clear hd)
      go_ret
      rw [Hc.out, if_neg (by simp), if_neg Hl.out]
      exact ⟨rfl, ho, fun _ => Hd.out, fun h => absurd rfl h⟩
  · have e1 : (e == 0) = false := by rw [beq_eq_false_iff_ne]; exact he
    have e2 : (e != 0) = true := by rw [bne_iff_ne]; exact he
    have He := Lib.hid he
    clear he hlt
    go_enter Try.func47, Try.ntmps47
    go_wp2_with (go_at_call 46; go_must (refine H.out.mono ?_); rintro e' w1 ⟨rfl, ho, _, hd⟩; obtain ⟨a1, hd⟩ := hd He.out; have Hd := Lib.hid hd; obtain ⟨k0, k1, k2, k3, k4⟩ := rd_cells Hd.out; clear hd)
    go_ret
    rw [Hc.out, if_pos He.out]
    exact ⟨rfl, ho, fun h => absurd h He.out, fun _ => ⟨_, Hd.out⟩⟩

/-- Zero value. -/
def rcZ : RcT := (0, ⟨#[]⟩, [])
/-- The error, the value and how many bytes it has. -/
def oneD (k : Nat) (rest : Bs) : Int × RcT × Nat :=
  if 0 < widthN k then (if rest.length < widthN k then (10, rcZ, 0) else (0, (UInt64.ofNat (leVal (rest.take (widthN k))), ⟨#[]⟩, []), widthN k))
  else if k = 118 then (if (grpD 10 0 rest).1 ≠ 0 then ((grpD 10 0 rest).1, rcZ, 0) else (0, (UInt64.ofNat (grpD 10 0 rest).2.1, ⟨#[]⟩, []), (grpD 10 0 rest).2.2))
  else if k = 115 then
    (if (cntD 400 rest).1 ≠ 0 then ((cntD 400 rest).1, rcZ, 0)
     else if rest.length < (cntD 400 rest).2.2 + (cntD 400 rest).2.1 then (10, rcZ, 0)
     else (0, (0, ⟨((rest.drop (cntD 400 rest).2.2).take (cntD 400 rest).2.1).toArray⟩, []), (cntD 400 rest).2.2 + (cntD 400 rest).2.1))
  else
    (if (cntD 60 rest).1 ≠ 0 then ((cntD 60 rest).1, rcZ, 0)
     else if rest.length < (cntD 60 rest).2.2 + 4 * (cntD 60 rest).2.1 then (10, rcZ, 0)
     else (0, (0, ⟨#[]⟩, (List.range (cntD 60 rest).2.1).map fun i => UInt32.ofNat (leVal ((rest.drop ((cntD 60 rest).2.2 + 4 * i)).take 4))), (cntD 60 rest).2.2 + 4 * (cntD 60 rest).2.1))

/-- What a reader's method leaves. -/
def GetPost (w : World) (br : Nat) (A : Option Addr) (n c at_ : Nat) (r : Int × RcT × Nat) (e : Ending) (w' : World) : Prop :=
  (∃ x A1 n1 c1, e = .returned (rcAgg x A1 n1 c1) ∧ (r.1 = 0 → x = r.2.1 ∧ RcV w' (fun b => w.heap.size ≤ b) A1 n1 c1 x)) ∧ RdOut w br A n c at_ r.1 r.2.2 w'


theorem Only.setHi {br rb i : Nat} {w w1 : World} (h : Only br w w1) (hr : w.heap.size ≤ rb) (v : Value) : Only br w (w1.setCell ⟨rb, i, none⟩ v) :=
  ⟨h.os, h.tape, h.output, by have := h.size; simpa [World.setCell] using this, fun k hk hn => by rw [Below.heap_setCell _ _ _ _ (by simp; omega)]; exact h.block k hk hn⟩
theorem Rd.setHi {br rb i n c a : Nat} {A : Option Addr} {e : Int} {w1 : World} (h : Rd w1 br A n c a e) (hr : br ≠ rb) (v : Value) : Rd (w1.setCell ⟨rb, i, none⟩ v) br A n c a e := by
  unfold Rd at *; rw [Below.heap_setCell _ _ _ _ hr]; exact h
theorem RdOut.setHi {w w1 : World} {br rb i n c at_ used : Nat} {A : Option Addr} {err : Int} (h : RdOut w br A n c at_ err used w1) (hb : br < w.heap.size) (hr : w.heap.size ≤ rb) (v : Value) : RdOut w br A n c at_ err used (w1.setCell ⟨rb, i, none⟩ v) :=
  ⟨h.1.setHi hr v, fun e => ⟨(h.2.1 e).1.setHi (by omega) v, (h.2.1 e).2⟩, fun e => (h.2.2 e).imp fun _ h => h.setHi (by omega) v⟩
theorem RdOut.lift {w W w1 : World} {br n c at_ used : Nat} {A : Option Addr} {err : Int} (h : RdOut W br A n c at_ err used w1) (hb : Below w.heap.size w W) : RdOut w br A n c at_ err used w1 :=
  ⟨(Only.below hb).trans h.1, h.2⟩

/-- The two boxes of a reader's method: the kind's, the result's. -/
def Two (w : World) (l wd : Nat) (f g : Value) : World := (w.alloc (.cells #[.int .u8 l, .int .i64 wd, f, g] 60)).alloc (.cells #[.int .u64 0, .string ⟨#[]⟩, .slice none 0 0] 49)
theorem two_below (w : World) (l wd : Nat) (f g : Value) : Below w.heap.size w (Two w l wd f g) := ((Below.refl _ _).alloc (Nat.le_refl _) _).alloc (by simp) _
theorem two_size (w : World) (l wd : Nat) (f g : Value) : (Two w l wd f g).heap.size = w.heap.size + 2 := by simp [Two]
theorem two_kind (w : World) (l wd : Nat) (f g : Value) : (Two w l wd f g).heap[w.heap.size]? = some (.cells #[.int .u8 l, .int .i64 wd, f, g] 60 (0, 0)) := by
  unfold Two; rw [Below.heap_alloc _ _ _ (by simp)]; exact heap_alloc_new w _
theorem two_res (w : World) (l wd : Nat) (f g : Value) : (Two w l wd f g).heap[w.heap.size + 1]? = some (.cells #[.int .u64 0, .string ⟨#[]⟩, .slice none 0 0] 49 (0, 0)) := by
  have := heap_alloc_new (w.alloc (.cells #[.int .u8 l, .int .i64 wd, f, g] 60)) (.cells #[.int .u64 0, .string ⟨#[]⟩, .slice none 0 0] 49)
  rw [show (w.alloc (.cells #[.int .u8 l, .int .i64 wd, f, g] 60)).heap.size = w.heap.size + 1 by simp] at this
  exact this
theorem two_after {w w1 : World} {l wd br : Nat} {f g : Value} (h : Only br (Two w l wd f g) w1) (hb : br < w.heap.size) :
    w1.heap[w.heap.size + 1]? = some (.cells #[.int .u64 0, .string ⟨#[]⟩, .slice none 0 0] 49 (0, 0)) ∧ w1.heap[w.heap.size]? = some (.cells #[.int .u8 l, .int .i64 wd, f, g] 60 (0, 0)) :=
  ⟨by rw [h.block _ (by rw [two_size]; omega) (by omega)]; exact two_res .., by rw [h.block _ (by rw [two_size]; omega) (by omega)]; exact two_kind ..⟩
theorem res_cells {w1 : World} {rb : Nat} (h : w1.heap[rb]? = some (.cells #[.int .u64 0, .string ⟨#[]⟩, .slice none 0 0] 49 (0, 0))) :
    w1.cell? ⟨rb, 0, none⟩ = some (.int .u64 0) ∧ w1.cell? ⟨rb, 1, none⟩ = some (.string ⟨#[]⟩) ∧ w1.cell? ⟨rb, 2, none⟩ = some (.slice none 0 0) ∧ ∀ i, w1.frozen? ⟨rb, i, none⟩ = false :=
  ⟨row_at (us := [.int .u64 0, .string ⟨#[]⟩, .slice none 0 0]) (i := 0) h rfl, row_at (us := [.int .u64 0, .string ⟨#[]⟩, .slice none 0 0]) (i := 1) h rfl, row_at (us := [.int .u64 0, .string ⟨#[]⟩, .slice none 0 0]) (i := 2) h rfl, fun i => frozen_of_row w1 _ i _ _ h⟩

theorem two_rd {w : World} {l wd br n c at_ : Nat} {f g : Value} {A : Option Addr} {e : Int} (h : Rd w br A n c at_ e) : Rd (Two w l wd f g) br A n c at_ e :=
  ((two_below w l wd f g).block br (lt_of_block h)).trans h
theorem toNat_ofNat {v : Nat} (h : v < 18446744073709551616) : (UInt64.ofNat v).toNat = v := by simp; omega

set_option maxRecDepth 20000 in
set_option maxHeartbeats 4000000 in
theorem rgroups_any (l wd : Nat) (f g : Value) (br n c at_ : Nat) (A : Option Addr) (bs : Bs) (S : Nat → Prop) (w : World) (h : Rd w br A n c at_ 0) (hS : ¬ S br) (hs : u8.Sl w S A n bs) (hat : at_ ≤ n) (hn : n ≤ 1000000) (hnc : n ≤ c) (hc : c ≤ 9223372036854775807) :
    Calls Try.prog 36 #[.pointer (some ⟨br, 0, none⟩), .agg #[.int .u8 l, .int .i64 wd, f, g]] w (GetPost w br A n c at_ (oneD 118 (bs.drop at_))) := by
  have hbr : br < w.heap.size := lt_of_block h
  have H := Lib.hid (short_any br n c at_ A bs S (Two w l wd f g) (two_rd h) hS (hs.below (two_below ..)) hat hn hnc hc)
  have hlt := grpD_lt 10 0 (bs.drop at_) (by omega) (by decide)
  have hone : oneD 118 (bs.drop at_) = if (grpD 10 0 (bs.drop at_)).1 ≠ 0 then ((grpD 10 0 (bs.drop at_)).1, rcZ, 0) else (0, (UInt64.ofNat (grpD 10 0 (bs.drop at_)).2.1, ⟨#[]⟩, []), (grpD 10 0 (bs.drop at_)).2.2) := by
    unfold oneD; rw [if_neg (by decide), if_pos rfl]
  have Hone := Lib.hid hone
  have Hlt := Lib.hid hlt
  clear h hs hone hlt
  generalize grpD 10 0 (bs.drop at_) = r at *
  generalize oneD 118 (bs.drop at_) = q at *
  go_enter Try.func36, Try.ntmps36
  go_wp2_with fail
  change Calls _ _ _ (Two w l wd f g) _
  refine H.out.mono ?_
  rintro e w1 ⟨rfl, hro⟩
  obtain ⟨q0, q1, q2, qf⟩ := res_cells (two_after hro.1 hbr).1
  have Hro := Lib.hid (hro.lift (two_below ..))
  clear hro
  go_wp2_with fail
  refine bodyPost_ret (v := .agg #[.int .u64 r.2.1, .string ⟨#[]⟩, .slice none 0 0]) ?_ rfl ?_
  · simp [results, Try.results36, go_sem, q0, q1, q2]
  · have hfin := ((Hro.out.setHi (i := 0) hbr (Nat.le_succ _) (.int .u64 r.2.1)).setHi (i := 1) hbr (Nat.le_succ _) (.string ⟨#[]⟩)).setHi (i := 2) hbr (Nat.le_succ _) (.slice none 0 0)
    have hv : (UInt64.ofNat r.2.1).toNat = r.2.1 := toNat_ofNat Hlt.out
    rw [Hone.out]
    by_cases he : r.1 = 0
    · rw [if_neg (by simpa using he)]
      refine ⟨⟨(UInt64.ofNat r.2.1, ⟨#[]⟩, []), none, 0, 0, by rw [rcAgg, hv], fun _ => ⟨rfl, Nat.le_refl _, by omega, El.Sl.nil _ _ _⟩⟩, ?_⟩
      rw [he] at hfin
      exact hfin
    · rw [if_pos he]
      refine ⟨⟨(UInt64.ofNat r.2.1, ⟨#[]⟩, []), none, 0, 0, by rw [rcAgg, hv], fun h => absurd h he⟩, ?_⟩
      exact ⟨hfin.1, fun h => absurd h he, hfin.2.2⟩

end Go.Proofs.Ytlbgepgpihklfaa.Rec
