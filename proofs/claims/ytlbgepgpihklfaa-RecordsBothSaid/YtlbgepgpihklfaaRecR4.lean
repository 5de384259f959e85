/- Walks of the program's reader of records: number, str. -/
import Derived.Test.YtlbgepgpihklfaaRecR3
namespace Go.Proofs.Ytlbgepgpihklfaa.Rec
open Go.RowKit Lw

set_option maxRecDepth 20000 in
set_option maxHeartbeats 4000000 in
theorem rnumber_any (l wd : Nat) (f g : Value) (br n c at_ : Nat) (A : Option Addr) (bs : Bs) (S : Nat → Prop) (w : World) (h : Rd w br A n c at_ 0) (hS : ¬ S br) (hs : u8.Sl w S A n bs) (hat : at_ ≤ n) (hn : n ≤ 1000000) (hnc : n ≤ c) (hc : c ≤ 9223372036854775807) (hwd : widthN l = wd) (h0 : 0 < wd) :
    Calls Try.prog 34 #[.pointer (some ⟨br, 0, none⟩), .agg #[.int .u8 l, .int .i64 wd, f, g]] w (GetPost w br A n c at_ (oneD l (bs.drop at_))) := by
  have hbr : br < w.heap.size := lt_of_block h
  have hw8 : wd ≤ 8 := by rw [← hwd]; unfold widthN; split <;> (try split) <;> (try split) <;> (try split) <;> omega
  have hone : oneD l (bs.drop at_) = if (bs.drop at_).length < wd then (10, rcZ, 0) else (0, (UInt64.ofNat (leVal ((bs.drop at_).take wd)), ⟨#[]⟩, []), wd) := by
    unfold oneD; rw [if_pos (by rw [hwd]; exact h0), hwd]
  have hnb := hs.1
  have hlen : (bs.drop at_).length = n - at_ := by rw [List.length_drop, hnb]
  have Hone := Lib.hid hone
  have Hlen := Lib.hid hlen
  have ks := two_kind w l wd f g
  have k1 : (Two w l wd f g).cell? ⟨w.heap.size, 1, none⟩ = some (.int .i64 wd) := row_at (us := [.int .u8 l, .int .i64 wd, f, g]) (i := 1) ks rfl
  clear hone hlen hnb ks
  by_cases hm : n - at_ < wd
  · have H := Lib.hid (take_more br n c at_ wd A (Two w l wd f g) (two_rd h) hat hn hm (by omega))
    clear h hs hwd
    generalize oneD l (bs.drop at_) = q at *
    go_enter Try.func34, Try.ntmps34
    go_wp2_with fail
    change Calls _ _ _ (Two w l wd f g) _
    refine H.out.mono ?_
    rintro e w1 ⟨rfl, hd, ho⟩
    obtain ⟨q0, q1, q2, qf⟩ := res_cells (two_after ho hbr).1
    have hro : RdOut w br A n c at_ 10 0 w1 := ⟨(Only.below (two_below ..)).trans ho, fun h => absurd h (by decide), fun _ => ⟨_, hd⟩⟩
    have Hro := Lib.hid hro
    clear hro hd ho
    go_wp2_with (go_at_call 43; go_must (refine (value_any none 0 0 [] w1 (fun _ => True) (El.Sl.nil _ _ _) (by omega)).mono ?_); rintro e w2 ⟨rfl, rfl⟩)
    refine bodyPost_ret (v := .agg #[.int .u64 (leVal [] : Nat), .string ⟨#[]⟩, .slice none 0 0]) ?_ rfl ?_
    · simp [results, Try.results34, go_sem, q0, q1, q2]
    · have hfin := ((Hro.out.setHi (i := 0) hbr (Nat.le_succ _) (.int .u64 (leVal [] : Nat))).setHi (i := 1) hbr (Nat.le_succ _) (.string ⟨#[]⟩)).setHi (i := 2) hbr (Nat.le_succ _) (.slice none 0 0)
      rw [Hone.out, if_pos (by rw [Hlen.out]; exact hm)]
      exact ⟨⟨rcZ, none, 0, 0, rfl, fun h => absurd h (by decide)⟩, hfin⟩
  · have H := Lib.hid (take_ok br n c at_ wd A bs S (Two w l wd f g) (two_rd h) hS (hs.below (two_below ..)) (by omega) hn hnc hc)
    clear h hs hwd
    generalize oneD l (bs.drop at_) = q at *
    go_enter Try.func34, Try.ntmps34
    go_wp2_with fail
    change Calls _ _ _ (Two w l wd f g) _
    refine H.out.mono ?_
    rintro e w1 ⟨A1, c1, rfl, _, _, hsl, hd, ho⟩
    obtain ⟨q0, q1, q2, qf⟩ := res_cells (two_after ho hbr).1
    have hro : RdOut w br A n c at_ 0 wd w1 := ⟨(Only.below (two_below ..)).trans ho, fun _ => ⟨hd, by omega⟩, fun h => absurd rfl h⟩
    have Hro := Lib.hid hro
    have hlt := leVal_lt ((bs.drop at_).take wd)
    have hl2 : ((bs.drop at_).take wd).length = wd := by rw [List.length_take, Hlen.out]; omega
    rw [hl2] at hlt
    have hlt2 : leVal ((bs.drop at_).take wd) < 18446744073709551616 := Nat.lt_of_lt_of_le hlt (Nat.le_trans (Nat.pow_le_pow_right (by decide) hw8) (by decide))
    have Hval := Lib.hid (value_any A1 wd c1 ((bs.drop at_).take wd) w1 S hsl hw8)
    have Hlt := Lib.hid hlt2
    clear hro hd ho hlt hlt2 hl2 hsl
    generalize leVal ((bs.drop at_).take wd) = z at *
    go_wp2_with (go_at_call 43; go_must (refine Hval.out.mono ?_); rintro e w2 ⟨rfl, rfl⟩)
    refine bodyPost_ret (v := .agg #[.int .u64 z, .string ⟨#[]⟩, .slice none 0 0]) ?_ rfl ?_
    · simp [results, Try.results34, go_sem, q0, q1, q2]
    · have hfin := ((Hro.out.setHi (i := 0) hbr (Nat.le_succ _) (.int .u64 z)).setHi (i := 1) hbr (Nat.le_succ _) (.string ⟨#[]⟩)).setHi (i := 2) hbr (Nat.le_succ _) (.slice none 0 0)
      rw [Hone.out, if_neg (by rw [Hlen.out]; exact hm)]
      exact ⟨⟨(UInt64.ofNat z, ⟨#[]⟩, []), none, 0, 0, by rw [rcAgg, toNat_ofNat Hlt.out], fun _ => ⟨rfl, Nat.le_refl _, by omega, El.Sl.nil _ _ _⟩⟩, hfin⟩

set_option maxRecDepth 20000 in
set_option maxHeartbeats 4000000 in
theorem rstr_any (l wd : Nat) (f g : Value) (br n c at_ : Nat) (A : Option Addr) (bs : Bs) (S : Nat → Prop) (w : World) (h : Rd w br A n c at_ 0) (hS : ¬ S br) (hs : u8.Sl w S A n bs) (hat : at_ ≤ n) (hn : n ≤ 1000000) (hnc : n ≤ c) (hc : c ≤ 9223372036854775807) :
    Calls Try.prog 38 #[.pointer (some ⟨br, 0, none⟩), .agg #[.int .u8 l, .int .i64 wd, f, g]] w (GetPost w br A n c at_ (oneD 115 (bs.drop at_))) := by
  have hbr : br < w.heap.size := lt_of_block h
  have hnb := hs.1
  have hlen : (bs.drop at_).length = n - at_ := by rw [List.length_drop, hnb]
  have hone : oneD 115 (bs.drop at_) = (if (cntD 400 (bs.drop at_)).1 ≠ 0 then ((cntD 400 (bs.drop at_)).1, rcZ, 0)
     else if (bs.drop at_).length < (cntD 400 (bs.drop at_)).2.2 + (cntD 400 (bs.drop at_)).2.1 then (10, rcZ, 0)
     else (0, (0, ⟨(((bs.drop at_).drop (cntD 400 (bs.drop at_)).2.2).take (cntD 400 (bs.drop at_)).2.1).toArray⟩, []), (cntD 400 (bs.drop at_)).2.2 + (cntD 400 (bs.drop at_)).2.1)) := by
    unfold oneD; rw [if_neg (by decide), if_neg (by decide), if_pos rfl]
  have hcl : (cntD 400 (bs.drop at_)).2.1 ≤ 400 := by
    unfold cntD; split
    · exact Nat.zero_le _
    · split
      · exact Nat.zero_le _
      · omega
  have H := Lib.hid (count_any br n c at_ 400 A bs S (Two w l wd f g) (two_rd h) hS (hs.below (two_below ..)) hat hn hnc hc (by omega))
  have Hone := Lib.hid hone
  have Hlen := Lib.hid hlen
  have Hs := Lib.hid hs
  clear h hs hone hlen hnb
  generalize cntD 400 (bs.drop at_) = r at *
  generalize oneD 115 (bs.drop at_) = q at *
  obtain ⟨e, v, u⟩ := r
  dsimp only at hcl
  by_cases he : e = 0
  · subst he
    go_enter Try.func38, Try.ntmps38
    go_wp2_with fail
    change Calls _ _ _ (Two w l wd f g) _
    refine H.out.mono ?_
    rintro e w1 ⟨rfl, hro⟩
    have hro' := hro.lift (two_below w l wd f g)
    obtain ⟨hd, hun⟩ := hro.2.1 rfl
    by_cases hm : n - (at_ + u) < v
    · have H2 := Lib.hid (take_more br n c (at_ + u) v A w1 hd hun hn hm (by omega))
      have Hro1 := Lib.hid hro
      clear hro hro' hd
      go_wp2_with fail
      refine H2.out.mono ?_
      rintro e w2 ⟨rfl, hd, ho⟩
      have ho2 := Hro1.out.1.trans ho
      obtain ⟨q0, q1, q2, qf⟩ := res_cells (two_after ho2 hbr).1
      have hro : RdOut w br A n c at_ 10 0 w2 := ⟨(Only.below (two_below ..)).trans ho2, fun h => absurd h (by decide), fun _ => ⟨_, hd⟩⟩
      have Hro := Lib.hid hro
      clear hro hd ho ho2
      have hcv := conv_str (P := Try.prog) (w := w2) (S := fun _ => True) (src := 23) (dst := 9) (e := 5) (by kernel_rfl) (by kernel_rfl) (by kernel_rfl) (A := none) (n := 0) (c := 0) (El.Sl.nil _ _ _)
      go_wp2_with fail
      refine bodyPost_ret (v := .agg #[.int .u64 0, .string ⟨#[]⟩, .slice none 0 0]) ?_ rfl ?_
      · simp [results, Try.results38, go_sem, q0, q1, q2]
      · have hfin := ((Hro.out.setHi (i := 0) hbr (Nat.le_succ _) (.int .u64 0)).setHi (i := 1) hbr (Nat.le_succ _) (.string ⟨#[]⟩)).setHi (i := 2) hbr (Nat.le_succ _) (.slice none 0 0)
        rw [Hone.out, if_neg (by simp), if_pos (by rw [Hlen.out]; show _ < u + v; omega)]
        exact ⟨⟨rcZ, none, 0, 0, rfl, fun h => absurd h (by decide)⟩, hfin⟩
    · have H2 := Lib.hid (take_ok br n c (at_ + u) v A bs S w1 hd hS ((Hs.out.below (two_below ..)).keep (hro.1.keep hS)) (by omega) hn hnc hc)
      have Hro1 := Lib.hid hro
      clear hro hro' hd
      go_wp2_with fail
      refine H2.out.mono ?_
      rintro e w2 ⟨A1, c1, rfl, _, _, hsl, hd, ho⟩
      have ho2 := Hro1.out.1.trans ho
      obtain ⟨q0, q1, q2, qf⟩ := res_cells (two_after ho2 hbr).1
      have hro : RdOut w br A n c at_ 0 (u + v) w2 := ⟨(Only.below (two_below ..)).trans ho2, fun _ => ⟨by rw [← Nat.add_assoc]; exact hd, by omega⟩, fun h => absurd rfl h⟩
      have Hro := Lib.hid hro
      have hcv := conv_str (P := Try.prog) (src := 23) (dst := 9) (e := 5) (by kernel_rfl) (by kernel_rfl) (by kernel_rfl) (c := c1) hsl
      have hdd : ((bs.drop at_).drop u) = bs.drop (at_ + u) := by rw [List.drop_drop]
      rw [← hdd] at hcv
      clear hro hd ho ho2 hsl hdd
      generalize (⟨(((bs.drop at_).drop u).take v).toArray⟩ : ByteArray) = str at *
      go_wp2_with fail
      refine bodyPost_ret (v := .agg #[.int .u64 0, .string str, .slice none 0 0]) ?_ rfl ?_
      · simp [results, Try.results38, go_sem, q0, q1, q2]
      · have hfin := ((Hro.out.setHi (i := 0) hbr (Nat.le_succ _) (.int .u64 0)).setHi (i := 1) hbr (Nat.le_succ _) (.string str)).setHi (i := 2) hbr (Nat.le_succ _) (.slice none 0 0)
        rw [Hone.out, if_neg (by simp), if_neg (by rw [Hlen.out]; show ¬ _ < u + v; omega)]
        exact ⟨⟨(0, str, []), none, 0, 0, rfl, fun _ => ⟨rfl, Nat.le_refl _, by omega, El.Sl.nil _ _ _⟩⟩, hfin⟩
  · go_enter Try.func38, Try.ntmps38
    go_wp2_with fail
    change Calls _ _ _ (Two w l wd f g) _
    refine H.out.mono ?_
    rintro e' w1 ⟨rfl, hro⟩
    obtain ⟨a1, hd⟩ := hro.2.2 he
    have H2 := Lib.hid (take_err br n c a1 v A e w1 hd he)
    have Hro1 := Lib.hid hro
    have He := Lib.hid he
    clear hro hd he
    go_wp2_with fail
    go_fit H2.out
    rintro e' w2 ⟨rfl, nd, rfl⟩
    have hro : RdOut w br A n c at_ e u (w1.drewN nd) := ⟨(Only.below (two_below ..)).trans (Hro1.out.1.trans (Only.below ⟨rfl, rfl, rfl, Nat.le_refl _, fun _ _ => rfl⟩)), fun h => absurd h He.out, fun h => Hro1.out.2.2 h⟩
    obtain ⟨q0, q1, q2, qf⟩ := res_cells (two_after Hro1.out.1 hbr).1
    have Hro := Lib.hid hro
    have hcv := fun W => conv_str (P := Try.prog) (w := W) (S := fun _ => True) (src := 23) (dst := 9) (e := 5) (by kernel_rfl) (by kernel_rfl) (by kernel_rfl) (A := none) (n := 0) (c := 0) (El.Sl.nil _ _ _)
    clear hro
    go_wp2_with fail
    refine bodyPost_ret (v := .agg #[.int .u64 0, .string ⟨#[]⟩, .slice none 0 0]) ?_ rfl ?_
    · simp [results, Try.results38, go_sem, q0, q1, q2]
    · have hfin := ((Hro.out.setHi (i := 0) hbr (Nat.le_succ _) (.int .u64 0)).setHi (i := 1) hbr (Nat.le_succ _) (.string ⟨#[]⟩)).setHi (i := 2) hbr (Nat.le_succ _) (.slice none 0 0)
      rw [Hone.out, if_pos He.out]
      exact ⟨⟨rcZ, none, 0, 0, rfl, fun h => absurd h He.out⟩, hfin.1, fun h => absurd h He.out, fun h => hfin.2.2 h⟩
end Go.Proofs.Ytlbgepgpihklfaa.Rec
