/- Walk of the program's Encode and Size of records. -/
import Derived.Test.YtlbgepgpihklfaaRecE
namespace Go.Proofs.Ytlbgepgpihklfaa.Rec
open Go.RowKit Lw

set_option maxRecDepth 20000 in
set_option maxHeartbeats 4000000 in
theorem encode_any (s : ByteArray) (A : Option Addr) (n c : Nat) (xs : List RcT) (w : World) (hx : rc.Sl w (· < w.heap.size) A n xs) (hn : n ≤ 1000) (hsz : ∀ x ∈ xs, x.2.1.size ≤ 9223372036854775807) :
    Calls Try.prog 10 #[.string s, .slice A n c] w (BytesErr w (encI s.data.toList xs)) := by
  have hss : s.data.toList.length = s.size := rfl
  have hnx : n = xs.length := hx.1
  by_cases hf : formI s.data.toList = 0
  · by_cases hl : n = s.size
    · have hall : s.data.toList.all (fun c => okKind c.toNat) = true := by
        unfold formI at hf
        by_cases h1 : 64 < s.data.toList.length
        · rw [if_pos h1] at hf; cases hf
        · rw [if_neg h1] at hf
          by_cases h2 : s.data.toList.all (fun c => okKind c.toNat) = true
          · exact h2
          · rw [if_neg h2] at hf; cases hf
      have h64 : s.size ≤ 64 := by
        unfold formI at hf
        by_cases h1 : 64 < s.data.toList.length
        · rw [if_pos h1] at hf; cases hf
        · omega
      have henc : encI s.data.toList xs = encL s.data.toList xs [] := by
        unfold encI; rw [if_neg (by rw [hf]; decide), if_neg (by omega)]
      have Hf := Lib.hid hf
      have Hall := Lib.hid hall
      have Henc := Lib.hid henc
      have Hnx := Lib.hid hnx
      have Hl := Lib.hid hl
      have Hss := Lib.hid hss
      have Hx := Lib.hid hx
      have hnl : ((n : Int) != (s.size : Int)) = false := by rw [bne_eq_false_iff_eq]; omega
      have Hnl := Lib.hid hnl
      have Hsz := Lib.hid hsz
      clear hf hall henc hnx hl hss hx hnl hsz
      go_enter Try.func10, Try.ntmps10
      have hf0 := Hf.out
      have hnl0 := Hnl.out
      go_wp2_with (go_at_call 20; go_must (refine (parse_any _ _).mono ?_); rintro e w1 ⟨v, rfl, hb, ho⟩; have hown := ho Hf.out; clear ho; obtain ⟨Ak, ck, rfl, hnk, hck, hAk, hlk, hcellk⟩ := ownsRow_src hown)
      have hz1 := hb.size
      have Hhb := Lib.hid hb
      have Hown := Lib.hid hown
      clear hb hown hf0 hnl0 hcellk
      obtain ⟨W1, hW1⟩ : ∃ W1, W1 = w1.alloc (.cells #[.slice none 0 0] 56) := ⟨_, rfl⟩
      have hW : Below w1.heap.size w1 W1 := by rw [hW1]; exact (Below.refl _ _).alloc (Nat.le_refl _) _
      have hwr0 : Wr W1 w.heap.size w1.heap.size 56 (.slice none 0 0) [] := by
        rw [hW1]; exact ⟨hz1, heap_alloc_new _ _, World.ownsRow_nil _ _ _ _⟩
      have hown1 := ownsRow_below Hown.out hW (Nat.le_refl _)
      have hzw : W1.heap.size = w1.heap.size + 1 := by rw [hW1]; simp
      rw [← hW1]
      clear hW1
      go_loopw [9, 10, 11, 29] (fun _ _ _ i wr => ∃ (k : Nat) (ys : Bs) (v1 : Value), k ≤ s.size ∧ i = .int .i64 k ∧ ys.length ≤ k * 410 ∧ encI s.data.toList xs = encL (s.data.toList.drop k) (xs.drop k) ys ∧ Wr wr w.heap.size w1.heap.size 56 v1 ys ∧ Below w.heap.size w wr ∧ wr.ownsRow w.heap.size 60 4 (.slice Ak s.size ck) s.size (formC s.data.toList)) (fun _ _ _ i _ => s.size - (intOf i).toNat)
      case atStart => exact ⟨0, [], .slice none 0 0, by omega, rfl, by simp, Henc.out, hwr0, Hhb.out.trans (hW.mono hz1), hown1⟩
      case round =>
        obtain ⟨k, ys, v1, hk, rfl, hyl, henc, hwr, hb, hown⟩ := hrel
        have Henc2 := Lib.hid henc
        have Hwr := Lib.hid hwr
        have Hb := Lib.hid hb
        have Hown2 := Lib.hid hown
        have hz2 := hb.size
        have hbw := lt_of_block hwr.2.1
        have hc1 := cell_of_one hwr.2.1
        clear henc hwr hwr0 hown1 hW
        by_cases hlt : k < s.size
        · have hks : k < s.data.toList.length := hlt
          have hkx : k < xs.length := by have := Hnx.out; have := Hl.out; omega
          obtain ⟨q, hqm, hqc, f0, f1, f2, f3⟩ := formC_at s.data.toList Hall.out k hks
          obtain ⟨g, rfl, hg1, hg2, hgc⟩ := ownsRow_at hown (by omega)
          have c0 := hgc _ _ f0; have c1 := hgc _ _ f1; have c2 := hgc _ _ f2; have c3 := hgc _ _ f3
          obtain ⟨b, off, rfl, hbl, hat⟩ := Hx.out.at_ hkx
          have hxm : xs[k] ∈ xs := List.getElem_mem hkx
          have hxz := Hsz.out _ hxm
          obtain ⟨x0, x1, Ax, nx, cx, x2, hx4, hx5, hx6⟩ := rc_at hat
          have hbS : b < w.heap.size := hbl
          have y0 := (hb.cell (p := ⟨b, off + k * 3, none⟩) hbS).trans x0
          have y1 := (hb.cell (p := ⟨b, off + k * 3 + 1, none⟩) hbS).trans x1
          have y2 := (hb.cell (p := ⟨b, off + k * 3 + 2, none⟩) hbS).trans x2
          have hRc : RcV wr (· < w.heap.size) Ax nx cx xs[k] := ⟨hx4, by unfold maxLen at hx5; omega, hx6.keep (Keep.below hb (fun _ h _ => h))⟩
          have Hstep := Lib.hid (encL_step s.data.toList xs k hks hkx ys)
          have Hqc := Lib.hid hqc
          have Hqm := Lib.hid hqm
          have HRc := Lib.hid hRc
          have hkn : (k : Int) < (n : Int) := by have := Hl.out; omega
          clear hown hgc hat hxm x0 x1 x2 hx4 hx5 hx6 hRc f0 f1 f2 f3 hqm hqc hb
          go_wp2_with fail
          have hbr : b < wr.heap.size := by omega
          obtain ⟨KB, hKB⟩ : ∃ KB : Obj, KB = .cells (kindC q).toArray 60 := ⟨_, rfl⟩
          have y0' := (World.cell?_alloc_lt wr KB ⟨b, off + k * 3, none⟩ hbr).trans y0
          have y1' := (World.cell?_alloc_lt wr KB ⟨b, off + k * 3 + 1, none⟩ hbr).trans y1
          have y2' := (World.cell?_alloc_lt wr KB ⟨b, off + k * 3 + 2, none⟩ hbr).trans y2
          have z0 : (wr.alloc KB).cell? ⟨wr.heap.size, 0, none⟩ = some (.int .u8 q.1) := by rw [hKB]; exact cell_alloc_new (i := 0) rfl
          have z1 : (wr.alloc KB).cell? ⟨wr.heap.size, 1, none⟩ = some (.int .i64 q.2.1) := by rw [hKB]; exact cell_alloc_new (i := 1) rfl
          have z2 : (wr.alloc KB).cell? ⟨wr.heap.size, 2, none⟩ = some (fnV q.2.2.1) := by rw [hKB]; exact cell_alloc_new (i := 2) rfl
          have z3 : (wr.alloc KB).cell? ⟨wr.heap.size, 3, none⟩ = some (fnV q.2.2.2) := by rw [hKB]; exact cell_alloc_new (i := 3) rfl
          have hW2 : Below wr.heap.size wr (wr.alloc KB) := (Below.refl _ _).alloc (Nat.le_refl _) _
          have HW2 := Lib.hid hW2
          show Code.wp _ _ _ _ (wr.alloc (.cells (kindC q).toArray 60))
          rw [← hKB]
          generalize wr.alloc KB = W2 at *
          clear hKB hW2 y0 y1 y2 c0 c1 c2 c3
          have hcall := fun W (bW : Below wr.heap.size wr W) => put_any q Hqm.out xs[k] Ax nx cx w.heap.size w1.heap.size 56 v1 ys W ⟨HRc.out.1, HRc.out.2.1, HRc.out.2.2.below bW⟩ (wr_mono Hwr.out bW) (by have := bW.size; omega) (by decide) (by omega) hxz
          have Hcall := Lib.hid hcall
          clear hcall
          go_still_tail 8, (by kernel_rfl)
          change wpList _ _ _ _ _ W2.drew
          have hcf := put_enters q Hqm.out
          go_wp2_with fail
          refine (Hcall.out W2.drew (HW2.out.drew)).mono ?_
          rintro e w5 ⟨rfl, hok, hb5⟩
          by_cases he : (valI q.1 xs[k]).1 = 0
          · have he' : ((valI q.1 xs[k]).1 != 0) = false := by rw [he]; rfl
            obtain ⟨v5, hwr5, hst5, _⟩ := hok he
            have Hwr5 := Lib.hid hwr5
            have Hst5 := Lib.hid hst5
            have He := Lib.hid he
            have hz5 := hst5.size
            clear hok he hwr5 hst5
            go_wp2_with fail
            go_roundw
            case rel =>
              have hBW : Below wr.heap.size wr W2.drew := HW2.out.drew
              have hown5 := ownsRow_wstep (ownsRow_below Hown2.out hBW (Nat.le_refl _)) Hst5.out (wr_mono Hwr.out hBW).2.1 (by decide) (wr_mono Hwr.out hBW).2.2 (by decide)
              refine ⟨k + 1, ys ++ (valI q.1 xs[k]).2, v5, by omega, by go_num, ?_, ?_, Hwr5.out, Hb.out.trans ((hBW.mono (by omega)).trans hb5), hown5⟩
              · have := valI_len q.1 xs[k]
                rw [List.length_append]; omega
              · rw [Henc2.out, Hstep.out, ← Hqc.out, if_pos He.out]
            case measure => simp [intOf]; omega
          · have he' : ((valI q.1 xs[k]).1 != 0) = true := by rw [bne_iff_ne]; exact he
            have He := Lib.hid he
            clear hok he
            go_wp2_with fail
            go_ret2
            refine bytesErr_err (by rw [Henc2.out, Hstep.out, ← Hqc.out, if_neg He.out]) (Hb.out.trans ((HW2.out.drew.mono (by omega)).trans hb5))
        · have hks : k = s.size := by omega
          have hend : encI s.data.toList xs = if 4000 < ys.length then (3, []) else (0, ys) := by
            rw [Henc2.out, List.drop_eq_nil_of_le (show s.data.toList.length ≤ k by rw [Hss.out]; omega)]
            rfl
          have Hend := Lib.hid hend
          obtain ⟨A1, c1, rfl, hn1, _, _, _, _⟩ := ownsRow_src Hwr.out.2.2
          have hlen : ys.length ≤ 100000 := by omega
          clear hend hks hown hb
          by_cases h4 : 4000 < ys.length
          · go_wp2_with fail
            go_ret2
            exact bytesErr_err (by rw [Hend.out, if_pos h4]) Hb.out
          · go_wp2_with fail
            go_ret2
            refine ⟨.slice A1 ys.length c1, by rw [Hend.out, if_neg h4]; rfl, ?_, Hb.out⟩
            rw [Hend.out, if_neg h4]
            exact Hwr.out.2.2
    · have hnl : ((n : Int) != (s.size : Int)) = true := by rw [bne_iff_ne]; omega
      have Hf := Lib.hid hf
      have Hl := Lib.hid hl
      have Hnx := Lib.hid hnx
      clear hf hl hnx
      go_enter Try.func10, Try.ntmps10
      have hf0 := Hf.out
      go_wp2_with (go_at_call 20; go_must (refine (parse_any _ _).mono ?_); rintro e w1 ⟨v, rfl, hb, ho⟩; have hown := ho Hf.out; clear ho; obtain ⟨Ak, ck, rfl, _, _, _, _, _⟩ := ownsRow_src hown; clear hown)
      go_ret2
      exact bytesErr_err (by unfold encI; rw [if_neg (by rw [Hf.out]; decide), if_pos (by have := Hnx.out; have := Hl.out; omega)]) hb
  · have Hf := Lib.hid hf
    clear hf
    go_enter Try.func10, Try.ntmps10
    have hne : (formI s.data.toList != 0) = true := by rw [bne_iff_ne]; exact Hf.out
    go_wp2_with (go_at_call 20; go_must (refine (parse_any _ _).mono ?_); rintro e w1 ⟨v, rfl, hb, ho⟩; clear ho)
    go_ret2
    exact bytesErr_err (by unfold encI; rw [if_pos Hf.out]) hb

set_option maxRecDepth 20000 in
set_option maxHeartbeats 1000000 in
theorem size_any (s : ByteArray) (A : Option Addr) (n c : Nat) (xs : List RcT) (w : World) (hx : rc.Sl w (· < w.heap.size) A n xs) (hn : n ≤ 1000) (hsz : ∀ x ∈ xs, x.2.1.size ≤ 9223372036854775807) :
    Calls Try.prog 15 #[.string s, .slice A n c] w fun e w' => e = .returned (.tuple #[.int .i64 (encI s.data.toList xs).2.length, .int .i64 (encI s.data.toList xs).1]) ∧ Below w.heap.size w w' := by
  have H := Lib.hid (encode_any s A n c xs w hx hn hsz)
  clear hx hn hsz
  generalize encI s.data.toList xs = r at *
  go_enter Try.func15, Try.ntmps15
  go_wp2_with (go_at_call 10; go_must (refine H.out.mono ?_); rintro e w1 ⟨v, rfl, hown, hb⟩; obtain ⟨A1, c1, rfl, _, _, _, _, _⟩ := ownsRow_src hown)
  go_ret2
  exact ⟨rfl, hb⟩
end Go.Proofs.Ytlbgepgpihklfaa.Rec
