/- Walk of the program's parse of a form. -/
import Derived.Test.YtlbgepgpihklfaaRecP
namespace Go.Proofs.Ytlbgepgpihklfaa.Rec
open Go.RowKit Lw

theorem tyK : SlTy Try.prog 51 60 4 32 := .mk' (z := .agg #[.int .u8 0, .int .i64 0, .nilFunc, .nilFunc]) (by kernel_rfl) (by kernel_rfl) rfl (by decide)

/-- The cells of the kinds of a form. -/
def formC (s : Bs) : List Value := s.flatMap fun c => ((kOf c.toNat).map kindC).getD []

set_option maxRecDepth 20000 in
set_option maxHeartbeats 2000000 in
theorem parse_any (s : ByteArray) (w : World) :
    Calls Try.prog 20 #[.string s] w fun e w' => ∃ v, e = .returned (.tuple #[v, .int .i64 (formI s.data.toList)]) ∧ Below w.heap.size w w' ∧ (formI s.data.toList = 0 → w'.ownsRow w.heap.size 60 4 v s.size (formC s.data.toList)) := by
  have hsz : s.data.toList.length = s.size := by cases s; rfl
  by_cases h64 : 64 < s.size
  · have hf : formI s.data.toList = 3 := by unfold formI; rw [hsz, if_pos h64]
    have Hf := Lib.hid hf
    clear hf hsz
    go_enter Try.func20, Try.ntmps20
    go_wp2_with fail
    go_ret2
    exact ⟨_, by rw [Hf.out]; rfl, (Below.refl _ _).alloc (Nat.le_refl _) _, fun h => absurd (Hf.out.symm.trans h) (by decide)⟩
  · have HP := Lib.hid (fun W (b : Below (w.heap.size + 2) ((w.alloc (.cells #[.string s] 9)).alloc (.cells kindsC.toArray 60)) W) => (b.cell (p := ⟨w.heap.size, 0, none⟩) (by simp)).trans ((World.cell?_alloc_lt _ _ _ (by simp)).trans (cell_alloc_new (w := w) (cs := [.string s]) (i := 0) rfl)))
    have HK := Lib.hid (fun W (b : Below (w.heap.size + 2) ((w.alloc (.cells #[.string s] 9)).alloc (.cells kindsC.toArray 60)) W) => ((b.block (w.heap.size + 1) (by omega)).trans (by have := heap_alloc_new (w.alloc (.cells #[.string s] 9)) (.cells kindsC.toArray 60); rw [show (w.alloc (.cells #[.string s] 9)).heap.size = w.heap.size + 1 by simp] at this; exact this) : W.heap[w.heap.size + 1]? = some (.cells kindsC.toArray 60 (0, 0))))
    have Hsz := Lib.hid hsz
    have h64' : s.size ≤ 64 := by omega
    have hB0 : Below w.heap.size w ((w.alloc (.cells #[.string s] 9)).alloc (.cells kindsC.toArray 60)) := ((Below.refl _ _).alloc (Nat.le_refl _) _).alloc (by simp) _
    clear hsz
    go_enter Try.func20, Try.ntmps20
    go_wp2_with (first | (go_at_call 25; go_must (refine (kinds_any _).mono ?_); rintro e w1 ⟨rfl, rfl⟩) | (at_make; go_must (refine wpList_mk0 (by rfl) _ _ 51 60 4 32 (by rfl) tyK (w.heap.size + 2) s.size (by rfl) (by rfl) (Below.refl _ _) (by simp) (by omega) (by omega) ?_); intro w2 hown0 hb0 hb1; have hpc := HP.out _ hb0; clear hb1))
    go_loopw [5, 6, 7, 17] (fun l _ _ i wr => ∃ k : Nat, k ≤ s.size ∧ i = .int .i64 k ∧ wr.ownsRow (w.heap.size + 2) 60 4 l k (formC (s.data.toList.take k)) ∧ Below (w.heap.size + 2) ((w.alloc (.cells #[.string s] 9)).alloc (.cells kindsC.toArray 60)) wr ∧ (s.data.toList.take k).all (fun c => okKind c.toNat) = true) (fun _ _ _ i _ => s.size - (intOf i).toNat)
    case atStart => exact ⟨0, by omega, rfl, by simpa [formC] using hown0, hb0, rfl⟩
    case round =>
      obtain ⟨k, hk, rfl, hown, hb, hall⟩ := hrel
      have Hall := Lib.hid hall
      have hz := hb.size
      simp at hz
      clear hall hpc hb0 hown0
      by_cases hlt : k < s.size
      · have hx := fun wi (b : Below wr.heap.size wr wi) (c : wi.cell? ⟨wr.heap.size, 0, none⟩ = some (.int .i64 k)) => index_any (w.heap.size + 1) w.heap.size wr.heap.size k s wi (HK.out _ (hb.trans (b.mono (by omega)))) (HP.out _ (hb.trans (b.mono (by omega)))) c hlt (by omega)
        have Hx := Lib.hid hx
        clear hx
        have hcl : (k : Int) < (s.size : Int) := by omega
        by_cases hok : okKind s[k].toNat = true
        · obtain ⟨kk, q, hf, hk7, hq, hko, hqc⟩ := kfind_some _ hok
          obtain ⟨q', hq', c0, c1, c2, c3⟩ := kindsC_at kk hk7
          obtain rfl : q' = q := by rw [hq] at hq'; exact (Option.some.inj hq').symm
          have hf' : kfind kindsL s[k].toNat 0 = (kk : Int) := hf
          have Hq := Lib.hid hko
          have Hc0 := Lib.hid c0; have Hc1 := Lib.hid c1; have Hc2 := Lib.hid c2; have Hc3 := Lib.hid c3
          have Hok := Lib.hid hok
          clear hf hok hq hq' hko c0 c1 c2 c3 hqc
          have hn1 : (0 : Int) ≤ (kk : Int) := by omega
          have hn2 : (kk : Int) < 7 := by omega
          go_wp2_with (first | (go_at_call 26; go_must (refine (Hx.out _ ((Below.refl _ _).alloc (Nat.le_refl _) _) (cell_alloc_new (cs := [.int .i64 k]) (i := 0) rfl)).mono ?_); rintro e w3 ⟨rfl, hb3⟩; rw [hf']; have hs3 := hb3.size; simp at hs3; have hown3 := ownsRow_below (hown.alloc (.cells #[.int .i64 k] 3)) hb3 (Nat.le_refl _); have hb3' := (hb.alloc (by omega) (.cells #[.int .i64 k] 3)).trans (hb3.mono (by simp; omega)); have hk3 := Lib.hid (HK.out w3 hb3'); have d0 := row_at hk3.out Hc0.out; have d1 := row_at hk3.out Hc1.out; have d2 := row_at hk3.out Hc2.out; have d3 := row_at hk3.out Hc3.out; clear hb3 hown hb) | (at_builtin; go_must (refine wpList_app1 (by rfl) _ _ 51 60 4 32 (by rfl) tyK (w.heap.size + 2) k _ _ (kindC q') (by rfl) (by rfl) hown3 hb3' (by omega) (by rfl) (by simp [kindC, Value.oneCell']) (by omega) (by omega) ?_); intro v4 w4 ha; have hown4 := ha.own; have hb4 := ha.below; clear ha hown3 hb3'))
          go_roundw
          case rel =>
            have hkl : k < s.data.toList.length := by rw [Hsz.out]; exact hlt
            have e1 : s.data.toList.take (k + 1) = s.data.toList.take k ++ [s[k]] := by rw [List.take_succ_eq_append_getElem hkl]; rfl
            refine ⟨k + 1, by omega, by go_num, ?_, hb4, ?_⟩
            · have e2 : formC (s.data.toList.take (k + 1)) = formC (s.data.toList.take k) ++ kindC q' := by
                rw [e1]; simp [formC, Hq.out]
              rw [e2]; exact hown4
            · rw [e1, List.all_append, Hall.out]; simpa using Hok.out
          case measure => simp [intOf]; omega
        · have hf : kfind kindsL s[k].toNat 0 = -1 := kfind_none _ (by simpa using hok)
          have Hok := Lib.hid hok
          clear hok
          go_wp2_with (go_at_call 26; go_must (refine (Hx.out _ ((Below.refl _ _).alloc (Nat.le_refl _) _) (cell_alloc_new (cs := [.int .i64 k]) (i := 0) rfl)).mono ?_); rintro e w3 ⟨rfl, hb3⟩; rw [hf])
          go_ret2
          have hkl : k < s.data.toList.length := by rw [Hsz.out]; exact hlt
          have hform : formI s.data.toList = 2 := by
            unfold formI
            rw [Hsz.out, if_neg h64, if_neg]
            intro ha
            have := List.all_eq_true.1 ha s.data.toList[k] (List.getElem_mem hkl)
            exact Hok.out this
          exact ⟨_, by rw [hform]; rfl, hB0.trans (((hb.alloc (by omega) (.cells #[.int .i64 k] 3)).trans (hb3.mono (by simp; omega))).mono (by omega)), fun h => absurd (hform.symm.trans h) (by decide)⟩
      · have hkk : k = s.size := by omega
        have Hkk := Lib.hid hkk
        have Hown := Lib.hid hown
        clear hkk hown
        go_wp2_with fail
        go_ret2
        have e1 : s.data.toList.take k = s.data.toList := by rw [Hkk.out, ← Hsz.out, List.take_length]
        have hform : formI s.data.toList = 0 := by
          unfold formI
          rw [Hsz.out, if_neg h64, if_pos]
          rw [← e1]; exact Hall.out
        refine ⟨_, by rw [hform]; rfl, hB0.trans (hb.mono (by omega)), fun _ => ?_⟩
        have := ownsRow_base Hown.out (show w.heap.size ≤ w.heap.size + 2 by omega)
        rw [e1, Hkk.out] at this
        exact this
end Go.Proofs.Ytlbgepgpihklfaa.Rec
