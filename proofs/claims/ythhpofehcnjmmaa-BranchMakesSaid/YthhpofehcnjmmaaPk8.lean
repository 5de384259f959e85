/- Texts of this claim, joined. -/
import Derived.Test.YthhpofehcnjmmaaPk7
import Derived.KernelRfl
set_option linter.unusedSimpArgs false
set_option linter.unusedVariables false
set_option linter.unusedSimpArgs false
set_option linter.unusedVariables false
namespace Go.Proofs.Ythhpofehcnjmmaa.Am
open Go.RowKit Lw
open Br
theorem bok_small {l : List Bn} (h : l.all (fun x => decide (x.nd.attrs.length = 0 ∧ x.nd.name.size ≤ 1000 ∧ x.red.length ≤ 1000) && x.red.all (fun s => decide (s.size ≤ 1000))) = true) : ∀ x ∈ l, okB x := fun x hx => by
  have h1 := List.all_eq_true.1 h x hx
  rw [Bool.and_eq_true, decide_eq_true_eq, List.all_eq_true] at h1
  obtain ⟨⟨h2, h3, h4⟩, h5⟩ := h1
  have h6 : x.nd.attrs = [] := List.length_eq_zero_iff.1 h2
  refine ⟨⟨by omega, by rw [h6]; decide, by omega⟩, by omega, fun s hs => ?_⟩
  have := of_decide_eq_true (h5 s hs)
  omega
theorem ex_ok : ∀ x ∈ exL, okB x := bok_small (by decide)
theorem exA_ok : ∀ x ∈ exA, okB x := bok_small (by decide)
theorem exB_ok : ∀ x ∈ exB, okB x := bok_small (by decide)
theorem bn_setR {l : List Bn} {i : Nat} {d : DC} {r : List ByteArray} (hi : i < l.length) (h : LeX d (bnR { l.getD i b0 with red := r } 9)) : LeDC 10 (setC (bnC l) i 9 d) (bnC (l.set i { l.getD i b0 with red := r })) := by
  refine ⟨(List.length_set ..).symm, fun a j ha hj => ?_⟩
  show LeX (if a = i ∧ j = 9 then d else bnR (l.getD a b0) j) (bnR ((l.set i { l.getD i b0 with red := r }).getD a b0) j)
  rw [getD_set hi]
  by_cases e : a = i
  · subst e
    rw [if_pos rfl]
    by_cases e2 : j = 9
    · subst e2
      rw [if_pos ⟨rfl, rfl⟩]
      exact h
    · rw [if_neg (fun k => e2 k.2)]
      refine LeX.of_eq ?_
      match j, hj, e2 with
      | 0, _, _ => rfl
      | 1, _, _ => rfl
      | 2, _, _ => rfl
      | 3, _, _ => rfl
      | 4, _, _ => rfl
      | 5, _, _ => rfl
      | 6, _, _ => rfl
      | 7, _, _ => rfl
      | 8, _, _ => rfl
      | 9, _, h => exact absurd rfl h
      | j + 10, h, _ => omega
  · rw [if_neg (fun k => e k.1), if_neg e]
    exact LeX.of_eq rfl
set_option maxRecDepth 20000 in
set_option maxHeartbeats 16000000 in
theorem shown_c : Con Try.prog 12 [] [] 0 0 U (fun _ => .o (.c (.bool true))) G0 := by
  refine con_of0 Try.func12 rfl (by kernel_rfl) Try.ntmps12 rfl (by first | exact Nat.zero_le _ | decide) (fun _ => ⟨rfl, rfl⟩) fun w S ν => ?_
  have hl : exL.length ≤ 1000000 := by decide
  have c1 := dirs_c exL hl ex_ok
  have c2 := Kids_c exL 3 hl ex_ok
  have c3 := Names_c exL 2 hl ex_ok
  have c4 := at_c exL [⟨#[100]⟩, ⟨#[119]⟩] hl ex_ok ⟨by decide, by decide⟩
  have c5 := Dir_c exL 3 hl ex_ok
  rw [ex_dirs] at c1
  rw [ex_kids] at c2
  rw [ex_names] at c3
  rw [ex_at] at c4
  rw [ex_dir] at c5
  have i1 := ints_c [0, 1, 3] [0, 1, 3] (by decide) (by decide)
  have i2 := ints_c [4, 5] [4, 5] (by decide) (by decide)
  have i3 := ints_c [2, 5] [2, 5] (by decide) (by decide)
  rw [decide_eq_true rfl] at i1 i2 i3
  (repeat' (first|(with_reducible refine AllP.go ?_;(first|exact trivial|exact fun _ _=>⟨_,rfl⟩|((try simp only [OS]);repeat' (first|omega|exact fun _ _=>⟨_,rfl⟩|refine And.intro ?_ ?_))))|(refine rg ?_ ?_)|(with_reducible first|refine stp ?_|refine tD rfl ?_)|refine ct ?_|refine cf ?_|((first|refine gs ?_ ?_|refine gl ?_ ?_|refine gc ?_ ?_)<;>intro h<;>(try simp only [NS] at h)<;>(try exact xf)<;>(try refine rn ?_ ?_))))
  refine TE.callW (example_c) rfl (by rfl) (by rfl) rfl (by rfl) (by (first|exact trivial|((with_reducible refine AllP.go ?_);dsimp only [AllP, appP];repeat' (first|with_reducible rfl|with_reducible exact LeD.refl|refine And.intro ?_ ?_|exact vi|rfl|exact vb|assumption|exact LeD.refl)))) ?_
  intro _ _
  ((refine rn ?_ ?_);(repeat' (first|(with_reducible refine AllP.go ?_;(first|exact trivial|exact fun _ _=>⟨_,rfl⟩|((try simp only [OS]);repeat' (first|omega|exact fun _ _=>⟨_,rfl⟩|refine And.intro ?_ ?_))))|(refine rg ?_ ?_)|(with_reducible first|refine stp ?_|refine tD rfl ?_)|refine ct ?_|refine cf ?_|((first|refine gs ?_ ?_|refine gl ?_ ?_|refine gc ?_ ?_)<;>intro h<;>(try simp only [NS] at h)<;>(try exact xf)<;>(try refine rn ?_ ?_)))))
  refine TE.lend 1 0 rfl (by rfl) (by rfl) (by decide) (by rfl) ?_
  intro w0 B0 S0 ν0 v S1 g L
  refine TE.callW (c1) rfl (by rfl) (by rfl) rfl (by rfl) (by (first|exact trivial|((with_reducible refine AllP.go ?_);dsimp only [AllP, appP];repeat' (first|with_reducible rfl|with_reducible exact LeD.refl|refine And.intro ?_ ?_|exact vi|rfl|exact vb|assumption|exact LeD.refl)))) ?_
  intro _ _
  ((refine rn ?_ ?_);(repeat' (first|(with_reducible refine AllP.go ?_;(first|exact trivial|exact fun _ _=>⟨_,rfl⟩|((try simp only [OS]);repeat' (first|omega|exact fun _ _=>⟨_,rfl⟩|refine And.intro ?_ ?_))))|(refine rg ?_ ?_)|(with_reducible first|refine stp ?_|refine tD rfl ?_)|refine ct ?_|refine cf ?_|((first|refine gs ?_ ?_|refine gl ?_ ?_|refine gc ?_ ?_)<;>intro h<;>(try simp only [NS] at h)<;>(try exact xf)<;>(try refine rn ?_ ?_)))))
  refine TE.callW (c2) rfl (by rfl) (by rfl) rfl (by rfl) (by (first|exact trivial|((with_reducible refine AllP.go ?_);dsimp only [AllP, appP];repeat' (first|with_reducible rfl|with_reducible exact LeD.refl|refine And.intro ?_ ?_|exact vi|rfl|exact vb|assumption|exact LeD.refl)))) ?_
  intro _ _
  ((refine rn ?_ ?_);(repeat' (first|(with_reducible refine AllP.go ?_;(first|exact trivial|exact fun _ _=>⟨_,rfl⟩|((try simp only [OS]);repeat' (first|omega|exact fun _ _=>⟨_,rfl⟩|refine And.intro ?_ ?_))))|(refine rg ?_ ?_)|(with_reducible first|refine stp ?_|refine tD rfl ?_)|refine ct ?_|refine cf ?_|((first|refine gs ?_ ?_|refine gl ?_ ?_|refine gc ?_ ?_)<;>intro h<;>(try simp only [NS] at h)<;>(try exact xf)<;>(try refine rn ?_ ?_)))))
  refine TE.callW (c3) rfl (by rfl) (by rfl) rfl (by rfl) (by (first|exact trivial|((with_reducible refine AllP.go ?_);dsimp only [AllP, appP];repeat' (first|with_reducible rfl|with_reducible exact LeD.refl|refine And.intro ?_ ?_|exact vi|rfl|exact vb|assumption|exact LeD.refl)))) ?_
  intro _ _
  ((refine rn ?_ ?_);(repeat' (first|(with_reducible refine AllP.go ?_;(first|exact trivial|exact fun _ _=>⟨_,rfl⟩|((try simp only [OS]);repeat' (first|omega|exact fun _ _=>⟨_,rfl⟩|refine And.intro ?_ ?_))))|(refine rg ?_ ?_)|(with_reducible first|refine stp ?_|refine tD rfl ?_)|refine ct ?_|refine cf ?_|((first|refine gs ?_ ?_|refine gl ?_ ?_|refine gc ?_ ?_)<;>intro h<;>(try simp only [NS] at h)<;>(try exact xf)<;>(try refine rn ?_ ?_)))))
  (refine TE.freezeN 1 (by rfl) (by rfl) ?_)
  refine TE.callW (c4) rfl (by rfl) (by rfl) rfl (by rfl) (by (first|exact trivial|((with_reducible refine AllP.go ?_);dsimp only [AllP, appP];repeat' (first|with_reducible rfl|with_reducible exact LeD.refl|refine And.intro ?_ ?_|exact vi|rfl|exact vb|exact trivial|(refine LeD.lit rfl ?_)|exact LeX.of_eq rfl|exact LeX.nil rfl|(refine LeX.lit rfl ?_)|refine nth1x ?_|refine nth2x ?_ ?_|refine nth3x ?_ ?_ ?_|refine nth4x ?_ ?_ ?_ ?_|exact LeD.refl)))) ?_
  intro _ _
  ((refine rn ?_ ?_);(repeat' (first|(with_reducible refine AllP.go ?_;(first|exact trivial|exact fun _ _=>⟨_,rfl⟩|((try simp only [OS]);repeat' (first|omega|exact fun _ _=>⟨_,rfl⟩|refine And.intro ?_ ?_))))|(refine rg ?_ ?_)|(with_reducible first|refine stp ?_|refine tD rfl ?_)|refine ct ?_|refine cf ?_|((first|refine gs ?_ ?_|refine gl ?_ ?_|refine gc ?_ ?_)<;>intro h<;>(try simp only [NS] at h)<;>(try exact xf)<;>(try refine rn ?_ ?_)))))
  refine TE.callW (c5) rfl (by rfl) (by rfl) rfl (by rfl) (by (first|exact trivial|((with_reducible refine AllP.go ?_);dsimp only [AllP, appP];repeat' (first|with_reducible rfl|with_reducible exact LeD.refl|refine And.intro ?_ ?_|exact vi|rfl|exact vb|assumption|exact LeD.refl)))) ?_
  intro _ _
  ((refine rn ?_ ?_);(repeat' (first|(with_reducible refine AllP.go ?_;(first|exact trivial|exact fun _ _=>⟨_,rfl⟩|((try simp only [OS]);repeat' (first|omega|exact fun _ _=>⟨_,rfl⟩|refine And.intro ?_ ?_))))|(refine rg ?_ ?_)|(with_reducible first|refine stp ?_|refine tD rfl ?_)|refine ct ?_|refine cf ?_|((first|refine gs ?_ ?_|refine gl ?_ ?_|refine gc ?_ ?_)<;>intro h<;>(try simp only [NS] at h)<;>(try exact xf)<;>(try refine rn ?_ ?_)))))
  (refine TE.freezeN 3 (by rfl) (by rfl) ?_)
  refine TE.callW (i1) rfl (by rfl) (by rfl) rfl (by rfl) (by (first|exact trivial|((with_reducible refine AllP.go ?_);dsimp only [AllP, appP];repeat' (first|with_reducible rfl|with_reducible exact LeD.refl|refine And.intro ?_ ?_|exact vi|rfl|exact vb|exact trivial|(refine LeD.lit rfl ?_)|exact LeX.of_eq rfl|exact LeX.nil rfl|(refine LeX.lit rfl ?_)|refine nth1x ?_|refine nth2x ?_ ?_|refine nth3x ?_ ?_ ?_|refine nth4x ?_ ?_ ?_ ?_|exact LeD.refl)))) ?_
  intro _ _
  ((refine rn ?_ ?_);(repeat' (first|(with_reducible refine AllP.go ?_;(first|exact trivial|exact fun _ _=>⟨_,rfl⟩|((try simp only [OS]);repeat' (first|omega|exact fun _ _=>⟨_,rfl⟩|refine And.intro ?_ ?_))))|(refine rg ?_ ?_)|(with_reducible first|refine stp ?_|refine tD rfl ?_)|refine ct ?_|refine cf ?_|((first|refine gs ?_ ?_|refine gl ?_ ?_|refine gc ?_ ?_)<;>intro h<;>(try simp only [NS] at h)<;>(try exact xf)<;>(try refine rn ?_ ?_)))))
  (refine TE.freezeN 4 (by rfl) (by rfl) ?_)
  refine TE.callW (i2) rfl (by rfl) (by rfl) rfl (by rfl) (by (first|exact trivial|((with_reducible refine AllP.go ?_);dsimp only [AllP, appP];repeat' (first|with_reducible rfl|with_reducible exact LeD.refl|refine And.intro ?_ ?_|exact vi|rfl|exact vb|exact trivial|(refine LeD.lit rfl ?_)|exact LeX.of_eq rfl|exact LeX.nil rfl|(refine LeX.lit rfl ?_)|refine nth1x ?_|refine nth2x ?_ ?_|refine nth3x ?_ ?_ ?_|refine nth4x ?_ ?_ ?_ ?_|exact LeD.refl)))) ?_
  intro _ _
  ((refine rn ?_ ?_);(repeat' (first|(with_reducible refine AllP.go ?_;(first|exact trivial|exact fun _ _=>⟨_,rfl⟩|((try simp only [OS]);repeat' (first|omega|exact fun _ _=>⟨_,rfl⟩|refine And.intro ?_ ?_))))|(refine rg ?_ ?_)|(with_reducible first|refine stp ?_|refine tD rfl ?_)|refine ct ?_|refine cf ?_|((first|refine gs ?_ ?_|refine gl ?_ ?_|refine gc ?_ ?_)<;>intro h<;>(try simp only [NS] at h)<;>(try exact xf)<;>(try refine rn ?_ ?_)))))
  (refine TE.freezeN 5 (by rfl) (by rfl) ?_)
  refine TE.callW (i3) rfl (by rfl) (by rfl) rfl (by rfl) (by (first|exact trivial|((with_reducible refine AllP.go ?_);dsimp only [AllP, appP];repeat' (first|with_reducible rfl|with_reducible exact LeD.refl|refine And.intro ?_ ?_|exact vi|rfl|exact vb|exact trivial|(refine LeD.lit rfl ?_)|exact LeX.of_eq rfl|exact LeX.nil rfl|(refine LeX.lit rfl ?_)|refine nth1x ?_|refine nth2x ?_ ?_|refine nth3x ?_ ?_ ?_|refine nth4x ?_ ?_ ?_ ?_|exact LeD.refl)))) ?_
  intro _ _
  ((refine rn ?_ ?_);repeat' (first|(with_reducible refine AllP.go ?_;(first|exact trivial|exact fun _ _=>⟨_,rfl⟩|((try simp only [OS]);repeat' (first|omega|exact fun _ _=>⟨_,rfl⟩|refine And.intro ?_ ?_))))|(with_reducible first|refine stp ?_|refine tD rfl ?_)|refine ct ?_|refine cf ?_|((first|refine gs ?_ ?_|refine gl ?_ ?_|refine gc ?_ ?_)<;>intro h<;>(try simp only [NS] at h)<;>(try exact xf)<;>(try refine rn ?_ ?_))))
  refine TE.thaw L 1 (by repeat (first | exact List.mem_cons_self .. | refine List.mem_cons_of_mem _ ?_)) (by rfl) ?_
  (refine TE.only [1, 0] (by rfl) ?_)
  have hlen : exL.length = 6 := rfl
  have c6 := checkB_c exA (by decide) exA_ok
  have c7 := checkB_c exB (by decide) exB_ok
  rw [ex_a] at c6
  rw [ex_b] at c7
  have hA : LeDC 10 (setC (bnC exL) (Int.toNat 3) 9 (.sl 1 (litC [[DC.c (.string ⟨#[100]⟩)]]).n (litC [[DC.c (.string ⟨#[100]⟩)]]).cell)) (bnC exA) := bn_setR (by decide) (by (refine LeX.lit rfl ?_; repeat' (first | exact trivial | exact LeX.of_eq rfl | exact LeX.nil rfl | (refine LeX.lit rfl ?_) | refine nth1x ?_ | refine nth2x ?_ ?_ | refine nth3x ?_ ?_ ?_ | refine nth4x ?_ ?_ ?_ ?_ | refine And.intro ?_ ?_)))
  have hB : LeDC 10 (setC (bnC exL) (Int.toNat 1) 9 (.sl 1 (litC [[DC.c (.string ⟨#[113]⟩)]]).n (litC [[DC.c (.string ⟨#[113]⟩)]]).cell)) (bnC exB) := bn_setR (by decide) (by (refine LeX.lit rfl ?_; repeat' (first | exact trivial | exact LeX.of_eq rfl | exact LeX.nil rfl | (refine LeX.lit rfl ?_) | refine nth1x ?_ | refine nth2x ?_ ?_ | refine nth3x ?_ ?_ ?_ | refine nth4x ?_ ?_ ?_ ?_ | refine And.intro ?_ ?_)))
  (repeat' (first|(with_reducible refine AllP.go ?_;(first|exact trivial|exact fun _ _=>⟨_,rfl⟩|((try simp only [OS]);repeat' (first|omega|exact fun _ _=>⟨_,rfl⟩|refine And.intro ?_ ?_))))|(refine rg ?_ ?_)|(with_reducible first|refine stp ?_|refine tD rfl ?_)|refine ct ?_|refine cf ?_|((first|refine gs ?_ ?_|refine gl ?_ ?_|refine gc ?_ ?_)<;>intro h<;>(try simp only [NS] at h)<;>(try exact xf)<;>(try refine rn ?_ ?_))))
  (refine TE.freezeN 7 (by rfl) (by rfl) ?_)
  ((refine rn ?_ ?_);(repeat' (first|(with_reducible refine AllP.go ?_;(first|exact trivial|exact fun _ _=>⟨_,rfl⟩|((try simp only [OS]);repeat' (first|omega|exact fun _ _=>⟨_,rfl⟩|refine And.intro ?_ ?_))))|(refine rg ?_ ?_)|(with_reducible first|refine stp ?_|refine tD rfl ?_)|refine ct ?_|refine cf ?_|((first|refine gs ?_ ?_|refine gl ?_ ?_|refine gc ?_ ?_)<;>intro h<;>(try simp only [NS] at h)<;>(try exact xf)<;>(try refine rn ?_ ?_)))))
  (refine TE.freezeN 6 (by rfl) (by rfl) ?_)
  refine TE.callW (c6) rfl (by rfl) (by rfl) rfl (by rfl) ?_ ?_
  · refine AllP.go ?_
    refine And.intro rfl ?_
    exact hA
  intro _ _
  ((refine rn ?_ ?_);(repeat' (first|(with_reducible refine AllP.go ?_;(first|exact trivial|exact fun _ _=>⟨_,rfl⟩|((try simp only [OS]);repeat' (first|omega|exact fun _ _=>⟨_,rfl⟩|refine And.intro ?_ ?_))))|(refine rg ?_ ?_)|(with_reducible first|refine stp ?_|refine tD rfl ?_)|refine ct ?_|refine cf ?_|((first|refine gs ?_ ?_|refine gl ?_ ?_|refine gc ?_ ?_)<;>intro h<;>(try simp only [NS] at h)<;>(try exact xf)<;>(try refine rn ?_ ?_)))))
  refine TE.callW (example_c) rfl (by rfl) (by rfl) rfl (by rfl) (by (first|exact trivial|((with_reducible refine AllP.go ?_);dsimp only [AllP, appP];repeat' (first|with_reducible rfl|with_reducible exact LeD.refl|refine And.intro ?_ ?_|exact vi|rfl|exact vb|assumption|exact LeD.refl)))) ?_
  intro _ _
  ((refine rn ?_ ?_);(repeat' (first|(with_reducible refine AllP.go ?_;(first|exact trivial|exact fun _ _=>⟨_,rfl⟩|((try simp only [OS]);repeat' (first|omega|exact fun _ _=>⟨_,rfl⟩|refine And.intro ?_ ?_))))|(refine rg ?_ ?_)|(with_reducible first|refine stp ?_|refine tD rfl ?_)|refine ct ?_|refine cf ?_|((first|refine gs ?_ ?_|refine gl ?_ ?_|refine gc ?_ ?_)<;>intro h<;>(try simp only [NS] at h)<;>(try exact xf)<;>(try refine rn ?_ ?_)))))
  (refine TE.freezeN 9 (by rfl) (by rfl) ?_)
  ((refine rn ?_ ?_);(repeat' (first|(with_reducible refine AllP.go ?_;(first|exact trivial|exact fun _ _=>⟨_,rfl⟩|((try simp only [OS]);repeat' (first|omega|exact fun _ _=>⟨_,rfl⟩|refine And.intro ?_ ?_))))|(refine rg ?_ ?_)|(with_reducible first|refine stp ?_|refine tD rfl ?_)|refine ct ?_|refine cf ?_|((first|refine gs ?_ ?_|refine gl ?_ ?_|refine gc ?_ ?_)<;>intro h<;>(try simp only [NS] at h)<;>(try exact xf)<;>(try refine rn ?_ ?_)))))
  (refine TE.freezeN 8 (by rfl) (by rfl) ?_)
  refine TE.callW (c7) rfl (by rfl) (by rfl) rfl (by rfl) ?_ ?_
  · refine AllP.go ?_
    refine And.intro rfl ?_
    exact hB
  intro _ _
  ((refine rn ?_ ?_);(repeat' (first|(with_reducible refine AllP.go ?_;(first|exact trivial|exact fun _ _=>⟨_,rfl⟩|((try simp only [OS]);repeat' (first|omega|exact fun _ _=>⟨_,rfl⟩|refine And.intro ?_ ?_))))|(refine rg ?_ ?_)|(with_reducible first|refine stp ?_|refine tD rfl ?_)|refine ct ?_|refine cf ?_|((first|refine gs ?_ ?_|refine gl ?_ ?_|refine gc ?_ ?_)<;>intro h<;>(try simp only [NS] at h)<;>(try exact xf)<;>(try refine rn ?_ ?_)))))
  (refine TE.ret' io rfl tysOk (()) ?_ rfl (by rfl) ?_;all_goals (try (first|exact trivial|((with_reducible refine AllP.go ?_);dsimp only [AllP, appP];repeat' (first|with_reducible rfl|with_reducible exact LeD.refl|refine And.intro ?_ ?_|exact vi|rfl|exact vb|exact LeD.refl)))))
end Go.Proofs.Ythhpofehcnjmmaa.Am
set_option linter.unusedSimpArgs false
set_option linter.unusedVariables false
namespace Go.Proofs.Ythhpofehcnjmmaa.Am
open Go.RowKit Lw
open Br
def smB (x : Bn) : Prop := (x.nd.attrs.length ≤ 10 ∧ x.red.length ≤ 12 ∧ x.nd.name.size ≤ 1000 ∧ x.nd.data.size ≤ 1000) ∧ (∀ j, j < x.nd.attrs.length → (x.nd.attrs.getD j At.d0).1.size ≤ 1000 ∧ (x.nd.attrs.getD j At.d0).2.size ≤ 1000) ∧ ∀ j, j < x.red.length → (x.red.getD j eS).size ≤ 1000
def smL (l : List Bn) : Prop := l.length ≤ 130 ∧ ∀ j, j < l.length → smB (l.getD j b0)
set_option maxRecDepth 20000 in
set_option maxHeartbeats 4000000 in
theorem large_c (l : List Bn) : Con Try.prog 11 [.o (.ro 10 l.length (bnC l).cell)] [] 0 0 (fun r : Bool => r = false → smL l) (fun r => .o (.c (.bool r))) (fun _ => []) := by
  refine con_of Try.func11 rfl (by kernel_rfl) Try.ntmps11 rfl (by first | exact Nat.zero_le _ | decide) (fun _ => ⟨rfl, rfl⟩) fun w S ν => ?_
  (repeat' (first|(with_reducible refine AllP.go ?_;(first|exact trivial|exact fun _ _=>⟨_,rfl⟩|((try simp only [OS]);repeat' (first|omega|exact fun _ _=>⟨_,rfl⟩|refine And.intro ?_ ?_))))|(refine rg ?_ ?_)|(with_reducible first|refine stp ?_|refine tD rfl ?_)|refine ct ?_|refine cf ?_|((first|refine gs ?_ ?_|refine gl ?_ ?_|refine gc ?_ ?_)<;>intro h<;>(try simp only [NS] at h)<;>(try exact xf)<;>(try refine rn ?_ ?_))))
  refine TE.loopG (fun q : Nat => q ≤ l.length ∧ q ≤ 150 ∧ ∀ j, j < q → smB (l.getD j b0)) (fun q => [(3, .o (.c (.int .i64 q)))]) [] (fun _ => []) (fun q => l.length - q) 0 (by rfl) ⟨Nat.zero_le _, Nat.zero_le _, fun j hj => absurd hj (Nat.not_lt_zero _)⟩ ?_ ?_
  · (refine Ent.of rfl rfl (by rfl) ?_;(try (first|exact trivial|((with_reducible refine AllP.go ?_);dsimp only [AllP, appP];repeat' (first|with_reducible rfl|with_reducible exact LeD.refl|refine And.intro ?_ ?_|exact vi|rfl|exact vb|exact LeD.refl)))))
  rintro q ⟨h1, h2, h3⟩
  by_cases hlt : q < l.length ∧ q < 150
  · obtain ⟨hlt, h150⟩ := hlt
    by_cases hb : (l.getD q b0).nd.attrs.length ≤ 10 ∧ (l.getD q b0).red.length ≤ 12 ∧ (l.getD q b0).nd.name.size ≤ 1000 ∧ (l.getD q b0).nd.data.size ≤ 1000
    · have hb' := hb
      obtain ⟨b1, b2, b3, b4⟩ := hb'
      (repeat' (first|(with_reducible refine AllP.go ?_;(first|exact trivial|exact fun _ _=>⟨_,rfl⟩|((try simp only [OS]);repeat' (first|omega|exact fun _ _=>⟨_,rfl⟩|refine And.intro ?_ ?_))))|(refine rg ?_ ?_)|(with_reducible first|refine stp ?_|refine tD rfl ?_)|refine ct ?_|refine cf ?_|((first|refine gs ?_ ?_|refine gl ?_ ?_|refine gc ?_ ?_)<;>intro h<;>(try simp only [NS] at h)<;>(try exact xf)<;>(try refine rn ?_ ?_))))
      refine TE.loopG (fun j : Nat => j ≤ (l.getD q b0).nd.attrs.length ∧ ∀ i, i < j → ((l.getD q b0).nd.attrs.getD i At.d0).1.size ≤ 1000 ∧ ((l.getD q b0).nd.attrs.getD i At.d0).2.size ≤ 1000) (fun j => [(5, .o (.c (.int .i64 j)))]) [] (fun _ => []) (fun j => (l.getD q b0).nd.attrs.length - j) 0 (by rfl) ⟨Nat.zero_le _, fun j hj => absurd hj (Nat.not_lt_zero _)⟩ ?_ ?_
      · (refine Ent.of rfl rfl (by rfl) ?_;(try (first|exact trivial|((with_reducible refine AllP.go ?_);dsimp only [AllP, appP];repeat' (first|with_reducible rfl|with_reducible exact LeD.refl|refine And.intro ?_ ?_|exact vi|rfl|exact vb|exact LeD.refl)))))
      rintro j ⟨h4, h5⟩
      by_cases hj : j < (l.getD q b0).nd.attrs.length
      · by_cases hc : ((l.getD q b0).nd.attrs.getD j At.d0).1.size ≤ 1000 ∧ ((l.getD q b0).nd.attrs.getD j At.d0).2.size ≤ 1000
        · have hc' := hc
          obtain ⟨c1, c2⟩ := hc'
          (repeat' (first|(with_reducible refine AllP.go ?_;(first|exact trivial|exact fun _ _=>⟨_,rfl⟩|((try simp only [OS]);repeat' (first|omega|exact fun _ _=>⟨_,rfl⟩|refine And.intro ?_ ?_))))|(refine rg ?_ ?_)|(with_reducible first|refine stp ?_|refine tD rfl ?_)|refine ct ?_|refine cf ?_|((first|refine gs ?_ ?_|refine gl ?_ ?_|refine gc ?_ ?_)<;>intro h<;>(try simp only [NS] at h)<;>(try exact xf)<;>(try refine rn ?_ ?_))))
          refine TE.again' (j + 1) ⟨by omega, fun i hi => ?_⟩ (by omega) ?_
          · rcases Nat.lt_or_ge i j with h6 | h6
            · exact h5 i h6
            · obtain rfl : i = j := by omega
              exact hc
          · (refine Ent.of rfl rfl (by rfl) ?_;(try (first|exact trivial|((with_reducible refine AllP.go ?_);dsimp only [AllP, appP];repeat' (first|with_reducible rfl|with_reducible exact LeD.refl|refine And.intro ?_ ?_|exact vi|rfl|exact vb|exact LeD.refl)))))
        · (repeat' (first|(with_reducible refine AllP.go ?_;(first|exact trivial|exact fun _ _=>⟨_,rfl⟩|((try simp only [OS]);repeat' (first|omega|exact fun _ _=>⟨_,rfl⟩|refine And.intro ?_ ?_))))|(refine rg ?_ ?_)|(with_reducible first|refine stp ?_|refine tD rfl ?_)|refine ct ?_|refine cf ?_|((first|refine gs ?_ ?_|refine gl ?_ ?_|refine gc ?_ ?_)<;>intro h<;>(try simp only [NS] at h)<;>(try exact xf)<;>(try refine rn ?_ ?_))))
          all_goals
            (refine TE.ret' io rfl tysOk (true) ?_ rfl (by rfl) ?_;all_goals (try (first|exact trivial|((with_reducible refine AllP.go ?_);dsimp only [AllP, appP];repeat' (first|with_reducible rfl|with_reducible exact LeD.refl|refine And.intro ?_ ?_|exact vi|rfl|exact vb|exact LeD.refl)))))
            intro h
            cases h
      · obtain rfl : j = (l.getD q b0).nd.attrs.length := by omega
        (repeat' (first|(with_reducible refine AllP.go ?_;(first|exact trivial|exact fun _ _=>⟨_,rfl⟩|((try simp only [OS]);repeat' (first|omega|exact fun _ _=>⟨_,rfl⟩|refine And.intro ?_ ?_))))|(refine rg ?_ ?_)|(with_reducible first|refine stp ?_|refine tD rfl ?_)|refine ct ?_|refine cf ?_|((first|refine gs ?_ ?_|refine gl ?_ ?_|refine gc ?_ ?_)<;>intro h<;>(try simp only [NS] at h)<;>(try exact xf)<;>(try refine rn ?_ ?_))))
        refine TE.loopG (fun j : Nat => j ≤ (l.getD q b0).red.length ∧ ∀ i, i < j → ((l.getD q b0).red.getD i eS).size ≤ 1000) (fun j => [(6, .o (.c (.int .i64 j)))]) [] (fun _ => []) (fun j => (l.getD q b0).red.length - j) 0 (by rfl) ⟨Nat.zero_le _, fun j hj => absurd hj (Nat.not_lt_zero _)⟩ ?_ ?_
        · (refine Ent.of rfl rfl (by rfl) ?_;(try (first|exact trivial|((with_reducible refine AllP.go ?_);dsimp only [AllP, appP];repeat' (first|with_reducible rfl|with_reducible exact LeD.refl|refine And.intro ?_ ?_|exact vi|rfl|exact vb|exact LeD.refl)))))
        rintro j ⟨h6, h7⟩
        by_cases hj : j < (l.getD q b0).red.length
        · by_cases hc : ((l.getD q b0).red.getD j eS).size ≤ 1000
          · (repeat' (first|(with_reducible refine AllP.go ?_;(first|exact trivial|exact fun _ _=>⟨_,rfl⟩|((try simp only [OS]);repeat' (first|omega|exact fun _ _=>⟨_,rfl⟩|refine And.intro ?_ ?_))))|(refine rg ?_ ?_)|(with_reducible first|refine stp ?_|refine tD rfl ?_)|refine ct ?_|refine cf ?_|((first|refine gs ?_ ?_|refine gl ?_ ?_|refine gc ?_ ?_)<;>intro h<;>(try simp only [NS] at h)<;>(try exact xf)<;>(try refine rn ?_ ?_))))
            refine TE.again' (j + 1) ⟨by omega, fun i hi => ?_⟩ (by omega) ?_
            · rcases Nat.lt_or_ge i j with h8 | h8
              · exact h7 i h8
              · obtain rfl : i = j := by omega
                exact hc
            · (refine Ent.of rfl rfl (by rfl) ?_;(try (first|exact trivial|((with_reducible refine AllP.go ?_);dsimp only [AllP, appP];repeat' (first|with_reducible rfl|with_reducible exact LeD.refl|refine And.intro ?_ ?_|exact vi|rfl|exact vb|exact LeD.refl)))))
          · (repeat' (first|(with_reducible refine AllP.go ?_;(first|exact trivial|exact fun _ _=>⟨_,rfl⟩|((try simp only [OS]);repeat' (first|omega|exact fun _ _=>⟨_,rfl⟩|refine And.intro ?_ ?_))))|(refine rg ?_ ?_)|(with_reducible first|refine stp ?_|refine tD rfl ?_)|refine ct ?_|refine cf ?_|((first|refine gs ?_ ?_|refine gl ?_ ?_|refine gc ?_ ?_)<;>intro h<;>(try simp only [NS] at h)<;>(try exact xf)<;>(try refine rn ?_ ?_))))
            all_goals
              (refine TE.ret' io rfl tysOk (true) ?_ rfl (by rfl) ?_;all_goals (try (first|exact trivial|((with_reducible refine AllP.go ?_);dsimp only [AllP, appP];repeat' (first|with_reducible rfl|with_reducible exact LeD.refl|refine And.intro ?_ ?_|exact vi|rfl|exact vb|exact LeD.refl)))))
              intro h
              cases h
        · obtain rfl : j = (l.getD q b0).red.length := by omega
          (repeat' (first|(with_reducible refine AllP.go ?_;(first|exact trivial|exact fun _ _=>⟨_,rfl⟩|((try simp only [OS]);repeat' (first|omega|exact fun _ _=>⟨_,rfl⟩|refine And.intro ?_ ?_))))|(refine rg ?_ ?_)|(with_reducible first|refine stp ?_|refine tD rfl ?_)|refine ct ?_|refine cf ?_|((first|refine gs ?_ ?_|refine gl ?_ ?_|refine gc ?_ ?_)<;>intro h<;>(try simp only [NS] at h)<;>(try exact xf)<;>(try refine rn ?_ ?_))))
          refine TE.again' (q + 1) ⟨by omega, by omega, fun i hi => ?_⟩ (by omega) ?_
          · rcases Nat.lt_or_ge i q with h8 | h8
            · exact h3 i h8
            · obtain rfl : i = q := by omega
              exact ⟨hb, h5, h7⟩
          · (refine Ent.of rfl rfl (by rfl) ?_;(try (first|exact trivial|((with_reducible refine AllP.go ?_);dsimp only [AllP, appP];repeat' (first|with_reducible rfl|with_reducible exact LeD.refl|refine And.intro ?_ ?_|exact vi|rfl|exact vb|exact LeD.refl)))))
    · (repeat' (first|(with_reducible refine AllP.go ?_;(first|exact trivial|exact fun _ _=>⟨_,rfl⟩|((try simp only [OS]);repeat' (first|omega|exact fun _ _=>⟨_,rfl⟩|refine And.intro ?_ ?_))))|(refine rg ?_ ?_)|(with_reducible first|refine stp ?_|refine tD rfl ?_)|refine ct ?_|refine cf ?_|((first|refine gs ?_ ?_|refine gl ?_ ?_|refine gc ?_ ?_)<;>intro h<;>(try simp only [NS] at h)<;>(try exact xf)<;>(try refine rn ?_ ?_))))
      all_goals
        (refine TE.ret' io rfl tysOk (true) ?_ rfl (by rfl) ?_;all_goals (try (first|exact trivial|((with_reducible refine AllP.go ?_);dsimp only [AllP, appP];repeat' (first|with_reducible rfl|with_reducible exact LeD.refl|refine And.intro ?_ ?_|exact vi|rfl|exact vb|exact LeD.refl)))))
        intro h
        cases h
  · (repeat' (first|(with_reducible refine AllP.go ?_;(first|exact trivial|exact fun _ _=>⟨_,rfl⟩|((try simp only [OS]);repeat' (first|omega|exact fun _ _=>⟨_,rfl⟩|refine And.intro ?_ ?_))))|(refine rg ?_ ?_)|(with_reducible first|refine stp ?_|refine tD rfl ?_)|refine ct ?_|refine cf ?_|((first|refine gs ?_ ?_|refine gl ?_ ?_|refine gc ?_ ?_)<;>intro h<;>(try simp only [NS] at h)<;>(try exact xf)<;>(try refine rn ?_ ?_))))
    all_goals
      (refine TE.ret' io rfl tysOk (decide (130 < (l.length : Int))) ?_ rfl (by rfl) ?_;all_goals (try (first|exact trivial|((with_reducible refine AllP.go ?_);dsimp only [AllP, appP];repeat' (first|with_reducible rfl|with_reducible exact LeD.refl|refine And.intro ?_ ?_|exact vi|rfl|exact vb|exact LeD.refl)))))
      intro h
      have h6 := of_decide_eq_false h
      obtain rfl : q = l.length := by omega
      exact ⟨by omega, h3⟩
theorem sizeI_small {l : List At.At} (h : ∀ j, j < l.length → (l.getD j At.d0).1.size ≤ 1000 ∧ (l.getD j At.d0).2.size ≤ 1000) : At.sizeI l ≤ 2002 * l.length := by
  have h1 : ∀ q, q ≤ l.length → At.sizeI (l.take q) ≤ 2002 * q := by
    intro q
    induction q with
    | zero => intro _; simp [At.sizeI]
    | succ q ih =>
      intro hq
      rw [At.sizeI_snoc (by omega)]
      have h2 := h q (by omega)
      have h3 := ih (by omega)
      omega
  have h4 := h1 l.length (Nat.le_refl _)
  rwa [List.take_length] at h4
theorem sm_ok {l : List Bn} (h : smL l) : l.length ≤ 1000000 ∧ ∀ x ∈ l, okB x := by
  refine ⟨by have := h.1; omega, fun x hx => ?_⟩
  obtain ⟨i, hi, rfl⟩ := List.getElem_of_mem hx
  have h1 := h.2 i hi
  rw [List.getD_eq_getElem?_getD, List.getElem?_eq_getElem hi] at h1
  have h1 : smB l[i] := h1
  obtain ⟨⟨h2, h3, h4, h5⟩, h6, h7⟩ := h1
  refine ⟨⟨by omega, ?_, by omega⟩, by omega, fun s hs => ?_⟩
  · have := sizeI_small h6
    omega
  · obtain ⟨j, hj, rfl⟩ := List.getElem_of_mem hs
    have h8 := h7 j hj
    rw [List.getD_eq_getElem?_getD, List.getElem?_eq_getElem hj] at h8
    exact Nat.le_trans h8 (by decide)
end Go.Proofs.Ythhpofehcnjmmaa.Am
set_option linter.unusedSimpArgs false
set_option linter.unusedVariables false
namespace Go.Proofs.Ythhpofehcnjmmaa.Am
open Go.RowKit Lw
open Br At
def okE (x : En) : Prop := x.name.size ≤ 1000000000 ∧ okN x.node
def okD (d : Di) : Prop := (d.attrs.length ≤ 1000000 ∧ At.sizeI d.attrs ≤ 1000000000) ∧ okP d.red ∧ d.ents.length ≤ 1000000 ∧ ∀ x ∈ d.ents, okE x
section
variable {d : Di} {last : ByteArray} {x : En}
end
end Go.Proofs.Ythhpofehcnjmmaa.Am
set_option linter.unusedSimpArgs false
set_option linter.unusedVariables false
namespace Go.Proofs.Ythhpofehcnjmmaa.Am
open Go.RowKit Lw
open Br
def diR (d : Di) (j : Nat) : DC := match j with
  | 0 => .sl 2 d.attrs.length (atC d.attrs).cell
  | 1 => .c (.bool d.opq)
  | 2 => .sl 1 d.red.length (paC d.red).cell
  | _ => .sl 12 d.ents.length (enC d.ents).cell
abbrev diC (l : List Di) : Ct := listC diR di0 l
def bnD (d : Di) : Bn := ⟨{ n0 with attrs := d.attrs }, false, d.red⟩
def bnE (x : En) : Bn := ⟨{ n0 with name := x.name, attrs := x.node.attrs, data := x.node.data }, false, []⟩
def smE (x : En) : Prop := smB (bnE x) ∧ x.node.name.size ≤ 1000
def smD (d : Di) : Prop := smB (bnD d) ∧ d.ents.length ≤ 300 ∧ ∀ k, k < d.ents.length → smE (d.ents.getD k e0)
theorem smB_ok {x : Bn} (h : smB x) : okB x := by
  obtain ⟨⟨h2, h3, h4, h5⟩, h6, h7⟩ := h
  refine ⟨⟨by omega, ?_, by omega⟩, by omega, fun s hs => ?_⟩
  · have := sizeI_small h6
    omega
  · obtain ⟨j, hj, rfl⟩ := List.getElem_of_mem hs
    have h8 := h7 j hj
    rw [List.getD_eq_getElem?_getD, List.getElem?_eq_getElem hj] at h8
    exact Nat.le_trans h8 (by decide)
theorem smD_ok {d : Di} (h : smD d) : okD d := by
  obtain ⟨h1, h2, h3⟩ := h
  have h4 := smB_ok h1
  refine ⟨⟨h4.1.1, h4.1.2.1⟩, h4.2, by omega, fun x hx => ?_⟩
  obtain ⟨k, hk, rfl⟩ := mem_getD (d := e0) hx
  obtain ⟨g1, g2⟩ := h3 k hk
  have h5 := smB_ok g1
  exact ⟨h5.1.2.2, h5.1.1, h5.1.2.1, by omega⟩
theorem sm_one {x : Bn} (h : smL [x]) : smB x := h.2 0 (Nat.zero_lt_succ 0)
set_option maxRecDepth 20000 in
set_option maxHeartbeats 8000000 in
theorem many_c (l : List Di) : Con Try.prog 32 [.o (.ro 4 l.length (diC l).cell)] [] 0 0 (fun r : Bool => r = false → l.length ≤ 130 ∧ ∀ j, j < l.length → smD (l.getD j di0)) (fun r => .o (.c (.bool r))) (fun _ => []) := by
  refine con_of Try.func32 rfl (by kernel_rfl) Try.ntmps32 rfl (by first | exact Nat.zero_le _ | decide) (fun _ => ⟨rfl, rfl⟩) fun w S ν => ?_
  (repeat' (first|(with_reducible refine AllP.go ?_;(first|exact trivial|exact fun _ _=>⟨_,rfl⟩|((try simp only [OS]);repeat' (first|omega|exact fun _ _=>⟨_,rfl⟩|refine And.intro ?_ ?_))))|(refine rg ?_ ?_)|(with_reducible first|refine stp ?_|refine tD rfl ?_)|refine ct ?_|refine cf ?_|((first|refine gs ?_ ?_|refine gl ?_ ?_|refine gc ?_ ?_)<;>intro h<;>(try simp only [NS] at h)<;>(try exact xf)<;>(try refine rn ?_ ?_))))
  refine TE.loopG (fun s : Nat × Nat => s.1 ≤ l.length ∧ s.1 ≤ 150 ∧ s.2 ≤ 400 * s.1 ∧ ∀ j, j < s.1 → smB (bnD (l.getD j di0)) ∧ ((l.getD j di0).ents.length ≤ s.2 ∨ 400 ≤ s.2) ∧ ∀ k, k < (l.getD j di0).ents.length → k < 400 → smE ((l.getD j di0).ents.getD k e0)) (fun s => [(4, .o (.c (.int .i64 s.1))), (3, .o (.c (.int .i64 s.2)))]) [] (fun _ => []) (fun s => l.length - s.1) (0, 0) (by rfl) ⟨Nat.zero_le _, Nat.zero_le _, Nat.zero_le _, fun j hj => absurd hj (Nat.not_lt_zero _)⟩ ?_ ?_
  · (refine Ent.of rfl rfl (by rfl) ?_;(try (first|exact trivial|((with_reducible refine AllP.go ?_);dsimp only [AllP, appP];repeat' (first|with_reducible rfl|with_reducible exact LeD.refl|refine And.intro ?_ ?_|exact vi|rfl|exact vb|exact LeD.refl)))))
  rintro ⟨q, n⟩ ⟨h1, h2, h3, h4⟩
  dsimp only at h1 h2 h3 h4
  by_cases hlt : q < l.length ∧ q < 150
  · obtain ⟨hlt, h150⟩ := hlt
    have hBR : ∀ (d : Di), RowsOk bnR 10 [[.c (.int .i64 0), .c (.string ⟨#[]⟩), .c (.int .i64 0), .sl 2 d.attrs.length (atC d.attrs).cell, .c (.string ⟨#[]⟩), .c (.int .i64 0), .c (.int .i64 0), .c (.int .i64 0), .c (.bool false), .sl 1 d.red.length (paC d.red).cell]] [bnD d] := fun d => ⟨bn_row (LeX.of_eq rfl) (LeX.of_eq rfl) (LeX.of_eq rfl) (LeX.of_eq rfl) (LeX.of_eq rfl) (LeX.of_eq rfl) (LeX.of_eq rfl) (LeX.of_eq rfl) (LeX.of_eq rfl) (LeX.of_eq rfl), trivial⟩
    have hBE : ∀ (x : En), RowsOk bnR 10 [[.c (.int .i64 0), .c (.string x.name), .c (.int .i64 0), .sl 2 x.node.attrs.length (atC x.node.attrs).cell, .c (.string x.node.data), .c (.int .i64 0), .c (.int .i64 0), .c (.int .i64 0), .c (.bool false), .c (.slice none 0 0)]] [bnE x] := fun x => ⟨bn_row (LeX.of_eq rfl) (LeX.of_eq rfl) (LeX.of_eq rfl) (LeX.of_eq rfl) (LeX.of_eq rfl) (LeX.of_eq rfl) (LeX.of_eq rfl) (LeX.of_eq rfl) (LeX.of_eq rfl) (LeX.nil rfl), trivial⟩
    (repeat' (first|(with_reducible refine AllP.go ?_;(first|exact trivial|exact fun _ _=>⟨_,rfl⟩|((try simp only [OS]);repeat' (first|omega|exact fun _ _=>⟨_,rfl⟩|refine And.intro ?_ ?_))))|(refine rg ?_ ?_)|(with_reducible first|refine stp ?_|refine tD rfl ?_)|refine ct ?_|refine cf ?_|((first|refine gs ?_ ?_|refine gl ?_ ?_|refine gc ?_ ?_)<;>intro h<;>(try simp only [NS] at h)<;>(try exact xf)<;>(try refine rn ?_ ?_))))
    (refine TE.drawK (fun _ => false) (by rfl) (by rfl) (by rfl) ?_)
    (repeat' (first|(with_reducible refine AllP.go ?_;(first|exact trivial|exact fun _ _=>⟨_,rfl⟩|((try simp only [OS]);repeat' (first|omega|exact fun _ _=>⟨_,rfl⟩|refine And.intro ?_ ?_))))|(with_reducible first|exact PanicOk.body|exact rd.panic|refine PanicOk.then' ?_|refine PanicOk.block ?_|refine PanicOk.jump ?_)|(refine TL.done (by rfl) ?_)|(refine TL.auto tysOk rfl ?_ (by rfl) ?_ ?_)|((refine TL.one (by rfl) ?_);first|(refine sm ?_ ?_)|(refine sp ?_ ?_))|(refine sm ?_ ?_)|(refine sp ?_ ?_)|(refine TL.two (by rfl) ?_ ?_)|(refine TL.three (by rfl) ?_ ?_ ?_)|(refine TL.four (by rfl) ?_ ?_ ?_ ?_)))
    dsimp only
    (simp only [Int.toNat_natCast])
    (refine TL.freezeN 0 (by rfl) (by rfl) ?_)
    (refine TL.one (by rfl) ?_)
    refine StepL.callW (large_c [bnD (l.getD q di0)]) rfl rfl rfl rfl rfl (by rfl) ?_ (by rfl) (by rfl) ?_
    · refine AllP.go ?_
      exact ⟨rfl, LeD.lit rfl (hBR _)⟩
    intro r hr
    (repeat' (first|(with_reducible refine AllP.go ?_;(first|exact trivial|exact fun _ _=>⟨_,rfl⟩|((try simp only [OS]);repeat' (first|omega|exact fun _ _=>⟨_,rfl⟩|refine And.intro ?_ ?_))))|(with_reducible first|exact PanicOk.body|exact rd.panic|refine PanicOk.then' ?_|refine PanicOk.block ?_|refine PanicOk.jump ?_)|(refine TL.done (by rfl) ?_)|(refine TL.auto tysOk rfl ?_ (by rfl) ?_ ?_)|(refine sm ?_ ?_)|(refine sp ?_ ?_)|(refine TL.one (by rfl) ?_)|(refine TL.two (by rfl) ?_ ?_)|(refine TL.three (by rfl) ?_ ?_ ?_)|(refine TL.four (by rfl) ?_ ?_ ?_ ?_)))
    cases r
    case true =>
      (repeat' (first|(with_reducible refine AllP.go ?_;(first|exact trivial|exact fun _ _=>⟨_,rfl⟩|((try simp only [OS]);repeat' (first|omega|exact fun _ _=>⟨_,rfl⟩|refine And.intro ?_ ?_))))|(refine rg ?_ ?_)|(with_reducible first|refine stp ?_|refine tD rfl ?_)|refine ct ?_|refine cf ?_|((first|refine gs ?_ ?_|refine gl ?_ ?_|refine gc ?_ ?_)<;>intro h<;>(try simp only [NS] at h)<;>(try exact xf)<;>(try refine rn ?_ ?_))))
      (refine TE.ret' io rfl tysOk (true) ?_ rfl (by rfl) ?_;all_goals (try (first|exact trivial|((with_reducible refine AllP.go ?_);dsimp only [AllP, appP];repeat' (first|with_reducible rfl|with_reducible exact LeD.refl|refine And.intro ?_ ?_|exact vi|rfl|exact vb|exact LeD.refl)))))
      intro h
      cases h
    have hb := sm_one (hr rfl)
    (repeat' (first|(with_reducible refine AllP.go ?_;(first|exact trivial|exact fun _ _=>⟨_,rfl⟩|((try simp only [OS]);repeat' (first|omega|exact fun _ _=>⟨_,rfl⟩|refine And.intro ?_ ?_))))|(refine rg ?_ ?_)|(with_reducible first|refine stp ?_|refine tD rfl ?_)|refine ct ?_|refine cf ?_|((first|refine gs ?_ ?_|refine gl ?_ ?_|refine gc ?_ ?_)<;>intro h<;>(try simp only [NS] at h)<;>(try exact xf)<;>(try refine rn ?_ ?_))))
    (refine TE.only [5, 4, 3, 2, 0] (by rfl) ?_)
    refine TE.loopG (fun k : Nat => k ≤ (l.getD q di0).ents.length ∧ k ≤ 400 ∧ ∀ j, j < k → smE ((l.getD q di0).ents.getD j e0)) (fun k => [(5, .o (.c (.int .i64 k))), (3, .o (.c (.int .i64 (n + k : Nat))))]) [] (fun _ => []) (fun k => (l.getD q di0).ents.length - k) 0 (by rfl) ⟨Nat.zero_le _, Nat.zero_le _, fun j hj => absurd hj (Nat.not_lt_zero _)⟩ ?_ ?_
    · (refine Ent.of rfl rfl (by rfl) ?_;(try (first|exact trivial|((with_reducible refine AllP.go ?_);dsimp only [AllP, appP];repeat' (first|with_reducible rfl|with_reducible exact LeD.refl|refine And.intro ?_ ?_|exact vi|rfl|exact vb|exact LeD.refl)))))
    rintro k ⟨k1, k2, k3⟩
    by_cases hk : k < (l.getD q di0).ents.length ∧ k < 400
    · obtain ⟨hk, hk4⟩ := hk
      (repeat' (first|(with_reducible refine AllP.go ?_;(first|exact trivial|exact fun _ _=>⟨_,rfl⟩|((try simp only [OS]);repeat' (first|omega|exact fun _ _=>⟨_,rfl⟩|refine And.intro ?_ ?_))))|(refine rg ?_ ?_)|(with_reducible first|refine stp ?_|refine tD rfl ?_)|refine ct ?_|refine cf ?_|((first|refine gs ?_ ?_|refine gl ?_ ?_|refine gc ?_ ?_)<;>intro h<;>(try simp only [NS] at h)<;>(try exact xf)<;>(try refine rn ?_ ?_))))
      (refine TE.freezeN 2 (by rfl) (by rfl) ?_)
      (simp only [Int.toNat_natCast])
      refine TE.callW (large_c [bnE ((l.getD q di0).ents.getD k e0)]) rfl (by rfl) (by rfl) rfl (by rfl) ?_ ?_
      · refine AllP.go ?_
        exact ⟨rfl, LeD.lit rfl (hBE _)⟩
      intro r hr
      cases r
      case true =>
        ((refine rn ?_ ?_);(repeat' (first|(with_reducible refine AllP.go ?_;(first|exact trivial|exact fun _ _=>⟨_,rfl⟩|((try simp only [OS]);repeat' (first|omega|exact fun _ _=>⟨_,rfl⟩|refine And.intro ?_ ?_))))|(refine rg ?_ ?_)|(with_reducible first|refine stp ?_|refine tD rfl ?_)|refine ct ?_|refine cf ?_|((first|refine gs ?_ ?_|refine gl ?_ ?_|refine gc ?_ ?_)<;>intro h<;>(try simp only [NS] at h)<;>(try exact xf)<;>(try refine rn ?_ ?_)))))
        (refine TE.ret' io rfl tysOk (true) ?_ rfl (by rfl) ?_;all_goals (try (first|exact trivial|((with_reducible refine AllP.go ?_);dsimp only [AllP, appP];repeat' (first|with_reducible rfl|with_reducible exact LeD.refl|refine And.intro ?_ ?_|exact vi|rfl|exact vb|exact LeD.refl)))))
        intro h
        cases h
      have hb2 := sm_one (hr rfl)
      ((refine rn ?_ ?_);(repeat' (first|(with_reducible refine AllP.go ?_;(first|exact trivial|exact fun _ _=>⟨_,rfl⟩|((try simp only [OS]);repeat' (first|omega|exact fun _ _=>⟨_,rfl⟩|refine And.intro ?_ ?_))))|(refine rg ?_ ?_)|(with_reducible first|refine stp ?_|refine tD rfl ?_)|refine ct ?_|refine cf ?_|((first|refine gs ?_ ?_|refine gl ?_ ?_|refine gc ?_ ?_)<;>intro h<;>(try simp only [NS] at h)<;>(try exact xf)<;>(try refine rn ?_ ?_)))))
      · (refine TE.ret' io rfl tysOk (true) ?_ rfl (by rfl) ?_;all_goals (try (first|exact trivial|((with_reducible refine AllP.go ?_);dsimp only [AllP, appP];repeat' (first|with_reducible rfl|with_reducible exact LeD.refl|refine And.intro ?_ ?_|exact vi|rfl|exact vb|exact LeD.refl)))))
        intro h
        cases h
      · refine TE.again' (k + 1) ⟨by omega, by omega, fun j hj => ?_⟩ (by omega) ?_
        · rcases Nat.lt_or_ge j k with h5 | h5
          · exact k3 j h5
          · obtain rfl : j = k := by omega
            exact ⟨hb2, by omega⟩
        · (refine Ent.of rfl rfl (by rfl) ?_;(try (first|exact trivial|((with_reducible refine AllP.go ?_);dsimp only [AllP, appP];repeat' (first|with_reducible rfl|with_reducible exact LeD.refl|refine And.intro ?_ ?_|exact vi|rfl|exact vb|exact LeD.refl)))))
    · (repeat' (first|(with_reducible refine AllP.go ?_;(first|exact trivial|exact fun _ _=>⟨_,rfl⟩|((try simp only [OS]);repeat' (first|omega|exact fun _ _=>⟨_,rfl⟩|refine And.intro ?_ ?_))))|(refine rg ?_ ?_)|(with_reducible first|refine stp ?_|refine tD rfl ?_)|refine ct ?_|refine cf ?_|((first|refine gs ?_ ?_|refine gl ?_ ?_|refine gc ?_ ?_)<;>intro h<;>(try simp only [NS] at h)<;>(try exact xf)<;>(try refine rn ?_ ?_))))
      all_goals refine TE.again' (q + 1, n + k) ⟨by dsimp only; omega, by dsimp only; omega, by dsimp only; omega, fun j hj => ?_⟩ (by dsimp only; omega) ?_
      all_goals first
        | (rcases Nat.lt_or_ge j q with h5 | h5
           · obtain ⟨g1, g2, g3⟩ := h4 j h5
             exact ⟨g1, by dsimp only; omega, g3⟩
           · obtain rfl : j = q := by have : j < q + 1 := hj; omega
             exact ⟨hb, by dsimp only; omega, fun i a b => k3 i (by omega)⟩)
        | (refine Ent.of rfl rfl (by rfl) ?_;(try (first|exact trivial|((with_reducible refine AllP.go ?_);dsimp only [AllP, appP];repeat' (first|with_reducible rfl|with_reducible exact LeD.refl|refine And.intro ?_ ?_|exact vi|rfl|exact vb|exact LeD.refl)))))
  · (repeat' (first|(with_reducible refine AllP.go ?_;(first|exact trivial|exact fun _ _=>⟨_,rfl⟩|((try simp only [OS]);repeat' (first|omega|exact fun _ _=>⟨_,rfl⟩|refine And.intro ?_ ?_))))|(refine rg ?_ ?_)|(with_reducible first|refine stp ?_|refine tD rfl ?_)|refine ct ?_|refine cf ?_|((first|refine gs ?_ ?_|refine gl ?_ ?_|refine gc ?_ ?_)<;>intro h<;>(try simp only [NS] at h)<;>(try exact xf)<;>(try refine rn ?_ ?_))))
    · (refine TE.ret' io rfl tysOk (true) ?_ rfl (by rfl) ?_;all_goals (try (first|exact trivial|((with_reducible refine AllP.go ?_);dsimp only [AllP, appP];repeat' (first|with_reducible rfl|with_reducible exact LeD.refl|refine And.intro ?_ ?_|exact vi|rfl|exact vb|exact LeD.refl)))))
      intro h
      cases h
    · (refine TE.ret' io rfl tysOk (true) ?_ rfl (by rfl) ?_;all_goals (try (first|exact trivial|((with_reducible refine AllP.go ?_);dsimp only [AllP, appP];repeat' (first|with_reducible rfl|with_reducible exact LeD.refl|refine And.intro ?_ ?_|exact vi|rfl|exact vb|exact LeD.refl)))))
      intro h
      cases h
    · (refine TE.ret' io rfl tysOk (decide (300 < (n : Int))) ?_ rfl (by rfl) ?_;all_goals (try (first|exact trivial|((with_reducible refine AllP.go ?_);dsimp only [AllP, appP];repeat' (first|with_reducible rfl|with_reducible exact LeD.refl|refine And.intro ?_ ?_|exact vi|rfl|exact vb|exact LeD.refl)))))
      intro h
      have h6 := of_decide_eq_false h
      obtain rfl : q = l.length := by omega
      refine ⟨by omega, fun j hj => ?_⟩
      obtain ⟨g1, g2, g3⟩ := h4 j hj
      exact ⟨g1, by omega, fun k hk => g3 k hk (by omega)⟩
end Go.Proofs.Ythhpofehcnjmmaa.Am
set_option linter.unusedSimpArgs false
set_option linter.unusedVariables false
namespace Go.Proofs.Ythhpofehcnjmmaa.Am
open Go.RowKit Lw
open Br
abbrev puH (j : Nat) (ds : List Di) (acc : List Bn) : List Chunk := [.box 0 55 [.ro 4 ds.length (diC ds).cell], .box 1 22 [.own j], .own j 50 10 (bnC acc), .box 3 100 [.clo 70 [(0, 0), (1, 0), (3, 0)]]]
theorem di_tail (d : Di) (r : List Di) : LeDC 4 ⟨(d :: r).length - 1, fun i j => (diC (d :: r)).cell (1 + i) j⟩ (diC r) := by
  refine ⟨rfl, fun i j hi hj => LeX.of_eq ?_⟩
  show diR ((d :: r).getD (1 + i) di0) j = diR (r.getD i di0) j
  rw [Nat.add_comm]
  rfl
theorem okB_of {x : En} {z : Int} (h : okE x) : okB (bnOf z x) := ⟨⟨h.2.1, h.2.2.1, h.1⟩, Nat.zero_le _, fun s hs => nomatch hs⟩
theorem okB_dir {x : Bn} {d : Di} (h : okB x) (hd : okD d) : okB (bnDir x d) := ⟨⟨hd.1.1, hd.1.2, h.1.2.2⟩, hd.2.1⟩
def PuI (n : Nat) (s : List Di × List Bn) : Prop := s.1.length ≤ n ∧ s.2.length ≤ 120 ∧ (∀ d ∈ s.1, okD d) ∧ ∀ b ∈ s.2, okB b
theorem putEs_inv {n : Nat} {rec : Bn → List Di × List Bn → Mk} (hr : ∀ x s, okB x → PuI n s → PuI n (rec x s).1) {z : Int} : ∀ (es : List En) (s : List Di × List Bn), (∀ x ∈ es, okE x) → PuI n s → PuI n (putEs rec z es s).1
  | [], s, _, h => h
  | x :: r, s, he, h => by
    have h1 := hr (bnOf z x) s (okB_of (he x (List.mem_cons_self ..))) h
    rw [putEs]
    split
    · exact h1
    · exact putEs_inv hr r _ (fun y hy => he y (List.mem_cons_of_mem _ hy)) h1
theorem putF_inv {n : Nat} : ∀ (f : Nat) (x : Bn) (s : List Di × List Bn), okB x → PuI n s → PuI n (putF f x s).1
  | 0, x, s, _, h => h
  | f + 1, x, (ds, b), hx, h => by
    obtain ⟨h1, h2, h3, h4⟩ := h
    have hsnoc : ∀ {y : Bn}, okB y → ∀ z ∈ b ++ [y], okB z := fun hy z hz => by
      rcases List.mem_append.1 hz with hz | hz
      · exact h4 z hz
      · rw [List.mem_singleton.1 hz]; exact hy
    rw [putF]
    by_cases hk : x.nd.kind = 1
    · rw [if_pos hk]
      cases ds with
      | nil => exact ⟨h1, h2, h3, h4⟩
      | cons d r =>
        dsimp only
        have hr1 : r.length ≤ n := by have : (d :: r).length ≤ n := h1; rw [List.length_cons] at this; omega
        have hr3 : ∀ y ∈ r, okD y := fun y hy => h3 y (List.mem_cons_of_mem _ hy)
        have hd := h3 d (List.mem_cons_self ..)
        by_cases c : 120 ≤ b.length ∨ 8 < x.nd.depth
        · rw [if_pos c]
          exact ⟨hr1, h2, hr3, h4⟩
        · rw [if_neg c]
          exact putEs_inv (fun y s hy hs => putF_inv f y s hy hs) _ _ hd.2.2.2 ⟨hr1, by show (b ++ [bnDir x d]).length ≤ 120; rw [List.length_append, List.length_singleton]; omega, hr3, hsnoc (okB_dir hx hd)⟩
    · rw [if_neg hk]
      by_cases c : 120 ≤ b.length ∨ 8 < x.nd.depth
      · rw [if_pos c]
        exact ⟨h1, h2, h3, h4⟩
      · rw [if_neg c]
        exact ⟨h1, by show (b ++ [x]).length ≤ 120; rw [List.length_append, List.length_singleton]; omega, h3, hsnoc hx⟩
theorem put_less (f : Nat) (x : Bn) (s : List Di × List Bn) (hx : okB x) (h : PuI s.1.length s) : (putF f x s).1.1.length ≤ s.1.length := (putF_inv f x s hx h).1
abbrev PutC (f : Nat) (x : Bn) (ds : List Di) (acc : List Bn) : Prop := Con Try.prog 70 [.g (bnA x), .o (.ptr 0 0), .o (.ptr 1 0), .o (.ptr 3 0)] (puH 2 ds acc) 4 5 U (fun _ => .o (.c (.int .i64 (putF f x (ds, acc)).2))) (fun _ => puH 4 (putF f x (ds, acc)).1.1 (putF f x (ds, acc)).1.2)
set_option maxRecDepth 20000 in
set_option maxHeartbeats 16000000 in
theorem put_c (f : Nat) : ∀ (x : Bn) (ds : List Di) (acc : List Bn), ds.length < f → PuI 1000000 (ds, acc) → okB x → 0 ≤ x.nd.depth → x.nd.depth ≤ 9 → PutC f x ds acc := by
  induction f with
  | zero => intro x ds acc h; exact absurd h (Nat.not_lt_zero _)
  | succ f ih =>
    intro x ds acc hf hI hx hd0 hd9
    obtain ⟨i1, i2, i3, i4⟩ := hI
    dsimp only at i1 i2 i3 i4
    unfold PutC
    refine con_of Try.func70 rfl (by kernel_rfl) Try.ntmps70 rfl (by first | exact Nat.zero_le _ | decide) (fun _ => ⟨rfl, rfl⟩) fun w S ν => ?_
    have hna : (bnC acc).n = acc.length := rfl
    have hrow : ∀ y : Bn, ∀ j, j < 10 → nthD [.c (.int .i64 y.nd.depth), .c (.string y.nd.name), .c (.int .i64 y.nd.kind), .sl 2 y.nd.attrs.length (atC y.nd.attrs).cell, .c (.string y.nd.data), .c (.int .i64 y.nd.major), .c (.int .i64 y.nd.minor), .c (.int .i64 y.nd.cls), .c (.bool y.opq), .sl 1 y.red.length (paC y.red).cell] j = bnR y j := fun y j hj => by
      match j, hj with
      | 0, _ => rfl
      | 1, _ => rfl
      | 2, _ => rfl
      | 3, _ => rfl
      | 4, _ => rfl
      | 5, _ => rfl
      | 6, _ => rfl
      | 7, _ => rfl
      | 8, _ => rfl
      | 9, _ => rfl
    by_cases hk : x.nd.kind = 1
    · cases ds with
      | nil =>
        rw [show putF (f + 1) x ([], acc) = (([], acc), 6) by rw [putF, if_pos hk]]
        (repeat' (first|(with_reducible refine AllP.go ?_;(first|exact trivial|exact fun _ _=>⟨_,rfl⟩|((try simp only [OS]);repeat' (first|omega|exact fun _ _=>⟨_,rfl⟩|refine And.intro ?_ ?_))))|(refine rg ?_ ?_)|(with_reducible first|refine stp ?_|refine tD rfl ?_)|refine ct ?_|refine cf ?_|((first|refine gs ?_ ?_|refine gl ?_ ?_|refine gc ?_ ?_)<;>intro h<;>(try simp only [NS] at h)<;>(try exact xf)<;>(try refine rn ?_ ?_))))
        (refine TE.ret' io rfl tysOk (()) ?_ rfl (by rfl) ?_;all_goals (try (first|exact trivial|((with_reducible refine AllP.go ?_);dsimp only [AllP, appP];repeat' (first|with_reducible rfl|with_reducible exact LeD.refl|refine And.intro ?_ ?_|exact vi|rfl|exact vb|exact LeD.refl)))))
      | cons d r =>
        have hl1 : (d :: r).length = r.length + 1 := List.length_cons
        have hd := i3 d (List.mem_cons_self ..)
        have hde := hd.2.2.1
        have hca := Clone_c d.attrs.length (atC d.attrs).cell hd.1.1
        have hcs := cloneS_c d.red hd.2.1.1
        (repeat' (first|(with_reducible refine AllP.go ?_;(first|exact trivial|exact fun _ _=>⟨_,rfl⟩|((try simp only [OS]);repeat' (first|omega|exact fun _ _=>⟨_,rfl⟩|refine And.intro ?_ ?_))))|(refine rg ?_ ?_)|(with_reducible first|refine stp ?_|refine tD rfl ?_)|refine ct ?_|refine cf ?_|((first|refine gs ?_ ?_|refine gl ?_ ?_|refine gc ?_ ?_)<;>intro h<;>(try simp only [NS] at h)<;>(try exact xf)<;>(try refine rn ?_ ?_))))
        (refine TE.only [1, 2, 3, 4, 5, 7] (by rfl) ?_)
        (refine TE.mid (ι := Unit) (fun _ => True) (fun _ => ⟨[(1, .o (.ptr 0 0)), (2, .o (.ptr 1 0)), (3, .o (.ptr 3 0)), (4, .o (.ptr 4 0)), (5, .o (.c (.int .i64 0))), (7, .o (.ptr 5 0))], .box 5 53 (diA d) :: .box 4 50 (bnA x) :: puH 2 r acc, 6⟩) ?_ fun _ _ => ?_)
        · (refine TE.drawK (fun _ => false) (by rfl) (by rfl) (by rfl) ?_)
          (repeat' (first|(with_reducible refine AllP.go ?_;(first|exact trivial|exact fun _ _=>⟨_,rfl⟩|((try simp only [OS]);repeat' (first|omega|exact fun _ _=>⟨_,rfl⟩|refine And.intro ?_ ?_))))|(with_reducible first|exact PanicOk.body|exact rd.panic|refine PanicOk.then' ?_|refine PanicOk.block ?_|refine PanicOk.jump ?_)|(refine TL.done (by rfl) ?_)|(refine TL.auto tysOk rfl ?_ (by rfl) ?_ ?_)|(refine sm ?_ ?_)|(refine sp ?_ ?_)|(refine TL.one (by rfl) ?_)|(refine TL.two (by rfl) ?_ ?_)|(refine TL.three (by rfl) ?_ ?_ ?_)|(refine TL.four (by rfl) ?_ ?_ ?_ ?_)))
          all_goals (repeat (with_reducible first|refine stp ?_|refine tD rfl ?_))
          all_goals (refine TE.at () trivial ?_;(refine Ent.of rfl rfl (by rfl) ?_;(try (first|exact trivial|((with_reducible refine AllP.go ?_);dsimp only [AllP, appP];repeat' (first|with_reducible rfl|with_reducible exact LeD.refl|refine And.intro ?_ ?_|exact vi|rfl|exact vb|exact LeD.refl))))))
          all_goals exact di_tail d r
        (repeat (with_reducible first|refine stp ?_|refine tD rfl ?_))
        (refine TE.mid (ι := Unit) (fun _ => True) (fun _ => ⟨[(1, .o (.ptr 0 0)), (2, .o (.ptr 1 0)), (3, .o (.ptr 3 0)), (4, .o (.ptr 4 0)), (5, .o (.c (.int .i64 0))), (7, .o (.ptr 5 0))], .box 5 53 (diA d) :: .box 4 50 (bnA (bnDir x d)) :: puH 2 r acc, 6⟩) ?_ fun _ _ => ?_)
        · (refine TE.drawK (fun i => !(Nat.beq i 4)) (by rfl) (by rfl) (by rfl) ?_)
          (repeat' (first|(with_reducible refine AllP.go ?_;(first|exact trivial|exact fun _ _=>⟨_,rfl⟩|((try simp only [OS]);repeat' (first|omega|exact fun _ _=>⟨_,rfl⟩|refine And.intro ?_ ?_))))|(with_reducible first|exact PanicOk.body|exact rd.panic|refine PanicOk.then' ?_|refine PanicOk.block ?_|refine PanicOk.jump ?_)|(refine TL.done (by rfl) ?_)|(refine TL.auto tysOk rfl ?_ (by rfl) ?_ ?_)|(refine sm ?_ ?_)|(refine sp ?_ ?_)|(refine TL.one (by rfl) ?_)|(refine TL.two (by rfl) ?_ ?_)|(refine TL.three (by rfl) ?_ ?_ ?_)|(refine TL.four (by rfl) ?_ ?_ ?_ ?_)))
          all_goals (first|refine StepL.callW (hca) rfl rfl rfl rfl rfl (by rfl) (by (first|exact trivial|((with_reducible refine AllP.go ?_);dsimp only [AllP, appP];repeat' (first|with_reducible rfl|with_reducible exact LeD.refl|refine And.intro ?_ ?_|exact vi|rfl|exact vb|assumption|exact LeD.refl)))) (by rfl) (by rfl) ?_|refine StepL.callW (hcs) rfl rfl rfl rfl rfl (by rfl) (by (first|exact trivial|((with_reducible refine AllP.go ?_);dsimp only [AllP, appP];repeat' (first|with_reducible rfl|with_reducible exact LeD.refl|refine And.intro ?_ ?_|exact vi|rfl|exact vb|assumption|exact LeD.refl)))) (by rfl) (by rfl) ?_)
          all_goals intro _ _
          all_goals (repeat' (first|(with_reducible refine AllP.go ?_;(first|exact trivial|exact fun _ _=>⟨_,rfl⟩|((try simp only [OS]);repeat' (first|omega|exact fun _ _=>⟨_,rfl⟩|refine And.intro ?_ ?_))))|(with_reducible first|exact PanicOk.body|exact rd.panic|refine PanicOk.then' ?_|refine PanicOk.block ?_|refine PanicOk.jump ?_)|(refine TL.done (by rfl) ?_)|(refine TL.auto tysOk rfl ?_ (by rfl) ?_ ?_)|(refine sm ?_ ?_)|(refine sp ?_ ?_)|(refine TL.one (by rfl) ?_)|(refine TL.two (by rfl) ?_ ?_)|(refine TL.three (by rfl) ?_ ?_ ?_)|(refine TL.four (by rfl) ?_ ?_ ?_ ?_)))
          all_goals (first|refine StepL.callW (hca) rfl rfl rfl rfl rfl (by rfl) (by (first|exact trivial|((with_reducible refine AllP.go ?_);dsimp only [AllP, appP];repeat' (first|with_reducible rfl|with_reducible exact LeD.refl|refine And.intro ?_ ?_|exact vi|rfl|exact vb|assumption|exact LeD.refl)))) (by rfl) (by rfl) ?_|refine StepL.callW (hcs) rfl rfl rfl rfl rfl (by rfl) (by (first|exact trivial|((with_reducible refine AllP.go ?_);dsimp only [AllP, appP];repeat' (first|with_reducible rfl|with_reducible exact LeD.refl|refine And.intro ?_ ?_|exact vi|rfl|exact vb|assumption|exact LeD.refl)))) (by rfl) (by rfl) ?_)
          all_goals intro _ _
          all_goals (repeat' (first|(with_reducible refine AllP.go ?_;(first|exact trivial|exact fun _ _=>⟨_,rfl⟩|((try simp only [OS]);repeat' (first|omega|exact fun _ _=>⟨_,rfl⟩|refine And.intro ?_ ?_))))|(with_reducible first|exact PanicOk.body|exact rd.panic|refine PanicOk.then' ?_|refine PanicOk.block ?_|refine PanicOk.jump ?_)|(refine TL.done (by rfl) ?_)|(refine TL.auto tysOk rfl ?_ (by rfl) ?_ ?_)|(refine sm ?_ ?_)|(refine sp ?_ ?_)|(refine TL.one (by rfl) ?_)|(refine TL.two (by rfl) ?_ ?_)|(refine TL.three (by rfl) ?_ ?_ ?_)|(refine TL.four (by rfl) ?_ ?_ ?_ ?_)))
          all_goals (repeat (with_reducible first|refine stp ?_|refine tD rfl ?_))
          all_goals (refine TE.freezeN 6 (by rfl) (by rfl) ?_)
          all_goals (refine TE.freezeN 7 (by rfl) (by rfl) ?_)
          all_goals (refine TE.at () trivial ?_;(refine Ent.of rfl rfl (by rfl) ?_;(try (first|exact trivial|((with_reducible refine AllP.go ?_);dsimp only [AllP, appP];repeat' (first|with_reducible rfl|with_reducible exact LeD.refl|refine And.intro ?_ ?_|exact vi|rfl|exact vb|exact LeD.refl))))))
        have hbd : (bnDir x d).nd.depth = x.nd.depth := rfl
        by_cases c : 120 ≤ acc.length ∨ 8 < x.nd.depth
        · rw [show putF (f + 1) x (d :: r, acc) = ((r, acc), 3) by rw [putF, if_pos hk]; dsimp only; rw [if_pos c]]
          (repeat' (first|(with_reducible refine AllP.go ?_;(first|exact trivial|exact fun _ _=>⟨_,rfl⟩|((try simp only [OS]);repeat' (first|omega|exact fun _ _=>⟨_,rfl⟩|refine And.intro ?_ ?_))))|(refine rg ?_ ?_)|(with_reducible first|refine stp ?_|refine tD rfl ?_)|refine ct ?_|refine cf ?_|((first|refine gs ?_ ?_|refine gl ?_ ?_|refine gc ?_ ?_)<;>intro h<;>(try simp only [NS] at h)<;>(try exact xf)<;>(try refine rn ?_ ?_))))
          all_goals (refine TE.ret' io rfl tysOk (()) ?_ rfl (by rfl) ?_;all_goals (try (first|exact trivial|((with_reducible refine AllP.go ?_);dsimp only [AllP, appP];repeat' (first|with_reducible rfl|with_reducible exact LeD.refl|refine And.intro ?_ ?_|exact vi|rfl|exact vb|exact LeD.refl)))))
        have hP : putF (f + 1) x (d :: r, acc) = putEs (putF f) (x.nd.depth + 1) d.ents (r, acc ++ [bnDir x d]) := by
          rw [putF, if_pos hk]
          dsimp only
          rw [if_neg c]
        rw [hP]
        (repeat' (first|(with_reducible refine AllP.go ?_;(first|exact trivial|exact fun _ _=>⟨_,rfl⟩|((try simp only [OS]);repeat' (first|omega|exact fun _ _=>⟨_,rfl⟩|refine And.intro ?_ ?_))))|(refine rg ?_ ?_)|(with_reducible first|refine stp ?_|refine tD rfl ?_)|refine ct ?_|refine cf ?_|((first|refine gs ?_ ?_|refine gl ?_ ?_|refine gc ?_ ?_)<;>intro h<;>(try simp only [NS] at h)<;>(try exact xf)<;>(try refine rn ?_ ?_))))
        (refine TE.only [50, 49, 48, 7, 5, 4, 3, 2, 1] (by rfl) ?_)
        have hI0 : PuI 1000000 (r, acc ++ [bnDir x d]) := ⟨by dsimp only; omega, by show (acc ++ [bnDir x d]).length ≤ 120; rw [List.length_append, List.length_singleton]; omega, fun y hy => i3 y (List.mem_cons_of_mem _ hy), fun z hz => by
          rcases List.mem_append.1 hz with hz | hz
          · exact i4 z hz
          · rw [List.mem_singleton.1 hz]; exact okB_dir hx hd⟩
        refine TE.loopG (fun s : Nat × List Di × List Bn => s.1 ≤ d.ents.length ∧ putEs (putF f) (x.nd.depth + 1) d.ents (r, acc ++ [bnDir x d]) = putEs (putF f) (x.nd.depth + 1) (d.ents.drop s.1) s.2 ∧ PuI 1000000 s.2 ∧ s.2.1.length < f) (fun s => [(50, .o (.c (.int .i64 s.1)))]) [0, 1, 7, 3] (fun s => puH 7 s.2.1 s.2.2) (fun s => d.ents.length - s.1) (0, r, acc ++ [bnDir x d]) (by rfl) ⟨Nat.zero_le _, rfl, hI0, by dsimp only; omega⟩ ?_ ?_
        · (refine Ent.of rfl rfl (by rfl) ?_;(try (first|exact trivial|((with_reducible refine AllP.go ?_);dsimp only [AllP, appP];repeat' (first|with_reducible rfl|with_reducible exact LeD.refl|refine And.intro ?_ ?_|exact vi|rfl|exact vb|exact LeD.refl)))))
          exact listC_snoc _ rfl (hrow _)
        rintro ⟨q, ds', acc'⟩ ⟨h1, h2, h3, h4⟩
        dsimp only at h1 h2 h3 h4
        by_cases hlt : q < d.ents.length
        · have hxe := hd.2.2.2 _ (getD_mem (d := e0) hlt)
          have hdr : d.ents.drop q = d.ents.getD q e0 :: d.ents.drop (q + 1) := by rw [List.drop_eq_getElem_cons hlt, List.getD_eq_getElem?_getD, List.getElem?_eq_getElem hlt]; rfl
          have hcl := Clone_c (d.ents.getD q e0).node.attrs.length (atC (d.ents.getD q e0).node.attrs).cell hxe.2.1
          have hrec := ih (bnOf (x.nd.depth + 1) (d.ents.getD q e0)) ds' acc' h4 h3 (okB_of hxe) (show 0 ≤ x.nd.depth + 1 by omega) (show x.nd.depth + 1 ≤ 9 by omega)
          have hinv := putF_inv (n := 1000000) f (bnOf (x.nd.depth + 1) (d.ents.getD q e0)) (ds', acc') (okB_of hxe) h3
          have hless : (putF f (bnOf (x.nd.depth + 1) (d.ents.getD q e0)) (ds', acc')).1.1.length ≤ ds'.length := put_less f (bnOf (x.nd.depth + 1) (d.ents.getD q e0)) (ds', acc') (okB_of hxe) ⟨Nat.le_refl _, h3.2⟩
          unfold PutC at hrec
          rw [hdr, putEs] at h2
          rw [h2]
          clear h2
          (repeat' (first|(with_reducible refine AllP.go ?_;(first|exact trivial|exact fun _ _=>⟨_,rfl⟩|((try simp only [OS]);repeat' (first|omega|exact fun _ _=>⟨_,rfl⟩|refine And.intro ?_ ?_))))|(refine rg ?_ ?_)|(with_reducible first|refine stp ?_|refine tD rfl ?_)|refine ct ?_|refine cf ?_|((first|refine gs ?_ ?_|refine gl ?_ ?_|refine gc ?_ ?_)<;>intro h<;>(try simp only [NS] at h)<;>(try exact xf)<;>(try refine rn ?_ ?_))))
          dsimp only
          (simp only [Int.toNat_natCast])
          generalize d.ents.getD q e0 = en at *
          (refine TE.drawK (fun i => !(Nat.beq i 0 || Nat.beq i 1 || Nat.beq i 7 || Nat.beq i 3)) (by rfl) (by rfl) (by rfl) ?_)
          (repeat' (first|(with_reducible refine AllP.go ?_;(first|exact trivial|exact fun _ _=>⟨_,rfl⟩|((try simp only [OS]);repeat' (first|omega|exact fun _ _=>⟨_,rfl⟩|refine And.intro ?_ ?_))))|(with_reducible first|exact PanicOk.body|exact rd.panic|refine PanicOk.then' ?_|refine PanicOk.block ?_|refine PanicOk.jump ?_)|(refine TL.done (by rfl) ?_)|(refine TL.auto tysOk rfl ?_ (by rfl) ?_ ?_)|(refine sm ?_ ?_)|(refine sp ?_ ?_)|(refine TL.one (by rfl) ?_)|(refine TL.two (by rfl) ?_ ?_)|(refine TL.three (by rfl) ?_ ?_ ?_)|(refine TL.four (by rfl) ?_ ?_ ?_ ?_)))
          all_goals (refine StepL.callW (hcl) rfl rfl rfl rfl rfl (by rfl) (by (first|exact trivial|((with_reducible refine AllP.go ?_);dsimp only [AllP, appP];repeat' (first|with_reducible rfl|with_reducible exact LeD.refl|refine And.intro ?_ ?_|exact vi|rfl|exact vb|assumption|exact LeD.refl)))) (by rfl) (by rfl) ?_;intro _ _;(refine TL.freezeN 10 (by rfl) (by rfl) ?_);(repeat' (first|(with_reducible refine AllP.go ?_;(first|exact trivial|exact fun _ _=>⟨_,rfl⟩|((try simp only [OS]);repeat' (first|omega|exact fun _ _=>⟨_,rfl⟩|refine And.intro ?_ ?_))))|(with_reducible first|exact PanicOk.body|exact rd.panic|refine PanicOk.then' ?_|refine PanicOk.block ?_|refine PanicOk.jump ?_)|(refine TL.done (by rfl) ?_)|(refine TL.auto tysOk rfl ?_ (by rfl) ?_ ?_)|(refine sm ?_ ?_)|(refine sp ?_ ?_)|(refine TL.one (by rfl) ?_)|(refine TL.two (by rfl) ?_ ?_)|(refine TL.three (by rfl) ?_ ?_ ?_)|(refine TL.four (by rfl) ?_ ?_ ?_ ?_))))
          have hbz : (bnOf (x.nd.depth + 1) en).nd.depth = x.nd.depth + 1 := rfl
          all_goals (refine StepL.callW (hrec) rfl rfl rfl rfl rfl (by rfl) (by (first|exact trivial|((with_reducible refine AllP.go ?_);dsimp only [AllP, appP];repeat' (first|with_reducible rfl|with_reducible exact LeD.refl|refine And.intro ?_ ?_|exact vi|rfl|exact vb|assumption|exact LeD.refl)))) (by rfl) (by rfl) ?_;intro _ _;(repeat' (first|(with_reducible refine AllP.go ?_;(first|exact trivial|exact fun _ _=>⟨_,rfl⟩|((try simp only [OS]);repeat' (first|omega|exact fun _ _=>⟨_,rfl⟩|refine And.intro ?_ ?_))))|(with_reducible first|exact PanicOk.body|exact rd.panic|refine PanicOk.then' ?_|refine PanicOk.block ?_|refine PanicOk.jump ?_)|(refine TL.done (by rfl) ?_)|(refine TL.auto tysOk rfl ?_ (by rfl) ?_ ?_)|(refine sm ?_ ?_)|(refine sp ?_ ?_)|(refine TL.one (by rfl) ?_)|(refine TL.two (by rfl) ?_ ?_)|(refine TL.three (by rfl) ?_ ?_ ?_)|(refine TL.four (by rfl) ?_ ?_ ?_ ?_))))
          all_goals (
            by_cases he : (putF f (bnOf (x.nd.depth + 1) en) (ds', acc')).2 ≠ 0
            · rw [if_pos he]
              (repeat' (first|(with_reducible refine AllP.go ?_;(first|exact trivial|exact fun _ _=>⟨_,rfl⟩|((try simp only [OS]);repeat' (first|omega|exact fun _ _=>⟨_,rfl⟩|refine And.intro ?_ ?_))))|(refine rg ?_ ?_)|(with_reducible first|refine stp ?_|refine tD rfl ?_)|refine ct ?_|refine cf ?_|((first|refine gs ?_ ?_|refine gl ?_ ?_|refine gc ?_ ?_)<;>intro h<;>(try simp only [NS] at h)<;>(try exact xf)<;>(try refine rn ?_ ?_))))
              (refine TE.ret' io rfl tysOk (()) ?_ rfl (by rfl) ?_;all_goals (try (first|exact trivial|((with_reducible refine AllP.go ?_);dsimp only [AllP, appP];repeat' (first|with_reducible rfl|with_reducible exact LeD.refl|refine And.intro ?_ ?_|exact vi|rfl|exact vb|exact LeD.refl)))))
            rw [if_neg he]
            (repeat' (first|(with_reducible refine AllP.go ?_;(first|exact trivial|exact fun _ _=>⟨_,rfl⟩|((try simp only [OS]);repeat' (first|omega|exact fun _ _=>⟨_,rfl⟩|refine And.intro ?_ ?_))))|(refine rg ?_ ?_)|(with_reducible first|refine stp ?_|refine tD rfl ?_)|refine ct ?_|refine cf ?_|((first|refine gs ?_ ?_|refine gl ?_ ?_|refine gc ?_ ?_)<;>intro h<;>(try simp only [NS] at h)<;>(try exact xf)<;>(try refine rn ?_ ?_))))
            refine TE.again' (q + 1, (putF f (bnOf (x.nd.depth + 1) en) (ds', acc')).1) ?_ ?_ ?_
            · exact ⟨Nat.succ_le_of_lt hlt, rfl, hinv, Nat.lt_of_le_of_lt hless h4⟩
            · show d.ents.length - (q + 1) < d.ents.length - q
              omega
            · (refine Ent.of rfl rfl (by rfl) ?_;(try (first|exact trivial|((with_reducible refine AllP.go ?_);dsimp only [AllP, appP];repeat' (first|with_reducible rfl|with_reducible exact LeD.refl|refine And.intro ?_ ?_|exact vi|rfl|exact vb|exact LeD.refl))))))
        · obtain rfl : q = d.ents.length := by omega
          rw [h2, List.drop_length, putEs]
          (repeat' (first|(with_reducible refine AllP.go ?_;(first|exact trivial|exact fun _ _=>⟨_,rfl⟩|((try simp only [OS]);repeat' (first|omega|exact fun _ _=>⟨_,rfl⟩|refine And.intro ?_ ?_))))|(refine rg ?_ ?_)|(with_reducible first|refine stp ?_|refine tD rfl ?_)|refine ct ?_|refine cf ?_|((first|refine gs ?_ ?_|refine gl ?_ ?_|refine gc ?_ ?_)<;>intro h<;>(try simp only [NS] at h)<;>(try exact xf)<;>(try refine rn ?_ ?_))))
          (refine TE.ret' io rfl tysOk (()) ?_ rfl (by rfl) ?_;all_goals (try (first|exact trivial|((with_reducible refine AllP.go ?_);dsimp only [AllP, appP];repeat' (first|with_reducible rfl|with_reducible exact LeD.refl|refine And.intro ?_ ?_|exact vi|rfl|exact vb|exact LeD.refl)))))
    · by_cases c : 120 ≤ acc.length ∨ 8 < x.nd.depth
      · rw [show putF (f + 1) x (ds, acc) = ((ds, acc), 3) by rw [putF, if_neg hk, if_pos c]]
        (repeat' (first|(with_reducible refine AllP.go ?_;(first|exact trivial|exact fun _ _=>⟨_,rfl⟩|((try simp only [OS]);repeat' (first|omega|exact fun _ _=>⟨_,rfl⟩|refine And.intro ?_ ?_))))|(refine rg ?_ ?_)|(with_reducible first|refine stp ?_|refine tD rfl ?_)|refine ct ?_|refine cf ?_|((first|refine gs ?_ ?_|refine gl ?_ ?_|refine gc ?_ ?_)<;>intro h<;>(try simp only [NS] at h)<;>(try exact xf)<;>(try refine rn ?_ ?_))))
        all_goals (refine TE.ret' io rfl tysOk (()) ?_ rfl (by rfl) ?_;all_goals (try (first|exact trivial|((with_reducible refine AllP.go ?_);dsimp only [AllP, appP];repeat' (first|with_reducible rfl|with_reducible exact LeD.refl|refine And.intro ?_ ?_|exact vi|rfl|exact vb|exact LeD.refl)))))
      · rw [show putF (f + 1) x (ds, acc) = ((ds, acc ++ [x]), 0) by rw [putF, if_neg hk, if_neg c]]
        (repeat' (first|(with_reducible refine AllP.go ?_;(first|exact trivial|exact fun _ _=>⟨_,rfl⟩|((try simp only [OS]);repeat' (first|omega|exact fun _ _=>⟨_,rfl⟩|refine And.intro ?_ ?_))))|(refine rg ?_ ?_)|(with_reducible first|refine stp ?_|refine tD rfl ?_)|refine ct ?_|refine cf ?_|((first|refine gs ?_ ?_|refine gl ?_ ?_|refine gc ?_ ?_)<;>intro h<;>(try simp only [NS] at h)<;>(try exact xf)<;>(try refine rn ?_ ?_))))
        refine TE.loopG (fun m : Nat => m = 0) (fun m => [(50, .o (.c (.int .i64 m)))]) [] (fun _ => []) (fun _ => 0) 0 (by rfl) rfl ?_ ?_
        · (refine Ent.of rfl rfl (by rfl) ?_;(try (first|exact trivial|((with_reducible refine AllP.go ?_);dsimp only [AllP, appP];repeat' (first|with_reducible rfl|with_reducible exact LeD.refl|refine And.intro ?_ ?_|exact vi|rfl|exact vb|exact LeD.refl)))))
        rintro m rfl
        (repeat' (first|(with_reducible refine AllP.go ?_;(first|exact trivial|exact fun _ _=>⟨_,rfl⟩|((try simp only [OS]);repeat' (first|omega|exact fun _ _=>⟨_,rfl⟩|refine And.intro ?_ ?_))))|(refine rg ?_ ?_)|(with_reducible first|refine stp ?_|refine tD rfl ?_)|refine ct ?_|refine cf ?_|((first|refine gs ?_ ?_|refine gl ?_ ?_|refine gc ?_ ?_)<;>intro h<;>(try simp only [NS] at h)<;>(try exact xf)<;>(try refine rn ?_ ?_))))
        (refine TE.ret' io rfl tysOk (()) ?_ rfl (by rfl) ?_;all_goals (try (first|exact trivial|((with_reducible refine AllP.go ?_);dsimp only [AllP, appP];repeat' (first|with_reducible rfl|with_reducible exact LeD.refl|refine And.intro ?_ ?_|exact vi|rfl|exact vb|exact LeD.refl)))))
        exact listC_snoc _ rfl (hrow x)
end Go.Proofs.Ythhpofehcnjmmaa.Am
set_option linter.unusedSimpArgs false
set_option linter.unusedVariables false
namespace Go.Proofs.Ythhpofehcnjmmaa.Am
open Go.RowKit Lw
open Br
abbrev enB (x : En) : List A1 := [.c (.string x.name), .c (.int .i64 x.node.depth), .c (.string x.node.name), .c (.int .i64 x.node.kind), .ro 2 x.node.attrs.length (atC x.node.attrs).cell, .c (.string x.node.data), .c (.int .i64 x.node.major), .c (.int .i64 x.node.minor), .c (.int .i64 x.node.cls), .c (.bool x.white), .c (.bool x.first), .c (.int .i64 x.names)]
theorem en_iff {x y : En} : x = y ↔ x.name = y.name ∧ x.white = y.white ∧ x.first = y.first ∧ x.names = y.names ∧ x.node.depth = y.node.depth ∧ x.node.name = y.node.name ∧ x.node.kind = y.node.kind ∧ x.node.attrs = y.node.attrs ∧ x.node.data = y.node.data ∧ x.node.major = y.node.major ∧ x.node.minor = y.node.minor ∧ x.node.cls = y.node.cls := by
  obtain ⟨a1, ⟨b1, b2, b3, b4, b5, b6, b7, b8⟩, a2, a3, a4⟩ := x
  obtain ⟨c1, ⟨d1, d2, d3, d4, d5, d6, d7, d8⟩, c2, c3, c4⟩ := y
  simp only [En.mk.injEq, Nd.mk.injEq]
  constructor
  · rintro ⟨rfl, ⟨rfl, rfl, rfl, rfl, rfl, rfl, rfl, rfl⟩, rfl, rfl, rfl⟩; simp
  · rintro ⟨rfl, rfl, rfl, rfl, rfl, rfl, rfl, rfl, rfl, rfl, rfl, rfl⟩; simp
theorem list_ext {α : Type} {d : α} {a b : List α} (h : a.length = b.length) (hk : ∀ k, k < a.length → a.getD k d = b.getD k d) : a = b := by
  refine List.ext_getElem h fun k h1 h2 => ?_
  have := hk k h1
  rwa [List.getD_eq_getElem?_getD, List.getElem?_eq_getElem h1, List.getD_eq_getElem?_getD, List.getElem?_eq_getElem h2] at this
set_option maxRecDepth 400000 in
set_option maxHeartbeats 8000000 in
theorem sameEn_c (x y : En) (hx : x.node.attrs.length ≤ 1000000) (hy : y.node.attrs.length ≤ 1000000) : Con Try.prog 97 [.g (enB x), .g (enB y)] [] 0 0 U (fun _ => .o (.sb (decide (x = y)))) G0 := by
  refine con_of Try.func97 rfl (by kernel_rfl) Try.ntmps97 rfl (by first | exact Nat.zero_le _ | decide) (fun _ => ⟨rfl, rfl⟩) fun w S ν => ?_
  have c := eqAttrs_c x.node.attrs y.node.attrs hx hy
  have he := en_iff (x := x) (y := y)
  (repeat' (first|(with_reducible refine AllP.go ?_;(first|exact trivial|exact fun _ _=>⟨_,rfl⟩|((try simp only [OS]);repeat' (first|omega|exact fun _ _=>⟨_,rfl⟩|refine And.intro ?_ ?_))))|(refine rg ?_ ?_)|(with_reducible first|refine stp ?_|refine tD rfl ?_)|refine ct ?_|refine cf ?_|((first|refine gs ?_ ?_|refine gl ?_ ?_|refine gc ?_ ?_)<;>intro h<;>(try simp only [NS] at h)<;>(try exact xf)<;>(try refine rn ?_ ?_))))
  (refine TE.mid (ι := Unit) (fun _ => True) (fun _ => ⟨[(2, .o (.ptr 0 0)), (3, .o (.ptr 1 0)), (5, .o (.ptr 2 0)), (6, .o (.ptr 3 0))], [.box 0 72 (enB x), .box 1 72 (enB y), .box 2 70 (ndA x.node), .box 3 70 (ndA y.node)], 4⟩) ?_ fun _ _ => ?_)
  · (refine TE.drawK (fun _ => false) (by rfl) (by rfl) (by rfl) ?_)
    (repeat' (first|(with_reducible refine AllP.go ?_;(first|exact trivial|exact fun _ _=>⟨_,rfl⟩|((try simp only [OS]);repeat' (first|omega|exact fun _ _=>⟨_,rfl⟩|refine And.intro ?_ ?_))))|(with_reducible first|exact PanicOk.body|exact rd.panic|refine PanicOk.then' ?_|refine PanicOk.block ?_|refine PanicOk.jump ?_)|(refine TL.done (by rfl) ?_)|(refine TL.auto tysOk rfl ?_ (by rfl) ?_ ?_)|(refine sm ?_ ?_)|(refine sp ?_ ?_)|(refine TL.one (by rfl) ?_)|(refine TL.two (by rfl) ?_ ?_)|(refine TL.three (by rfl) ?_ ?_ ?_)|(refine TL.four (by rfl) ?_ ?_ ?_ ?_)))
    all_goals (repeat (with_reducible first|refine stp ?_|refine tD rfl ?_))
    all_goals (refine TE.at () trivial ?_;(refine Ent.of rfl rfl (by rfl) ?_;(try (first|exact trivial|((with_reducible refine AllP.go ?_);dsimp only [AllP, appP];repeat' (first|with_reducible rfl|with_reducible exact LeD.refl|refine And.intro ?_ ?_|exact vi|rfl|exact vb|exact LeD.refl))))))
  (repeat (with_reducible first|refine stp ?_|refine tD rfl ?_))
  (repeat' (first|(with_reducible refine AllP.go ?_;(first|exact trivial|exact fun _ _=>⟨_,rfl⟩|((try simp only [OS]);repeat' (first|omega|exact fun _ _=>⟨_,rfl⟩|refine And.intro ?_ ?_))))|(refine rg ?_ ?_)|(with_reducible first|refine stp ?_|refine tD rfl ?_)|refine ct ?_|refine cf ?_|((first|refine gs ?_ ?_|refine gl ?_ ?_|refine gc ?_ ?_)<;>intro h<;>(try simp only [NS] at h)<;>(try exact xf)<;>(try refine rn ?_ ?_))))
  · refine TE.callW (c) rfl (by rfl) (by rfl) rfl (by rfl) (by (first|exact trivial|((with_reducible refine AllP.go ?_);dsimp only [AllP, appP];repeat' (first|with_reducible rfl|with_reducible exact LeD.refl|refine And.intro ?_ ?_|exact vi|rfl|exact vb|assumption|exact LeD.refl)))) ?_
    intro _ _
    clear c hx hy
    ((refine rn ?_ ?_);(repeat' (first|(with_reducible refine AllP.go ?_;(first|exact trivial|exact fun _ _=>⟨_,rfl⟩|((try simp only [OS]);repeat' (first|omega|exact fun _ _=>⟨_,rfl⟩|refine And.intro ?_ ?_))))|(refine rg ?_ ?_)|(with_reducible first|refine stp ?_|refine tD rfl ?_)|refine ct ?_|refine cf ?_|((first|refine gs ?_ ?_|refine gl ?_ ?_|refine gc ?_ ?_)<;>intro h<;>(try simp only [NS] at h)<;>(try exact xf)<;>(try refine rn ?_ ?_)))))
    all_goals (refine TE.ret' io rfl tysOk (()) ?_ rfl (by rfl) ?_;all_goals (try (first|exact trivial|((with_reducible refine AllP.go ?_);dsimp only [AllP, appP];repeat' (first|with_reducible rfl|with_reducible exact LeD.refl|refine And.intro ?_ ?_|exact vi|rfl|exact vb|exact LeD.refl)))))
    all_goals first
      | (rw [decide_eq_decide, he]; simp_all; done)
      | (refine congrArg Value.bool (Eq.symm ?_); rw [decide_eq_false_iff_not, he]; intro k; simp_all; done)
  all_goals clear c hx hy
  all_goals (refine TE.ret' io rfl tysOk (()) ?_ rfl (by rfl) ?_;all_goals (try (first|exact trivial|((with_reducible refine AllP.go ?_);dsimp only [AllP, appP];repeat' (first|with_reducible rfl|with_reducible exact LeD.refl|refine And.intro ?_ ?_|exact vi|rfl|exact vb|exact LeD.refl)))))
  all_goals (refine congrArg Value.bool (Eq.symm ?_); rw [decide_eq_false_iff_not, he]; intro k; simp_all; done)
set_option maxRecDepth 20000 in
set_option maxHeartbeats 8000000 in
theorem sameEns_c (a b : List En) (ha : a.length ≤ 1000000) (hb : b.length ≤ 1000000) (hxa : ∀ x ∈ a, x.node.attrs.length ≤ 1000000) (hxb : ∀ x ∈ b, x.node.attrs.length ≤ 1000000) : Con Try.prog 96 [.o (.ro 12 a.length (enC a).cell), .o (.ro 12 b.length (enC b).cell), .o (.c (.func (.func 97) #[] #[]))] [] 0 0 U (fun _ => .o (.sb (decide (a = b)))) G0 := by
  refine con_of Try.func96 rfl (by kernel_rfl) Try.ntmps96 rfl (by first | exact Nat.zero_le _ | decide) (fun _ => ⟨rfl, rfl⟩) fun w S ν => ?_
  by_cases hl : a.length = b.length
  case neg =>
    rw [show decide (a = b) = false from decide_eq_false fun e => hl (by rw [e])]
    (repeat' (first|(with_reducible refine AllP.go ?_;(first|exact trivial|exact fun _ _=>⟨_,rfl⟩|((try simp only [OS]);repeat' (first|omega|exact fun _ _=>⟨_,rfl⟩|refine And.intro ?_ ?_))))|(refine rg ?_ ?_)|(with_reducible first|refine stp ?_|refine tD rfl ?_)|refine ct ?_|refine cf ?_|((first|refine gs ?_ ?_|refine gl ?_ ?_|refine gc ?_ ?_)<;>intro h<;>(try simp only [NS] at h)<;>(try exact xf)<;>(try refine rn ?_ ?_))))
    (refine TE.ret' io rfl tysOk (()) ?_ rfl (by rfl) ?_;all_goals (try (first|exact trivial|((with_reducible refine AllP.go ?_);dsimp only [AllP, appP];repeat' (first|with_reducible rfl|with_reducible exact LeD.refl|refine And.intro ?_ ?_|exact vi|rfl|exact vb|exact LeD.refl)))))
  (repeat' (first|(with_reducible refine AllP.go ?_;(first|exact trivial|exact fun _ _=>⟨_,rfl⟩|((try simp only [OS]);repeat' (first|omega|exact fun _ _=>⟨_,rfl⟩|refine And.intro ?_ ?_))))|(refine rg ?_ ?_)|(with_reducible first|refine stp ?_|refine tD rfl ?_)|refine ct ?_|refine cf ?_|((first|refine gs ?_ ?_|refine gl ?_ ?_|refine gc ?_ ?_)<;>intro h<;>(try simp only [NS] at h)<;>(try exact xf)<;>(try refine rn ?_ ?_))))
  refine TE.loopG (fun q : Nat => q ≤ a.length ∧ ∀ k, k < q → a.getD k e0 = b.getD k e0) (fun q => [(17, .o (.c (.int .i64 q)))]) [] (fun _ => []) (fun q => a.length - q) 0 (by rfl) ⟨Nat.zero_le _, fun k hk => absurd hk (Nat.not_lt_zero _)⟩ ?_ ?_
  · (refine Ent.of rfl rfl (by rfl) ?_;(try (first|exact trivial|((with_reducible refine AllP.go ?_);dsimp only [AllP, appP];repeat' (first|with_reducible rfl|with_reducible exact LeD.refl|refine And.intro ?_ ?_|exact vi|rfl|exact vb|exact LeD.refl)))))
  rintro q ⟨h1, h2⟩
  by_cases hlt : q < a.length
  · have c := sameEn_c (a.getD q e0) (b.getD q e0) (hxa _ (getD_mem hlt)) (hxb _ (getD_mem (by omega)))
    (repeat' (first|(with_reducible refine AllP.go ?_;(first|exact trivial|exact fun _ _=>⟨_,rfl⟩|((try simp only [OS]);repeat' (first|omega|exact fun _ _=>⟨_,rfl⟩|refine And.intro ?_ ?_))))|(refine rg ?_ ?_)|(with_reducible first|refine stp ?_|refine tD rfl ?_)|refine ct ?_|refine cf ?_|((first|refine gs ?_ ?_|refine gl ?_ ?_|refine gc ?_ ?_)<;>intro h<;>(try simp only [NS] at h)<;>(try exact xf)<;>(try refine rn ?_ ?_))))
    refine TE.callW (c) rfl (by rfl) (by rfl) rfl (by rfl) (by (first|exact trivial|((with_reducible refine AllP.go ?_);dsimp only [AllP, appP];repeat' (first|with_reducible rfl|with_reducible exact LeD.refl|refine And.intro ?_ ?_|exact vi|rfl|exact vb|assumption|exact LeD.refl)))) ?_
    intro _ _
    by_cases he : a.getD q e0 = b.getD q e0
    · ((refine rn ?_ ?_);(repeat' (first|(with_reducible refine AllP.go ?_;(first|exact trivial|exact fun _ _=>⟨_,rfl⟩|((try simp only [OS]);repeat' (first|omega|exact fun _ _=>⟨_,rfl⟩|refine And.intro ?_ ?_))))|(refine rg ?_ ?_)|(with_reducible first|refine stp ?_|refine tD rfl ?_)|refine ct ?_|refine cf ?_|((first|refine gs ?_ ?_|refine gl ?_ ?_|refine gc ?_ ?_)<;>intro h<;>(try simp only [NS] at h)<;>(try exact xf)<;>(try refine rn ?_ ?_)))))
      refine TE.again' (q + 1) ⟨by omega, fun k hk => ?_⟩ (by omega) ?_
      · rcases Nat.lt_or_ge k q with h4 | h4
        · exact h2 k h4
        · obtain rfl : k = q := by omega
          exact he
      · (refine Ent.of rfl rfl (by rfl) ?_;(try (first|exact trivial|((with_reducible refine AllP.go ?_);dsimp only [AllP, appP];repeat' (first|with_reducible rfl|with_reducible exact LeD.refl|refine And.intro ?_ ?_|exact vi|rfl|exact vb|exact LeD.refl)))))
    · rw [show decide (a = b) = false from decide_eq_false fun e => he (by rw [e])]
      ((refine rn ?_ ?_);(repeat' (first|(with_reducible refine AllP.go ?_;(first|exact trivial|exact fun _ _=>⟨_,rfl⟩|((try simp only [OS]);repeat' (first|omega|exact fun _ _=>⟨_,rfl⟩|refine And.intro ?_ ?_))))|(refine rg ?_ ?_)|(with_reducible first|refine stp ?_|refine tD rfl ?_)|refine ct ?_|refine cf ?_|((first|refine gs ?_ ?_|refine gl ?_ ?_|refine gc ?_ ?_)<;>intro h<;>(try simp only [NS] at h)<;>(try exact xf)<;>(try refine rn ?_ ?_)))))
      (refine TE.ret' io rfl tysOk (()) ?_ rfl (by rfl) ?_;all_goals (try (first|exact trivial|((with_reducible refine AllP.go ?_);dsimp only [AllP, appP];repeat' (first|with_reducible rfl|with_reducible exact LeD.refl|refine And.intro ?_ ?_|exact vi|rfl|exact vb|exact LeD.refl)))))
  · obtain rfl : q = a.length := by omega
    rw [show decide (a = b) = true from decide_eq_true (list_ext (d := e0) hl h2)]
    (repeat' (first|(with_reducible refine AllP.go ?_;(first|exact trivial|exact fun _ _=>⟨_,rfl⟩|((try simp only [OS]);repeat' (first|omega|exact fun _ _=>⟨_,rfl⟩|refine And.intro ?_ ?_))))|(refine rg ?_ ?_)|(with_reducible first|refine stp ?_|refine tD rfl ?_)|refine ct ?_|refine cf ?_|((first|refine gs ?_ ?_|refine gl ?_ ?_|refine gc ?_ ?_)<;>intro h<;>(try simp only [NS] at h)<;>(try exact xf)<;>(try refine rn ?_ ?_))))
    (refine TE.ret' io rfl tysOk (()) ?_ rfl (by rfl) ?_;all_goals (try (first|exact trivial|((with_reducible refine AllP.go ?_);dsimp only [AllP, appP];repeat' (first|with_reducible rfl|with_reducible exact LeD.refl|refine And.intro ?_ ?_|exact vi|rfl|exact vb|exact LeD.refl)))))
set_option maxRecDepth 20000 in
set_option maxHeartbeats 8000000 in
theorem psame_c (a b : Di) (ha : okD a) (hb : okD b) : Con Try.prog 71 [.g (diA a), .g (diA b)] [] 0 0 U (fun _ => .o (.sb (decide (a = b)))) G0 := by
  refine con_of Try.func71 rfl (by kernel_rfl) Try.ntmps71 rfl (by first | exact Nat.zero_le _ | decide) (fun _ => ⟨rfl, rfl⟩) fun w S ν => ?_
  have c1 := eqAttrs_c a.attrs b.attrs ha.1.1 hb.1.1
  have c2 := equalS_c a.red b.red ha.2.1.1 hb.2.1.1
  have c3 := sameEns_c a.ents b.ents ha.2.2.1 hb.2.2.1 (fun x h => (ha.2.2.2 x h).2.1) (fun x h => (hb.2.2.2 x h).2.1)
  have he : a = b ↔ a.attrs = b.attrs ∧ a.opq = b.opq ∧ a.red = b.red ∧ a.ents = b.ents := by
    cases a; cases b; simp
  clear ha hb
  (repeat' (first|(with_reducible refine AllP.go ?_;(first|exact trivial|exact fun _ _=>⟨_,rfl⟩|((try simp only [OS]);repeat' (first|omega|exact fun _ _=>⟨_,rfl⟩|refine And.intro ?_ ?_))))|(refine rg ?_ ?_)|(with_reducible first|refine stp ?_|refine tD rfl ?_)|refine ct ?_|refine cf ?_|((first|refine gs ?_ ?_|refine gl ?_ ?_|refine gc ?_ ?_)<;>intro h<;>(try simp only [NS] at h)<;>(try exact xf)<;>(try refine rn ?_ ?_))))
  refine TE.callW (c1) rfl (by rfl) (by rfl) rfl (by rfl) (by (first|exact trivial|((with_reducible refine AllP.go ?_);dsimp only [AllP, appP];repeat' (first|with_reducible rfl|with_reducible exact LeD.refl|refine And.intro ?_ ?_|exact vi|rfl|exact vb|assumption|exact LeD.refl)))) ?_
  intro _ _
  ((refine rn ?_ ?_);(repeat' (first|(with_reducible refine AllP.go ?_;(first|exact trivial|exact fun _ _=>⟨_,rfl⟩|((try simp only [OS]);repeat' (first|omega|exact fun _ _=>⟨_,rfl⟩|refine And.intro ?_ ?_))))|(refine rg ?_ ?_)|(with_reducible first|refine stp ?_|refine tD rfl ?_)|refine ct ?_|refine cf ?_|((first|refine gs ?_ ?_|refine gl ?_ ?_|refine gc ?_ ?_)<;>intro h<;>(try simp only [NS] at h)<;>(try exact xf)<;>(try refine rn ?_ ?_)))))
  · refine TE.callW (c2) rfl (by rfl) (by rfl) rfl (by rfl) (by (first|exact trivial|((with_reducible refine AllP.go ?_);dsimp only [AllP, appP];repeat' (first|with_reducible rfl|with_reducible exact LeD.refl|refine And.intro ?_ ?_|exact vi|rfl|exact vb|assumption|exact LeD.refl)))) ?_
    intro _ _
    ((refine rn ?_ ?_);(repeat' (first|(with_reducible refine AllP.go ?_;(first|exact trivial|exact fun _ _=>⟨_,rfl⟩|((try simp only [OS]);repeat' (first|omega|exact fun _ _=>⟨_,rfl⟩|refine And.intro ?_ ?_))))|(refine rg ?_ ?_)|(with_reducible first|refine stp ?_|refine tD rfl ?_)|refine ct ?_|refine cf ?_|((first|refine gs ?_ ?_|refine gl ?_ ?_|refine gc ?_ ?_)<;>intro h<;>(try simp only [NS] at h)<;>(try exact xf)<;>(try refine rn ?_ ?_)))))
    · refine TE.callW (c3) rfl (by rfl) (by rfl) rfl (by rfl) (by (first|exact trivial|((with_reducible refine AllP.go ?_);dsimp only [AllP, appP];repeat' (first|with_reducible rfl|with_reducible exact LeD.refl|refine And.intro ?_ ?_|exact vi|rfl|exact vb|assumption|exact LeD.refl)))) ?_
      intro _ _
      clear c1 c2 c3
      ((refine rn ?_ ?_);(repeat' (first|(with_reducible refine AllP.go ?_;(first|exact trivial|exact fun _ _=>⟨_,rfl⟩|((try simp only [OS]);repeat' (first|omega|exact fun _ _=>⟨_,rfl⟩|refine And.intro ?_ ?_))))|(refine rg ?_ ?_)|(with_reducible first|refine stp ?_|refine tD rfl ?_)|refine ct ?_|refine cf ?_|((first|refine gs ?_ ?_|refine gl ?_ ?_|refine gc ?_ ?_)<;>intro h<;>(try simp only [NS] at h)<;>(try exact xf)<;>(try refine rn ?_ ?_)))))
      (refine TE.ret' io rfl tysOk (()) ?_ rfl (by rfl) ?_;all_goals (try (first|exact trivial|((with_reducible refine AllP.go ?_);dsimp only [AllP, appP];repeat' (first|with_reducible rfl|with_reducible exact LeD.refl|refine And.intro ?_ ?_|exact vi|rfl|exact vb|exact LeD.refl)))))
      rw [decide_eq_decide, he]; simp_all
    all_goals (refine TE.ret' io rfl tysOk (()) ?_ rfl (by rfl) ?_;all_goals (try (first|exact trivial|((with_reducible refine AllP.go ?_);dsimp only [AllP, appP];repeat' (first|with_reducible rfl|with_reducible exact LeD.refl|refine And.intro ?_ ?_|exact vi|rfl|exact vb|exact LeD.refl)))))
    all_goals (refine congrArg Value.bool (Eq.symm ?_); rw [decide_eq_false_iff_not, he]; intro k; simp_all; done)
  all_goals (refine TE.ret' io rfl tysOk (()) ?_ rfl (by rfl) ?_;all_goals (try (first|exact trivial|((with_reducible refine AllP.go ?_);dsimp only [AllP, appP];repeat' (first|with_reducible rfl|with_reducible exact LeD.refl|refine And.intro ?_ ?_|exact vi|rfl|exact vb|exact LeD.refl)))))
  all_goals (refine congrArg Value.bool (Eq.symm ?_); rw [decide_eq_false_iff_not, he]; intro k; simp_all; done)
end Go.Proofs.Ythhpofehcnjmmaa.Am
set_option linter.unusedSimpArgs false
set_option linter.unusedVariables false
namespace Go.Proofs.Ythhpofehcnjmmaa.Am
open Go.RowKit Lw
open Br
theorem dirE_ok2 {l : List Bn} (hB : Bok l) {n : Nat} (hn : n < l.length) (hk : (l.getD n b0).nd.kind = 1) : dirE l n = (dirI l n, 0) := by
  unfold dirE
  rw [kidsE_dir hB hn hk, if_neg (fun k => k rfl), Int.toNat_natCast]
theorem dirI_okD2 {l : List Bn} (hB : Bok l) (hx : ∀ x ∈ l, okB x) {n : Nat} (hn : n < l.length) : okD (dirI l n) := by
  have h1 := hx _ (getD_mem (d := b0) hn)
  have h2 := kids_24 hB (n := n)
  have hlen : (dirI l n).ents.length = (kidsL l n).length := List.length_map ..
  refine ⟨⟨h1.1.1, h1.1.2.1⟩, h1.2, by omega, fun x hxm => ?_⟩
  obtain ⟨j, hj, rfl⟩ := List.mem_map.1 hxm
  have hjl := (kid_iff.1 hj).1
  have h3 := hx _ (getD_mem (d := b0) hjl)
  refine ⟨h3.1.2.2, ?_⟩
  show okN (entN (l.getD j b0).nd)
  unfold entN
  split
  · exact ⟨by decide, by decide, by decide⟩
  · exact ⟨h3.1.1, h3.1.2.1, show eS.size ≤ 1000000000 by decide⟩
theorem dir_mem2 {l : List Bn} {i : Nat} (h : i < (dirsL l).length) : (dirsL l).getD i 0 < l.length ∧ (l.getD ((dirsL l).getD i 0) b0).nd.kind = 1 := by
  have := idxs_mem.1 (getD_mem (l := dirsL l) (d := 0) h)
  rw [decide_eq_true_eq] at this
  exact this
theorem mk_any {b : List Bn} {l : List Di} (hl : (dirsL b).length = l.length) : ((dirsL b).zip l).any (fun p => decide (dirI b p.1 ≠ p.2)) = true ↔ ∃ q, q < l.length ∧ dirI b ((dirsL b).getD q 0) ≠ l.getD q di0 := by
  rw [List.any_eq_true]
  constructor
  · rintro ⟨p, hp, h⟩
    obtain ⟨q, hq, rfl⟩ := List.getElem_of_mem hp
    rw [List.length_zip] at hq
    refine ⟨q, by omega, ?_⟩
    rw [List.getElem_zip, decide_eq_true_eq] at h
    rw [List.getD_eq_getElem?_getD, List.getElem?_eq_getElem (by omega), List.getD_eq_getElem?_getD, List.getElem?_eq_getElem (by omega)]
    exact h
  · rintro ⟨q, hq, h⟩
    rw [List.getD_eq_getElem?_getD, List.getElem?_eq_getElem (by omega), List.getD_eq_getElem?_getD, List.getElem?_eq_getElem hq] at h
    exact ⟨((dirsL b)[q]'(by omega), l[q]), List.mem_iff_getElem.2 ⟨q, by rw [List.length_zip]; omega, by rw [List.getElem_zip]⟩, decide_eq_true h⟩
theorem put_inv {l : List Di} (hl : l.length ≤ 1000000) (hd : ∀ d ∈ l, okD d) : PuI 1000000 (putI l).1 :=
  putF_inv _ rootB (l, []) ⟨⟨by decide, by decide, by decide⟩, by decide, fun s hs => nomatch hs⟩ ⟨hl, Nat.zero_le _, hd, fun b hb => nomatch hb⟩
set_option maxRecDepth 20000 in
set_option maxHeartbeats 8000000 in
theorem Make_c (l : List Di) (hl : l.length ≤ 1000) (hd : ∀ d ∈ l, okD d) : Con Try.prog 37 [.o (.ro 4 l.length (diC l).cell)] [] 0 0 U (fun _ => .t [.inl (.ro 10 (makeE l).1.length (bnC (makeE l).1).cell), .inl (.c (.int .i64 (makeE l).2))]) G0 := by
  refine con_of Try.func37 rfl (by kernel_rfl) Try.ntmps37 rfl (by first | exact Nat.zero_le _ | decide) (fun _ => ⟨rfl, rfl⟩) fun w S ν => ?_
  have hI := put_inv (l := l) (by omega) hd
  have hput := put_c (l.length + 1) rootB l [] (by omega) ⟨by show l.length ≤ 1000000; omega, Nat.zero_le _, hd, fun b hb => nomatch hb⟩ ⟨⟨by decide, by decide, by decide⟩, by decide, fun s hs => nomatch hs⟩ (by decide) (by decide)
  have hpe : putF (l.length + 1) rootB (l, []) = putI l := rfl
  unfold PutC at hput
  rw [hpe] at hput
  have hM : makeE l = if (putI l).2 ≠ 0 then ([], (putI l).2) else if (putI l).1.1 ≠ [] then ([], 6) else if (checkB (putI l).1.2).2 ≠ 0 then ([], (checkB (putI l).1.2).2) else if ((dirsL (putI l).1.2).zip l).any (fun p => decide (dirI (putI l).1.2 p.1 ≠ p.2)) = true then ([], 6) else ((putI l).1.2, 0) := rfl
  have hpd := put_dirs (ds := l)
  generalize putI l = P at *
  obtain ⟨⟨lft, b⟩, e⟩ := P
  dsimp only at hput hM hI hpd
  obtain ⟨I1, I2, I3, I4⟩ := hI
  dsimp only at I1 I2 I3 I4
  (repeat' (first|(with_reducible refine AllP.go ?_;(first|exact trivial|exact fun _ _=>⟨_,rfl⟩|((try simp only [OS]);repeat' (first|omega|exact fun _ _=>⟨_,rfl⟩|refine And.intro ?_ ?_))))|(refine rg ?_ ?_)|(with_reducible first|refine stp ?_|refine tD rfl ?_)|refine ct ?_|refine cf ?_|((first|refine gs ?_ ?_|refine gl ?_ ?_|refine gc ?_ ?_)<;>intro h<;>(try simp only [NS] at h)<;>(try exact xf)<;>(try refine rn ?_ ?_))))
  refine TE.nilBox 0 0 50 10 (by rfl) (by rfl) ?_
  refine TE.callW (hput) rfl (by rfl) (by rfl) rfl (by rfl) ?_ ?_
  · refine AllP.go ?_
    dsimp only [AllP, appP]
    repeat' (first | with_reducible rfl | with_reducible exact LeD.refl | refine And.intro ?_ ?_ | rfl | exact LeD.refl)
    exact LeDC.nil rfl rfl
  intro _ _
  by_cases c1 : e ≠ 0
  · rw [if_pos c1] at hM
    rw [hM]
    ((refine rn ?_ ?_);(repeat' (first|(with_reducible refine AllP.go ?_;(first|exact trivial|exact fun _ _=>⟨_,rfl⟩|((try simp only [OS]);repeat' (first|omega|exact fun _ _=>⟨_,rfl⟩|refine And.intro ?_ ?_))))|(refine rg ?_ ?_)|(with_reducible first|refine stp ?_|refine tD rfl ?_)|refine ct ?_|refine cf ?_|((first|refine gs ?_ ?_|refine gl ?_ ?_|refine gc ?_ ?_)<;>intro h<;>(try simp only [NS] at h)<;>(try exact xf)<;>(try refine rn ?_ ?_)))))
    (refine TE.ret' io rfl tysOk (()) ?_ rfl (by rfl) ?_;all_goals (try (first|exact trivial|((with_reducible refine AllP.go ?_);dsimp only [AllP, appP];repeat' (first|with_reducible rfl|with_reducible exact LeD.refl|refine And.intro ?_ ?_|exact vi|rfl|exact vb|exact LeD.refl)))))
  rw [if_neg c1] at hM
  have c1 := Decidable.not_not.1 c1
  subst c1
  by_cases c2 : lft ≠ []
  · rw [if_pos c2] at hM
    rw [hM]
    have c2' : 0 < lft.length := List.length_pos_iff.2 c2
    ((refine rn ?_ ?_);(repeat' (first|(with_reducible refine AllP.go ?_;(first|exact trivial|exact fun _ _=>⟨_,rfl⟩|((try simp only [OS]);repeat' (first|omega|exact fun _ _=>⟨_,rfl⟩|refine And.intro ?_ ?_))))|(refine rg ?_ ?_)|(with_reducible first|refine stp ?_|refine tD rfl ?_)|refine ct ?_|refine cf ?_|((first|refine gs ?_ ?_|refine gl ?_ ?_|refine gc ?_ ?_)<;>intro h<;>(try simp only [NS] at h)<;>(try exact xf)<;>(try refine rn ?_ ?_)))))
    (refine TE.ret' io rfl tysOk (()) ?_ rfl (by rfl) ?_;all_goals (try (first|exact trivial|((with_reducible refine AllP.go ?_);dsimp only [AllP, appP];repeat' (first|with_reducible rfl|with_reducible exact LeD.refl|refine And.intro ?_ ?_|exact vi|rfl|exact vb|exact LeD.refl)))))
  rw [if_neg c2] at hM
  have c2 := Decidable.not_not.1 c2
  subst c2
  have hlen := hpd rfl rfl
  have hb : b.length ≤ 1000000 := by omega
  have cd := dirs_c b hb I4
  ((refine rn ?_ ?_);(repeat' (first|(with_reducible refine AllP.go ?_;(first|exact trivial|exact fun _ _=>⟨_,rfl⟩|((try simp only [OS]);repeat' (first|omega|exact fun _ _=>⟨_,rfl⟩|refine And.intro ?_ ?_))))|(refine rg ?_ ?_)|(with_reducible first|refine stp ?_|refine tD rfl ?_)|refine ct ?_|refine cf ?_|((first|refine gs ?_ ?_|refine gl ?_ ?_|refine gc ?_ ?_)<;>intro h<;>(try simp only [NS] at h)<;>(try exact xf)<;>(try refine rn ?_ ?_)))))
  (refine TE.freezeN 4 (by rfl) (by rfl) ?_)
  refine TE.callW (cd) rfl (by rfl) (by rfl) rfl (by rfl) (by (first|exact trivial|((with_reducible refine AllP.go ?_);dsimp only [AllP, appP];repeat' (first|with_reducible rfl|with_reducible exact LeD.refl|refine And.intro ?_ ?_|exact vi|rfl|exact vb|assumption|exact LeD.refl)))) ?_
  intro _ _
  by_cases c3 : (checkB b).2 ≠ 0
  · rw [if_pos c3] at hM
    rw [hM, show dirsE b = ([], (checkB b).2) from if_pos c3]
    ((refine rn ?_ ?_);(repeat' (first|(with_reducible refine AllP.go ?_;(first|exact trivial|exact fun _ _=>⟨_,rfl⟩|((try simp only [OS]);repeat' (first|omega|exact fun _ _=>⟨_,rfl⟩|refine And.intro ?_ ?_))))|(refine rg ?_ ?_)|(with_reducible first|refine stp ?_|refine tD rfl ?_)|refine ct ?_|refine cf ?_|((first|refine gs ?_ ?_|refine gl ?_ ?_|refine gc ?_ ?_)<;>intro h<;>(try simp only [NS] at h)<;>(try exact xf)<;>(try refine rn ?_ ?_)))))
    (refine TE.ret' io rfl tysOk (()) ?_ rfl (by rfl) ?_;all_goals (try (first|exact trivial|((with_reducible refine AllP.go ?_);dsimp only [AllP, appP];repeat' (first|with_reducible rfl|with_reducible exact LeD.refl|refine And.intro ?_ ?_|exact vi|rfl|exact vb|exact LeD.refl)))))
  rw [if_neg c3] at hM
  rw [show dirsE b = (dirsL b, 0) from if_neg c3]
  have hB : Bok b := Decidable.not_not.1 c3
  have hany := mk_any hlen
  ((refine rn ?_ ?_);(repeat' (first|(with_reducible refine AllP.go ?_;(first|exact trivial|exact fun _ _=>⟨_,rfl⟩|((try simp only [OS]);repeat' (first|omega|exact fun _ _=>⟨_,rfl⟩|refine And.intro ?_ ?_))))|(refine rg ?_ ?_)|(with_reducible first|refine stp ?_|refine tD rfl ?_)|refine ct ?_|refine cf ?_|((first|refine gs ?_ ?_|refine gl ?_ ?_|refine gc ?_ ?_)<;>intro h<;>(try simp only [NS] at h)<;>(try exact xf)<;>(try refine rn ?_ ?_)))))
  (refine TE.only [35, 34, 33, 6, 5, 4, 0] (by rfl) ?_)
  refine TE.loopG (fun q : Nat => q ≤ l.length ∧ ∀ k, k < q → dirI b ((dirsL b).getD k 0) = l.getD k di0) (fun q => [(35, .o (.c (.int .i64 q)))]) [] (fun _ => []) (fun q => l.length - q) 0 (by rfl) ⟨Nat.zero_le _, fun k hk => absurd hk (Nat.not_lt_zero _)⟩ ?_ ?_
  · (refine Ent.of rfl rfl (by rfl) ?_;(try (first|exact trivial|((with_reducible refine AllP.go ?_);dsimp only [AllP, appP];repeat' (first|with_reducible rfl|with_reducible exact LeD.refl|refine And.intro ?_ ?_|exact vi|rfl|exact vb|exact LeD.refl)))))
  rintro q ⟨h1, h2⟩
  by_cases hlt : q < l.length
  · obtain ⟨m1, m2⟩ := dir_mem2 (l := b) (i := q) (by omega)
    have d1 := Dir_c b ((dirsL b).getD q 0 : Nat) hb I4
    rw [dirE_ok2 hB m1 m2] at d1
    have d2 := psame_c (dirI b ((dirsL b).getD q 0)) (l.getD q di0) (dirI_okD2 hB I4 m1) (hd _ (getD_mem hlt))
    (repeat' (first|(with_reducible refine AllP.go ?_;(first|exact trivial|exact fun _ _=>⟨_,rfl⟩|((try simp only [OS]);repeat' (first|omega|exact fun _ _=>⟨_,rfl⟩|refine And.intro ?_ ?_))))|(refine rg ?_ ?_)|(with_reducible first|refine stp ?_|refine tD rfl ?_)|refine ct ?_|refine cf ?_|((first|refine gs ?_ ?_|refine gl ?_ ?_|refine gc ?_ ?_)<;>intro h<;>(try simp only [NS] at h)<;>(try exact xf)<;>(try refine rn ?_ ?_))))
    refine TE.callW (d1) rfl (by rfl) (by rfl) rfl (by rfl) (by (first|exact trivial|((with_reducible refine AllP.go ?_);dsimp only [AllP, appP];repeat' (first|with_reducible rfl|with_reducible exact LeD.refl|refine And.intro ?_ ?_|exact vi|rfl|exact vb|assumption|exact LeD.refl)))) ?_
    intro _ _
    ((refine rn ?_ ?_);(repeat' (first|(with_reducible refine AllP.go ?_;(first|exact trivial|exact fun _ _=>⟨_,rfl⟩|((try simp only [OS]);repeat' (first|omega|exact fun _ _=>⟨_,rfl⟩|refine And.intro ?_ ?_))))|(refine rg ?_ ?_)|(with_reducible first|refine stp ?_|refine tD rfl ?_)|refine ct ?_|refine cf ?_|((first|refine gs ?_ ?_|refine gl ?_ ?_|refine gc ?_ ?_)<;>intro h<;>(try simp only [NS] at h)<;>(try exact xf)<;>(try refine rn ?_ ?_)))))
    (refine TE.only [35, 34, 33, 12, 10, 6, 5, 4, 0] (by rfl) ?_)
    ((refine dn ?_);repeat' (first|(with_reducible refine AllP.go ?_;(first|exact trivial|exact fun _ _=>⟨_,rfl⟩|((try simp only [OS]);repeat' (first|omega|exact fun _ _=>⟨_,rfl⟩|refine And.intro ?_ ?_))))|(with_reducible first|exact PanicOk.body|exact rd.panic|refine PanicOk.then' ?_|refine PanicOk.block ?_|refine PanicOk.jump ?_)|(refine TL.done (by rfl) ?_)|(refine TL.auto tysOk rfl ?_ (by rfl) ?_ ?_)|((refine TL.one (by rfl) ?_);first|(refine sm ?_ ?_)|(refine sp ?_ ?_))|(refine sm ?_ ?_)|((first|refine gl ?_ ?_|refine gc ?_ ?_)<;>intro h<;>(try simp only [NS] at h)<;>(try exact xf))))
    (refine TL.one (by rfl) ?_)
    refine StepL.callW (d2) rfl rfl rfl rfl rfl (by rfl) (by (first|exact trivial|((with_reducible refine AllP.go ?_);dsimp only [AllP, appP];repeat' (first|with_reducible rfl|with_reducible exact LeD.refl|refine And.intro ?_ ?_|exact vi|rfl|exact vb|assumption|exact LeD.refl)))) (by rfl) (by rfl) ?_
    intro _ _
    (repeat' (first|(with_reducible refine AllP.go ?_;(first|exact trivial|exact fun _ _=>⟨_,rfl⟩|((try simp only [OS]);repeat' (first|omega|exact fun _ _=>⟨_,rfl⟩|refine And.intro ?_ ?_))))|(with_reducible first|exact PanicOk.body|exact rd.panic|refine PanicOk.then' ?_|refine PanicOk.block ?_|refine PanicOk.jump ?_)|(refine TL.done (by rfl) ?_)|(refine TL.auto tysOk rfl ?_ (by rfl) ?_ ?_)|(refine sm ?_ ?_)|(refine sp ?_ ?_)|(refine TL.one (by rfl) ?_)|(refine TL.two (by rfl) ?_ ?_)|(refine TL.three (by rfl) ?_ ?_ ?_)|(refine TL.four (by rfl) ?_ ?_ ?_ ?_)))
    by_cases he : dirI b ((dirsL b).getD q 0) = l.getD q di0
    · (repeat' (first|(with_reducible refine AllP.go ?_;(first|exact trivial|exact fun _ _=>⟨_,rfl⟩|((try simp only [OS]);repeat' (first|omega|exact fun _ _=>⟨_,rfl⟩|refine And.intro ?_ ?_))))|(refine rg ?_ ?_)|(with_reducible first|refine stp ?_|refine tD rfl ?_)|refine ct ?_|refine cf ?_|((first|refine gs ?_ ?_|refine gl ?_ ?_|refine gc ?_ ?_)<;>intro h<;>(try simp only [NS] at h)<;>(try exact xf)<;>(try refine rn ?_ ?_))))
      refine TE.again' (q + 1) ⟨by omega, fun k hk => ?_⟩ (by omega) ?_
      · rcases Nat.lt_or_ge k q with h4 | h4
        · exact h2 k h4
        · obtain rfl : k = q := by omega
          exact he
      · (refine Ent.of rfl rfl (by rfl) ?_;(try (first|exact trivial|((with_reducible refine AllP.go ?_);dsimp only [AllP, appP];repeat' (first|with_reducible rfl|with_reducible exact LeD.refl|refine And.intro ?_ ?_|exact vi|rfl|exact vb|exact LeD.refl)))))
    · rw [if_pos (hany.2 ⟨q, hlt, he⟩)] at hM
      rw [hM]
      (repeat' (first|(with_reducible refine AllP.go ?_;(first|exact trivial|exact fun _ _=>⟨_,rfl⟩|((try simp only [OS]);repeat' (first|omega|exact fun _ _=>⟨_,rfl⟩|refine And.intro ?_ ?_))))|(refine rg ?_ ?_)|(with_reducible first|refine stp ?_|refine tD rfl ?_)|refine ct ?_|refine cf ?_|((first|refine gs ?_ ?_|refine gl ?_ ?_|refine gc ?_ ?_)<;>intro h<;>(try simp only [NS] at h)<;>(try exact xf)<;>(try refine rn ?_ ?_))))
      (refine TE.ret' io rfl tysOk (()) ?_ rfl (by rfl) ?_;all_goals (try (first|exact trivial|((with_reducible refine AllP.go ?_);dsimp only [AllP, appP];repeat' (first|with_reducible rfl|with_reducible exact LeD.refl|refine And.intro ?_ ?_|exact vi|rfl|exact vb|exact LeD.refl)))))
  · obtain rfl : q = l.length := by omega
    rw [if_neg (fun k => by
      obtain ⟨j, hj, hne⟩ := hany.1 k
      exact hne (h2 j hj))] at hM
    rw [hM]
    (repeat' (first|(with_reducible refine AllP.go ?_;(first|exact trivial|exact fun _ _=>⟨_,rfl⟩|((try simp only [OS]);repeat' (first|omega|exact fun _ _=>⟨_,rfl⟩|refine And.intro ?_ ?_))))|(refine rg ?_ ?_)|(with_reducible first|refine stp ?_|refine tD rfl ?_)|refine ct ?_|refine cf ?_|((first|refine gs ?_ ?_|refine gl ?_ ?_|refine gc ?_ ?_)<;>intro h<;>(try simp only [NS] at h)<;>(try exact xf)<;>(try refine rn ?_ ?_))))
    (refine TE.ret' io rfl tysOk (()) ?_ rfl (by rfl) ?_;all_goals (try (first|exact trivial|((with_reducible refine AllP.go ?_);dsimp only [AllP, appP];repeat' (first|with_reducible rfl|with_reducible exact LeD.refl|refine And.intro ?_ ?_|exact vi|rfl|exact vb|exact LeD.refl)))))
end Go.Proofs.Ythhpofehcnjmmaa.Am
set_option linter.unusedSimpArgs false
set_option linter.unusedVariables false
namespace Go.Proofs.Ythhpofehcnjmmaa.Am
open Go.RowKit Lw
open Br
theorem en_iff2 {x y : En} : x = y ↔ x.name = y.name ∧ x.white = y.white ∧ x.first = y.first ∧ x.names = y.names ∧ [x.node] = [y.node] := by
  cases x; cases y
  simp only [En.mk.injEq, List.cons.injEq, and_true]
  constructor
  · rintro ⟨a, b, c, d, e⟩; exact ⟨a, c, d, e, b⟩
  · rintro ⟨a, c, d, e, b⟩; exact ⟨a, b, c, d, e⟩
theorem list_ext2 {α : Type} {d : α} {a b : List α} (h : a.length = b.length) (hk : ∀ k, k < a.length → a.getD k d = b.getD k d) : a = b := by
  refine List.ext_getElem h fun k h1 h2 => ?_
  have := hk k h1
  rwa [List.getD_eq_getElem?_getD, List.getElem?_eq_getElem h1, List.getD_eq_getElem?_getD, List.getElem?_eq_getElem h2] at this
abbrev enD (x : En) : List A1 := [.c (.string x.name), .c (.int .i64 x.node.depth), .c (.string x.node.name), .c (.int .i64 x.node.kind), .ro 2 x.node.attrs.length (atC x.node.attrs).cell, .c (.string x.node.data), .c (.int .i64 x.node.major), .c (.int .i64 x.node.minor), .c (.int .i64 x.node.cls), .c (.bool x.white), .c (.bool x.first), .c (.int .i64 x.names)]
set_option maxRecDepth 20000 in
set_option maxHeartbeats 8000000 in
theorem rsameDir_c (a b : Di) (ha : okD a) (hb : okD b) : Con Try.prog 39 [.g (diA a), .g (diA b)] [] 0 0 U (fun _ => .o (.sb (decide (a = b)))) G0 := by
  refine con_of Try.func39 rfl (by kernel_rfl) Try.ntmps39 rfl (by first | exact Nat.zero_le _ | decide) (fun _ => ⟨rfl, rfl⟩) fun w S ν => ?_
  have c1 := sameAttrs_c a.attrs b.attrs ha.1.1 hb.1.1
  have c2 := rsame_c a.red b.red ha.2.1.1 hb.2.1.1
  have he : a = b ↔ a.attrs = b.attrs ∧ a.opq = b.opq ∧ a.red = b.red ∧ a.ents = b.ents := by
    cases a; cases b; simp
  have l1 := ha.2.2.1
  have l2 := hb.2.2.1
  have hxa := fun x h => (ha.2.2.2 x h).2.1
  have hxb := fun x h => (hb.2.2.2 x h).2.1
  clear ha hb
  (repeat' (first|(with_reducible refine AllP.go ?_;(first|exact trivial|exact fun _ _=>⟨_,rfl⟩|((try simp only [OS]);repeat' (first|omega|exact fun _ _=>⟨_,rfl⟩|refine And.intro ?_ ?_))))|(refine rg ?_ ?_)|(with_reducible first|refine stp ?_|refine tD rfl ?_)|refine ct ?_|refine cf ?_|((first|refine gs ?_ ?_|refine gl ?_ ?_|refine gc ?_ ?_)<;>intro h<;>(try simp only [NS] at h)<;>(try exact xf)<;>(try refine rn ?_ ?_))))
  refine TE.callW (c1) rfl (by rfl) (by rfl) rfl (by rfl) (by (first|exact trivial|((with_reducible refine AllP.go ?_);dsimp only [AllP, appP];repeat' (first|with_reducible rfl|with_reducible exact LeD.refl|refine And.intro ?_ ?_|exact vi|rfl|exact vb|assumption|exact LeD.refl)))) ?_
  intro _ _
  ((refine rn ?_ ?_);(repeat' (first|(with_reducible refine AllP.go ?_;(first|exact trivial|exact fun _ _=>⟨_,rfl⟩|((try simp only [OS]);repeat' (first|omega|exact fun _ _=>⟨_,rfl⟩|refine And.intro ?_ ?_))))|(refine rg ?_ ?_)|(with_reducible first|refine stp ?_|refine tD rfl ?_)|refine ct ?_|refine cf ?_|((first|refine gs ?_ ?_|refine gl ?_ ?_|refine gc ?_ ?_)<;>intro h<;>(try simp only [NS] at h)<;>(try exact xf)<;>(try refine rn ?_ ?_)))))
  · (refine TE.ret' io rfl tysOk (()) ?_ rfl (by rfl) ?_;all_goals (try (first|exact trivial|((with_reducible refine AllP.go ?_);dsimp only [AllP, appP];repeat' (first|with_reducible rfl|with_reducible exact LeD.refl|refine And.intro ?_ ?_|exact vi|rfl|exact vb|exact LeD.refl)))))
    refine congrArg Value.bool (Eq.symm ?_); rw [decide_eq_false_iff_not, he]; intro k; simp_all; done
  · (refine TE.ret' io rfl tysOk (()) ?_ rfl (by rfl) ?_;all_goals (try (first|exact trivial|((with_reducible refine AllP.go ?_);dsimp only [AllP, appP];repeat' (first|with_reducible rfl|with_reducible exact LeD.refl|refine And.intro ?_ ?_|exact vi|rfl|exact vb|exact LeD.refl)))))
    refine congrArg Value.bool (Eq.symm ?_); rw [decide_eq_false_iff_not, he]; intro k; simp_all; done
  refine TE.callW (c2) rfl (by rfl) (by rfl) rfl (by rfl) (by (first|exact trivial|((with_reducible refine AllP.go ?_);dsimp only [AllP, appP];repeat' (first|with_reducible rfl|with_reducible exact LeD.refl|refine And.intro ?_ ?_|exact vi|rfl|exact vb|assumption|exact LeD.refl)))) ?_
  intro _ _
  ((refine rn ?_ ?_);(repeat' (first|(with_reducible refine AllP.go ?_;(first|exact trivial|exact fun _ _=>⟨_,rfl⟩|((try simp only [OS]);repeat' (first|omega|exact fun _ _=>⟨_,rfl⟩|refine And.intro ?_ ?_))))|(refine rg ?_ ?_)|(with_reducible first|refine stp ?_|refine tD rfl ?_)|refine ct ?_|refine cf ?_|((first|refine gs ?_ ?_|refine gl ?_ ?_|refine gc ?_ ?_)<;>intro h<;>(try simp only [NS] at h)<;>(try exact xf)<;>(try refine rn ?_ ?_)))))
  · (refine TE.ret' io rfl tysOk (()) ?_ rfl (by rfl) ?_;all_goals (try (first|exact trivial|((with_reducible refine AllP.go ?_);dsimp only [AllP, appP];repeat' (first|with_reducible rfl|with_reducible exact LeD.refl|refine And.intro ?_ ?_|exact vi|rfl|exact vb|exact LeD.refl)))))
    refine congrArg Value.bool (Eq.symm ?_); rw [decide_eq_false_iff_not, he]; intro k; simp_all; done
  · (refine TE.ret' io rfl tysOk (()) ?_ rfl (by rfl) ?_;all_goals (try (first|exact trivial|((with_reducible refine AllP.go ?_);dsimp only [AllP, appP];repeat' (first|with_reducible rfl|with_reducible exact LeD.refl|refine And.intro ?_ ?_|exact vi|rfl|exact vb|exact LeD.refl)))))
    refine congrArg Value.bool (Eq.symm (decide_eq_false fun e => ?_))
    rw [he] at e
    have := congrArg List.length e.2.2.2
    omega
  rename_i o1 o2 o3 o4
  have hab : a = b ↔ a.ents = b.ents := by rw [he]; simp_all
  clear c1 c2
  (refine TE.only [5, 4, 3, 2] (by rfl) ?_)
  refine TE.loopG (fun q : Nat => q ≤ a.ents.length ∧ ∀ k, k < q → a.ents.getD k e0 = b.ents.getD k e0) (fun q => [(5, .o (.c (.int .i64 q)))]) [] (fun _ => []) (fun q => a.ents.length - q) 0 (by rfl) ⟨Nat.zero_le _, fun k hk => absurd hk (Nat.not_lt_zero _)⟩ ?_ ?_
  · (refine Ent.of rfl rfl (by rfl) ?_;(try (first|exact trivial|((with_reducible refine AllP.go ?_);dsimp only [AllP, appP];repeat' (first|with_reducible rfl|with_reducible exact LeD.refl|refine And.intro ?_ ?_|exact vi|rfl|exact vb|exact LeD.refl)))))
  rintro q ⟨h1, h2⟩
  by_cases hlt : q < a.ents.length
  · have hx1 := hxa _ (getD_mem (d := e0) hlt)
    have hy1 := hxb _ (getD_mem (l := b.ents) (d := e0) (k := q) (by omega))
    have hne : ¬ a.ents.getD q e0 = b.ents.getD q e0 → decide (a = b) = false := fun k => decide_eq_false fun e => k (by rw [e])
    have hen := en_iff2 (x := a.ents.getD q e0) (y := b.ents.getD q e0)
    have c := sameList_c [(a.ents.getD q e0).node] [(b.ents.getD q e0).node] (show 1 ≤ 1000000 by decide) (show 1 ≤ 1000000 by decide) (fun z hz => by rw [List.mem_singleton.1 hz]; exact hx1) (fun z hz => by rw [List.mem_singleton.1 hz]; exact hy1)
    have hnx : a.ents.getD q e0 = b.ents.getD q e0 → ∀ k, k < q + 1 → a.ents.getD k e0 = b.ents.getD k e0 := fun e k hk => by
      rcases Nat.lt_or_ge k q with h4 | h4
      · exact h2 k h4
      · obtain rfl : k = q := by omega
        exact e
    (repeat' (first|(with_reducible refine AllP.go ?_;(first|exact trivial|exact fun _ _=>⟨_,rfl⟩|((try simp only [OS]);repeat' (first|omega|exact fun _ _=>⟨_,rfl⟩|refine And.intro ?_ ?_))))|(refine rg ?_ ?_)|(with_reducible first|refine stp ?_|refine tD rfl ?_)|refine ct ?_|refine cf ?_|((first|refine gs ?_ ?_|refine gl ?_ ?_|refine gc ?_ ?_)<;>intro h<;>(try simp only [NS] at h)<;>(try exact xf)<;>(try refine rn ?_ ?_))))
    (refine TE.only [5, 3, 2] (by rfl) ?_)
    (refine TE.mid (ι := Unit) (fun _ => True) (fun _ => ⟨[(2, .o (.ptr 0 0)), (3, .o (.ptr 1 0)), (5, .o (.c (.int .i64 q))), (6, .o (.ptr 2 0)), (7, .o (.ptr 3 0))], [.box 2 72 (enD (a.ents.getD q e0)), .box 3 72 (enD (b.ents.getD q e0)), .box 0 53 (diA a), .box 1 53 (diA b)], 4⟩) ?_ fun _ _ => ?_)
    · (refine TE.drawK (fun _ => false) (by rfl) (by rfl) (by rfl) ?_)
      (repeat' (first|(with_reducible refine AllP.go ?_;(first|exact trivial|exact fun _ _=>⟨_,rfl⟩|((try simp only [OS]);repeat' (first|omega|exact fun _ _=>⟨_,rfl⟩|refine And.intro ?_ ?_))))|(with_reducible first|exact PanicOk.body|exact rd.panic|refine PanicOk.then' ?_|refine PanicOk.block ?_|refine PanicOk.jump ?_)|(refine TL.done (by rfl) ?_)|(refine TL.auto tysOk rfl ?_ (by rfl) ?_ ?_)|(refine sm ?_ ?_)|(refine sp ?_ ?_)|(refine TL.one (by rfl) ?_)|(refine TL.two (by rfl) ?_ ?_)|(refine TL.three (by rfl) ?_ ?_ ?_)|(refine TL.four (by rfl) ?_ ?_ ?_ ?_)))
      all_goals (repeat (with_reducible first|refine stp ?_|refine tD rfl ?_))
      all_goals (refine TE.at () trivial ?_;(refine Ent.of rfl rfl (by rfl) ?_;(try (first|exact trivial|((with_reducible refine AllP.go ?_);dsimp only [AllP, appP];repeat' (first|with_reducible rfl|with_reducible exact LeD.refl|refine And.intro ?_ ?_|exact vi|rfl|exact vb|exact LeD.refl))))))
    generalize a.ents.getD q e0 = x at *
    generalize b.ents.getD q e0 = y at *
    clear he hab h2 hxa hxb o1 o4 hx1 hy1
    (repeat (with_reducible first|refine stp ?_|refine tD rfl ?_))
    (repeat' (first|(with_reducible refine AllP.go ?_;(first|exact trivial|exact fun _ _=>⟨_,rfl⟩|((try simp only [OS]);repeat' (first|omega|exact fun _ _=>⟨_,rfl⟩|refine And.intro ?_ ?_))))|(refine rg ?_ ?_)|(with_reducible first|refine stp ?_|refine tD rfl ?_)|refine ct ?_|refine cf ?_|((first|refine gs ?_ ?_|refine gl ?_ ?_|refine gc ?_ ?_)<;>intro h<;>(try simp only [NS] at h)<;>(try exact xf)<;>(try refine rn ?_ ?_))))
    iterate 4
      · rw [hne (by rw [hen]; intro k; simp_all)]
        (refine TE.ret' io rfl tysOk (()) ?_ rfl (by rfl) ?_;all_goals (try (first|exact trivial|((with_reducible refine AllP.go ?_);dsimp only [AllP, appP];repeat' (first|with_reducible rfl|with_reducible exact LeD.refl|refine And.intro ?_ ?_|exact vi|rfl|exact vb|exact LeD.refl)))))
    (refine TE.freezeN 4 (by rfl) (by rfl) ?_)
    (refine TE.freezeN 5 (by rfl) (by rfl) ?_)
    refine TE.callW (c) rfl (by rfl) (by rfl) rfl (by rfl) ?_ ?_
    · refine AllP.go ?_
      refine And.intro rfl ?_
      refine And.intro ?_ ?_
      all_goals exact LeD.lit rfl ⟨fun j hj => LeX.of_eq (nd_row _ j hj), trivial⟩
    intro _ _
    clear c
    by_cases hxy : [x.node] = [y.node]
    · have e : x = y := by rw [hen]; simp_all
      ((refine rn ?_ ?_);(repeat' (first|(with_reducible refine AllP.go ?_;(first|exact trivial|exact fun _ _=>⟨_,rfl⟩|((try simp only [OS]);repeat' (first|omega|exact fun _ _=>⟨_,rfl⟩|refine And.intro ?_ ?_))))|(refine rg ?_ ?_)|(with_reducible first|refine stp ?_|refine tD rfl ?_)|refine ct ?_|refine cf ?_|((first|refine gs ?_ ?_|refine gl ?_ ?_|refine gc ?_ ?_)<;>intro h<;>(try simp only [NS] at h)<;>(try exact xf)<;>(try refine rn ?_ ?_)))))
      refine TE.again' (q + 1) ⟨by omega, hnx e⟩ (by omega) ?_
      (refine Ent.of rfl rfl (by rfl) ?_;(try (first|exact trivial|((with_reducible refine AllP.go ?_);dsimp only [AllP, appP];repeat' (first|with_reducible rfl|with_reducible exact LeD.refl|refine And.intro ?_ ?_|exact vi|rfl|exact vb|exact LeD.refl)))))
    · rw [hne (by rw [hen]; intro k; simp_all)]
      ((refine rn ?_ ?_);(repeat' (first|(with_reducible refine AllP.go ?_;(first|exact trivial|exact fun _ _=>⟨_,rfl⟩|((try simp only [OS]);repeat' (first|omega|exact fun _ _=>⟨_,rfl⟩|refine And.intro ?_ ?_))))|(refine rg ?_ ?_)|(with_reducible first|refine stp ?_|refine tD rfl ?_)|refine ct ?_|refine cf ?_|((first|refine gs ?_ ?_|refine gl ?_ ?_|refine gc ?_ ?_)<;>intro h<;>(try simp only [NS] at h)<;>(try exact xf)<;>(try refine rn ?_ ?_)))))
      (refine TE.ret' io rfl tysOk (()) ?_ rfl (by rfl) ?_;all_goals (try (first|exact trivial|((with_reducible refine AllP.go ?_);dsimp only [AllP, appP];repeat' (first|with_reducible rfl|with_reducible exact LeD.refl|refine And.intro ?_ ?_|exact vi|rfl|exact vb|exact LeD.refl)))))
  · obtain rfl : q = a.ents.length := by omega
    rw [show decide (a = b) = true from decide_eq_true (hab.2 (list_ext2 (d := e0) (by omega) h2))]
    (repeat' (first|(with_reducible refine AllP.go ?_;(first|exact trivial|exact fun _ _=>⟨_,rfl⟩|((try simp only [OS]);repeat' (first|omega|exact fun _ _=>⟨_,rfl⟩|refine And.intro ?_ ?_))))|(refine rg ?_ ?_)|(with_reducible first|refine stp ?_|refine tD rfl ?_)|refine ct ?_|refine cf ?_|((first|refine gs ?_ ?_|refine gl ?_ ?_|refine gc ?_ ?_)<;>intro h<;>(try simp only [NS] at h)<;>(try exact xf)<;>(try refine rn ?_ ?_))))
    (refine TE.ret' io rfl tysOk (()) ?_ rfl (by rfl) ?_;all_goals (try (first|exact trivial|((with_reducible refine AllP.go ?_);dsimp only [AllP, appP];repeat' (first|with_reducible rfl|with_reducible exact LeD.refl|refine And.intro ?_ ?_|exact vi|rfl|exact vb|exact LeD.refl)))))
set_option maxRecDepth 20000 in
set_option maxHeartbeats 8000000 in
theorem rsameB_c (a b : List Bn) (ha : a.length ≤ 1000000) (hb : b.length ≤ 1000000) (hxa : ∀ x ∈ a, okB x) (hxb : ∀ x ∈ b, okB x) : Con Try.prog 40 [.o (.ro 10 a.length (bnC a).cell), .o (.ro 10 b.length (bnC b).cell)] [] 0 0 U (fun _ => .o (.sb (decide (a = b)))) G0 := by
  refine con_of Try.func40 rfl (by kernel_rfl) Try.ntmps40 rfl (by first | exact Nat.zero_le _ | decide) (fun _ => ⟨rfl, rfl⟩) fun w S ν => ?_
  have ta := rtree_c a ha fun x h => (hxa x h).1.1
  have tb := rtree_c b hb fun x h => (hxb x h).1.1
  have la : (nds a).length = a.length := List.length_map ..
  have lb : (nds b).length = b.length := List.length_map ..
  have c := sameList_c (nds a) (nds b) (by omega) (by omega) (fun x h => by obtain ⟨y, hy, rfl⟩ := List.mem_map.1 h; exact (hxa y hy).1.1) (fun x h => by obtain ⟨y, hy, rfl⟩ := List.mem_map.1 h; exact (hxb y hy).1.1)
  (repeat' (first|(with_reducible refine AllP.go ?_;(first|exact trivial|exact fun _ _=>⟨_,rfl⟩|((try simp only [OS]);repeat' (first|omega|exact fun _ _=>⟨_,rfl⟩|refine And.intro ?_ ?_))))|(refine rg ?_ ?_)|(with_reducible first|refine stp ?_|refine tD rfl ?_)|refine ct ?_|refine cf ?_|((first|refine gs ?_ ?_|refine gl ?_ ?_|refine gc ?_ ?_)<;>intro h<;>(try simp only [NS] at h)<;>(try exact xf)<;>(try refine rn ?_ ?_))))
  refine TE.callW (ta) rfl (by rfl) (by rfl) rfl (by rfl) (by (first|exact trivial|((with_reducible refine AllP.go ?_);dsimp only [AllP, appP];repeat' (first|with_reducible rfl|with_reducible exact LeD.refl|refine And.intro ?_ ?_|exact vi|rfl|exact vb|assumption|exact LeD.refl)))) ?_
  intro _ _
  ((refine rn ?_ ?_);(repeat' (first|(with_reducible refine AllP.go ?_;(first|exact trivial|exact fun _ _=>⟨_,rfl⟩|((try simp only [OS]);repeat' (first|omega|exact fun _ _=>⟨_,rfl⟩|refine And.intro ?_ ?_))))|(refine rg ?_ ?_)|(with_reducible first|refine stp ?_|refine tD rfl ?_)|refine ct ?_|refine cf ?_|((first|refine gs ?_ ?_|refine gl ?_ ?_|refine gc ?_ ?_)<;>intro h<;>(try simp only [NS] at h)<;>(try exact xf)<;>(try refine rn ?_ ?_)))))
  refine TE.callW (tb) rfl (by rfl) (by rfl) rfl (by rfl) (by (first|exact trivial|((with_reducible refine AllP.go ?_);dsimp only [AllP, appP];repeat' (first|with_reducible rfl|with_reducible exact LeD.refl|refine And.intro ?_ ?_|exact vi|rfl|exact vb|assumption|exact LeD.refl)))) ?_
  intro _ _
  ((refine rn ?_ ?_);(repeat' (first|(with_reducible refine AllP.go ?_;(first|exact trivial|exact fun _ _=>⟨_,rfl⟩|((try simp only [OS]);repeat' (first|omega|exact fun _ _=>⟨_,rfl⟩|refine And.intro ?_ ?_))))|(refine rg ?_ ?_)|(with_reducible first|refine stp ?_|refine tD rfl ?_)|refine ct ?_|refine cf ?_|((first|refine gs ?_ ?_|refine gl ?_ ?_|refine gc ?_ ?_)<;>intro h<;>(try simp only [NS] at h)<;>(try exact xf)<;>(try refine rn ?_ ?_)))))
  refine TE.callW (c) rfl (by rfl) (by rfl) rfl (by rfl) (by (first|exact trivial|((with_reducible refine AllP.go ?_);dsimp only [AllP, appP];repeat' (first|with_reducible rfl|with_reducible exact LeD.refl|refine And.intro ?_ ?_|exact vi|rfl|exact vb|assumption|exact LeD.refl)))) ?_
  intro _ _
  by_cases hn : nds a = nds b
  case neg =>
    rw [show decide (a = b) = false from decide_eq_false fun e => hn (by rw [e])]
    ((refine rn ?_ ?_);(repeat' (first|(with_reducible refine AllP.go ?_;(first|exact trivial|exact fun _ _=>⟨_,rfl⟩|((try simp only [OS]);repeat' (first|omega|exact fun _ _=>⟨_,rfl⟩|refine And.intro ?_ ?_))))|(refine rg ?_ ?_)|(with_reducible first|refine stp ?_|refine tD rfl ?_)|refine ct ?_|refine cf ?_|((first|refine gs ?_ ?_|refine gl ?_ ?_|refine gc ?_ ?_)<;>intro h<;>(try simp only [NS] at h)<;>(try exact xf)<;>(try refine rn ?_ ?_)))))
    (refine TE.ret' io rfl tysOk (()) ?_ rfl (by rfl) ?_;all_goals (try (first|exact trivial|((with_reducible refine AllP.go ?_);dsimp only [AllP, appP];repeat' (first|with_reducible rfl|with_reducible exact LeD.refl|refine And.intro ?_ ?_|exact vi|rfl|exact vb|exact LeD.refl)))))
  have hl : a.length = b.length := by rw [← la, ← lb, hn]
  have hnd : ∀ k, (a.getD k b0).nd = (b.getD k b0).nd := fun k => by rw [← nds_getD, ← nds_getD, hn]
  clear ta tb c
  ((refine rn ?_ ?_);(repeat' (first|(with_reducible refine AllP.go ?_;(first|exact trivial|exact fun _ _=>⟨_,rfl⟩|((try simp only [OS]);repeat' (first|omega|exact fun _ _=>⟨_,rfl⟩|refine And.intro ?_ ?_))))|(refine rg ?_ ?_)|(with_reducible first|refine stp ?_|refine tD rfl ?_)|refine ct ?_|refine cf ?_|((first|refine gs ?_ ?_|refine gl ?_ ?_|refine gc ?_ ?_)<;>intro h<;>(try simp only [NS] at h)<;>(try exact xf)<;>(try refine rn ?_ ?_)))))
  (refine TE.only [5, 1, 0] (by rfl) ?_)
  refine TE.loopG (fun q : Nat => q ≤ a.length ∧ ∀ k, k < q → a.getD k b0 = b.getD k b0) (fun q => [(5, .o (.c (.int .i64 q)))]) [] (fun _ => []) (fun q => a.length - q) 0 (by rfl) ⟨Nat.zero_le _, fun k hk => absurd hk (Nat.not_lt_zero _)⟩ ?_ ?_
  · (refine Ent.of rfl rfl (by rfl) ?_;(try (first|exact trivial|((with_reducible refine AllP.go ?_);dsimp only [AllP, appP];repeat' (first|with_reducible rfl|with_reducible exact LeD.refl|refine And.intro ?_ ?_|exact vi|rfl|exact vb|exact LeD.refl)))))
  rintro q ⟨h1, h2⟩
  by_cases hlt : q < a.length
  · have c := rsame_c (a.getD q b0).red (b.getD q b0).red (hxa _ (getD_mem hlt)).2.1 (hxb _ (getD_mem (by omega))).2.1
    have hq := hnd q
    have he : a.getD q b0 = b.getD q b0 ↔ (a.getD q b0).opq = (b.getD q b0).opq ∧ (a.getD q b0).red = (b.getD q b0).red := by
      generalize a.getD q b0 = x at *
      generalize b.getD q b0 = y at *
      cases x; cases y
      simp_all
    (repeat' (first|(with_reducible refine AllP.go ?_;(first|exact trivial|exact fun _ _=>⟨_,rfl⟩|((try simp only [OS]);repeat' (first|omega|exact fun _ _=>⟨_,rfl⟩|refine And.intro ?_ ?_))))|(refine rg ?_ ?_)|(with_reducible first|refine stp ?_|refine tD rfl ?_)|refine ct ?_|refine cf ?_|((first|refine gs ?_ ?_|refine gl ?_ ?_|refine gc ?_ ?_)<;>intro h<;>(try simp only [NS] at h)<;>(try exact xf)<;>(try refine rn ?_ ?_))))
    ((refine dn ?_);repeat' (first|(with_reducible refine AllP.go ?_;(first|exact trivial|exact fun _ _=>⟨_,rfl⟩|((try simp only [OS]);repeat' (first|omega|exact fun _ _=>⟨_,rfl⟩|refine And.intro ?_ ?_))))|(with_reducible first|exact PanicOk.body|exact rd.panic|refine PanicOk.then' ?_|refine PanicOk.block ?_|refine PanicOk.jump ?_)|(refine TL.done (by rfl) ?_)|(refine TL.auto tysOk rfl ?_ (by rfl) ?_ ?_)|((refine TL.one (by rfl) ?_);first|(refine sm ?_ ?_)|(refine sp ?_ ?_))|(refine sm ?_ ?_)|((first|refine gl ?_ ?_|refine gc ?_ ?_)<;>intro h<;>(try simp only [NS] at h)<;>(try exact xf))))
    · rw [show decide (a = b) = false from decide_eq_false fun e => by rw [e] at h; simp at h]
      (repeat' (first|(with_reducible refine AllP.go ?_;(first|exact trivial|exact fun _ _=>⟨_,rfl⟩|((try simp only [OS]);repeat' (first|omega|exact fun _ _=>⟨_,rfl⟩|refine And.intro ?_ ?_))))|(refine rg ?_ ?_)|(with_reducible first|refine stp ?_|refine tD rfl ?_)|refine ct ?_|refine cf ?_|((first|refine gs ?_ ?_|refine gl ?_ ?_|refine gc ?_ ?_)<;>intro h<;>(try simp only [NS] at h)<;>(try exact xf)<;>(try refine rn ?_ ?_))))
      (refine TE.ret' io rfl tysOk (()) ?_ rfl (by rfl) ?_;all_goals (try (first|exact trivial|((with_reducible refine AllP.go ?_);dsimp only [AllP, appP];repeat' (first|with_reducible rfl|with_reducible exact LeD.refl|refine And.intro ?_ ?_|exact vi|rfl|exact vb|exact LeD.refl)))))
    (refine TL.one (by rfl) ?_)
    refine StepL.callW (c) rfl rfl rfl rfl rfl (by rfl) (by (first|exact trivial|((with_reducible refine AllP.go ?_);dsimp only [AllP, appP];repeat' (first|with_reducible rfl|with_reducible exact LeD.refl|refine And.intro ?_ ?_|exact vi|rfl|exact vb|assumption|exact LeD.refl)))) (by rfl) (by rfl) ?_
    intro _ _
    (repeat' (first|(with_reducible refine AllP.go ?_;(first|exact trivial|exact fun _ _=>⟨_,rfl⟩|((try simp only [OS]);repeat' (first|omega|exact fun _ _=>⟨_,rfl⟩|refine And.intro ?_ ?_))))|(with_reducible first|exact PanicOk.body|exact rd.panic|refine PanicOk.then' ?_|refine PanicOk.block ?_|refine PanicOk.jump ?_)|(refine TL.done (by rfl) ?_)|(refine TL.auto tysOk rfl ?_ (by rfl) ?_ ?_)|(refine sm ?_ ?_)|(refine sp ?_ ?_)|(refine TL.one (by rfl) ?_)|(refine TL.two (by rfl) ?_ ?_)|(refine TL.three (by rfl) ?_ ?_ ?_)|(refine TL.four (by rfl) ?_ ?_ ?_ ?_)))
    by_cases hr : (a.getD q b0).red = (b.getD q b0).red
    · have ho : (a.getD q b0).opq = (b.getD q b0).opq := by simpa using h
      (repeat' (first|(with_reducible refine AllP.go ?_;(first|exact trivial|exact fun _ _=>⟨_,rfl⟩|((try simp only [OS]);repeat' (first|omega|exact fun _ _=>⟨_,rfl⟩|refine And.intro ?_ ?_))))|(refine rg ?_ ?_)|(with_reducible first|refine stp ?_|refine tD rfl ?_)|refine ct ?_|refine cf ?_|((first|refine gs ?_ ?_|refine gl ?_ ?_|refine gc ?_ ?_)<;>intro h<;>(try simp only [NS] at h)<;>(try exact xf)<;>(try refine rn ?_ ?_))))
      refine TE.again' (q + 1) ⟨by omega, fun k hk => ?_⟩ (by omega) ?_
      · rcases Nat.lt_or_ge k q with h4 | h4
        · exact h2 k h4
        · obtain rfl : k = q := by omega
          exact he.2 ⟨ho, hr⟩
      · (refine Ent.of rfl rfl (by rfl) ?_;(try (first|exact trivial|((with_reducible refine AllP.go ?_);dsimp only [AllP, appP];repeat' (first|with_reducible rfl|with_reducible exact LeD.refl|refine And.intro ?_ ?_|exact vi|rfl|exact vb|exact LeD.refl)))))
    · rw [show decide (a = b) = false from decide_eq_false fun e => hr (by rw [e])]
      (repeat' (first|(with_reducible refine AllP.go ?_;(first|exact trivial|exact fun _ _=>⟨_,rfl⟩|((try simp only [OS]);repeat' (first|omega|exact fun _ _=>⟨_,rfl⟩|refine And.intro ?_ ?_))))|(refine rg ?_ ?_)|(with_reducible first|refine stp ?_|refine tD rfl ?_)|refine ct ?_|refine cf ?_|((first|refine gs ?_ ?_|refine gl ?_ ?_|refine gc ?_ ?_)<;>intro h<;>(try simp only [NS] at h)<;>(try exact xf)<;>(try refine rn ?_ ?_))))
      (refine TE.ret' io rfl tysOk (()) ?_ rfl (by rfl) ?_;all_goals (try (first|exact trivial|((with_reducible refine AllP.go ?_);dsimp only [AllP, appP];repeat' (first|with_reducible rfl|with_reducible exact LeD.refl|refine And.intro ?_ ?_|exact vi|rfl|exact vb|exact LeD.refl)))))
  · obtain rfl : q = a.length := by omega
    rw [show decide (a = b) = true from decide_eq_true (list_ext2 (d := b0) hl h2)]
    (repeat' (first|(with_reducible refine AllP.go ?_;(first|exact trivial|exact fun _ _=>⟨_,rfl⟩|((try simp only [OS]);repeat' (first|omega|exact fun _ _=>⟨_,rfl⟩|refine And.intro ?_ ?_))))|(refine rg ?_ ?_)|(with_reducible first|refine stp ?_|refine tD rfl ?_)|refine ct ?_|refine cf ?_|((first|refine gs ?_ ?_|refine gl ?_ ?_|refine gc ?_ ?_)<;>intro h<;>(try simp only [NS] at h)<;>(try exact xf)<;>(try refine rn ?_ ?_))))
    (refine TE.ret' io rfl tysOk (()) ?_ rfl (by rfl) ?_;all_goals (try (first|exact trivial|((with_reducible refine AllP.go ?_);dsimp only [AllP, appP];repeat' (first|with_reducible rfl|with_reducible exact LeD.refl|refine And.intro ?_ ?_|exact vi|rfl|exact vb|exact LeD.refl)))))
end Go.Proofs.Ythhpofehcnjmmaa.Am
set_option linter.unusedSimpArgs false
set_option linter.unusedVariables false
namespace Go.Proofs.Ythhpofehcnjmmaa.Am
open Go.RowKit Lw
open Br
theorem di_row2 (d : Di) : ∀ j, j < 4 → nthD [.sl 2 d.attrs.length (atC d.attrs).cell, .c (.bool d.opq), .sl 1 d.red.length (paC d.red).cell, .sl 12 d.ents.length (enC d.ents).cell] j = diR d j
  | 0, _ => rfl
  | 1, _ => rfl
  | 2, _ => rfl
  | 3, _ => rfl
  | j + 4, h => absurd h (by omega)
theorem make_nil {ds : List Di} (h : (makeE ds).2 ≠ 0) : (makeE ds).1 = [] := by
  unfold makeE at h ⊢
  split
  · rfl
  split
  · rfl
  split
  · rfl
  split
  · rfl
  · rename_i a b c d
    rw [if_neg a, if_neg b, if_neg c, if_neg d] at h
    exact absurd rfl h
theorem make_ok {ds : List Di} (hl : ds.length ≤ 1000000) (hd : ∀ d ∈ ds, okD d) : (makeE ds).1.length ≤ 120 ∧ ∀ x ∈ (makeE ds).1, okB x := by
  have hI := put_inv hl hd
  have h0 : ([] : List Bn).length ≤ 120 ∧ ∀ x ∈ ([] : List Bn), okB x := ⟨Nat.zero_le _, fun x h => nomatch h⟩
  unfold makeE
  split
  · exact h0
  split
  · exact h0
  split
  · exact h0
  split
  · exact h0
  · exact ⟨hI.2.1, hI.2.2.2⟩
set_option maxRecDepth 20000 in
set_option maxHeartbeats 16000000 in
theorem Makes_c (l : List Bn) (ds : List Di) : Con Try.prog 10 [.o (.ro 10 l.length (bnC l).cell), .o (.ro 4 ds.length (diC ds).cell)] [] 0 0 U (fun _ => .o (.c (.bool true))) G0 := by
  refine con_of Try.func10 rfl (by kernel_rfl) Try.ntmps10 rfl (by first | exact Nat.zero_le _ | decide) (fun _ => ⟨rfl, rfl⟩) fun w S ν => ?_
  (repeat' (first|(with_reducible refine AllP.go ?_;(first|exact trivial|exact fun _ _=>⟨_,rfl⟩|((try simp only [OS]);repeat' (first|omega|exact fun _ _=>⟨_,rfl⟩|refine And.intro ?_ ?_))))|(refine rg ?_ ?_)|(with_reducible first|refine stp ?_|refine tD rfl ?_)|refine ct ?_|refine cf ?_|((first|refine gs ?_ ?_|refine gl ?_ ?_|refine gc ?_ ?_)<;>intro h<;>(try simp only [NS] at h)<;>(try exact xf)<;>(try refine rn ?_ ?_))))
  refine TE.callW (large_c l) rfl (by rfl) (by rfl) rfl (by rfl) (by (first|exact trivial|((with_reducible refine AllP.go ?_);dsimp only [AllP, appP];repeat' (first|with_reducible rfl|with_reducible exact LeD.refl|refine And.intro ?_ ?_|exact vi|rfl|exact vb|assumption|exact LeD.refl)))) ?_
  intro r hr
  cases r
  case true =>
    ((refine rn ?_ ?_);(repeat' (first|(with_reducible refine AllP.go ?_;(first|exact trivial|exact fun _ _=>⟨_,rfl⟩|((try simp only [OS]);repeat' (first|omega|exact fun _ _=>⟨_,rfl⟩|refine And.intro ?_ ?_))))|(refine rg ?_ ?_)|(with_reducible first|refine stp ?_|refine tD rfl ?_)|refine ct ?_|refine cf ?_|((first|refine gs ?_ ?_|refine gl ?_ ?_|refine gc ?_ ?_)<;>intro h<;>(try simp only [NS] at h)<;>(try exact xf)<;>(try refine rn ?_ ?_)))))
    refine TE.callW (shown_c) rfl (by rfl) (by rfl) rfl (by rfl) (by (first|exact trivial|((with_reducible refine AllP.go ?_);dsimp only [AllP, appP];repeat' (first|with_reducible rfl|with_reducible exact LeD.refl|refine And.intro ?_ ?_|exact vi|rfl|exact vb|assumption|exact LeD.refl)))) ?_
    intro _ _
    ((refine rn ?_ ?_);(repeat' (first|(with_reducible refine AllP.go ?_;(first|exact trivial|exact fun _ _=>⟨_,rfl⟩|((try simp only [OS]);repeat' (first|omega|exact fun _ _=>⟨_,rfl⟩|refine And.intro ?_ ?_))))|(refine rg ?_ ?_)|(with_reducible first|refine stp ?_|refine tD rfl ?_)|refine ct ?_|refine cf ?_|((first|refine gs ?_ ?_|refine gl ?_ ?_|refine gc ?_ ?_)<;>intro h<;>(try simp only [NS] at h)<;>(try exact xf)<;>(try refine rn ?_ ?_)))))
    (refine TE.ret' io rfl tysOk (()) ?_ rfl (by rfl) ?_;all_goals (try (first|exact trivial|((with_reducible refine AllP.go ?_);dsimp only [AllP, appP];repeat' (first|with_reducible rfl|with_reducible exact LeD.refl|refine And.intro ?_ ?_|exact vi|rfl|exact vb|exact LeD.refl)))))
  obtain ⟨hl, hx⟩ := sm_ok (hr rfl)
  ((refine rn ?_ ?_);(repeat' (first|(with_reducible refine AllP.go ?_;(first|exact trivial|exact fun _ _=>⟨_,rfl⟩|((try simp only [OS]);repeat' (first|omega|exact fun _ _=>⟨_,rfl⟩|refine And.intro ?_ ?_))))|(refine rg ?_ ?_)|(with_reducible first|refine stp ?_|refine tD rfl ?_)|refine ct ?_|refine cf ?_|((first|refine gs ?_ ?_|refine gl ?_ ?_|refine gc ?_ ?_)<;>intro h<;>(try simp only [NS] at h)<;>(try exact xf)<;>(try refine rn ?_ ?_)))))
  refine TE.callW (many_c ds) rfl (by rfl) (by rfl) rfl (by rfl) (by (first|exact trivial|((with_reducible refine AllP.go ?_);dsimp only [AllP, appP];repeat' (first|with_reducible rfl|with_reducible exact LeD.refl|refine And.intro ?_ ?_|exact vi|rfl|exact vb|assumption|exact LeD.refl)))) ?_
  intro r hr2
  cases r
  case true =>
    ((refine rn ?_ ?_);(repeat' (first|(with_reducible refine AllP.go ?_;(first|exact trivial|exact fun _ _=>⟨_,rfl⟩|((try simp only [OS]);repeat' (first|omega|exact fun _ _=>⟨_,rfl⟩|refine And.intro ?_ ?_))))|(refine rg ?_ ?_)|(with_reducible first|refine stp ?_|refine tD rfl ?_)|refine ct ?_|refine cf ?_|((first|refine gs ?_ ?_|refine gl ?_ ?_|refine gc ?_ ?_)<;>intro h<;>(try simp only [NS] at h)<;>(try exact xf)<;>(try refine rn ?_ ?_)))))
    refine TE.callW (shown_c) rfl (by rfl) (by rfl) rfl (by rfl) (by (first|exact trivial|((with_reducible refine AllP.go ?_);dsimp only [AllP, appP];repeat' (first|with_reducible rfl|with_reducible exact LeD.refl|refine And.intro ?_ ?_|exact vi|rfl|exact vb|assumption|exact LeD.refl)))) ?_
    intro _ _
    ((refine rn ?_ ?_);(repeat' (first|(with_reducible refine AllP.go ?_;(first|exact trivial|exact fun _ _=>⟨_,rfl⟩|((try simp only [OS]);repeat' (first|omega|exact fun _ _=>⟨_,rfl⟩|refine And.intro ?_ ?_))))|(refine rg ?_ ?_)|(with_reducible first|refine stp ?_|refine tD rfl ?_)|refine ct ?_|refine cf ?_|((first|refine gs ?_ ?_|refine gl ?_ ?_|refine gc ?_ ?_)<;>intro h<;>(try simp only [NS] at h)<;>(try exact xf)<;>(try refine rn ?_ ?_)))))
    (refine TE.ret' io rfl tysOk (()) ?_ rfl (by rfl) ?_;all_goals (try (first|exact trivial|((with_reducible refine AllP.go ?_);dsimp only [AllP, appP];repeat' (first|with_reducible rfl|with_reducible exact LeD.refl|refine And.intro ?_ ?_|exact vi|rfl|exact vb|exact LeD.refl)))))
  obtain ⟨g1, g2⟩ := hr2 rfl
  have hds : ∀ d ∈ ds, okD d := fun d hd => by
    obtain ⟨k, hk, rfl⟩ := mem_getD (d := di0) hd
    exact smD_ok (g2 k hk)
  clear hr hr2 g2
  have hti : (nds l).length = l.length := List.length_map ..
  have cd := dirs_c l hl hx
  have cc := rcheckB_c l hl hx
  ((refine rn ?_ ?_);(repeat' (first|(with_reducible refine AllP.go ?_;(first|exact trivial|exact fun _ _=>⟨_,rfl⟩|((try simp only [OS]);repeat' (first|omega|exact fun _ _=>⟨_,rfl⟩|refine And.intro ?_ ?_))))|(refine rg ?_ ?_)|(with_reducible first|refine stp ?_|refine tD rfl ?_)|refine ct ?_|refine cf ?_|((first|refine gs ?_ ?_|refine gl ?_ ?_|refine gc ?_ ?_)<;>intro h<;>(try simp only [NS] at h)<;>(try exact xf)<;>(try refine rn ?_ ?_)))))
  refine TE.callW (cd) rfl (by rfl) (by rfl) rfl (by rfl) (by (first|exact trivial|((with_reducible refine AllP.go ?_);dsimp only [AllP, appP];repeat' (first|with_reducible rfl|with_reducible exact LeD.refl|refine And.intro ?_ ?_|exact vi|rfl|exact vb|assumption|exact LeD.refl)))) ?_
  intro _ _
  ((refine rn ?_ ?_);(repeat' (first|(with_reducible refine AllP.go ?_;(first|exact trivial|exact fun _ _=>⟨_,rfl⟩|((try simp only [OS]);repeat' (first|omega|exact fun _ _=>⟨_,rfl⟩|refine And.intro ?_ ?_))))|(refine rg ?_ ?_)|(with_reducible first|refine stp ?_|refine tD rfl ?_)|refine ct ?_|refine cf ?_|((first|refine gs ?_ ?_|refine gl ?_ ?_|refine gc ?_ ?_)<;>intro h<;>(try simp only [NS] at h)<;>(try exact xf)<;>(try refine rn ?_ ?_)))))
  refine TE.callW (cc) rfl (by rfl) (by rfl) rfl (by rfl) (by (first|exact trivial|((with_reducible refine AllP.go ?_);dsimp only [AllP, appP];repeat' (first|with_reducible rfl|with_reducible exact LeD.refl|refine And.intro ?_ ?_|exact vi|rfl|exact vb|assumption|exact LeD.refl)))) ?_
  intro _ _
  clear cd cc
  have hee : (dirsE l).2 = (checkB l).2 := by
    unfold dirsE
    split
    · rfl
    · rename_i c; exact (Decidable.not_not.1 c).symm
  have cm := Make_c ds (by omega) hds
  by_cases hB : (checkB l).2 ≠ 0
  case' pos =>
    rw [show dirsE l = ([], (checkB l).2) from if_pos hB]
    ((refine rn ?_ ?_);(repeat' (first|(with_reducible refine AllP.go ?_;(first|exact trivial|exact fun _ _=>⟨_,rfl⟩|((try simp only [OS]);repeat' (first|omega|exact fun _ _=>⟨_,rfl⟩|refine And.intro ?_ ?_))))|(refine rg ?_ ?_)|(with_reducible first|refine stp ?_|refine tD rfl ?_)|refine ct ?_|refine cf ?_|((first|refine gs ?_ ?_|refine gl ?_ ?_|refine gc ?_ ?_)<;>intro h<;>(try simp only [NS] at h)<;>(try exact xf)<;>(try refine rn ?_ ?_)))))
  case' neg =>
    rw [show dirsE l = (dirsL l, 0) from if_neg hB]
    have hB0 : (checkB l).2 = 0 := Decidable.not_not.1 hB
    have hB : Bok l := hB0
    have hdl : (dirsL l).length ≤ l.length := idxs_len _ _
    have hl120 : l.length ≤ 120 := by have := (tok_node (bok_tok hB)).2.1; omega
    have hml : ((dirsL l).map (dirI l)).length = (dirsL l).length := List.length_map ..
    have ca := Make_c ((dirsL l).map (dirI l)) (by omega) (fun d hd => by
      obtain ⟨n, hn, rfl⟩ := List.mem_map.1 hd
      have := idxs_mem.1 hn
      exact dirI_okD2 hB hx this.1)
    rw [make_all hB] at ca
    have cs := rsameB_c l l hl hl hx hx
    rw [decide_eq_true rfl] at cs
    ((refine rn ?_ ?_);(repeat' (first|(with_reducible refine AllP.go ?_;(first|exact trivial|exact fun _ _=>⟨_,rfl⟩|((try simp only [OS]);repeat' (first|omega|exact fun _ _=>⟨_,rfl⟩|refine And.intro ?_ ?_))))|(refine rg ?_ ?_)|(with_reducible first|refine stp ?_|refine tD rfl ?_)|refine ct ?_|refine cf ?_|((first|refine gs ?_ ?_|refine gl ?_ ?_|refine gc ?_ ?_)<;>intro h<;>(try simp only [NS] at h)<;>(try exact xf)<;>(try refine rn ?_ ?_)))))
    refine TE.nilOwn 9 53 4 (by rfl) ?_
    (refine TE.only [10, 9, 5, 1, 0] (by rfl) ?_)
    refine TE.loopG (fun q : Nat => q ≤ (dirsL l).length) (fun q => [(10, .o (.c (.int .i64 q))), (9, .o (.own 0))]) [0] (fun q => [.own 0 53 4 (diC (((dirsL l).take q).map (dirI l)))]) (fun q => (dirsL l).length - q) 0 (by rfl) (Nat.zero_le _) ?_ ?_
    · (refine Ent.of rfl rfl (by rfl) ?_;(try (first|exact trivial|((with_reducible refine AllP.go ?_);dsimp only [AllP, appP];repeat' (first|with_reducible rfl|with_reducible exact LeD.refl|refine And.intro ?_ ?_|exact vi|rfl|exact vb|exact LeD.refl)))))
      exact LeDC.nil rfl rfl
    intro q hq
    have hcn : (diC (((dirsL l).take q).map (dirI l))).n = q := by show (((dirsL l).take q).map (dirI l)).length = q; rw [List.length_map, List.length_take]; omega
    have hn2 : (List.take q (dirsL l)).length = q := by rw [List.length_take]; omega
    by_cases hlt : q < (dirsL l).length
    · obtain ⟨m1, m2⟩ := dir_mem2 hlt
      have d1 := Dir_c l ((dirsL l).getD q 0 : Nat) hl hx
      rw [dirE_ok2 hB m1 m2] at d1
      (repeat' (first|(with_reducible refine AllP.go ?_;(first|exact trivial|exact fun _ _=>⟨_,rfl⟩|((try simp only [OS]);repeat' (first|omega|exact fun _ _=>⟨_,rfl⟩|refine And.intro ?_ ?_))))|(refine rg ?_ ?_)|(with_reducible first|refine stp ?_|refine tD rfl ?_)|refine ct ?_|refine cf ?_|((first|refine gs ?_ ?_|refine gl ?_ ?_|refine gc ?_ ?_)<;>intro h<;>(try simp only [NS] at h)<;>(try exact xf)<;>(try refine rn ?_ ?_))))
      refine TE.callW (d1) rfl (by rfl) (by rfl) rfl (by rfl) (by (first|exact trivial|((with_reducible refine AllP.go ?_);dsimp only [AllP, appP];repeat' (first|with_reducible rfl|with_reducible exact LeD.refl|refine And.intro ?_ ?_|exact vi|rfl|exact vb|assumption|exact LeD.refl)))) ?_
      intro _ _
      ((refine rn ?_ ?_);(repeat' (first|(with_reducible refine AllP.go ?_;(first|exact trivial|exact fun _ _=>⟨_,rfl⟩|((try simp only [OS]);repeat' (first|omega|exact fun _ _=>⟨_,rfl⟩|refine And.intro ?_ ?_))))|(refine rg ?_ ?_)|(with_reducible first|refine stp ?_|refine tD rfl ?_)|refine ct ?_|refine cf ?_|((first|refine gs ?_ ?_|refine gl ?_ ?_|refine gc ?_ ?_)<;>intro h<;>(try simp only [NS] at h)<;>(try exact xf)<;>(try refine rn ?_ ?_)))))
      refine TE.again' (q + 1) (by omega) (by omega) ?_
      (refine Ent.of rfl rfl (by rfl) ?_;(try (first|exact trivial|((with_reducible refine AllP.go ?_);dsimp only [AllP, appP];repeat' (first|with_reducible rfl|with_reducible exact LeD.refl|refine And.intro ?_ ?_|exact vi|rfl|exact vb|exact LeD.refl)))))
      exact listC_snoc _ (map_take (d := 0) hlt) (di_row2 _)
    obtain rfl : q = (dirsL l).length := by omega
    rw [List.take_length]
    (repeat' (first|(with_reducible refine AllP.go ?_;(first|exact trivial|exact fun _ _=>⟨_,rfl⟩|((try simp only [OS]);repeat' (first|omega|exact fun _ _=>⟨_,rfl⟩|refine And.intro ?_ ?_))))|(refine rg ?_ ?_)|(with_reducible first|refine stp ?_|refine tD rfl ?_)|refine ct ?_|refine cf ?_|((first|refine gs ?_ ?_|refine gl ?_ ?_|refine gc ?_ ?_)<;>intro h<;>(try simp only [NS] at h)<;>(try exact xf)<;>(try refine rn ?_ ?_))))
    (refine TE.freezeN 0 (by rfl) (by rfl) ?_)
    refine TE.callW (ca) rfl (by rfl) (by rfl) rfl (by rfl) (by (first|exact trivial|((with_reducible refine AllP.go ?_);dsimp only [AllP, appP];repeat' (first|with_reducible rfl|with_reducible exact LeD.refl|refine And.intro ?_ ?_|exact vi|rfl|exact vb|assumption|exact LeD.refl)))) ?_
    intro _ _
    ((refine rn ?_ ?_);(repeat' (first|(with_reducible refine AllP.go ?_;(first|exact trivial|exact fun _ _=>⟨_,rfl⟩|((try simp only [OS]);repeat' (first|omega|exact fun _ _=>⟨_,rfl⟩|refine And.intro ?_ ?_))))|(refine rg ?_ ?_)|(with_reducible first|refine stp ?_|refine tD rfl ?_)|refine ct ?_|refine cf ?_|((first|refine gs ?_ ?_|refine gl ?_ ?_|refine gc ?_ ?_)<;>intro h<;>(try simp only [NS] at h)<;>(try exact xf)<;>(try refine rn ?_ ?_)))))
    refine TE.callW (cs) rfl (by rfl) (by rfl) rfl (by rfl) (by (first|exact trivial|((with_reducible refine AllP.go ?_);dsimp only [AllP, appP];repeat' (first|with_reducible rfl|with_reducible exact LeD.refl|refine And.intro ?_ ?_|exact vi|rfl|exact vb|assumption|exact LeD.refl)))) ?_
    intro _ _
    ((refine rn ?_ ?_);(repeat' (first|(with_reducible refine AllP.go ?_;(first|exact trivial|exact fun _ _=>⟨_,rfl⟩|((try simp only [OS]);repeat' (first|omega|exact fun _ _=>⟨_,rfl⟩|refine And.intro ?_ ?_))))|(refine rg ?_ ?_)|(with_reducible first|refine stp ?_|refine tD rfl ?_)|refine ct ?_|refine cf ?_|((first|refine gs ?_ ?_|refine gl ?_ ?_|refine gc ?_ ?_)<;>intro h<;>(try simp only [NS] at h)<;>(try exact xf)<;>(try refine rn ?_ ?_)))))
  all_goals refine TE.callW (cm) rfl (by rfl) (by rfl) rfl (by rfl) (by (first|exact trivial|((with_reducible refine AllP.go ?_);dsimp only [AllP, appP];repeat' (first|with_reducible rfl|with_reducible exact LeD.refl|refine And.intro ?_ ?_|exact vi|rfl|exact vb|assumption|exact LeD.refl)))) ?_
  all_goals intro _ _
  all_goals clear cm
  all_goals (
    by_cases hm : (makeE ds).2 ≠ 0
    · rw [make_nil hm]
      ((refine rn ?_ ?_);(repeat' (first|(with_reducible refine AllP.go ?_;(first|exact trivial|exact fun _ _=>⟨_,rfl⟩|((try simp only [OS]);repeat' (first|omega|exact fun _ _=>⟨_,rfl⟩|refine And.intro ?_ ?_))))|(refine rg ?_ ?_)|(with_reducible first|refine stp ?_|refine tD rfl ?_)|refine ct ?_|refine cf ?_|((first|refine gs ?_ ?_|refine gl ?_ ?_|refine gc ?_ ?_)<;>intro h<;>(try simp only [NS] at h)<;>(try exact xf)<;>(try refine rn ?_ ?_)))))
      refine TE.callW (shown_c) rfl (by rfl) (by rfl) rfl (by rfl) (by (first|exact trivial|((with_reducible refine AllP.go ?_);dsimp only [AllP, appP];repeat' (first|with_reducible rfl|with_reducible exact LeD.refl|refine And.intro ?_ ?_|exact vi|rfl|exact vb|assumption|exact LeD.refl)))) ?_
      intro _ _
      ((refine rn ?_ ?_);(repeat' (first|(with_reducible refine AllP.go ?_;(first|exact trivial|exact fun _ _=>⟨_,rfl⟩|((try simp only [OS]);repeat' (first|omega|exact fun _ _=>⟨_,rfl⟩|refine And.intro ?_ ?_))))|(refine rg ?_ ?_)|(with_reducible first|refine stp ?_|refine tD rfl ?_)|refine ct ?_|refine cf ?_|((first|refine gs ?_ ?_|refine gl ?_ ?_|refine gc ?_ ?_)<;>intro h<;>(try simp only [NS] at h)<;>(try exact xf)<;>(try refine rn ?_ ?_)))))
      (refine TE.ret' io rfl tysOk (()) ?_ rfl (by rfl) ?_;all_goals (try (first|exact trivial|((with_reducible refine AllP.go ?_);dsimp only [AllP, appP];repeat' (first|with_reducible rfl|with_reducible exact LeD.refl|refine And.intro ?_ ?_|exact vi|rfl|exact vb|exact LeD.refl)))))
    have hm := Decidable.not_not.1 hm
    obtain ⟨n1, n2, n3⟩ := make_has hm
    obtain ⟨n4, n5⟩ := make_ok (ds := ds) (by omega) hds
    generalize (makeE ds).1 = c at *
    have hc : c.length ≤ 1000000 := by omega
    have cd := dirs_c c hc n5
    rw [show dirsE c = (dirsL c, 0) from if_neg fun k => k n1] at cd
    ((refine rn ?_ ?_);(repeat' (first|(with_reducible refine AllP.go ?_;(first|exact trivial|exact fun _ _=>⟨_,rfl⟩|((try simp only [OS]);repeat' (first|omega|exact fun _ _=>⟨_,rfl⟩|refine And.intro ?_ ?_))))|(refine rg ?_ ?_)|(with_reducible first|refine stp ?_|refine tD rfl ?_)|refine ct ?_|refine cf ?_|((first|refine gs ?_ ?_|refine gl ?_ ?_|refine gc ?_ ?_)<;>intro h<;>(try simp only [NS] at h)<;>(try exact xf)<;>(try refine rn ?_ ?_)))))
    refine TE.callW (cd) rfl (by rfl) (by rfl) rfl (by rfl) (by (first|exact trivial|((with_reducible refine AllP.go ?_);dsimp only [AllP, appP];repeat' (first|with_reducible rfl|with_reducible exact LeD.refl|refine And.intro ?_ ?_|exact vi|rfl|exact vb|assumption|exact LeD.refl)))) ?_
    intro _ _
    clear cd
    ((refine rn ?_ ?_);(repeat' (first|(with_reducible refine AllP.go ?_;(first|exact trivial|exact fun _ _=>⟨_,rfl⟩|((try simp only [OS]);repeat' (first|omega|exact fun _ _=>⟨_,rfl⟩|refine And.intro ?_ ?_))))|(refine rg ?_ ?_)|(with_reducible first|refine stp ?_|refine tD rfl ?_)|refine ct ?_|refine cf ?_|((first|refine gs ?_ ?_|refine gl ?_ ?_|refine gc ?_ ?_)<;>intro h<;>(try simp only [NS] at h)<;>(try exact xf)<;>(try refine rn ?_ ?_)))))
    (refine TE.only [16, 15, 5, 1, 0] (by rfl) ?_)
    refine TE.loopG (fun q : Nat => q ≤ ds.length) (fun q => [(16, .o (.c (.int .i64 q)))]) [] (fun _ => []) (fun q => ds.length - q) 0 (by rfl) (Nat.zero_le _) ?_ ?_
    · (refine Ent.of rfl rfl (by rfl) ?_;(try (first|exact trivial|((with_reducible refine AllP.go ?_);dsimp only [AllP, appP];repeat' (first|with_reducible rfl|with_reducible exact LeD.refl|refine And.intro ?_ ?_|exact vi|rfl|exact vb|exact LeD.refl)))))
    intro q hq
    by_cases hlt : q < ds.length
    · obtain ⟨m1, m2⟩ := dir_mem2 (l := c) (i := q) (by omega)
      have d1 := Dir_c c ((dirsL c).getD q 0 : Nat) hc n5
      rw [dirE_ok2 n1 m1 m2, n3 q hlt] at d1
      have d2 := rsameDir_c (ds.getD q di0) (ds.getD q di0) (hds _ (getD_mem hlt)) (hds _ (getD_mem hlt))
      rw [decide_eq_true rfl] at d2
      (repeat' (first|(with_reducible refine AllP.go ?_;(first|exact trivial|exact fun _ _=>⟨_,rfl⟩|((try simp only [OS]);repeat' (first|omega|exact fun _ _=>⟨_,rfl⟩|refine And.intro ?_ ?_))))|(refine rg ?_ ?_)|(with_reducible first|refine stp ?_|refine tD rfl ?_)|refine ct ?_|refine cf ?_|((first|refine gs ?_ ?_|refine gl ?_ ?_|refine gc ?_ ?_)<;>intro h<;>(try simp only [NS] at h)<;>(try exact xf)<;>(try refine rn ?_ ?_))))
      refine TE.callW (d1) rfl (by rfl) (by rfl) rfl (by rfl) (by (first|exact trivial|((with_reducible refine AllP.go ?_);dsimp only [AllP, appP];repeat' (first|with_reducible rfl|with_reducible exact LeD.refl|refine And.intro ?_ ?_|exact vi|rfl|exact vb|assumption|exact LeD.refl)))) ?_
      intro _ _
      ((refine rn ?_ ?_);(repeat' (first|(with_reducible refine AllP.go ?_;(first|exact trivial|exact fun _ _=>⟨_,rfl⟩|((try simp only [OS]);repeat' (first|omega|exact fun _ _=>⟨_,rfl⟩|refine And.intro ?_ ?_))))|(refine rg ?_ ?_)|(with_reducible first|refine stp ?_|refine tD rfl ?_)|refine ct ?_|refine cf ?_|((first|refine gs ?_ ?_|refine gl ?_ ?_|refine gc ?_ ?_)<;>intro h<;>(try simp only [NS] at h)<;>(try exact xf)<;>(try refine rn ?_ ?_)))))
      (refine TE.only [18, 17, 16, 15, 5, 1, 0] (by rfl) ?_)
      ((refine dn ?_);repeat' (first|(with_reducible refine AllP.go ?_;(first|exact trivial|exact fun _ _=>⟨_,rfl⟩|((try simp only [OS]);repeat' (first|omega|exact fun _ _=>⟨_,rfl⟩|refine And.intro ?_ ?_))))|(with_reducible first|exact PanicOk.body|exact rd.panic|refine PanicOk.then' ?_|refine PanicOk.block ?_|refine PanicOk.jump ?_)|(refine TL.done (by rfl) ?_)|(refine TL.auto tysOk rfl ?_ (by rfl) ?_ ?_)|((refine TL.one (by rfl) ?_);first|(refine sm ?_ ?_)|(refine sp ?_ ?_))|(refine sm ?_ ?_)|((first|refine gl ?_ ?_|refine gc ?_ ?_)<;>intro h<;>(try simp only [NS] at h)<;>(try exact xf))))
      (refine TL.one (by rfl) ?_)
      refine StepL.callW (d2) rfl rfl rfl rfl rfl (by rfl) (by (first|exact trivial|((with_reducible refine AllP.go ?_);dsimp only [AllP, appP];repeat' (first|with_reducible rfl|with_reducible exact LeD.refl|refine And.intro ?_ ?_|exact vi|rfl|exact vb|assumption|exact LeD.refl)))) (by rfl) (by rfl) ?_
      intro _ _
      (repeat' (first|(with_reducible refine AllP.go ?_;(first|exact trivial|exact fun _ _=>⟨_,rfl⟩|((try simp only [OS]);repeat' (first|omega|exact fun _ _=>⟨_,rfl⟩|refine And.intro ?_ ?_))))|(with_reducible first|exact PanicOk.body|exact rd.panic|refine PanicOk.then' ?_|refine PanicOk.block ?_|refine PanicOk.jump ?_)|(refine TL.done (by rfl) ?_)|(refine TL.auto tysOk rfl ?_ (by rfl) ?_ ?_)|(refine sm ?_ ?_)|(refine sp ?_ ?_)|(refine TL.one (by rfl) ?_)|(refine TL.two (by rfl) ?_ ?_)|(refine TL.three (by rfl) ?_ ?_ ?_)|(refine TL.four (by rfl) ?_ ?_ ?_ ?_)))
      (repeat' (first|(with_reducible refine AllP.go ?_;(first|exact trivial|exact fun _ _=>⟨_,rfl⟩|((try simp only [OS]);repeat' (first|omega|exact fun _ _=>⟨_,rfl⟩|refine And.intro ?_ ?_))))|(refine rg ?_ ?_)|(with_reducible first|refine stp ?_|refine tD rfl ?_)|refine ct ?_|refine cf ?_|((first|refine gs ?_ ?_|refine gl ?_ ?_|refine gc ?_ ?_)<;>intro h<;>(try simp only [NS] at h)<;>(try exact xf)<;>(try refine rn ?_ ?_))))
      refine TE.again' (q + 1) (by omega) (by omega) ?_
      (refine Ent.of rfl rfl (by rfl) ?_;(try (first|exact trivial|((with_reducible refine AllP.go ?_);dsimp only [AllP, appP];repeat' (first|with_reducible rfl|with_reducible exact LeD.refl|refine And.intro ?_ ?_|exact vi|rfl|exact vb|exact LeD.refl)))))
    obtain rfl : q = ds.length := by omega
    (repeat' (first|(with_reducible refine AllP.go ?_;(first|exact trivial|exact fun _ _=>⟨_,rfl⟩|((try simp only [OS]);repeat' (first|omega|exact fun _ _=>⟨_,rfl⟩|refine And.intro ?_ ?_))))|(refine rg ?_ ?_)|(with_reducible first|refine stp ?_|refine tD rfl ?_)|refine ct ?_|refine cf ?_|((first|refine gs ?_ ?_|refine gl ?_ ?_|refine gc ?_ ?_)<;>intro h<;>(try simp only [NS] at h)<;>(try exact xf)<;>(try refine rn ?_ ?_))))
    refine TE.callW (shown_c) rfl (by rfl) (by rfl) rfl (by rfl) (by (first|exact trivial|((with_reducible refine AllP.go ?_);dsimp only [AllP, appP];repeat' (first|with_reducible rfl|with_reducible exact LeD.refl|refine And.intro ?_ ?_|exact vi|rfl|exact vb|assumption|exact LeD.refl)))) ?_
    intro _ _
    ((refine rn ?_ ?_);(repeat' (first|(with_reducible refine AllP.go ?_;(first|exact trivial|exact fun _ _=>⟨_,rfl⟩|((try simp only [OS]);repeat' (first|omega|exact fun _ _=>⟨_,rfl⟩|refine And.intro ?_ ?_))))|(refine rg ?_ ?_)|(with_reducible first|refine stp ?_|refine tD rfl ?_)|refine ct ?_|refine cf ?_|((first|refine gs ?_ ?_|refine gl ?_ ?_|refine gc ?_ ?_)<;>intro h<;>(try simp only [NS] at h)<;>(try exact xf)<;>(try refine rn ?_ ?_)))))
    (refine TE.ret' io rfl tysOk (()) ?_ rfl (by rfl) ?_;all_goals (try (first|exact trivial|((with_reducible refine AllP.go ?_);dsimp only [AllP, appP];repeat' (first|with_reducible rfl|with_reducible exact LeD.refl|refine And.intro ?_ ?_|exact vi|rfl|exact vb|exact LeD.refl))))))
end Go.Proofs.Ythhpofehcnjmmaa.Am
set_option linter.unusedSimpArgs false
set_option linter.unusedVariables false
namespace Go.Proofs.Ythhpofehcnjmmaa.Am
open Go.RowKit Lw At Br
theorem not_st {P : Program} {t : TypeId} {d : TypeDesc} (h : P.underlying t = some d) (hd : ∀ fs, d ≠ .struct fs) : ∀ fs, P.underlying t ≠ some (.struct fs) := fun fs e => hd fs (Option.some.inj (h.symm.trans e))
theorem not_ar {P : Program} {t : TypeId} {d : TypeDesc} (h : P.underlying t = some d) (hd : ∀ n e, d ≠ .array n e) : ∀ n e, P.underlying t ≠ some (.array n e) := fun n e' e => hd n e' (Option.some.inj (h.symm.trans e))
theorem do_strs : DOpen Try.prog 36 1 (slR 1 strR eS) (listG strG) := DOpen.slice (e := 9) (DOpen.str (by kernel_rfl) (by kernel_rfl)) eS (by kernel_rfl) (by kernel_rfl)
def atGood (x : At.At) : Prop := x.1.size ≤ maxLen ∧ x.2.size ≤ maxLen
theorem do_at : DOpen Try.prog 67 2 atR atGood := by
  have h0 := DOpen.struct (P := Try.prog) (t := 67) (by kernel_rfl) (by decide) Try.underlying67 (DFields.cons rfl (DOpen.str (by kernel_rfl) (by kernel_rfl)) (DFields.cons rfl (DOpen.str (by kernel_rfl) (by kernel_rfl)) DFields.nil))
  refine h0.map (fun x => ((x.1, x.2.1) : At.At)) (fun x j hj => ?_) fun x g => (show atGood _ from ⟨g.1, g.2.1⟩)
  match j, hj with
  | 0, _ => rfl
  | 1, _ => rfl
theorem do_ats : DOpen Try.prog 48 1 (slR 2 atR d0) (listG atGood) := DOpen.slice (e := 67) do_at _ (by kernel_rfl) (by kernel_rfl)
def bnGood (x : Bn) : Prop := intG x.nd.depth ∧ strG x.nd.name ∧ intG x.nd.kind ∧ listG atGood x.nd.attrs ∧ strG x.nd.data ∧ intG x.nd.major ∧ intG x.nd.minor ∧ intG x.nd.cls ∧ listG strG x.red
theorem do_bn : DOpen Try.prog 50 10 bnR bnGood := by
  have h0 := DOpen.struct (P := Try.prog) (t := 50) (by kernel_rfl) (by decide) Try.underlying50 (DFields.cons rfl (DOpen.i64 (by kernel_rfl) (by kernel_rfl)) (DFields.cons rfl (DOpen.str (by kernel_rfl) (by kernel_rfl)) (DFields.cons rfl (DOpen.i64 (by kernel_rfl) (by kernel_rfl)) (DFields.cons rfl do_ats (DFields.cons rfl (DOpen.str (by kernel_rfl) (by kernel_rfl)) (DFields.cons rfl (DOpen.i64 (by kernel_rfl) (by kernel_rfl)) (DFields.cons rfl (DOpen.i64 (by kernel_rfl) (by kernel_rfl)) (DFields.cons rfl (DOpen.i64 (by kernel_rfl) (by kernel_rfl)) (DFields.cons rfl (DOpen.bool (by kernel_rfl) (by kernel_rfl)) (DFields.cons rfl do_strs DFields.nil))))))))))
  refine h0.map (fun x => (⟨⟨x.1, x.2.1, x.2.2.1, x.2.2.2.1, x.2.2.2.2.1, x.2.2.2.2.2.1, x.2.2.2.2.2.2.1, x.2.2.2.2.2.2.2.1⟩, x.2.2.2.2.2.2.2.2.1, x.2.2.2.2.2.2.2.2.2.1⟩ : Bn)) (fun x j hj => ?_) fun x g => (show bnGood _ from ⟨g.1, g.2.1, g.2.2.1, g.2.2.2.1, g.2.2.2.2.1, g.2.2.2.2.2.1, g.2.2.2.2.2.2.1, g.2.2.2.2.2.2.2.1, g.2.2.2.2.2.2.2.2.2.1⟩)
  match j, hj with
  | 0, _ => rfl
  | 1, _ => rfl
  | 2, _ => rfl
  | 3, _ => rfl
  | 4, _ => rfl
  | 5, _ => rfl
  | 6, _ => rfl
  | 7, _ => rfl
  | 8, _ => rfl
  | 9, _ => rfl
theorem do_bns : DOpen Try.prog 22 1 (slR 10 bnR b0) (listG bnGood) := DOpen.slice (e := 50) do_bn _ (by kernel_rfl) (by kernel_rfl)
theorem ao_bns : AOpen Try.prog 22 (fun l : List Bn => .o (.ro 10 l.length (bnC l).cell)) (listG bnGood) :=
  AOpen.one do_bns (not_st (d := .slice 50) (by kernel_rfl) fun _ h => by cases h) (not_ar (d := .slice 50) (by kernel_rfl) fun _ _ h => by cases h)
end Go.Proofs.Ythhpofehcnjmmaa.Am
set_option linter.unusedSimpArgs false
set_option linter.unusedVariables false
namespace Go.Proofs.Ythhpofehcnjmmaa.Am
open Go.RowKit Lw At Br
def ndGood (x : Nd) : Prop := intG x.depth ∧ strG x.name ∧ intG x.kind ∧ listG atGood x.attrs ∧ strG x.data ∧ intG x.major ∧ intG x.minor ∧ intG x.cls
theorem do_nd : DOpen Try.prog 70 8 ndR ndGood := by
  have h0 := DOpen.struct (P := Try.prog) (t := 70) (by kernel_rfl) (by decide) Try.underlying70 (DFields.cons rfl (DOpen.i64 (by kernel_rfl) (by kernel_rfl)) (DFields.cons rfl (DOpen.str (by kernel_rfl) (by kernel_rfl)) (DFields.cons rfl (DOpen.i64 (by kernel_rfl) (by kernel_rfl)) (DFields.cons rfl do_ats (DFields.cons rfl (DOpen.str (by kernel_rfl) (by kernel_rfl)) (DFields.cons rfl (DOpen.i64 (by kernel_rfl) (by kernel_rfl)) (DFields.cons rfl (DOpen.i64 (by kernel_rfl) (by kernel_rfl)) (DFields.cons rfl (DOpen.i64 (by kernel_rfl) (by kernel_rfl)) DFields.nil))))))))
  refine h0.map (fun x => (⟨x.1, x.2.1, x.2.2.1, x.2.2.2.1, x.2.2.2.2.1, x.2.2.2.2.2.1, x.2.2.2.2.2.2.1, x.2.2.2.2.2.2.2.1⟩ : Nd)) (fun x j hj => ?_) fun x g => (show ndGood _ from ⟨g.1, g.2.1, g.2.2.1, g.2.2.2.1, g.2.2.2.2.1, g.2.2.2.2.2.1, g.2.2.2.2.2.2.1, g.2.2.2.2.2.2.2.1⟩)
  match j, hj with
  | 0, _ => rfl
  | 1, _ => rfl
  | 2, _ => rfl
  | 3, _ => rfl
  | 4, _ => rfl
  | 5, _ => rfl
  | 6, _ => rfl
  | 7, _ => rfl
def enGood (x : En) : Prop := strG x.name ∧ ndGood x.node ∧ intG x.names
theorem do_en : DOpen Try.prog 72 12 enR enGood := by
  have h0 := DOpen.struct (P := Try.prog) (t := 72) (by kernel_rfl) (by decide) Try.underlying72 (DFields.cons rfl (DOpen.str (by kernel_rfl) (by kernel_rfl)) (DFields.cons rfl do_nd (DFields.cons rfl (DOpen.bool (by kernel_rfl) (by kernel_rfl)) (DFields.cons rfl (DOpen.bool (by kernel_rfl) (by kernel_rfl)) (DFields.cons rfl (DOpen.i64 (by kernel_rfl) (by kernel_rfl)) DFields.nil)))))
  refine h0.map (fun x => (⟨x.1, x.2.1, x.2.2.1, x.2.2.2.1, x.2.2.2.2.1⟩ : En)) (fun x j hj => ?_) fun x g => (show enGood _ from ⟨g.1, g.2.1, g.2.2.2.2.1⟩)
  match j, hj with
  | 0, _ => rfl
  | 1, _ => rfl
  | 2, _ => rfl
  | 3, _ => rfl
  | 4, _ => rfl
  | 5, _ => rfl
  | 6, _ => rfl
  | 7, _ => rfl
  | 8, _ => rfl
  | 9, _ => rfl
  | 10, _ => rfl
  | 11, _ => rfl
theorem do_ens : DOpen Try.prog 51 1 (slR 12 enR e0) (listG enGood) := DOpen.slice (e := 72) do_en _ (by kernel_rfl) (by kernel_rfl)
def diGood (d : Di) : Prop := listG atGood d.attrs ∧ listG strG d.red ∧ listG enGood d.ents
theorem do_di : DOpen Try.prog 53 4 diR diGood := by
  have h0 := DOpen.struct (P := Try.prog) (t := 53) (by kernel_rfl) (by decide) Try.underlying53 (DFields.cons rfl do_ats (DFields.cons rfl (DOpen.bool (by kernel_rfl) (by kernel_rfl)) (DFields.cons rfl do_strs (DFields.cons rfl do_ens DFields.nil))))
  refine h0.map (fun x => (⟨x.1, x.2.1, x.2.2.1, x.2.2.2.1⟩ : Di)) (fun x j hj => ?_) fun x g => (show diGood _ from ⟨g.1, g.2.2.1, g.2.2.2.1⟩)
  match j, hj with
  | 0, _ => rfl
  | 1, _ => rfl
  | 2, _ => rfl
  | 3, _ => rfl
theorem do_dis : DOpen Try.prog 55 1 (slR 4 diR di0) (listG diGood) := DOpen.slice (e := 53) do_di _ (by kernel_rfl) (by kernel_rfl)
theorem ao_dis : AOpen Try.prog 55 (fun l : List Di => .o (.ro 4 l.length (diC l).cell)) (listG diGood) :=
  AOpen.one do_dis (not_st (d := .slice 53) (by kernel_rfl) fun _ h => by cases h) (not_ar (d := .slice 53) (by kernel_rfl) fun _ _ h => by cases h)
end Go.Proofs.Ythhpofehcnjmmaa.Am
