/- Texts of this claim, joined. -/
import Derived.Test.YthhpofehcnjmmaaPk7
import Derived.KernelRfl
set_option linter.unusedSimpArgs false
set_option linter.unusedVariables false
/- Branches: the examples of the document. -/
set_option linter.unusedSimpArgs false
set_option linter.unusedVariables false
namespace Go.Proofs.Ythhpofehcnjmmaa.Am
open Go.RowKit Lw
open Br
theorem bok_small {l : List Bn} (h : l.all (fun x => decide (x.nd.attrs.length = 0 ∧ x.nd.name.size ≤ 1000 ∧ x.red.length ≤ 1000) && x.red.all (fun s => decide (s.size ≤ 1000))) = true) : ∀ x ∈ l, okB x := fun x hx => by
  have h1 := List.all_eq_true.1 h x hx
  rw [Bool.and_eq_true, decide_eq_true_eq, List.all_eq_true] at h1
  obtain ⟨⟨h2, h3, h4⟩, h5⟩ := h1
  have h6 : x.nd.attrs = [] := List.length_eq_zero_iff.1 h2
  refine ⟨⟨by omega, by rw [h6]; decide, by omega⟩, by omega, fun s hs => ?_⟩
  have := of_decide_eq_true (h5 s hs)
  omega
theorem ex_ok : ∀ x ∈ exL, okB x := bok_small (by decide)
theorem exA_ok : ∀ x ∈ exA, okB x := bok_small (by decide)
theorem exB_ok : ∀ x ∈ exB, okB x := bok_small (by decide)
theorem bn_setR {l : List Bn} {i : Nat} {d : DC} {r : List ByteArray} (hi : i < l.length) (h : LeX d (bnR { l.getD i b0 with red := r } 9)) : LeDC 10 (setC (bnC l) i 9 d) (bnC (l.set i { l.getD i b0 with red := r })) := by
  refine ⟨(List.length_set ..).symm, fun a j ha hj => ?_⟩
  show LeX (if a = i ∧ j = 9 then d else bnR (l.getD a b0) j) (bnR ((l.set i { l.getD i b0 with red := r }).getD a b0) j)
  rw [getD_set hi]
  by_cases e : a = i
  · subst e
    rw [if_pos rfl]
    by_cases e2 : j = 9
    · subst e2
      rw [if_pos ⟨rfl, rfl⟩]
      exact h
    · rw [if_neg (fun k => e2 k.2)]
      refine LeX.of_eq ?_
      match j, hj, e2 with
      | 0, _, _ => rfl
      | 1, _, _ => rfl
      | 2, _, _ => rfl
      | 3, _, _ => rfl
      | 4, _, _ => rfl
      | 5, _, _ => rfl
      | 6, _, _ => rfl
      | 7, _, _ => rfl
      | 8, _, _ => rfl
      | 9, _, h => exact absurd rfl h
      | j + 10, h, _ => omega
  · rw [if_neg (fun k => e k.1), if_neg e]
    exact LeX.of_eq rfl
set_option maxRecDepth 20000 in
set_option maxHeartbeats 16000000 in
theorem shown_c : Con Try.prog 12 [] [] 0 0 U (fun _ => .o (.c (.bool true))) G0 := by
  refine con_of0 Try.func12 rfl (by kernel_rfl) Try.ntmps12 rfl (by first | exact Nat.zero_le _ | decide) (fun _ => ⟨rfl, rfl⟩) fun w S ν => ?_
  have hl : exL.length ≤ 1000000 := by decide
  have c1 := dirs_c exL hl ex_ok
  have c2 := Kids_c exL 3 hl ex_ok
  have c3 := Names_c exL 2 hl ex_ok
  have c4 := at_c exL [⟨#[100]⟩, ⟨#[119]⟩] hl ex_ok ⟨by decide, by decide⟩
  have c5 := Dir_c exL 3 hl ex_ok
  rw [ex_dirs] at c1
  rw [ex_kids] at c2
  rw [ex_names] at c3
  rw [ex_at] at c4
  rw [ex_dir] at c5
  have i1 := ints_c [0, 1, 3] [0, 1, 3] (by decide) (by decide)
  have i2 := ints_c [4, 5] [4, 5] (by decide) (by decide)
  have i3 := ints_c [2, 5] [2, 5] (by decide) (by decide)
  rw [decide_eq_true rfl] at i1 i2 i3
  (repeat' (first|(with_reducible refine AllP.go ?_;(first|exact trivial|exact fun _ _=>⟨_,rfl⟩|((try simp only [OS]);repeat' (first|omega|exact fun _ _=>⟨_,rfl⟩|refine And.intro ?_ ?_))))|(refine rg ?_ ?_)|(with_reducible first|refine stp ?_|refine tD rfl ?_)|refine ct ?_|refine cf ?_|((first|refine gs ?_ ?_|refine gl ?_ ?_|refine gc ?_ ?_)<;>intro h<;>(try simp only [NS] at h)<;>(try exact xf)<;>(try refine rn ?_ ?_))))
  refine TE.callW (example_c) rfl (by rfl) (by rfl) rfl (by rfl) (by (first|exact trivial|((with_reducible refine AllP.go ?_);dsimp only [AllP, appP];repeat' (first|with_reducible rfl|with_reducible exact LeD.refl|refine And.intro ?_ ?_|exact vi|rfl|exact vb|assumption|exact LeD.refl)))) ?_
  intro _ _
  ((refine rn ?_ ?_);(repeat' (first|(with_reducible refine AllP.go ?_;(first|exact trivial|exact fun _ _=>⟨_,rfl⟩|((try simp only [OS]);repeat' (first|omega|exact fun _ _=>⟨_,rfl⟩|refine And.intro ?_ ?_))))|(refine rg ?_ ?_)|(with_reducible first|refine stp ?_|refine tD rfl ?_)|refine ct ?_|refine cf ?_|((first|refine gs ?_ ?_|refine gl ?_ ?_|refine gc ?_ ?_)<;>intro h<;>(try simp only [NS] at h)<;>(try exact xf)<;>(try refine rn ?_ ?_)))))
  refine TE.lend 1 0 rfl (by rfl) (by rfl) (by decide) (by rfl) ?_
  intro w0 B0 S0 ν0 v S1 g L
  refine TE.callW (c1) rfl (by rfl) (by rfl) rfl (by rfl) (by (first|exact trivial|((with_reducible refine AllP.go ?_);dsimp only [AllP, appP];repeat' (first|with_reducible rfl|with_reducible exact LeD.refl|refine And.intro ?_ ?_|exact vi|rfl|exact vb|assumption|exact LeD.refl)))) ?_
  intro _ _
  ((refine rn ?_ ?_);(repeat' (first|(with_reducible refine AllP.go ?_;(first|exact trivial|exact fun _ _=>⟨_,rfl⟩|((try simp only [OS]);repeat' (first|omega|exact fun _ _=>⟨_,rfl⟩|refine And.intro ?_ ?_))))|(refine rg ?_ ?_)|(with_reducible first|refine stp ?_|refine tD rfl ?_)|refine ct ?_|refine cf ?_|((first|refine gs ?_ ?_|refine gl ?_ ?_|refine gc ?_ ?_)<;>intro h<;>(try simp only [NS] at h)<;>(try exact xf)<;>(try refine rn ?_ ?_)))))
  refine TE.callW (c2) rfl (by rfl) (by rfl) rfl (by rfl) (by (first|exact trivial|((with_reducible refine AllP.go ?_);dsimp only [AllP, appP];repeat' (first|with_reducible rfl|with_reducible exact LeD.refl|refine And.intro ?_ ?_|exact vi|rfl|exact vb|assumption|exact LeD.refl)))) ?_
  intro _ _
  ((refine rn ?_ ?_);(repeat' (first|(with_reducible refine AllP.go ?_;(first|exact trivial|exact fun _ _=>⟨_,rfl⟩|((try simp only [OS]);repeat' (first|omega|exact fun _ _=>⟨_,rfl⟩|refine And.intro ?_ ?_))))|(refine rg ?_ ?_)|(with_reducible first|refine stp ?_|refine tD rfl ?_)|refine ct ?_|refine cf ?_|((first|refine gs ?_ ?_|refine gl ?_ ?_|refine gc ?_ ?_)<;>intro h<;>(try simp only [NS] at h)<;>(try exact xf)<;>(try refine rn ?_ ?_)))))
  refine TE.callW (c3) rfl (by rfl) (by rfl) rfl (by rfl) (by (first|exact trivial|((with_reducible refine AllP.go ?_);dsimp only [AllP, appP];repeat' (first|with_reducible rfl|with_reducible exact LeD.refl|refine And.intro ?_ ?_|exact vi|rfl|exact vb|assumption|exact LeD.refl)))) ?_
  intro _ _
  ((refine rn ?_ ?_);(repeat' (first|(with_reducible refine AllP.go ?_;(first|exact trivial|exact fun _ _=>⟨_,rfl⟩|((try simp only [OS]);repeat' (first|omega|exact fun _ _=>⟨_,rfl⟩|refine And.intro ?_ ?_))))|(refine rg ?_ ?_)|(with_reducible first|refine stp ?_|refine tD rfl ?_)|refine ct ?_|refine cf ?_|((first|refine gs ?_ ?_|refine gl ?_ ?_|refine gc ?_ ?_)<;>intro h<;>(try simp only [NS] at h)<;>(try exact xf)<;>(try refine rn ?_ ?_)))))
  (refine TE.freezeN 1 (by rfl) (by rfl) ?_)
  refine TE.callW (c4) rfl (by rfl) (by rfl) rfl (by rfl) (by (first|exact trivial|((with_reducible refine AllP.go ?_);dsimp only [AllP, appP];repeat' (first|with_reducible rfl|with_reducible exact LeD.refl|refine And.intro ?_ ?_|exact vi|rfl|exact vb|exact trivial|(refine LeD.lit rfl ?_)|exact LeX.of_eq rfl|exact LeX.nil rfl|(refine LeX.lit rfl ?_)|refine nth1x ?_|refine nth2x ?_ ?_|refine nth3x ?_ ?_ ?_|refine nth4x ?_ ?_ ?_ ?_|exact LeD.refl)))) ?_
  intro _ _
  ((refine rn ?_ ?_);(repeat' (first|(with_reducible refine AllP.go ?_;(first|exact trivial|exact fun _ _=>⟨_,rfl⟩|((try simp only [OS]);repeat' (first|omega|exact fun _ _=>⟨_,rfl⟩|refine And.intro ?_ ?_))))|(refine rg ?_ ?_)|(with_reducible first|refine stp ?_|refine tD rfl ?_)|refine ct ?_|refine cf ?_|((first|refine gs ?_ ?_|refine gl ?_ ?_|refine gc ?_ ?_)<;>intro h<;>(try simp only [NS] at h)<;>(try exact xf)<;>(try refine rn ?_ ?_)))))
  refine TE.callW (c5) rfl (by rfl) (by rfl) rfl (by rfl) (by (first|exact trivial|((with_reducible refine AllP.go ?_);dsimp only [AllP, appP];repeat' (first|with_reducible rfl|with_reducible exact LeD.refl|refine And.intro ?_ ?_|exact vi|rfl|exact vb|assumption|exact LeD.refl)))) ?_
  intro _ _
  ((refine rn ?_ ?_);(repeat' (first|(with_reducible refine AllP.go ?_;(first|exact trivial|exact fun _ _=>⟨_,rfl⟩|((try simp only [OS]);repeat' (first|omega|exact fun _ _=>⟨_,rfl⟩|refine And.intro ?_ ?_))))|(refine rg ?_ ?_)|(with_reducible first|refine stp ?_|refine tD rfl ?_)|refine ct ?_|refine cf ?_|((first|refine gs ?_ ?_|refine gl ?_ ?_|refine gc ?_ ?_)<;>intro h<;>(try simp only [NS] at h)<;>(try exact xf)<;>(try refine rn ?_ ?_)))))
  (refine TE.freezeN 3 (by rfl) (by rfl) ?_)
  refine TE.callW (i1) rfl (by rfl) (by rfl) rfl (by rfl) (by (first|exact trivial|((with_reducible refine AllP.go ?_);dsimp only [AllP, appP];repeat' (first|with_reducible rfl|with_reducible exact LeD.refl|refine And.intro ?_ ?_|exact vi|rfl|exact vb|exact trivial|(refine LeD.lit rfl ?_)|exact LeX.of_eq rfl|exact LeX.nil rfl|(refine LeX.lit rfl ?_)|refine nth1x ?_|refine nth2x ?_ ?_|refine nth3x ?_ ?_ ?_|refine nth4x ?_ ?_ ?_ ?_|exact LeD.refl)))) ?_
  intro _ _
  ((refine rn ?_ ?_);(repeat' (first|(with_reducible refine AllP.go ?_;(first|exact trivial|exact fun _ _=>⟨_,rfl⟩|((try simp only [OS]);repeat' (first|omega|exact fun _ _=>⟨_,rfl⟩|refine And.intro ?_ ?_))))|(refine rg ?_ ?_)|(with_reducible first|refine stp ?_|refine tD rfl ?_)|refine ct ?_|refine cf ?_|((first|refine gs ?_ ?_|refine gl ?_ ?_|refine gc ?_ ?_)<;>intro h<;>(try simp only [NS] at h)<;>(try exact xf)<;>(try refine rn ?_ ?_)))))
  (refine TE.freezeN 4 (by rfl) (by rfl) ?_)
  refine TE.callW (i2) rfl (by rfl) (by rfl) rfl (by rfl) (by (first|exact trivial|((with_reducible refine AllP.go ?_);dsimp only [AllP, appP];repeat' (first|with_reducible rfl|with_reducible exact LeD.refl|refine And.intro ?_ ?_|exact vi|rfl|exact vb|exact trivial|(refine LeD.lit rfl ?_)|exact LeX.of_eq rfl|exact LeX.nil rfl|(refine LeX.lit rfl ?_)|refine nth1x ?_|refine nth2x ?_ ?_|refine nth3x ?_ ?_ ?_|refine nth4x ?_ ?_ ?_ ?_|exact LeD.refl)))) ?_
  intro _ _
  ((refine rn ?_ ?_);(repeat' (first|(with_reducible refine AllP.go ?_;(first|exact trivial|exact fun _ _=>⟨_,rfl⟩|((try simp only [OS]);repeat' (first|omega|exact fun _ _=>⟨_,rfl⟩|refine And.intro ?_ ?_))))|(refine rg ?_ ?_)|(with_reducible first|refine stp ?_|refine tD rfl ?_)|refine ct ?_|refine cf ?_|((first|refine gs ?_ ?_|refine gl ?_ ?_|refine gc ?_ ?_)<;>intro h<;>(try simp only [NS] at h)<;>(try exact xf)<;>(try refine rn ?_ ?_)))))
  (refine TE.freezeN 5 (by rfl) (by rfl) ?_)
  refine TE.callW (i3) rfl (by rfl) (by rfl) rfl (by rfl) (by (first|exact trivial|((with_reducible refine AllP.go ?_);dsimp only [AllP, appP];repeat' (first|with_reducible rfl|with_reducible exact LeD.refl|refine And.intro ?_ ?_|exact vi|rfl|exact vb|exact trivial|(refine LeD.lit rfl ?_)|exact LeX.of_eq rfl|exact LeX.nil rfl|(refine LeX.lit rfl ?_)|refine nth1x ?_|refine nth2x ?_ ?_|refine nth3x ?_ ?_ ?_|refine nth4x ?_ ?_ ?_ ?_|exact LeD.refl)))) ?_
  intro _ _
  ((refine rn ?_ ?_);repeat' (first|(with_reducible refine AllP.go ?_;(first|exact trivial|exact fun _ _=>⟨_,rfl⟩|((try simp only [OS]);repeat' (first|omega|exact fun _ _=>⟨_,rfl⟩|refine And.intro ?_ ?_))))|(with_reducible first|refine stp ?_|refine tD rfl ?_)|refine ct ?_|refine cf ?_|((first|refine gs ?_ ?_|refine gl ?_ ?_|refine gc ?_ ?_)<;>intro h<;>(try simp only [NS] at h)<;>(try exact xf)<;>(try refine rn ?_ ?_))))
  refine TE.thaw L 1 (by repeat (first | exact List.mem_cons_self .. | refine List.mem_cons_of_mem _ ?_)) (by rfl) ?_
  (refine TE.only [1, 0] (by rfl) ?_)
  have hlen : exL.length = 6 := rfl
  have c6 := checkB_c exA (by decide) exA_ok
  have c7 := checkB_c exB (by decide) exB_ok
  rw [ex_a] at c6
  rw [ex_b] at c7
  have hA : LeDC 10 (setC (bnC exL) (Int.toNat 3) 9 (.sl 1 (litC [[DC.c (.string ⟨#[100]⟩)]]).n (litC [[DC.c (.string ⟨#[100]⟩)]]).cell)) (bnC exA) := bn_setR (by decide) (by (refine LeX.lit rfl ?_; repeat' (first | exact trivial | exact LeX.of_eq rfl | exact LeX.nil rfl | (refine LeX.lit rfl ?_) | refine nth1x ?_ | refine nth2x ?_ ?_ | refine nth3x ?_ ?_ ?_ | refine nth4x ?_ ?_ ?_ ?_ | refine And.intro ?_ ?_)))
  have hB : LeDC 10 (setC (bnC exL) (Int.toNat 1) 9 (.sl 1 (litC [[DC.c (.string ⟨#[113]⟩)]]).n (litC [[DC.c (.string ⟨#[113]⟩)]]).cell)) (bnC exB) := bn_setR (by decide) (by (refine LeX.lit rfl ?_; repeat' (first | exact trivial | exact LeX.of_eq rfl | exact LeX.nil rfl | (refine LeX.lit rfl ?_) | refine nth1x ?_ | refine nth2x ?_ ?_ | refine nth3x ?_ ?_ ?_ | refine nth4x ?_ ?_ ?_ ?_ | refine And.intro ?_ ?_)))
  (repeat' (first|(with_reducible refine AllP.go ?_;(first|exact trivial|exact fun _ _=>⟨_,rfl⟩|((try simp only [OS]);repeat' (first|omega|exact fun _ _=>⟨_,rfl⟩|refine And.intro ?_ ?_))))|(refine rg ?_ ?_)|(with_reducible first|refine stp ?_|refine tD rfl ?_)|refine ct ?_|refine cf ?_|((first|refine gs ?_ ?_|refine gl ?_ ?_|refine gc ?_ ?_)<;>intro h<;>(try simp only [NS] at h)<;>(try exact xf)<;>(try refine rn ?_ ?_))))
  (refine TE.freezeN 7 (by rfl) (by rfl) ?_)
  ((refine rn ?_ ?_);(repeat' (first|(with_reducible refine AllP.go ?_;(first|exact trivial|exact fun _ _=>⟨_,rfl⟩|((try simp only [OS]);repeat' (first|omega|exact fun _ _=>⟨_,rfl⟩|refine And.intro ?_ ?_))))|(refine rg ?_ ?_)|(with_reducible first|refine stp ?_|refine tD rfl ?_)|refine ct ?_|refine cf ?_|((first|refine gs ?_ ?_|refine gl ?_ ?_|refine gc ?_ ?_)<;>intro h<;>(try simp only [NS] at h)<;>(try exact xf)<;>(try refine rn ?_ ?_)))))
  (refine TE.freezeN 6 (by rfl) (by rfl) ?_)
  refine TE.callW (c6) rfl (by rfl) (by rfl) rfl (by rfl) ?_ ?_
  · refine AllP.go ?_
    refine And.intro rfl ?_
    exact hA
  intro _ _
  ((refine rn ?_ ?_);(repeat' (first|(with_reducible refine AllP.go ?_;(first|exact trivial|exact fun _ _=>⟨_,rfl⟩|((try simp only [OS]);repeat' (first|omega|exact fun _ _=>⟨_,rfl⟩|refine And.intro ?_ ?_))))|(refine rg ?_ ?_)|(with_reducible first|refine stp ?_|refine tD rfl ?_)|refine ct ?_|refine cf ?_|((first|refine gs ?_ ?_|refine gl ?_ ?_|refine gc ?_ ?_)<;>intro h<;>(try simp only [NS] at h)<;>(try exact xf)<;>(try refine rn ?_ ?_)))))
  refine TE.callW (example_c) rfl (by rfl) (by rfl) rfl (by rfl) (by (first|exact trivial|((with_reducible refine AllP.go ?_);dsimp only [AllP, appP];repeat' (first|with_reducible rfl|with_reducible exact LeD.refl|refine And.intro ?_ ?_|exact vi|rfl|exact vb|assumption|exact LeD.refl)))) ?_
  intro _ _
  ((refine rn ?_ ?_);(repeat' (first|(with_reducible refine AllP.go ?_;(first|exact trivial|exact fun _ _=>⟨_,rfl⟩|((try simp only [OS]);repeat' (first|omega|exact fun _ _=>⟨_,rfl⟩|refine And.intro ?_ ?_))))|(refine rg ?_ ?_)|(with_reducible first|refine stp ?_|refine tD rfl ?_)|refine ct ?_|refine cf ?_|((first|refine gs ?_ ?_|refine gl ?_ ?_|refine gc ?_ ?_)<;>intro h<;>(try simp only [NS] at h)<;>(try exact xf)<;>(try refine rn ?_ ?_)))))
  (refine TE.freezeN 9 (by rfl) (by rfl) ?_)
  ((refine rn ?_ ?_);(repeat' (first|(with_reducible refine AllP.go ?_;(first|exact trivial|exact fun _ _=>⟨_,rfl⟩|((try simp only [OS]);repeat' (first|omega|exact fun _ _=>⟨_,rfl⟩|refine And.intro ?_ ?_))))|(refine rg ?_ ?_)|(with_reducible first|refine stp ?_|refine tD rfl ?_)|refine ct ?_|refine cf ?_|((first|refine gs ?_ ?_|refine gl ?_ ?_|refine gc ?_ ?_)<;>intro h<;>(try simp only [NS] at h)<;>(try exact xf)<;>(try refine rn ?_ ?_)))))
  (refine TE.freezeN 8 (by rfl) (by rfl) ?_)
  refine TE.callW (c7) rfl (by rfl) (by rfl) rfl (by rfl) ?_ ?_
  · refine AllP.go ?_
    refine And.intro rfl ?_
    exact hB
  intro _ _
  ((refine rn ?_ ?_);(repeat' (first|(with_reducible refine AllP.go ?_;(first|exact trivial|exact fun _ _=>⟨_,rfl⟩|((try simp only [OS]);repeat' (first|omega|exact fun _ _=>⟨_,rfl⟩|refine And.intro ?_ ?_))))|(refine rg ?_ ?_)|(with_reducible first|refine stp ?_|refine tD rfl ?_)|refine ct ?_|refine cf ?_|((first|refine gs ?_ ?_|refine gl ?_ ?_|refine gc ?_ ?_)<;>intro h<;>(try simp only [NS] at h)<;>(try exact xf)<;>(try refine rn ?_ ?_)))))
  (refine TE.ret' io rfl tysOk (()) ?_ rfl (by rfl) ?_;all_goals (try (first|exact trivial|((with_reducible refine AllP.go ?_);dsimp only [AllP, appP];repeat' (first|with_reducible rfl|with_reducible exact LeD.refl|refine And.intro ?_ ?_|exact vi|rfl|exact vb|exact LeD.refl)))))
end Go.Proofs.Ythhpofehcnjmmaa.Am
/- Branches: what is looked at; the law of the checks. -/
set_option linter.unusedSimpArgs false
set_option linter.unusedVariables false
namespace Go.Proofs.Ythhpofehcnjmmaa.Am
open Go.RowKit Lw
open Br
/-- A node that is looked at. -/
def smB (x : Bn) : Prop := (x.nd.attrs.length ≤ 10 ∧ x.red.length ≤ 12 ∧ x.nd.name.size ≤ 1000 ∧ x.nd.data.size ≤ 1000) ∧ (∀ j, j < x.nd.attrs.length → (x.nd.attrs.getD j At.d0).1.size ≤ 1000 ∧ (x.nd.attrs.getD j At.d0).2.size ≤ 1000) ∧ ∀ j, j < x.red.length → (x.red.getD j eS).size ≤ 1000
def smL (l : List Bn) : Prop := l.length ≤ 130 ∧ ∀ j, j < l.length → smB (l.getD j b0)
set_option maxRecDepth 20000 in
set_option maxHeartbeats 4000000 in
theorem large_c (l : List Bn) : Con Try.prog 11 [.o (.ro 10 l.length (bnC l).cell)] [] 0 0 (fun r : Bool => r = false → smL l) (fun r => .o (.c (.bool r))) (fun _ => []) := by
  refine con_of Try.func11 rfl (by kernel_rfl) Try.ntmps11 rfl (by first | exact Nat.zero_le _ | decide) (fun _ => ⟨rfl, rfl⟩) fun w S ν => ?_
  (repeat' (first|(with_reducible refine AllP.go ?_;(first|exact trivial|exact fun _ _=>⟨_,rfl⟩|((try simp only [OS]);repeat' (first|omega|exact fun _ _=>⟨_,rfl⟩|refine And.intro ?_ ?_))))|(refine rg ?_ ?_)|(with_reducible first|refine stp ?_|refine tD rfl ?_)|refine ct ?_|refine cf ?_|((first|refine gs ?_ ?_|refine gl ?_ ?_|refine gc ?_ ?_)<;>intro h<;>(try simp only [NS] at h)<;>(try exact xf)<;>(try refine rn ?_ ?_))))
  refine TE.loopG (fun q : Nat => q ≤ l.length ∧ q ≤ 150 ∧ ∀ j, j < q → smB (l.getD j b0)) (fun q => [(3, .o (.c (.int .i64 q)))]) [] (fun _ => []) (fun q => l.length - q) 0 (by rfl) ⟨Nat.zero_le _, Nat.zero_le _, fun j hj => absurd hj (Nat.not_lt_zero _)⟩ ?_ ?_
  · (refine Ent.of rfl rfl (by rfl) ?_;(try (first|exact trivial|((with_reducible refine AllP.go ?_);dsimp only [AllP, appP];repeat' (first|with_reducible rfl|with_reducible exact LeD.refl|refine And.intro ?_ ?_|exact vi|rfl|exact vb|exact LeD.refl)))))
  rintro q ⟨h1, h2, h3⟩
  by_cases hlt : q < l.length ∧ q < 150
  · obtain ⟨hlt, h150⟩ := hlt
    by_cases hb : (l.getD q b0).nd.attrs.length ≤ 10 ∧ (l.getD q b0).red.length ≤ 12 ∧ (l.getD q b0).nd.name.size ≤ 1000 ∧ (l.getD q b0).nd.data.size ≤ 1000
    · have hb' := hb
      obtain ⟨b1, b2, b3, b4⟩ := hb'
      (repeat' (first|(with_reducible refine AllP.go ?_;(first|exact trivial|exact fun _ _=>⟨_,rfl⟩|((try simp only [OS]);repeat' (first|omega|exact fun _ _=>⟨_,rfl⟩|refine And.intro ?_ ?_))))|(refine rg ?_ ?_)|(with_reducible first|refine stp ?_|refine tD rfl ?_)|refine ct ?_|refine cf ?_|((first|refine gs ?_ ?_|refine gl ?_ ?_|refine gc ?_ ?_)<;>intro h<;>(try simp only [NS] at h)<;>(try exact xf)<;>(try refine rn ?_ ?_))))
      refine TE.loopG (fun j : Nat => j ≤ (l.getD q b0).nd.attrs.length ∧ ∀ i, i < j → ((l.getD q b0).nd.attrs.getD i At.d0).1.size ≤ 1000 ∧ ((l.getD q b0).nd.attrs.getD i At.d0).2.size ≤ 1000) (fun j => [(5, .o (.c (.int .i64 j)))]) [] (fun _ => []) (fun j => (l.getD q b0).nd.attrs.length - j) 0 (by rfl) ⟨Nat.zero_le _, fun j hj => absurd hj (Nat.not_lt_zero _)⟩ ?_ ?_
      · (refine Ent.of rfl rfl (by rfl) ?_;(try (first|exact trivial|((with_reducible refine AllP.go ?_);dsimp only [AllP, appP];repeat' (first|with_reducible rfl|with_reducible exact LeD.refl|refine And.intro ?_ ?_|exact vi|rfl|exact vb|exact LeD.refl)))))
      rintro j ⟨h4, h5⟩
      by_cases hj : j < (l.getD q b0).nd.attrs.length
      · by_cases hc : ((l.getD q b0).nd.attrs.getD j At.d0).1.size ≤ 1000 ∧ ((l.getD q b0).nd.attrs.getD j At.d0).2.size ≤ 1000
        · have hc' := hc
          obtain ⟨c1, c2⟩ := hc'
          (repeat' (first|(with_reducible refine AllP.go ?_;(first|exact trivial|exact fun _ _=>⟨_,rfl⟩|((try simp only [OS]);repeat' (first|omega|exact fun _ _=>⟨_,rfl⟩|refine And.intro ?_ ?_))))|(refine rg ?_ ?_)|(with_reducible first|refine stp ?_|refine tD rfl ?_)|refine ct ?_|refine cf ?_|((first|refine gs ?_ ?_|refine gl ?_ ?_|refine gc ?_ ?_)<;>intro h<;>(try simp only [NS] at h)<;>(try exact xf)<;>(try refine rn ?_ ?_))))
          refine TE.again' (j + 1) ⟨by omega, fun i hi => ?_⟩ (by omega) ?_
          · rcases Nat.lt_or_ge i j with h6 | h6
            · exact h5 i h6
            · obtain rfl : i = j := by omega
              exact hc
          · (refine Ent.of rfl rfl (by rfl) ?_;(try (first|exact trivial|((with_reducible refine AllP.go ?_);dsimp only [AllP, appP];repeat' (first|with_reducible rfl|with_reducible exact LeD.refl|refine And.intro ?_ ?_|exact vi|rfl|exact vb|exact LeD.refl)))))
        · (repeat' (first|(with_reducible refine AllP.go ?_;(first|exact trivial|exact fun _ _=>⟨_,rfl⟩|((try simp only [OS]);repeat' (first|omega|exact fun _ _=>⟨_,rfl⟩|refine And.intro ?_ ?_))))|(refine rg ?_ ?_)|(with_reducible first|refine stp ?_|refine tD rfl ?_)|refine ct ?_|refine cf ?_|((first|refine gs ?_ ?_|refine gl ?_ ?_|refine gc ?_ ?_)<;>intro h<;>(try simp only [NS] at h)<;>(try exact xf)<;>(try refine rn ?_ ?_))))
          all_goals
            (refine TE.ret' io rfl tysOk (true) ?_ rfl (by rfl) ?_;all_goals (try (first|exact trivial|((with_reducible refine AllP.go ?_);dsimp only [AllP, appP];repeat' (first|with_reducible rfl|with_reducible exact LeD.refl|refine And.intro ?_ ?_|exact vi|rfl|exact vb|exact LeD.refl)))))
            intro h
            cases h
      · obtain rfl : j = (l.getD q b0).nd.attrs.length := by omega
        (repeat' (first|(with_reducible refine AllP.go ?_;(first|exact trivial|exact fun _ _=>⟨_,rfl⟩|((try simp only [OS]);repeat' (first|omega|exact fun _ _=>⟨_,rfl⟩|refine And.intro ?_ ?_))))|(refine rg ?_ ?_)|(with_reducible first|refine stp ?_|refine tD rfl ?_)|refine ct ?_|refine cf ?_|((first|refine gs ?_ ?_|refine gl ?_ ?_|refine gc ?_ ?_)<;>intro h<;>(try simp only [NS] at h)<;>(try exact xf)<;>(try refine rn ?_ ?_))))
        refine TE.loopG (fun j : Nat => j ≤ (l.getD q b0).red.length ∧ ∀ i, i < j → ((l.getD q b0).red.getD i eS).size ≤ 1000) (fun j => [(6, .o (.c (.int .i64 j)))]) [] (fun _ => []) (fun j => (l.getD q b0).red.length - j) 0 (by rfl) ⟨Nat.zero_le _, fun j hj => absurd hj (Nat.not_lt_zero _)⟩ ?_ ?_
        · (refine Ent.of rfl rfl (by rfl) ?_;(try (first|exact trivial|((with_reducible refine AllP.go ?_);dsimp only [AllP, appP];repeat' (first|with_reducible rfl|with_reducible exact LeD.refl|refine And.intro ?_ ?_|exact vi|rfl|exact vb|exact LeD.refl)))))
        rintro j ⟨h6, h7⟩
        by_cases hj : j < (l.getD q b0).red.length
        · by_cases hc : ((l.getD q b0).red.getD j eS).size ≤ 1000
          · (repeat' (first|(with_reducible refine AllP.go ?_;(first|exact trivial|exact fun _ _=>⟨_,rfl⟩|((try simp only [OS]);repeat' (first|omega|exact fun _ _=>⟨_,rfl⟩|refine And.intro ?_ ?_))))|(refine rg ?_ ?_)|(with_reducible first|refine stp ?_|refine tD rfl ?_)|refine ct ?_|refine cf ?_|((first|refine gs ?_ ?_|refine gl ?_ ?_|refine gc ?_ ?_)<;>intro h<;>(try simp only [NS] at h)<;>(try exact xf)<;>(try refine rn ?_ ?_))))
            refine TE.again' (j + 1) ⟨by omega, fun i hi => ?_⟩ (by omega) ?_
            · rcases Nat.lt_or_ge i j with h8 | h8
              · exact h7 i h8
              · obtain rfl : i = j := by omega
                exact hc
            · (refine Ent.of rfl rfl (by rfl) ?_;(try (first|exact trivial|((with_reducible refine AllP.go ?_);dsimp only [AllP, appP];repeat' (first|with_reducible rfl|with_reducible exact LeD.refl|refine And.intro ?_ ?_|exact vi|rfl|exact vb|exact LeD.refl)))))
          · (repeat' (first|(with_reducible refine AllP.go ?_;(first|exact trivial|exact fun _ _=>⟨_,rfl⟩|((try simp only [OS]);repeat' (first|omega|exact fun _ _=>⟨_,rfl⟩|refine And.intro ?_ ?_))))|(refine rg ?_ ?_)|(with_reducible first|refine stp ?_|refine tD rfl ?_)|refine ct ?_|refine cf ?_|((first|refine gs ?_ ?_|refine gl ?_ ?_|refine gc ?_ ?_)<;>intro h<;>(try simp only [NS] at h)<;>(try exact xf)<;>(try refine rn ?_ ?_))))
            all_goals
              (refine TE.ret' io rfl tysOk (true) ?_ rfl (by rfl) ?_;all_goals (try (first|exact trivial|((with_reducible refine AllP.go ?_);dsimp only [AllP, appP];repeat' (first|with_reducible rfl|with_reducible exact LeD.refl|refine And.intro ?_ ?_|exact vi|rfl|exact vb|exact LeD.refl)))))
              intro h
              cases h
        · obtain rfl : j = (l.getD q b0).red.length := by omega
          (repeat' (first|(with_reducible refine AllP.go ?_;(first|exact trivial|exact fun _ _=>⟨_,rfl⟩|((try simp only [OS]);repeat' (first|omega|exact fun _ _=>⟨_,rfl⟩|refine And.intro ?_ ?_))))|(refine rg ?_ ?_)|(with_reducible first|refine stp ?_|refine tD rfl ?_)|refine ct ?_|refine cf ?_|((first|refine gs ?_ ?_|refine gl ?_ ?_|refine gc ?_ ?_)<;>intro h<;>(try simp only [NS] at h)<;>(try exact xf)<;>(try refine rn ?_ ?_))))
          refine TE.again' (q + 1) ⟨by omega, by omega, fun i hi => ?_⟩ (by omega) ?_
          · rcases Nat.lt_or_ge i q with h8 | h8
            · exact h3 i h8
            · obtain rfl : i = q := by omega
              exact ⟨hb, h5, h7⟩
          · (refine Ent.of rfl rfl (by rfl) ?_;(try (first|exact trivial|((with_reducible refine AllP.go ?_);dsimp only [AllP, appP];repeat' (first|with_reducible rfl|with_reducible exact LeD.refl|refine And.intro ?_ ?_|exact vi|rfl|exact vb|exact LeD.refl)))))
    · (repeat' (first|(with_reducible refine AllP.go ?_;(first|exact trivial|exact fun _ _=>⟨_,rfl⟩|((try simp only [OS]);repeat' (first|omega|exact fun _ _=>⟨_,rfl⟩|refine And.intro ?_ ?_))))|(refine rg ?_ ?_)|(with_reducible first|refine stp ?_|refine tD rfl ?_)|refine ct ?_|refine cf ?_|((first|refine gs ?_ ?_|refine gl ?_ ?_|refine gc ?_ ?_)<;>intro h<;>(try simp only [NS] at h)<;>(try exact xf)<;>(try refine rn ?_ ?_))))
      all_goals
        (refine TE.ret' io rfl tysOk (true) ?_ rfl (by rfl) ?_;all_goals (try (first|exact trivial|((with_reducible refine AllP.go ?_);dsimp only [AllP, appP];repeat' (first|with_reducible rfl|with_reducible exact LeD.refl|refine And.intro ?_ ?_|exact vi|rfl|exact vb|exact LeD.refl)))))
        intro h
        cases h
  · (repeat' (first|(with_reducible refine AllP.go ?_;(first|exact trivial|exact fun _ _=>⟨_,rfl⟩|((try simp only [OS]);repeat' (first|omega|exact fun _ _=>⟨_,rfl⟩|refine And.intro ?_ ?_))))|(refine rg ?_ ?_)|(with_reducible first|refine stp ?_|refine tD rfl ?_)|refine ct ?_|refine cf ?_|((first|refine gs ?_ ?_|refine gl ?_ ?_|refine gc ?_ ?_)<;>intro h<;>(try simp only [NS] at h)<;>(try exact xf)<;>(try refine rn ?_ ?_))))
    all_goals
      (refine TE.ret' io rfl tysOk (decide (130 < (l.length : Int))) ?_ rfl (by rfl) ?_;all_goals (try (first|exact trivial|((with_reducible refine AllP.go ?_);dsimp only [AllP, appP];repeat' (first|with_reducible rfl|with_reducible exact LeD.refl|refine And.intro ?_ ?_|exact vi|rfl|exact vb|exact LeD.refl)))))
      intro h
      have h6 := of_decide_eq_false h
      obtain rfl : q = l.length := by omega
      exact ⟨by omega, h3⟩
theorem sizeI_small {l : List At.At} (h : ∀ j, j < l.length → (l.getD j At.d0).1.size ≤ 1000 ∧ (l.getD j At.d0).2.size ≤ 1000) : At.sizeI l ≤ 2002 * l.length := by
  have h1 : ∀ q, q ≤ l.length → At.sizeI (l.take q) ≤ 2002 * q := by
    intro q
    induction q with
    | zero => intro _; simp [At.sizeI]
    | succ q ih =>
      intro hq
      rw [At.sizeI_snoc (by omega)]
      have h2 := h q (by omega)
      have h3 := ih (by omega)
      omega
  have h4 := h1 l.length (Nat.le_refl _)
  rwa [List.take_length] at h4
theorem sm_ok {l : List Bn} (h : smL l) : l.length ≤ 1000000 ∧ ∀ x ∈ l, okB x := by
  refine ⟨by have := h.1; omega, fun x hx => ?_⟩
  obtain ⟨i, hi, rfl⟩ := List.getElem_of_mem hx
  have h1 := h.2 i hi
  rw [List.getD_eq_getElem?_getD, List.getElem?_eq_getElem hi] at h1
  have h1 : smB l[i] := h1
  obtain ⟨⟨h2, h3, h4, h5⟩, h6, h7⟩ := h1
  refine ⟨⟨by omega, ?_, by omega⟩, by omega, fun s hs => ?_⟩
  · have := sizeI_small h6
    omega
  · obtain ⟨j, hj, rfl⟩ := List.getElem_of_mem hs
    have h8 := h7 j hj
    rw [List.getD_eq_getElem?_getD, List.getElem?_eq_getElem hj] at h8
    exact Nat.le_trans h8 (by decide)
end Go.Proofs.Ythhpofehcnjmmaa.Am
/- The branches' arguments, opened. -/
set_option linter.unusedSimpArgs false
set_option linter.unusedVariables false
namespace Go.Proofs.Ythhpofehcnjmmaa.Am
open Go.RowKit Lw At Br
theorem not_st {P : Program} {t : TypeId} {d : TypeDesc} (h : P.underlying t = some d) (hd : ∀ fs, d ≠ .struct fs) : ∀ fs, P.underlying t ≠ some (.struct fs) := fun fs e => hd fs (Option.some.inj (h.symm.trans e))
theorem not_ar {P : Program} {t : TypeId} {d : TypeDesc} (h : P.underlying t = some d) (hd : ∀ n e, d ≠ .array n e) : ∀ n e, P.underlying t ≠ some (.array n e) := fun n e' e => hd n e' (Option.some.inj (h.symm.trans e))
theorem do_strs : DOpen Try.prog 36 1 (slR 1 strR eS) (listG strG) := DOpen.slice (e := 9) (DOpen.str (by kernel_rfl) (by kernel_rfl)) eS (by kernel_rfl) (by kernel_rfl)
def atGood (x : At.At) : Prop := x.1.size ≤ maxLen ∧ x.2.size ≤ maxLen
theorem do_at : DOpen Try.prog 67 2 atR atGood := by
  have h0 := DOpen.struct (P := Try.prog) (t := 67) (by kernel_rfl) (by decide) Try.underlying67 (DFields.cons rfl (DOpen.str (by kernel_rfl) (by kernel_rfl)) (DFields.cons rfl (DOpen.str (by kernel_rfl) (by kernel_rfl)) DFields.nil))
  refine h0.map (fun x => ((x.1, x.2.1) : At.At)) (fun x j hj => ?_) fun x g => (show atGood _ from ⟨g.1, g.2.1⟩)
  match j, hj with
  | 0, _ => rfl
  | 1, _ => rfl
theorem do_ats : DOpen Try.prog 48 1 (slR 2 atR d0) (listG atGood) := DOpen.slice (e := 67) do_at _ (by kernel_rfl) (by kernel_rfl)
def bnGood (x : Bn) : Prop := intG x.nd.depth ∧ strG x.nd.name ∧ intG x.nd.kind ∧ listG atGood x.nd.attrs ∧ strG x.nd.data ∧ intG x.nd.major ∧ intG x.nd.minor ∧ intG x.nd.cls ∧ listG strG x.red
theorem do_bn : DOpen Try.prog 50 10 bnR bnGood := by
  have h0 := DOpen.struct (P := Try.prog) (t := 50) (by kernel_rfl) (by decide) Try.underlying50 (DFields.cons rfl (DOpen.i64 (by kernel_rfl) (by kernel_rfl)) (DFields.cons rfl (DOpen.str (by kernel_rfl) (by kernel_rfl)) (DFields.cons rfl (DOpen.i64 (by kernel_rfl) (by kernel_rfl)) (DFields.cons rfl do_ats (DFields.cons rfl (DOpen.str (by kernel_rfl) (by kernel_rfl)) (DFields.cons rfl (DOpen.i64 (by kernel_rfl) (by kernel_rfl)) (DFields.cons rfl (DOpen.i64 (by kernel_rfl) (by kernel_rfl)) (DFields.cons rfl (DOpen.i64 (by kernel_rfl) (by kernel_rfl)) (DFields.cons rfl (DOpen.bool (by kernel_rfl) (by kernel_rfl)) (DFields.cons rfl do_strs DFields.nil))))))))))
  refine h0.map (fun x => (⟨⟨x.1, x.2.1, x.2.2.1, x.2.2.2.1, x.2.2.2.2.1, x.2.2.2.2.2.1, x.2.2.2.2.2.2.1, x.2.2.2.2.2.2.2.1⟩, x.2.2.2.2.2.2.2.2.1, x.2.2.2.2.2.2.2.2.2.1⟩ : Bn)) (fun x j hj => ?_) fun x g => (show bnGood _ from ⟨g.1, g.2.1, g.2.2.1, g.2.2.2.1, g.2.2.2.2.1, g.2.2.2.2.2.1, g.2.2.2.2.2.2.1, g.2.2.2.2.2.2.2.1, g.2.2.2.2.2.2.2.2.2.1⟩)
  match j, hj with
  | 0, _ => rfl
  | 1, _ => rfl
  | 2, _ => rfl
  | 3, _ => rfl
  | 4, _ => rfl
  | 5, _ => rfl
  | 6, _ => rfl
  | 7, _ => rfl
  | 8, _ => rfl
  | 9, _ => rfl
theorem do_bns : DOpen Try.prog 22 1 (slR 10 bnR b0) (listG bnGood) := DOpen.slice (e := 50) do_bn _ (by kernel_rfl) (by kernel_rfl)
theorem ao_bns : AOpen Try.prog 22 (fun l : List Bn => .o (.ro 10 l.length (bnC l).cell)) (listG bnGood) :=
  AOpen.one do_bns (not_st (d := .slice 50) (by kernel_rfl) fun _ h => by cases h) (not_ar (d := .slice 50) (by kernel_rfl) fun _ _ h => by cases h)
end Go.Proofs.Ythhpofehcnjmmaa.Am
/- Branches: a rule is broken. -/
set_option linter.unusedSimpArgs false
set_option linter.unusedVariables false
namespace Go.Proofs.Ythhpofehcnjmmaa.Am
open Go.RowKit Lw
open Br At
/-- A spoil: what, at, other. -/
abbrev Sp := UInt8 × UInt8 × UInt8
def spR (x : Sp) (j : Nat) : DC := match j with
  | 0 => .c (.int .u8 x.1.toNat)
  | 1 => .c (.int .u8 x.2.1.toNat)
  | _ => .c (.int .u8 x.2.2.toNat)
abbrev spA (x : Sp) : List A1 := [.c (.int .u8 x.1.toNat), .c (.int .u8 x.2.1.toNat), .c (.int .u8 x.2.2.toNat)]
theorem do_sp : DOpen Try.prog 32 3 spR Any := by
  have h0 := DOpen.struct (P := Try.prog) (t := 32) (by kernel_rfl) (by decide) Try.underlying32 (DFields.cons rfl (DOpen.u8 (by kernel_rfl) (by kernel_rfl)) (DFields.cons rfl (DOpen.u8 (by kernel_rfl) (by kernel_rfl)) (DFields.cons rfl (DOpen.u8 (by kernel_rfl) (by kernel_rfl)) DFields.nil)))
  refine h0.map (fun x => ((x.1, x.2.1, x.2.2.1) : Sp)) (fun x j hj => ?_) fun x g => trivial
  match j, hj with
  | 0, _ => rfl
  | 1, _ => rfl
  | 2, _ => rfl
theorem ao_sp : AOpen Try.prog 32 (fun x : Sp => .g (spA x)) Any :=
  AOpen.agg do_sp (.inl ⟨_, Try.underlying32⟩)
abbrev fre (x : Bn) : Bool := decide (x.nd.kind = 1) && (!x.opq && decide (x.red = []))
theorem bn_setO {l : List Bn} {i : Nat} {d : DC} {o : Bool} (hi : i < l.length) (h : LeX d (bnR { l.getD i b0 with opq := o } 8)) : LeDC 10 (setC (bnC l) i 8 d) (bnC (l.set i { l.getD i b0 with opq := o })) := by
  refine ⟨(List.length_set ..).symm, fun a j ha hj => ?_⟩
  show LeX (if a = i ∧ j = 8 then d else bnR (l.getD a b0) j) (bnR ((l.set i { l.getD i b0 with opq := o }).getD a b0) j)
  rw [getD_set hi]
  by_cases e : a = i
  · subst e
    rw [if_pos rfl]
    by_cases e2 : j = 8
    · subst e2
      rw [if_pos ⟨rfl, rfl⟩]
      exact h
    · rw [if_neg (fun k => e2 k.2)]
      refine LeX.of_eq ?_
      match j, hj, e2 with
      | 0, _, _ => rfl
      | 1, _, _ => rfl
      | 2, _, _ => rfl
      | 3, _, _ => rfl
      | 4, _, _ => rfl
      | 5, _, _ => rfl
      | 6, _, _ => rfl
      | 7, _, _ => rfl
      | 8, _, h => exact absurd rfl h
      | 9, _, _ => rfl
      | j + 10, h, _ => omega
  · rw [if_neg (fun k => e k.1), if_neg e]
    exact LeX.of_eq rfl
theorem bn_setOR {l : List Bn} {i : Nat} {d e : DC} {o : Bool} {r : List ByteArray} (hi : i < l.length) (h : LeX d (bnR { l.getD i b0 with opq := o, red := r } 8)) (h2 : LeX e (bnR { l.getD i b0 with opq := o, red := r } 9)) : LeDC 10 (setC (setC (bnC l) i 8 d) i 9 e) (bnC (l.set i { l.getD i b0 with opq := o, red := r })) := by
  refine ⟨(List.length_set ..).symm, fun a j ha hj => ?_⟩
  show LeX (if a = i ∧ j = 9 then e else if a = i ∧ j = 8 then d else bnR (l.getD a b0) j) (bnR ((l.set i { l.getD i b0 with opq := o, red := r }).getD a b0) j)
  rw [getD_set hi]
  by_cases c : a = i
  · subst c
    rw [if_pos rfl]
    match j, hj with
    | 0, _ => rw [if_neg (by omega), if_neg (by omega)]; exact LeX.of_eq rfl
    | 1, _ => rw [if_neg (by omega), if_neg (by omega)]; exact LeX.of_eq rfl
    | 2, _ => rw [if_neg (by omega), if_neg (by omega)]; exact LeX.of_eq rfl
    | 3, _ => rw [if_neg (by omega), if_neg (by omega)]; exact LeX.of_eq rfl
    | 4, _ => rw [if_neg (by omega), if_neg (by omega)]; exact LeX.of_eq rfl
    | 5, _ => rw [if_neg (by omega), if_neg (by omega)]; exact LeX.of_eq rfl
    | 6, _ => rw [if_neg (by omega), if_neg (by omega)]; exact LeX.of_eq rfl
    | 7, _ => rw [if_neg (by omega), if_neg (by omega)]; exact LeX.of_eq rfl
    | 8, _ => rw [if_neg (by omega), if_pos ⟨rfl, rfl⟩]; exact h
    | 9, _ => rw [if_pos ⟨rfl, rfl⟩]; exact h2
    | j + 10, h => omega
  · rw [if_neg (fun k => c k.1), if_neg (fun k => c k.1), if_neg c]
    exact LeX.of_eq rfl
theorem place_okP' {l : List Bn} (hB : Bok l) {q : Nat} (hq : q < l.length) : okP (pathI (nds l) q) := by
  have hti : (nds l).length = l.length := List.length_map ..
  have h1 := pcheck_iff.1 (path_ok (bok_tok hB) q (by omega))
  refine ⟨by have := h1.1; omega, fun s hs => ?_⟩
  have := (name_size (h1.2 s hs)).1
  omega
theorem fre_a {y : Bn} (h : y.nd.kind = 1) (ho : y.opq = false) : decide (((y.red.length : Nat) : Int) = 0) = fre y := by
  rw [Bool.eq_iff_iff]
  simp [fre, h, ho]
theorem fre_b {y : Bn} (h : y.opq = true) : fre y = false := by simp [fre, h]
theorem fre_c {y : Bn} (h : ¬ y.nd.kind = 1) : fre y = false := by simp [fre, h]
/-- Where the switch of spoilt begins. -/
abbrev spS (l : List Bn) (x : Sp) (i k : Nat) : AS := ⟨[(10, .o (.sb (fre (l.getD i b0)))), (9, .o (.sb (decide ((l.getD i b0).nd.kind = 1)))), (8, .o (.c (.int .i64 k))), (7, .o (.c (.int .i64 i))), (6, .o (.c (.int .i64 0))), (5, .o (.c (.int .i64 0))), (4, .o (.c (.slice none 0 0))), (3, .o (.ptr 1 0)), (0, .o (.own 0))], [.box 1 32 (spA x), .own 0 50 10 (bnC l)], 2⟩
set_option maxRecDepth 20000 in
set_option maxHeartbeats 16000000 in
theorem spoilt_w (l : List Bn) (x : Sp) (c i k : Nat) (hw : x.1.toNat % 6 = c) (hi : x.2.1.toNat % l.length = i) (hk : x.2.2.toNat % l.length = k) (hl : l.length ≤ 1000000) (h0 : 0 < l.length) (hx : ∀ x ∈ l, okB x) (hB : Bok l) : Con Try.prog 18 [.o (.own 0), .g (spA x)] [.own 0 50 10 (bnC l)] 1 1 U (fun _ => .t [.inl (.ro 10 (spoilX l c i k).1.length (bnC (spoilX l c i k).1).cell), .inl (.c (.int .i64 (spoilX l c i k).2.1)), .inl (.c (.int .i64 (spoilX l c i k).2.2))]) (fun _ => []) := by
  have hi' := Nat.mod_lt x.2.1.toNat h0
  have hk' := Nat.mod_lt x.2.2.toNat h0
  have hw6 := Nat.mod_lt x.1.toNat (show 0 < 6 by decide)
  rw [hi] at hi'
  rw [hk] at hk'
  rw [hw] at hw6
  refine con_of0 Try.func18 rfl (by kernel_rfl) Try.ntmps18 rfl (by first | exact Nat.zero_le _ | decide) (fun _ => ⟨rfl, rfl⟩) fun w S ν => ?_
  have hx1 := x.2.1.toNat_lt
  have hx2 := x.2.2.toNat_lt
  have hie : ((x.2.1.toNat : Int) % ((bnC l).n : Int)) = (i : Int) := by rw [← hi]; rfl
  have hke : ((x.2.2.toNat : Int) % ((bnC l).n : Int)) = (k : Int) := by rw [← hk]; rfl
  have hwe : ((x.1.toNat : Int) % 6) = (c : Int) := by rw [← hw]; rfl
  have hn : (bnC l).n = l.length := rfl
  have hrl : (l.getD i b0).red = [] ↔ (l.getD i b0).red.length = 0 := List.length_eq_zero_iff.symm
  have hfr : fre (l.getD i b0) = freeB (l.getD i b0) := rfl
  (repeat' (first|(with_reducible refine AllP.go ?_;(first|exact trivial|exact fun _ _=>⟨_,rfl⟩|((try simp only [OS]);repeat' (first|omega|exact fun _ _=>⟨_,rfl⟩|refine And.intro ?_ ?_))))|(refine rg ?_ ?_)|(with_reducible first|refine stp ?_|refine tD rfl ?_)|refine ct ?_|refine cf ?_|((first|refine gs ?_ ?_|refine gl ?_ ?_|refine gc ?_ ?_)<;>intro h<;>(try simp only [NS] at h)<;>(try exact xf)<;>(try refine rn ?_ ?_))))
  ((refine dn ?_);repeat' (first|(with_reducible refine AllP.go ?_;(first|exact trivial|exact fun _ _=>⟨_,rfl⟩|((try simp only [OS]);repeat' (first|omega|exact fun _ _=>⟨_,rfl⟩|refine And.intro ?_ ?_))))|(with_reducible first|exact PanicOk.body|exact rd.panic|refine PanicOk.then' ?_|refine PanicOk.block ?_|refine PanicOk.jump ?_)|(refine TL.done (by rfl) ?_)|(refine TL.auto tysOk rfl ?_ (by rfl) ?_ ?_)|((refine TL.one (by rfl) ?_);first|(refine sm ?_ ?_)|(refine sp ?_ ?_))|(refine sm ?_ ?_)|((first|refine gl ?_ ?_|refine gc ?_ ?_)<;>intro h<;>(try simp only [NS] at h)<;>(try exact xf))))
  (refine TE.only [8, 7, 6, 5, 4, 3, 0] (by rfl) ?_)
  rw [hie, hke]
  clear hie hke hx1 hx2 hi hk
  (repeat (with_reducible first|refine stp ?_|refine tD rfl ?_))
  ((refine rg ?_ ?_);try (with_reducible refine AllP.go ?_;(first|exact trivial|exact fun _ _=>⟨_,rfl⟩|((try simp only [OS]);repeat' (first|omega|exact fun _ _=>⟨_,rfl⟩|refine And.intro ?_ ?_)))))
  (simp only [Int.toNat_natCast])
  refine TE.done (TE.thenN ?_)
  (refine TE.seqM (ι := Unit) (fun _ => True) (fun _ => spS l x i k) ?_ fun _ _ => ?_)
  · ((refine rg ?_ ?_);try (with_reducible refine AllP.go ?_;(first|exact trivial|exact fun _ _=>⟨_,rfl⟩|((try simp only [OS]);repeat' (first|omega|exact fun _ _=>⟨_,rfl⟩|refine And.intro ?_ ?_)))))
    refine TE.gsplit (by rfl) (by rfl) ?_ ?_ <;> (intro h; (try simp only [NS] at h))
    · iterate 5 (refine TE.step rfl rfl rfl (fun _ h => nomatch h) (m_pure tysOk rfl ?_) ?_;rotate_left;rintro _ rfl;rotate_right;(with_reducible refine AllP.go ?_;(first|exact trivial|exact fun _ _=>⟨_,rfl⟩|((try simp only [OS]);repeat' (first|omega|exact fun _ _=>⟨_,rfl⟩|refine And.intro ?_ ?_)))))
      refine TE.norm (by rfl) ?_
      (simp only [Int.toNat_natCast])
      cases ho : (l.getD i b0).opq
      · ((refine rn ?_ ?_);try (with_reducible refine AllP.go ?_;(first|exact trivial|exact fun _ _=>⟨_,rfl⟩|((try simp only [OS]);repeat' (first|omega|exact fun _ _=>⟨_,rfl⟩|refine And.intro ?_ ?_)))))
        (repeat' (first|(with_reducible refine AllP.go ?_;(first|exact trivial|exact fun _ _=>⟨_,rfl⟩|((try simp only [OS]);repeat' (first|omega|exact fun _ _=>⟨_,rfl⟩|refine And.intro ?_ ?_))))|(refine rg ?_ ?_)|(with_reducible first|refine stp ?_|refine tD rfl ?_)|refine ct ?_|refine cf ?_|((first|refine gs ?_ ?_|refine gl ?_ ?_|refine gc ?_ ?_)<;>intro h<;>(try simp only [NS] at h)<;>(try exact xf)<;>(try refine rn ?_ ?_))))
        (refine TE.at () trivial ?_;(refine Ent.of rfl rfl (by rfl) ?_;(try (first|exact trivial|((with_reducible refine AllP.go ?_);dsimp only [AllP, appP];repeat' (first|with_reducible rfl|with_reducible exact LeD.refl|refine And.intro ?_ ?_|exact vi|rfl|exact vb|exact LeD.refl))))))
        exact fre_a h ho
      · ((refine rn ?_ ?_);try (with_reducible refine AllP.go ?_;(first|exact trivial|exact fun _ _=>⟨_,rfl⟩|((try simp only [OS]);repeat' (first|omega|exact fun _ _=>⟨_,rfl⟩|refine And.intro ?_ ?_)))))
        (repeat' (first|(with_reducible refine AllP.go ?_;(first|exact trivial|exact fun _ _=>⟨_,rfl⟩|((try simp only [OS]);repeat' (first|omega|exact fun _ _=>⟨_,rfl⟩|refine And.intro ?_ ?_))))|(refine rg ?_ ?_)|(with_reducible first|refine stp ?_|refine tD rfl ?_)|refine ct ?_|refine cf ?_|((first|refine gs ?_ ?_|refine gl ?_ ?_|refine gc ?_ ?_)<;>intro h<;>(try simp only [NS] at h)<;>(try exact xf)<;>(try refine rn ?_ ?_))))
        (refine TE.at () trivial ?_;(refine Ent.of rfl rfl (by rfl) ?_;(try (first|exact trivial|((with_reducible refine AllP.go ?_);dsimp only [AllP, appP];repeat' (first|with_reducible rfl|with_reducible exact LeD.refl|refine And.intro ?_ ?_|exact vi|rfl|exact vb|exact LeD.refl))))))
        exact congrArg Value.bool (fre_b ho).symm
    · ((refine rn ?_ ?_);(repeat' (first|(with_reducible refine AllP.go ?_;(first|exact trivial|exact fun _ _=>⟨_,rfl⟩|((try simp only [OS]);repeat' (first|omega|exact fun _ _=>⟨_,rfl⟩|refine And.intro ?_ ?_))))|(refine rg ?_ ?_)|(with_reducible first|refine stp ?_|refine tD rfl ?_)|refine ct ?_|refine cf ?_|((first|refine gs ?_ ?_|refine gl ?_ ?_|refine gc ?_ ?_)<;>intro h<;>(try simp only [NS] at h)<;>(try exact xf)<;>(try refine rn ?_ ?_)))))
      (refine TE.at () trivial ?_;(refine Ent.of rfl rfl (by rfl) ?_;(try (first|exact trivial|((with_reducible refine AllP.go ?_);dsimp only [AllP, appP];repeat' (first|with_reducible rfl|with_reducible exact LeD.refl|refine And.intro ?_ ?_|exact vi|rfl|exact vb|exact LeD.refl))))))
      exact congrArg Value.bool (fre_c h).symm
  (repeat (with_reducible first|refine stp ?_|refine tD rfl ?_))
  ((refine rg ?_ ?_);try (with_reducible refine AllP.go ?_;(first|exact trivial|exact fun _ _=>⟨_,rfl⟩|((try simp only [OS]);repeat' (first|omega|exact fun _ _=>⟨_,rfl⟩|refine And.intro ?_ ?_)))))
  refine TE.done (TE.thenN ?_)
  rw [hwe]
  clear hwe hw
  have hw : c = 0 ∨ c = 1 ∨ c = 2 ∨ c = 3 ∨ c = 4 ∨ c = 5 := by omega
  (refine TE.only [50, 10, 9, 8, 7, 6, 5, 4, 0] (by rfl) ?_)
  have hti : (nds l).length = l.length := List.length_map ..
  have hxn : ∀ x ∈ l, lenN x.nd := fun x h => (hx x h).1.1
  have hT : Tok (nds l) := bok_tok hB
  have hdp := path_len hT (k := i) (by omega)
  rw [nds_getD] at hdp
  have hdl := (pcheck_iff.1 (path_ok hT i (by omega))).1
  rcases hw with rfl | rfl | rfl | rfl | rfl | rfl
  · by_cases hk1 : (l.getD i b0).nd.kind = 1
    · rw [show spoilX l 0 i k = (l.set i { l.getD i b0 with opq := true }, 0, 0) by show (_, ite _ _ _) = _; rw [if_pos hk1]]
      (repeat' (first|(with_reducible refine AllP.go ?_;(first|exact trivial|exact fun _ _=>⟨_,rfl⟩|((try simp only [OS]);repeat' (first|omega|exact fun _ _=>⟨_,rfl⟩|refine And.intro ?_ ?_))))|(refine rg ?_ ?_)|(with_reducible first|refine stp ?_|refine tD rfl ?_)|refine ct ?_|refine cf ?_|((first|refine gs ?_ ?_|refine gl ?_ ?_|refine gc ?_ ?_)<;>intro h<;>(try simp only [NS] at h)<;>(try exact xf)<;>(try refine rn ?_ ?_))))
      (refine TE.freezeN 0 (by rfl) (by rfl) ?_)
      (refine TE.ret' io rfl tysOk (()) ?_ rfl (by rfl) ?_;all_goals (try (first|exact trivial|((with_reducible refine AllP.go ?_);dsimp only [AllP, appP];repeat' (first|with_reducible rfl|with_reducible exact LeD.refl|refine And.intro ?_ ?_|exact vi|rfl|exact vb|exact LeD.refl)))))
      exact bn_setO hi' (LeX.of_eq rfl)
    · rw [show spoilX l 0 i k = (l.set i { l.getD i b0 with opq := true }, (i : Int), 14) by show (_, ite _ _ _) = _; rw [if_neg hk1]]
      (repeat' (first|(with_reducible refine AllP.go ?_;(first|exact trivial|exact fun _ _=>⟨_,rfl⟩|((try simp only [OS]);repeat' (first|omega|exact fun _ _=>⟨_,rfl⟩|refine And.intro ?_ ?_))))|(refine rg ?_ ?_)|(with_reducible first|refine stp ?_|refine tD rfl ?_)|refine ct ?_|refine cf ?_|((first|refine gs ?_ ?_|refine gl ?_ ?_|refine gc ?_ ?_)<;>intro h<;>(try simp only [NS] at h)<;>(try exact xf)<;>(try refine rn ?_ ?_))))
      (refine TE.freezeN 0 (by rfl) (by rfl) ?_)
      (refine TE.ret' io rfl tysOk (()) ?_ rfl (by rfl) ?_;all_goals (try (first|exact trivial|((with_reducible refine AllP.go ?_);dsimp only [AllP, appP];repeat' (first|with_reducible rfl|with_reducible exact LeD.refl|refine And.intro ?_ ?_|exact vi|rfl|exact vb|exact LeD.refl)))))
      exact bn_setO hi' (LeX.of_eq rfl)
  · rw [show spoilX l 1 i k = (l.set 0 { l.getD 0 b0 with red := swe }, 0, 14) from rfl]
    (repeat' (first|(with_reducible refine AllP.go ?_;(first|exact trivial|exact fun _ _=>⟨_,rfl⟩|((try simp only [OS]);repeat' (first|omega|exact fun _ _=>⟨_,rfl⟩|refine And.intro ?_ ?_))))|(refine rg ?_ ?_)|(with_reducible first|refine stp ?_|refine tD rfl ?_)|refine ct ?_|refine cf ?_|((first|refine gs ?_ ?_|refine gl ?_ ?_|refine gc ?_ ?_)<;>intro h<;>(try simp only [NS] at h)<;>(try exact xf)<;>(try refine rn ?_ ?_))))
    (refine TE.freezeN 2 (by rfl) (by rfl) ?_)
    ((refine rn ?_ ?_);(repeat' (first|(with_reducible refine AllP.go ?_;(first|exact trivial|exact fun _ _=>⟨_,rfl⟩|((try simp only [OS]);repeat' (first|omega|exact fun _ _=>⟨_,rfl⟩|refine And.intro ?_ ?_))))|(refine rg ?_ ?_)|(with_reducible first|refine stp ?_|refine tD rfl ?_)|refine ct ?_|refine cf ?_|((first|refine gs ?_ ?_|refine gl ?_ ?_|refine gc ?_ ?_)<;>intro h<;>(try simp only [NS] at h)<;>(try exact xf)<;>(try refine rn ?_ ?_)))))
    (refine TE.freezeN 0 (by rfl) (by rfl) ?_)
    (refine TE.ret' io rfl tysOk (()) ?_ rfl (by rfl) ?_;all_goals (try (first|exact trivial|((with_reducible refine AllP.go ?_);dsimp only [AllP, appP];repeat' (first|with_reducible rfl|with_reducible exact LeD.refl|refine And.intro ?_ ?_|exact vi|rfl|exact vb|exact LeD.refl)))))
    exact bn_setR h0 (by (refine LeX.lit rfl ?_; repeat' (first | exact trivial | exact LeX.of_eq rfl | exact LeX.nil rfl | (refine LeX.lit rfl ?_) | refine nth1x ?_ | refine nth2x ?_ ?_ | refine nth3x ?_ ?_ ?_ | refine nth4x ?_ ?_ ?_ ?_ | refine And.intro ?_ ?_)))
  · cases hF : fre (l.getD i b0)
    · have c1 : ¬ freeB (l.getD i b0) = true := by rw [← hfr, hF]; decide
      rw [show spoilX l 2 i k = (l, 0, 0) from if_neg fun q => c1 q.1]
      (repeat' (first|(with_reducible refine AllP.go ?_;(first|exact trivial|exact fun _ _=>⟨_,rfl⟩|((try simp only [OS]);repeat' (first|omega|exact fun _ _=>⟨_,rfl⟩|refine And.intro ?_ ?_))))|(refine rg ?_ ?_)|(with_reducible first|refine stp ?_|refine tD rfl ?_)|refine ct ?_|refine cf ?_|((first|refine gs ?_ ?_|refine gl ?_ ?_|refine gc ?_ ?_)<;>intro h<;>(try simp only [NS] at h)<;>(try exact xf)<;>(try refine rn ?_ ?_))))
      (refine TE.freezeN 0 (by rfl) (by rfl) ?_)
      (refine TE.ret' io rfl tysOk (()) ?_ rfl (by rfl) ?_;all_goals (try (first|exact trivial|((with_reducible refine AllP.go ?_);dsimp only [AllP, appP];repeat' (first|with_reducible rfl|with_reducible exact LeD.refl|refine And.intro ?_ ?_|exact vi|rfl|exact vb|exact LeD.refl)))))
    have c1 : freeB (l.getD i b0) = true := hF
    by_cases c2 : 0 < i
    · rw [show spoilX l 2 i k = (l.set i { l.getD i b0 with opq := true, red := swe }, (i : Int), 6) from if_pos ⟨c1, c2⟩]
      (repeat' (first|(with_reducible refine AllP.go ?_;(first|exact trivial|exact fun _ _=>⟨_,rfl⟩|((try simp only [OS]);repeat' (first|omega|exact fun _ _=>⟨_,rfl⟩|refine And.intro ?_ ?_))))|(refine rg ?_ ?_)|(with_reducible first|refine stp ?_|refine tD rfl ?_)|refine ct ?_|refine cf ?_|((first|refine gs ?_ ?_|refine gl ?_ ?_|refine gc ?_ ?_)<;>intro h<;>(try simp only [NS] at h)<;>(try exact xf)<;>(try refine rn ?_ ?_))))
      (refine TE.freezeN 2 (by rfl) (by rfl) ?_)
      ((refine rn ?_ ?_);(repeat' (first|(with_reducible refine AllP.go ?_;(first|exact trivial|exact fun _ _=>⟨_,rfl⟩|((try simp only [OS]);repeat' (first|omega|exact fun _ _=>⟨_,rfl⟩|refine And.intro ?_ ?_))))|(refine rg ?_ ?_)|(with_reducible first|refine stp ?_|refine tD rfl ?_)|refine ct ?_|refine cf ?_|((first|refine gs ?_ ?_|refine gl ?_ ?_|refine gc ?_ ?_)<;>intro h<;>(try simp only [NS] at h)<;>(try exact xf)<;>(try refine rn ?_ ?_)))))
      (refine TE.freezeN 0 (by rfl) (by rfl) ?_)
      (refine TE.ret' io rfl tysOk (()) ?_ rfl (by rfl) ?_;all_goals (try (first|exact trivial|((with_reducible refine AllP.go ?_);dsimp only [AllP, appP];repeat' (first|with_reducible rfl|with_reducible exact LeD.refl|refine And.intro ?_ ?_|exact vi|rfl|exact vb|exact LeD.refl)))))
      exact bn_setOR hi' (LeX.of_eq rfl) (by (refine LeX.lit rfl ?_; repeat' (first | exact trivial | exact LeX.of_eq rfl | exact LeX.nil rfl | (refine LeX.lit rfl ?_) | refine nth1x ?_ | refine nth2x ?_ ?_ | refine nth3x ?_ ?_ ?_ | refine nth4x ?_ ?_ ?_ ?_ | refine And.intro ?_ ?_)))
    · rw [show spoilX l 2 i k = (l, 0, 0) from if_neg fun q => c2 q.2]
      (repeat' (first|(with_reducible refine AllP.go ?_;(first|exact trivial|exact fun _ _=>⟨_,rfl⟩|((try simp only [OS]);repeat' (first|omega|exact fun _ _=>⟨_,rfl⟩|refine And.intro ?_ ?_))))|(refine rg ?_ ?_)|(with_reducible first|refine stp ?_|refine tD rfl ?_)|refine ct ?_|refine cf ?_|((first|refine gs ?_ ?_|refine gl ?_ ?_|refine gc ?_ ?_)<;>intro h<;>(try simp only [NS] at h)<;>(try exact xf)<;>(try refine rn ?_ ?_))))
      (refine TE.freezeN 0 (by rfl) (by rfl) ?_)
      (refine TE.ret' io rfl tysOk (()) ?_ rfl (by rfl) ?_;all_goals (try (first|exact trivial|((with_reducible refine AllP.go ?_);dsimp only [AllP, appP];repeat' (first|with_reducible rfl|with_reducible exact LeD.refl|refine And.intro ?_ ?_|exact vi|rfl|exact vb|exact LeD.refl)))))
  · cases hF : fre (l.getD i b0)
    · have c1 : ¬ freeB (l.getD i b0) = true := by rw [← hfr, hF]; decide
      rw [show spoilX l 3 i k = (l, 0, 0) from if_neg fun q => c1 q.1]
      (repeat' (first|(with_reducible refine AllP.go ?_;(first|exact trivial|exact fun _ _=>⟨_,rfl⟩|((try simp only [OS]);repeat' (first|omega|exact fun _ _=>⟨_,rfl⟩|refine And.intro ?_ ?_))))|(refine rg ?_ ?_)|(with_reducible first|refine stp ?_|refine tD rfl ?_)|refine ct ?_|refine cf ?_|((first|refine gs ?_ ?_|refine gl ?_ ?_|refine gc ?_ ?_)<;>intro h<;>(try simp only [NS] at h)<;>(try exact xf)<;>(try refine rn ?_ ?_))))
      (refine TE.freezeN 0 (by rfl) (by rfl) ?_)
      (refine TE.ret' io rfl tysOk (()) ?_ rfl (by rfl) ?_;all_goals (try (first|exact trivial|((with_reducible refine AllP.go ?_);dsimp only [AllP, appP];repeat' (first|with_reducible rfl|with_reducible exact LeD.refl|refine And.intro ?_ ?_|exact vi|rfl|exact vb|exact LeD.refl)))))
    have c1 : freeB (l.getD i b0) = true := hF
    by_cases c2 : 0 < i
    · rw [show spoilX l 3 i k = (l.set i { l.getD i b0 with red := pathI (nds l) i }, if (List.range l.length).any (fun n => decide (n ≠ i) && decide ((l.getD n b0).red = pathI (nds l) i)) = true then (0, 0) else ((i : Int), 6)) from if_pos ⟨c1, c2⟩]
      (repeat' (first|(with_reducible refine AllP.go ?_;(first|exact trivial|exact fun _ _=>⟨_,rfl⟩|((try simp only [OS]);repeat' (first|omega|exact fun _ _=>⟨_,rfl⟩|refine And.intro ?_ ?_))))|(refine rg ?_ ?_)|(with_reducible first|refine stp ?_|refine tD rfl ?_)|refine ct ?_|refine cf ?_|((first|refine gs ?_ ?_|refine gl ?_ ?_|refine gc ?_ ?_)<;>intro h<;>(try simp only [NS] at h)<;>(try exact xf)<;>(try refine rn ?_ ?_))))
      refine TE.lendL [0, 132] 134 0 rfl rfl (List.forall_mem_cons.2 ⟨rfl, List.forall_mem_cons.2 ⟨rfl, fun _ h => nomatch h⟩⟩) (by rfl) h0 (by rfl) ?_
      intro w0 B0 S0 ν0 v S1 g L
      refine TE.callW (rtree_c l hl hxn) rfl (by rfl) (by rfl) rfl (by rfl) (by (first|exact trivial|((with_reducible refine AllP.go ?_);dsimp only [AllP, appP];repeat' (first|with_reducible rfl|with_reducible exact LeD.refl|refine And.intro ?_ ?_|exact vi|rfl|exact vb|assumption|exact LeD.refl)))) ?_
      intro _ _
      ((refine rn ?_ ?_);try (with_reducible refine AllP.go ?_;(first|exact trivial|exact fun _ _=>⟨_,rfl⟩|((try simp only [OS]);repeat' (first|omega|exact fun _ _=>⟨_,rfl⟩|refine And.intro ?_ ?_)))))
      refine TE.callW (rpath_c (nds l) (by omega) hT i (by omega)) rfl (by rfl) (by rfl) rfl (by rfl) (by (first|exact trivial|((with_reducible refine AllP.go ?_);dsimp only [AllP, appP];repeat' (first|with_reducible rfl|with_reducible exact LeD.refl|refine And.intro ?_ ?_|exact vi|rfl|exact vb|assumption|exact LeD.refl)))) ?_
      intro _ _
      refine TE.norm (by rfl) ?_
      refine TE.thawL L [0, 132] (List.forall_mem_cons.2 ⟨by repeat (first | exact List.mem_cons_self .. | refine List.mem_cons_of_mem _ ?_), List.forall_mem_cons.2 ⟨by repeat (first | exact List.mem_cons_self .. | refine List.mem_cons_of_mem _ ?_), fun _ h => nomatch h⟩⟩) (t2 := 137) (by repeat (first | exact List.mem_cons_self .. | refine List.mem_cons_of_mem _ ?_)) (by repeat (first | exact List.mem_cons_self .. | refine List.mem_cons_of_mem _ ?_)) (fun i j => ⟨_, rfl⟩) (by rfl) ?_
      (refine TE.only [0, 132, 133, 137, 7, 4, 5, 6] (by rfl) ?_)
      (refine TE.freezeN 2 (by rfl) (by rfl) ?_)
      ((refine rn ?_ ?_);(repeat' (first|(with_reducible refine AllP.go ?_;(first|exact trivial|exact fun _ _=>⟨_,rfl⟩|((try simp only [OS]);repeat' (first|omega|exact fun _ _=>⟨_,rfl⟩|refine And.intro ?_ ?_))))|(refine rg ?_ ?_)|(with_reducible first|refine stp ?_|refine tD rfl ?_)|refine ct ?_|refine cf ?_|((first|refine gs ?_ ?_|refine gl ?_ ?_|refine gc ?_ ?_)<;>intro h<;>(try simp only [NS] at h)<;>(try exact xf)<;>(try refine rn ?_ ?_)))))
      (refine TE.only [0, 7, 11, 4, 5, 6] (by rfl) ?_)
      have hbs := fun j => bset (x := { l.getD i b0 with red := pathI (nds l) i }) hi' j
      have hsl : (l.set i { l.getD i b0 with red := pathI (nds l) i }).length = l.length := List.length_set ..
      have hbi := hbs i
      rw [if_pos rfl] at hbi
      generalize hl2 : l.set i { l.getD i b0 with red := pathI (nds l) i } = l2 at *
      refine TE.loopG (fun q : Nat => q ≤ l.length ∧ ∀ j, j < q → ¬ (j ≠ i ∧ (l.getD j b0).red = pathI (nds l) i)) (fun q => [(11, .o (.c (.int .i64 q)))]) [3] (fun _ => [.own 3 50 10 (bnC l2)]) (fun q => l.length - q) 0 (by rfl) ⟨Nat.zero_le _, fun j hj => absurd hj (Nat.not_lt_zero _)⟩ ?_ ?_
      · (refine Ent.of rfl rfl (by rfl) ?_;(try (first|exact trivial|((with_reducible refine AllP.go ?_);dsimp only [AllP, appP];repeat' (first|with_reducible rfl|with_reducible exact LeD.refl|refine And.intro ?_ ?_|exact vi|rfl|exact vb|exact LeD.refl)))))
        rw [← hl2]
        exact bn_setR hi' (LeX.of_eq rfl)
      have hn2 : (bnC l2).n = l.length := hsl
      have hri : (l2.getD i b0).red = pathI (nds l) i := by rw [hbi]
      rintro q ⟨hq, hg⟩
      by_cases hlt : q < l.length
      · by_cases hqi : q = i
        · (repeat' (first|(with_reducible refine AllP.go ?_;(first|exact trivial|exact fun _ _=>⟨_,rfl⟩|((try simp only [OS]);repeat' (first|omega|exact fun _ _=>⟨_,rfl⟩|refine And.intro ?_ ?_))))|(refine rg ?_ ?_)|(with_reducible first|refine stp ?_|refine tD rfl ?_)|refine ct ?_|refine cf ?_|((first|refine gs ?_ ?_|refine gl ?_ ?_|refine gc ?_ ?_)<;>intro h<;>(try simp only [NS] at h)<;>(try exact xf)<;>(try refine rn ?_ ?_))))
          ((refine dn ?_);repeat' (first|(with_reducible refine AllP.go ?_;(first|exact trivial|exact fun _ _=>⟨_,rfl⟩|((try simp only [OS]);repeat' (first|omega|exact fun _ _=>⟨_,rfl⟩|refine And.intro ?_ ?_))))|(with_reducible first|exact PanicOk.body|exact rd.panic|refine PanicOk.then' ?_|refine PanicOk.block ?_|refine PanicOk.jump ?_)|(refine TL.done (by rfl) ?_)|(refine TL.auto tysOk rfl ?_ (by rfl) ?_ ?_)|((refine TL.one (by rfl) ?_);first|(refine sm ?_ ?_)|(refine sp ?_ ?_))|(refine sm ?_ ?_)|((first|refine gl ?_ ?_|refine gc ?_ ?_)<;>intro h<;>(try simp only [NS] at h)<;>(try exact xf))))
          all_goals (repeat' (first|(with_reducible refine AllP.go ?_;(first|exact trivial|exact fun _ _=>⟨_,rfl⟩|((try simp only [OS]);repeat' (first|omega|exact fun _ _=>⟨_,rfl⟩|refine And.intro ?_ ?_))))|(refine rg ?_ ?_)|(with_reducible first|refine stp ?_|refine tD rfl ?_)|refine ct ?_|refine cf ?_|((first|refine gs ?_ ?_|refine gl ?_ ?_|refine gc ?_ ?_)<;>intro h<;>(try simp only [NS] at h)<;>(try exact xf)<;>(try refine rn ?_ ?_))))
          refine TE.again' (q + 1) ⟨by omega, fun j hj => ?_⟩ (by omega) ?_
          · rcases Nat.lt_or_ge j q with h5 | h5
            · exact hg j h5
            · exact fun k => k.1 (by omega)
          · (refine Ent.of rfl rfl (by rfl) ?_;(try (first|exact trivial|((with_reducible refine AllP.go ?_);dsimp only [AllP, appP];repeat' (first|with_reducible rfl|with_reducible exact LeD.refl|refine And.intro ?_ ?_|exact vi|rfl|exact vb|exact LeD.refl)))))
        · have hrq : (l2.getD q b0).red = (l.getD q b0).red := by rw [hbs q, if_neg hqi]
          have hx1 := (hx _ (getD_mem (d := b0) hlt)).2.1
          have d1 := rsame_c (l2.getD q b0).red (l2.getD i b0).red (by rw [hrq]; exact hx1) (by rw [hri]; omega)
          (repeat' (first|(with_reducible refine AllP.go ?_;(first|exact trivial|exact fun _ _=>⟨_,rfl⟩|((try simp only [OS]);repeat' (first|omega|exact fun _ _=>⟨_,rfl⟩|refine And.intro ?_ ?_))))|(refine rg ?_ ?_)|(with_reducible first|refine stp ?_|refine tD rfl ?_)|refine ct ?_|refine cf ?_|((first|refine gs ?_ ?_|refine gl ?_ ?_|refine gc ?_ ?_)<;>intro h<;>(try simp only [NS] at h)<;>(try exact xf)<;>(try refine rn ?_ ?_))))
          ((refine dn ?_);repeat' (first|(with_reducible refine AllP.go ?_;(first|exact trivial|exact fun _ _=>⟨_,rfl⟩|((try simp only [OS]);repeat' (first|omega|exact fun _ _=>⟨_,rfl⟩|refine And.intro ?_ ?_))))|(with_reducible first|exact PanicOk.body|exact rd.panic|refine PanicOk.then' ?_|refine PanicOk.block ?_|refine PanicOk.jump ?_)|(refine TL.done (by rfl) ?_)|(refine TL.auto tysOk rfl ?_ (by rfl) ?_ ?_)|((refine TL.one (by rfl) ?_);first|(refine sm ?_ ?_)|(refine sp ?_ ?_))|(refine sm ?_ ?_)|((first|refine gl ?_ ?_|refine gc ?_ ?_)<;>intro h<;>(try simp only [NS] at h)<;>(try exact xf))))
          (repeat' (first|(with_reducible refine AllP.go ?_;(first|exact trivial|exact fun _ _=>⟨_,rfl⟩|((try simp only [OS]);repeat' (first|omega|exact fun _ _=>⟨_,rfl⟩|refine And.intro ?_ ?_))))|(with_reducible first|exact PanicOk.body|exact rd.panic|refine PanicOk.then' ?_|refine PanicOk.block ?_|refine PanicOk.jump ?_)|(refine TL.done (by rfl) ?_)|(refine TL.auto tysOk rfl ?_ (by rfl) ?_ ?_)|(refine sm ?_ ?_)|(refine sp ?_ ?_)|(refine TL.one (by rfl) ?_)|(refine TL.two (by rfl) ?_ ?_)|(refine TL.three (by rfl) ?_ ?_ ?_)|(refine TL.four (by rfl) ?_ ?_ ?_ ?_)))
          refine StepL.callW (d1) rfl rfl rfl rfl rfl (by rfl) (by (first|exact trivial|((with_reducible refine AllP.go ?_);dsimp only [AllP, appP];repeat' (first|with_reducible rfl|with_reducible exact LeD.refl|refine And.intro ?_ ?_|exact vi|rfl|exact vb|assumption|exact LeD.refl)))) (by rfl) (by rfl) ?_
          intro _ _
          (repeat' (first|(with_reducible refine AllP.go ?_;(first|exact trivial|exact fun _ _=>⟨_,rfl⟩|((try simp only [OS]);repeat' (first|omega|exact fun _ _=>⟨_,rfl⟩|refine And.intro ?_ ?_))))|(with_reducible first|exact PanicOk.body|exact rd.panic|refine PanicOk.then' ?_|refine PanicOk.block ?_|refine PanicOk.jump ?_)|(refine TL.done (by rfl) ?_)|(refine TL.auto tysOk rfl ?_ (by rfl) ?_ ?_)|(refine sm ?_ ?_)|(refine sp ?_ ?_)|(refine TL.one (by rfl) ?_)|(refine TL.two (by rfl) ?_ ?_)|(refine TL.three (by rfl) ?_ ?_ ?_)|(refine TL.four (by rfl) ?_ ?_ ?_ ?_)))
          by_cases he : (l2.getD q b0).red = (l2.getD i b0).red
          · rw [if_pos (List.any_eq_true.2 ⟨q, List.mem_range.2 hlt, by rw [Bool.and_eq_true, decide_eq_true_eq, decide_eq_true_eq]; exact ⟨hqi, by rw [← hrq, he, hri]⟩⟩)]
            (repeat' (first|(with_reducible refine AllP.go ?_;(first|exact trivial|exact fun _ _=>⟨_,rfl⟩|((try simp only [OS]);repeat' (first|omega|exact fun _ _=>⟨_,rfl⟩|refine And.intro ?_ ?_))))|(refine rg ?_ ?_)|(with_reducible first|refine stp ?_|refine tD rfl ?_)|refine ct ?_|refine cf ?_|((first|refine gs ?_ ?_|refine gl ?_ ?_|refine gc ?_ ?_)<;>intro h<;>(try simp only [NS] at h)<;>(try exact xf)<;>(try refine rn ?_ ?_))))
            (refine TE.freezeN 3 (by rfl) (by rfl) ?_)
            (refine TE.ret' io rfl tysOk (()) ?_ rfl (by rfl) ?_;all_goals (try (first|exact trivial|((with_reducible refine AllP.go ?_);dsimp only [AllP, appP];repeat' (first|with_reducible rfl|with_reducible exact LeD.refl|refine And.intro ?_ ?_|exact vi|rfl|exact vb|exact LeD.refl)))))
          · (repeat' (first|(with_reducible refine AllP.go ?_;(first|exact trivial|exact fun _ _=>⟨_,rfl⟩|((try simp only [OS]);repeat' (first|omega|exact fun _ _=>⟨_,rfl⟩|refine And.intro ?_ ?_))))|(refine rg ?_ ?_)|(with_reducible first|refine stp ?_|refine tD rfl ?_)|refine ct ?_|refine cf ?_|((first|refine gs ?_ ?_|refine gl ?_ ?_|refine gc ?_ ?_)<;>intro h<;>(try simp only [NS] at h)<;>(try exact xf)<;>(try refine rn ?_ ?_))))
            refine TE.again' (q + 1) ⟨by omega, fun j hj => ?_⟩ (by omega) ?_
            · rcases Nat.lt_or_ge j q with h5 | h5
              · exact hg j h5
              · obtain rfl : j = q := by omega
                rw [hrq, hri] at he
                exact fun k => he k.2
            · (refine Ent.of rfl rfl (by rfl) ?_;(try (first|exact trivial|((with_reducible refine AllP.go ?_);dsimp only [AllP, appP];repeat' (first|with_reducible rfl|with_reducible exact LeD.refl|refine And.intro ?_ ?_|exact vi|rfl|exact vb|exact LeD.refl)))))
      · obtain rfl : q = l.length := by omega
        rw [if_neg (fun e => by
          obtain ⟨j, h1, h2⟩ := List.any_eq_true.1 e
          rw [Bool.and_eq_true, decide_eq_true_eq, decide_eq_true_eq] at h2
          exact hg j (List.mem_range.1 h1) h2)]
        (repeat' (first|(with_reducible refine AllP.go ?_;(first|exact trivial|exact fun _ _=>⟨_,rfl⟩|((try simp only [OS]);repeat' (first|omega|exact fun _ _=>⟨_,rfl⟩|refine And.intro ?_ ?_))))|(refine rg ?_ ?_)|(with_reducible first|refine stp ?_|refine tD rfl ?_)|refine ct ?_|refine cf ?_|((first|refine gs ?_ ?_|refine gl ?_ ?_|refine gc ?_ ?_)<;>intro h<;>(try simp only [NS] at h)<;>(try exact xf)<;>(try refine rn ?_ ?_))))
        (refine TE.freezeN 3 (by rfl) (by rfl) ?_)
        (refine TE.ret' io rfl tysOk (()) ?_ rfl (by rfl) ?_;all_goals (try (first|exact trivial|((with_reducible refine AllP.go ?_);dsimp only [AllP, appP];repeat' (first|with_reducible rfl|with_reducible exact LeD.refl|refine And.intro ?_ ?_|exact vi|rfl|exact vb|exact LeD.refl)))))
    · rw [show spoilX l 3 i k = (l, 0, 0) from if_neg fun q => c2 q.2]
      (repeat' (first|(with_reducible refine AllP.go ?_;(first|exact trivial|exact fun _ _=>⟨_,rfl⟩|((try simp only [OS]);repeat' (first|omega|exact fun _ _=>⟨_,rfl⟩|refine And.intro ?_ ?_))))|(refine rg ?_ ?_)|(with_reducible first|refine stp ?_|refine tD rfl ?_)|refine ct ?_|refine cf ?_|((first|refine gs ?_ ?_|refine gl ?_ ?_|refine gc ?_ ?_)<;>intro h<;>(try simp only [NS] at h)<;>(try exact xf)<;>(try refine rn ?_ ?_))))
      (refine TE.freezeN 0 (by rfl) (by rfl) ?_)
      (refine TE.ret' io rfl tysOk (()) ?_ rfl (by rfl) ?_;all_goals (try (first|exact trivial|((with_reducible refine AllP.go ?_);dsimp only [AllP, appP];repeat' (first|with_reducible rfl|with_reducible exact LeD.refl|refine And.intro ?_ ?_|exact vi|rfl|exact vb|exact LeD.refl)))))
  · cases hF : fre (l.getD i b0)
    · have c1 : ¬ freeB (l.getD i b0) = true := by rw [← hfr, hF]; decide
      rw [show spoilX l 4 i k = (l, 0, 0) from if_neg fun q => c1 q.1]
      (repeat' (first|(with_reducible refine AllP.go ?_;(first|exact trivial|exact fun _ _=>⟨_,rfl⟩|((try simp only [OS]);repeat' (first|omega|exact fun _ _=>⟨_,rfl⟩|refine And.intro ?_ ?_))))|(refine rg ?_ ?_)|(with_reducible first|refine stp ?_|refine tD rfl ?_)|refine ct ?_|refine cf ?_|((first|refine gs ?_ ?_|refine gl ?_ ?_|refine gc ?_ ?_)<;>intro h<;>(try simp only [NS] at h)<;>(try exact xf)<;>(try refine rn ?_ ?_))))
      ((refine dn ?_);repeat' (first|(with_reducible refine AllP.go ?_;(first|exact trivial|exact fun _ _=>⟨_,rfl⟩|((try simp only [OS]);repeat' (first|omega|exact fun _ _=>⟨_,rfl⟩|refine And.intro ?_ ?_))))|(with_reducible first|exact PanicOk.body|exact rd.panic|refine PanicOk.then' ?_|refine PanicOk.block ?_|refine PanicOk.jump ?_)|(refine TL.done (by rfl) ?_)|(refine TL.auto tysOk rfl ?_ (by rfl) ?_ ?_)|((refine TL.one (by rfl) ?_);first|(refine sm ?_ ?_)|(refine sp ?_ ?_))|(refine sm ?_ ?_)|((first|refine gl ?_ ?_|refine gc ?_ ?_)<;>intro h<;>(try simp only [NS] at h)<;>(try exact xf))))
      (repeat' (first|(with_reducible refine AllP.go ?_;(first|exact trivial|exact fun _ _=>⟨_,rfl⟩|((try simp only [OS]);repeat' (first|omega|exact fun _ _=>⟨_,rfl⟩|refine And.intro ?_ ?_))))|(refine rg ?_ ?_)|(with_reducible first|refine stp ?_|refine tD rfl ?_)|refine ct ?_|refine cf ?_|((first|refine gs ?_ ?_|refine gl ?_ ?_|refine gc ?_ ?_)<;>intro h<;>(try simp only [NS] at h)<;>(try exact xf)<;>(try refine rn ?_ ?_))))
      (refine TE.freezeN 0 (by rfl) (by rfl) ?_)
      (refine TE.ret' io rfl tysOk (()) ?_ rfl (by rfl) ?_;all_goals (try (first|exact trivial|((with_reducible refine AllP.go ?_);dsimp only [AllP, appP];repeat' (first|with_reducible rfl|with_reducible exact LeD.refl|refine And.intro ?_ ?_|exact vi|rfl|exact vb|exact LeD.refl)))))
    have c1 : freeB (l.getD i b0) = true := hF
    refine TE.lend 0 0 rfl (by rfl) (by rfl) h0 (by rfl) ?_
    intro w0 B0 S0 ν0 v S1 g L
    have hx1 := hx _ (getD_mem (d := b0) hk')
    have hrt := rtree_c l hl hxn
    have hrp := rpath_c (nds l) (by omega) hT i (by omega)
    have hrs := rsame_c (l.getD k b0).red (pathI (nds l) i) hx1.2.1 (by omega)
    have hkl : (l.getD k b0).red = [] ↔ (l.getD k b0).red.length = 0 := List.length_eq_zero_iff.symm
    (repeat' (first|(with_reducible refine AllP.go ?_;(first|exact trivial|exact fun _ _=>⟨_,rfl⟩|((try simp only [OS]);repeat' (first|omega|exact fun _ _=>⟨_,rfl⟩|refine And.intro ?_ ?_))))|(refine rg ?_ ?_)|(with_reducible first|refine stp ?_|refine tD rfl ?_)|refine ct ?_|refine cf ?_|((first|refine gs ?_ ?_|refine gl ?_ ?_|refine gc ?_ ?_)<;>intro h<;>(try simp only [NS] at h)<;>(try exact xf)<;>(try refine rn ?_ ?_))))
    ((refine dn ?_);repeat' (first|(with_reducible refine AllP.go ?_;(first|exact trivial|exact fun _ _=>⟨_,rfl⟩|((try simp only [OS]);repeat' (first|omega|exact fun _ _=>⟨_,rfl⟩|refine And.intro ?_ ?_))))|(with_reducible first|exact PanicOk.body|exact rd.panic|refine PanicOk.then' ?_|refine PanicOk.block ?_|refine PanicOk.jump ?_)|(refine TL.done (by rfl) ?_)|(refine TL.auto tysOk rfl ?_ (by rfl) ?_ ?_)|((refine TL.one (by rfl) ?_);first|(refine sm ?_ ?_)|(refine sp ?_ ?_))|(refine sm ?_ ?_)|((first|refine gl ?_ ?_|refine gc ?_ ?_)<;>intro h<;>(try simp only [NS] at h)<;>(try exact xf))))
    · have c3 : (l.getD k b0).red ≠ [] := fun e => by have := hkl.1 e; omega
      have c2 : k < i := by omega
      (repeat' (first|(with_reducible refine AllP.go ?_;(first|exact trivial|exact fun _ _=>⟨_,rfl⟩|((try simp only [OS]);repeat' (first|omega|exact fun _ _=>⟨_,rfl⟩|refine And.intro ?_ ?_))))|(with_reducible first|exact PanicOk.body|exact rd.panic|refine PanicOk.then' ?_|refine PanicOk.block ?_|refine PanicOk.jump ?_)|(refine TL.done (by rfl) ?_)|(refine TL.auto tysOk rfl ?_ (by rfl) ?_ ?_)|(refine sm ?_ ?_)|(refine sp ?_ ?_)|(refine TL.one (by rfl) ?_)|(refine TL.two (by rfl) ?_ ?_)|(refine TL.three (by rfl) ?_ ?_ ?_)|(refine TL.four (by rfl) ?_ ?_ ?_ ?_)))
      refine StepL.callW (hrt) rfl rfl rfl rfl rfl (by rfl) (by (first|exact trivial|((with_reducible refine AllP.go ?_);dsimp only [AllP, appP];repeat' (first|with_reducible rfl|with_reducible exact LeD.refl|refine And.intro ?_ ?_|exact vi|rfl|exact vb|assumption|exact LeD.refl)))) (by rfl) (by rfl) ?_
      intro _ _
      (repeat' (first|(with_reducible refine AllP.go ?_;(first|exact trivial|exact fun _ _=>⟨_,rfl⟩|((try simp only [OS]);repeat' (first|omega|exact fun _ _=>⟨_,rfl⟩|refine And.intro ?_ ?_))))|(with_reducible first|exact PanicOk.body|exact rd.panic|refine PanicOk.then' ?_|refine PanicOk.block ?_|refine PanicOk.jump ?_)|(refine TL.done (by rfl) ?_)|(refine TL.auto tysOk rfl ?_ (by rfl) ?_ ?_)|(refine sm ?_ ?_)|(refine sp ?_ ?_)|(refine TL.one (by rfl) ?_)|(refine TL.two (by rfl) ?_ ?_)|(refine TL.three (by rfl) ?_ ?_ ?_)|(refine TL.four (by rfl) ?_ ?_ ?_ ?_)))
      refine StepL.callW (hrp) rfl rfl rfl rfl rfl (by rfl) (by (first|exact trivial|((with_reducible refine AllP.go ?_);dsimp only [AllP, appP];repeat' (first|with_reducible rfl|with_reducible exact LeD.refl|refine And.intro ?_ ?_|exact vi|rfl|exact vb|assumption|exact LeD.refl)))) (by rfl) (by rfl) ?_
      intro _ _
      (refine TL.freezeN 2 (by rfl) (by rfl) ?_)
      (repeat' (first|(with_reducible refine AllP.go ?_;(first|exact trivial|exact fun _ _=>⟨_,rfl⟩|((try simp only [OS]);repeat' (first|omega|exact fun _ _=>⟨_,rfl⟩|refine And.intro ?_ ?_))))|(with_reducible first|exact PanicOk.body|exact rd.panic|refine PanicOk.then' ?_|refine PanicOk.block ?_|refine PanicOk.jump ?_)|(refine TL.done (by rfl) ?_)|(refine TL.auto tysOk rfl ?_ (by rfl) ?_ ?_)|(refine sm ?_ ?_)|(refine sp ?_ ?_)|(refine TL.one (by rfl) ?_)|(refine TL.two (by rfl) ?_ ?_)|(refine TL.three (by rfl) ?_ ?_ ?_)|(refine TL.four (by rfl) ?_ ?_ ?_ ?_)))
      refine StepL.callW (hrs) rfl rfl rfl rfl rfl (by rfl) (by (first|exact trivial|((with_reducible refine AllP.go ?_);dsimp only [AllP, appP];repeat' (first|with_reducible rfl|with_reducible exact LeD.refl|refine And.intro ?_ ?_|exact vi|rfl|exact vb|assumption|exact LeD.refl)))) (by rfl) (by rfl) ?_
      intro _ _
      (repeat' (first|(with_reducible refine AllP.go ?_;(first|exact trivial|exact fun _ _=>⟨_,rfl⟩|((try simp only [OS]);repeat' (first|omega|exact fun _ _=>⟨_,rfl⟩|refine And.intro ?_ ?_))))|(with_reducible first|exact PanicOk.body|exact rd.panic|refine PanicOk.then' ?_|refine PanicOk.block ?_|refine PanicOk.jump ?_)|(refine TL.done (by rfl) ?_)|(refine TL.auto tysOk rfl ?_ (by rfl) ?_ ?_)|(refine sm ?_ ?_)|(refine sp ?_ ?_)|(refine TL.one (by rfl) ?_)|(refine TL.two (by rfl) ?_ ?_)|(refine TL.three (by rfl) ?_ ?_ ?_)|(refine TL.four (by rfl) ?_ ?_ ?_ ?_)))
      by_cases c4 : (l.getD k b0).red = pathI (nds l) i
      · rw [show spoilX l 4 i k = (l, 0, 0) from if_neg fun q => q.2.2.2 c4]
        refine TE.back L ?_
        (repeat' (first|(with_reducible refine AllP.go ?_;(first|exact trivial|exact fun _ _=>⟨_,rfl⟩|((try simp only [OS]);repeat' (first|omega|exact fun _ _=>⟨_,rfl⟩|refine And.intro ?_ ?_))))|(refine rg ?_ ?_)|(with_reducible first|refine stp ?_|refine tD rfl ?_)|refine ct ?_|refine cf ?_|((first|refine gs ?_ ?_|refine gl ?_ ?_|refine gc ?_ ?_)<;>intro h<;>(try simp only [NS] at h)<;>(try exact xf)<;>(try refine rn ?_ ?_))))
        (refine TE.ret' io rfl tysOk (()) ?_ rfl (by rfl) ?_;all_goals (try (first|exact trivial|((with_reducible refine AllP.go ?_);dsimp only [AllP, appP];repeat' (first|with_reducible rfl|with_reducible exact LeD.refl|refine And.intro ?_ ?_|exact vi|rfl|exact vb|exact LeD.refl)))))
      · rw [show spoilX l 4 i k = (l.set i { l.getD i b0 with red := (l.getD k b0).red }, (i : Int), 8) from if_pos ⟨c1, c2, c3, c4⟩]
        (repeat (with_reducible first|refine stp ?_|refine tD rfl ?_))
        (refine TE.cond_split (by rfl) ?_ ?_ <;> intro h <;> (try simp only [NS] at h) <;> (try (exfalso; first | omega | exact h trivial | exact h | exact h rfl | contradiction)))
        refine TE.thaw L 0 (by repeat (first | exact List.mem_cons_self .. | refine List.mem_cons_of_mem _ ?_)) (by rfl) ?_
        (refine TE.only [0, 7, 8] (by rfl) ?_)
        (repeat' (first|(with_reducible refine AllP.go ?_;(first|exact trivial|exact fun _ _=>⟨_,rfl⟩|((try simp only [OS]);repeat' (first|omega|exact fun _ _=>⟨_,rfl⟩|refine And.intro ?_ ?_))))|(refine rg ?_ ?_)|(with_reducible first|refine stp ?_|refine tD rfl ?_)|refine ct ?_|refine cf ?_|((first|refine gs ?_ ?_|refine gl ?_ ?_|refine gc ?_ ?_)<;>intro h<;>(try simp only [NS] at h)<;>(try exact xf)<;>(try refine rn ?_ ?_))))
        (refine TE.freezeN 3 (by rfl) (by rfl) ?_)
        (refine TE.ret' io rfl tysOk (()) ?_ rfl (by rfl) ?_;all_goals (try (first|exact trivial|((with_reducible refine AllP.go ?_);dsimp only [AllP, appP];repeat' (first|with_reducible rfl|with_reducible exact LeD.refl|refine And.intro ?_ ?_|exact vi|rfl|exact vb|exact LeD.refl)))))
        exact bn_setR hi' (LeX.of_eq rfl)
    · rw [show spoilX l 4 i k = (l, 0, 0) from if_neg fun q => by have := hkl.2 (by omega); exact q.2.2.1 this]
      refine TE.back L ?_
      (repeat' (first|(with_reducible refine AllP.go ?_;(first|exact trivial|exact fun _ _=>⟨_,rfl⟩|((try simp only [OS]);repeat' (first|omega|exact fun _ _=>⟨_,rfl⟩|refine And.intro ?_ ?_))))|(refine rg ?_ ?_)|(with_reducible first|refine stp ?_|refine tD rfl ?_)|refine ct ?_|refine cf ?_|((first|refine gs ?_ ?_|refine gl ?_ ?_|refine gc ?_ ?_)<;>intro h<;>(try simp only [NS] at h)<;>(try exact xf)<;>(try refine rn ?_ ?_))))
      (refine TE.ret' io rfl tysOk (()) ?_ rfl (by rfl) ?_;all_goals (try (first|exact trivial|((with_reducible refine AllP.go ?_);dsimp only [AllP, appP];repeat' (first|with_reducible rfl|with_reducible exact LeD.refl|refine And.intro ?_ ?_|exact vi|rfl|exact vb|exact LeD.refl)))))
    · rw [show spoilX l 4 i k = (l, 0, 0) from if_neg fun q => by omega]
      refine TE.back L ?_
      (repeat' (first|(with_reducible refine AllP.go ?_;(first|exact trivial|exact fun _ _=>⟨_,rfl⟩|((try simp only [OS]);repeat' (first|omega|exact fun _ _=>⟨_,rfl⟩|refine And.intro ?_ ?_))))|(refine rg ?_ ?_)|(with_reducible first|refine stp ?_|refine tD rfl ?_)|refine ct ?_|refine cf ?_|((first|refine gs ?_ ?_|refine gl ?_ ?_|refine gc ?_ ?_)<;>intro h<;>(try simp only [NS] at h)<;>(try exact xf)<;>(try refine rn ?_ ?_))))
      (refine TE.ret' io rfl tysOk (()) ?_ rfl (by rfl) ?_;all_goals (try (first|exact trivial|((with_reducible refine AllP.go ?_);dsimp only [AllP, appP];repeat' (first|with_reducible rfl|with_reducible exact LeD.refl|refine And.intro ?_ ?_|exact vi|rfl|exact vb|exact LeD.refl)))))
  · cases hF : fre (l.getD i b0)
    · have c1 : ¬ freeB (l.getD i b0) = true := by rw [← hfr, hF]; decide
      rw [show spoilX l 5 i k = (l, 0, 0) from if_neg fun q => c1 q.1]
      (repeat' (first|(with_reducible refine AllP.go ?_;(first|exact trivial|exact fun _ _=>⟨_,rfl⟩|((try simp only [OS]);repeat' (first|omega|exact fun _ _=>⟨_,rfl⟩|refine And.intro ?_ ?_))))|(refine rg ?_ ?_)|(with_reducible first|refine stp ?_|refine tD rfl ?_)|refine ct ?_|refine cf ?_|((first|refine gs ?_ ?_|refine gl ?_ ?_|refine gc ?_ ?_)<;>intro h<;>(try simp only [NS] at h)<;>(try exact xf)<;>(try refine rn ?_ ?_))))
      ((refine dn ?_);repeat' (first|(with_reducible refine AllP.go ?_;(first|exact trivial|exact fun _ _=>⟨_,rfl⟩|((try simp only [OS]);repeat' (first|omega|exact fun _ _=>⟨_,rfl⟩|refine And.intro ?_ ?_))))|(with_reducible first|exact PanicOk.body|exact rd.panic|refine PanicOk.then' ?_|refine PanicOk.block ?_|refine PanicOk.jump ?_)|(refine TL.done (by rfl) ?_)|(refine TL.auto tysOk rfl ?_ (by rfl) ?_ ?_)|((refine TL.one (by rfl) ?_);first|(refine sm ?_ ?_)|(refine sp ?_ ?_))|(refine sm ?_ ?_)|((first|refine gl ?_ ?_|refine gc ?_ ?_)<;>intro h<;>(try simp only [NS] at h)<;>(try exact xf))))
      (repeat' (first|(with_reducible refine AllP.go ?_;(first|exact trivial|exact fun _ _=>⟨_,rfl⟩|((try simp only [OS]);repeat' (first|omega|exact fun _ _=>⟨_,rfl⟩|refine And.intro ?_ ?_))))|(refine rg ?_ ?_)|(with_reducible first|refine stp ?_|refine tD rfl ?_)|refine ct ?_|refine cf ?_|((first|refine gs ?_ ?_|refine gl ?_ ?_|refine gc ?_ ?_)<;>intro h<;>(try simp only [NS] at h)<;>(try exact xf)<;>(try refine rn ?_ ?_))))
      (refine TE.freezeN 0 (by rfl) (by rfl) ?_)
      (refine TE.ret' io rfl tysOk (()) ?_ rfl (by rfl) ?_;all_goals (try (first|exact trivial|((with_reducible refine AllP.go ?_);dsimp only [AllP, appP];repeat' (first|with_reducible rfl|with_reducible exact LeD.refl|refine And.intro ?_ ?_|exact vi|rfl|exact vb|exact LeD.refl)))))
    have c1 : freeB (l.getD i b0) = true := hF
    by_cases c2 : i + 1 < l.length
    · have e1 : ((i : Int) + 1).toNat = i + 1 := by omega
      by_cases c3 : (l.getD (i + 1) b0).nd.kind = 5 ∧ (l.getD (i + 1) b0).nd.depth = (l.getD i b0).nd.depth + 1
      · rw [show spoilX l 5 i k = (l.set i { l.getD i b0 with opq := true }, ((i + 1 : Nat) : Int), 6) from if_pos ⟨c1, c2, c3⟩]
        obtain ⟨c4, c5⟩ := c3
        rw [← e1] at c4 c5
        (repeat' (first|(with_reducible refine AllP.go ?_;(first|exact trivial|exact fun _ _=>⟨_,rfl⟩|((try simp only [OS]);repeat' (first|omega|exact fun _ _=>⟨_,rfl⟩|refine And.intro ?_ ?_))))|(refine rg ?_ ?_)|(with_reducible first|refine stp ?_|refine tD rfl ?_)|refine ct ?_|refine cf ?_|((first|refine gs ?_ ?_|refine gl ?_ ?_|refine gc ?_ ?_)<;>intro h<;>(try simp only [NS] at h)<;>(try exact xf)<;>(try refine rn ?_ ?_))))
        ((refine dn ?_);repeat' (first|(with_reducible refine AllP.go ?_;(first|exact trivial|exact fun _ _=>⟨_,rfl⟩|((try simp only [OS]);repeat' (first|omega|exact fun _ _=>⟨_,rfl⟩|refine And.intro ?_ ?_))))|(with_reducible first|exact PanicOk.body|exact rd.panic|refine PanicOk.then' ?_|refine PanicOk.block ?_|refine PanicOk.jump ?_)|(refine TL.done (by rfl) ?_)|(refine TL.auto tysOk rfl ?_ (by rfl) ?_ ?_)|((refine TL.one (by rfl) ?_);first|(refine sm ?_ ?_)|(refine sp ?_ ?_))|(refine sm ?_ ?_)|((first|refine gl ?_ ?_|refine gc ?_ ?_)<;>intro h<;>(try simp only [NS] at h)<;>(try exact xf))))
        all_goals (repeat' (first|(with_reducible refine AllP.go ?_;(first|exact trivial|exact fun _ _=>⟨_,rfl⟩|((try simp only [OS]);repeat' (first|omega|exact fun _ _=>⟨_,rfl⟩|refine And.intro ?_ ?_))))|(refine rg ?_ ?_)|(with_reducible first|refine stp ?_|refine tD rfl ?_)|refine ct ?_|refine cf ?_|((first|refine gs ?_ ?_|refine gl ?_ ?_|refine gc ?_ ?_)<;>intro h<;>(try simp only [NS] at h)<;>(try exact xf)<;>(try refine rn ?_ ?_))))
        (refine TE.freezeN 0 (by rfl) (by rfl) ?_)
        (refine TE.ret' io rfl tysOk (()) ?_ rfl (by rfl) ?_;all_goals (try (first|exact trivial|((with_reducible refine AllP.go ?_);dsimp only [AllP, appP];repeat' (first|with_reducible rfl|with_reducible exact LeD.refl|refine And.intro ?_ ?_|exact vi|rfl|exact vb|exact LeD.refl)))))
        exact bn_setO hi' (LeX.of_eq rfl)
      · rw [show spoilX l 5 i k = (l, 0, 0) from if_neg fun q => c3 q.2.2]
        rw [← e1] at c3
        (repeat' (first|(with_reducible refine AllP.go ?_;(first|exact trivial|exact fun _ _=>⟨_,rfl⟩|((try simp only [OS]);repeat' (first|omega|exact fun _ _=>⟨_,rfl⟩|refine And.intro ?_ ?_))))|(refine rg ?_ ?_)|(with_reducible first|refine stp ?_|refine tD rfl ?_)|refine ct ?_|refine cf ?_|((first|refine gs ?_ ?_|refine gl ?_ ?_|refine gc ?_ ?_)<;>intro h<;>(try simp only [NS] at h)<;>(try exact xf)<;>(try refine rn ?_ ?_))))
        ((refine dn ?_);repeat' (first|(with_reducible refine AllP.go ?_;(first|exact trivial|exact fun _ _=>⟨_,rfl⟩|((try simp only [OS]);repeat' (first|omega|exact fun _ _=>⟨_,rfl⟩|refine And.intro ?_ ?_))))|(with_reducible first|exact PanicOk.body|exact rd.panic|refine PanicOk.then' ?_|refine PanicOk.block ?_|refine PanicOk.jump ?_)|(refine TL.done (by rfl) ?_)|(refine TL.auto tysOk rfl ?_ (by rfl) ?_ ?_)|((refine TL.one (by rfl) ?_);first|(refine sm ?_ ?_)|(refine sp ?_ ?_))|(refine sm ?_ ?_)|((first|refine gl ?_ ?_|refine gc ?_ ?_)<;>intro h<;>(try simp only [NS] at h)<;>(try exact xf))))
        all_goals (repeat' (first|(with_reducible refine AllP.go ?_;(first|exact trivial|exact fun _ _=>⟨_,rfl⟩|((try simp only [OS]);repeat' (first|omega|exact fun _ _=>⟨_,rfl⟩|refine And.intro ?_ ?_))))|(refine rg ?_ ?_)|(with_reducible first|refine stp ?_|refine tD rfl ?_)|refine ct ?_|refine cf ?_|((first|refine gs ?_ ?_|refine gl ?_ ?_|refine gc ?_ ?_)<;>intro h<;>(try simp only [NS] at h)<;>(try exact xf)<;>(try refine rn ?_ ?_))))
        all_goals (refine TE.freezeN 0 (by rfl) (by rfl) ?_)
        all_goals (refine TE.ret' io rfl tysOk (()) ?_ rfl (by rfl) ?_;all_goals (try (first|exact trivial|((with_reducible refine AllP.go ?_);dsimp only [AllP, appP];repeat' (first|with_reducible rfl|with_reducible exact LeD.refl|refine And.intro ?_ ?_|exact vi|rfl|exact vb|exact LeD.refl)))))
    · rw [show spoilX l 5 i k = (l, 0, 0) from if_neg fun q => c2 q.2.1]
      (repeat' (first|(with_reducible refine AllP.go ?_;(first|exact trivial|exact fun _ _=>⟨_,rfl⟩|((try simp only [OS]);repeat' (first|omega|exact fun _ _=>⟨_,rfl⟩|refine And.intro ?_ ?_))))|(refine rg ?_ ?_)|(with_reducible first|refine stp ?_|refine tD rfl ?_)|refine ct ?_|refine cf ?_|((first|refine gs ?_ ?_|refine gl ?_ ?_|refine gc ?_ ?_)<;>intro h<;>(try simp only [NS] at h)<;>(try exact xf)<;>(try refine rn ?_ ?_))))
      ((refine dn ?_);repeat' (first|(with_reducible refine AllP.go ?_;(first|exact trivial|exact fun _ _=>⟨_,rfl⟩|((try simp only [OS]);repeat' (first|omega|exact fun _ _=>⟨_,rfl⟩|refine And.intro ?_ ?_))))|(with_reducible first|exact PanicOk.body|exact rd.panic|refine PanicOk.then' ?_|refine PanicOk.block ?_|refine PanicOk.jump ?_)|(refine TL.done (by rfl) ?_)|(refine TL.auto tysOk rfl ?_ (by rfl) ?_ ?_)|((refine TL.one (by rfl) ?_);first|(refine sm ?_ ?_)|(refine sp ?_ ?_))|(refine sm ?_ ?_)|((first|refine gl ?_ ?_|refine gc ?_ ?_)<;>intro h<;>(try simp only [NS] at h)<;>(try exact xf))))
      all_goals (repeat' (first|(with_reducible refine AllP.go ?_;(first|exact trivial|exact fun _ _=>⟨_,rfl⟩|((try simp only [OS]);repeat' (first|omega|exact fun _ _=>⟨_,rfl⟩|refine And.intro ?_ ?_))))|(refine rg ?_ ?_)|(with_reducible first|refine stp ?_|refine tD rfl ?_)|refine ct ?_|refine cf ?_|((first|refine gs ?_ ?_|refine gl ?_ ?_|refine gc ?_ ?_)<;>intro h<;>(try simp only [NS] at h)<;>(try exact xf)<;>(try refine rn ?_ ?_))))
      all_goals (refine TE.freezeN 0 (by rfl) (by rfl) ?_)
      all_goals (refine TE.ret' io rfl tysOk (()) ?_ rfl (by rfl) ?_;all_goals (try (first|exact trivial|((with_reducible refine AllP.go ?_);dsimp only [AllP, appP];repeat' (first|with_reducible rfl|with_reducible exact LeD.refl|refine And.intro ?_ ?_|exact vi|rfl|exact vb|exact LeD.refl)))))
theorem spo_ok {l : List Bn} {w i k : Nat} (hi : i < l.length) (hk : k < l.length) (hx : ∀ x ∈ l, okB x) (hB : Bok l) : (spoilX l w i k).1.length = l.length ∧ ∀ x ∈ (spoilX l w i k).1, okB x := by
  have hset : ∀ {j : Nat} {x : Bn}, okB x → (l.set j x).length = l.length ∧ ∀ y ∈ l.set j x, okB y := fun {j x} h => ⟨List.length_set .., fun y hy => (List.mem_or_eq_of_mem_set hy).elim (hx y) fun e => e ▸ h⟩
  have hxi := hx _ (getD_mem (d := b0) hi)
  have hx0 := hx _ (getD_mem (l := l) (d := b0) (k := 0) (by omega))
  have hxk := hx _ (getD_mem (d := b0) hk)
  have hti : (nds l).length = l.length := List.length_map ..
  have hsw : swe.length ≤ 1000000 ∧ ∀ s ∈ swe, s.size ≤ 1000000000 := ⟨by decide, by decide⟩
  have hp := place_okP' hB hi
  match w with
  | 0 => exact hset (x := { l.getD i b0 with opq := true }) ⟨hxi.1, hxi.2⟩
  | 1 => exact hset (x := { l.getD 0 b0 with red := swe }) ⟨hx0.1, hsw⟩
  | 2 =>
    show (ite _ _ _ : List Bn × Int × Int).1.length = l.length ∧ ∀ x ∈ (ite _ _ _ : List Bn × Int × Int).1, okB x
    split
    · exact hset (x := { l.getD i b0 with opq := true, red := swe }) ⟨hxi.1, hsw⟩
    · exact ⟨rfl, hx⟩
  | 3 =>
    show (ite _ _ _ : List Bn × Int × Int).1.length = l.length ∧ ∀ x ∈ (ite _ _ _ : List Bn × Int × Int).1, okB x
    split
    · exact hset (x := { l.getD i b0 with red := pathI (nds l) i }) ⟨hxi.1, hp⟩
    · exact ⟨rfl, hx⟩
  | 4 =>
    show (ite _ _ _ : List Bn × Int × Int).1.length = l.length ∧ ∀ x ∈ (ite _ _ _ : List Bn × Int × Int).1, okB x
    split
    · exact hset (x := { l.getD i b0 with red := (l.getD k b0).red }) ⟨hxi.1, hxk.2⟩
    · exact ⟨rfl, hx⟩
  | w + 5 =>
    show (ite _ _ _ : List Bn × Int × Int).1.length = l.length ∧ ∀ x ∈ (ite _ _ _ : List Bn × Int × Int).1, okB x
    split
    · exact hset (x := { l.getD i b0 with opq := true }) ⟨hxi.1, hxi.2⟩
    · exact ⟨rfl, hx⟩
set_option maxRecDepth 20000 in
set_option maxHeartbeats 16000000 in
theorem Rules_c (l : List Bn) (x : Sp) : Con Try.prog 4 [.o (.ro 10 l.length (bnC l).cell), .g (spA x)] [] 0 0 U (fun _ => .o (.c (.bool true))) G0 := by
  refine con_of Try.func4 rfl (by kernel_rfl) Try.ntmps4 rfl (by first | exact Nat.zero_le _ | decide) (fun _ => ⟨rfl, rfl⟩) fun w S ν => ?_
  (repeat' (first|(with_reducible refine AllP.go ?_;(first|exact trivial|exact fun _ _=>⟨_,rfl⟩|((try simp only [OS]);repeat' (first|omega|exact fun _ _=>⟨_,rfl⟩|refine And.intro ?_ ?_))))|(refine rg ?_ ?_)|(with_reducible first|refine stp ?_|refine tD rfl ?_)|refine ct ?_|refine cf ?_|((first|refine gs ?_ ?_|refine gl ?_ ?_|refine gc ?_ ?_)<;>intro h<;>(try simp only [NS] at h)<;>(try exact xf)<;>(try refine rn ?_ ?_))))
  refine TE.callW (large_c l) rfl (by rfl) (by rfl) rfl (by rfl) (by (first|exact trivial|((with_reducible refine AllP.go ?_);dsimp only [AllP, appP];repeat' (first|with_reducible rfl|with_reducible exact LeD.refl|refine And.intro ?_ ?_|exact vi|rfl|exact vb|assumption|exact LeD.refl)))) ?_
  intro r hr
  cases r
  case true =>
    ((refine rn ?_ ?_);(repeat' (first|(with_reducible refine AllP.go ?_;(first|exact trivial|exact fun _ _=>⟨_,rfl⟩|((try simp only [OS]);repeat' (first|omega|exact fun _ _=>⟨_,rfl⟩|refine And.intro ?_ ?_))))|(refine rg ?_ ?_)|(with_reducible first|refine stp ?_|refine tD rfl ?_)|refine ct ?_|refine cf ?_|((first|refine gs ?_ ?_|refine gl ?_ ?_|refine gc ?_ ?_)<;>intro h<;>(try simp only [NS] at h)<;>(try exact xf)<;>(try refine rn ?_ ?_)))))
    refine TE.callW (shown_c) rfl (by rfl) (by rfl) rfl (by rfl) (by (first|exact trivial|((with_reducible refine AllP.go ?_);dsimp only [AllP, appP];repeat' (first|with_reducible rfl|with_reducible exact LeD.refl|refine And.intro ?_ ?_|exact vi|rfl|exact vb|assumption|exact LeD.refl)))) ?_
    intro _ _
    ((refine rn ?_ ?_);(repeat' (first|(with_reducible refine AllP.go ?_;(first|exact trivial|exact fun _ _=>⟨_,rfl⟩|((try simp only [OS]);repeat' (first|omega|exact fun _ _=>⟨_,rfl⟩|refine And.intro ?_ ?_))))|(refine rg ?_ ?_)|(with_reducible first|refine stp ?_|refine tD rfl ?_)|refine ct ?_|refine cf ?_|((first|refine gs ?_ ?_|refine gl ?_ ?_|refine gc ?_ ?_)<;>intro h<;>(try simp only [NS] at h)<;>(try exact xf)<;>(try refine rn ?_ ?_)))))
    (refine TE.ret' io rfl tysOk (()) ?_ rfl (by rfl) ?_;all_goals (try (first|exact trivial|((with_reducible refine AllP.go ?_);dsimp only [AllP, appP];repeat' (first|with_reducible rfl|with_reducible exact LeD.refl|refine And.intro ?_ ?_|exact vi|rfl|exact vb|exact LeD.refl)))))
  obtain ⟨hl, hx⟩ := sm_ok (hr rfl)
  have hti : (nds l).length = l.length := List.length_map ..
  have c0 := rcheckB_c l hl hx
  ((refine rn ?_ ?_);(repeat' (first|(with_reducible refine AllP.go ?_;(first|exact trivial|exact fun _ _=>⟨_,rfl⟩|((try simp only [OS]);repeat' (first|omega|exact fun _ _=>⟨_,rfl⟩|refine And.intro ?_ ?_))))|(refine rg ?_ ?_)|(with_reducible first|refine stp ?_|refine tD rfl ?_)|refine ct ?_|refine cf ?_|((first|refine gs ?_ ?_|refine gl ?_ ?_|refine gc ?_ ?_)<;>intro h<;>(try simp only [NS] at h)<;>(try exact xf)<;>(try refine rn ?_ ?_)))))
  refine TE.callW (c0) rfl (by rfl) (by rfl) rfl (by rfl) (by (first|exact trivial|((with_reducible refine AllP.go ?_);dsimp only [AllP, appP];repeat' (first|with_reducible rfl|with_reducible exact LeD.refl|refine And.intro ?_ ?_|exact vi|rfl|exact vb|assumption|exact LeD.refl)))) ?_
  intro _ _
  by_cases hB : (checkB l).2 ≠ 0
  · ((refine rn ?_ ?_);(repeat' (first|(with_reducible refine AllP.go ?_;(first|exact trivial|exact fun _ _=>⟨_,rfl⟩|((try simp only [OS]);repeat' (first|omega|exact fun _ _=>⟨_,rfl⟩|refine And.intro ?_ ?_))))|(refine rg ?_ ?_)|(with_reducible first|refine stp ?_|refine tD rfl ?_)|refine ct ?_|refine cf ?_|((first|refine gs ?_ ?_|refine gl ?_ ?_|refine gc ?_ ?_)<;>intro h<;>(try simp only [NS] at h)<;>(try exact xf)<;>(try refine rn ?_ ?_)))))
    refine TE.callW (shown_c) rfl (by rfl) (by rfl) rfl (by rfl) (by (first|exact trivial|((with_reducible refine AllP.go ?_);dsimp only [AllP, appP];repeat' (first|with_reducible rfl|with_reducible exact LeD.refl|refine And.intro ?_ ?_|exact vi|rfl|exact vb|assumption|exact LeD.refl)))) ?_
    intro _ _
    ((refine rn ?_ ?_);(repeat' (first|(with_reducible refine AllP.go ?_;(first|exact trivial|exact fun _ _=>⟨_,rfl⟩|((try simp only [OS]);repeat' (first|omega|exact fun _ _=>⟨_,rfl⟩|refine And.intro ?_ ?_))))|(refine rg ?_ ?_)|(with_reducible first|refine stp ?_|refine tD rfl ?_)|refine ct ?_|refine cf ?_|((first|refine gs ?_ ?_|refine gl ?_ ?_|refine gc ?_ ?_)<;>intro h<;>(try simp only [NS] at h)<;>(try exact xf)<;>(try refine rn ?_ ?_)))))
    (refine TE.ret' io rfl tysOk (()) ?_ rfl (by rfl) ?_;all_goals (try (first|exact trivial|((with_reducible refine AllP.go ?_);dsimp only [AllP, appP];repeat' (first|with_reducible rfl|with_reducible exact LeD.refl|refine And.intro ?_ ?_|exact vi|rfl|exact vb|exact LeD.refl)))))
  have hB : Bok l := Decidable.not_not.1 hB
  have hB0 : (checkB l).2 = 0 := hB
  have h0 : 0 < l.length := by have := (tok_node (bok_tok hB)).1; omega
  have hi' := Nat.mod_lt x.2.1.toNat h0
  have hk' := Nat.mod_lt x.2.2.toNat h0
  have c1 := spoilt_w l x _ _ _ rfl rfl rfl hl h0 hx hB
  have hlaw := spoil_law (w := x.1.toNat % 6) hB hi' hk'
  have hok := spo_ok (w := x.1.toNat % 6) hi' hk' hx hB
  generalize spoilX l (x.1.toNat % 6) (x.2.1.toNat % l.length) (x.2.2.toNat % l.length) = sp at *
  obtain ⟨l2, n, e⟩ := sp
  dsimp only at c1 hlaw hok
  have c2 := checkB_c l2 (by omega) hok.2
  ((refine rn ?_ ?_);(repeat' (first|(with_reducible refine AllP.go ?_;(first|exact trivial|exact fun _ _=>⟨_,rfl⟩|((try simp only [OS]);repeat' (first|omega|exact fun _ _=>⟨_,rfl⟩|refine And.intro ?_ ?_))))|(refine rg ?_ ?_)|(with_reducible first|refine stp ?_|refine tD rfl ?_)|refine ct ?_|refine cf ?_|((first|refine gs ?_ ?_|refine gl ?_ ?_|refine gc ?_ ?_)<;>intro h<;>(try simp only [NS] at h)<;>(try exact xf)<;>(try refine rn ?_ ?_)))))
  (refine TE.drawK (fun i => Nat.beq i 0) (by rfl) (by rfl) (by rfl) ?_)
  (repeat' (first|(with_reducible refine AllP.go ?_;(first|exact trivial|exact fun _ _=>⟨_,rfl⟩|((try simp only [OS]);repeat' (first|omega|exact fun _ _=>⟨_,rfl⟩|refine And.intro ?_ ?_))))|(with_reducible first|exact PanicOk.body|exact rd.panic|refine PanicOk.then' ?_|refine PanicOk.block ?_|refine PanicOk.jump ?_)|(refine TL.done (by rfl) ?_)|(refine TL.auto tysOk rfl ?_ (by rfl) ?_ ?_)|(refine sm ?_ ?_)|(refine sp ?_ ?_)|(refine TL.one (by rfl) ?_)|(refine TL.two (by rfl) ?_ ?_)|(refine TL.three (by rfl) ?_ ?_ ?_)|(refine TL.four (by rfl) ?_ ?_ ?_ ?_)))
  refine StepL.callW (c1) rfl rfl rfl rfl rfl (by rfl) ?_ (by rfl) (by rfl) ?_
  · refine AllP.go ?_
    exact ⟨rfl, rfl, rfl, rfl, litnil_app 10 (bnC l)⟩
  intro _ _
  (repeat' (first|(with_reducible refine AllP.go ?_;(first|exact trivial|exact fun _ _=>⟨_,rfl⟩|((try simp only [OS]);repeat' (first|omega|exact fun _ _=>⟨_,rfl⟩|refine And.intro ?_ ?_))))|(with_reducible first|exact PanicOk.body|exact rd.panic|refine PanicOk.then' ?_|refine PanicOk.block ?_|refine PanicOk.jump ?_)|(refine TL.done (by rfl) ?_)|(refine TL.auto tysOk rfl ?_ (by rfl) ?_ ?_)|(refine sm ?_ ?_)|(refine sp ?_ ?_)|(refine TL.one (by rfl) ?_)|(refine TL.two (by rfl) ?_ ?_)|(refine TL.three (by rfl) ?_ ?_ ?_)|(refine TL.four (by rfl) ?_ ?_ ?_ ?_)))
  by_cases he : e = 0
  · (repeat' (first|(with_reducible refine AllP.go ?_;(first|exact trivial|exact fun _ _=>⟨_,rfl⟩|((try simp only [OS]);repeat' (first|omega|exact fun _ _=>⟨_,rfl⟩|refine And.intro ?_ ?_))))|(refine rg ?_ ?_)|(with_reducible first|refine stp ?_|refine tD rfl ?_)|refine ct ?_|refine cf ?_|((first|refine gs ?_ ?_|refine gl ?_ ?_|refine gc ?_ ?_)<;>intro h<;>(try simp only [NS] at h)<;>(try exact xf)<;>(try refine rn ?_ ?_))))
    refine TE.callW (shown_c) rfl (by rfl) (by rfl) rfl (by rfl) (by (first|exact trivial|((with_reducible refine AllP.go ?_);dsimp only [AllP, appP];repeat' (first|with_reducible rfl|with_reducible exact LeD.refl|refine And.intro ?_ ?_|exact vi|rfl|exact vb|assumption|exact LeD.refl)))) ?_
    intro _ _
    ((refine rn ?_ ?_);(repeat' (first|(with_reducible refine AllP.go ?_;(first|exact trivial|exact fun _ _=>⟨_,rfl⟩|((try simp only [OS]);repeat' (first|omega|exact fun _ _=>⟨_,rfl⟩|refine And.intro ?_ ?_))))|(refine rg ?_ ?_)|(with_reducible first|refine stp ?_|refine tD rfl ?_)|refine ct ?_|refine cf ?_|((first|refine gs ?_ ?_|refine gl ?_ ?_|refine gc ?_ ?_)<;>intro h<;>(try simp only [NS] at h)<;>(try exact xf)<;>(try refine rn ?_ ?_)))))
    (refine TE.ret' io rfl tysOk (()) ?_ rfl (by rfl) ?_;all_goals (try (first|exact trivial|((with_reducible refine AllP.go ?_);dsimp only [AllP, appP];repeat' (first|with_reducible rfl|with_reducible exact LeD.refl|refine And.intro ?_ ?_|exact vi|rfl|exact vb|exact LeD.refl)))))
  have hlaw := hlaw he
  rw [hlaw] at c2
  (repeat' (first|(with_reducible refine AllP.go ?_;(first|exact trivial|exact fun _ _=>⟨_,rfl⟩|((try simp only [OS]);repeat' (first|omega|exact fun _ _=>⟨_,rfl⟩|refine And.intro ?_ ?_))))|(refine rg ?_ ?_)|(with_reducible first|refine stp ?_|refine tD rfl ?_)|refine ct ?_|refine cf ?_|((first|refine gs ?_ ?_|refine gl ?_ ?_|refine gc ?_ ?_)<;>intro h<;>(try simp only [NS] at h)<;>(try exact xf)<;>(try refine rn ?_ ?_))))
  refine TE.callW (c2) rfl (by rfl) (by rfl) rfl (by rfl) (by (first|exact trivial|((with_reducible refine AllP.go ?_);dsimp only [AllP, appP];repeat' (first|with_reducible rfl|with_reducible exact LeD.refl|refine And.intro ?_ ?_|exact vi|rfl|exact vb|assumption|exact LeD.refl)))) ?_
  intro _ _
  ((refine rn ?_ ?_);(repeat' (first|(with_reducible refine AllP.go ?_;(first|exact trivial|exact fun _ _=>⟨_,rfl⟩|((try simp only [OS]);repeat' (first|omega|exact fun _ _=>⟨_,rfl⟩|refine And.intro ?_ ?_))))|(refine rg ?_ ?_)|(with_reducible first|refine stp ?_|refine tD rfl ?_)|refine ct ?_|refine cf ?_|((first|refine gs ?_ ?_|refine gl ?_ ?_|refine gc ?_ ?_)<;>intro h<;>(try simp only [NS] at h)<;>(try exact xf)<;>(try refine rn ?_ ?_)))))
  refine TE.callW (shown_c) rfl (by rfl) (by rfl) rfl (by rfl) (by (first|exact trivial|((with_reducible refine AllP.go ?_);dsimp only [AllP, appP];repeat' (first|with_reducible rfl|with_reducible exact LeD.refl|refine And.intro ?_ ?_|exact vi|rfl|exact vb|assumption|exact LeD.refl)))) ?_
  intro _ _
  ((refine rn ?_ ?_);(repeat' (first|(with_reducible refine AllP.go ?_;(first|exact trivial|exact fun _ _=>⟨_,rfl⟩|((try simp only [OS]);repeat' (first|omega|exact fun _ _=>⟨_,rfl⟩|refine And.intro ?_ ?_))))|(refine rg ?_ ?_)|(with_reducible first|refine stp ?_|refine tD rfl ?_)|refine ct ?_|refine cf ?_|((first|refine gs ?_ ?_|refine gl ?_ ?_|refine gc ?_ ?_)<;>intro h<;>(try simp only [NS] at h)<;>(try exact xf)<;>(try refine rn ?_ ?_)))))
  (refine TE.ret' io rfl tysOk (()) ?_ rfl (by rfl) ?_;all_goals (try (first|exact trivial|((with_reducible refine AllP.go ?_);dsimp only [AllP, appP];repeat' (first|with_reducible rfl|with_reducible exact LeD.refl|refine And.intro ?_ ?_|exact vi|rfl|exact vb|exact LeD.refl)))))
end Go.Proofs.Ythhpofehcnjmmaa.Am
