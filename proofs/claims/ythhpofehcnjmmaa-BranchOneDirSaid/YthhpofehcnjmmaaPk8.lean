/- Texts of this claim, joined. -/
import Derived.Test.YthhpofehcnjmmaaPk7
import Derived.KernelRfl
set_option linter.unusedSimpArgs false
set_option linter.unusedVariables false
/- Branches: the law's example, lists of numbers compared. -/
set_option linter.unusedSimpArgs false
set_option linter.unusedVariables false
namespace Go.Proofs.Ythhpofehcnjmmaa.Am
open Go.RowKit Lw
open Br
abbrev nEx (d : Int) (nm : ByteArray) (k : Int) (dt : ByteArray) (c : Int) : Nd := ⟨d, nm, k, [], dt, 0, 0, c⟩
/-- The branch of the document. -/
def exL : List Bn := [⟨nEx 0 eS 1 eS 0, false, []⟩, ⟨nEx 1 ⟨#[97]⟩ 1 eS 0, true, []⟩, ⟨nEx 2 ⟨#[120]⟩ 2 ⟨#[49, 50]⟩ 1, false, []⟩, ⟨nEx 1 ⟨#[100]⟩ 1 eS 0, false, [⟨#[111, 108, 100]⟩, ⟨#[100]⟩]⟩, ⟨nEx 2 ⟨#[119]⟩ 5 eS 0, false, []⟩, ⟨nEx 2 ⟨#[121]⟩ 2 ⟨#[49, 50]⟩ 1, false, []⟩]
set_option maxRecDepth 20000 in
set_option maxHeartbeats 4000000 in
theorem ints_c (a b : List Nat) (ha : a.length ≤ 1000000) (hb : b.length ≤ 1000000) : Con Try.prog 29 [.o (.ro 1 a.length (skC a).cell), .o (.ro 1 b.length (skC b).cell)] [] 0 0 U (fun _ => .o (.sb (decide (a = b)))) G0 := by
  refine con_of Try.func29 rfl (by kernel_rfl) Try.ntmps29 rfl (by first | exact Nat.zero_le _ | decide) (fun _ => ⟨rfl, rfl⟩) fun w S ν => ?_
  (repeat' (first|(with_reducible refine AllP.go ?_;(first|exact trivial|exact fun _ _=>⟨_,rfl⟩|((try simp only [OS]);repeat' (first|omega|exact fun _ _=>⟨_,rfl⟩|refine And.intro ?_ ?_))))|(refine rg ?_ ?_)|(with_reducible first|refine stp ?_|refine tD rfl ?_)|refine ct ?_|refine cf ?_|((first|refine gs ?_ ?_|refine gl ?_ ?_|refine gc ?_ ?_)<;>intro h<;>(try simp only [NS] at h)<;>(try exact xf)<;>(try refine rn ?_ ?_))))
  refine TE.loopG (fun q : Nat => q ≤ a.length ∧ q ≤ b.length ∧ ∀ j, j < q → a.getD j 0 = b.getD j 0) (fun q => [(5, .o (.c (.int .i64 q)))]) [] (fun _ => []) (fun q => a.length - q) 0 (by rfl) ⟨Nat.zero_le _, Nat.zero_le _, fun j hj => absurd hj (Nat.not_lt_zero _)⟩ ?_ ?_
  · (refine Ent.of rfl rfl (by rfl) ?_;(try (first|exact trivial|((with_reducible refine AllP.go ?_);dsimp only [AllP, appP];repeat' (first|with_reducible rfl|with_reducible exact LeD.refl|refine And.intro ?_ ?_|exact vi|rfl|exact vb|exact LeD.refl)))))
  rintro q ⟨hq, hq2, hg⟩
  by_cases h1 : q < a.length ∧ q < b.length
  · by_cases he : a.getD q 0 = b.getD q 0
    · (repeat' (first|(with_reducible refine AllP.go ?_;(first|exact trivial|exact fun _ _=>⟨_,rfl⟩|((try simp only [OS]);repeat' (first|omega|exact fun _ _=>⟨_,rfl⟩|refine And.intro ?_ ?_))))|(refine rg ?_ ?_)|(with_reducible first|refine stp ?_|refine tD rfl ?_)|(with_reducible first|exact PanicOk.body|exact rd.panic|refine PanicOk.then' ?_|refine PanicOk.block ?_|refine PanicOk.jump ?_)|(refine dc ?_)|(refine dn ?_)|(refine TL.done (by rfl) ?_)|(refine TL.auto tysOk rfl ?_ (by rfl) ?_ ?_)|((refine TL.one (by rfl) ?_);first|(refine sm ?_ ?_)|(refine sp ?_ ?_))|(refine sm ?_ ?_)|refine ct ?_|refine cf ?_|((first|refine gs ?_ ?_|refine gl ?_ ?_|refine gc ?_ ?_)<;>intro h<;>(try simp only [NS] at h)<;>(try exact xf)<;>(try refine rn ?_ ?_))))
      all_goals refine TE.again' (q + 1) ⟨by omega, by omega, fun j hj => ?_⟩ (by omega) ?_
      all_goals first
        | (rcases Nat.lt_or_ge j q with h5 | h5
           · exact hg j h5
           · obtain rfl : j = q := by omega
             exact he)
        | (refine Ent.of rfl rfl (by rfl) ?_;(try (first|exact trivial|((with_reducible refine AllP.go ?_);dsimp only [AllP, appP];repeat' (first|with_reducible rfl|with_reducible exact LeD.refl|refine And.intro ?_ ?_|exact vi|rfl|exact vb|exact LeD.refl)))))
    · have hne : a ≠ b := fun e => he (by rw [e])
      (repeat' (first|(with_reducible refine AllP.go ?_;(first|exact trivial|exact fun _ _=>⟨_,rfl⟩|((try simp only [OS]);repeat' (first|omega|exact fun _ _=>⟨_,rfl⟩|refine And.intro ?_ ?_))))|(refine rg ?_ ?_)|(with_reducible first|refine stp ?_|refine tD rfl ?_)|(with_reducible first|exact PanicOk.body|exact rd.panic|refine PanicOk.then' ?_|refine PanicOk.block ?_|refine PanicOk.jump ?_)|(refine dc ?_)|(refine dn ?_)|(refine TL.done (by rfl) ?_)|(refine TL.auto tysOk rfl ?_ (by rfl) ?_ ?_)|((refine TL.one (by rfl) ?_);first|(refine sm ?_ ?_)|(refine sp ?_ ?_))|(refine sm ?_ ?_)|refine ct ?_|refine cf ?_|((first|refine gs ?_ ?_|refine gl ?_ ?_|refine gc ?_ ?_)<;>intro h<;>(try simp only [NS] at h)<;>(try exact xf)<;>(try refine rn ?_ ?_))))
      all_goals (refine TE.ret' io rfl tysOk (()) ?_ rfl (by rfl) ?_;all_goals (try (first|exact trivial|((with_reducible refine AllP.go ?_);dsimp only [AllP, appP];repeat' (first|with_reducible rfl|with_reducible exact LeD.refl|refine And.intro ?_ ?_|exact vi|rfl|exact vb|exact LeD.refl)))))
      all_goals exact congrArg Value.bool (decide_eq_false hne).symm
  · have hfin : decide (a.length = b.length) = decide (a = b) := by
      refine decide_eq_decide.2 ⟨fun e => ?_, fun e => by rw [e]⟩
      refine List.ext_getElem e fun k k1 k2 => ?_
      have := hg k (by omega)
      rwa [List.getD_eq_getElem?_getD, List.getD_eq_getElem?_getD, List.getElem?_eq_getElem k1, List.getElem?_eq_getElem k2] at this
    (repeat' (first|(with_reducible refine AllP.go ?_;(first|exact trivial|exact fun _ _=>⟨_,rfl⟩|((try simp only [OS]);repeat' (first|omega|exact fun _ _=>⟨_,rfl⟩|refine And.intro ?_ ?_))))|(refine rg ?_ ?_)|(with_reducible first|refine stp ?_|refine tD rfl ?_)|(with_reducible first|exact PanicOk.body|exact rd.panic|refine PanicOk.then' ?_|refine PanicOk.block ?_|refine PanicOk.jump ?_)|(refine dc ?_)|(refine dn ?_)|(refine TL.done (by rfl) ?_)|(refine TL.auto tysOk rfl ?_ (by rfl) ?_ ?_)|((refine TL.one (by rfl) ?_);first|(refine sm ?_ ?_)|(refine sp ?_ ?_))|(refine sm ?_ ?_)|refine ct ?_|refine cf ?_|((first|refine gs ?_ ?_|refine gl ?_ ?_|refine gc ?_ ?_)<;>intro h<;>(try simp only [NS] at h)<;>(try exact xf)<;>(try refine rn ?_ ?_))))
    all_goals (refine TE.ret' io rfl tysOk (()) ?_ rfl (by rfl) ?_;all_goals (try (first|exact trivial|((with_reducible refine AllP.go ?_);dsimp only [AllP, appP];repeat' (first|with_reducible rfl|with_reducible exact LeD.refl|refine And.intro ?_ ?_|exact vi|rfl|exact vb|exact LeD.refl)))))
    all_goals exact (decide_eq_decide.2 (by omega)).trans hfin
theorem bn_row {x : Bn} {r : List DC} (h0 : LeX (nthD r 0) (bnR x 0)) (h1 : LeX (nthD r 1) (bnR x 1)) (h2 : LeX (nthD r 2) (bnR x 2)) (h3 : LeX (nthD r 3) (bnR x 3)) (h4 : LeX (nthD r 4) (bnR x 4)) (h5 : LeX (nthD r 5) (bnR x 5)) (h6 : LeX (nthD r 6) (bnR x 6)) (h7 : LeX (nthD r 7) (bnR x 7)) (h8 : LeX (nthD r 8) (bnR x 8)) (h9 : LeX (nthD r 9) (bnR x 9)) : ∀ j, j < 10 → LeX (nthD r j) (bnR x j)
  | 0, _ => h0
  | 1, _ => h1
  | 2, _ => h2
  | 3, _ => h3
  | 4, _ => h4
  | 5, _ => h5
  | 6, _ => h6
  | 7, _ => h7
  | 8, _ => h8
  | 9, _ => h9
  | j + 10, h => absurd h (by omega)
set_option maxRecDepth 20000 in
set_option maxHeartbeats 4000000 in
theorem example_c : Con Try.prog 41 [] [] 0 1 U (fun _ => .o (.own 0)) (fun _ => [.own 0 50 10 (bnC exL)]) := by
  refine con_of Try.func41 rfl (by kernel_rfl) Try.ntmps41 rfl (by first | exact Nat.zero_le _ | decide) (fun _ => ⟨rfl, rfl⟩) fun w S ν => ?_
  (repeat' (first|(with_reducible refine AllP.go ?_;(first|exact trivial|exact fun _ _=>⟨_,rfl⟩|((try simp only [OS]);repeat' (first|omega|exact fun _ _=>⟨_,rfl⟩|refine And.intro ?_ ?_))))|(refine rg ?_ ?_)|(with_reducible first|refine stp ?_|refine tD rfl ?_)|refine ct ?_|refine cf ?_|((first|refine gs ?_ ?_|refine gl ?_ ?_|refine gc ?_ ?_)<;>intro h<;>(try simp only [NS] at h)<;>(try exact xf)<;>(try refine rn ?_ ?_))))
  (refine TE.freezeN 0 (by rfl) (by rfl) ?_)
  ((refine rn ?_ ?_);(repeat' (first|(with_reducible refine AllP.go ?_;(first|exact trivial|exact fun _ _=>⟨_,rfl⟩|((try simp only [OS]);repeat' (first|omega|exact fun _ _=>⟨_,rfl⟩|refine And.intro ?_ ?_))))|(refine rg ?_ ?_)|(with_reducible first|refine stp ?_|refine tD rfl ?_)|refine ct ?_|refine cf ?_|((first|refine gs ?_ ?_|refine gl ?_ ?_|refine gc ?_ ?_)<;>intro h<;>(try simp only [NS] at h)<;>(try exact xf)<;>(try refine rn ?_ ?_)))))
  (refine TE.ret' io rfl tysOk (()) ?_ rfl (by rfl) ?_;all_goals (try (first|exact trivial|((with_reducible refine AllP.go ?_);dsimp only [AllP, appP];repeat' (first|with_reducible rfl|with_reducible exact LeD.refl|refine And.intro ?_ ?_|exact vi|rfl|exact vb|exact LeD.refl)))))
  (refine LeD.lit rfl ?_; repeat' (first | exact trivial | exact LeX.of_eq rfl | exact LeX.nil rfl | (refine LeX.lit rfl ?_) | refine nth1x ?_ | refine nth2x ?_ ?_ | refine nth3x ?_ ?_ ?_ | refine nth4x ?_ ?_ ?_ ?_ | refine And.intro ?_ ?_))
  all_goals refine bn_row ?_ ?_ ?_ ?_ ?_ ?_ ?_ ?_ ?_ ?_
  all_goals first | exact LeX.of_eq rfl | exact LeX.nil rfl | skip
  all_goals (refine LeX.lit rfl ?_; repeat' (first | exact trivial | exact LeX.of_eq rfl | exact LeX.nil rfl | (refine LeX.lit rfl ?_) | refine nth1x ?_ | refine nth2x ?_ ?_ | refine nth3x ?_ ?_ ?_ | refine nth4x ?_ ?_ ?_ ?_ | refine And.intro ?_ ?_))
theorem ex_dirs : dirsE exL = ([0, 1, 3], 0) := by decide
theorem ex_kids : kidsE exL 3 = ([4, 5], 0) := by decide
theorem ex_names : namesE exL 2 = ([2, 5], 0) := by decide
theorem ex_at : atE exL [⟨#[100]⟩, ⟨#[119]⟩] = (4, 0) := by decide
theorem ex_dir : dirE exL 3 = (⟨[], false, [⟨#[111, 108, 100]⟩, ⟨#[100]⟩], [⟨⟨#[119]⟩, ⟨0, eS, 5, [], eS, 0, 0, 0⟩, true, true, 1⟩, ⟨⟨#[121]⟩, ⟨0, eS, 2, [], ⟨#[49, 50]⟩, 0, 0, 1⟩, false, false, 2⟩]⟩, 0) := by decide
def exA : List Bn := exL.set 3 { exL.getD 3 b0 with red := [⟨#[100]⟩] }
def exB : List Bn := exL.set 1 { exL.getD 1 b0 with red := [⟨#[113]⟩] }
theorem ex_a : checkB exA = (3, 6) := by decide
theorem ex_b : checkB exB = (1, 6) := by decide
end Go.Proofs.Ythhpofehcnjmmaa.Am
/- Branches: the examples of the document. -/
set_option linter.unusedSimpArgs false
set_option linter.unusedVariables false
namespace Go.Proofs.Ythhpofehcnjmmaa.Am
open Go.RowKit Lw
open Br
theorem bok_small {l : List Bn} (h : l.all (fun x => decide (x.nd.attrs.length = 0 ∧ x.nd.name.size ≤ 1000 ∧ x.red.length ≤ 1000) && x.red.all (fun s => decide (s.size ≤ 1000))) = true) : ∀ x ∈ l, okB x := fun x hx => by
  have h1 := List.all_eq_true.1 h x hx
  rw [Bool.and_eq_true, decide_eq_true_eq, List.all_eq_true] at h1
  obtain ⟨⟨h2, h3, h4⟩, h5⟩ := h1
  have h6 : x.nd.attrs = [] := List.length_eq_zero_iff.1 h2
  refine ⟨⟨by omega, by rw [h6]; decide, by omega⟩, by omega, fun s hs => ?_⟩
  have := of_decide_eq_true (h5 s hs)
  omega
theorem ex_ok : ∀ x ∈ exL, okB x := bok_small (by decide)
theorem exA_ok : ∀ x ∈ exA, okB x := bok_small (by decide)
theorem exB_ok : ∀ x ∈ exB, okB x := bok_small (by decide)
theorem bn_setR {l : List Bn} {i : Nat} {d : DC} {r : List ByteArray} (hi : i < l.length) (h : LeX d (bnR { l.getD i b0 with red := r } 9)) : LeDC 10 (setC (bnC l) i 9 d) (bnC (l.set i { l.getD i b0 with red := r })) := by
  refine ⟨(List.length_set ..).symm, fun a j ha hj => ?_⟩
  show LeX (if a = i ∧ j = 9 then d else bnR (l.getD a b0) j) (bnR ((l.set i { l.getD i b0 with red := r }).getD a b0) j)
  rw [getD_set hi]
  by_cases e : a = i
  · subst e
    rw [if_pos rfl]
    by_cases e2 : j = 9
    · subst e2
      rw [if_pos ⟨rfl, rfl⟩]
      exact h
    · rw [if_neg (fun k => e2 k.2)]
      refine LeX.of_eq ?_
      match j, hj, e2 with
      | 0, _, _ => rfl
      | 1, _, _ => rfl
      | 2, _, _ => rfl
      | 3, _, _ => rfl
      | 4, _, _ => rfl
      | 5, _, _ => rfl
      | 6, _, _ => rfl
      | 7, _, _ => rfl
      | 8, _, _ => rfl
      | 9, _, h => exact absurd rfl h
      | j + 10, h, _ => omega
  · rw [if_neg (fun k => e k.1), if_neg e]
    exact LeX.of_eq rfl
set_option maxRecDepth 20000 in
set_option maxHeartbeats 16000000 in
theorem shown_c : Con Try.prog 12 [] [] 0 0 U (fun _ => .o (.c (.bool true))) G0 := by
  refine con_of0 Try.func12 rfl (by kernel_rfl) Try.ntmps12 rfl (by first | exact Nat.zero_le _ | decide) (fun _ => ⟨rfl, rfl⟩) fun w S ν => ?_
  have hl : exL.length ≤ 1000000 := by decide
  have c1 := dirs_c exL hl ex_ok
  have c2 := Kids_c exL 3 hl ex_ok
  have c3 := Names_c exL 2 hl ex_ok
  have c4 := at_c exL [⟨#[100]⟩, ⟨#[119]⟩] hl ex_ok ⟨by decide, by decide⟩
  have c5 := Dir_c exL 3 hl ex_ok
  rw [ex_dirs] at c1
  rw [ex_kids] at c2
  rw [ex_names] at c3
  rw [ex_at] at c4
  rw [ex_dir] at c5
  have i1 := ints_c [0, 1, 3] [0, 1, 3] (by decide) (by decide)
  have i2 := ints_c [4, 5] [4, 5] (by decide) (by decide)
  have i3 := ints_c [2, 5] [2, 5] (by decide) (by decide)
  rw [decide_eq_true rfl] at i1 i2 i3
  (repeat' (first|(with_reducible refine AllP.go ?_;(first|exact trivial|exact fun _ _=>⟨_,rfl⟩|((try simp only [OS]);repeat' (first|omega|exact fun _ _=>⟨_,rfl⟩|refine And.intro ?_ ?_))))|(refine rg ?_ ?_)|(with_reducible first|refine stp ?_|refine tD rfl ?_)|refine ct ?_|refine cf ?_|((first|refine gs ?_ ?_|refine gl ?_ ?_|refine gc ?_ ?_)<;>intro h<;>(try simp only [NS] at h)<;>(try exact xf)<;>(try refine rn ?_ ?_))))
  refine TE.callW (example_c) rfl (by rfl) (by rfl) rfl (by rfl) (by (first|exact trivial|((with_reducible refine AllP.go ?_);dsimp only [AllP, appP];repeat' (first|with_reducible rfl|with_reducible exact LeD.refl|refine And.intro ?_ ?_|exact vi|rfl|exact vb|assumption|exact LeD.refl)))) ?_
  intro _ _
  ((refine rn ?_ ?_);(repeat' (first|(with_reducible refine AllP.go ?_;(first|exact trivial|exact fun _ _=>⟨_,rfl⟩|((try simp only [OS]);repeat' (first|omega|exact fun _ _=>⟨_,rfl⟩|refine And.intro ?_ ?_))))|(refine rg ?_ ?_)|(with_reducible first|refine stp ?_|refine tD rfl ?_)|refine ct ?_|refine cf ?_|((first|refine gs ?_ ?_|refine gl ?_ ?_|refine gc ?_ ?_)<;>intro h<;>(try simp only [NS] at h)<;>(try exact xf)<;>(try refine rn ?_ ?_)))))
  refine TE.lend 1 0 rfl (by rfl) (by rfl) (by decide) (by rfl) ?_
  intro w0 B0 S0 ν0 v S1 g L
  refine TE.callW (c1) rfl (by rfl) (by rfl) rfl (by rfl) (by (first|exact trivial|((with_reducible refine AllP.go ?_);dsimp only [AllP, appP];repeat' (first|with_reducible rfl|with_reducible exact LeD.refl|refine And.intro ?_ ?_|exact vi|rfl|exact vb|assumption|exact LeD.refl)))) ?_
  intro _ _
  ((refine rn ?_ ?_);(repeat' (first|(with_reducible refine AllP.go ?_;(first|exact trivial|exact fun _ _=>⟨_,rfl⟩|((try simp only [OS]);repeat' (first|omega|exact fun _ _=>⟨_,rfl⟩|refine And.intro ?_ ?_))))|(refine rg ?_ ?_)|(with_reducible first|refine stp ?_|refine tD rfl ?_)|refine ct ?_|refine cf ?_|((first|refine gs ?_ ?_|refine gl ?_ ?_|refine gc ?_ ?_)<;>intro h<;>(try simp only [NS] at h)<;>(try exact xf)<;>(try refine rn ?_ ?_)))))
  refine TE.callW (c2) rfl (by rfl) (by rfl) rfl (by rfl) (by (first|exact trivial|((with_reducible refine AllP.go ?_);dsimp only [AllP, appP];repeat' (first|with_reducible rfl|with_reducible exact LeD.refl|refine And.intro ?_ ?_|exact vi|rfl|exact vb|assumption|exact LeD.refl)))) ?_
  intro _ _
  ((refine rn ?_ ?_);(repeat' (first|(with_reducible refine AllP.go ?_;(first|exact trivial|exact fun _ _=>⟨_,rfl⟩|((try simp only [OS]);repeat' (first|omega|exact fun _ _=>⟨_,rfl⟩|refine And.intro ?_ ?_))))|(refine rg ?_ ?_)|(with_reducible first|refine stp ?_|refine tD rfl ?_)|refine ct ?_|refine cf ?_|((first|refine gs ?_ ?_|refine gl ?_ ?_|refine gc ?_ ?_)<;>intro h<;>(try simp only [NS] at h)<;>(try exact xf)<;>(try refine rn ?_ ?_)))))
  refine TE.callW (c3) rfl (by rfl) (by rfl) rfl (by rfl) (by (first|exact trivial|((with_reducible refine AllP.go ?_);dsimp only [AllP, appP];repeat' (first|with_reducible rfl|with_reducible exact LeD.refl|refine And.intro ?_ ?_|exact vi|rfl|exact vb|assumption|exact LeD.refl)))) ?_
  intro _ _
  ((refine rn ?_ ?_);(repeat' (first|(with_reducible refine AllP.go ?_;(first|exact trivial|exact fun _ _=>⟨_,rfl⟩|((try simp only [OS]);repeat' (first|omega|exact fun _ _=>⟨_,rfl⟩|refine And.intro ?_ ?_))))|(refine rg ?_ ?_)|(with_reducible first|refine stp ?_|refine tD rfl ?_)|refine ct ?_|refine cf ?_|((first|refine gs ?_ ?_|refine gl ?_ ?_|refine gc ?_ ?_)<;>intro h<;>(try simp only [NS] at h)<;>(try exact xf)<;>(try refine rn ?_ ?_)))))
  (refine TE.freezeN 1 (by rfl) (by rfl) ?_)
  refine TE.callW (c4) rfl (by rfl) (by rfl) rfl (by rfl) (by (first|exact trivial|((with_reducible refine AllP.go ?_);dsimp only [AllP, appP];repeat' (first|with_reducible rfl|with_reducible exact LeD.refl|refine And.intro ?_ ?_|exact vi|rfl|exact vb|exact trivial|(refine LeD.lit rfl ?_)|exact LeX.of_eq rfl|exact LeX.nil rfl|(refine LeX.lit rfl ?_)|refine nth1x ?_|refine nth2x ?_ ?_|refine nth3x ?_ ?_ ?_|refine nth4x ?_ ?_ ?_ ?_|exact LeD.refl)))) ?_
  intro _ _
  ((refine rn ?_ ?_);(repeat' (first|(with_reducible refine AllP.go ?_;(first|exact trivial|exact fun _ _=>⟨_,rfl⟩|((try simp only [OS]);repeat' (first|omega|exact fun _ _=>⟨_,rfl⟩|refine And.intro ?_ ?_))))|(refine rg ?_ ?_)|(with_reducible first|refine stp ?_|refine tD rfl ?_)|refine ct ?_|refine cf ?_|((first|refine gs ?_ ?_|refine gl ?_ ?_|refine gc ?_ ?_)<;>intro h<;>(try simp only [NS] at h)<;>(try exact xf)<;>(try refine rn ?_ ?_)))))
  refine TE.callW (c5) rfl (by rfl) (by rfl) rfl (by rfl) (by (first|exact trivial|((with_reducible refine AllP.go ?_);dsimp only [AllP, appP];repeat' (first|with_reducible rfl|with_reducible exact LeD.refl|refine And.intro ?_ ?_|exact vi|rfl|exact vb|assumption|exact LeD.refl)))) ?_
  intro _ _
  ((refine rn ?_ ?_);(repeat' (first|(with_reducible refine AllP.go ?_;(first|exact trivial|exact fun _ _=>⟨_,rfl⟩|((try simp only [OS]);repeat' (first|omega|exact fun _ _=>⟨_,rfl⟩|refine And.intro ?_ ?_))))|(refine rg ?_ ?_)|(with_reducible first|refine stp ?_|refine tD rfl ?_)|refine ct ?_|refine cf ?_|((first|refine gs ?_ ?_|refine gl ?_ ?_|refine gc ?_ ?_)<;>intro h<;>(try simp only [NS] at h)<;>(try exact xf)<;>(try refine rn ?_ ?_)))))
  (refine TE.freezeN 3 (by rfl) (by rfl) ?_)
  refine TE.callW (i1) rfl (by rfl) (by rfl) rfl (by rfl) (by (first|exact trivial|((with_reducible refine AllP.go ?_);dsimp only [AllP, appP];repeat' (first|with_reducible rfl|with_reducible exact LeD.refl|refine And.intro ?_ ?_|exact vi|rfl|exact vb|exact trivial|(refine LeD.lit rfl ?_)|exact LeX.of_eq rfl|exact LeX.nil rfl|(refine LeX.lit rfl ?_)|refine nth1x ?_|refine nth2x ?_ ?_|refine nth3x ?_ ?_ ?_|refine nth4x ?_ ?_ ?_ ?_|exact LeD.refl)))) ?_
  intro _ _
  ((refine rn ?_ ?_);(repeat' (first|(with_reducible refine AllP.go ?_;(first|exact trivial|exact fun _ _=>⟨_,rfl⟩|((try simp only [OS]);repeat' (first|omega|exact fun _ _=>⟨_,rfl⟩|refine And.intro ?_ ?_))))|(refine rg ?_ ?_)|(with_reducible first|refine stp ?_|refine tD rfl ?_)|refine ct ?_|refine cf ?_|((first|refine gs ?_ ?_|refine gl ?_ ?_|refine gc ?_ ?_)<;>intro h<;>(try simp only [NS] at h)<;>(try exact xf)<;>(try refine rn ?_ ?_)))))
  (refine TE.freezeN 4 (by rfl) (by rfl) ?_)
  refine TE.callW (i2) rfl (by rfl) (by rfl) rfl (by rfl) (by (first|exact trivial|((with_reducible refine AllP.go ?_);dsimp only [AllP, appP];repeat' (first|with_reducible rfl|with_reducible exact LeD.refl|refine And.intro ?_ ?_|exact vi|rfl|exact vb|exact trivial|(refine LeD.lit rfl ?_)|exact LeX.of_eq rfl|exact LeX.nil rfl|(refine LeX.lit rfl ?_)|refine nth1x ?_|refine nth2x ?_ ?_|refine nth3x ?_ ?_ ?_|refine nth4x ?_ ?_ ?_ ?_|exact LeD.refl)))) ?_
  intro _ _
  ((refine rn ?_ ?_);(repeat' (first|(with_reducible refine AllP.go ?_;(first|exact trivial|exact fun _ _=>⟨_,rfl⟩|((try simp only [OS]);repeat' (first|omega|exact fun _ _=>⟨_,rfl⟩|refine And.intro ?_ ?_))))|(refine rg ?_ ?_)|(with_reducible first|refine stp ?_|refine tD rfl ?_)|refine ct ?_|refine cf ?_|((first|refine gs ?_ ?_|refine gl ?_ ?_|refine gc ?_ ?_)<;>intro h<;>(try simp only [NS] at h)<;>(try exact xf)<;>(try refine rn ?_ ?_)))))
  (refine TE.freezeN 5 (by rfl) (by rfl) ?_)
  refine TE.callW (i3) rfl (by rfl) (by rfl) rfl (by rfl) (by (first|exact trivial|((with_reducible refine AllP.go ?_);dsimp only [AllP, appP];repeat' (first|with_reducible rfl|with_reducible exact LeD.refl|refine And.intro ?_ ?_|exact vi|rfl|exact vb|exact trivial|(refine LeD.lit rfl ?_)|exact LeX.of_eq rfl|exact LeX.nil rfl|(refine LeX.lit rfl ?_)|refine nth1x ?_|refine nth2x ?_ ?_|refine nth3x ?_ ?_ ?_|refine nth4x ?_ ?_ ?_ ?_|exact LeD.refl)))) ?_
  intro _ _
  ((refine rn ?_ ?_);repeat' (first|(with_reducible refine AllP.go ?_;(first|exact trivial|exact fun _ _=>⟨_,rfl⟩|((try simp only [OS]);repeat' (first|omega|exact fun _ _=>⟨_,rfl⟩|refine And.intro ?_ ?_))))|(with_reducible first|refine stp ?_|refine tD rfl ?_)|refine ct ?_|refine cf ?_|((first|refine gs ?_ ?_|refine gl ?_ ?_|refine gc ?_ ?_)<;>intro h<;>(try simp only [NS] at h)<;>(try exact xf)<;>(try refine rn ?_ ?_))))
  refine TE.thaw L 1 (by repeat (first | exact List.mem_cons_self .. | refine List.mem_cons_of_mem _ ?_)) (by rfl) ?_
  (refine TE.only [1, 0] (by rfl) ?_)
  have hlen : exL.length = 6 := rfl
  have c6 := checkB_c exA (by decide) exA_ok
  have c7 := checkB_c exB (by decide) exB_ok
  rw [ex_a] at c6
  rw [ex_b] at c7
  have hA : LeDC 10 (setC (bnC exL) (Int.toNat 3) 9 (.sl 1 (litC [[DC.c (.string ⟨#[100]⟩)]]).n (litC [[DC.c (.string ⟨#[100]⟩)]]).cell)) (bnC exA) := bn_setR (by decide) (by (refine LeX.lit rfl ?_; repeat' (first | exact trivial | exact LeX.of_eq rfl | exact LeX.nil rfl | (refine LeX.lit rfl ?_) | refine nth1x ?_ | refine nth2x ?_ ?_ | refine nth3x ?_ ?_ ?_ | refine nth4x ?_ ?_ ?_ ?_ | refine And.intro ?_ ?_)))
  have hB : LeDC 10 (setC (bnC exL) (Int.toNat 1) 9 (.sl 1 (litC [[DC.c (.string ⟨#[113]⟩)]]).n (litC [[DC.c (.string ⟨#[113]⟩)]]).cell)) (bnC exB) := bn_setR (by decide) (by (refine LeX.lit rfl ?_; repeat' (first | exact trivial | exact LeX.of_eq rfl | exact LeX.nil rfl | (refine LeX.lit rfl ?_) | refine nth1x ?_ | refine nth2x ?_ ?_ | refine nth3x ?_ ?_ ?_ | refine nth4x ?_ ?_ ?_ ?_ | refine And.intro ?_ ?_)))
  (repeat' (first|(with_reducible refine AllP.go ?_;(first|exact trivial|exact fun _ _=>⟨_,rfl⟩|((try simp only [OS]);repeat' (first|omega|exact fun _ _=>⟨_,rfl⟩|refine And.intro ?_ ?_))))|(refine rg ?_ ?_)|(with_reducible first|refine stp ?_|refine tD rfl ?_)|refine ct ?_|refine cf ?_|((first|refine gs ?_ ?_|refine gl ?_ ?_|refine gc ?_ ?_)<;>intro h<;>(try simp only [NS] at h)<;>(try exact xf)<;>(try refine rn ?_ ?_))))
  (refine TE.freezeN 7 (by rfl) (by rfl) ?_)
  ((refine rn ?_ ?_);(repeat' (first|(with_reducible refine AllP.go ?_;(first|exact trivial|exact fun _ _=>⟨_,rfl⟩|((try simp only [OS]);repeat' (first|omega|exact fun _ _=>⟨_,rfl⟩|refine And.intro ?_ ?_))))|(refine rg ?_ ?_)|(with_reducible first|refine stp ?_|refine tD rfl ?_)|refine ct ?_|refine cf ?_|((first|refine gs ?_ ?_|refine gl ?_ ?_|refine gc ?_ ?_)<;>intro h<;>(try simp only [NS] at h)<;>(try exact xf)<;>(try refine rn ?_ ?_)))))
  (refine TE.freezeN 6 (by rfl) (by rfl) ?_)
  refine TE.callW (c6) rfl (by rfl) (by rfl) rfl (by rfl) ?_ ?_
  · refine AllP.go ?_
    refine And.intro rfl ?_
    exact hA
  intro _ _
  ((refine rn ?_ ?_);(repeat' (first|(with_reducible refine AllP.go ?_;(first|exact trivial|exact fun _ _=>⟨_,rfl⟩|((try simp only [OS]);repeat' (first|omega|exact fun _ _=>⟨_,rfl⟩|refine And.intro ?_ ?_))))|(refine rg ?_ ?_)|(with_reducible first|refine stp ?_|refine tD rfl ?_)|refine ct ?_|refine cf ?_|((first|refine gs ?_ ?_|refine gl ?_ ?_|refine gc ?_ ?_)<;>intro h<;>(try simp only [NS] at h)<;>(try exact xf)<;>(try refine rn ?_ ?_)))))
  refine TE.callW (example_c) rfl (by rfl) (by rfl) rfl (by rfl) (by (first|exact trivial|((with_reducible refine AllP.go ?_);dsimp only [AllP, appP];repeat' (first|with_reducible rfl|with_reducible exact LeD.refl|refine And.intro ?_ ?_|exact vi|rfl|exact vb|assumption|exact LeD.refl)))) ?_
  intro _ _
  ((refine rn ?_ ?_);(repeat' (first|(with_reducible refine AllP.go ?_;(first|exact trivial|exact fun _ _=>⟨_,rfl⟩|((try simp only [OS]);repeat' (first|omega|exact fun _ _=>⟨_,rfl⟩|refine And.intro ?_ ?_))))|(refine rg ?_ ?_)|(with_reducible first|refine stp ?_|refine tD rfl ?_)|refine ct ?_|refine cf ?_|((first|refine gs ?_ ?_|refine gl ?_ ?_|refine gc ?_ ?_)<;>intro h<;>(try simp only [NS] at h)<;>(try exact xf)<;>(try refine rn ?_ ?_)))))
  (refine TE.freezeN 9 (by rfl) (by rfl) ?_)
  ((refine rn ?_ ?_);(repeat' (first|(with_reducible refine AllP.go ?_;(first|exact trivial|exact fun _ _=>⟨_,rfl⟩|((try simp only [OS]);repeat' (first|omega|exact fun _ _=>⟨_,rfl⟩|refine And.intro ?_ ?_))))|(refine rg ?_ ?_)|(with_reducible first|refine stp ?_|refine tD rfl ?_)|refine ct ?_|refine cf ?_|((first|refine gs ?_ ?_|refine gl ?_ ?_|refine gc ?_ ?_)<;>intro h<;>(try simp only [NS] at h)<;>(try exact xf)<;>(try refine rn ?_ ?_)))))
  (refine TE.freezeN 8 (by rfl) (by rfl) ?_)
  refine TE.callW (c7) rfl (by rfl) (by rfl) rfl (by rfl) ?_ ?_
  · refine AllP.go ?_
    refine And.intro rfl ?_
    exact hB
  intro _ _
  ((refine rn ?_ ?_);(repeat' (first|(with_reducible refine AllP.go ?_;(first|exact trivial|exact fun _ _=>⟨_,rfl⟩|((try simp only [OS]);repeat' (first|omega|exact fun _ _=>⟨_,rfl⟩|refine And.intro ?_ ?_))))|(refine rg ?_ ?_)|(with_reducible first|refine stp ?_|refine tD rfl ?_)|refine ct ?_|refine cf ?_|((first|refine gs ?_ ?_|refine gl ?_ ?_|refine gc ?_ ?_)<;>intro h<;>(try simp only [NS] at h)<;>(try exact xf)<;>(try refine rn ?_ ?_)))))
  (refine TE.ret' io rfl tysOk (()) ?_ rfl (by rfl) ?_;all_goals (try (first|exact trivial|((with_reducible refine AllP.go ?_);dsimp only [AllP, appP];repeat' (first|with_reducible rfl|with_reducible exact LeD.refl|refine And.intro ?_ ?_|exact vi|rfl|exact vb|exact LeD.refl)))))
end Go.Proofs.Ythhpofehcnjmmaa.Am
/- Branches: what is looked at; the law of the checks. -/
set_option linter.unusedSimpArgs false
set_option linter.unusedVariables false
namespace Go.Proofs.Ythhpofehcnjmmaa.Am
open Go.RowKit Lw
open Br
/-- A node that is looked at. -/
def smB (x : Bn) : Prop := (x.nd.attrs.length ≤ 10 ∧ x.red.length ≤ 12 ∧ x.nd.name.size ≤ 1000 ∧ x.nd.data.size ≤ 1000) ∧ (∀ j, j < x.nd.attrs.length → (x.nd.attrs.getD j At.d0).1.size ≤ 1000 ∧ (x.nd.attrs.getD j At.d0).2.size ≤ 1000) ∧ ∀ j, j < x.red.length → (x.red.getD j eS).size ≤ 1000
def smL (l : List Bn) : Prop := l.length ≤ 130 ∧ ∀ j, j < l.length → smB (l.getD j b0)
set_option maxRecDepth 20000 in
set_option maxHeartbeats 4000000 in
theorem large_c (l : List Bn) : Con Try.prog 11 [.o (.ro 10 l.length (bnC l).cell)] [] 0 0 (fun r : Bool => r = false → smL l) (fun r => .o (.c (.bool r))) (fun _ => []) := by
  refine con_of Try.func11 rfl (by kernel_rfl) Try.ntmps11 rfl (by first | exact Nat.zero_le _ | decide) (fun _ => ⟨rfl, rfl⟩) fun w S ν => ?_
  (repeat' (first|(with_reducible refine AllP.go ?_;(first|exact trivial|exact fun _ _=>⟨_,rfl⟩|((try simp only [OS]);repeat' (first|omega|exact fun _ _=>⟨_,rfl⟩|refine And.intro ?_ ?_))))|(refine rg ?_ ?_)|(with_reducible first|refine stp ?_|refine tD rfl ?_)|refine ct ?_|refine cf ?_|((first|refine gs ?_ ?_|refine gl ?_ ?_|refine gc ?_ ?_)<;>intro h<;>(try simp only [NS] at h)<;>(try exact xf)<;>(try refine rn ?_ ?_))))
  refine TE.loopG (fun q : Nat => q ≤ l.length ∧ q ≤ 150 ∧ ∀ j, j < q → smB (l.getD j b0)) (fun q => [(3, .o (.c (.int .i64 q)))]) [] (fun _ => []) (fun q => l.length - q) 0 (by rfl) ⟨Nat.zero_le _, Nat.zero_le _, fun j hj => absurd hj (Nat.not_lt_zero _)⟩ ?_ ?_
  · (refine Ent.of rfl rfl (by rfl) ?_;(try (first|exact trivial|((with_reducible refine AllP.go ?_);dsimp only [AllP, appP];repeat' (first|with_reducible rfl|with_reducible exact LeD.refl|refine And.intro ?_ ?_|exact vi|rfl|exact vb|exact LeD.refl)))))
  rintro q ⟨h1, h2, h3⟩
  by_cases hlt : q < l.length ∧ q < 150
  · obtain ⟨hlt, h150⟩ := hlt
    by_cases hb : (l.getD q b0).nd.attrs.length ≤ 10 ∧ (l.getD q b0).red.length ≤ 12 ∧ (l.getD q b0).nd.name.size ≤ 1000 ∧ (l.getD q b0).nd.data.size ≤ 1000
    · have hb' := hb
      obtain ⟨b1, b2, b3, b4⟩ := hb'
      (repeat' (first|(with_reducible refine AllP.go ?_;(first|exact trivial|exact fun _ _=>⟨_,rfl⟩|((try simp only [OS]);repeat' (first|omega|exact fun _ _=>⟨_,rfl⟩|refine And.intro ?_ ?_))))|(refine rg ?_ ?_)|(with_reducible first|refine stp ?_|refine tD rfl ?_)|refine ct ?_|refine cf ?_|((first|refine gs ?_ ?_|refine gl ?_ ?_|refine gc ?_ ?_)<;>intro h<;>(try simp only [NS] at h)<;>(try exact xf)<;>(try refine rn ?_ ?_))))
      refine TE.loopG (fun j : Nat => j ≤ (l.getD q b0).nd.attrs.length ∧ ∀ i, i < j → ((l.getD q b0).nd.attrs.getD i At.d0).1.size ≤ 1000 ∧ ((l.getD q b0).nd.attrs.getD i At.d0).2.size ≤ 1000) (fun j => [(5, .o (.c (.int .i64 j)))]) [] (fun _ => []) (fun j => (l.getD q b0).nd.attrs.length - j) 0 (by rfl) ⟨Nat.zero_le _, fun j hj => absurd hj (Nat.not_lt_zero _)⟩ ?_ ?_
      · (refine Ent.of rfl rfl (by rfl) ?_;(try (first|exact trivial|((with_reducible refine AllP.go ?_);dsimp only [AllP, appP];repeat' (first|with_reducible rfl|with_reducible exact LeD.refl|refine And.intro ?_ ?_|exact vi|rfl|exact vb|exact LeD.refl)))))
      rintro j ⟨h4, h5⟩
      by_cases hj : j < (l.getD q b0).nd.attrs.length
      · by_cases hc : ((l.getD q b0).nd.attrs.getD j At.d0).1.size ≤ 1000 ∧ ((l.getD q b0).nd.attrs.getD j At.d0).2.size ≤ 1000
        · have hc' := hc
          obtain ⟨c1, c2⟩ := hc'
          (repeat' (first|(with_reducible refine AllP.go ?_;(first|exact trivial|exact fun _ _=>⟨_,rfl⟩|((try simp only [OS]);repeat' (first|omega|exact fun _ _=>⟨_,rfl⟩|refine And.intro ?_ ?_))))|(refine rg ?_ ?_)|(with_reducible first|refine stp ?_|refine tD rfl ?_)|refine ct ?_|refine cf ?_|((first|refine gs ?_ ?_|refine gl ?_ ?_|refine gc ?_ ?_)<;>intro h<;>(try simp only [NS] at h)<;>(try exact xf)<;>(try refine rn ?_ ?_))))
          refine TE.again' (j + 1) ⟨by omega, fun i hi => ?_⟩ (by omega) ?_
          · rcases Nat.lt_or_ge i j with h6 | h6
            · exact h5 i h6
            · obtain rfl : i = j := by omega
              exact hc
          · (refine Ent.of rfl rfl (by rfl) ?_;(try (first|exact trivial|((with_reducible refine AllP.go ?_);dsimp only [AllP, appP];repeat' (first|with_reducible rfl|with_reducible exact LeD.refl|refine And.intro ?_ ?_|exact vi|rfl|exact vb|exact LeD.refl)))))
        · (repeat' (first|(with_reducible refine AllP.go ?_;(first|exact trivial|exact fun _ _=>⟨_,rfl⟩|((try simp only [OS]);repeat' (first|omega|exact fun _ _=>⟨_,rfl⟩|refine And.intro ?_ ?_))))|(refine rg ?_ ?_)|(with_reducible first|refine stp ?_|refine tD rfl ?_)|refine ct ?_|refine cf ?_|((first|refine gs ?_ ?_|refine gl ?_ ?_|refine gc ?_ ?_)<;>intro h<;>(try simp only [NS] at h)<;>(try exact xf)<;>(try refine rn ?_ ?_))))
          all_goals
            (refine TE.ret' io rfl tysOk (true) ?_ rfl (by rfl) ?_;all_goals (try (first|exact trivial|((with_reducible refine AllP.go ?_);dsimp only [AllP, appP];repeat' (first|with_reducible rfl|with_reducible exact LeD.refl|refine And.intro ?_ ?_|exact vi|rfl|exact vb|exact LeD.refl)))))
            intro h
            cases h
      · obtain rfl : j = (l.getD q b0).nd.attrs.length := by omega
        (repeat' (first|(with_reducible refine AllP.go ?_;(first|exact trivial|exact fun _ _=>⟨_,rfl⟩|((try simp only [OS]);repeat' (first|omega|exact fun _ _=>⟨_,rfl⟩|refine And.intro ?_ ?_))))|(refine rg ?_ ?_)|(with_reducible first|refine stp ?_|refine tD rfl ?_)|refine ct ?_|refine cf ?_|((first|refine gs ?_ ?_|refine gl ?_ ?_|refine gc ?_ ?_)<;>intro h<;>(try simp only [NS] at h)<;>(try exact xf)<;>(try refine rn ?_ ?_))))
        refine TE.loopG (fun j : Nat => j ≤ (l.getD q b0).red.length ∧ ∀ i, i < j → ((l.getD q b0).red.getD i eS).size ≤ 1000) (fun j => [(6, .o (.c (.int .i64 j)))]) [] (fun _ => []) (fun j => (l.getD q b0).red.length - j) 0 (by rfl) ⟨Nat.zero_le _, fun j hj => absurd hj (Nat.not_lt_zero _)⟩ ?_ ?_
        · (refine Ent.of rfl rfl (by rfl) ?_;(try (first|exact trivial|((with_reducible refine AllP.go ?_);dsimp only [AllP, appP];repeat' (first|with_reducible rfl|with_reducible exact LeD.refl|refine And.intro ?_ ?_|exact vi|rfl|exact vb|exact LeD.refl)))))
        rintro j ⟨h6, h7⟩
        by_cases hj : j < (l.getD q b0).red.length
        · by_cases hc : ((l.getD q b0).red.getD j eS).size ≤ 1000
          · (repeat' (first|(with_reducible refine AllP.go ?_;(first|exact trivial|exact fun _ _=>⟨_,rfl⟩|((try simp only [OS]);repeat' (first|omega|exact fun _ _=>⟨_,rfl⟩|refine And.intro ?_ ?_))))|(refine rg ?_ ?_)|(with_reducible first|refine stp ?_|refine tD rfl ?_)|refine ct ?_|refine cf ?_|((first|refine gs ?_ ?_|refine gl ?_ ?_|refine gc ?_ ?_)<;>intro h<;>(try simp only [NS] at h)<;>(try exact xf)<;>(try refine rn ?_ ?_))))
            refine TE.again' (j + 1) ⟨by omega, fun i hi => ?_⟩ (by omega) ?_
            · rcases Nat.lt_or_ge i j with h8 | h8
              · exact h7 i h8
              · obtain rfl : i = j := by omega
                exact hc
            · (refine Ent.of rfl rfl (by rfl) ?_;(try (first|exact trivial|((with_reducible refine AllP.go ?_);dsimp only [AllP, appP];repeat' (first|with_reducible rfl|with_reducible exact LeD.refl|refine And.intro ?_ ?_|exact vi|rfl|exact vb|exact LeD.refl)))))
          · (repeat' (first|(with_reducible refine AllP.go ?_;(first|exact trivial|exact fun _ _=>⟨_,rfl⟩|((try simp only [OS]);repeat' (first|omega|exact fun _ _=>⟨_,rfl⟩|refine And.intro ?_ ?_))))|(refine rg ?_ ?_)|(with_reducible first|refine stp ?_|refine tD rfl ?_)|refine ct ?_|refine cf ?_|((first|refine gs ?_ ?_|refine gl ?_ ?_|refine gc ?_ ?_)<;>intro h<;>(try simp only [NS] at h)<;>(try exact xf)<;>(try refine rn ?_ ?_))))
            all_goals
              (refine TE.ret' io rfl tysOk (true) ?_ rfl (by rfl) ?_;all_goals (try (first|exact trivial|((with_reducible refine AllP.go ?_);dsimp only [AllP, appP];repeat' (first|with_reducible rfl|with_reducible exact LeD.refl|refine And.intro ?_ ?_|exact vi|rfl|exact vb|exact LeD.refl)))))
              intro h
              cases h
        · obtain rfl : j = (l.getD q b0).red.length := by omega
          (repeat' (first|(with_reducible refine AllP.go ?_;(first|exact trivial|exact fun _ _=>⟨_,rfl⟩|((try simp only [OS]);repeat' (first|omega|exact fun _ _=>⟨_,rfl⟩|refine And.intro ?_ ?_))))|(refine rg ?_ ?_)|(with_reducible first|refine stp ?_|refine tD rfl ?_)|refine ct ?_|refine cf ?_|((first|refine gs ?_ ?_|refine gl ?_ ?_|refine gc ?_ ?_)<;>intro h<;>(try simp only [NS] at h)<;>(try exact xf)<;>(try refine rn ?_ ?_))))
          refine TE.again' (q + 1) ⟨by omega, by omega, fun i hi => ?_⟩ (by omega) ?_
          · rcases Nat.lt_or_ge i q with h8 | h8
            · exact h3 i h8
            · obtain rfl : i = q := by omega
              exact ⟨hb, h5, h7⟩
          · (refine Ent.of rfl rfl (by rfl) ?_;(try (first|exact trivial|((with_reducible refine AllP.go ?_);dsimp only [AllP, appP];repeat' (first|with_reducible rfl|with_reducible exact LeD.refl|refine And.intro ?_ ?_|exact vi|rfl|exact vb|exact LeD.refl)))))
    · (repeat' (first|(with_reducible refine AllP.go ?_;(first|exact trivial|exact fun _ _=>⟨_,rfl⟩|((try simp only [OS]);repeat' (first|omega|exact fun _ _=>⟨_,rfl⟩|refine And.intro ?_ ?_))))|(refine rg ?_ ?_)|(with_reducible first|refine stp ?_|refine tD rfl ?_)|refine ct ?_|refine cf ?_|((first|refine gs ?_ ?_|refine gl ?_ ?_|refine gc ?_ ?_)<;>intro h<;>(try simp only [NS] at h)<;>(try exact xf)<;>(try refine rn ?_ ?_))))
      all_goals
        (refine TE.ret' io rfl tysOk (true) ?_ rfl (by rfl) ?_;all_goals (try (first|exact trivial|((with_reducible refine AllP.go ?_);dsimp only [AllP, appP];repeat' (first|with_reducible rfl|with_reducible exact LeD.refl|refine And.intro ?_ ?_|exact vi|rfl|exact vb|exact LeD.refl)))))
        intro h
        cases h
  · (repeat' (first|(with_reducible refine AllP.go ?_;(first|exact trivial|exact fun _ _=>⟨_,rfl⟩|((try simp only [OS]);repeat' (first|omega|exact fun _ _=>⟨_,rfl⟩|refine And.intro ?_ ?_))))|(refine rg ?_ ?_)|(with_reducible first|refine stp ?_|refine tD rfl ?_)|refine ct ?_|refine cf ?_|((first|refine gs ?_ ?_|refine gl ?_ ?_|refine gc ?_ ?_)<;>intro h<;>(try simp only [NS] at h)<;>(try exact xf)<;>(try refine rn ?_ ?_))))
    all_goals
      (refine TE.ret' io rfl tysOk (decide (130 < (l.length : Int))) ?_ rfl (by rfl) ?_;all_goals (try (first|exact trivial|((with_reducible refine AllP.go ?_);dsimp only [AllP, appP];repeat' (first|with_reducible rfl|with_reducible exact LeD.refl|refine And.intro ?_ ?_|exact vi|rfl|exact vb|exact LeD.refl)))))
      intro h
      have h6 := of_decide_eq_false h
      obtain rfl : q = l.length := by omega
      exact ⟨by omega, h3⟩
theorem sizeI_small {l : List At.At} (h : ∀ j, j < l.length → (l.getD j At.d0).1.size ≤ 1000 ∧ (l.getD j At.d0).2.size ≤ 1000) : At.sizeI l ≤ 2002 * l.length := by
  have h1 : ∀ q, q ≤ l.length → At.sizeI (l.take q) ≤ 2002 * q := by
    intro q
    induction q with
    | zero => intro _; simp [At.sizeI]
    | succ q ih =>
      intro hq
      rw [At.sizeI_snoc (by omega)]
      have h2 := h q (by omega)
      have h3 := ih (by omega)
      omega
  have h4 := h1 l.length (Nat.le_refl _)
  rwa [List.take_length] at h4
theorem sm_ok {l : List Bn} (h : smL l) : l.length ≤ 1000000 ∧ ∀ x ∈ l, okB x := by
  refine ⟨by have := h.1; omega, fun x hx => ?_⟩
  obtain ⟨i, hi, rfl⟩ := List.getElem_of_mem hx
  have h1 := h.2 i hi
  rw [List.getD_eq_getElem?_getD, List.getElem?_eq_getElem hi] at h1
  have h1 : smB l[i] := h1
  obtain ⟨⟨h2, h3, h4, h5⟩, h6, h7⟩ := h1
  refine ⟨⟨by omega, ?_, by omega⟩, by omega, fun s hs => ?_⟩
  · have := sizeI_small h6
    omega
  · obtain ⟨j, hj, rfl⟩ := List.getElem_of_mem hs
    have h8 := h7 j hj
    rw [List.getD_eq_getElem?_getD, List.getElem?_eq_getElem hj] at h8
    exact Nat.le_trans h8 (by decide)
end Go.Proofs.Ythhpofehcnjmmaa.Am
/- Branches: what is wrong in one directory, both sides. -/
set_option linter.unusedSimpArgs false
set_option linter.unusedVariables false
namespace Go.Proofs.Ythhpofehcnjmmaa.Am
open Go.RowKit Lw
open Br At
/-- An entry, and a directory, that are looked at. -/
def okE (x : En) : Prop := x.name.size ≤ 1000000000 ∧ okN x.node
def okD (d : Di) : Prop := (d.attrs.length ≤ 1000000 ∧ At.sizeI d.attrs ≤ 1000000000) ∧ okP d.red ∧ d.ents.length ≤ 1000000 ∧ ∀ x ∈ d.ents, okE x
theorem alone_okN {n : Nd} (hn : okN n) : ∀ x ∈ aloneT n, okN x := fun x hx => by
  rcases List.mem_cons.1 hx with rfl | hx
  · exact ⟨by decide, by decide, by decide⟩
  · rw [List.mem_singleton.1 hx]
    exact ⟨hn.1, hn.2.1, show (⟨#[110]⟩ : ByteArray).size ≤ 1000000000 by decide⟩
theorem nd_rowX {x : Nd} {r : List DC} (h0 : LeX (nthD r 0) (ndR x 0)) (h1 : LeX (nthD r 1) (ndR x 1)) (h2 : LeX (nthD r 2) (ndR x 2)) (h3 : LeX (nthD r 3) (ndR x 3)) (h4 : LeX (nthD r 4) (ndR x 4)) (h5 : LeX (nthD r 5) (ndR x 5)) (h6 : LeX (nthD r 6) (ndR x 6)) (h7 : LeX (nthD r 7) (ndR x 7)) : ∀ j, j < 8 → LeX (nthD r j) (ndR x j)
  | 0, _ => h0
  | 1, _ => h1
  | 2, _ => h2
  | 3, _ => h3
  | 4, _ => h4
  | 5, _ => h5
  | 6, _ => h6
  | 7, _ => h7
  | j + 8, h => absurd h (by omega)
set_option maxRecDepth 20000 in
set_option maxHeartbeats 4000000 in
theorem dAlone_c (n : Nd) (hn : okN n) : Con Try.prog 61 [.g (ndA n)] [] 0 0 U (fun _ => .o (.c (.int .i64 (aloneE n)))) G0 := by
  refine con_of Try.func61 rfl (by kernel_rfl) Try.ntmps61 rfl (by first | exact Nat.zero_le _ | decide) (fun _ => ⟨rfl, rfl⟩) fun w S ν => ?_
  have c := check_c (aloneT n) (show 2 ≤ 1000000 by decide) (alone_okN hn)
  (repeat' (first|(with_reducible refine AllP.go ?_;(first|exact trivial|exact fun _ _=>⟨_,rfl⟩|((try simp only [OS]);repeat' (first|omega|exact fun _ _=>⟨_,rfl⟩|refine And.intro ?_ ?_))))|(refine rg ?_ ?_)|(with_reducible first|refine stp ?_|refine tD rfl ?_)|refine ct ?_|refine cf ?_|((first|refine gs ?_ ?_|refine gl ?_ ?_|refine gc ?_ ?_)<;>intro h<;>(try simp only [NS] at h)<;>(try exact xf)<;>(try refine rn ?_ ?_))))
  (refine TE.freezeN 1 (by rfl) (by rfl) ?_)
  refine TE.callW (c) rfl (by rfl) (by rfl) rfl (by rfl) ?_ ?_
  · refine AllP.go ?_
    refine And.intro rfl ?_
    refine LeD.lit rfl ?_
    exact ⟨nd_rowX (LeX.of_eq rfl) (LeX.of_eq rfl) (LeX.of_eq rfl) (LeX.nil rfl) (LeX.of_eq rfl) (LeX.of_eq rfl) (LeX.of_eq rfl) (LeX.of_eq rfl), fun j hj => LeX.of_eq (nd_row { n with depth := 1, name := ⟨#[110]⟩, cls := 0 } j hj), trivial⟩
  intro _ _
  ((refine rn ?_ ?_);(repeat' (first|(with_reducible refine AllP.go ?_;(first|exact trivial|exact fun _ _=>⟨_,rfl⟩|((try simp only [OS]);repeat' (first|omega|exact fun _ _=>⟨_,rfl⟩|refine And.intro ?_ ?_))))|(refine rg ?_ ?_)|(with_reducible first|refine stp ?_|refine tD rfl ?_)|refine ct ?_|refine cf ?_|((first|refine gs ?_ ?_|refine gl ?_ ?_|refine gc ?_ ?_)<;>intro h<;>(try simp only [NS] at h)<;>(try exact xf)<;>(try refine rn ?_ ?_)))))
  (refine TE.ret' io rfl tysOk (()) ?_ rfl (by rfl) ?_;all_goals (try (first|exact trivial|((with_reducible refine AllP.go ?_);dsimp only [AllP, appP];repeat' (first|with_reducible rfl|with_reducible exact LeD.refl|refine And.intro ?_ ?_|exact vi|rfl|exact vb|exact LeD.refl)))))
/-- What is wrong with the entries. -/
def entsE (d : Di) : Int × Int := match firstD d d.ents.length 0 with
  | some (i, e) => (i, e)
  | none => (0, 0)
theorem entsE_bad {d : Di} {q : Nat} {e : Int} (hq : q < d.ents.length) (hg : ∀ j, j < q → entE d (lastN d j) (d.ents.getD j e0) = 0) (he : entE d (lastN d q) (d.ents.getD q e0) = e) (h0 : e ≠ 0) : entsE d = ((q : Int), e) := by
  unfold entsE
  rw [firstD_at d.ents.length 0 q (Nat.zero_le _) (by omega) (fun j _ hj => hg j hj) (by rw [he]; exact h0), he]
theorem entsE_good {d : Di} (hg : ∀ j, j < d.ents.length → entE d (lastN d j) (d.ents.getD j e0) = 0) : entsE d = (0, 0) := by
  unfold entsE
  rw [firstD_none _ _ fun k _ hk => hg k (by omega)]
/-- The last question about an entry. -/
def badK (d : Di) (x : En) : Prop := (x.node.kind = 1 ∧ (x.node.attrs ≠ [] ∨ 0 < x.node.cls)) ∨ (x.node.kind = 5 ∧ (0 < x.node.cls ∨ d.opq = true)) ∨ x.white ≠ decide (x.node.kind = 5) ∨ (x.first = false ∧ x.names = 1)
instance {d : Di} {x : En} : Decidable (badK d x) := by unfold badK; infer_instance
theorem badK_len {d : Di} {x : En} : badK d x ↔ (x.node.kind = 1 ∧ (0 < (x.node.attrs.length : Int) ∨ 0 < x.node.cls)) ∨ (x.node.kind = 5 ∧ (0 < x.node.cls ∨ d.opq = true)) ∨ x.white ≠ decide (x.node.kind = 5) ∨ (x.first = false ∧ x.names = 1) := by
  unfold badK
  have : x.node.attrs ≠ [] ↔ 0 < (x.node.attrs.length : Int) := by
    rw [← List.length_pos_iff]; omega
  rw [this]
section
variable {d : Di} {last : ByteArray} {x : En}
theorem ent1 (h : pnameE x.name ≠ 0) : entE d last x = pnameE x.name := if_pos h
theorem ent2 (h : pnameE x.name = 0) (h2 : x.name = last) : entE d last x = 8 := by
  unfold entE; rw [if_neg (fun k => k h), if_pos h2]
theorem ent3 (h : pnameE x.name = 0) (h2 : x.name ≠ last) (h3 : ltS x.name last = true ∨ x.node.depth ≠ 0 ∨ x.node.name ≠ eS) : entE d last x = 6 := by
  unfold entE; rw [if_neg (fun k => k h), if_neg h2, if_pos h3]
theorem ent4 (h : pnameE x.name = 0) (h2 : x.name ≠ last) (h3 : ¬ (ltS x.name last = true ∨ x.node.depth ≠ 0 ∨ x.node.name ≠ eS)) : entE d last x = if aloneE x.node ≠ 0 then aloneE x.node
  else if x.node.cls < 0 ∨ (0 < x.node.cls ↔ ¬ 1 < x.names) then 6
  else if x.names < 1 then 7
  else if badK d x then 6
  else 0 := by
  unfold entE; rw [if_neg (fun k => k h), if_neg h2, if_neg h3]; rfl
end
theorem checkD_open (d : Di) : checkD d = if checkE d.attrs ≠ 0 then (-1, checkE d.attrs) else if d.opq = true ∧ d.red ≠ [] then (-1, 6) else if pcheckE d.red ≠ 0 then (-1, pcheckE d.red) else if 24 < d.ents.length then (-1, 3) else entsE d := rfl
set_option maxRecDepth 20000 in
set_option maxHeartbeats 8000000 in
theorem CheckDir_c (d : Di) (hd : okD d) : Con Try.prog 33 [.g (diA d)] [] 0 0 U (fun _ => .t [.inl (.c (.int .i64 (checkD d).1)), .inl (.c (.int .i64 (checkD d).2))]) G0 := by
  refine con_of Try.func33 rfl (by kernel_rfl) Try.ntmps33 rfl (by first | exact Nat.zero_le _ | decide) (fun _ => ⟨rfl, rfl⟩) fun w S ν => ?_
  obtain ⟨⟨a1, a2⟩, ⟨b1, b2⟩, e1, e2⟩ := hd
  have hD := checkD_open d
  have hrl : d.red = [] ↔ d.red.length = 0 := List.length_eq_zero_iff.symm
  (repeat' (first|(with_reducible refine AllP.go ?_;(first|exact trivial|exact fun _ _=>⟨_,rfl⟩|((try simp only [OS]);repeat' (first|omega|exact fun _ _=>⟨_,rfl⟩|refine And.intro ?_ ?_))))|(refine rg ?_ ?_)|(with_reducible first|refine stp ?_|refine tD rfl ?_)|refine ct ?_|refine cf ?_|((first|refine gs ?_ ?_|refine gl ?_ ?_|refine gc ?_ ?_)<;>intro h<;>(try simp only [NS] at h)<;>(try exact xf)<;>(try refine rn ?_ ?_))))
  refine TE.callW (Check_c d.attrs a1 a2) rfl (by rfl) (by rfl) rfl (by rfl) (by (first|exact trivial|((with_reducible refine AllP.go ?_);dsimp only [AllP, appP];repeat' (first|with_reducible rfl|with_reducible exact LeD.refl|refine And.intro ?_ ?_|exact vi|rfl|exact vb|assumption|exact LeD.refl)))) ?_
  intro _ _
  by_cases h1 : checkE d.attrs ≠ 0
  · rw [if_pos h1] at hD
    rw [hD]
    ((refine rn ?_ ?_);(repeat' (first|(with_reducible refine AllP.go ?_;(first|exact trivial|exact fun _ _=>⟨_,rfl⟩|((try simp only [OS]);repeat' (first|omega|exact fun _ _=>⟨_,rfl⟩|refine And.intro ?_ ?_))))|(refine rg ?_ ?_)|(with_reducible first|refine stp ?_|refine tD rfl ?_)|refine ct ?_|refine cf ?_|((first|refine gs ?_ ?_|refine gl ?_ ?_|refine gc ?_ ?_)<;>intro h<;>(try simp only [NS] at h)<;>(try exact xf)<;>(try refine rn ?_ ?_)))))
    (refine TE.ret' io rfl tysOk (()) ?_ rfl (by rfl) ?_;all_goals (try (first|exact trivial|((with_reducible refine AllP.go ?_);dsimp only [AllP, appP];repeat' (first|with_reducible rfl|with_reducible exact LeD.refl|refine And.intro ?_ ?_|exact vi|rfl|exact vb|exact LeD.refl)))))
  rw [if_neg h1] at hD
  have h1 := Decidable.not_not.1 h1
  ((refine rn ?_ ?_);repeat' (first|(with_reducible refine AllP.go ?_;(first|exact trivial|exact fun _ _=>⟨_,rfl⟩|((try simp only [OS]);repeat' (first|omega|exact fun _ _=>⟨_,rfl⟩|refine And.intro ?_ ?_))))|(with_reducible first|refine stp ?_|refine tD rfl ?_)|refine ct ?_|refine cf ?_|((first|refine gs ?_ ?_|refine gl ?_ ?_|refine gc ?_ ?_)<;>intro h<;>(try simp only [NS] at h)<;>(try exact xf)<;>(try refine rn ?_ ?_))))
  ((refine rg ?_ ?_);try (with_reducible refine AllP.go ?_;(first|exact trivial|exact fun _ _=>⟨_,rfl⟩|((try simp only [OS]);repeat' (first|omega|exact fun _ _=>⟨_,rfl⟩|refine And.intro ?_ ?_)))))
  (repeat (with_reducible first|refine stp ?_|refine tD rfl ?_))
  (refine TE.cond_split (by rfl) ?_ ?_ <;> intro h <;> (try simp only [NS] at h) <;> (try (exfalso; first | omega | exact h trivial | exact h | exact h rfl | contradiction)))
  (repeat (with_reducible first|refine stp ?_|refine tD rfl ?_))
  (refine TE.mid (ι := Unit) (fun _ => True) (fun _ => ⟨[(26, .o (.sb (d.opq && decide (d.red ≠ [])))), (3, .o (.c (.int .i64 0))), (2, .o (.c (.int .i64 0))), (1, .o (.ptr 0 0))], [.box 0 53 (diA d)], 1⟩) ?_ fun _ _ => ?_)
  · refine TE.region ?_
    iterate 3 (refine TE.step rfl rfl rfl (fun _ h => nomatch h) (m_pure tysOk rfl ?_) ?_;rotate_left;rintro _ rfl;rotate_right;(with_reducible refine AllP.go ?_;(first|exact trivial|exact fun _ _=>⟨_,rfl⟩|((try simp only [OS]);repeat' (first|omega|exact fun _ _=>⟨_,rfl⟩|refine And.intro ?_ ?_)))))
    refine TE.norm (by rfl) ?_
    cases ho : d.opq
    · ((refine rn ?_ ?_);try (with_reducible refine AllP.go ?_;(first|exact trivial|exact fun _ _=>⟨_,rfl⟩|((try simp only [OS]);repeat' (first|omega|exact fun _ _=>⟨_,rfl⟩|refine And.intro ?_ ?_)))))
      (repeat (with_reducible first|refine stp ?_|refine tD rfl ?_))
      (refine TE.at () trivial ?_;(refine Ent.of rfl rfl (by rfl) ?_;(try (first|exact trivial|((with_reducible refine AllP.go ?_);dsimp only [AllP, appP];repeat' (first|with_reducible rfl|with_reducible exact LeD.refl|refine And.intro ?_ ?_|exact vi|rfl|exact vb|exact LeD.refl))))))
      exact congrArg Value.bool ho.symm
    · ((refine rn ?_ ?_);try (with_reducible refine AllP.go ?_;(first|exact trivial|exact fun _ _=>⟨_,rfl⟩|((try simp only [OS]);repeat' (first|omega|exact fun _ _=>⟨_,rfl⟩|refine And.intro ?_ ?_)))))
      (repeat (with_reducible first|refine stp ?_|refine tD rfl ?_))
      (refine TE.at () trivial ?_;(refine Ent.of rfl rfl (by rfl) ?_;(try (first|exact trivial|((with_reducible refine AllP.go ?_);dsimp only [AllP, appP];repeat' (first|with_reducible rfl|with_reducible exact LeD.refl|refine And.intro ?_ ?_|exact vi|rfl|exact vb|exact LeD.refl))))))
      · rw [Bool.true_and, decide_eq_decide, Ne, hrl]
        omega
      · exact congrArg Value.bool ho.symm
  (refine TE.cond_split (by rfl) ?_ ?_ <;> intro h <;> (try simp only [NS] at h) <;> (try (exfalso; first | omega | exact h trivial | exact h | exact h rfl | contradiction)))
  · rw [if_pos h] at hD
    rw [hD]
    (repeat' (first|(with_reducible refine AllP.go ?_;(first|exact trivial|exact fun _ _=>⟨_,rfl⟩|((try simp only [OS]);repeat' (first|omega|exact fun _ _=>⟨_,rfl⟩|refine And.intro ?_ ?_))))|(refine rg ?_ ?_)|(with_reducible first|refine stp ?_|refine tD rfl ?_)|refine ct ?_|refine cf ?_|((first|refine gs ?_ ?_|refine gl ?_ ?_|refine gc ?_ ?_)<;>intro h<;>(try simp only [NS] at h)<;>(try exact xf)<;>(try refine rn ?_ ?_))))
    (refine TE.ret' io rfl tysOk (()) ?_ rfl (by rfl) ?_;all_goals (try (first|exact trivial|((with_reducible refine AllP.go ?_);dsimp only [AllP, appP];repeat' (first|with_reducible rfl|with_reducible exact LeD.refl|refine And.intro ?_ ?_|exact vi|rfl|exact vb|exact LeD.refl)))))
  rw [if_neg fun k => by
    rcases h with h | h
    · rw [h] at k; exact absurd k.1 (by decide)
    · exact k.2 h] at hD
  (repeat' (first|(with_reducible refine AllP.go ?_;(first|exact trivial|exact fun _ _=>⟨_,rfl⟩|((try simp only [OS]);repeat' (first|omega|exact fun _ _=>⟨_,rfl⟩|refine And.intro ?_ ?_))))|(refine rg ?_ ?_)|(with_reducible first|refine stp ?_|refine tD rfl ?_)|refine ct ?_|refine cf ?_|((first|refine gs ?_ ?_|refine gl ?_ ?_|refine gc ?_ ?_)<;>intro h<;>(try simp only [NS] at h)<;>(try exact xf)<;>(try refine rn ?_ ?_))))
  refine TE.callW (pCheck_c d.red b2 b1) rfl (by rfl) (by rfl) rfl (by rfl) (by (first|exact trivial|((with_reducible refine AllP.go ?_);dsimp only [AllP, appP];repeat' (first|with_reducible rfl|with_reducible exact LeD.refl|refine And.intro ?_ ?_|exact vi|rfl|exact vb|assumption|exact LeD.refl)))) ?_
  intro _ _
  by_cases h3 : pcheckE d.red ≠ 0
  · rw [if_pos h3] at hD
    rw [hD]
    ((refine rn ?_ ?_);(repeat' (first|(with_reducible refine AllP.go ?_;(first|exact trivial|exact fun _ _=>⟨_,rfl⟩|((try simp only [OS]);repeat' (first|omega|exact fun _ _=>⟨_,rfl⟩|refine And.intro ?_ ?_))))|(refine rg ?_ ?_)|(with_reducible first|refine stp ?_|refine tD rfl ?_)|refine ct ?_|refine cf ?_|((first|refine gs ?_ ?_|refine gl ?_ ?_|refine gc ?_ ?_)<;>intro h<;>(try simp only [NS] at h)<;>(try exact xf)<;>(try refine rn ?_ ?_)))))
    (refine TE.ret' io rfl tysOk (()) ?_ rfl (by rfl) ?_;all_goals (try (first|exact trivial|((with_reducible refine AllP.go ?_);dsimp only [AllP, appP];repeat' (first|with_reducible rfl|with_reducible exact LeD.refl|refine And.intro ?_ ?_|exact vi|rfl|exact vb|exact LeD.refl)))))
  rw [if_neg h3] at hD
  have h3 := Decidable.not_not.1 h3
  by_cases h4 : 24 < d.ents.length
  · rw [if_pos h4] at hD
    rw [hD]
    ((refine rn ?_ ?_);(repeat' (first|(with_reducible refine AllP.go ?_;(first|exact trivial|exact fun _ _=>⟨_,rfl⟩|((try simp only [OS]);repeat' (first|omega|exact fun _ _=>⟨_,rfl⟩|refine And.intro ?_ ?_))))|(refine rg ?_ ?_)|(with_reducible first|refine stp ?_|refine tD rfl ?_)|refine ct ?_|refine cf ?_|((first|refine gs ?_ ?_|refine gl ?_ ?_|refine gc ?_ ?_)<;>intro h<;>(try simp only [NS] at h)<;>(try exact xf)<;>(try refine rn ?_ ?_)))))
    (refine TE.ret' io rfl tysOk (()) ?_ rfl (by rfl) ?_;all_goals (try (first|exact trivial|((with_reducible refine AllP.go ?_);dsimp only [AllP, appP];repeat' (first|with_reducible rfl|with_reducible exact LeD.refl|refine And.intro ?_ ?_|exact vi|rfl|exact vb|exact LeD.refl)))))
  rw [if_neg h4] at hD
  rw [hD]
  ((refine rn ?_ ?_);(repeat' (first|(with_reducible refine AllP.go ?_;(first|exact trivial|exact fun _ _=>⟨_,rfl⟩|((try simp only [OS]);repeat' (first|omega|exact fun _ _=>⟨_,rfl⟩|refine And.intro ?_ ?_))))|(refine rg ?_ ?_)|(with_reducible first|refine stp ?_|refine tD rfl ?_)|refine ct ?_|refine cf ?_|((first|refine gs ?_ ?_|refine gl ?_ ?_|refine gc ?_ ?_)<;>intro h<;>(try simp only [NS] at h)<;>(try exact xf)<;>(try refine rn ?_ ?_)))))
  (refine TE.only [40, 39, 38, 6, 3, 2, 1] (by rfl) ?_)
  refine TE.loopG (fun q : Nat => q ≤ d.ents.length ∧ ∀ j, j < q → entE d (lastN d j) (d.ents.getD j e0) = 0) (fun q => [(40, .o (.c (.int .i64 q))), (6, .o (.c (.string (lastN d q))))]) [] (fun _ => []) (fun q => d.ents.length - q) 0 (by rfl) ⟨Nat.zero_le _, fun j hj => absurd hj (Nat.not_lt_zero _)⟩ ?_ ?_
  · (refine Ent.of rfl rfl (by rfl) ?_;(try (first|exact trivial|((with_reducible refine AllP.go ?_);dsimp only [AllP, appP];repeat' (first|with_reducible rfl|with_reducible exact LeD.refl|refine And.intro ?_ ?_|exact vi|rfl|exact vb|exact LeD.refl)))))
  rintro q ⟨hq, hg⟩
  by_cases hlt : q < d.ents.length
  · have hx := e2 _ (getD_mem (d := e0) hlt)
    (repeat' (first|(with_reducible refine AllP.go ?_;(first|exact trivial|exact fun _ _=>⟨_,rfl⟩|((try simp only [OS]);repeat' (first|omega|exact fun _ _=>⟨_,rfl⟩|refine And.intro ?_ ?_))))|(refine rg ?_ ?_)|(with_reducible first|refine stp ?_|refine tD rfl ?_)|refine ct ?_|refine cf ?_|((first|refine gs ?_ ?_|refine gl ?_ ?_|refine gc ?_ ?_)<;>intro h<;>(try simp only [NS] at h)<;>(try exact xf)<;>(try refine rn ?_ ?_))))
    refine TE.callW (pName_c (d.ents.getD q e0).name hx.1) rfl (by rfl) (by rfl) rfl (by rfl) (by (first|exact trivial|((with_reducible refine AllP.go ?_);dsimp only [AllP, appP];repeat' (first|with_reducible rfl|with_reducible exact LeD.refl|refine And.intro ?_ ?_|exact vi|rfl|exact vb|assumption|exact LeD.refl)))) ?_
    intro _ _
    have hbad := fun e => entsE_bad (d := d) (e := e) hlt hg
    by_cases n1 : pnameE (d.ents.getD q e0).name ≠ 0
    · rw [hbad _ (ent1 n1) n1]
      ((refine rn ?_ ?_);(repeat' (first|(with_reducible refine AllP.go ?_;(first|exact trivial|exact fun _ _=>⟨_,rfl⟩|((try simp only [OS]);repeat' (first|omega|exact fun _ _=>⟨_,rfl⟩|refine And.intro ?_ ?_))))|(refine rg ?_ ?_)|(with_reducible first|refine stp ?_|refine tD rfl ?_)|refine ct ?_|refine cf ?_|((first|refine gs ?_ ?_|refine gl ?_ ?_|refine gc ?_ ?_)<;>intro h<;>(try simp only [NS] at h)<;>(try exact xf)<;>(try refine rn ?_ ?_)))))
      (refine TE.ret' io rfl tysOk (()) ?_ rfl (by rfl) ?_;all_goals (try (first|exact trivial|((with_reducible refine AllP.go ?_);dsimp only [AllP, appP];repeat' (first|with_reducible rfl|with_reducible exact LeD.refl|refine And.intro ?_ ?_|exact vi|rfl|exact vb|exact LeD.refl)))))
    have n1 := Decidable.not_not.1 n1
    by_cases n2 : (d.ents.getD q e0).name = lastN d q
    · rw [hbad _ (ent2 n1 n2) (by decide)]
      ((refine rn ?_ ?_);(repeat' (first|(with_reducible refine AllP.go ?_;(first|exact trivial|exact fun _ _=>⟨_,rfl⟩|((try simp only [OS]);repeat' (first|omega|exact fun _ _=>⟨_,rfl⟩|refine And.intro ?_ ?_))))|(refine rg ?_ ?_)|(with_reducible first|refine stp ?_|refine tD rfl ?_)|refine ct ?_|refine cf ?_|((first|refine gs ?_ ?_|refine gl ?_ ?_|refine gc ?_ ?_)<;>intro h<;>(try simp only [NS] at h)<;>(try exact xf)<;>(try refine rn ?_ ?_)))))
      (refine TE.ret' io rfl tysOk (()) ?_ rfl (by rfl) ?_;all_goals (try (first|exact trivial|((with_reducible refine AllP.go ?_);dsimp only [AllP, appP];repeat' (first|with_reducible rfl|with_reducible exact LeD.refl|refine And.intro ?_ ?_|exact vi|rfl|exact vb|exact LeD.refl)))))
    by_cases n3a : Op.bytesLess (d.ents.getD q e0).name.data.toList (lastN d q).data.toList = true
    · rw [hbad _ (ent3 n1 n2 (.inl n3a)) (by decide)]
      have n3d : ¬ Op.bytesLess (d.ents.getD q e0).name.data.toList (lastN d q).data.toList = false := by rw [n3a]; decide
      ((refine rn ?_ ?_);(repeat' (first|(with_reducible refine AllP.go ?_;(first|exact trivial|exact fun _ _=>⟨_,rfl⟩|((try simp only [OS]);repeat' (first|omega|exact fun _ _=>⟨_,rfl⟩|refine And.intro ?_ ?_))))|(refine rg ?_ ?_)|(with_reducible first|refine stp ?_|refine tD rfl ?_)|refine ct ?_|refine cf ?_|((first|refine gs ?_ ?_|refine gl ?_ ?_|refine gc ?_ ?_)<;>intro h<;>(try simp only [NS] at h)<;>(try exact xf)<;>(try refine rn ?_ ?_)))))
      (refine TE.ret' io rfl tysOk (()) ?_ rfl (by rfl) ?_;all_goals (try (first|exact trivial|((with_reducible refine AllP.go ?_);dsimp only [AllP, appP];repeat' (first|with_reducible rfl|with_reducible exact LeD.refl|refine And.intro ?_ ?_|exact vi|rfl|exact vb|exact LeD.refl)))))
    by_cases n3b : (d.ents.getD q e0).node.depth = 0
    case neg =>
      rw [hbad _ (ent3 n1 n2 (.inr (.inl n3b))) (by decide)]
      ((refine rn ?_ ?_);(repeat' (first|(with_reducible refine AllP.go ?_;(first|exact trivial|exact fun _ _=>⟨_,rfl⟩|((try simp only [OS]);repeat' (first|omega|exact fun _ _=>⟨_,rfl⟩|refine And.intro ?_ ?_))))|(refine rg ?_ ?_)|(with_reducible first|refine stp ?_|refine tD rfl ?_)|refine ct ?_|refine cf ?_|((first|refine gs ?_ ?_|refine gl ?_ ?_|refine gc ?_ ?_)<;>intro h<;>(try simp only [NS] at h)<;>(try exact xf)<;>(try refine rn ?_ ?_)))))
      (refine TE.ret' io rfl tysOk (()) ?_ rfl (by rfl) ?_;all_goals (try (first|exact trivial|((with_reducible refine AllP.go ?_);dsimp only [AllP, appP];repeat' (first|with_reducible rfl|with_reducible exact LeD.refl|refine And.intro ?_ ?_|exact vi|rfl|exact vb|exact LeD.refl)))))
    by_cases n3c : (d.ents.getD q e0).node.name.size = 0
    case neg =>
      rw [hbad _ (ent3 n1 n2 (.inr (.inr fun e => n3c (by rw [e]; rfl)))) (by decide)]
      ((refine rn ?_ ?_);(repeat' (first|(with_reducible refine AllP.go ?_;(first|exact trivial|exact fun _ _=>⟨_,rfl⟩|((try simp only [OS]);repeat' (first|omega|exact fun _ _=>⟨_,rfl⟩|refine And.intro ?_ ?_))))|(refine rg ?_ ?_)|(with_reducible first|refine stp ?_|refine tD rfl ?_)|refine ct ?_|refine cf ?_|((first|refine gs ?_ ?_|refine gl ?_ ?_|refine gc ?_ ?_)<;>intro h<;>(try simp only [NS] at h)<;>(try exact xf)<;>(try refine rn ?_ ?_)))))
      (refine TE.ret' io rfl tysOk (()) ?_ rfl (by rfl) ?_;all_goals (try (first|exact trivial|((with_reducible refine AllP.go ?_);dsimp only [AllP, appP];repeat' (first|with_reducible rfl|with_reducible exact LeD.refl|refine And.intro ?_ ?_|exact vi|rfl|exact vb|exact LeD.refl)))))
    have hE := ent4 (d := d) n1 n2 (fun k => by
      rcases k with k | k | k
      · exact n3a k
      · exact k n3b
      · exact k (size_zero n3c))
    ((refine rn ?_ ?_);(repeat' (first|(with_reducible refine AllP.go ?_;(first|exact trivial|exact fun _ _=>⟨_,rfl⟩|((try simp only [OS]);repeat' (first|omega|exact fun _ _=>⟨_,rfl⟩|refine And.intro ?_ ?_))))|(refine rg ?_ ?_)|(with_reducible first|refine stp ?_|refine tD rfl ?_)|refine ct ?_|refine cf ?_|((first|refine gs ?_ ?_|refine gl ?_ ?_|refine gc ?_ ?_)<;>intro h<;>(try simp only [NS] at h)<;>(try exact xf)<;>(try refine rn ?_ ?_)))))
    refine TE.callW (dAlone_c (d.ents.getD q e0).node hx.2) rfl (by rfl) (by rfl) rfl (by rfl) (by (first|exact trivial|((with_reducible refine AllP.go ?_);dsimp only [AllP, appP];repeat' (first|with_reducible rfl|with_reducible exact LeD.refl|refine And.intro ?_ ?_|exact vi|rfl|exact vb|assumption|exact LeD.refl)))) ?_
    intro _ _
    by_cases n4 : aloneE (d.ents.getD q e0).node ≠ 0
    · rw [if_pos n4] at hE
      rw [hbad _ hE n4]
      ((refine rn ?_ ?_);(repeat' (first|(with_reducible refine AllP.go ?_;(first|exact trivial|exact fun _ _=>⟨_,rfl⟩|((try simp only [OS]);repeat' (first|omega|exact fun _ _=>⟨_,rfl⟩|refine And.intro ?_ ?_))))|(refine rg ?_ ?_)|(with_reducible first|refine stp ?_|refine tD rfl ?_)|refine ct ?_|refine cf ?_|((first|refine gs ?_ ?_|refine gl ?_ ?_|refine gc ?_ ?_)<;>intro h<;>(try simp only [NS] at h)<;>(try exact xf)<;>(try refine rn ?_ ?_)))))
      (refine TE.ret' io rfl tysOk (()) ?_ rfl (by rfl) ?_;all_goals (try (first|exact trivial|((with_reducible refine AllP.go ?_);dsimp only [AllP, appP];repeat' (first|with_reducible rfl|with_reducible exact LeD.refl|refine And.intro ?_ ?_|exact vi|rfl|exact vb|exact LeD.refl)))))
    rw [if_neg n4] at hE
    have n4 := Decidable.not_not.1 n4
    by_cases n5 : (d.ents.getD q e0).node.cls < 0 ∨ (0 < (d.ents.getD q e0).node.cls ↔ ¬ 1 < (d.ents.getD q e0).names)
    · rw [if_pos n5] at hE
      rw [hbad _ hE (by decide)]
      ((refine rn ?_ ?_);repeat' (first|(with_reducible refine AllP.go ?_;(first|exact trivial|exact fun _ _=>⟨_,rfl⟩|((try simp only [OS]);repeat' (first|omega|exact fun _ _=>⟨_,rfl⟩|refine And.intro ?_ ?_))))|(with_reducible first|refine stp ?_|refine tD rfl ?_)|refine ct ?_|refine cf ?_|((first|refine gs ?_ ?_|refine gl ?_ ?_|refine gc ?_ ?_)<;>intro h<;>(try simp only [NS] at h)<;>(try exact xf)<;>(try refine rn ?_ ?_))))
      ((refine rg ?_ ?_);repeat' (first|(with_reducible refine AllP.go ?_;(first|exact trivial|exact fun _ _=>⟨_,rfl⟩|((try simp only [OS]);repeat' (first|omega|exact fun _ _=>⟨_,rfl⟩|refine And.intro ?_ ?_))))|(with_reducible first|refine stp ?_|refine tD rfl ?_)|refine ct ?_|refine cf ?_|((first|refine gs ?_ ?_|refine gl ?_ ?_|refine gc ?_ ?_)<;>intro h<;>(try simp only [NS] at h)<;>(try exact xf)<;>(try refine rn ?_ ?_))))
      ((refine rg ?_ ?_);repeat' (first|(with_reducible refine AllP.go ?_;(first|exact trivial|exact fun _ _=>⟨_,rfl⟩|((try simp only [OS]);repeat' (first|omega|exact fun _ _=>⟨_,rfl⟩|refine And.intro ?_ ?_))))|(with_reducible first|refine stp ?_|refine tD rfl ?_)|refine ct ?_|refine cf ?_|((first|refine gs ?_ ?_|refine gl ?_ ?_|refine gc ?_ ?_)<;>intro h<;>(try simp only [NS] at h)<;>(try exact xf)<;>(try refine rn ?_ ?_))))
      ((refine rg ?_ ?_);repeat' (first|(with_reducible refine AllP.go ?_;(first|exact trivial|exact fun _ _=>⟨_,rfl⟩|((try simp only [OS]);repeat' (first|omega|exact fun _ _=>⟨_,rfl⟩|refine And.intro ?_ ?_))))|(with_reducible first|refine stp ?_|refine tD rfl ?_)|refine ct ?_|refine cf ?_|((first|refine gs ?_ ?_|refine gl ?_ ?_|refine gc ?_ ?_)<;>intro h<;>(try simp only [NS] at h)<;>(try exact xf)<;>(try refine rn ?_ ?_))))
      all_goals try (exfalso; clear hE hbad hD hg; grind)
      all_goals (repeat' (first|(with_reducible refine AllP.go ?_;(first|exact trivial|exact fun _ _=>⟨_,rfl⟩|((try simp only [OS]);repeat' (first|omega|exact fun _ _=>⟨_,rfl⟩|refine And.intro ?_ ?_))))|(refine rg ?_ ?_)|(with_reducible first|refine stp ?_|refine tD rfl ?_)|refine ct ?_|refine cf ?_|((first|refine gs ?_ ?_|refine gl ?_ ?_|refine gc ?_ ?_)<;>intro h<;>(try simp only [NS] at h)<;>(try exact xf)<;>(try refine rn ?_ ?_))))
      all_goals (refine TE.ret' io rfl tysOk (()) ?_ rfl (by rfl) ?_;all_goals (try (first|exact trivial|((with_reducible refine AllP.go ?_);dsimp only [AllP, appP];repeat' (first|with_reducible rfl|with_reducible exact LeD.refl|refine And.intro ?_ ?_|exact vi|rfl|exact vb|exact LeD.refl)))))
    rw [if_neg n5] at hE
    by_cases n6 : (d.ents.getD q e0).names < 1
    · rw [if_pos n6] at hE
      rw [hbad _ hE (by decide)]
      ((refine rn ?_ ?_);repeat' (first|(with_reducible refine AllP.go ?_;(first|exact trivial|exact fun _ _=>⟨_,rfl⟩|((try simp only [OS]);repeat' (first|omega|exact fun _ _=>⟨_,rfl⟩|refine And.intro ?_ ?_))))|(with_reducible first|refine stp ?_|refine tD rfl ?_)|refine ct ?_|refine cf ?_|((first|refine gs ?_ ?_|refine gl ?_ ?_|refine gc ?_ ?_)<;>intro h<;>(try simp only [NS] at h)<;>(try exact xf)<;>(try refine rn ?_ ?_))))
      ((refine rg ?_ ?_);repeat' (first|(with_reducible refine AllP.go ?_;(first|exact trivial|exact fun _ _=>⟨_,rfl⟩|((try simp only [OS]);repeat' (first|omega|exact fun _ _=>⟨_,rfl⟩|refine And.intro ?_ ?_))))|(with_reducible first|refine stp ?_|refine tD rfl ?_)|refine ct ?_|refine cf ?_|((first|refine gs ?_ ?_|refine gl ?_ ?_|refine gc ?_ ?_)<;>intro h<;>(try simp only [NS] at h)<;>(try exact xf)<;>(try refine rn ?_ ?_))))
      ((refine rg ?_ ?_);repeat' (first|(with_reducible refine AllP.go ?_;(first|exact trivial|exact fun _ _=>⟨_,rfl⟩|((try simp only [OS]);repeat' (first|omega|exact fun _ _=>⟨_,rfl⟩|refine And.intro ?_ ?_))))|(with_reducible first|refine stp ?_|refine tD rfl ?_)|refine ct ?_|refine cf ?_|((first|refine gs ?_ ?_|refine gl ?_ ?_|refine gc ?_ ?_)<;>intro h<;>(try simp only [NS] at h)<;>(try exact xf)<;>(try refine rn ?_ ?_))))
      ((refine rg ?_ ?_);repeat' (first|(with_reducible refine AllP.go ?_;(first|exact trivial|exact fun _ _=>⟨_,rfl⟩|((try simp only [OS]);repeat' (first|omega|exact fun _ _=>⟨_,rfl⟩|refine And.intro ?_ ?_))))|(with_reducible first|refine stp ?_|refine tD rfl ?_)|refine ct ?_|refine cf ?_|((first|refine gs ?_ ?_|refine gl ?_ ?_|refine gc ?_ ?_)<;>intro h<;>(try simp only [NS] at h)<;>(try exact xf)<;>(try refine rn ?_ ?_))))
      ((refine rg ?_ ?_);repeat' (first|(with_reducible refine AllP.go ?_;(first|exact trivial|exact fun _ _=>⟨_,rfl⟩|((try simp only [OS]);repeat' (first|omega|exact fun _ _=>⟨_,rfl⟩|refine And.intro ?_ ?_))))|(with_reducible first|refine stp ?_|refine tD rfl ?_)|refine ct ?_|refine cf ?_|((first|refine gs ?_ ?_|refine gl ?_ ?_|refine gc ?_ ?_)<;>intro h<;>(try simp only [NS] at h)<;>(try exact xf)<;>(try refine rn ?_ ?_))))
      all_goals try (exfalso; clear hE hbad hD hg; grind)
      all_goals (repeat' (first|(with_reducible refine AllP.go ?_;(first|exact trivial|exact fun _ _=>⟨_,rfl⟩|((try simp only [OS]);repeat' (first|omega|exact fun _ _=>⟨_,rfl⟩|refine And.intro ?_ ?_))))|(refine rg ?_ ?_)|(with_reducible first|refine stp ?_|refine tD rfl ?_)|refine ct ?_|refine cf ?_|((first|refine gs ?_ ?_|refine gl ?_ ?_|refine gc ?_ ?_)<;>intro h<;>(try simp only [NS] at h)<;>(try exact xf)<;>(try refine rn ?_ ?_))))
      all_goals (refine TE.ret' io rfl tysOk (()) ?_ rfl (by rfl) ?_;all_goals (try (first|exact trivial|((with_reducible refine AllP.go ?_);dsimp only [AllP, appP];repeat' (first|with_reducible rfl|with_reducible exact LeD.refl|refine And.intro ?_ ?_|exact vi|rfl|exact vb|exact LeD.refl)))))
    rw [if_neg n6] at hE
    ((refine rn ?_ ?_);repeat' (first|(with_reducible refine AllP.go ?_;(first|exact trivial|exact fun _ _=>⟨_,rfl⟩|((try simp only [OS]);repeat' (first|omega|exact fun _ _=>⟨_,rfl⟩|refine And.intro ?_ ?_))))|(with_reducible first|refine stp ?_|refine tD rfl ?_)|refine ct ?_|refine cf ?_|((first|refine gs ?_ ?_|refine gl ?_ ?_|refine gc ?_ ?_)<;>intro h<;>(try simp only [NS] at h)<;>(try exact xf)<;>(try refine rn ?_ ?_))))
    ((refine rg ?_ ?_);repeat' (first|(with_reducible refine AllP.go ?_;(first|exact trivial|exact fun _ _=>⟨_,rfl⟩|((try simp only [OS]);repeat' (first|omega|exact fun _ _=>⟨_,rfl⟩|refine And.intro ?_ ?_))))|(with_reducible first|refine stp ?_|refine tD rfl ?_)|refine ct ?_|refine cf ?_|((first|refine gs ?_ ?_|refine gl ?_ ?_|refine gc ?_ ?_)<;>intro h<;>(try simp only [NS] at h)<;>(try exact xf)<;>(try refine rn ?_ ?_))))
    ((refine rg ?_ ?_);repeat' (first|(with_reducible refine AllP.go ?_;(first|exact trivial|exact fun _ _=>⟨_,rfl⟩|((try simp only [OS]);repeat' (first|omega|exact fun _ _=>⟨_,rfl⟩|refine And.intro ?_ ?_))))|(with_reducible first|refine stp ?_|refine tD rfl ?_)|refine ct ?_|refine cf ?_|((first|refine gs ?_ ?_|refine gl ?_ ?_|refine gc ?_ ?_)<;>intro h<;>(try simp only [NS] at h)<;>(try exact xf)<;>(try refine rn ?_ ?_))))
    ((refine rg ?_ ?_);repeat' (first|(with_reducible refine AllP.go ?_;(first|exact trivial|exact fun _ _=>⟨_,rfl⟩|((try simp only [OS]);repeat' (first|omega|exact fun _ _=>⟨_,rfl⟩|refine And.intro ?_ ?_))))|(with_reducible first|refine stp ?_|refine tD rfl ?_)|refine ct ?_|refine cf ?_|((first|refine gs ?_ ?_|refine gl ?_ ?_|refine gc ?_ ?_)<;>intro h<;>(try simp only [NS] at h)<;>(try exact xf)<;>(try refine rn ?_ ?_))))
    ((refine rg ?_ ?_);repeat' (first|(with_reducible refine AllP.go ?_;(first|exact trivial|exact fun _ _=>⟨_,rfl⟩|((try simp only [OS]);repeat' (first|omega|exact fun _ _=>⟨_,rfl⟩|refine And.intro ?_ ?_))))|(with_reducible first|refine stp ?_|refine tD rfl ?_)|refine ct ?_|refine cf ?_|((first|refine gs ?_ ?_|refine gl ?_ ?_|refine gc ?_ ?_)<;>intro h<;>(try simp only [NS] at h)<;>(try exact xf)<;>(try refine rn ?_ ?_))))
    all_goals try (exfalso; clear hE hbad hD hg; grind)
    ((refine rg ?_ ?_);repeat' (first|(with_reducible refine AllP.go ?_;(first|exact trivial|exact fun _ _=>⟨_,rfl⟩|((try simp only [OS]);repeat' (first|omega|exact fun _ _=>⟨_,rfl⟩|refine And.intro ?_ ?_))))|(with_reducible first|refine stp ?_|refine tD rfl ?_)|refine ct ?_|refine cf ?_|((first|refine gs ?_ ?_|refine gl ?_ ?_|refine gc ?_ ?_)<;>intro h<;>(try simp only [NS] at h)<;>(try exact xf)<;>(try refine rn ?_ ?_))))
    (refine TE.only [40, 39, 38, 12, 10, 8, 7, 6, 3, 2, 1] (by rfl) ?_)
    (simp only [Int.toNat_natCast])
    have hK := badK_len (d := d) (x := d.ents.getD q e0)
    by_cases n7 : badK d (d.ents.getD q e0)
    · rw [if_pos n7] at hE
      rw [hbad _ hE (by decide)]
      have hK := hK.1 n7
      clear hE hbad hD hg n7
      cases ho : d.opq
      all_goals cases hf : (d.ents.getD q e0).first
      all_goals rw [ho, hf] at hK
      all_goals ((refine rg ?_ ?_);repeat' (first|(with_reducible refine AllP.go ?_;(first|exact trivial|exact fun _ _=>⟨_,rfl⟩|((try simp only [OS]);repeat' (first|omega|exact fun _ _=>⟨_,rfl⟩|refine And.intro ?_ ?_))))|(with_reducible first|refine stp ?_|refine tD rfl ?_)|refine ct ?_|refine cf ?_|((first|refine gs ?_ ?_|refine gl ?_ ?_|refine gc ?_ ?_)<;>intro h<;>(try simp only [NS] at h)<;>(try exact xf)<;>(try refine rn ?_ ?_))))
      all_goals try (exfalso; grind)
      all_goals (repeat' (first|(with_reducible refine AllP.go ?_;(first|exact trivial|exact fun _ _=>⟨_,rfl⟩|((try simp only [OS]);repeat' (first|omega|exact fun _ _=>⟨_,rfl⟩|refine And.intro ?_ ?_))))|(refine rg ?_ ?_)|(with_reducible first|refine stp ?_|refine tD rfl ?_)|refine ct ?_|refine cf ?_|((first|refine gs ?_ ?_|refine gl ?_ ?_|refine gc ?_ ?_)<;>intro h<;>(try simp only [NS] at h)<;>(try exact xf)<;>(try refine rn ?_ ?_))))
      all_goals (refine TE.ret' io rfl tysOk (()) ?_ rfl (by rfl) ?_;all_goals (try (first|exact trivial|((with_reducible refine AllP.go ?_);dsimp only [AllP, appP];repeat' (first|with_reducible rfl|with_reducible exact LeD.refl|refine And.intro ?_ ?_|exact vi|rfl|exact vb|exact LeD.refl)))))
    rw [if_neg n7] at hE
    have hg2 : ∀ j, j < q + 1 → entE d (lastN d j) (d.ents.getD j e0) = 0 := fun j hj => by
      rcases Nat.lt_or_ge j q with h5 | h5
      · exact hg j h5
      · obtain rfl : j = q := by omega
        exact hE
    have hK := fun k => n7 (hK.2 k)
    clear hE hbad hD hg n7
    cases ho : d.opq
    all_goals cases hf : (d.ents.getD q e0).first
    all_goals rw [ho, hf] at hK
    all_goals ((refine rg ?_ ?_);repeat' (first|(with_reducible refine AllP.go ?_;(first|exact trivial|exact fun _ _=>⟨_,rfl⟩|((try simp only [OS]);repeat' (first|omega|exact fun _ _=>⟨_,rfl⟩|refine And.intro ?_ ?_))))|(with_reducible first|refine stp ?_|refine tD rfl ?_)|refine ct ?_|refine cf ?_|((first|refine gs ?_ ?_|refine gl ?_ ?_|refine gc ?_ ?_)<;>intro h<;>(try simp only [NS] at h)<;>(try exact xf)<;>(try refine rn ?_ ?_))))
    all_goals try (exfalso; grind)
    all_goals (repeat' (first|(with_reducible refine AllP.go ?_;(first|exact trivial|exact fun _ _=>⟨_,rfl⟩|((try simp only [OS]);repeat' (first|omega|exact fun _ _=>⟨_,rfl⟩|refine And.intro ?_ ?_))))|(refine rg ?_ ?_)|(with_reducible first|refine stp ?_|refine tD rfl ?_)|refine ct ?_|refine cf ?_|((first|refine gs ?_ ?_|refine gl ?_ ?_|refine gc ?_ ?_)<;>intro h<;>(try simp only [NS] at h)<;>(try exact xf)<;>(try refine rn ?_ ?_))))
    all_goals refine TE.again' (q + 1) ⟨by omega, hg2⟩ (by omega) ?_
    all_goals (refine Ent.of rfl rfl (by rfl) ?_;(try (first|exact trivial|((with_reducible refine AllP.go ?_);dsimp only [AllP, appP];repeat' (first|with_reducible rfl|with_reducible exact LeD.refl|refine And.intro ?_ ?_|exact vi|rfl|exact vb|exact LeD.refl)))))
  · obtain rfl : q = d.ents.length := by omega
    rw [entsE_good hg]
    (repeat' (first|(with_reducible refine AllP.go ?_;(first|exact trivial|exact fun _ _=>⟨_,rfl⟩|((try simp only [OS]);repeat' (first|omega|exact fun _ _=>⟨_,rfl⟩|refine And.intro ?_ ?_))))|(refine rg ?_ ?_)|(with_reducible first|refine stp ?_|refine tD rfl ?_)|refine ct ?_|refine cf ?_|((first|refine gs ?_ ?_|refine gl ?_ ?_|refine gc ?_ ?_)<;>intro h<;>(try simp only [NS] at h)<;>(try exact xf)<;>(try refine rn ?_ ?_))))
    (refine TE.ret' io rfl tysOk (()) ?_ rfl (by rfl) ?_;all_goals (try (first|exact trivial|((with_reducible refine AllP.go ?_);dsimp only [AllP, appP];repeat' (first|with_reducible rfl|with_reducible exact LeD.refl|refine And.intro ?_ ?_|exact vi|rfl|exact vb|exact LeD.refl)))))
end Go.Proofs.Ythhpofehcnjmmaa.Am
/- Branches: what is wrong in one directory, the document's. -/
set_option linter.unusedSimpArgs false
set_option linter.unusedVariables false
namespace Go.Proofs.Ythhpofehcnjmmaa.Am
open Go.RowKit Lw
open Br At
/-- An entry, as a struct holds it. -/
abbrev enA (x : En) : List A1 := [.c (.string x.name), .c (.int .i64 x.node.depth), .c (.string x.node.name), .c (.int .i64 x.node.kind), .ro 2 x.node.attrs.length (atC x.node.attrs).cell, .c (.string x.node.data), .c (.int .i64 x.node.major), .c (.int .i64 x.node.minor), .c (.int .i64 x.node.cls), .c (.bool x.white), .c (.bool x.first), .c (.int .i64 x.names)]
abbrev enH (d : Di) (x : En) : List Chunk := [.box 2 70 (ndA x.node), .box 1 72 (enA x), .box 0 53 (diA d)]
set_option maxRecDepth 20000 in
set_option maxHeartbeats 8000000 in
theorem dEntry_c (d : Di) (i : Nat) (hi : i < d.ents.length) (hd : okD d) : Con Try.prog 64 [.g (diA d), .o (.c (.int .i64 i))] [] 0 0 U (fun _ => .o (.c (.int .i64 (entE d (lastN d i) (d.ents.getD i e0))))) G0 := by
  refine con_of Try.func64 rfl (by kernel_rfl) Try.ntmps64 rfl (by first | exact Nat.zero_le _ | decide) (fun _ => ⟨rfl, rfl⟩) fun w S ν => ?_
  have hx := hd.2.2.2 _ (getD_mem (d := e0) hi)
  have hlen := hd.2.2.1
  have hcase : (i = 0 ∧ lastN d i = eS) ∨ (0 < i ∧ (d.ents.getD ((i : Int) - 1).toNat e0).name = lastN d i) := by
    cases i with
    | zero => exact .inl ⟨rfl, rfl⟩
    | succ k => exact .inr ⟨by omega, by rw [show (((k + 1 : Nat) : Int) - 1).toNat = k by omega]; rfl⟩
  (repeat' (first|(with_reducible refine AllP.go ?_;(first|exact trivial|exact fun _ _=>⟨_,rfl⟩|((try simp only [OS]);repeat' (first|omega|exact fun _ _=>⟨_,rfl⟩|refine And.intro ?_ ?_))))|(refine rg ?_ ?_)|(with_reducible first|refine stp ?_|refine tD rfl ?_)|refine ct ?_|refine cf ?_|((first|refine gs ?_ ?_|refine gl ?_ ?_|refine gc ?_ ?_)<;>intro h<;>(try simp only [NS] at h)<;>(try exact xf)<;>(try refine rn ?_ ?_))))
  refine TE.callW (prName_c (d.ents.getD i e0).name hx.1) rfl (by rfl) (by rfl) rfl (by rfl) (by (first|exact trivial|((with_reducible refine AllP.go ?_);dsimp only [AllP, appP];repeat' (first|with_reducible rfl|with_reducible exact LeD.refl|refine And.intro ?_ ?_|exact vi|rfl|exact vb|assumption|exact LeD.refl)))) ?_
  intro _ _
  by_cases n1 : pnameE (d.ents.getD i e0).name ≠ 0
  · rw [ent1 n1]
    ((refine rn ?_ ?_);(repeat' (first|(with_reducible refine AllP.go ?_;(first|exact trivial|exact fun _ _=>⟨_,rfl⟩|((try simp only [OS]);repeat' (first|omega|exact fun _ _=>⟨_,rfl⟩|refine And.intro ?_ ?_))))|(refine rg ?_ ?_)|(with_reducible first|refine stp ?_|refine tD rfl ?_)|refine ct ?_|refine cf ?_|((first|refine gs ?_ ?_|refine gl ?_ ?_|refine gc ?_ ?_)<;>intro h<;>(try simp only [NS] at h)<;>(try exact xf)<;>(try refine rn ?_ ?_)))))
    (refine TE.ret' io rfl tysOk (()) ?_ rfl (by rfl) ?_;all_goals (try (first|exact trivial|((with_reducible refine AllP.go ?_);dsimp only [AllP, appP];repeat' (first|with_reducible rfl|with_reducible exact LeD.refl|refine And.intro ?_ ?_|exact vi|rfl|exact vb|exact LeD.refl)))))
  have n1 := Decidable.not_not.1 n1
  have hne := (name_size n1).2
  ((refine rn ?_ ?_);repeat' (first|(with_reducible refine AllP.go ?_;(first|exact trivial|exact fun _ _=>⟨_,rfl⟩|((try simp only [OS]);repeat' (first|omega|exact fun _ _=>⟨_,rfl⟩|refine And.intro ?_ ?_))))|(with_reducible first|refine stp ?_|refine tD rfl ?_)|refine ct ?_|refine cf ?_|((first|refine gs ?_ ?_|refine gl ?_ ?_|refine gc ?_ ?_)<;>intro h<;>(try simp only [NS] at h)<;>(try exact xf)<;>(try refine rn ?_ ?_))))
  ((refine rg ?_ ?_);repeat' (first|(with_reducible refine AllP.go ?_;(first|exact trivial|exact fun _ _=>⟨_,rfl⟩|((try simp only [OS]);repeat' (first|omega|exact fun _ _=>⟨_,rfl⟩|refine And.intro ?_ ?_))))|(with_reducible first|refine stp ?_|refine tD rfl ?_)|refine ct ?_|refine cf ?_|((first|refine gs ?_ ?_|refine gl ?_ ?_|refine gc ?_ ?_)<;>intro h<;>(try simp only [NS] at h)<;>(try exact xf)<;>(try refine rn ?_ ?_))))
  have hcl := alone_okN hx.2
  (simp only [Int.toNat_natCast])
  generalize (d.ents.getD i e0) = x at *
  (refine TE.mid (ι := Unit) (fun _ => True) (fun _ => ⟨[(36, .o (.sb (decide (x.name = lastN d i)))), (1, .o (.c (.int .i64 i))), (2, .o (.ptr 0 0)), (4, .o (.c (.int .i64 0))), (5, .o (.ptr 1 0)), (6, .o (.ptr 2 0))], enH d x, 3⟩) ?_ fun _ _ => ?_)
  · ((refine dn ?_);repeat' (first|(with_reducible refine AllP.go ?_;(first|exact trivial|exact fun _ _=>⟨_,rfl⟩|((try simp only [OS]);repeat' (first|omega|exact fun _ _=>⟨_,rfl⟩|refine And.intro ?_ ?_))))|(with_reducible first|exact PanicOk.body|exact rd.panic|refine PanicOk.then' ?_|refine PanicOk.block ?_|refine PanicOk.jump ?_)|(refine TL.done (by rfl) ?_)|(refine TL.auto tysOk rfl ?_ (by rfl) ?_ ?_)|((refine TL.one (by rfl) ?_);first|(refine sm ?_ ?_)|(refine sp ?_ ?_))|(refine sm ?_ ?_)|((first|refine gl ?_ ?_|refine gc ?_ ?_)<;>intro h<;>(try simp only [NS] at h)<;>(try exact xf))))
    all_goals (repeat (with_reducible first|refine stp ?_|refine tD rfl ?_))
    all_goals (refine TE.at () trivial ?_;(refine Ent.of rfl rfl (by rfl) ?_;(try (first|exact trivial|((with_reducible refine AllP.go ?_);dsimp only [AllP, appP];repeat' (first|with_reducible rfl|with_reducible exact LeD.refl|refine And.intro ?_ ?_|exact vi|rfl|exact vb|exact LeD.refl))))))
    · rcases hcase with ⟨c1, c2⟩ | ⟨c1, c2⟩
      · omega
      · rw [c2, decide_eq_decide]; exact eq_comm
    · rcases hcase with ⟨c1, c2⟩ | ⟨c1, c2⟩
      · refine congrArg Value.bool (Eq.symm (decide_eq_false fun e => ?_))
        rw [e, c2] at hne
        exact hne rfl
      · omega
  (refine TE.cond_split (by rfl) ?_ ?_ <;> intro h <;> (try simp only [NS] at h) <;> (try (exfalso; first | omega | exact h trivial | exact h | exact h rfl | contradiction)))
  · rw [ent2 n1 h]
    (repeat' (first|(with_reducible refine AllP.go ?_;(first|exact trivial|exact fun _ _=>⟨_,rfl⟩|((try simp only [OS]);repeat' (first|omega|exact fun _ _=>⟨_,rfl⟩|refine And.intro ?_ ?_))))|(refine rg ?_ ?_)|(with_reducible first|refine stp ?_|refine tD rfl ?_)|refine ct ?_|refine cf ?_|((first|refine gs ?_ ?_|refine gl ?_ ?_|refine gc ?_ ?_)<;>intro h<;>(try simp only [NS] at h)<;>(try exact xf)<;>(try refine rn ?_ ?_))))
    (refine TE.ret' io rfl tysOk (()) ?_ rfl (by rfl) ?_;all_goals (try (first|exact trivial|((with_reducible refine AllP.go ?_);dsimp only [AllP, appP];repeat' (first|with_reducible rfl|with_reducible exact LeD.refl|refine And.intro ?_ ?_|exact vi|rfl|exact vb|exact LeD.refl)))))
  have n2 := h
  (repeat (with_reducible first|refine stp ?_|refine tD rfl ?_))
  (refine TE.mid (ι := Unit) (fun _ => True) (fun _ => ⟨[(60, .o (.sb (decide (ltS x.name (lastN d i) = true ∨ x.node.depth ≠ 0 ∨ x.node.name ≠ eS)))), (1, .o (.c (.int .i64 i))), (2, .o (.ptr 0 0)), (4, .o (.c (.int .i64 0))), (5, .o (.ptr 1 0)), (6, .o (.ptr 2 0))], enH d x, 3⟩) ?_ fun _ _ => ?_)
  · have hP : (0 < (i : Int) → (ltS x.name (lastN d i) = true ↔ Op.bytesLess (d.ents.getD ((i : Int) - 1).toNat e0).name.data.toList x.name.data.toList = false ∧ ¬ (d.ents.getD ((i : Int) - 1).toNat e0).name = x.name)) ∧ (¬ 0 < (i : Int) → ltS x.name (lastN d i) = false) := by
      rcases hcase with ⟨c1, c2⟩ | ⟨c1, c2⟩
      · exact ⟨fun e => by omega, fun _ => by rw [c2]; exact ltS_nil _⟩
      · exact ⟨fun _ => by rw [← c2]; exact gtr_iff2, fun e => by omega⟩
    have hz : x.node.name = eS ↔ x.node.name.size = 0 := ⟨fun e => by rw [e]; rfl, size_zero⟩
    generalize ltS x.name (lastN d i) = lt at *
    ((refine dn ?_);repeat' (first|(with_reducible refine AllP.go ?_;(first|exact trivial|exact fun _ _=>⟨_,rfl⟩|((try simp only [OS]);repeat' (first|omega|exact fun _ _=>⟨_,rfl⟩|refine And.intro ?_ ?_))))|(with_reducible first|exact PanicOk.body|exact rd.panic|refine PanicOk.then' ?_|refine PanicOk.block ?_|refine PanicOk.jump ?_)|(refine TL.done (by rfl) ?_)|(refine TL.auto tysOk rfl ?_ (by rfl) ?_ ?_)|((refine TL.one (by rfl) ?_);first|(refine sm ?_ ?_)|(refine sp ?_ ?_))|(refine sm ?_ ?_)|((first|refine gl ?_ ?_|refine gc ?_ ?_)<;>intro h<;>(try simp only [NS] at h)<;>(try exact xf))))
    all_goals (repeat (with_reducible first|refine stp ?_|refine tD rfl ?_))
    all_goals (refine TE.at () trivial ?_;(refine Ent.of rfl rfl (by rfl) ?_;(try (first|exact trivial|((with_reducible refine AllP.go ?_);dsimp only [AllP, appP];repeat' (first|with_reducible rfl|with_reducible exact LeD.refl|refine And.intro ?_ ?_|exact vi|rfl|exact vb|exact LeD.refl))))))
    all_goals first
      | exact congrArg Value.bool (Eq.symm (decide_eq_true (.inr (.inl h))))
      | exact congrArg Value.bool (Eq.symm (decide_eq_true (.inl ((hP.1 (by assumption)).2 h))))
      | skip
    · rename_i g1 g2
      have hlf : lt = false := by
        cases lt
        · rfl
        · have k := (hP.1 g1).1 rfl
          rcases g2 with e | e
          · rw [k.1] at e; cases e
          · exact absurd e k.2
      rw [hlf, h, Bool.eq_iff_iff]
      simp
    · rename_i g1
      rw [hP.2 (by omega), h, Bool.eq_iff_iff]
      simp
  (refine TE.cond_split (by rfl) ?_ ?_ <;> intro h <;> (try simp only [NS] at h) <;> (try (exfalso; first | omega | exact h trivial | exact h | exact h rfl | contradiction)))
  · rw [ent3 n1 n2 h]
    (repeat' (first|(with_reducible refine AllP.go ?_;(first|exact trivial|exact fun _ _=>⟨_,rfl⟩|((try simp only [OS]);repeat' (first|omega|exact fun _ _=>⟨_,rfl⟩|refine And.intro ?_ ?_))))|(refine rg ?_ ?_)|(with_reducible first|refine stp ?_|refine tD rfl ?_)|refine ct ?_|refine cf ?_|((first|refine gs ?_ ?_|refine gl ?_ ?_|refine gc ?_ ?_)<;>intro h<;>(try simp only [NS] at h)<;>(try exact xf)<;>(try refine rn ?_ ?_))))
    (refine TE.ret' io rfl tysOk (()) ?_ rfl (by rfl) ?_;all_goals (try (first|exact trivial|((with_reducible refine AllP.go ?_);dsimp only [AllP, appP];repeat' (first|with_reducible rfl|with_reducible exact LeD.refl|refine And.intro ?_ ?_|exact vi|rfl|exact vb|exact LeD.refl)))))
  have hE := ent4 (d := d) n1 n2 h
  have c := rcheck_c (aloneT x.node) (show 2 ≤ 1000000 by decide) hcl
  (repeat' (first|(with_reducible refine AllP.go ?_;(first|exact trivial|exact fun _ _=>⟨_,rfl⟩|((try simp only [OS]);repeat' (first|omega|exact fun _ _=>⟨_,rfl⟩|refine And.intro ?_ ?_))))|(refine rg ?_ ?_)|(with_reducible first|refine stp ?_|refine tD rfl ?_)|refine ct ?_|refine cf ?_|((first|refine gs ?_ ?_|refine gl ?_ ?_|refine gc ?_ ?_)<;>intro h<;>(try simp only [NS] at h)<;>(try exact xf)<;>(try refine rn ?_ ?_))))
  (refine TE.freezeN 4 (by rfl) (by rfl) ?_)
  refine TE.callW (c) rfl (by rfl) (by rfl) rfl (by rfl) ?_ ?_
  · refine AllP.go ?_
    refine And.intro rfl ?_
    refine LeD.lit rfl ?_
    exact ⟨nd_rowX (LeX.of_eq rfl) (LeX.of_eq rfl) (LeX.of_eq rfl) (LeX.nil rfl) (LeX.of_eq rfl) (LeX.of_eq rfl) (LeX.of_eq rfl) (LeX.of_eq rfl), fun j hj => LeX.of_eq (nd_row { x.node with depth := 1, name := ⟨#[110]⟩, cls := 0 } j hj), trivial⟩
  intro _ _
  have c0 : (checkT (aloneT x.node)).2 = aloneE x.node := rfl
  rw [c0]
  clear c hcl hcase hx c0
  by_cases n4 : aloneE x.node ≠ 0
  · rw [if_pos n4] at hE
    rw [hE]
    ((refine rn ?_ ?_);(repeat' (first|(with_reducible refine AllP.go ?_;(first|exact trivial|exact fun _ _=>⟨_,rfl⟩|((try simp only [OS]);repeat' (first|omega|exact fun _ _=>⟨_,rfl⟩|refine And.intro ?_ ?_))))|(refine rg ?_ ?_)|(with_reducible first|refine stp ?_|refine tD rfl ?_)|refine ct ?_|refine cf ?_|((first|refine gs ?_ ?_|refine gl ?_ ?_|refine gc ?_ ?_)<;>intro h<;>(try simp only [NS] at h)<;>(try exact xf)<;>(try refine rn ?_ ?_)))))
    (refine TE.ret' io rfl tysOk (()) ?_ rfl (by rfl) ?_;all_goals (try (first|exact trivial|((with_reducible refine AllP.go ?_);dsimp only [AllP, appP];repeat' (first|with_reducible rfl|with_reducible exact LeD.refl|refine And.intro ?_ ?_|exact vi|rfl|exact vb|exact LeD.refl)))))
  rw [if_neg n4] at hE
  have n4 := Decidable.not_not.1 n4
  by_cases n5 : x.node.cls < 0 ∨ (0 < x.node.cls ↔ ¬ 1 < x.names)
  · rw [if_pos n5] at hE
    rw [hE]
    ((refine rn ?_ ?_);repeat' (first|(with_reducible refine AllP.go ?_;(first|exact trivial|exact fun _ _=>⟨_,rfl⟩|((try simp only [OS]);repeat' (first|omega|exact fun _ _=>⟨_,rfl⟩|refine And.intro ?_ ?_))))|(with_reducible first|refine stp ?_|refine tD rfl ?_)|refine ct ?_|refine cf ?_|((first|refine gs ?_ ?_|refine gl ?_ ?_|refine gc ?_ ?_)<;>intro h<;>(try simp only [NS] at h)<;>(try exact xf)<;>(try refine rn ?_ ?_))))
    ((refine rg ?_ ?_);repeat' (first|(with_reducible refine AllP.go ?_;(first|exact trivial|exact fun _ _=>⟨_,rfl⟩|((try simp only [OS]);repeat' (first|omega|exact fun _ _=>⟨_,rfl⟩|refine And.intro ?_ ?_))))|(with_reducible first|refine stp ?_|refine tD rfl ?_)|refine ct ?_|refine cf ?_|((first|refine gs ?_ ?_|refine gl ?_ ?_|refine gc ?_ ?_)<;>intro h<;>(try simp only [NS] at h)<;>(try exact xf)<;>(try refine rn ?_ ?_))))
    ((refine rg ?_ ?_);repeat' (first|(with_reducible refine AllP.go ?_;(first|exact trivial|exact fun _ _=>⟨_,rfl⟩|((try simp only [OS]);repeat' (first|omega|exact fun _ _=>⟨_,rfl⟩|refine And.intro ?_ ?_))))|(with_reducible first|refine stp ?_|refine tD rfl ?_)|refine ct ?_|refine cf ?_|((first|refine gs ?_ ?_|refine gl ?_ ?_|refine gc ?_ ?_)<;>intro h<;>(try simp only [NS] at h)<;>(try exact xf)<;>(try refine rn ?_ ?_))))
    all_goals try (exfalso; clear hE h; grind)
    all_goals (repeat' (first|(with_reducible refine AllP.go ?_;(first|exact trivial|exact fun _ _=>⟨_,rfl⟩|((try simp only [OS]);repeat' (first|omega|exact fun _ _=>⟨_,rfl⟩|refine And.intro ?_ ?_))))|(refine rg ?_ ?_)|(with_reducible first|refine stp ?_|refine tD rfl ?_)|refine ct ?_|refine cf ?_|((first|refine gs ?_ ?_|refine gl ?_ ?_|refine gc ?_ ?_)<;>intro h<;>(try simp only [NS] at h)<;>(try exact xf)<;>(try refine rn ?_ ?_))))
    all_goals (refine TE.ret' io rfl tysOk (()) ?_ rfl (by rfl) ?_;all_goals (try (first|exact trivial|((with_reducible refine AllP.go ?_);dsimp only [AllP, appP];repeat' (first|with_reducible rfl|with_reducible exact LeD.refl|refine And.intro ?_ ?_|exact vi|rfl|exact vb|exact LeD.refl)))))
  rw [if_neg n5] at hE
  by_cases n6 : x.names < 1
  · rw [if_pos n6] at hE
    rw [hE]
    ((refine rn ?_ ?_);repeat' (first|(with_reducible refine AllP.go ?_;(first|exact trivial|exact fun _ _=>⟨_,rfl⟩|((try simp only [OS]);repeat' (first|omega|exact fun _ _=>⟨_,rfl⟩|refine And.intro ?_ ?_))))|(with_reducible first|refine stp ?_|refine tD rfl ?_)|refine ct ?_|refine cf ?_|((first|refine gs ?_ ?_|refine gl ?_ ?_|refine gc ?_ ?_)<;>intro h<;>(try simp only [NS] at h)<;>(try exact xf)<;>(try refine rn ?_ ?_))))
    ((refine rg ?_ ?_);repeat' (first|(with_reducible refine AllP.go ?_;(first|exact trivial|exact fun _ _=>⟨_,rfl⟩|((try simp only [OS]);repeat' (first|omega|exact fun _ _=>⟨_,rfl⟩|refine And.intro ?_ ?_))))|(with_reducible first|refine stp ?_|refine tD rfl ?_)|refine ct ?_|refine cf ?_|((first|refine gs ?_ ?_|refine gl ?_ ?_|refine gc ?_ ?_)<;>intro h<;>(try simp only [NS] at h)<;>(try exact xf)<;>(try refine rn ?_ ?_))))
    ((refine rg ?_ ?_);repeat' (first|(with_reducible refine AllP.go ?_;(first|exact trivial|exact fun _ _=>⟨_,rfl⟩|((try simp only [OS]);repeat' (first|omega|exact fun _ _=>⟨_,rfl⟩|refine And.intro ?_ ?_))))|(with_reducible first|refine stp ?_|refine tD rfl ?_)|refine ct ?_|refine cf ?_|((first|refine gs ?_ ?_|refine gl ?_ ?_|refine gc ?_ ?_)<;>intro h<;>(try simp only [NS] at h)<;>(try exact xf)<;>(try refine rn ?_ ?_))))
    all_goals try (exfalso; clear hE h; grind)
    all_goals ((refine rg ?_ ?_);repeat' (first|(with_reducible refine AllP.go ?_;(first|exact trivial|exact fun _ _=>⟨_,rfl⟩|((try simp only [OS]);repeat' (first|omega|exact fun _ _=>⟨_,rfl⟩|refine And.intro ?_ ?_))))|(with_reducible first|refine stp ?_|refine tD rfl ?_)|refine ct ?_|refine cf ?_|((first|refine gs ?_ ?_|refine gl ?_ ?_|refine gc ?_ ?_)<;>intro h<;>(try simp only [NS] at h)<;>(try exact xf)<;>(try refine rn ?_ ?_))))
    all_goals try (exfalso; clear hE h; grind)
    all_goals (repeat' (first|(with_reducible refine AllP.go ?_;(first|exact trivial|exact fun _ _=>⟨_,rfl⟩|((try simp only [OS]);repeat' (first|omega|exact fun _ _=>⟨_,rfl⟩|refine And.intro ?_ ?_))))|(refine rg ?_ ?_)|(with_reducible first|refine stp ?_|refine tD rfl ?_)|refine ct ?_|refine cf ?_|((first|refine gs ?_ ?_|refine gl ?_ ?_|refine gc ?_ ?_)<;>intro h<;>(try simp only [NS] at h)<;>(try exact xf)<;>(try refine rn ?_ ?_))))
    all_goals (refine TE.ret' io rfl tysOk (()) ?_ rfl (by rfl) ?_;all_goals (try (first|exact trivial|((with_reducible refine AllP.go ?_);dsimp only [AllP, appP];repeat' (first|with_reducible rfl|with_reducible exact LeD.refl|refine And.intro ?_ ?_|exact vi|rfl|exact vb|exact LeD.refl)))))
  rw [if_neg n6] at hE
  ((refine rn ?_ ?_);repeat' (first|(with_reducible refine AllP.go ?_;(first|exact trivial|exact fun _ _=>⟨_,rfl⟩|((try simp only [OS]);repeat' (first|omega|exact fun _ _=>⟨_,rfl⟩|refine And.intro ?_ ?_))))|(with_reducible first|refine stp ?_|refine tD rfl ?_)|refine ct ?_|refine cf ?_|((first|refine gs ?_ ?_|refine gl ?_ ?_|refine gc ?_ ?_)<;>intro h<;>(try simp only [NS] at h)<;>(try exact xf)<;>(try refine rn ?_ ?_))))
  ((refine rg ?_ ?_);repeat' (first|(with_reducible refine AllP.go ?_;(first|exact trivial|exact fun _ _=>⟨_,rfl⟩|((try simp only [OS]);repeat' (first|omega|exact fun _ _=>⟨_,rfl⟩|refine And.intro ?_ ?_))))|(with_reducible first|refine stp ?_|refine tD rfl ?_)|refine ct ?_|refine cf ?_|((first|refine gs ?_ ?_|refine gl ?_ ?_|refine gc ?_ ?_)<;>intro h<;>(try simp only [NS] at h)<;>(try exact xf)<;>(try refine rn ?_ ?_))))
  ((refine rg ?_ ?_);repeat' (first|(with_reducible refine AllP.go ?_;(first|exact trivial|exact fun _ _=>⟨_,rfl⟩|((try simp only [OS]);repeat' (first|omega|exact fun _ _=>⟨_,rfl⟩|refine And.intro ?_ ?_))))|(with_reducible first|refine stp ?_|refine tD rfl ?_)|refine ct ?_|refine cf ?_|((first|refine gs ?_ ?_|refine gl ?_ ?_|refine gc ?_ ?_)<;>intro h<;>(try simp only [NS] at h)<;>(try exact xf)<;>(try refine rn ?_ ?_))))
  all_goals try (exfalso; clear hE h; grind)
  all_goals ((refine rg ?_ ?_);repeat' (first|(with_reducible refine AllP.go ?_;(first|exact trivial|exact fun _ _=>⟨_,rfl⟩|((try simp only [OS]);repeat' (first|omega|exact fun _ _=>⟨_,rfl⟩|refine And.intro ?_ ?_))))|(with_reducible first|refine stp ?_|refine tD rfl ?_)|refine ct ?_|refine cf ?_|((first|refine gs ?_ ?_|refine gl ?_ ?_|refine gc ?_ ?_)<;>intro h<;>(try simp only [NS] at h)<;>(try exact xf)<;>(try refine rn ?_ ?_))))
  all_goals ((refine rg ?_ ?_);repeat' (first|(with_reducible refine AllP.go ?_;(first|exact trivial|exact fun _ _=>⟨_,rfl⟩|((try simp only [OS]);repeat' (first|omega|exact fun _ _=>⟨_,rfl⟩|refine And.intro ?_ ?_))))|(with_reducible first|refine stp ?_|refine tD rfl ?_)|refine ct ?_|refine cf ?_|((first|refine gs ?_ ?_|refine gl ?_ ?_|refine gc ?_ ?_)<;>intro h<;>(try simp only [NS] at h)<;>(try exact xf)<;>(try refine rn ?_ ?_))))
  all_goals (refine TE.only [1, 2, 4, 5, 6, 9] (by rfl) ?_)
  all_goals have hK := badK_len (d := d) (x := x)
  all_goals (
    by_cases n7 : badK d x
    · rw [if_pos n7] at hE
      rw [hE]
      have hK := hK.1 n7
      clear hE n7
      cases ho : d.opq
      all_goals cases hf : x.first
      all_goals rw [ho, hf] at hK
      all_goals ((refine rg ?_ ?_);repeat' (first|(with_reducible refine AllP.go ?_;(first|exact trivial|exact fun _ _=>⟨_,rfl⟩|((try simp only [OS]);repeat' (first|omega|exact fun _ _=>⟨_,rfl⟩|refine And.intro ?_ ?_))))|(with_reducible first|refine stp ?_|refine tD rfl ?_)|refine ct ?_|refine cf ?_|((first|refine gs ?_ ?_|refine gl ?_ ?_|refine gc ?_ ?_)<;>intro h<;>(try simp only [NS] at h)<;>(try exact xf)<;>(try refine rn ?_ ?_))))
      all_goals try (exfalso; grind)
      all_goals (repeat' (first|(with_reducible refine AllP.go ?_;(first|exact trivial|exact fun _ _=>⟨_,rfl⟩|((try simp only [OS]);repeat' (first|omega|exact fun _ _=>⟨_,rfl⟩|refine And.intro ?_ ?_))))|(refine rg ?_ ?_)|(with_reducible first|refine stp ?_|refine tD rfl ?_)|refine ct ?_|refine cf ?_|((first|refine gs ?_ ?_|refine gl ?_ ?_|refine gc ?_ ?_)<;>intro h<;>(try simp only [NS] at h)<;>(try exact xf)<;>(try refine rn ?_ ?_))))
      all_goals (refine TE.ret' io rfl tysOk (()) ?_ rfl (by rfl) ?_;all_goals (try (first|exact trivial|((with_reducible refine AllP.go ?_);dsimp only [AllP, appP];repeat' (first|with_reducible rfl|with_reducible exact LeD.refl|refine And.intro ?_ ?_|exact vi|rfl|exact vb|exact LeD.refl)))))
    rw [if_neg n7] at hE
    rw [hE]
    have hK := fun k => n7 (hK.2 k)
    clear hE n7
    cases ho : d.opq
    all_goals cases hf : x.first
    all_goals rw [ho, hf] at hK
    all_goals ((refine rg ?_ ?_);repeat' (first|(with_reducible refine AllP.go ?_;(first|exact trivial|exact fun _ _=>⟨_,rfl⟩|((try simp only [OS]);repeat' (first|omega|exact fun _ _=>⟨_,rfl⟩|refine And.intro ?_ ?_))))|(with_reducible first|refine stp ?_|refine tD rfl ?_)|refine ct ?_|refine cf ?_|((first|refine gs ?_ ?_|refine gl ?_ ?_|refine gc ?_ ?_)<;>intro h<;>(try simp only [NS] at h)<;>(try exact xf)<;>(try refine rn ?_ ?_))))
    all_goals try (exfalso; grind)
    all_goals (repeat' (first|(with_reducible refine AllP.go ?_;(first|exact trivial|exact fun _ _=>⟨_,rfl⟩|((try simp only [OS]);repeat' (first|omega|exact fun _ _=>⟨_,rfl⟩|refine And.intro ?_ ?_))))|(refine rg ?_ ?_)|(with_reducible first|refine stp ?_|refine tD rfl ?_)|refine ct ?_|refine cf ?_|((first|refine gs ?_ ?_|refine gl ?_ ?_|refine gc ?_ ?_)<;>intro h<;>(try simp only [NS] at h)<;>(try exact xf)<;>(try refine rn ?_ ?_))))
    all_goals (refine TE.ret' io rfl tysOk (()) ?_ rfl (by rfl) ?_;all_goals (try (first|exact trivial|((with_reducible refine AllP.go ?_);dsimp only [AllP, appP];repeat' (first|with_reducible rfl|with_reducible exact LeD.refl|refine And.intro ?_ ?_|exact vi|rfl|exact vb|exact LeD.refl))))))
end Go.Proofs.Ythhpofehcnjmmaa.Am
/- Branches: what is wrong in one directory, the document's answer; which directories are looked at. -/
set_option linter.unusedSimpArgs false
set_option linter.unusedVariables false
namespace Go.Proofs.Ythhpofehcnjmmaa.Am
open Go.RowKit Lw
open Br At
set_option maxRecDepth 20000 in
set_option maxHeartbeats 8000000 in
theorem rCheckDir_c (d : Di) (hd : okD d) : Con Try.prog 34 [.g (diA d)] [] 0 0 U (fun _ => .t [.inl (.c (.int .i64 (checkD d).1)), .inl (.c (.int .i64 (checkD d).2))]) G0 := by
  refine con_of Try.func34 rfl (by kernel_rfl) Try.ntmps34 rfl (by first | exact Nat.zero_le _ | decide) (fun _ => ⟨rfl, rfl⟩) fun w S ν => ?_
  have hd' := hd
  obtain ⟨⟨a1, a2⟩, ⟨b1, b2⟩, e1, e2⟩ := hd'
  have hD := checkD_open d
  have hrl : d.red = [] ↔ d.red.length = 0 := List.length_eq_zero_iff.symm
  (repeat' (first|(with_reducible refine AllP.go ?_;(first|exact trivial|exact fun _ _=>⟨_,rfl⟩|((try simp only [OS]);repeat' (first|omega|exact fun _ _=>⟨_,rfl⟩|refine And.intro ?_ ?_))))|(refine rg ?_ ?_)|(with_reducible first|refine stp ?_|refine tD rfl ?_)|refine ct ?_|refine cf ?_|((first|refine gs ?_ ?_|refine gl ?_ ?_|refine gc ?_ ?_)<;>intro h<;>(try simp only [NS] at h)<;>(try exact xf)<;>(try refine rn ?_ ?_))))
  refine TE.callW (rCheck_c d.attrs a1 a2) rfl (by rfl) (by rfl) rfl (by rfl) (by (first|exact trivial|((with_reducible refine AllP.go ?_);dsimp only [AllP, appP];repeat' (first|with_reducible rfl|with_reducible exact LeD.refl|refine And.intro ?_ ?_|exact vi|rfl|exact vb|assumption|exact LeD.refl)))) ?_
  intro _ _
  by_cases h1 : checkE d.attrs ≠ 0
  · rw [if_pos h1] at hD
    rw [hD]
    ((refine rn ?_ ?_);(repeat' (first|(with_reducible refine AllP.go ?_;(first|exact trivial|exact fun _ _=>⟨_,rfl⟩|((try simp only [OS]);repeat' (first|omega|exact fun _ _=>⟨_,rfl⟩|refine And.intro ?_ ?_))))|(refine rg ?_ ?_)|(with_reducible first|refine stp ?_|refine tD rfl ?_)|refine ct ?_|refine cf ?_|((first|refine gs ?_ ?_|refine gl ?_ ?_|refine gc ?_ ?_)<;>intro h<;>(try simp only [NS] at h)<;>(try exact xf)<;>(try refine rn ?_ ?_)))))
    (refine TE.ret' io rfl tysOk (()) ?_ rfl (by rfl) ?_;all_goals (try (first|exact trivial|((with_reducible refine AllP.go ?_);dsimp only [AllP, appP];repeat' (first|with_reducible rfl|with_reducible exact LeD.refl|refine And.intro ?_ ?_|exact vi|rfl|exact vb|exact LeD.refl)))))
  rw [if_neg h1] at hD
  have h1 := Decidable.not_not.1 h1
  have hent := fun i hi => dEntry_c d i hi hd
  clear hd
  by_cases h2 : d.opq = true ∧ d.red ≠ []
  · rw [if_pos h2] at hD
    rw [hD]
    obtain ⟨h2, h2'⟩ := h2
    have h2'' : 0 < d.red.length := List.length_pos_iff.2 h2'
    clear hent hD
    rw [h2]
    ((refine rn ?_ ?_);(repeat' (first|(with_reducible refine AllP.go ?_;(first|exact trivial|exact fun _ _=>⟨_,rfl⟩|((try simp only [OS]);repeat' (first|omega|exact fun _ _=>⟨_,rfl⟩|refine And.intro ?_ ?_))))|(refine rg ?_ ?_)|(with_reducible first|refine stp ?_|refine tD rfl ?_)|refine ct ?_|refine cf ?_|((first|refine gs ?_ ?_|refine gl ?_ ?_|refine gc ?_ ?_)<;>intro h<;>(try simp only [NS] at h)<;>(try exact xf)<;>(try refine rn ?_ ?_)))))
    (refine TE.ret' io rfl tysOk (()) ?_ rfl (by rfl) ?_;all_goals (try (first|exact trivial|((with_reducible refine AllP.go ?_);dsimp only [AllP, appP];repeat' (first|with_reducible rfl|with_reducible exact LeD.refl|refine And.intro ?_ ?_|exact vi|rfl|exact vb|exact LeD.refl)))))
  rw [if_neg h2] at hD
  ((refine rn ?_ ?_);repeat' (first|(with_reducible refine AllP.go ?_;(first|exact trivial|exact fun _ _=>⟨_,rfl⟩|((try simp only [OS]);repeat' (first|omega|exact fun _ _=>⟨_,rfl⟩|refine And.intro ?_ ?_))))|(with_reducible first|refine stp ?_|refine tD rfl ?_)|refine ct ?_|refine cf ?_|((first|refine gs ?_ ?_|refine gl ?_ ?_|refine gc ?_ ?_)<;>intro h<;>(try simp only [NS] at h)<;>(try exact xf)<;>(try refine rn ?_ ?_))))
  (refine TE.mid (ι := Unit) (fun _ => True) (fun _ => ⟨[(20, .o (.c (.bool false))), (4, .o (.c (.int .i64 (checkE d.attrs)))), (3, .o (.c (.int .i64 0))), (2, .o (.c (.int .i64 0))), (1, .o (.ptr 0 0))], [.box 0 53 (diA d)], 1⟩) ?_ fun _ _ => ?_)
  · ((refine rg ?_ ?_);try (with_reducible refine AllP.go ?_;(first|exact trivial|exact fun _ _=>⟨_,rfl⟩|((try simp only [OS]);repeat' (first|omega|exact fun _ _=>⟨_,rfl⟩|refine And.intro ?_ ?_)))))
    refine TE.gsplit (by rfl) (by rfl) ?_ ?_ <;> (intro h; (try simp only [NS] at h))
    case refine_2.refine_2 => exact absurd h1 h
    iterate 2 (refine TE.step rfl rfl rfl (fun _ h => nomatch h) (m_pure tysOk rfl ?_) ?_;rotate_left;rintro _ rfl;rotate_right;(with_reducible refine AllP.go ?_;(first|exact trivial|exact fun _ _=>⟨_,rfl⟩|((try simp only [OS]);repeat' (first|omega|exact fun _ _=>⟨_,rfl⟩|refine And.intro ?_ ?_)))))
    refine TE.norm (by rfl) ?_
    cases ho : d.opq
    · ((refine rn ?_ ?_);try (with_reducible refine AllP.go ?_;(first|exact trivial|exact fun _ _=>⟨_,rfl⟩|((try simp only [OS]);repeat' (first|omega|exact fun _ _=>⟨_,rfl⟩|refine And.intro ?_ ?_)))))
      (repeat (with_reducible first|refine stp ?_|refine tD rfl ?_))
      (refine TE.at () trivial ?_;(refine Ent.of rfl rfl (by rfl) ?_;(try (first|exact trivial|((with_reducible refine AllP.go ?_);dsimp only [AllP, appP];repeat' (first|with_reducible rfl|with_reducible exact LeD.refl|refine And.intro ?_ ?_|exact vi|rfl|exact vb|exact LeD.refl))))))
      exact congrArg Value.bool ho.symm
    · have hr : d.red = [] := Decidable.byContradiction fun k => h2 ⟨ho, k⟩
      have hr0 := hrl.1 hr
      ((refine rn ?_ ?_);try (with_reducible refine AllP.go ?_;(first|exact trivial|exact fun _ _=>⟨_,rfl⟩|((try simp only [OS]);repeat' (first|omega|exact fun _ _=>⟨_,rfl⟩|refine And.intro ?_ ?_)))))
      (repeat (with_reducible first|refine stp ?_|refine tD rfl ?_))
      (refine TE.at () trivial ?_;(refine Ent.of rfl rfl (by rfl) ?_;(try (first|exact trivial|((with_reducible refine AllP.go ?_);dsimp only [AllP, appP];repeat' (first|with_reducible rfl|with_reducible exact LeD.refl|refine And.intro ?_ ?_|exact vi|rfl|exact vb|exact LeD.refl))))))
      · exact congrArg Value.bool (decide_eq_false (by omega))
      · exact congrArg Value.bool ho.symm
  (repeat' (first|(with_reducible refine AllP.go ?_;(first|exact trivial|exact fun _ _=>⟨_,rfl⟩|((try simp only [OS]);repeat' (first|omega|exact fun _ _=>⟨_,rfl⟩|refine And.intro ?_ ?_))))|(refine rg ?_ ?_)|(with_reducible first|refine stp ?_|refine tD rfl ?_)|refine ct ?_|refine cf ?_|((first|refine gs ?_ ?_|refine gl ?_ ?_|refine gc ?_ ?_)<;>intro h<;>(try simp only [NS] at h)<;>(try exact xf)<;>(try refine rn ?_ ?_))))
  refine TE.callW (prCheck_c d.red b2 b1) rfl (by rfl) (by rfl) rfl (by rfl) (by (first|exact trivial|((with_reducible refine AllP.go ?_);dsimp only [AllP, appP];repeat' (first|with_reducible rfl|with_reducible exact LeD.refl|refine And.intro ?_ ?_|exact vi|rfl|exact vb|assumption|exact LeD.refl)))) ?_
  intro _ _
  by_cases h3 : pcheckE d.red ≠ 0
  · rw [if_pos h3] at hD
    rw [hD]
    ((refine rn ?_ ?_);(repeat' (first|(with_reducible refine AllP.go ?_;(first|exact trivial|exact fun _ _=>⟨_,rfl⟩|((try simp only [OS]);repeat' (first|omega|exact fun _ _=>⟨_,rfl⟩|refine And.intro ?_ ?_))))|(refine rg ?_ ?_)|(with_reducible first|refine stp ?_|refine tD rfl ?_)|refine ct ?_|refine cf ?_|((first|refine gs ?_ ?_|refine gl ?_ ?_|refine gc ?_ ?_)<;>intro h<;>(try simp only [NS] at h)<;>(try exact xf)<;>(try refine rn ?_ ?_)))))
    (refine TE.ret' io rfl tysOk (()) ?_ rfl (by rfl) ?_;all_goals (try (first|exact trivial|((with_reducible refine AllP.go ?_);dsimp only [AllP, appP];repeat' (first|with_reducible rfl|with_reducible exact LeD.refl|refine And.intro ?_ ?_|exact vi|rfl|exact vb|exact LeD.refl)))))
  rw [if_neg h3] at hD
  have h3 := Decidable.not_not.1 h3
  by_cases h4 : 24 < d.ents.length
  · rw [if_pos h4] at hD
    rw [hD]
    ((refine rn ?_ ?_);(repeat' (first|(with_reducible refine AllP.go ?_;(first|exact trivial|exact fun _ _=>⟨_,rfl⟩|((try simp only [OS]);repeat' (first|omega|exact fun _ _=>⟨_,rfl⟩|refine And.intro ?_ ?_))))|(refine rg ?_ ?_)|(with_reducible first|refine stp ?_|refine tD rfl ?_)|refine ct ?_|refine cf ?_|((first|refine gs ?_ ?_|refine gl ?_ ?_|refine gc ?_ ?_)<;>intro h<;>(try simp only [NS] at h)<;>(try exact xf)<;>(try refine rn ?_ ?_)))))
    (refine TE.ret' io rfl tysOk (()) ?_ rfl (by rfl) ?_;all_goals (try (first|exact trivial|((with_reducible refine AllP.go ?_);dsimp only [AllP, appP];repeat' (first|with_reducible rfl|with_reducible exact LeD.refl|refine And.intro ?_ ?_|exact vi|rfl|exact vb|exact LeD.refl)))))
  rw [if_neg h4] at hD
  rw [hD]
  ((refine rn ?_ ?_);(repeat' (first|(with_reducible refine AllP.go ?_;(first|exact trivial|exact fun _ _=>⟨_,rfl⟩|((try simp only [OS]);repeat' (first|omega|exact fun _ _=>⟨_,rfl⟩|refine And.intro ?_ ?_))))|(refine rg ?_ ?_)|(with_reducible first|refine stp ?_|refine tD rfl ?_)|refine ct ?_|refine cf ?_|((first|refine gs ?_ ?_|refine gl ?_ ?_|refine gc ?_ ?_)<;>intro h<;>(try simp only [NS] at h)<;>(try exact xf)<;>(try refine rn ?_ ?_)))))
  (refine TE.only [5, 4, 3, 2, 1] (by rfl) ?_)
  refine TE.loopG (fun q : Nat => q ≤ d.ents.length ∧ ∀ j, j < q → entE d (lastN d j) (d.ents.getD j e0) = 0) (fun q => [(5, .o (.c (.int .i64 q)))]) [] (fun _ => []) (fun q => d.ents.length - q) 0 (by rfl) ⟨Nat.zero_le _, fun j hj => absurd hj (Nat.not_lt_zero _)⟩ ?_ ?_
  · (refine Ent.of rfl rfl (by rfl) ?_;(try (first|exact trivial|((with_reducible refine AllP.go ?_);dsimp only [AllP, appP];repeat' (first|with_reducible rfl|with_reducible exact LeD.refl|refine And.intro ?_ ?_|exact vi|rfl|exact vb|exact LeD.refl)))))
  rintro q ⟨hq, hg⟩
  by_cases hlt : q < d.ents.length
  · (repeat' (first|(with_reducible refine AllP.go ?_;(first|exact trivial|exact fun _ _=>⟨_,rfl⟩|((try simp only [OS]);repeat' (first|omega|exact fun _ _=>⟨_,rfl⟩|refine And.intro ?_ ?_))))|(refine rg ?_ ?_)|(with_reducible first|refine stp ?_|refine tD rfl ?_)|refine ct ?_|refine cf ?_|((first|refine gs ?_ ?_|refine gl ?_ ?_|refine gc ?_ ?_)<;>intro h<;>(try simp only [NS] at h)<;>(try exact xf)<;>(try refine rn ?_ ?_))))
    refine TE.callW (hent q hlt) rfl (by rfl) (by rfl) rfl (by rfl) (by (first|exact trivial|((with_reducible refine AllP.go ?_);dsimp only [AllP, appP];repeat' (first|with_reducible rfl|with_reducible exact LeD.refl|refine And.intro ?_ ?_|exact vi|rfl|exact vb|assumption|exact LeD.refl)))) ?_
    intro _ _
    by_cases n1 : entE d (lastN d q) (d.ents.getD q e0) = 0
    · ((refine rn ?_ ?_);(repeat' (first|(with_reducible refine AllP.go ?_;(first|exact trivial|exact fun _ _=>⟨_,rfl⟩|((try simp only [OS]);repeat' (first|omega|exact fun _ _=>⟨_,rfl⟩|refine And.intro ?_ ?_))))|(refine rg ?_ ?_)|(with_reducible first|refine stp ?_|refine tD rfl ?_)|refine ct ?_|refine cf ?_|((first|refine gs ?_ ?_|refine gl ?_ ?_|refine gc ?_ ?_)<;>intro h<;>(try simp only [NS] at h)<;>(try exact xf)<;>(try refine rn ?_ ?_)))))
      refine TE.again' (q + 1) ⟨by omega, fun j hj => ?_⟩ (by omega) ?_
      · rcases Nat.lt_or_ge j q with h5 | h5
        · exact hg j h5
        · obtain rfl : j = q := by omega
          exact n1
      · (refine Ent.of rfl rfl (by rfl) ?_;(try (first|exact trivial|((with_reducible refine AllP.go ?_);dsimp only [AllP, appP];repeat' (first|with_reducible rfl|with_reducible exact LeD.refl|refine And.intro ?_ ?_|exact vi|rfl|exact vb|exact LeD.refl)))))
    · rw [entsE_bad hlt hg rfl n1]
      ((refine rn ?_ ?_);(repeat' (first|(with_reducible refine AllP.go ?_;(first|exact trivial|exact fun _ _=>⟨_,rfl⟩|((try simp only [OS]);repeat' (first|omega|exact fun _ _=>⟨_,rfl⟩|refine And.intro ?_ ?_))))|(refine rg ?_ ?_)|(with_reducible first|refine stp ?_|refine tD rfl ?_)|refine ct ?_|refine cf ?_|((first|refine gs ?_ ?_|refine gl ?_ ?_|refine gc ?_ ?_)<;>intro h<;>(try simp only [NS] at h)<;>(try exact xf)<;>(try refine rn ?_ ?_)))))
      (refine TE.ret' io rfl tysOk (()) ?_ rfl (by rfl) ?_;all_goals (try (first|exact trivial|((with_reducible refine AllP.go ?_);dsimp only [AllP, appP];repeat' (first|with_reducible rfl|with_reducible exact LeD.refl|refine And.intro ?_ ?_|exact vi|rfl|exact vb|exact LeD.refl)))))
  · obtain rfl : q = d.ents.length := by omega
    rw [entsE_good hg]
    (repeat' (first|(with_reducible refine AllP.go ?_;(first|exact trivial|exact fun _ _=>⟨_,rfl⟩|((try simp only [OS]);repeat' (first|omega|exact fun _ _=>⟨_,rfl⟩|refine And.intro ?_ ?_))))|(refine rg ?_ ?_)|(with_reducible first|refine stp ?_|refine tD rfl ?_)|refine ct ?_|refine cf ?_|((first|refine gs ?_ ?_|refine gl ?_ ?_|refine gc ?_ ?_)<;>intro h<;>(try simp only [NS] at h)<;>(try exact xf)<;>(try refine rn ?_ ?_))))
    (refine TE.ret' io rfl tysOk (()) ?_ rfl (by rfl) ?_;all_goals (try (first|exact trivial|((with_reducible refine AllP.go ?_);dsimp only [AllP, appP];repeat' (first|with_reducible rfl|with_reducible exact LeD.refl|refine And.intro ?_ ?_|exact vi|rfl|exact vb|exact LeD.refl)))))
end Go.Proofs.Ythhpofehcnjmmaa.Am
/- Branches: which directories are looked at. -/
set_option linter.unusedSimpArgs false
set_option linter.unusedVariables false
namespace Go.Proofs.Ythhpofehcnjmmaa.Am
open Go.RowKit Lw
open Br
/-- Directories, as a slice holds them. -/
def diR (d : Di) (j : Nat) : DC := match j with
  | 0 => .sl 2 d.attrs.length (atC d.attrs).cell
  | 1 => .c (.bool d.opq)
  | 2 => .sl 1 d.red.length (paC d.red).cell
  | _ => .sl 12 d.ents.length (enC d.ents).cell
abbrev diC (l : List Di) : Ct := listC diR di0 l
def bnD (d : Di) : Bn := ⟨{ n0 with attrs := d.attrs }, false, d.red⟩
def bnE (x : En) : Bn := ⟨{ n0 with name := x.name, attrs := x.node.attrs, data := x.node.data }, false, []⟩
/-- An entry, and a directory, that are looked at. -/
def smE (x : En) : Prop := smB (bnE x) ∧ x.node.name.size ≤ 1000
def smD (d : Di) : Prop := smB (bnD d) ∧ d.ents.length ≤ 300 ∧ ∀ k, k < d.ents.length → smE (d.ents.getD k e0)
theorem smB_ok {x : Bn} (h : smB x) : okB x := by
  obtain ⟨⟨h2, h3, h4, h5⟩, h6, h7⟩ := h
  refine ⟨⟨by omega, ?_, by omega⟩, by omega, fun s hs => ?_⟩
  · have := sizeI_small h6
    omega
  · obtain ⟨j, hj, rfl⟩ := List.getElem_of_mem hs
    have h8 := h7 j hj
    rw [List.getD_eq_getElem?_getD, List.getElem?_eq_getElem hj] at h8
    exact Nat.le_trans h8 (by decide)
theorem smD_ok {d : Di} (h : smD d) : okD d := by
  obtain ⟨h1, h2, h3⟩ := h
  have h4 := smB_ok h1
  refine ⟨⟨h4.1.1, h4.1.2.1⟩, h4.2, by omega, fun x hx => ?_⟩
  obtain ⟨k, hk, rfl⟩ := mem_getD (d := e0) hx
  obtain ⟨g1, g2⟩ := h3 k hk
  have h5 := smB_ok g1
  exact ⟨h5.1.2.2, h5.1.1, h5.1.2.1, by omega⟩
theorem sm_one {x : Bn} (h : smL [x]) : smB x := h.2 0 (Nat.zero_lt_succ 0)
set_option maxRecDepth 20000 in
set_option maxHeartbeats 8000000 in
theorem many_c (l : List Di) (hl0 : l.length ≤ 1000000000) : Con Try.prog 32 [.o (.ro 4 l.length (diC l).cell)] [] 0 0 (fun r : Bool => r = false → l.length ≤ 130 ∧ ∀ j, j < l.length → smD (l.getD j di0)) (fun r => .o (.c (.bool r))) (fun _ => []) := by
  refine con_of Try.func32 rfl (by kernel_rfl) Try.ntmps32 rfl (by first | exact Nat.zero_le _ | decide) (fun _ => ⟨rfl, rfl⟩) fun w S ν => ?_
  (repeat' (first|(with_reducible refine AllP.go ?_;(first|exact trivial|exact fun _ _=>⟨_,rfl⟩|((try simp only [OS]);repeat' (first|omega|exact fun _ _=>⟨_,rfl⟩|refine And.intro ?_ ?_))))|(refine rg ?_ ?_)|(with_reducible first|refine stp ?_|refine tD rfl ?_)|refine ct ?_|refine cf ?_|((first|refine gs ?_ ?_|refine gl ?_ ?_|refine gc ?_ ?_)<;>intro h<;>(try simp only [NS] at h)<;>(try exact xf)<;>(try refine rn ?_ ?_))))
  refine TE.loopG (fun s : Nat × Nat => s.1 ≤ l.length ∧ s.1 ≤ 150 ∧ s.2 ≤ 400 * s.1 ∧ ∀ j, j < s.1 → smB (bnD (l.getD j di0)) ∧ ((l.getD j di0).ents.length ≤ s.2 ∨ 400 ≤ s.2) ∧ ∀ k, k < (l.getD j di0).ents.length → k < 400 → smE ((l.getD j di0).ents.getD k e0)) (fun s => [(4, .o (.c (.int .i64 s.1))), (3, .o (.c (.int .i64 s.2)))]) [] (fun _ => []) (fun s => l.length - s.1) (0, 0) (by rfl) ⟨Nat.zero_le _, Nat.zero_le _, Nat.zero_le _, fun j hj => absurd hj (Nat.not_lt_zero _)⟩ ?_ ?_
  · (refine Ent.of rfl rfl (by rfl) ?_;(try (first|exact trivial|((with_reducible refine AllP.go ?_);dsimp only [AllP, appP];repeat' (first|with_reducible rfl|with_reducible exact LeD.refl|refine And.intro ?_ ?_|exact vi|rfl|exact vb|exact LeD.refl)))))
  rintro ⟨q, n⟩ ⟨h1, h2, h3, h4⟩
  dsimp only at h1 h2 h3 h4
  by_cases hlt : q < l.length ∧ q < 150
  · obtain ⟨hlt, h150⟩ := hlt
    have hBR : ∀ (d : Di), RowsOk bnR 10 [[.c (.int .i64 0), .c (.string ⟨#[]⟩), .c (.int .i64 0), .sl 2 d.attrs.length (atC d.attrs).cell, .c (.string ⟨#[]⟩), .c (.int .i64 0), .c (.int .i64 0), .c (.int .i64 0), .c (.bool false), .sl 1 d.red.length (paC d.red).cell]] [bnD d] := fun d => ⟨bn_row (LeX.of_eq rfl) (LeX.of_eq rfl) (LeX.of_eq rfl) (LeX.of_eq rfl) (LeX.of_eq rfl) (LeX.of_eq rfl) (LeX.of_eq rfl) (LeX.of_eq rfl) (LeX.of_eq rfl) (LeX.of_eq rfl), trivial⟩
    have hBE : ∀ (x : En), RowsOk bnR 10 [[.c (.int .i64 0), .c (.string x.name), .c (.int .i64 0), .sl 2 x.node.attrs.length (atC x.node.attrs).cell, .c (.string x.node.data), .c (.int .i64 0), .c (.int .i64 0), .c (.int .i64 0), .c (.bool false), .c (.slice none 0 0)]] [bnE x] := fun x => ⟨bn_row (LeX.of_eq rfl) (LeX.of_eq rfl) (LeX.of_eq rfl) (LeX.of_eq rfl) (LeX.of_eq rfl) (LeX.of_eq rfl) (LeX.of_eq rfl) (LeX.of_eq rfl) (LeX.of_eq rfl) (LeX.nil rfl), trivial⟩
    (repeat' (first|(with_reducible refine AllP.go ?_;(first|exact trivial|exact fun _ _=>⟨_,rfl⟩|((try simp only [OS]);repeat' (first|omega|exact fun _ _=>⟨_,rfl⟩|refine And.intro ?_ ?_))))|(refine rg ?_ ?_)|(with_reducible first|refine stp ?_|refine tD rfl ?_)|refine ct ?_|refine cf ?_|((first|refine gs ?_ ?_|refine gl ?_ ?_|refine gc ?_ ?_)<;>intro h<;>(try simp only [NS] at h)<;>(try exact xf)<;>(try refine rn ?_ ?_))))
    (refine TE.drawK (fun _ => false) (by rfl) (by rfl) (by rfl) ?_)
    (repeat' (first|(with_reducible refine AllP.go ?_;(first|exact trivial|exact fun _ _=>⟨_,rfl⟩|((try simp only [OS]);repeat' (first|omega|exact fun _ _=>⟨_,rfl⟩|refine And.intro ?_ ?_))))|(with_reducible first|exact PanicOk.body|exact rd.panic|refine PanicOk.then' ?_|refine PanicOk.block ?_|refine PanicOk.jump ?_)|(refine TL.done (by rfl) ?_)|(refine TL.auto tysOk rfl ?_ (by rfl) ?_ ?_)|((refine TL.one (by rfl) ?_);first|(refine sm ?_ ?_)|(refine sp ?_ ?_))|(refine sm ?_ ?_)|(refine sp ?_ ?_)|(refine TL.two (by rfl) ?_ ?_)|(refine TL.three (by rfl) ?_ ?_ ?_)|(refine TL.four (by rfl) ?_ ?_ ?_ ?_)))
    dsimp only
    (simp only [Int.toNat_natCast])
    (refine TL.freezeN 0 (by rfl) (by rfl) ?_)
    (refine TL.one (by rfl) ?_)
    refine StepL.callW (large_c [bnD (l.getD q di0)]) rfl rfl rfl rfl rfl (by rfl) ?_ (by rfl) (by rfl) ?_
    · refine AllP.go ?_
      exact ⟨rfl, LeD.lit rfl (hBR _)⟩
    intro r hr
    (repeat' (first|(with_reducible refine AllP.go ?_;(first|exact trivial|exact fun _ _=>⟨_,rfl⟩|((try simp only [OS]);repeat' (first|omega|exact fun _ _=>⟨_,rfl⟩|refine And.intro ?_ ?_))))|(with_reducible first|exact PanicOk.body|exact rd.panic|refine PanicOk.then' ?_|refine PanicOk.block ?_|refine PanicOk.jump ?_)|(refine TL.done (by rfl) ?_)|(refine TL.auto tysOk rfl ?_ (by rfl) ?_ ?_)|(refine sm ?_ ?_)|(refine sp ?_ ?_)|(refine TL.one (by rfl) ?_)|(refine TL.two (by rfl) ?_ ?_)|(refine TL.three (by rfl) ?_ ?_ ?_)|(refine TL.four (by rfl) ?_ ?_ ?_ ?_)))
    cases r
    case true =>
      (repeat' (first|(with_reducible refine AllP.go ?_;(first|exact trivial|exact fun _ _=>⟨_,rfl⟩|((try simp only [OS]);repeat' (first|omega|exact fun _ _=>⟨_,rfl⟩|refine And.intro ?_ ?_))))|(refine rg ?_ ?_)|(with_reducible first|refine stp ?_|refine tD rfl ?_)|refine ct ?_|refine cf ?_|((first|refine gs ?_ ?_|refine gl ?_ ?_|refine gc ?_ ?_)<;>intro h<;>(try simp only [NS] at h)<;>(try exact xf)<;>(try refine rn ?_ ?_))))
      (refine TE.ret' io rfl tysOk (true) ?_ rfl (by rfl) ?_;all_goals (try (first|exact trivial|((with_reducible refine AllP.go ?_);dsimp only [AllP, appP];repeat' (first|with_reducible rfl|with_reducible exact LeD.refl|refine And.intro ?_ ?_|exact vi|rfl|exact vb|exact LeD.refl)))))
      intro h
      cases h
    have hb := sm_one (hr rfl)
    (repeat' (first|(with_reducible refine AllP.go ?_;(first|exact trivial|exact fun _ _=>⟨_,rfl⟩|((try simp only [OS]);repeat' (first|omega|exact fun _ _=>⟨_,rfl⟩|refine And.intro ?_ ?_))))|(refine rg ?_ ?_)|(with_reducible first|refine stp ?_|refine tD rfl ?_)|refine ct ?_|refine cf ?_|((first|refine gs ?_ ?_|refine gl ?_ ?_|refine gc ?_ ?_)<;>intro h<;>(try simp only [NS] at h)<;>(try exact xf)<;>(try refine rn ?_ ?_))))
    (refine TE.only [5, 4, 3, 2, 0] (by rfl) ?_)
    refine TE.loopG (fun k : Nat => k ≤ (l.getD q di0).ents.length ∧ k ≤ 400 ∧ ∀ j, j < k → smE ((l.getD q di0).ents.getD j e0)) (fun k => [(5, .o (.c (.int .i64 k))), (3, .o (.c (.int .i64 (n + k : Nat))))]) [] (fun _ => []) (fun k => (l.getD q di0).ents.length - k) 0 (by rfl) ⟨Nat.zero_le _, Nat.zero_le _, fun j hj => absurd hj (Nat.not_lt_zero _)⟩ ?_ ?_
    · (refine Ent.of rfl rfl (by rfl) ?_;(try (first|exact trivial|((with_reducible refine AllP.go ?_);dsimp only [AllP, appP];repeat' (first|with_reducible rfl|with_reducible exact LeD.refl|refine And.intro ?_ ?_|exact vi|rfl|exact vb|exact LeD.refl)))))
    rintro k ⟨k1, k2, k3⟩
    by_cases hk : k < (l.getD q di0).ents.length ∧ k < 400
    · obtain ⟨hk, hk4⟩ := hk
      (repeat' (first|(with_reducible refine AllP.go ?_;(first|exact trivial|exact fun _ _=>⟨_,rfl⟩|((try simp only [OS]);repeat' (first|omega|exact fun _ _=>⟨_,rfl⟩|refine And.intro ?_ ?_))))|(refine rg ?_ ?_)|(with_reducible first|refine stp ?_|refine tD rfl ?_)|refine ct ?_|refine cf ?_|((first|refine gs ?_ ?_|refine gl ?_ ?_|refine gc ?_ ?_)<;>intro h<;>(try simp only [NS] at h)<;>(try exact xf)<;>(try refine rn ?_ ?_))))
      (refine TE.freezeN 2 (by rfl) (by rfl) ?_)
      (simp only [Int.toNat_natCast])
      refine TE.callW (large_c [bnE ((l.getD q di0).ents.getD k e0)]) rfl (by rfl) (by rfl) rfl (by rfl) ?_ ?_
      · refine AllP.go ?_
        exact ⟨rfl, LeD.lit rfl (hBE _)⟩
      intro r hr
      cases r
      case true =>
        ((refine rn ?_ ?_);(repeat' (first|(with_reducible refine AllP.go ?_;(first|exact trivial|exact fun _ _=>⟨_,rfl⟩|((try simp only [OS]);repeat' (first|omega|exact fun _ _=>⟨_,rfl⟩|refine And.intro ?_ ?_))))|(refine rg ?_ ?_)|(with_reducible first|refine stp ?_|refine tD rfl ?_)|refine ct ?_|refine cf ?_|((first|refine gs ?_ ?_|refine gl ?_ ?_|refine gc ?_ ?_)<;>intro h<;>(try simp only [NS] at h)<;>(try exact xf)<;>(try refine rn ?_ ?_)))))
        (refine TE.ret' io rfl tysOk (true) ?_ rfl (by rfl) ?_;all_goals (try (first|exact trivial|((with_reducible refine AllP.go ?_);dsimp only [AllP, appP];repeat' (first|with_reducible rfl|with_reducible exact LeD.refl|refine And.intro ?_ ?_|exact vi|rfl|exact vb|exact LeD.refl)))))
        intro h
        cases h
      have hb2 := sm_one (hr rfl)
      ((refine rn ?_ ?_);(repeat' (first|(with_reducible refine AllP.go ?_;(first|exact trivial|exact fun _ _=>⟨_,rfl⟩|((try simp only [OS]);repeat' (first|omega|exact fun _ _=>⟨_,rfl⟩|refine And.intro ?_ ?_))))|(refine rg ?_ ?_)|(with_reducible first|refine stp ?_|refine tD rfl ?_)|refine ct ?_|refine cf ?_|((first|refine gs ?_ ?_|refine gl ?_ ?_|refine gc ?_ ?_)<;>intro h<;>(try simp only [NS] at h)<;>(try exact xf)<;>(try refine rn ?_ ?_)))))
      · (refine TE.ret' io rfl tysOk (true) ?_ rfl (by rfl) ?_;all_goals (try (first|exact trivial|((with_reducible refine AllP.go ?_);dsimp only [AllP, appP];repeat' (first|with_reducible rfl|with_reducible exact LeD.refl|refine And.intro ?_ ?_|exact vi|rfl|exact vb|exact LeD.refl)))))
        intro h
        cases h
      · refine TE.again' (k + 1) ⟨by omega, by omega, fun j hj => ?_⟩ (by omega) ?_
        · rcases Nat.lt_or_ge j k with h5 | h5
          · exact k3 j h5
          · obtain rfl : j = k := by omega
            exact ⟨hb2, by omega⟩
        · (refine Ent.of rfl rfl (by rfl) ?_;(try (first|exact trivial|((with_reducible refine AllP.go ?_);dsimp only [AllP, appP];repeat' (first|with_reducible rfl|with_reducible exact LeD.refl|refine And.intro ?_ ?_|exact vi|rfl|exact vb|exact LeD.refl)))))
    · (repeat' (first|(with_reducible refine AllP.go ?_;(first|exact trivial|exact fun _ _=>⟨_,rfl⟩|((try simp only [OS]);repeat' (first|omega|exact fun _ _=>⟨_,rfl⟩|refine And.intro ?_ ?_))))|(refine rg ?_ ?_)|(with_reducible first|refine stp ?_|refine tD rfl ?_)|refine ct ?_|refine cf ?_|((first|refine gs ?_ ?_|refine gl ?_ ?_|refine gc ?_ ?_)<;>intro h<;>(try simp only [NS] at h)<;>(try exact xf)<;>(try refine rn ?_ ?_))))
      all_goals refine TE.again' (q + 1, n + k) ⟨by dsimp only; omega, by dsimp only; omega, by dsimp only; omega, fun j hj => ?_⟩ (by dsimp only; omega) ?_
      all_goals first
        | (rcases Nat.lt_or_ge j q with h5 | h5
           · obtain ⟨g1, g2, g3⟩ := h4 j h5
             exact ⟨g1, by dsimp only; omega, g3⟩
           · obtain rfl : j = q := by have : j < q + 1 := hj; omega
             exact ⟨hb, by dsimp only; omega, fun i a b => k3 i (by omega)⟩)
        | (refine Ent.of rfl rfl (by rfl) ?_;(try (first|exact trivial|((with_reducible refine AllP.go ?_);dsimp only [AllP, appP];repeat' (first|with_reducible rfl|with_reducible exact LeD.refl|refine And.intro ?_ ?_|exact vi|rfl|exact vb|exact LeD.refl)))))
  · (repeat' (first|(with_reducible refine AllP.go ?_;(first|exact trivial|exact fun _ _=>⟨_,rfl⟩|((try simp only [OS]);repeat' (first|omega|exact fun _ _=>⟨_,rfl⟩|refine And.intro ?_ ?_))))|(refine rg ?_ ?_)|(with_reducible first|refine stp ?_|refine tD rfl ?_)|refine ct ?_|refine cf ?_|((first|refine gs ?_ ?_|refine gl ?_ ?_|refine gc ?_ ?_)<;>intro h<;>(try simp only [NS] at h)<;>(try exact xf)<;>(try refine rn ?_ ?_))))
    · (refine TE.ret' io rfl tysOk (true) ?_ rfl (by rfl) ?_;all_goals (try (first|exact trivial|((with_reducible refine AllP.go ?_);dsimp only [AllP, appP];repeat' (first|with_reducible rfl|with_reducible exact LeD.refl|refine And.intro ?_ ?_|exact vi|rfl|exact vb|exact LeD.refl)))))
      intro h
      cases h
    · (refine TE.ret' io rfl tysOk (true) ?_ rfl (by rfl) ?_;all_goals (try (first|exact trivial|((with_reducible refine AllP.go ?_);dsimp only [AllP, appP];repeat' (first|with_reducible rfl|with_reducible exact LeD.refl|refine And.intro ?_ ?_|exact vi|rfl|exact vb|exact LeD.refl)))))
      intro h
      cases h
    · (refine TE.ret' io rfl tysOk (decide (300 < (n : Int))) ?_ rfl (by rfl) ?_;all_goals (try (first|exact trivial|((with_reducible refine AllP.go ?_);dsimp only [AllP, appP];repeat' (first|with_reducible rfl|with_reducible exact LeD.refl|refine And.intro ?_ ?_|exact vi|rfl|exact vb|exact LeD.refl)))))
      intro h
      have h6 := of_decide_eq_false h
      obtain rfl : q = l.length := by omega
      refine ⟨by omega, fun j hj => ?_⟩
      obtain ⟨g1, g2, g3⟩ := h4 j hj
      exact ⟨g1, by omega, fun k hk => g3 k hk (by omega)⟩
end Go.Proofs.Ythhpofehcnjmmaa.Am
/- Branches: the law of one directory. -/
set_option linter.unusedSimpArgs false
set_option linter.unusedVariables false
namespace Go.Proofs.Ythhpofehcnjmmaa.Am
open Go.RowKit Lw
open Br
theorem dirE_ok {l : List Bn} (hB : Bok l) {n : Nat} (hn : n < l.length) (hk : (l.getD n b0).nd.kind = 1) : dirE l n = (dirI l n, 0) := by
  unfold dirE
  rw [kidsE_dir hB hn hk, if_neg (fun k => k rfl), Int.toNat_natCast]
theorem dirI_okD {l : List Bn} (hB : Bok l) (hx : ∀ x ∈ l, okB x) {n : Nat} (hn : n < l.length) : okD (dirI l n) := by
  have h1 := hx _ (getD_mem (d := b0) hn)
  have h2 := kids_24 hB (n := n)
  have hlen : (dirI l n).ents.length = (kidsL l n).length := List.length_map ..
  refine ⟨⟨h1.1.1, h1.1.2.1⟩, h1.2, by omega, fun x hxm => ?_⟩
  obtain ⟨j, hj, rfl⟩ := List.mem_map.1 hxm
  have hjl := (kid_iff.1 hj).1
  have h3 := hx _ (getD_mem (d := b0) hjl)
  refine ⟨h3.1.2.2, ?_⟩
  show okN (entN (l.getD j b0).nd)
  unfold entN
  split
  · exact ⟨by decide, by decide, by decide⟩
  · exact ⟨h3.1.1, h3.1.2.1, show eS.size ≤ 1000000000 by decide⟩
theorem di_row (d : Di) : ∀ j, j < 4 → LeX (nthD [.sl 2 d.attrs.length (atC d.attrs).cell, .c (.bool d.opq), .sl 1 d.red.length (paC d.red).cell, .sl 12 d.ents.length (enC d.ents).cell] j) (diR d j)
  | 0, _ => LeX.of_eq rfl
  | 1, _ => LeX.of_eq rfl
  | 2, _ => LeX.of_eq rfl
  | 3, _ => LeX.of_eq rfl
  | j + 4, h => absurd h (by omega)
theorem dir_mem {l : List Bn} {i : Nat} (h : i < (dirsL l).length) : (dirsL l).getD i 0 < l.length ∧ (l.getD ((dirsL l).getD i 0) b0).nd.kind = 1 := by
  have := idxs_mem.1 (getD_mem (l := dirsL l) (d := 0) h)
  rw [decide_eq_true_eq] at this
  exact this
set_option maxRecDepth 20000 in
set_option maxHeartbeats 8000000 in
theorem OneDir_c (d : Di) (l : List Bn) : Con Try.prog 8 [.g (diA d), .o (.ro 10 l.length (bnC l).cell)] [] 0 0 U (fun _ => .o (.c (.bool true))) G0 := by
  refine con_of Try.func8 rfl (by kernel_rfl) Try.ntmps8 rfl (by first | exact Nat.zero_le _ | decide) (fun _ => ⟨rfl, rfl⟩) fun w S ν => ?_
  (repeat' (first|(with_reducible refine AllP.go ?_;(first|exact trivial|exact fun _ _=>⟨_,rfl⟩|((try simp only [OS]);repeat' (first|omega|exact fun _ _=>⟨_,rfl⟩|refine And.intro ?_ ?_))))|(refine rg ?_ ?_)|(with_reducible first|refine stp ?_|refine tD rfl ?_)|refine ct ?_|refine cf ?_|((first|refine gs ?_ ?_|refine gl ?_ ?_|refine gc ?_ ?_)<;>intro h<;>(try simp only [NS] at h)<;>(try exact xf)<;>(try refine rn ?_ ?_))))
  (refine TE.freezeN 1 (by rfl) (by rfl) ?_)
  refine TE.callW (many_c [d] (show 1 ≤ 1000000000 by decide)) rfl (by rfl) (by rfl) rfl (by rfl) ?_ ?_
  · refine AllP.go ?_
    exact ⟨rfl, LeD.lit rfl ⟨di_row d, trivial⟩⟩
  intro r hr
  cases r
  case true =>
    ((refine rn ?_ ?_);(repeat' (first|(with_reducible refine AllP.go ?_;(first|exact trivial|exact fun _ _=>⟨_,rfl⟩|((try simp only [OS]);repeat' (first|omega|exact fun _ _=>⟨_,rfl⟩|refine And.intro ?_ ?_))))|(refine rg ?_ ?_)|(with_reducible first|refine stp ?_|refine tD rfl ?_)|refine ct ?_|refine cf ?_|((first|refine gs ?_ ?_|refine gl ?_ ?_|refine gc ?_ ?_)<;>intro h<;>(try simp only [NS] at h)<;>(try exact xf)<;>(try refine rn ?_ ?_)))))
    refine TE.callW (shown_c) rfl (by rfl) (by rfl) rfl (by rfl) (by (first|exact trivial|((with_reducible refine AllP.go ?_);dsimp only [AllP, appP];repeat' (first|with_reducible rfl|with_reducible exact LeD.refl|refine And.intro ?_ ?_|exact vi|rfl|exact vb|assumption|exact LeD.refl)))) ?_
    intro _ _
    ((refine rn ?_ ?_);(repeat' (first|(with_reducible refine AllP.go ?_;(first|exact trivial|exact fun _ _=>⟨_,rfl⟩|((try simp only [OS]);repeat' (first|omega|exact fun _ _=>⟨_,rfl⟩|refine And.intro ?_ ?_))))|(refine rg ?_ ?_)|(with_reducible first|refine stp ?_|refine tD rfl ?_)|refine ct ?_|refine cf ?_|((first|refine gs ?_ ?_|refine gl ?_ ?_|refine gc ?_ ?_)<;>intro h<;>(try simp only [NS] at h)<;>(try exact xf)<;>(try refine rn ?_ ?_)))))
    (refine TE.ret' io rfl tysOk (()) ?_ rfl (by rfl) ?_;all_goals (try (first|exact trivial|((with_reducible refine AllP.go ?_);dsimp only [AllP, appP];repeat' (first|with_reducible rfl|with_reducible exact LeD.refl|refine And.intro ?_ ?_|exact vi|rfl|exact vb|exact LeD.refl)))))
  have hd := smD_ok ((hr rfl).2 0 Nat.zero_lt_one)
  rw [show ([d] : List Di).getD 0 di0 = d from rfl] at hd
  ((refine rn ?_ ?_);(repeat' (first|(with_reducible refine AllP.go ?_;(first|exact trivial|exact fun _ _=>⟨_,rfl⟩|((try simp only [OS]);repeat' (first|omega|exact fun _ _=>⟨_,rfl⟩|refine And.intro ?_ ?_))))|(refine rg ?_ ?_)|(with_reducible first|refine stp ?_|refine tD rfl ?_)|refine ct ?_|refine cf ?_|((first|refine gs ?_ ?_|refine gl ?_ ?_|refine gc ?_ ?_)<;>intro h<;>(try simp only [NS] at h)<;>(try exact xf)<;>(try refine rn ?_ ?_)))))
  refine TE.callW (large_c l) rfl (by rfl) (by rfl) rfl (by rfl) (by (first|exact trivial|((with_reducible refine AllP.go ?_);dsimp only [AllP, appP];repeat' (first|with_reducible rfl|with_reducible exact LeD.refl|refine And.intro ?_ ?_|exact vi|rfl|exact vb|assumption|exact LeD.refl)))) ?_
  intro r hr2
  cases r
  case true =>
    ((refine rn ?_ ?_);(repeat' (first|(with_reducible refine AllP.go ?_;(first|exact trivial|exact fun _ _=>⟨_,rfl⟩|((try simp only [OS]);repeat' (first|omega|exact fun _ _=>⟨_,rfl⟩|refine And.intro ?_ ?_))))|(refine rg ?_ ?_)|(with_reducible first|refine stp ?_|refine tD rfl ?_)|refine ct ?_|refine cf ?_|((first|refine gs ?_ ?_|refine gl ?_ ?_|refine gc ?_ ?_)<;>intro h<;>(try simp only [NS] at h)<;>(try exact xf)<;>(try refine rn ?_ ?_)))))
    refine TE.callW (shown_c) rfl (by rfl) (by rfl) rfl (by rfl) (by (first|exact trivial|((with_reducible refine AllP.go ?_);dsimp only [AllP, appP];repeat' (first|with_reducible rfl|with_reducible exact LeD.refl|refine And.intro ?_ ?_|exact vi|rfl|exact vb|assumption|exact LeD.refl)))) ?_
    intro _ _
    ((refine rn ?_ ?_);(repeat' (first|(with_reducible refine AllP.go ?_;(first|exact trivial|exact fun _ _=>⟨_,rfl⟩|((try simp only [OS]);repeat' (first|omega|exact fun _ _=>⟨_,rfl⟩|refine And.intro ?_ ?_))))|(refine rg ?_ ?_)|(with_reducible first|refine stp ?_|refine tD rfl ?_)|refine ct ?_|refine cf ?_|((first|refine gs ?_ ?_|refine gl ?_ ?_|refine gc ?_ ?_)<;>intro h<;>(try simp only [NS] at h)<;>(try exact xf)<;>(try refine rn ?_ ?_)))))
    (refine TE.ret' io rfl tysOk (()) ?_ rfl (by rfl) ?_;all_goals (try (first|exact trivial|((with_reducible refine AllP.go ?_);dsimp only [AllP, appP];repeat' (first|with_reducible rfl|with_reducible exact LeD.refl|refine And.intro ?_ ?_|exact vi|rfl|exact vb|exact LeD.refl)))))
  obtain ⟨hl, hx⟩ := sm_ok (hr2 rfl)
  have hti : (nds l).length = l.length := List.length_map ..
  have c1 := CheckDir_c d hd
  have c2 := rCheckDir_c d hd
  have c3 := rdirs_c l hl hx
  ((refine rn ?_ ?_);(repeat' (first|(with_reducible refine AllP.go ?_;(first|exact trivial|exact fun _ _=>⟨_,rfl⟩|((try simp only [OS]);repeat' (first|omega|exact fun _ _=>⟨_,rfl⟩|refine And.intro ?_ ?_))))|(refine rg ?_ ?_)|(with_reducible first|refine stp ?_|refine tD rfl ?_)|refine ct ?_|refine cf ?_|((first|refine gs ?_ ?_|refine gl ?_ ?_|refine gc ?_ ?_)<;>intro h<;>(try simp only [NS] at h)<;>(try exact xf)<;>(try refine rn ?_ ?_)))))
  refine TE.callW (c1) rfl (by rfl) (by rfl) rfl (by rfl) (by (first|exact trivial|((with_reducible refine AllP.go ?_);dsimp only [AllP, appP];repeat' (first|with_reducible rfl|with_reducible exact LeD.refl|refine And.intro ?_ ?_|exact vi|rfl|exact vb|assumption|exact LeD.refl)))) ?_
  intro _ _
  ((refine rn ?_ ?_);(repeat' (first|(with_reducible refine AllP.go ?_;(first|exact trivial|exact fun _ _=>⟨_,rfl⟩|((try simp only [OS]);repeat' (first|omega|exact fun _ _=>⟨_,rfl⟩|refine And.intro ?_ ?_))))|(refine rg ?_ ?_)|(with_reducible first|refine stp ?_|refine tD rfl ?_)|refine ct ?_|refine cf ?_|((first|refine gs ?_ ?_|refine gl ?_ ?_|refine gc ?_ ?_)<;>intro h<;>(try simp only [NS] at h)<;>(try exact xf)<;>(try refine rn ?_ ?_)))))
  refine TE.callW (c2) rfl (by rfl) (by rfl) rfl (by rfl) (by (first|exact trivial|((with_reducible refine AllP.go ?_);dsimp only [AllP, appP];repeat' (first|with_reducible rfl|with_reducible exact LeD.refl|refine And.intro ?_ ?_|exact vi|rfl|exact vb|assumption|exact LeD.refl)))) ?_
  intro _ _
  ((refine rn ?_ ?_);(repeat' (first|(with_reducible refine AllP.go ?_;(first|exact trivial|exact fun _ _=>⟨_,rfl⟩|((try simp only [OS]);repeat' (first|omega|exact fun _ _=>⟨_,rfl⟩|refine And.intro ?_ ?_))))|(refine rg ?_ ?_)|(with_reducible first|refine stp ?_|refine tD rfl ?_)|refine ct ?_|refine cf ?_|((first|refine gs ?_ ?_|refine gl ?_ ?_|refine gc ?_ ?_)<;>intro h<;>(try simp only [NS] at h)<;>(try exact xf)<;>(try refine rn ?_ ?_)))))
  refine TE.callW (c3) rfl (by rfl) (by rfl) rfl (by rfl) (by (first|exact trivial|((with_reducible refine AllP.go ?_);dsimp only [AllP, appP];repeat' (first|with_reducible rfl|with_reducible exact LeD.refl|refine And.intro ?_ ?_|exact vi|rfl|exact vb|assumption|exact LeD.refl)))) ?_
  intro _ _
  by_cases hB : (checkB l).2 ≠ 0
  · rw [show dirsE l = ([], (checkB l).2) from if_pos hB]
    ((refine rn ?_ ?_);(repeat' (first|(with_reducible refine AllP.go ?_;(first|exact trivial|exact fun _ _=>⟨_,rfl⟩|((try simp only [OS]);repeat' (first|omega|exact fun _ _=>⟨_,rfl⟩|refine And.intro ?_ ?_))))|(refine rg ?_ ?_)|(with_reducible first|refine stp ?_|refine tD rfl ?_)|refine ct ?_|refine cf ?_|((first|refine gs ?_ ?_|refine gl ?_ ?_|refine gc ?_ ?_)<;>intro h<;>(try simp only [NS] at h)<;>(try exact xf)<;>(try refine rn ?_ ?_)))))
    refine TE.callW (shown_c) rfl (by rfl) (by rfl) rfl (by rfl) (by (first|exact trivial|((with_reducible refine AllP.go ?_);dsimp only [AllP, appP];repeat' (first|with_reducible rfl|with_reducible exact LeD.refl|refine And.intro ?_ ?_|exact vi|rfl|exact vb|assumption|exact LeD.refl)))) ?_
    intro _ _
    ((refine rn ?_ ?_);(repeat' (first|(with_reducible refine AllP.go ?_;(first|exact trivial|exact fun _ _=>⟨_,rfl⟩|((try simp only [OS]);repeat' (first|omega|exact fun _ _=>⟨_,rfl⟩|refine And.intro ?_ ?_))))|(refine rg ?_ ?_)|(with_reducible first|refine stp ?_|refine tD rfl ?_)|refine ct ?_|refine cf ?_|((first|refine gs ?_ ?_|refine gl ?_ ?_|refine gc ?_ ?_)<;>intro h<;>(try simp only [NS] at h)<;>(try exact xf)<;>(try refine rn ?_ ?_)))))
    (refine TE.ret' io rfl tysOk (()) ?_ rfl (by rfl) ?_;all_goals (try (first|exact trivial|((with_reducible refine AllP.go ?_);dsimp only [AllP, appP];repeat' (first|with_reducible rfl|with_reducible exact LeD.refl|refine And.intro ?_ ?_|exact vi|rfl|exact vb|exact LeD.refl)))))
  rw [show dirsE l = (dirsL l, 0) from if_neg hB]
  have hB : Bok l := Decidable.not_not.1 hB
  have hdl : (dirsL l).length ≤ l.length := idxs_len _ _
  ((refine rn ?_ ?_);(repeat' (first|(with_reducible refine AllP.go ?_;(first|exact trivial|exact fun _ _=>⟨_,rfl⟩|((try simp only [OS]);repeat' (first|omega|exact fun _ _=>⟨_,rfl⟩|refine And.intro ?_ ?_))))|(refine rg ?_ ?_)|(with_reducible first|refine stp ?_|refine tD rfl ?_)|refine ct ?_|refine cf ?_|((first|refine gs ?_ ?_|refine gl ?_ ?_|refine gc ?_ ?_)<;>intro h<;>(try simp only [NS] at h)<;>(try exact xf)<;>(try refine rn ?_ ?_)))))
  (refine TE.only [10, 9, 1] (by rfl) ?_)
  refine TE.loopG (fun q : Nat => q ≤ (dirsL l).length) (fun q => [(10, .o (.c (.int .i64 q)))]) [] (fun _ => []) (fun q => (dirsL l).length - q) 0 (by rfl) (Nat.zero_le _) ?_ ?_
  · (refine Ent.of rfl rfl (by rfl) ?_;(try (first|exact trivial|((with_reducible refine AllP.go ?_);dsimp only [AllP, appP];repeat' (first|with_reducible rfl|with_reducible exact LeD.refl|refine And.intro ?_ ?_|exact vi|rfl|exact vb|exact LeD.refl)))))
  intro q hq
  by_cases hlt : q < (dirsL l).length
  · obtain ⟨m1, m2⟩ := dir_mem hlt
    have d1 := Dir_c l ((dirsL l).getD q 0 : Nat) hl hx
    rw [dirE_ok hB m1 m2] at d1
    have d2 := CheckDir_c (dirI l ((dirsL l).getD q 0)) (dirI_okD hB hx m1)
    rw [dir_ok hB m1 m2] at d2
    (repeat' (first|(with_reducible refine AllP.go ?_;(first|exact trivial|exact fun _ _=>⟨_,rfl⟩|((try simp only [OS]);repeat' (first|omega|exact fun _ _=>⟨_,rfl⟩|refine And.intro ?_ ?_))))|(refine rg ?_ ?_)|(with_reducible first|refine stp ?_|refine tD rfl ?_)|refine ct ?_|refine cf ?_|((first|refine gs ?_ ?_|refine gl ?_ ?_|refine gc ?_ ?_)<;>intro h<;>(try simp only [NS] at h)<;>(try exact xf)<;>(try refine rn ?_ ?_))))
    refine TE.callW (d1) rfl (by rfl) (by rfl) rfl (by rfl) (by (first|exact trivial|((with_reducible refine AllP.go ?_);dsimp only [AllP, appP];repeat' (first|with_reducible rfl|with_reducible exact LeD.refl|refine And.intro ?_ ?_|exact vi|rfl|exact vb|assumption|exact LeD.refl)))) ?_
    intro _ _
    ((refine rn ?_ ?_);(repeat' (first|(with_reducible refine AllP.go ?_;(first|exact trivial|exact fun _ _=>⟨_,rfl⟩|((try simp only [OS]);repeat' (first|omega|exact fun _ _=>⟨_,rfl⟩|refine And.intro ?_ ?_))))|(refine rg ?_ ?_)|(with_reducible first|refine stp ?_|refine tD rfl ?_)|refine ct ?_|refine cf ?_|((first|refine gs ?_ ?_|refine gl ?_ ?_|refine gc ?_ ?_)<;>intro h<;>(try simp only [NS] at h)<;>(try exact xf)<;>(try refine rn ?_ ?_)))))
    refine TE.callW (d2) rfl (by rfl) (by rfl) rfl (by rfl) (by (first|exact trivial|((with_reducible refine AllP.go ?_);dsimp only [AllP, appP];repeat' (first|with_reducible rfl|with_reducible exact LeD.refl|refine And.intro ?_ ?_|exact vi|rfl|exact vb|assumption|exact LeD.refl)))) ?_
    intro _ _
    ((refine rn ?_ ?_);(repeat' (first|(with_reducible refine AllP.go ?_;(first|exact trivial|exact fun _ _=>⟨_,rfl⟩|((try simp only [OS]);repeat' (first|omega|exact fun _ _=>⟨_,rfl⟩|refine And.intro ?_ ?_))))|(refine rg ?_ ?_)|(with_reducible first|refine stp ?_|refine tD rfl ?_)|refine ct ?_|refine cf ?_|((first|refine gs ?_ ?_|refine gl ?_ ?_|refine gc ?_ ?_)<;>intro h<;>(try simp only [NS] at h)<;>(try exact xf)<;>(try refine rn ?_ ?_)))))
    refine TE.again' (q + 1) (by omega) (by omega) ?_
    (refine Ent.of rfl rfl (by rfl) ?_;(try (first|exact trivial|((with_reducible refine AllP.go ?_);dsimp only [AllP, appP];repeat' (first|with_reducible rfl|with_reducible exact LeD.refl|refine And.intro ?_ ?_|exact vi|rfl|exact vb|exact LeD.refl)))))
  obtain rfl : q = (dirsL l).length := by omega
  (repeat' (first|(with_reducible refine AllP.go ?_;(first|exact trivial|exact fun _ _=>⟨_,rfl⟩|((try simp only [OS]);repeat' (first|omega|exact fun _ _=>⟨_,rfl⟩|refine And.intro ?_ ?_))))|(refine rg ?_ ?_)|(with_reducible first|refine stp ?_|refine tD rfl ?_)|refine ct ?_|refine cf ?_|((first|refine gs ?_ ?_|refine gl ?_ ?_|refine gc ?_ ?_)<;>intro h<;>(try simp only [NS] at h)<;>(try exact xf)<;>(try refine rn ?_ ?_))))
  refine TE.callW (shown_c) rfl (by rfl) (by rfl) rfl (by rfl) (by (first|exact trivial|((with_reducible refine AllP.go ?_);dsimp only [AllP, appP];repeat' (first|with_reducible rfl|with_reducible exact LeD.refl|refine And.intro ?_ ?_|exact vi|rfl|exact vb|assumption|exact LeD.refl)))) ?_
  intro _ _
  ((refine rn ?_ ?_);(repeat' (first|(with_reducible refine AllP.go ?_;(first|exact trivial|exact fun _ _=>⟨_,rfl⟩|((try simp only [OS]);repeat' (first|omega|exact fun _ _=>⟨_,rfl⟩|refine And.intro ?_ ?_))))|(refine rg ?_ ?_)|(with_reducible first|refine stp ?_|refine tD rfl ?_)|refine ct ?_|refine cf ?_|((first|refine gs ?_ ?_|refine gl ?_ ?_|refine gc ?_ ?_)<;>intro h<;>(try simp only [NS] at h)<;>(try exact xf)<;>(try refine rn ?_ ?_)))))
  (refine TE.ret' io rfl tysOk (()) ?_ rfl (by rfl) ?_;all_goals (try (first|exact trivial|((with_reducible refine AllP.go ?_);dsimp only [AllP, appP];repeat' (first|with_reducible rfl|with_reducible exact LeD.refl|refine And.intro ?_ ?_|exact vi|rfl|exact vb|exact LeD.refl)))))
end Go.Proofs.Ythhpofehcnjmmaa.Am
/- The branches' arguments, opened. -/
set_option linter.unusedSimpArgs false
set_option linter.unusedVariables false
namespace Go.Proofs.Ythhpofehcnjmmaa.Am
open Go.RowKit Lw At Br
theorem not_st {P : Program} {t : TypeId} {d : TypeDesc} (h : P.underlying t = some d) (hd : ∀ fs, d ≠ .struct fs) : ∀ fs, P.underlying t ≠ some (.struct fs) := fun fs e => hd fs (Option.some.inj (h.symm.trans e))
theorem not_ar {P : Program} {t : TypeId} {d : TypeDesc} (h : P.underlying t = some d) (hd : ∀ n e, d ≠ .array n e) : ∀ n e, P.underlying t ≠ some (.array n e) := fun n e' e => hd n e' (Option.some.inj (h.symm.trans e))
theorem do_strs : DOpen Try.prog 36 1 (slR 1 strR eS) (listG strG) := DOpen.slice (e := 9) (DOpen.str (by kernel_rfl) (by kernel_rfl)) eS (by kernel_rfl) (by kernel_rfl)
def atGood (x : At.At) : Prop := x.1.size ≤ maxLen ∧ x.2.size ≤ maxLen
theorem do_at : DOpen Try.prog 67 2 atR atGood := by
  have h0 := DOpen.struct (P := Try.prog) (t := 67) (by kernel_rfl) (by decide) Try.underlying67 (DFields.cons rfl (DOpen.str (by kernel_rfl) (by kernel_rfl)) (DFields.cons rfl (DOpen.str (by kernel_rfl) (by kernel_rfl)) DFields.nil))
  refine h0.map (fun x => ((x.1, x.2.1) : At.At)) (fun x j hj => ?_) fun x g => (show atGood _ from ⟨g.1, g.2.1⟩)
  match j, hj with
  | 0, _ => rfl
  | 1, _ => rfl
theorem do_ats : DOpen Try.prog 48 1 (slR 2 atR d0) (listG atGood) := DOpen.slice (e := 67) do_at _ (by kernel_rfl) (by kernel_rfl)
def bnGood (x : Bn) : Prop := intG x.nd.depth ∧ strG x.nd.name ∧ intG x.nd.kind ∧ listG atGood x.nd.attrs ∧ strG x.nd.data ∧ intG x.nd.major ∧ intG x.nd.minor ∧ intG x.nd.cls ∧ listG strG x.red
theorem do_bn : DOpen Try.prog 50 10 bnR bnGood := by
  have h0 := DOpen.struct (P := Try.prog) (t := 50) (by kernel_rfl) (by decide) Try.underlying50 (DFields.cons rfl (DOpen.i64 (by kernel_rfl) (by kernel_rfl)) (DFields.cons rfl (DOpen.str (by kernel_rfl) (by kernel_rfl)) (DFields.cons rfl (DOpen.i64 (by kernel_rfl) (by kernel_rfl)) (DFields.cons rfl do_ats (DFields.cons rfl (DOpen.str (by kernel_rfl) (by kernel_rfl)) (DFields.cons rfl (DOpen.i64 (by kernel_rfl) (by kernel_rfl)) (DFields.cons rfl (DOpen.i64 (by kernel_rfl) (by kernel_rfl)) (DFields.cons rfl (DOpen.i64 (by kernel_rfl) (by kernel_rfl)) (DFields.cons rfl (DOpen.bool (by kernel_rfl) (by kernel_rfl)) (DFields.cons rfl do_strs DFields.nil))))))))))
  refine h0.map (fun x => (⟨⟨x.1, x.2.1, x.2.2.1, x.2.2.2.1, x.2.2.2.2.1, x.2.2.2.2.2.1, x.2.2.2.2.2.2.1, x.2.2.2.2.2.2.2.1⟩, x.2.2.2.2.2.2.2.2.1, x.2.2.2.2.2.2.2.2.2.1⟩ : Bn)) (fun x j hj => ?_) fun x g => (show bnGood _ from ⟨g.1, g.2.1, g.2.2.1, g.2.2.2.1, g.2.2.2.2.1, g.2.2.2.2.2.1, g.2.2.2.2.2.2.1, g.2.2.2.2.2.2.2.1, g.2.2.2.2.2.2.2.2.2.1⟩)
  match j, hj with
  | 0, _ => rfl
  | 1, _ => rfl
  | 2, _ => rfl
  | 3, _ => rfl
  | 4, _ => rfl
  | 5, _ => rfl
  | 6, _ => rfl
  | 7, _ => rfl
  | 8, _ => rfl
  | 9, _ => rfl
theorem do_bns : DOpen Try.prog 22 1 (slR 10 bnR b0) (listG bnGood) := DOpen.slice (e := 50) do_bn _ (by kernel_rfl) (by kernel_rfl)
theorem ao_bns : AOpen Try.prog 22 (fun l : List Bn => .o (.ro 10 l.length (bnC l).cell)) (listG bnGood) :=
  AOpen.one do_bns (not_st (d := .slice 50) (by kernel_rfl) fun _ h => by cases h) (not_ar (d := .slice 50) (by kernel_rfl) fun _ _ h => by cases h)
end Go.Proofs.Ythhpofehcnjmmaa.Am
/- The directories' arguments, opened. -/
set_option linter.unusedSimpArgs false
set_option linter.unusedVariables false
namespace Go.Proofs.Ythhpofehcnjmmaa.Am
open Go.RowKit Lw At Br
def ndGood (x : Nd) : Prop := intG x.depth ∧ strG x.name ∧ intG x.kind ∧ listG atGood x.attrs ∧ strG x.data ∧ intG x.major ∧ intG x.minor ∧ intG x.cls
theorem do_nd : DOpen Try.prog 70 8 ndR ndGood := by
  have h0 := DOpen.struct (P := Try.prog) (t := 70) (by kernel_rfl) (by decide) Try.underlying70 (DFields.cons rfl (DOpen.i64 (by kernel_rfl) (by kernel_rfl)) (DFields.cons rfl (DOpen.str (by kernel_rfl) (by kernel_rfl)) (DFields.cons rfl (DOpen.i64 (by kernel_rfl) (by kernel_rfl)) (DFields.cons rfl do_ats (DFields.cons rfl (DOpen.str (by kernel_rfl) (by kernel_rfl)) (DFields.cons rfl (DOpen.i64 (by kernel_rfl) (by kernel_rfl)) (DFields.cons rfl (DOpen.i64 (by kernel_rfl) (by kernel_rfl)) (DFields.cons rfl (DOpen.i64 (by kernel_rfl) (by kernel_rfl)) DFields.nil))))))))
  refine h0.map (fun x => (⟨x.1, x.2.1, x.2.2.1, x.2.2.2.1, x.2.2.2.2.1, x.2.2.2.2.2.1, x.2.2.2.2.2.2.1, x.2.2.2.2.2.2.2.1⟩ : Nd)) (fun x j hj => ?_) fun x g => (show ndGood _ from ⟨g.1, g.2.1, g.2.2.1, g.2.2.2.1, g.2.2.2.2.1, g.2.2.2.2.2.1, g.2.2.2.2.2.2.1, g.2.2.2.2.2.2.2.1⟩)
  match j, hj with
  | 0, _ => rfl
  | 1, _ => rfl
  | 2, _ => rfl
  | 3, _ => rfl
  | 4, _ => rfl
  | 5, _ => rfl
  | 6, _ => rfl
  | 7, _ => rfl
def enGood (x : En) : Prop := strG x.name ∧ ndGood x.node ∧ intG x.names
theorem do_en : DOpen Try.prog 72 12 enR enGood := by
  have h0 := DOpen.struct (P := Try.prog) (t := 72) (by kernel_rfl) (by decide) Try.underlying72 (DFields.cons rfl (DOpen.str (by kernel_rfl) (by kernel_rfl)) (DFields.cons rfl do_nd (DFields.cons rfl (DOpen.bool (by kernel_rfl) (by kernel_rfl)) (DFields.cons rfl (DOpen.bool (by kernel_rfl) (by kernel_rfl)) (DFields.cons rfl (DOpen.i64 (by kernel_rfl) (by kernel_rfl)) DFields.nil)))))
  refine h0.map (fun x => (⟨x.1, x.2.1, x.2.2.1, x.2.2.2.1, x.2.2.2.2.1⟩ : En)) (fun x j hj => ?_) fun x g => (show enGood _ from ⟨g.1, g.2.1, g.2.2.2.2.1⟩)
  match j, hj with
  | 0, _ => rfl
  | 1, _ => rfl
  | 2, _ => rfl
  | 3, _ => rfl
  | 4, _ => rfl
  | 5, _ => rfl
  | 6, _ => rfl
  | 7, _ => rfl
  | 8, _ => rfl
  | 9, _ => rfl
  | 10, _ => rfl
  | 11, _ => rfl
theorem do_ens : DOpen Try.prog 51 1 (slR 12 enR e0) (listG enGood) := DOpen.slice (e := 72) do_en _ (by kernel_rfl) (by kernel_rfl)
def diGood (d : Di) : Prop := listG atGood d.attrs ∧ listG strG d.red ∧ listG enGood d.ents
theorem do_di : DOpen Try.prog 53 4 diR diGood := by
  have h0 := DOpen.struct (P := Try.prog) (t := 53) (by kernel_rfl) (by decide) Try.underlying53 (DFields.cons rfl do_ats (DFields.cons rfl (DOpen.bool (by kernel_rfl) (by kernel_rfl)) (DFields.cons rfl do_strs (DFields.cons rfl do_ens DFields.nil))))
  refine h0.map (fun x => (⟨x.1, x.2.1, x.2.2.1, x.2.2.2.1⟩ : Di)) (fun x j hj => ?_) fun x g => (show diGood _ from ⟨g.1, g.2.2.1, g.2.2.2.1⟩)
  match j, hj with
  | 0, _ => rfl
  | 1, _ => rfl
  | 2, _ => rfl
  | 3, _ => rfl
theorem ao_di : AOpen Try.prog 53 (fun d : Di => .g (diA d)) diGood :=
  AOpen.agg do_di (.inl ⟨_, Try.underlying53⟩)
end Go.Proofs.Ythhpofehcnjmmaa.Am
