/- Texts of this claim, joined. -/
import Derived.Test.YthhpofehcnjmmaaPk4
import Derived.Shelf.Strings.Builder1
import Derived.Shelf.Strings.Builder2
import Derived.Shelf.Strings.OnBuilder
import Derived.Shelf.Strings.BuilderF
import Derived.Shelf.Strings.BuilderK
import Derived.Shelf.Strings.Builder2Cap
import Derived.Shelf.Strings.BuilderCap
import Derived.Test.YthhpofehcnjmmaaProg
set_option linter.unusedSimpArgs false
set_option linter.unusedVariables false
set_option linter.unusedSimpArgs false
set_option linter.unusedVariables false
namespace Go.Proofs.Ythhpofehcnjmmaa.Am
open Go.RowKit Lw
open Br
def OkTo (l : List Nd) (q : Nat) : Prop := ∀ j, j < q → nodeE (l.take j).reverse (l.getD j n0) = 0
theorem errAt_drop {l : List Nd} : ∀ {q : Nat}, q ≤ l.length → OkTo l q → errAt [] l 0 = errAt (l.take q).reverse (l.drop q) q
  | 0, _, _ => rfl
  | q + 1, hq, h => by
    rw [errAt_drop (q := q) (by omega) fun j hj => h j (by omega), drop_nd (by omega), errAt, if_neg (fun k => k (h q (by omega))), take_rev (by omega)]
theorem errAt_bad {l : List Nd} {q : Nat} (hq : q < l.length) (h : OkTo l q) (he : nodeE (l.take q).reverse (l.getD q n0) ≠ 0) : errAt [] l 0 = some (q, nodeE (l.take q).reverse (l.getD q n0)) := by
  rw [errAt_drop (by omega) h, drop_nd hq, errAt, if_pos he]
theorem errAt_good {l : List Nd} (h : OkTo l l.length) : errAt [] l 0 = none := by
  rw [errAt_drop (Nat.le_refl _) h, List.drop_length, errAt]
theorem okTo_next {l : List Nd} {q : Nat} (h : OkTo l q) (he : nodeE (l.take q).reverse (l.getD q n0) = 0) : OkTo l (q + 1) := fun j hj => by
  by_cases e : j = q
  · subst e; exact he
  · exact h j (by omega)
theorem okTo_depth {l : List Nd} {q : Nat} (hq : q ≤ l.length) (h : OkTo l q) : ∀ j, j < q → 0 ≤ (l.getD j n0).depth ∧ (l.getD j n0).depth ≤ 1000 := fun j hj => by
  have hp := (node_zero (h j hj)).1
  generalize (l.take j).reverse = pre at hp
  cases pre with
  | nil =>
    unfold placeE at hp
    dsimp only at hp
    split at hp
    · exact absurd hp (by decide)
    · omega
  | cons x r =>
    obtain ⟨p1, p2, _⟩ := place_zero hp
    have := (place_more hp).1
    omega
theorem okTo_most {l : List Nd} : ∀ {q : Nat}, q ≤ l.length → OkTo l q → mostC (l.take q).reverse ≤ q
  | 0, _, _ => by simp [mostC]
  | q + 1, hq, h => by
    have ih := okTo_most (q := q) (by omega) fun j hj => h j (by omega)
    have hc := (node_zero (h q (by omega))).2.2.2
    unfold classE at hc
    split at hc
    · exact absurd hc (by decide)
    rename_i k
    rw [take_rev (by omega), mostC]
    omega
theorem okTo_cls {l : List Nd} {q : Nat} (hq : q ≤ l.length) (hl : q ≤ 1000) (h : OkTo l q) : ∀ j, j < q → (l.getD j n0).cls ≤ 1000 := fun j hj => by
  have h1 := okTo_most hq h
  have h2 := most_mem (l := (l.take q).reverse) (x := l.getD j n0) (List.mem_reverse.2 (by
    rw [← getD_take (d := n0) hj]
    exact getD_mem (by rw [List.length_take]; omega)))
  omega
def okR (x : Nd) : Prop := x.attrs.length ≤ 1000000 ∧ At.sizeI x.attrs ≤ 1000000000 ∧ x.name.size ≤ 1000000000
theorem checkT_badR {l : List Nd} {q : Nat} {e : Int} (h1 : l ≠ []) (h2 : l.length ≤ 120) (h : errAt [] l 0 = some (q, e)) : checkT l = ((q : Int), e) := by
  unfold checkT
  rw [if_neg h1, if_neg (by omega), h]
theorem checkT_goodR {l : List Nd} (h1 : l ≠ []) (h2 : l.length ≤ 120) (h : errAt [] l 0 = none) : checkT l = match loneAt l l 0 with
    | some i => ((i : Int), 6)
    | none => (0, 0) := by
  unfold checkT
  rw [if_neg h1, if_neg (by omega), h]
  cases loneAt l l 0 <;> rfl
set_option maxRecDepth 20000 in
set_option maxHeartbeats 4000000 in
theorem rcheck_c (l : List Nd) (hl : l.length ≤ 1000000) (hx : ∀ x ∈ l, okR x) : Con Try.prog 46 [.o (.ro 8 l.length (ndC l).cell)] [] 0 0 U (fun _ => .t [.inl (.c (.int .i64 (checkT l).1)), .inl (.c (.int .i64 (checkT l).2))]) G0 := by
  refine con_of Try.func46 rfl (by kernel_rfl) Try.ntmps46 rfl (by first | exact Nat.zero_le _ | decide) (fun _ => ⟨rfl, rfl⟩) fun w S ν => ?_
  by_cases h1 : l = []
  · have hC : checkT l = (-1, 6) := if_pos h1
    have hl0 : l.length = 0 := by rw [h1]; rfl
    rw [hC]
    (repeat' (first|(with_reducible refine AllP.go ?_;first|exact og|((try simp only [OS]);repeat' (first|exact oj|refine And.intro ?_ ?_)))|(refine rg ?_ ?_)|(with_reducible first|refine stp ?_|refine tD rfl ?_)|refine ct ?_|refine cf ?_|((first|refine gs ?_ ?_|refine gl ?_ ?_|refine gc ?_ ?_)<;>intro h<;>(try simp only [NS] at h)<;>(try exact xf)<;>(try refine rn ?_ ?_))))
    (refine TE.ret' io rfl tysOk (()) ?_ rfl (by rfl) ?_;all_goals (try (first|exact trivial|((with_reducible refine AllP.go ?_);dsimp only [AllP, appP];repeat' (first|refine And.intro ?_ ?_|exact zz)))))
  have hpos : 0 < l.length := List.length_pos_iff.2 h1
  by_cases h2 : 120 < l.length
  · have hC : checkT l = (-1, 3) := by unfold checkT; rw [if_neg h1, if_pos h2]
    rw [hC]
    (repeat' (first|(with_reducible refine AllP.go ?_;first|exact og|((try simp only [OS]);repeat' (first|exact oj|refine And.intro ?_ ?_)))|(refine rg ?_ ?_)|(with_reducible first|refine stp ?_|refine tD rfl ?_)|refine ct ?_|refine cf ?_|((first|refine gs ?_ ?_|refine gl ?_ ?_|refine gc ?_ ?_)<;>intro h<;>(try simp only [NS] at h)<;>(try exact xf)<;>(try refine rn ?_ ?_))))
    (refine TE.ret' io rfl tysOk (()) ?_ rfl (by rfl) ?_;all_goals (try (first|exact trivial|((with_reducible refine AllP.go ?_);dsimp only [AllP, appP];repeat' (first|refine And.intro ?_ ?_|exact zz)))))
  have hln : ∀ x ∈ l, lenN x := fun x h => (hx x h).1
  (repeat' (first|(with_reducible refine AllP.go ?_;first|exact og|((try simp only [OS]);repeat' (first|exact oj|refine And.intro ?_ ?_)))|(refine rg ?_ ?_)|(with_reducible first|refine stp ?_|refine tD rfl ?_)|refine ct ?_|refine cf ?_|((first|refine gs ?_ ?_|refine gl ?_ ?_|refine gc ?_ ?_)<;>intro h<;>(try simp only [NS] at h)<;>(try exact xf)<;>(try refine rn ?_ ?_))))
  (refine TE.only [4, 0] (by rfl) ?_)
  refine TE.loopG (fun q : Nat => q ≤ l.length ∧ OkTo l q) (fun q => [(4, .o (.c (.int .i64 q)))]) [] (fun _ => []) (fun q => l.length - q) 0 (by rfl) ⟨Nat.zero_le _, fun j hj => absurd hj (Nat.not_lt_zero _)⟩ ?_ ?_
  · (refine Ent.of rfl rfl (by rfl) ?_;(try (first|exact trivial|((with_reducible refine AllP.go ?_);dsimp only [AllP, appP];repeat' (first|refine And.intro ?_ ?_|exact zz)))))
  rintro q ⟨hq, hok⟩
  by_cases hlt : q < l.length
  · obtain ⟨n, hn⟩ : ∃ n, n = l.getD q n0 := ⟨_, rfl⟩
    obtain ⟨pre, hpre⟩ : ∃ pre, pre = (l.take q).reverse := ⟨_, rfl⟩
    obtain ⟨x1, x2, x3⟩ := hx _ (getD_mem (d := n0) hlt)
    have hsh := rshape_c l q hlt hl (okTo_depth hq hok)
    have hcl := rclass_c l q hlt hl hln (okTo_cls hq (by omega) hok)
    have hsp := placeE_split (l.take q).reverse (l.getD q n0)
    (repeat' (first|(with_reducible refine AllP.go ?_;first|exact og|((try simp only [OS]);repeat' (first|exact oj|refine And.intro ?_ ?_)))|(refine rg ?_ ?_)|(with_reducible first|refine stp ?_|refine tD rfl ?_)|refine ct ?_|refine cf ?_|((first|refine gs ?_ ?_|refine gl ?_ ?_|refine gc ?_ ?_)<;>intro h<;>(try simp only [NS] at h)<;>(try exact xf)<;>(try refine rn ?_ ?_))))
    refine TE.callW (hsh) rfl (by rfl) (by rfl) rfl (by rfl) (by (first|exact trivial|((with_reducible refine AllP.go ?_);dsimp only [AllP, appP];repeat' (first|refine And.intro ?_ ?_|exact zz|assumption)))) ?_
    intro _ _
    ((refine TE.run tysOk rfl (by rfl) (by (first|exact trivial|exact fun _ _=>⟨_,rfl⟩|((try simp only [OS]);repeat' (first|omega|exact fun _ _=>⟨_,rfl⟩|refine And.intro ?_ ?_)))) ?_);refine TE.done ?_;refine TE.thenN ?_)
    (refine TE.seqM (ι := Unit) (fun _ => True) (fun _ => ⟨[(5, .o (.c (.int .i64 (placeE (l.take q).reverse (l.getD q n0))))), (4, .o (.c (.int .i64 q))), (0, .o (.ro 8 l.length (ndC l).cell))], [], 0⟩) ?_ fun _ _ => ?_)
    · by_cases s1 : shapeE (l.take q).reverse (l.getD q n0) ≠ 0
      · rw [if_pos s1] at hsp
        (repeat' (first|(with_reducible refine AllP.go ?_;first|exact og|((try simp only [OS]);repeat' (first|exact oj|refine And.intro ?_ ?_)))|(refine rg ?_ ?_)|(with_reducible first|refine stp ?_|refine tD rfl ?_)|refine ct ?_|refine cf ?_|((first|refine gs ?_ ?_|refine gl ?_ ?_|refine gc ?_ ?_)<;>intro h<;>(try simp only [NS] at h)<;>(try exact xf)<;>(try refine rn ?_ ?_))))
        all_goals (refine TE.at () trivial ?_;(refine Ent.of rfl rfl (by rfl) ?_;(try (first|exact trivial|((with_reducible refine AllP.go ?_);dsimp only [AllP, appP];repeat' (first|refine And.intro ?_ ?_|exact zz))))))
      rw [if_neg s1] at hsp
      by_cases hq0 : q = 0
      · have : (l.take q).reverse = [] := by rw [hq0]; rfl
        rw [if_pos this] at hsp
        (repeat' (first|(with_reducible refine AllP.go ?_;first|exact og|((try simp only [OS]);repeat' (first|exact oj|refine And.intro ?_ ?_)))|(refine rg ?_ ?_)|(with_reducible first|refine stp ?_|refine tD rfl ?_)|refine ct ?_|refine cf ?_|((first|refine gs ?_ ?_|refine gl ?_ ?_|refine gc ?_ ?_)<;>intro h<;>(try simp only [NS] at h)<;>(try exact xf)<;>(try refine rn ?_ ?_))))
        all_goals (refine TE.at () trivial ?_;(refine Ent.of rfl rfl (by rfl) ?_;(try (first|exact trivial|((with_reducible refine AllP.go ?_);dsimp only [AllP, appP];repeat' (first|refine And.intro ?_ ?_|exact zz))))))
      · have : (l.take q).reverse ≠ [] := by
          intro e
          have := congrArg List.length e
          rw [List.length_reverse, List.length_take, List.length_nil] at this
          omega
        rw [if_neg this] at hsp
        (repeat' (first|(with_reducible refine AllP.go ?_;first|exact og|((try simp only [OS]);repeat' (first|exact oj|refine And.intro ?_ ?_)))|(refine rg ?_ ?_)|(with_reducible first|refine stp ?_|refine tD rfl ?_)|refine ct ?_|refine cf ?_|((first|refine gs ?_ ?_|refine gl ?_ ?_|refine gc ?_ ?_)<;>intro h<;>(try simp only [NS] at h)<;>(try exact xf)<;>(try refine rn ?_ ?_))))
        all_goals refine TE.callW (rentry_c l q (by omega) hlt hl x3) rfl (by rfl) (by rfl) rfl (by rfl) (by (first|exact trivial|((with_reducible refine AllP.go ?_);dsimp only [AllP, appP];repeat' (first|refine And.intro ?_ ?_|exact zz|assumption)))) ?_
        all_goals intro _ _
        all_goals ((refine rn ?_ ?_);(repeat' (first|(with_reducible refine AllP.go ?_;first|exact og|((try simp only [OS]);repeat' (first|exact oj|refine And.intro ?_ ?_)))|(refine rg ?_ ?_)|(with_reducible first|refine stp ?_|refine tD rfl ?_)|refine ct ?_|refine cf ?_|((first|refine gs ?_ ?_|refine gl ?_ ?_|refine gc ?_ ?_)<;>intro h<;>(try simp only [NS] at h)<;>(try exact xf)<;>(try refine rn ?_ ?_)))))
        all_goals (refine TE.at () trivial ?_;(refine Ent.of rfl rfl (by rfl) ?_;(try (first|exact trivial|((with_reducible refine AllP.go ?_);dsimp only [AllP, appP];repeat' (first|refine And.intro ?_ ?_|exact zz))))))
    by_cases s1 : placeE (l.take q).reverse (l.getD q n0) ≠ 0
    · have hF : nodeE (l.take q).reverse (l.getD q n0) = placeE (l.take q).reverse (l.getD q n0) := if_pos s1
      rw [checkT_badR h1 (by omega) (errAt_bad hlt hok (by rw [hF]; exact s1)), hF]
      (repeat' (first|(with_reducible refine AllP.go ?_;first|exact og|((try simp only [OS]);repeat' (first|exact oj|refine And.intro ?_ ?_)))|(refine rg ?_ ?_)|(with_reducible first|refine stp ?_|refine tD rfl ?_)|refine ct ?_|refine cf ?_|((first|refine gs ?_ ?_|refine gl ?_ ?_|refine gc ?_ ?_)<;>intro h<;>(try simp only [NS] at h)<;>(try exact xf)<;>(try refine rn ?_ ?_))))
      (refine TE.ret' io rfl tysOk (()) ?_ rfl (by rfl) ?_;all_goals (try (first|exact trivial|((with_reducible refine AllP.go ?_);dsimp only [AllP, appP];repeat' (first|refine And.intro ?_ ?_|exact zz)))))
    have s1 := Decidable.not_not.1 s1
    (repeat' (first|(with_reducible refine AllP.go ?_;first|exact og|((try simp only [OS]);repeat' (first|exact oj|refine And.intro ?_ ?_)))|(refine rg ?_ ?_)|(with_reducible first|refine stp ?_|refine tD rfl ?_)|refine ct ?_|refine cf ?_|((first|refine gs ?_ ?_|refine gl ?_ ?_|refine gc ?_ ?_)<;>intro h<;>(try simp only [NS] at h)<;>(try exact xf)<;>(try refine rn ?_ ?_))))
    refine TE.callW (rkind_c (l.getD q n0)) rfl (by rfl) (by rfl) rfl (by rfl) (by (first|exact trivial|((with_reducible refine AllP.go ?_);dsimp only [AllP, appP];repeat' (first|refine And.intro ?_ ?_|exact zz|assumption)))) ?_
    intro _ _
    by_cases s2 : fieldsE (l.getD q n0) ≠ 0
    · have hF : nodeE (l.take q).reverse (l.getD q n0) = fieldsE (l.getD q n0) := by unfold nodeE; rw [if_neg (fun k => k s1), if_pos s2]
      rw [checkT_badR h1 (by omega) (errAt_bad hlt hok (by rw [hF]; exact s2)), hF]
      ((refine rn ?_ ?_);(repeat' (first|(with_reducible refine AllP.go ?_;first|exact og|((try simp only [OS]);repeat' (first|exact oj|refine And.intro ?_ ?_)))|(refine rg ?_ ?_)|(with_reducible first|refine stp ?_|refine tD rfl ?_)|refine ct ?_|refine cf ?_|((first|refine gs ?_ ?_|refine gl ?_ ?_|refine gc ?_ ?_)<;>intro h<;>(try simp only [NS] at h)<;>(try exact xf)<;>(try refine rn ?_ ?_)))))
      (refine TE.ret' io rfl tysOk (()) ?_ rfl (by rfl) ?_;all_goals (try (first|exact trivial|((with_reducible refine AllP.go ?_);dsimp only [AllP, appP];repeat' (first|refine And.intro ?_ ?_|exact zz)))))
    have s2 := Decidable.not_not.1 s2
    ((refine rn ?_ ?_);(repeat' (first|(with_reducible refine AllP.go ?_;first|exact og|((try simp only [OS]);repeat' (first|exact oj|refine And.intro ?_ ?_)))|(refine rg ?_ ?_)|(with_reducible first|refine stp ?_|refine tD rfl ?_)|refine ct ?_|refine cf ?_|((first|refine gs ?_ ?_|refine gl ?_ ?_|refine gc ?_ ?_)<;>intro h<;>(try simp only [NS] at h)<;>(try exact xf)<;>(try refine rn ?_ ?_)))))
    refine TE.callW (rCheck_c (l.getD q n0).attrs x1 x2) rfl (by rfl) (by rfl) rfl (by rfl) (by (first|exact trivial|((with_reducible refine AllP.go ?_);dsimp only [AllP, appP];repeat' (first|refine And.intro ?_ ?_|exact zz|assumption)))) ?_
    intro _ _
    by_cases s3 : At.checkE (l.getD q n0).attrs ≠ 0
    · have hF : nodeE (l.take q).reverse (l.getD q n0) = At.checkE (l.getD q n0).attrs := by unfold nodeE; rw [if_neg (fun k => k s1), if_neg (fun k => k s2), if_pos s3]
      rw [checkT_badR h1 (by omega) (errAt_bad hlt hok (by rw [hF]; exact s3)), hF]
      ((refine rn ?_ ?_);(repeat' (first|(with_reducible refine AllP.go ?_;first|exact og|((try simp only [OS]);repeat' (first|exact oj|refine And.intro ?_ ?_)))|(refine rg ?_ ?_)|(with_reducible first|refine stp ?_|refine tD rfl ?_)|refine ct ?_|refine cf ?_|((first|refine gs ?_ ?_|refine gl ?_ ?_|refine gc ?_ ?_)<;>intro h<;>(try simp only [NS] at h)<;>(try exact xf)<;>(try refine rn ?_ ?_)))))
      (refine TE.ret' io rfl tysOk (()) ?_ rfl (by rfl) ?_;all_goals (try (first|exact trivial|((with_reducible refine AllP.go ?_);dsimp only [AllP, appP];repeat' (first|refine And.intro ?_ ?_|exact zz)))))
    have s3 := Decidable.not_not.1 s3
    ((refine rn ?_ ?_);(repeat' (first|(with_reducible refine AllP.go ?_;first|exact og|((try simp only [OS]);repeat' (first|exact oj|refine And.intro ?_ ?_)))|(refine rg ?_ ?_)|(with_reducible first|refine stp ?_|refine tD rfl ?_)|refine ct ?_|refine cf ?_|((first|refine gs ?_ ?_|refine gl ?_ ?_|refine gc ?_ ?_)<;>intro h<;>(try simp only [NS] at h)<;>(try exact xf)<;>(try refine rn ?_ ?_)))))
    refine TE.callW (hcl) rfl (by rfl) (by rfl) rfl (by rfl) (by (first|exact trivial|((with_reducible refine AllP.go ?_);dsimp only [AllP, appP];repeat' (first|refine And.intro ?_ ?_|exact zz|assumption)))) ?_
    intro _ _
    have hF : nodeE (l.take q).reverse (l.getD q n0) = classE (l.take q).reverse (l.getD q n0) := by unfold nodeE; rw [if_neg (fun k => k s1), if_neg (fun k => k s2), if_neg (fun k => k s3)]
    by_cases s4 : classE (l.take q).reverse (l.getD q n0) ≠ 0
    · rw [checkT_badR h1 (by omega) (errAt_bad hlt hok (by rw [hF]; exact s4)), hF]
      ((refine rn ?_ ?_);(repeat' (first|(with_reducible refine AllP.go ?_;first|exact og|((try simp only [OS]);repeat' (first|exact oj|refine And.intro ?_ ?_)))|(refine rg ?_ ?_)|(with_reducible first|refine stp ?_|refine tD rfl ?_)|refine ct ?_|refine cf ?_|((first|refine gs ?_ ?_|refine gl ?_ ?_|refine gc ?_ ?_)<;>intro h<;>(try simp only [NS] at h)<;>(try exact xf)<;>(try refine rn ?_ ?_)))))
      (refine TE.ret' io rfl tysOk (()) ?_ rfl (by rfl) ?_;all_goals (try (first|exact trivial|((with_reducible refine AllP.go ?_);dsimp only [AllP, appP];repeat' (first|refine And.intro ?_ ?_|exact zz)))))
    have s4 := Decidable.not_not.1 s4
    ((refine rn ?_ ?_);(repeat' (first|(with_reducible refine AllP.go ?_;first|exact og|((try simp only [OS]);repeat' (first|exact oj|refine And.intro ?_ ?_)))|(refine rg ?_ ?_)|(with_reducible first|refine stp ?_|refine tD rfl ?_)|refine ct ?_|refine cf ?_|((first|refine gs ?_ ?_|refine gl ?_ ?_|refine gc ?_ ?_)<;>intro h<;>(try simp only [NS] at h)<;>(try exact xf)<;>(try refine rn ?_ ?_)))))
    refine TE.again' (q + 1) ⟨by omega, okTo_next hok (by rw [hF]; exact s4)⟩ (by omega) ?_
    (refine Ent.of rfl rfl (by rfl) ?_;(try (first|exact trivial|((with_reducible refine AllP.go ?_);dsimp only [AllP, appP];repeat' (first|refine And.intro ?_ ?_|exact zz)))))
  · obtain rfl : q = l.length := by omega
    rw [checkT_goodR h1 (by omega) (errAt_good hok)]
    (repeat' (first|(with_reducible refine AllP.go ?_;first|exact og|((try simp only [OS]);repeat' (first|exact oj|refine And.intro ?_ ?_)))|(refine rg ?_ ?_)|(with_reducible first|refine stp ?_|refine tD rfl ?_)|refine ct ?_|refine cf ?_|((first|refine gs ?_ ?_|refine gl ?_ ?_|refine gc ?_ ?_)<;>intro h<;>(try simp only [NS] at h)<;>(try exact xf)<;>(try refine rn ?_ ?_))))
    (refine TE.only [6, 0] (by rfl) ?_)
    refine TE.loopG (fun q : Nat => q ≤ l.length ∧ ∀ j, j < q → ¬ (0 < (l.getD j n0).cls ∧ countC l (l.getD j n0).cls = 1)) (fun q => [(6, .o (.c (.int .i64 q)))]) [] (fun _ => []) (fun q => l.length - q) 0 (by rfl) ⟨Nat.zero_le _, fun k hk => absurd hk (Nat.not_lt_zero _)⟩ ?_ ?_
    · (refine Ent.of rfl rfl (by rfl) ?_;(try (first|exact trivial|((with_reducible refine AllP.go ?_);dsimp only [AllP, appP];repeat' (first|refine And.intro ?_ ?_|exact zz)))))
    rintro q ⟨hq, hg⟩
    by_cases hlt : q < l.length
    · by_cases h3 : 0 < (l.getD q n0).cls
      · by_cases h4 : countC l (l.getD q n0).cls = 1
        · rw [lone_at l 0 q hlt hg ⟨h3, h4⟩]
          (repeat' (first|(with_reducible refine AllP.go ?_;first|exact og|((try simp only [OS]);repeat' (first|exact oj|refine And.intro ?_ ?_)))|(refine rg ?_ ?_)|(with_reducible first|refine stp ?_|refine tD rfl ?_)|refine ct ?_|refine cf ?_|((first|refine gs ?_ ?_|refine gl ?_ ?_|refine gc ?_ ?_)<;>intro h<;>(try simp only [NS] at h)<;>(try exact xf)<;>(try refine rn ?_ ?_))))
          refine TE.callW (rcount_c l (l.getD q n0).cls hl) rfl (by rfl) (by rfl) rfl (by rfl) (by (first|exact trivial|((with_reducible refine AllP.go ?_);dsimp only [AllP, appP];repeat' (first|refine And.intro ?_ ?_|exact zz|assumption)))) ?_
          intro _ _
          ((refine rn ?_ ?_);(repeat' (first|(with_reducible refine AllP.go ?_;first|exact og|((try simp only [OS]);repeat' (first|exact oj|refine And.intro ?_ ?_)))|(refine rg ?_ ?_)|(with_reducible first|refine stp ?_|refine tD rfl ?_)|refine ct ?_|refine cf ?_|((first|refine gs ?_ ?_|refine gl ?_ ?_|refine gc ?_ ?_)<;>intro h<;>(try simp only [NS] at h)<;>(try exact xf)<;>(try refine rn ?_ ?_)))))
          (refine TE.ret' io rfl tysOk (()) ?_ rfl (by rfl) ?_;all_goals (try (first|exact trivial|((with_reducible refine AllP.go ?_);dsimp only [AllP, appP];repeat' (first|refine And.intro ?_ ?_|exact zz)))))
        · (repeat' (first|(with_reducible refine AllP.go ?_;first|exact og|((try simp only [OS]);repeat' (first|exact oj|refine And.intro ?_ ?_)))|(refine rg ?_ ?_)|(with_reducible first|refine stp ?_|refine tD rfl ?_)|refine ct ?_|refine cf ?_|((first|refine gs ?_ ?_|refine gl ?_ ?_|refine gc ?_ ?_)<;>intro h<;>(try simp only [NS] at h)<;>(try exact xf)<;>(try refine rn ?_ ?_))))
          refine TE.callW (rcount_c l (l.getD q n0).cls hl) rfl (by rfl) (by rfl) rfl (by rfl) (by (first|exact trivial|((with_reducible refine AllP.go ?_);dsimp only [AllP, appP];repeat' (first|refine And.intro ?_ ?_|exact zz|assumption)))) ?_
          intro _ _
          ((refine rn ?_ ?_);(repeat' (first|(with_reducible refine AllP.go ?_;first|exact og|((try simp only [OS]);repeat' (first|exact oj|refine And.intro ?_ ?_)))|(refine rg ?_ ?_)|(with_reducible first|refine stp ?_|refine tD rfl ?_)|refine ct ?_|refine cf ?_|((first|refine gs ?_ ?_|refine gl ?_ ?_|refine gc ?_ ?_)<;>intro h<;>(try simp only [NS] at h)<;>(try exact xf)<;>(try refine rn ?_ ?_)))))
          all_goals refine TE.again' (q + 1) ⟨by omega, fun k hk => ?_⟩ (by omega) ?_
          all_goals first
            | (rcases Nat.lt_or_ge k q with h5 | h5
               · exact hg k h5
               · obtain rfl : k = q := by omega
                 exact fun h => h4 h.2)
            | (refine Ent.of rfl rfl (by rfl) ?_;(try (first|exact trivial|((with_reducible refine AllP.go ?_);dsimp only [AllP, appP];repeat' (first|refine And.intro ?_ ?_|exact zz)))))
      · (repeat' (first|(with_reducible refine AllP.go ?_;first|exact og|((try simp only [OS]);repeat' (first|exact oj|refine And.intro ?_ ?_)))|(refine rg ?_ ?_)|(with_reducible first|refine stp ?_|refine tD rfl ?_)|refine ct ?_|refine cf ?_|((first|refine gs ?_ ?_|refine gl ?_ ?_|refine gc ?_ ?_)<;>intro h<;>(try simp only [NS] at h)<;>(try exact xf)<;>(try refine rn ?_ ?_))))
        all_goals refine TE.again' (q + 1) ⟨by omega, fun k hk => ?_⟩ (by omega) ?_
        all_goals first
          | (rcases Nat.lt_or_ge k q with h5 | h5
             · exact hg k h5
             · obtain rfl : k = q := by omega
               exact fun h => h3 h.1)
          | (refine Ent.of rfl rfl (by rfl) ?_;(try (first|exact trivial|((with_reducible refine AllP.go ?_);dsimp only [AllP, appP];repeat' (first|refine And.intro ?_ ?_|exact zz)))))
    · rw [lone_none l 0 fun x hx => ?_]
      · (repeat' (first|(with_reducible refine AllP.go ?_;first|exact og|((try simp only [OS]);repeat' (first|exact oj|refine And.intro ?_ ?_)))|(refine rg ?_ ?_)|(with_reducible first|refine stp ?_|refine tD rfl ?_)|refine ct ?_|refine cf ?_|((first|refine gs ?_ ?_|refine gl ?_ ?_|refine gc ?_ ?_)<;>intro h<;>(try simp only [NS] at h)<;>(try exact xf)<;>(try refine rn ?_ ?_))))
        (refine TE.ret' io rfl tysOk (()) ?_ rfl (by rfl) ?_;all_goals (try (first|exact trivial|((with_reducible refine AllP.go ?_);dsimp only [AllP, appP];repeat' (first|refine And.intro ?_ ?_|exact zz)))))
      · obtain ⟨k, hk, rfl⟩ := List.getElem_of_mem hx
        have := hg k (by omega)
        rwa [List.getD_eq_getElem?_getD, List.getElem?_eq_getElem hk] at this
end Go.Proofs.Ythhpofehcnjmmaa.Am
set_option linter.unusedSimpArgs false
set_option linter.unusedVariables false
namespace Go.Proofs.Ythhpofehcnjmmaa.Am
open Go.RowKit Lw
open Br
abbrev bnA (x : Bn) : List A1 := [.c (.int .i64 x.nd.depth), .c (.string x.nd.name), .c (.int .i64 x.nd.kind), .ro 2 x.nd.attrs.length (atC x.nd.attrs).cell, .c (.string x.nd.data), .c (.int .i64 x.nd.major), .c (.int .i64 x.nd.minor), .c (.int .i64 x.nd.cls), .c (.bool x.opq), .ro 1 x.red.length (paC x.red).cell]
def bnR (x : Bn) (j : Nat) : DC := match j with
  | 0 => .c (.int .i64 x.nd.depth)
  | 1 => .c (.string x.nd.name)
  | 2 => .c (.int .i64 x.nd.kind)
  | 3 => .sl 2 x.nd.attrs.length (atC x.nd.attrs).cell
  | 4 => .c (.string x.nd.data)
  | 5 => .c (.int .i64 x.nd.major)
  | 6 => .c (.int .i64 x.nd.minor)
  | 7 => .c (.int .i64 x.nd.cls)
  | 8 => .c (.bool x.opq)
  | _ => .sl 1 x.red.length (paC x.red).cell
abbrev bnC (l : List Bn) : Ct := listC bnR b0 l
set_option maxRecDepth 20000 in
theorem plain_c (x : Bn) (hx : lenN x.nd) : Con Try.prog 49 [.g (bnA x)] [] 0 0 U (fun _ => .g (ndA x.nd)) G0 := by
  refine con_of Try.func49 rfl (by kernel_rfl) Try.ntmps49 rfl (by first | exact Nat.zero_le _ | decide) (fun _ => ⟨rfl, rfl⟩) fun w S ν => ?_
  (repeat' (first|(with_reducible refine AllP.go ?_;first|exact og|((try simp only [OS]);repeat' (first|exact oj|refine And.intro ?_ ?_)))|(refine rg ?_ ?_)|(with_reducible first|refine stp ?_|refine tD rfl ?_)|refine ct ?_|refine cf ?_|((first|refine gs ?_ ?_|refine gl ?_ ?_|refine gc ?_ ?_)<;>intro h<;>(try simp only [NS] at h)<;>(try exact xf)<;>(try refine rn ?_ ?_))))
  (refine TE.drawK (fun i => Nat.beq i 0) (by rfl) (by rfl) (by rfl) ?_)
  (repeat' (first|(with_reducible refine AllP.go ?_;first|exact og|((try simp only [OS]);repeat' (first|exact oj|refine And.intro ?_ ?_)))|(with_reducible first|exact PanicOk.body|exact rd.panic|refine PanicOk.then' ?_|refine PanicOk.block ?_|refine PanicOk.jump ?_)|(refine TL.done (by rfl) ?_)|(refine TL.auto tysOk rfl ?_ (by rfl) ?_ ?_)|(refine sm ?_ ?_)|(refine sp ?_ ?_)|(refine TL.one (by rfl) ?_)|(refine TL.two (by rfl) ?_ ?_)|(refine TL.three (by rfl) ?_ ?_ ?_)|(refine TL.four (by rfl) ?_ ?_ ?_ ?_)))
  refine StepL.callW (Clone_c x.nd.attrs.length (atC x.nd.attrs).cell hx) rfl rfl rfl rfl rfl (by rfl) (by (first|exact trivial|((with_reducible refine AllP.go ?_);dsimp only [AllP, appP];repeat' (first|refine And.intro ?_ ?_|exact zz|assumption)))) (by rfl) (by rfl) ?_
  intro _ _
  (repeat' (first|(with_reducible refine AllP.go ?_;first|exact og|((try simp only [OS]);repeat' (first|exact oj|refine And.intro ?_ ?_)))|(with_reducible first|exact PanicOk.body|exact rd.panic|refine PanicOk.then' ?_|refine PanicOk.block ?_|refine PanicOk.jump ?_)|(refine TL.done (by rfl) ?_)|(refine TL.auto tysOk rfl ?_ (by rfl) ?_ ?_)|(refine sm ?_ ?_)|(refine sp ?_ ?_)|(refine TL.one (by rfl) ?_)|(refine TL.two (by rfl) ?_ ?_)|(refine TL.three (by rfl) ?_ ?_ ?_)|(refine TL.four (by rfl) ?_ ?_ ?_ ?_)))
  (repeat' (first|(with_reducible refine AllP.go ?_;first|exact og|((try simp only [OS]);repeat' (first|exact oj|refine And.intro ?_ ?_)))|(refine rg ?_ ?_)|(with_reducible first|refine stp ?_|refine tD rfl ?_)|refine ct ?_|refine cf ?_|((first|refine gs ?_ ?_|refine gl ?_ ?_|refine gc ?_ ?_)<;>intro h<;>(try simp only [NS] at h)<;>(try exact xf)<;>(try refine rn ?_ ?_))))
  (refine TE.freezeN 2 (by rfl) (by rfl) ?_)
  (refine TE.ret' io rfl tysOk (()) ?_ rfl (by rfl) ?_;all_goals (try (first|exact trivial|((with_reducible refine AllP.go ?_);dsimp only [AllP, appP];repeat' (first|refine And.intro ?_ ?_|exact zz)))))
set_option maxRecDepth 20000 in
theorem node_c (x : Bn) (hx : lenN x.nd) : Con Try.prog 50 [.g (bnA x)] [] 0 0 U (fun _ => .g (ndA x.nd)) G0 := by
  refine con_of Try.func50 rfl (by kernel_rfl) Try.ntmps50 rfl (by first | exact Nat.zero_le _ | decide) (fun _ => ⟨rfl, rfl⟩) fun w S ν => ?_
  have hx' : x.nd.attrs.length ≤ 1000000 := hx
  (repeat' (first|(with_reducible refine AllP.go ?_;first|exact og|((try simp only [OS]);repeat' (first|exact oj|refine And.intro ?_ ?_)))|(refine rg ?_ ?_)|(with_reducible first|refine stp ?_|refine tD rfl ?_)|refine ct ?_|refine cf ?_|((first|refine gs ?_ ?_|refine gl ?_ ?_|refine gc ?_ ?_)<;>intro h<;>(try simp only [NS] at h)<;>(try exact xf)<;>(try refine rn ?_ ?_))))
  (refine TE.drawK (fun i => Nat.beq i 0) (by rfl) (by rfl) (by rfl) ?_)
  (repeat' (first|(with_reducible refine AllP.go ?_;first|exact og|((try simp only [OS]);repeat' (first|exact oj|refine And.intro ?_ ?_)))|(with_reducible first|exact PanicOk.body|exact rd.panic|refine PanicOk.then' ?_|refine PanicOk.block ?_|refine PanicOk.jump ?_)|(refine TL.done (by rfl) ?_)|(refine TL.auto tysOk rfl ?_ (by rfl) ?_ ?_)|(refine sm ?_ ?_)|(refine sp ?_ ?_)|(refine TL.one (by rfl) ?_)|(refine TL.two (by rfl) ?_ ?_)|(refine TL.three (by rfl) ?_ ?_ ?_)|(refine TL.four (by rfl) ?_ ?_ ?_ ?_)))
  all_goals (repeat' (first|(with_reducible refine AllP.go ?_;first|exact og|((try simp only [OS]);repeat' (first|exact oj|refine And.intro ?_ ?_)))|(refine rg ?_ ?_)|(with_reducible first|refine stp ?_|refine tD rfl ?_)|refine ct ?_|refine cf ?_|((first|refine gs ?_ ?_|refine gl ?_ ?_|refine gc ?_ ?_)<;>intro h<;>(try simp only [NS] at h)<;>(try exact xf)<;>(try refine rn ?_ ?_))))
  all_goals (refine TE.freezeN 3 (by rfl) (by rfl) ?_)
  all_goals (refine TE.ret' io rfl tysOk (()) ?_ rfl (by rfl) ?_;all_goals (try (first|exact trivial|((with_reducible refine AllP.go ?_);dsimp only [AllP, appP];repeat' (first|refine And.intro ?_ ?_|exact zz)))))
  all_goals exact litnil_app 2 (atC x.nd.attrs)
theorem nd_row (x : Nd) : ∀ j, j < 8 → nthD [.c (.int .i64 x.depth), .c (.string x.name), .c (.int .i64 x.kind), .sl 2 x.attrs.length (atC x.attrs).cell, .c (.string x.data), .c (.int .i64 x.major), .c (.int .i64 x.minor), .c (.int .i64 x.cls)] j = ndR x j
  | 0, _ => rfl
  | 1, _ => rfl
  | 2, _ => rfl
  | 3, _ => rfl
  | 4, _ => rfl
  | 5, _ => rfl
  | 6, _ => rfl
  | 7, _ => rfl
  | _ + 8, h => absurd h (by omega)
theorem map_take {α β : Type} {f : α → β} {d : α} {l : List α} {q : Nat} (h : q < l.length) : (l.take (q + 1)).map f = (l.take q).map f ++ [f (l.getD q d)] := by
  rw [List.take_add_one, List.map_append, List.getD_eq_getElem?_getD, List.getElem?_eq_getElem h]
  rfl
set_option maxRecDepth 20000 in
theorem tree_c (l : List Bn) (hl : l.length ≤ 1000000) (hx : ∀ x ∈ l, lenN x.nd) : Con Try.prog 16 [.o (.ro 10 l.length (bnC l).cell)] [] 0 0 U (fun _ => .o (.ro 8 (l.map (·.nd)).length (ndC (l.map (·.nd))).cell)) G0 := by
  refine con_of Try.func16 rfl (by kernel_rfl) Try.ntmps16 rfl (by first | exact Nat.zero_le _ | decide) (fun _ => ⟨rfl, rfl⟩) fun w S ν => ?_
  (repeat' (first|(with_reducible refine AllP.go ?_;first|exact og|((try simp only [OS]);repeat' (first|exact oj|refine And.intro ?_ ?_)))|(refine rg ?_ ?_)|(with_reducible first|refine stp ?_|refine tD rfl ?_)|refine ct ?_|refine cf ?_|((first|refine gs ?_ ?_|refine gl ?_ ?_|refine gc ?_ ?_)<;>intro h<;>(try simp only [NS] at h)<;>(try exact xf)<;>(try refine rn ?_ ?_))))
  (refine TE.only [11, 10, 9, 3, 0] (by rfl) ?_)
  refine TE.loopG (fun q : Nat => q ≤ l.length) (fun q => [(11, .o (.c (.int .i64 q))), (3, .o (.own 0))]) [0] (fun q => [.own 0 70 8 (ndC ((l.take q).map (·.nd)))]) (fun q => l.length - q) 0 (by rfl) (Nat.zero_le _) ?_ ?_
  · (refine Ent.of rfl rfl (by rfl) ?_;(try (first|exact trivial|((with_reducible refine AllP.go ?_);dsimp only [AllP, appP];repeat' (first|refine And.intro ?_ ?_|exact zz)))))
    exact LeDC.nil rfl rfl
  intro q hq
  have hn : (ndC ((l.take q).map (·.nd))).n = q := by show ((l.take q).map (·.nd)).length = q; rw [List.length_map, List.length_take]; omega
  have hn2 : (l.take q).length = q := by rw [List.length_take]; omega
  by_cases hlt : q < l.length
  · have hxq := hx _ (getD_mem (l := l) (d := b0) hlt)
    (repeat' (first|(with_reducible refine AllP.go ?_;first|exact og|((try simp only [OS]);repeat' (first|exact oj|refine And.intro ?_ ?_)))|(refine rg ?_ ?_)|(with_reducible first|refine stp ?_|refine tD rfl ?_)|refine ct ?_|refine cf ?_|((first|refine gs ?_ ?_|refine gl ?_ ?_|refine gc ?_ ?_)<;>intro h<;>(try simp only [NS] at h)<;>(try exact xf)<;>(try refine rn ?_ ?_))))
    refine TE.callW (plain_c (l.getD q b0) hxq) rfl (by rfl) (by rfl) rfl (by rfl) (by (first|exact trivial|((with_reducible refine AllP.go ?_);dsimp only [AllP, appP];repeat' (first|refine And.intro ?_ ?_|exact zz|assumption)))) ?_
    intro _ _
    ((refine rn ?_ ?_);(repeat' (first|(with_reducible refine AllP.go ?_;first|exact og|((try simp only [OS]);repeat' (first|exact oj|refine And.intro ?_ ?_)))|(refine rg ?_ ?_)|(with_reducible first|refine stp ?_|refine tD rfl ?_)|refine ct ?_|refine cf ?_|((first|refine gs ?_ ?_|refine gl ?_ ?_|refine gc ?_ ?_)<;>intro h<;>(try simp only [NS] at h)<;>(try exact xf)<;>(try refine rn ?_ ?_)))))
    refine TE.again' (q + 1) (by omega) (by omega) ?_
    (refine Ent.of rfl rfl (by rfl) ?_;(try (first|exact trivial|((with_reducible refine AllP.go ?_);dsimp only [AllP, appP];repeat' (first|refine And.intro ?_ ?_|exact zz)))))
    exact listC_snoc _ (map_take hlt) (nd_row _)
  · obtain rfl : q = l.length := by omega
    (repeat' (first|(with_reducible refine AllP.go ?_;first|exact og|((try simp only [OS]);repeat' (first|exact oj|refine And.intro ?_ ?_)))|(refine rg ?_ ?_)|(with_reducible first|refine stp ?_|refine tD rfl ?_)|refine ct ?_|refine cf ?_|((first|refine gs ?_ ?_|refine gl ?_ ?_|refine gc ?_ ?_)<;>intro h<;>(try simp only [NS] at h)<;>(try exact xf)<;>(try refine rn ?_ ?_))))
    (refine TE.freezeN 0 (by rfl) (by rfl) ?_)
    (refine TE.ret' io rfl tysOk (()) ?_ rfl (by rfl) ?_;all_goals (try (first|exact trivial|((with_reducible refine AllP.go ?_);dsimp only [AllP, appP];repeat' (first|refine And.intro ?_ ?_|exact zz)))))
    rw [List.take_length]
    exact LeD.refl
set_option maxRecDepth 20000 in
theorem rtree_c (l : List Bn) (hl : l.length ≤ 1000000) (hx : ∀ x ∈ l, lenN x.nd) : Con Try.prog 17 [.o (.ro 10 l.length (bnC l).cell)] [] 0 0 U (fun _ => .o (.ro 8 (l.map (·.nd)).length (ndC (l.map (·.nd))).cell)) G0 := by
  refine con_of Try.func17 rfl (by kernel_rfl) Try.ntmps17 rfl (by first | exact Nat.zero_le _ | decide) (fun _ => ⟨rfl, rfl⟩) fun w S ν => ?_
  (repeat' (first|(with_reducible refine AllP.go ?_;first|exact og|((try simp only [OS]);repeat' (first|exact oj|refine And.intro ?_ ?_)))|(refine rg ?_ ?_)|(with_reducible first|refine stp ?_|refine tD rfl ?_)|refine ct ?_|refine cf ?_|((first|refine gs ?_ ?_|refine gl ?_ ?_|refine gc ?_ ?_)<;>intro h<;>(try simp only [NS] at h)<;>(try exact xf)<;>(try refine rn ?_ ?_))))
  refine TE.nilOwn 3 70 8 (by rfl) ?_
  refine TE.loopG (fun q : Nat => q ≤ l.length) (fun q => [(4, .o (.c (.int .i64 q))), (3, .o (.own 0))]) [0] (fun q => [.own 0 70 8 (ndC ((l.take q).map (·.nd)))]) (fun q => l.length - q) 0 (by rfl) (Nat.zero_le _) ?_ ?_
  · (refine Ent.of rfl rfl (by rfl) ?_;(try (first|exact trivial|((with_reducible refine AllP.go ?_);dsimp only [AllP, appP];repeat' (first|refine And.intro ?_ ?_|exact zz)))))
    exact LeDC.nil rfl rfl
  intro q hq
  have hn : (ndC ((l.take q).map (·.nd))).n = q := by show ((l.take q).map (·.nd)).length = q; rw [List.length_map, List.length_take]; omega
  have hn2 : (l.take q).length = q := by rw [List.length_take]; omega
  by_cases hlt : q < l.length
  · have hxq := hx _ (getD_mem (l := l) (d := b0) hlt)
    (repeat' (first|(with_reducible refine AllP.go ?_;first|exact og|((try simp only [OS]);repeat' (first|exact oj|refine And.intro ?_ ?_)))|(refine rg ?_ ?_)|(with_reducible first|refine stp ?_|refine tD rfl ?_)|refine ct ?_|refine cf ?_|((first|refine gs ?_ ?_|refine gl ?_ ?_|refine gc ?_ ?_)<;>intro h<;>(try simp only [NS] at h)<;>(try exact xf)<;>(try refine rn ?_ ?_))))
    refine TE.callW (node_c (l.getD q b0) hxq) rfl (by rfl) (by rfl) rfl (by rfl) (by (first|exact trivial|((with_reducible refine AllP.go ?_);dsimp only [AllP, appP];repeat' (first|refine And.intro ?_ ?_|exact zz|assumption)))) ?_
    intro _ _
    ((refine rn ?_ ?_);(repeat' (first|(with_reducible refine AllP.go ?_;first|exact og|((try simp only [OS]);repeat' (first|exact oj|refine And.intro ?_ ?_)))|(refine rg ?_ ?_)|(with_reducible first|refine stp ?_|refine tD rfl ?_)|refine ct ?_|refine cf ?_|((first|refine gs ?_ ?_|refine gl ?_ ?_|refine gc ?_ ?_)<;>intro h<;>(try simp only [NS] at h)<;>(try exact xf)<;>(try refine rn ?_ ?_)))))
    refine TE.again' (q + 1) (by omega) (by omega) ?_
    (refine Ent.of rfl rfl (by rfl) ?_;(try (first|exact trivial|((with_reducible refine AllP.go ?_);dsimp only [AllP, appP];repeat' (first|refine And.intro ?_ ?_|exact zz)))))
    exact listC_snoc _ (map_take hlt) (nd_row _)
  · obtain rfl : q = l.length := by omega
    (repeat' (first|(with_reducible refine AllP.go ?_;first|exact og|((try simp only [OS]);repeat' (first|exact oj|refine And.intro ?_ ?_)))|(refine rg ?_ ?_)|(with_reducible first|refine stp ?_|refine tD rfl ?_)|refine ct ?_|refine cf ?_|((first|refine gs ?_ ?_|refine gl ?_ ?_|refine gc ?_ ?_)<;>intro h<;>(try simp only [NS] at h)<;>(try exact xf)<;>(try refine rn ?_ ?_))))
    (refine TE.freezeN 0 (by rfl) (by rfl) ?_)
    (refine TE.ret' io rfl tysOk (()) ?_ rfl (by rfl) ?_;all_goals (try (first|exact trivial|((with_reducible refine AllP.go ?_);dsimp only [AllP, appP];repeat' (first|refine And.intro ?_ ?_|exact zz)))))
    rw [List.take_length]
    exact LeD.refl
end Go.Proofs.Ythhpofehcnjmmaa.Am
set_option linter.unusedSimpArgs false
set_option linter.unusedVariables false
namespace Go.Proofs.Ythhpofehcnjmmaa.Am
open Go.RowKit Lw
open Br
theorem plist_eq_of {l m : List ByteArray} (hl : l.length = m.length) (h : ∀ k, k < l.length → l.getD k eS = m.getD k eS) : l = m := by
  refine List.ext_getElem hl fun k h1 h2 => ?_
  have := h k h1
  rwa [List.getD_eq_getElem?_getD, List.getD_eq_getElem?_getD, List.getElem?_eq_getElem h1, List.getElem?_eq_getElem h2] at this
set_option maxRecDepth 20000 in
theorem rsame_c (l m : List ByteArray) (hl : l.length ≤ 1000000) (hm : m.length ≤ 1000000) : Con Try.prog 24 [.o (.ro 1 l.length (paC l).cell), .o (.ro 1 m.length (paC m).cell)] [] 0 0 U (fun _ => .o (.sb (decide (l = m)))) G0 := by
  refine con_of Try.func24 rfl (by kernel_rfl) Try.ntmps24 rfl (by first | exact Nat.zero_le _ | decide) (fun _ => ⟨rfl, rfl⟩) fun w S ν => ?_
  by_cases hlm : l.length = m.length
  · (repeat' (first|(with_reducible refine AllP.go ?_;first|exact og|((try simp only [OS]);repeat' (first|exact oj|refine And.intro ?_ ?_)))|(refine rg ?_ ?_)|(with_reducible first|refine stp ?_|refine tD rfl ?_)|(with_reducible first|exact PanicOk.body|exact rd.panic|refine PanicOk.then' ?_|refine PanicOk.block ?_|refine PanicOk.jump ?_)|(refine dc ?_)|(refine dn ?_)|(refine TL.done (by rfl) ?_)|(refine TL.auto tysOk rfl ?_ (by rfl) ?_ ?_)|((refine TL.one (by rfl) ?_);first|(refine sm ?_ ?_)|(refine sp ?_ ?_))|(refine sm ?_ ?_)|refine ct ?_|refine cf ?_|((first|refine gs ?_ ?_|refine gl ?_ ?_|refine gc ?_ ?_)<;>intro h<;>(try simp only [NS] at h)<;>(try exact xf)<;>(try refine rn ?_ ?_))))
    refine TE.loopG (fun q : Nat => q ≤ l.length ∧ ∀ j, j < q → l.getD j eS = m.getD j eS) (fun q => [(5, .o (.c (.int .i64 q)))]) [] (fun _ => []) (fun q => l.length - q) 0 (by rfl) ⟨Nat.zero_le _, fun j hj => absurd hj (Nat.not_lt_zero _)⟩ ?_ ?_
    · (refine Ent.of rfl rfl (by rfl) ?_;(try (first|exact trivial|((with_reducible refine AllP.go ?_);dsimp only [AllP, appP];repeat' (first|refine And.intro ?_ ?_|exact zz)))))
    rintro q ⟨hq, hg⟩
    by_cases hlt : q < l.length
    · by_cases he : l.getD q eS = m.getD q eS
      · (repeat' (first|(with_reducible refine AllP.go ?_;first|exact og|((try simp only [OS]);repeat' (first|exact oj|refine And.intro ?_ ?_)))|(refine rg ?_ ?_)|(with_reducible first|refine stp ?_|refine tD rfl ?_)|(with_reducible first|exact PanicOk.body|exact rd.panic|refine PanicOk.then' ?_|refine PanicOk.block ?_|refine PanicOk.jump ?_)|(refine dc ?_)|(refine dn ?_)|(refine TL.done (by rfl) ?_)|(refine TL.auto tysOk rfl ?_ (by rfl) ?_ ?_)|((refine TL.one (by rfl) ?_);first|(refine sm ?_ ?_)|(refine sp ?_ ?_))|(refine sm ?_ ?_)|refine ct ?_|refine cf ?_|((first|refine gs ?_ ?_|refine gl ?_ ?_|refine gc ?_ ?_)<;>intro h<;>(try simp only [NS] at h)<;>(try exact xf)<;>(try refine rn ?_ ?_))))
        refine TE.again' (q + 1) ⟨by omega, fun j hj => ?_⟩ (by omega) ?_
        · rcases Nat.lt_or_ge j q with h5 | h5
          · exact hg j h5
          · obtain rfl : j = q := by omega
            exact he
        · (refine Ent.of rfl rfl (by rfl) ?_;(try (first|exact trivial|((with_reducible refine AllP.go ?_);dsimp only [AllP, appP];repeat' (first|refine And.intro ?_ ?_|exact zz)))))
      · have hne : l ≠ m := fun e => he (by rw [e])
        (repeat' (first|(with_reducible refine AllP.go ?_;first|exact og|((try simp only [OS]);repeat' (first|exact oj|refine And.intro ?_ ?_)))|(refine rg ?_ ?_)|(with_reducible first|refine stp ?_|refine tD rfl ?_)|(with_reducible first|exact PanicOk.body|exact rd.panic|refine PanicOk.then' ?_|refine PanicOk.block ?_|refine PanicOk.jump ?_)|(refine dc ?_)|(refine dn ?_)|(refine TL.done (by rfl) ?_)|(refine TL.auto tysOk rfl ?_ (by rfl) ?_ ?_)|((refine TL.one (by rfl) ?_);first|(refine sm ?_ ?_)|(refine sp ?_ ?_))|(refine sm ?_ ?_)|refine ct ?_|refine cf ?_|((first|refine gs ?_ ?_|refine gl ?_ ?_|refine gc ?_ ?_)<;>intro h<;>(try simp only [NS] at h)<;>(try exact xf)<;>(try refine rn ?_ ?_))))
        (refine TE.ret' io rfl tysOk (()) ?_ rfl (by rfl) ?_;all_goals (try (first|exact trivial|((with_reducible refine AllP.go ?_);dsimp only [AllP, appP];repeat' (first|refine And.intro ?_ ?_|exact zz)))))
        exact congrArg Value.bool (decide_eq_false hne).symm
    · have heq : l = m := plist_eq_of hlm fun k hk => hg k (by omega)
      (repeat' (first|(with_reducible refine AllP.go ?_;first|exact og|((try simp only [OS]);repeat' (first|exact oj|refine And.intro ?_ ?_)))|(refine rg ?_ ?_)|(with_reducible first|refine stp ?_|refine tD rfl ?_)|(with_reducible first|exact PanicOk.body|exact rd.panic|refine PanicOk.then' ?_|refine PanicOk.block ?_|refine PanicOk.jump ?_)|(refine dc ?_)|(refine dn ?_)|(refine TL.done (by rfl) ?_)|(refine TL.auto tysOk rfl ?_ (by rfl) ?_ ?_)|((refine TL.one (by rfl) ?_);first|(refine sm ?_ ?_)|(refine sp ?_ ?_))|(refine sm ?_ ?_)|refine ct ?_|refine cf ?_|((first|refine gs ?_ ?_|refine gl ?_ ?_|refine gc ?_ ?_)<;>intro h<;>(try simp only [NS] at h)<;>(try exact xf)<;>(try refine rn ?_ ?_))))
      (refine TE.ret' io rfl tysOk (()) ?_ rfl (by rfl) ?_;all_goals (try (first|exact trivial|((with_reducible refine AllP.go ?_);dsimp only [AllP, appP];repeat' (first|refine And.intro ?_ ?_|exact zz)))))
      exact congrArg Value.bool (decide_eq_true heq).symm
  · have hne : l ≠ m := fun e => hlm (by rw [e])
    (repeat' (first|(with_reducible refine AllP.go ?_;first|exact og|((try simp only [OS]);repeat' (first|exact oj|refine And.intro ?_ ?_)))|(refine rg ?_ ?_)|(with_reducible first|refine stp ?_|refine tD rfl ?_)|(with_reducible first|exact PanicOk.body|exact rd.panic|refine PanicOk.then' ?_|refine PanicOk.block ?_|refine PanicOk.jump ?_)|(refine dc ?_)|(refine dn ?_)|(refine TL.done (by rfl) ?_)|(refine TL.auto tysOk rfl ?_ (by rfl) ?_ ?_)|((refine TL.one (by rfl) ?_);first|(refine sm ?_ ?_)|(refine sp ?_ ?_))|(refine sm ?_ ?_)|refine ct ?_|refine cf ?_|((first|refine gs ?_ ?_|refine gl ?_ ?_|refine gc ?_ ?_)<;>intro h<;>(try simp only [NS] at h)<;>(try exact xf)<;>(try refine rn ?_ ?_))))
    (refine TE.ret' io rfl tysOk (()) ?_ rfl (by rfl) ?_;all_goals (try (first|exact trivial|((with_reducible refine AllP.go ?_);dsimp only [AllP, appP];repeat' (first|refine And.intro ?_ ?_|exact zz)))))
    exact congrArg Value.bool (decide_eq_false hne).symm
set_option maxRecDepth 20000 in
theorem equalS_c (l m : List ByteArray) (hl : l.length ≤ 1000000) (hm : m.length ≤ 1000000) : Con Try.prog 45 [.o (.ro 1 l.length (paC l).cell), .o (.ro 1 m.length (paC m).cell)] [] 0 0 U (fun _ => .o (.sb (decide (l = m)))) G0 := by
  refine con_of Try.func45 rfl (by kernel_rfl) Try.ntmps45 rfl (by first | exact Nat.zero_le _ | decide) (fun _ => ⟨rfl, rfl⟩) fun w S ν => ?_
  by_cases hlm : l.length = m.length
  · (repeat' (first|(with_reducible refine AllP.go ?_;first|exact og|((try simp only [OS]);repeat' (first|exact oj|refine And.intro ?_ ?_)))|(refine rg ?_ ?_)|(with_reducible first|refine stp ?_|refine tD rfl ?_)|(with_reducible first|exact PanicOk.body|exact rd.panic|refine PanicOk.then' ?_|refine PanicOk.block ?_|refine PanicOk.jump ?_)|(refine dc ?_)|(refine dn ?_)|(refine TL.done (by rfl) ?_)|(refine TL.auto tysOk rfl ?_ (by rfl) ?_ ?_)|((refine TL.one (by rfl) ?_);first|(refine sm ?_ ?_)|(refine sp ?_ ?_))|(refine sm ?_ ?_)|refine ct ?_|refine cf ?_|((first|refine gs ?_ ?_|refine gl ?_ ?_|refine gc ?_ ?_)<;>intro h<;>(try simp only [NS] at h)<;>(try exact xf)<;>(try refine rn ?_ ?_))))
    refine TE.loopG (fun q : Nat => q ≤ l.length ∧ ∀ j, j < q → l.getD j eS = m.getD j eS) (fun q => [(13, .o (.c (.int .i64 q)))]) [] (fun _ => []) (fun q => l.length - q) 0 (by rfl) ⟨Nat.zero_le _, fun j hj => absurd hj (Nat.not_lt_zero _)⟩ ?_ ?_
    · (refine Ent.of rfl rfl (by rfl) ?_;(try (first|exact trivial|((with_reducible refine AllP.go ?_);dsimp only [AllP, appP];repeat' (first|refine And.intro ?_ ?_|exact zz)))))
    rintro q ⟨hq, hg⟩
    by_cases hlt : q < l.length
    · by_cases he : l.getD q eS = m.getD q eS
      · (repeat' (first|(with_reducible refine AllP.go ?_;first|exact og|((try simp only [OS]);repeat' (first|exact oj|refine And.intro ?_ ?_)))|(refine rg ?_ ?_)|(with_reducible first|refine stp ?_|refine tD rfl ?_)|(with_reducible first|exact PanicOk.body|exact rd.panic|refine PanicOk.then' ?_|refine PanicOk.block ?_|refine PanicOk.jump ?_)|(refine dc ?_)|(refine dn ?_)|(refine TL.done (by rfl) ?_)|(refine TL.auto tysOk rfl ?_ (by rfl) ?_ ?_)|((refine TL.one (by rfl) ?_);first|(refine sm ?_ ?_)|(refine sp ?_ ?_))|(refine sm ?_ ?_)|refine ct ?_|refine cf ?_|((first|refine gs ?_ ?_|refine gl ?_ ?_|refine gc ?_ ?_)<;>intro h<;>(try simp only [NS] at h)<;>(try exact xf)<;>(try refine rn ?_ ?_))))
        refine TE.again' (q + 1) ⟨by omega, fun j hj => ?_⟩ (by omega) ?_
        · rcases Nat.lt_or_ge j q with h5 | h5
          · exact hg j h5
          · obtain rfl : j = q := by omega
            exact he
        · (refine Ent.of rfl rfl (by rfl) ?_;(try (first|exact trivial|((with_reducible refine AllP.go ?_);dsimp only [AllP, appP];repeat' (first|refine And.intro ?_ ?_|exact zz)))))
      · have hne : l ≠ m := fun e => he (by rw [e])
        (repeat' (first|(with_reducible refine AllP.go ?_;first|exact og|((try simp only [OS]);repeat' (first|exact oj|refine And.intro ?_ ?_)))|(refine rg ?_ ?_)|(with_reducible first|refine stp ?_|refine tD rfl ?_)|(with_reducible first|exact PanicOk.body|exact rd.panic|refine PanicOk.then' ?_|refine PanicOk.block ?_|refine PanicOk.jump ?_)|(refine dc ?_)|(refine dn ?_)|(refine TL.done (by rfl) ?_)|(refine TL.auto tysOk rfl ?_ (by rfl) ?_ ?_)|((refine TL.one (by rfl) ?_);first|(refine sm ?_ ?_)|(refine sp ?_ ?_))|(refine sm ?_ ?_)|refine ct ?_|refine cf ?_|((first|refine gs ?_ ?_|refine gl ?_ ?_|refine gc ?_ ?_)<;>intro h<;>(try simp only [NS] at h)<;>(try exact xf)<;>(try refine rn ?_ ?_))))
        (refine TE.ret' io rfl tysOk (()) ?_ rfl (by rfl) ?_;all_goals (try (first|exact trivial|((with_reducible refine AllP.go ?_);dsimp only [AllP, appP];repeat' (first|refine And.intro ?_ ?_|exact zz)))))
        exact congrArg Value.bool (decide_eq_false hne).symm
    · have heq : l = m := plist_eq_of hlm fun k hk => hg k (by omega)
      (repeat' (first|(with_reducible refine AllP.go ?_;first|exact og|((try simp only [OS]);repeat' (first|exact oj|refine And.intro ?_ ?_)))|(refine rg ?_ ?_)|(with_reducible first|refine stp ?_|refine tD rfl ?_)|(with_reducible first|exact PanicOk.body|exact rd.panic|refine PanicOk.then' ?_|refine PanicOk.block ?_|refine PanicOk.jump ?_)|(refine dc ?_)|(refine dn ?_)|(refine TL.done (by rfl) ?_)|(refine TL.auto tysOk rfl ?_ (by rfl) ?_ ?_)|((refine TL.one (by rfl) ?_);first|(refine sm ?_ ?_)|(refine sp ?_ ?_))|(refine sm ?_ ?_)|refine ct ?_|refine cf ?_|((first|refine gs ?_ ?_|refine gl ?_ ?_|refine gc ?_ ?_)<;>intro h<;>(try simp only [NS] at h)<;>(try exact xf)<;>(try refine rn ?_ ?_))))
      (refine TE.ret' io rfl tysOk (()) ?_ rfl (by rfl) ?_;all_goals (try (first|exact trivial|((with_reducible refine AllP.go ?_);dsimp only [AllP, appP];repeat' (first|refine And.intro ?_ ?_|exact zz)))))
      exact congrArg Value.bool (decide_eq_true heq).symm
  · have hne : l ≠ m := fun e => hlm (by rw [e])
    (repeat' (first|(with_reducible refine AllP.go ?_;first|exact og|((try simp only [OS]);repeat' (first|exact oj|refine And.intro ?_ ?_)))|(refine rg ?_ ?_)|(with_reducible first|refine stp ?_|refine tD rfl ?_)|(with_reducible first|exact PanicOk.body|exact rd.panic|refine PanicOk.then' ?_|refine PanicOk.block ?_|refine PanicOk.jump ?_)|(refine dc ?_)|(refine dn ?_)|(refine TL.done (by rfl) ?_)|(refine TL.auto tysOk rfl ?_ (by rfl) ?_ ?_)|((refine TL.one (by rfl) ?_);first|(refine sm ?_ ?_)|(refine sp ?_ ?_))|(refine sm ?_ ?_)|refine ct ?_|refine cf ?_|((first|refine gs ?_ ?_|refine gl ?_ ?_|refine gc ?_ ?_)<;>intro h<;>(try simp only [NS] at h)<;>(try exact xf)<;>(try refine rn ?_ ?_))))
    (refine TE.ret' io rfl tysOk (()) ?_ rfl (by rfl) ?_;all_goals (try (first|exact trivial|((with_reducible refine AllP.go ?_);dsimp only [AllP, appP];repeat' (first|refine And.intro ?_ ?_|exact zz)))))
    exact congrArg Value.bool (decide_eq_false hne).symm
set_option maxRecDepth 20000 in
theorem above_c (l : List Bn) (i : Nat) (hi : i < l.length) (hl : l.length ≤ 1000000) : Con Try.prog 56 [.o (.ro 10 l.length (bnC l).cell), .o (.c (.int .i64 i))] [] 0 0 U (fun _ => .o (.c (.int .i64 (aboveI (nds l) i)))) G0 := by
  refine con_of Try.func56 rfl (by kernel_rfl) Try.ntmps56 rfl (by first | exact Nat.zero_le _ | decide) (fun _ => ⟨rfl, rfl⟩) fun w S ν => ?_
  have hnl : (nds l).length = l.length := List.length_map ..
  obtain ⟨d, hd⟩ : ∃ d, d = ((nds l).getD i n0).depth := ⟨_, rfl⟩
  have hd2 : (l.getD i b0).nd.depth = d := by rw [hd, nds_getD]
  have hA : aboveI (nds l) i = aboveR d ((nds l).take i).reverse := by rw [hd]; rfl
  rw [hA]
  (repeat' (first|(with_reducible refine AllP.go ?_;first|exact og|((try simp only [OS]);repeat' (first|exact oj|refine And.intro ?_ ?_)))|(refine rg ?_ ?_)|(with_reducible first|refine stp ?_|refine tD rfl ?_)|(with_reducible first|exact PanicOk.body|exact rd.panic|refine PanicOk.then' ?_|refine PanicOk.block ?_|refine PanicOk.jump ?_)|(refine dc ?_)|(refine dn ?_)|(refine TL.done (by rfl) ?_)|(refine TL.auto tysOk rfl ?_ (by rfl) ?_ ?_)|((refine TL.one (by rfl) ?_);first|(refine sm ?_ ?_)|(refine sp ?_ ?_))|(refine sm ?_ ?_)|refine ct ?_|refine cf ?_|((first|refine gs ?_ ?_|refine gl ?_ ?_|refine gc ?_ ?_)<;>intro h<;>(try simp only [NS] at h)<;>(try exact xf)<;>(try refine rn ?_ ?_))))
  refine TE.loopG (fun q : Nat => q ≤ i ∧ aboveR d ((nds l).take i).reverse = aboveR d ((nds l).take q).reverse) (fun q => [(5, .o (.c (.int .i64 ((q : Int) - 1))))]) [] (fun _ => []) (fun q => q) i (by rfl) ⟨Nat.le_refl _, rfl⟩ ?_ ?_
  · (refine Ent.of rfl rfl (by rfl) ?_;(try (first|exact trivial|((with_reducible refine AllP.go ?_);dsimp only [AllP, appP];repeat' (first|refine And.intro ?_ ?_|exact zz)))))
  rintro q ⟨hq, hg⟩
  by_cases hq0 : q = 0
  · subst hq0
    rw [hg]
    (repeat' (first|(with_reducible refine AllP.go ?_;first|exact og|((try simp only [OS]);repeat' (first|exact oj|refine And.intro ?_ ?_)))|(refine rg ?_ ?_)|(with_reducible first|refine stp ?_|refine tD rfl ?_)|(with_reducible first|exact PanicOk.body|exact rd.panic|refine PanicOk.then' ?_|refine PanicOk.block ?_|refine PanicOk.jump ?_)|(refine dc ?_)|(refine dn ?_)|(refine TL.done (by rfl) ?_)|(refine TL.auto tysOk rfl ?_ (by rfl) ?_ ?_)|((refine TL.one (by rfl) ?_);first|(refine sm ?_ ?_)|(refine sp ?_ ?_))|(refine sm ?_ ?_)|refine ct ?_|refine cf ?_|((first|refine gs ?_ ?_|refine gl ?_ ?_|refine gc ?_ ?_)<;>intro h<;>(try simp only [NS] at h)<;>(try exact xf)<;>(try refine rn ?_ ?_))))
    (refine TE.ret' io rfl tysOk (()) ?_ rfl (by rfl) ?_;all_goals (try (first|exact trivial|((with_reducible refine AllP.go ?_);dsimp only [AllP, appP];repeat' (first|refine And.intro ?_ ?_|exact zz)))))
  obtain ⟨p, rfl⟩ : ∃ p, q = p + 1 := ⟨q - 1, by omega⟩
  have hx : l.getD (((p + 1 : Nat) : Int) - 1).toNat b0 = l.getD p b0 := by rw [show (((p + 1 : Nat) : Int) - 1).toNat = p by omega]
  have hxd : (l.getD (((p + 1 : Nat) : Int) - 1).toNat b0).nd.depth = (l.getD p b0).nd.depth := by rw [hx]
  have hpd : ((nds l).getD p n0).depth = (l.getD p b0).nd.depth := by rw [nds_getD]
  by_cases c1 : (l.getD p b0).nd.depth < d
  · rw [hg, above_lo (by omega) (by omega)]
    (repeat' (first|(with_reducible refine AllP.go ?_;first|exact og|((try simp only [OS]);repeat' (first|exact oj|refine And.intro ?_ ?_)))|(refine rg ?_ ?_)|(with_reducible first|refine stp ?_|refine tD rfl ?_)|(with_reducible first|exact PanicOk.body|exact rd.panic|refine PanicOk.then' ?_|refine PanicOk.block ?_|refine PanicOk.jump ?_)|(refine dc ?_)|(refine dn ?_)|(refine TL.done (by rfl) ?_)|(refine TL.auto tysOk rfl ?_ (by rfl) ?_ ?_)|((refine TL.one (by rfl) ?_);first|(refine sm ?_ ?_)|(refine sp ?_ ?_))|(refine sm ?_ ?_)|refine ct ?_|refine cf ?_|((first|refine gs ?_ ?_|refine gl ?_ ?_|refine gc ?_ ?_)<;>intro h<;>(try simp only [NS] at h)<;>(try exact xf)<;>(try refine rn ?_ ?_))))
    (refine TE.ret' io rfl tysOk (()) ?_ rfl (by rfl) ?_;all_goals (try (first|exact trivial|((with_reducible refine AllP.go ?_);dsimp only [AllP, appP];repeat' (first|refine And.intro ?_ ?_|exact zz)))))
  · have h2 := above_hi (l := nds l) (q := p) (d := d) (by omega) (by omega)
    (repeat' (first|(with_reducible refine AllP.go ?_;first|exact og|((try simp only [OS]);repeat' (first|exact oj|refine And.intro ?_ ?_)))|(refine rg ?_ ?_)|(with_reducible first|refine stp ?_|refine tD rfl ?_)|(with_reducible first|exact PanicOk.body|exact rd.panic|refine PanicOk.then' ?_|refine PanicOk.block ?_|refine PanicOk.jump ?_)|(refine dc ?_)|(refine dn ?_)|(refine TL.done (by rfl) ?_)|(refine TL.auto tysOk rfl ?_ (by rfl) ?_ ?_)|((refine TL.one (by rfl) ?_);first|(refine sm ?_ ?_)|(refine sp ?_ ?_))|(refine sm ?_ ?_)|refine ct ?_|refine cf ?_|((first|refine gs ?_ ?_|refine gl ?_ ?_|refine gc ?_ ?_)<;>intro h<;>(try simp only [NS] at h)<;>(try exact xf)<;>(try refine rn ?_ ?_))))
    refine TE.again' p ⟨by omega, by rw [hg, h2]⟩ (by omega) ?_
    (refine Ent.of rfl rfl (by rfl) ?_;(try (first|exact trivial|((with_reducible refine AllP.go ?_);dsimp only [AllP, appP];repeat' (first|refine And.intro ?_ ?_|exact zz)))))
end Go.Proofs.Ythhpofehcnjmmaa.Am
set_option linter.unusedSimpArgs false
set_option linter.unusedVariables false
namespace Go.Proofs.Ythhpofehcnjmmaa.Am
open Go.RowKit Lw
open Br
set_option maxRecDepth 20000 in
set_option maxHeartbeats 4000000 in
theorem rpath_c (l : List Nd) (hl : l.length ≤ 1000000) (hT : Tok l) : ∀ i, i < l.length → Con Try.prog 51 [.o (.ro 8 l.length (ndC l).cell), .o (.c (.int .i64 i))] [] 0 1 U (fun _ => .o (.own 0)) (fun _ => [.own 0 9 1 (paC (pathI l i))]) := by
  intro i
  induction i using Nat.strongRecOn with
  | ind i ih =>
  intro hi
  refine con_of Try.func51 rfl (by kernel_rfl) Try.ntmps51 rfl (by first | exact Nat.zero_le _ | decide) (fun _ => ⟨rfl, rfl⟩) fun w S ν => ?_
  by_cases h0 : i = 0
  · subst h0
    (repeat' (first|(with_reducible refine AllP.go ?_;first|exact og|((try simp only [OS]);repeat' (first|exact oj|refine And.intro ?_ ?_)))|(refine rg ?_ ?_)|(with_reducible first|refine stp ?_|refine tD rfl ?_)|refine ct ?_|refine cf ?_|((first|refine gs ?_ ?_|refine gl ?_ ?_|refine gc ?_ ?_)<;>intro h<;>(try simp only [NS] at h)<;>(try exact xf)<;>(try refine rn ?_ ?_))))
    refine TE.nilOwn 4 9 1 (by rfl) ?_
    (refine TE.ret' io rfl tysOk (()) ?_ rfl (by rfl) ?_;all_goals (try (first|exact trivial|((with_reducible refine AllP.go ?_);dsimp only [AllP, appP];repeat' (first|refine And.intro ?_ ?_|exact zz)))))
    exact LeDC.nil rfl rfl
  obtain ⟨k1, k2⟩ := above_pos hT (by omega) hi
  have hpu := path_up (by omega) hi k1
  obtain ⟨d, hd⟩ : ∃ d, d = (l.getD i n0).depth := ⟨_, rfl⟩
  have hA : aboveI l i = aboveR d (l.take i).reverse := by rw [hd]; rfl
  obtain ⟨k, hk⟩ : ∃ k : Nat, aboveI l i = k := ⟨(aboveI l i).toNat, by omega⟩
  rw [hk] at hA hpu k2
  rw [Int.toNat_natCast] at hpu
  (repeat' (first|(with_reducible refine AllP.go ?_;first|exact og|((try simp only [OS]);repeat' (first|exact oj|refine And.intro ?_ ?_)))|(refine rg ?_ ?_)|(with_reducible first|refine stp ?_|refine tD rfl ?_)|refine ct ?_|refine cf ?_|((first|refine gs ?_ ?_|refine gl ?_ ?_|refine gc ?_ ?_)<;>intro h<;>(try simp only [NS] at h)<;>(try exact xf)<;>(try refine rn ?_ ?_))))
  refine TE.loopG (fun q : Nat => q ≤ i ∧ 0 < q ∧ aboveR d (l.take q).reverse = k) (fun q => [(5, .o (.c (.int .i64 ((q : Int) - 1))))]) [] (fun _ => []) (fun q => q) i (by rfl) ⟨Nat.le_refl _, by omega, hA.symm⟩ ?_ ?_
  · (refine Ent.of rfl rfl (by rfl) ?_;(try (first|exact trivial|((with_reducible refine AllP.go ?_);dsimp only [AllP, appP];repeat' (first|refine And.intro ?_ ?_|exact zz)))))
  rintro q ⟨hq, hq0, hg⟩
  obtain ⟨p, rfl⟩ : ∃ p, q = p + 1 := ⟨q - 1, by omega⟩
  have hx : l.getD (((p + 1 : Nat) : Int) - 1).toNat n0 = l.getD p n0 := by rw [show (((p + 1 : Nat) : Int) - 1).toNat = p by omega]
  have hxd : (l.getD (((p + 1 : Nat) : Int) - 1).toNat n0).depth = (l.getD p n0).depth := by rw [hx]
  by_cases c1 : (l.getD p n0).depth < d
  · rw [above_lo (by omega) c1] at hg
    obtain rfl : p = k := by omega
    (repeat' (first|(with_reducible refine AllP.go ?_;first|exact og|((try simp only [OS]);repeat' (first|exact oj|refine And.intro ?_ ?_)))|(refine rg ?_ ?_)|(with_reducible first|refine stp ?_|refine tD rfl ?_)|refine ct ?_|refine cf ?_|((first|refine gs ?_ ?_|refine gl ?_ ?_|refine gc ?_ ?_)<;>intro h<;>(try simp only [NS] at h)<;>(try exact xf)<;>(try refine rn ?_ ?_))))
    ((refine dn ?_);repeat' (first|(with_reducible refine AllP.go ?_;first|exact og|((try simp only [OS]);repeat' (first|exact oj|refine And.intro ?_ ?_)))|(with_reducible first|exact PanicOk.body|exact rd.panic|refine PanicOk.then' ?_|refine PanicOk.block ?_|refine PanicOk.jump ?_)|(refine TL.done (by rfl) ?_)|(refine TL.auto tysOk rfl ?_ (by rfl) ?_ ?_)|((refine TL.one (by rfl) ?_);first|(refine sm ?_ ?_)|(refine sp ?_ ?_))|(refine sm ?_ ?_)|((first|refine gl ?_ ?_|refine gc ?_ ?_)<;>intro h<;>(try simp only [NS] at h)<;>(try exact xf))))
    have hpl := (pcheck_iff.1 (path_ok hT p (by omega))).1
    (repeat' (first|(with_reducible refine AllP.go ?_;first|exact og|((try simp only [OS]);repeat' (first|exact oj|refine And.intro ?_ ?_)))|(refine rg ?_ ?_)|(with_reducible first|refine stp ?_|refine tD rfl ?_)|refine ct ?_|refine cf ?_|((first|refine gs ?_ ?_|refine gl ?_ ?_|refine gc ?_ ?_)<;>intro h<;>(try simp only [NS] at h)<;>(try exact xf)<;>(try refine rn ?_ ?_))))
    (refine TE.only [5, 1, 0] (by rfl) ?_)
    (refine TE.drawK (fun _ => false) (by rfl) (by rfl) (by rfl) ?_)
    (repeat' (first|(with_reducible refine AllP.go ?_;first|exact og|((try simp only [OS]);repeat' (first|exact oj|refine And.intro ?_ ?_)))|(with_reducible first|exact PanicOk.body|exact rd.panic|refine PanicOk.then' ?_|refine PanicOk.block ?_|refine PanicOk.jump ?_)|(refine TL.done (by rfl) ?_)|(refine TL.auto tysOk rfl ?_ (by rfl) ?_ ?_)|(refine sm ?_ ?_)|(refine sp ?_ ?_)|(refine TL.one (by rfl) ?_)|(refine TL.two (by rfl) ?_ ?_)|(refine TL.three (by rfl) ?_ ?_ ?_)|(refine TL.four (by rfl) ?_ ?_ ?_ ?_)))
    all_goals (refine StepL.callW (ih p (by omega) (by omega)) rfl rfl rfl rfl rfl (by rfl) (by (first|exact trivial|((with_reducible refine AllP.go ?_);dsimp only [AllP, appP];repeat' (first|refine And.intro ?_ ?_|exact zz|assumption)))) (by rfl) (by rfl) ?_;intro _ _;(repeat' (first|(with_reducible refine AllP.go ?_;first|exact og|((try simp only [OS]);repeat' (first|exact oj|refine And.intro ?_ ?_)))|(with_reducible first|exact PanicOk.body|exact rd.panic|refine PanicOk.then' ?_|refine PanicOk.block ?_|refine PanicOk.jump ?_)|(refine TL.done (by rfl) ?_)|(refine TL.auto tysOk rfl ?_ (by rfl) ?_ ?_)|(refine sm ?_ ?_)|(refine sp ?_ ?_)|(refine TL.one (by rfl) ?_)|(refine TL.two (by rfl) ?_ ?_)|(refine TL.three (by rfl) ?_ ?_ ?_)|(refine TL.four (by rfl) ?_ ?_ ?_ ?_))))
    all_goals first | omega | skip
    all_goals (repeat' (first|(with_reducible refine AllP.go ?_;first|exact og|((try simp only [OS]);repeat' (first|exact oj|refine And.intro ?_ ?_)))|(refine rg ?_ ?_)|(with_reducible first|refine stp ?_|refine tD rfl ?_)|refine ct ?_|refine cf ?_|((first|refine gs ?_ ?_|refine gl ?_ ?_|refine gc ?_ ?_)<;>intro h<;>(try simp only [NS] at h)<;>(try exact xf)<;>(try refine rn ?_ ?_))))
    all_goals (refine TE.ret' io rfl tysOk (()) ?_ rfl (by rfl) ?_;all_goals (try (first|exact trivial|((with_reducible refine AllP.go ?_);dsimp only [AllP, appP];repeat' (first|refine And.intro ?_ ?_|exact zz)))))
    all_goals exact listC_snoc _ hpu (nth1 rfl)
  · rw [above_hi (by omega) (by omega)] at hg
    have hp0 : 0 < p := by
      rcases Nat.eq_zero_or_pos p with e | e
      · subst e; simp [aboveR] at hg
      · exact e
    (repeat' (first|(with_reducible refine AllP.go ?_;first|exact og|((try simp only [OS]);repeat' (first|exact oj|refine And.intro ?_ ?_)))|(refine rg ?_ ?_)|(with_reducible first|refine stp ?_|refine tD rfl ?_)|refine ct ?_|refine cf ?_|((first|refine gs ?_ ?_|refine gl ?_ ?_|refine gc ?_ ?_)<;>intro h<;>(try simp only [NS] at h)<;>(try exact xf)<;>(try refine rn ?_ ?_))))
    ((refine dn ?_);repeat' (first|(with_reducible refine AllP.go ?_;first|exact og|((try simp only [OS]);repeat' (first|exact oj|refine And.intro ?_ ?_)))|(with_reducible first|exact PanicOk.body|exact rd.panic|refine PanicOk.then' ?_|refine PanicOk.block ?_|refine PanicOk.jump ?_)|(refine TL.done (by rfl) ?_)|(refine TL.auto tysOk rfl ?_ (by rfl) ?_ ?_)|((refine TL.one (by rfl) ?_);first|(refine sm ?_ ?_)|(refine sp ?_ ?_))|(refine sm ?_ ?_)|((first|refine gl ?_ ?_|refine gc ?_ ?_)<;>intro h<;>(try simp only [NS] at h)<;>(try exact xf))))
    (repeat' (first|(with_reducible refine AllP.go ?_;first|exact og|((try simp only [OS]);repeat' (first|exact oj|refine And.intro ?_ ?_)))|(refine rg ?_ ?_)|(with_reducible first|refine stp ?_|refine tD rfl ?_)|refine ct ?_|refine cf ?_|((first|refine gs ?_ ?_|refine gl ?_ ?_|refine gc ?_ ?_)<;>intro h<;>(try simp only [NS] at h)<;>(try exact xf)<;>(try refine rn ?_ ?_))))
    refine TE.again' p ⟨by omega, hp0, hg⟩ (by omega) ?_
    (refine Ent.of rfl rfl (by rfl) ?_;(try (first|exact trivial|((with_reducible refine AllP.go ?_);dsimp only [AllP, appP];repeat' (first|refine And.intro ?_ ?_|exact zz)))))
end Go.Proofs.Ythhpofehcnjmmaa.Am
set_option linter.unusedSimpArgs false
set_option linter.unusedVariables false
namespace Go.Proofs.Ythhpofehcnjmmaa.Am
open Go.RowKit Lw
open Br
def okB (x : Bn) : Prop := okR x.nd ∧ x.red.length ≤ 1000000 ∧ ∀ s ∈ x.red, s.size ≤ 1000000000
set_option maxRecDepth 20000 in
set_option maxHeartbeats 4000000 in
theorem rmarks_c (l : List Bn) (i : Nat) (hi : i < l.length) (hl : l.length ≤ 1000000) (hx : ∀ x ∈ l, okB x) (hT : Tok (nds l)) : Con Try.prog 47 [.o (.ro 10 l.length (bnC l).cell), .o (.c (.int .i64 i))] [] 0 0 U (fun _ => .o (.c (.int .i64 (marksE l i)))) G0 := by
  refine con_of Try.func47 rfl (by kernel_rfl) Try.ntmps47 rfl (by first | exact Nat.zero_le _ | decide) (fun _ => ⟨rfl, rfl⟩) fun w S ν => ?_
  obtain ⟨x1, x2, x3⟩ := hx _ (getD_mem (d := b0) hi)
  have hmE := marksE_X l i
  have hrl : (l.getD i b0).red = [] ↔ (l.getD i b0).red.length = 0 := List.length_eq_zero_iff.symm
  have hti : (nds l).length = l.length := List.length_map ..
  have hxn : ∀ x ∈ l, lenN x.nd := fun x h => (hx x h).1.1
  (refine TE.seq ?_; (refine TE.rgo tysOk rfl (by rfl) (by (first | exact trivial | exact fun i _ => ⟨_, rfl⟩ | ((try simp only [OS]); repeat' (first | omega | exact fun i _ => ⟨_, rfl⟩ | refine And.intro ?_ ?_)))) ?_); refine TE.done ?_; refine TE.thenN ?_)
  (refine TE.seq ?_; (refine TE.rgo tysOk rfl (by rfl) (by (first | exact trivial | exact fun i _ => ⟨_, rfl⟩ | ((try simp only [OS]); repeat' (first | omega | exact fun i _ => ⟨_, rfl⟩ | refine And.intro ?_ ?_)))) ?_); refine TE.done ?_; refine TE.thenN ?_)
  cases ho : (l.getD i b0).opq
  · rw [show (l.getD ((i : Nat) : Int).toNat b0).opq = false from ho]
    by_cases hr : (l.getD i b0).red = []
    · have hr0 := hrl.1 hr
      rw [marksX_none hr ho] at hmE
      rw [hmE]
      by_cases h5 : (l.getD i b0).nd.kind = 5
      · have hi0 : 0 < i := by
          rcases Nat.eq_zero_or_pos i with e | e
          · subst e
            have := (node_zero ((tok_node hT).2.2 0 (by omega))).1
            rw [nds_getD] at this
            unfold placeE at this
            simp only [List.take_zero, List.reverse_nil] at this
            split at this
            · exact absurd this (by decide)
            · omega
          · exact e
        obtain ⟨a1, a2⟩ := above_pos hT hi0 (by omega)
        have hac := above_c l i hi hl
        obtain ⟨k, hk⟩ : ∃ k : Nat, aboveI (nds l) i = k := ⟨(aboveI (nds l) i).toNat, by omega⟩
        have hu : opqAt l (aboveI (nds l) i) = (l.getD k b0).opq := by rw [hk]; unfold opqAt; simp
        rw [hu]
        rw [hk] at a1 a2 hac
        (repeat' (first|(with_reducible refine AllP.go ?_;first|exact og|((try simp only [OS]);repeat' (first|exact oj|refine And.intro ?_ ?_)))|(refine rg ?_ ?_)|(with_reducible first|refine stp ?_|refine tD rfl ?_)|refine ct ?_|refine cf ?_|((first|refine gs ?_ ?_|refine gl ?_ ?_|refine gc ?_ ?_)<;>intro h<;>(try simp only [NS] at h)<;>(try exact xf)<;>(try refine rn ?_ ?_))))
        refine TE.callW (hac) rfl (by rfl) (by rfl) rfl (by rfl) (by (first|exact trivial|((with_reducible refine AllP.go ?_);dsimp only [AllP, appP];repeat' (first|refine And.intro ?_ ?_|exact zz|assumption)))) ?_
        intro _ _
        ((refine rn ?_ ?_);(repeat' (first|(with_reducible refine AllP.go ?_;first|exact og|((try simp only [OS]);repeat' (first|exact oj|refine And.intro ?_ ?_)))|(refine rg ?_ ?_)|(with_reducible first|refine stp ?_|refine tD rfl ?_)|refine ct ?_|refine cf ?_|((first|refine gs ?_ ?_|refine gl ?_ ?_|refine gc ?_ ?_)<;>intro h<;>(try simp only [NS] at h)<;>(try exact xf)<;>(try refine rn ?_ ?_)))))
        rw [show (l.getD ((k : Nat) : Int).toNat b0).opq = (l.getD k b0).opq from rfl]
        cases hok : (l.getD k b0).opq
        · rw [if_neg (by simp)]
          (repeat' (first|(with_reducible refine AllP.go ?_;first|exact og|((try simp only [OS]);repeat' (first|exact oj|refine And.intro ?_ ?_)))|(refine rg ?_ ?_)|(with_reducible first|refine stp ?_|refine tD rfl ?_)|refine ct ?_|refine cf ?_|((first|refine gs ?_ ?_|refine gl ?_ ?_|refine gc ?_ ?_)<;>intro h<;>(try simp only [NS] at h)<;>(try exact xf)<;>(try refine rn ?_ ?_))))
          (refine TE.ret' io rfl tysOk (()) ?_ rfl (by rfl) ?_;all_goals (try (first|exact trivial|((with_reducible refine AllP.go ?_);dsimp only [AllP, appP];repeat' (first|refine And.intro ?_ ?_|exact zz)))))
        · rw [if_pos ⟨h5, rfl⟩]
          (repeat' (first|(with_reducible refine AllP.go ?_;first|exact og|((try simp only [OS]);repeat' (first|exact oj|refine And.intro ?_ ?_)))|(refine rg ?_ ?_)|(with_reducible first|refine stp ?_|refine tD rfl ?_)|refine ct ?_|refine cf ?_|((first|refine gs ?_ ?_|refine gl ?_ ?_|refine gc ?_ ?_)<;>intro h<;>(try simp only [NS] at h)<;>(try exact xf)<;>(try refine rn ?_ ?_))))
          (refine TE.ret' io rfl tysOk (()) ?_ rfl (by rfl) ?_;all_goals (try (first|exact trivial|((with_reducible refine AllP.go ?_);dsimp only [AllP, appP];repeat' (first|refine And.intro ?_ ?_|exact zz)))))
      · rw [if_neg (fun k => h5 k.1)]
        (repeat' (first|(with_reducible refine AllP.go ?_;first|exact og|((try simp only [OS]);repeat' (first|exact oj|refine And.intro ?_ ?_)))|(refine rg ?_ ?_)|(with_reducible first|refine stp ?_|refine tD rfl ?_)|refine ct ?_|refine cf ?_|((first|refine gs ?_ ?_|refine gl ?_ ?_|refine gc ?_ ?_)<;>intro h<;>(try simp only [NS] at h)<;>(try exact xf)<;>(try refine rn ?_ ?_))))
        all_goals (refine TE.callW (above_c l i hi hl) rfl (by rfl) (by rfl) rfl (by rfl) (by (first|exact trivial|((with_reducible refine AllP.go ?_);dsimp only [AllP, appP];repeat' (first|refine And.intro ?_ ?_|exact zz|assumption)))) ?_;intro _ _;((refine rn ?_ ?_);(repeat' (first|(with_reducible refine AllP.go ?_;first|exact og|((try simp only [OS]);repeat' (first|exact oj|refine And.intro ?_ ?_)))|(refine rg ?_ ?_)|(with_reducible first|refine stp ?_|refine tD rfl ?_)|refine ct ?_|refine cf ?_|((first|refine gs ?_ ?_|refine gl ?_ ?_|refine gc ?_ ?_)<;>intro h<;>(try simp only [NS] at h)<;>(try exact xf)<;>(try refine rn ?_ ?_))))))
        all_goals (refine TE.ret' io rfl tysOk (()) ?_ rfl (by rfl) ?_;all_goals (try (first|exact trivial|((with_reducible refine AllP.go ?_);dsimp only [AllP, appP];repeat' (first|refine And.intro ?_ ?_|exact zz)))))
    · have hr0 : 0 < (l.getD i b0).red.length := List.length_pos_iff.2 hr
      rw [marksX_red hr ho] at hmE
      rw [hmE]
      by_cases hk : (l.getD i b0).nd.kind = 1 ∧ i ≠ 0
      · rw [if_pos hk]
        have hc := prCheck_c (l.getD i b0).red x3 x2
        (repeat' (first|(with_reducible refine AllP.go ?_;first|exact og|((try simp only [OS]);repeat' (first|exact oj|refine And.intro ?_ ?_)))|(refine rg ?_ ?_)|(with_reducible first|refine stp ?_|refine tD rfl ?_)|refine ct ?_|refine cf ?_|((first|refine gs ?_ ?_|refine gl ?_ ?_|refine gc ?_ ?_)<;>intro h<;>(try simp only [NS] at h)<;>(try exact xf)<;>(try refine rn ?_ ?_))))
        refine TE.callW (hc) rfl (by rfl) (by rfl) rfl (by rfl) (by (first|exact trivial|((with_reducible refine AllP.go ?_);dsimp only [AllP, appP];repeat' (first|refine And.intro ?_ ?_|exact zz|assumption)))) ?_
        intro _ _
        by_cases hp : pcheckE (l.getD i b0).red ≠ 0
        · rw [if_pos hp]
          ((refine rn ?_ ?_);(repeat' (first|(with_reducible refine AllP.go ?_;first|exact og|((try simp only [OS]);repeat' (first|exact oj|refine And.intro ?_ ?_)))|(refine rg ?_ ?_)|(with_reducible first|refine stp ?_|refine tD rfl ?_)|refine ct ?_|refine cf ?_|((first|refine gs ?_ ?_|refine gl ?_ ?_|refine gc ?_ ?_)<;>intro h<;>(try simp only [NS] at h)<;>(try exact xf)<;>(try refine rn ?_ ?_)))))
          (refine TE.ret' io rfl tysOk (()) ?_ rfl (by rfl) ?_;all_goals (try (first|exact trivial|((with_reducible refine AllP.go ?_);dsimp only [AllP, appP];repeat' (first|refine And.intro ?_ ?_|exact zz)))))
        rw [if_neg hp]
        have hrt := rtree_c l hl hxn
        have hrp := rpath_c (nds l) (by omega) hT i (by omega)
        have hpl := (pcheck_iff.1 (path_ok hT i (by omega))).1
        have hrs := rsame_c (l.getD i b0).red (pathI (nds l) i) x2 (by omega)
        ((refine rn ?_ ?_);(repeat' (first|(with_reducible refine AllP.go ?_;first|exact og|((try simp only [OS]);repeat' (first|exact oj|refine And.intro ?_ ?_)))|(refine rg ?_ ?_)|(with_reducible first|refine stp ?_|refine tD rfl ?_)|refine ct ?_|refine cf ?_|((first|refine gs ?_ ?_|refine gl ?_ ?_|refine gc ?_ ?_)<;>intro h<;>(try simp only [NS] at h)<;>(try exact xf)<;>(try refine rn ?_ ?_)))))
        (refine TE.only [5, 1, 0] (by rfl) ?_)
        (refine TE.drawK (fun _ => false) (by rfl) (by rfl) (by rfl) ?_)
        (repeat' (first|(with_reducible refine AllP.go ?_;first|exact og|((try simp only [OS]);repeat' (first|exact oj|refine And.intro ?_ ?_)))|(with_reducible first|exact PanicOk.body|exact rd.panic|refine PanicOk.then' ?_|refine PanicOk.block ?_|refine PanicOk.jump ?_)|(refine TL.done (by rfl) ?_)|(refine TL.auto tysOk rfl ?_ (by rfl) ?_ ?_)|(refine sm ?_ ?_)|(refine sp ?_ ?_)|(refine TL.one (by rfl) ?_)|(refine TL.two (by rfl) ?_ ?_)|(refine TL.three (by rfl) ?_ ?_ ?_)|(refine TL.four (by rfl) ?_ ?_ ?_ ?_)))
        all_goals (refine StepL.callW (hrt) rfl rfl rfl rfl rfl (by rfl) (by (first|exact trivial|((with_reducible refine AllP.go ?_);dsimp only [AllP, appP];repeat' (first|refine And.intro ?_ ?_|exact zz|assumption)))) (by rfl) (by rfl) ?_;intro _ _;(repeat' (first|(with_reducible refine AllP.go ?_;first|exact og|((try simp only [OS]);repeat' (first|exact oj|refine And.intro ?_ ?_)))|(with_reducible first|exact PanicOk.body|exact rd.panic|refine PanicOk.then' ?_|refine PanicOk.block ?_|refine PanicOk.jump ?_)|(refine TL.done (by rfl) ?_)|(refine TL.auto tysOk rfl ?_ (by rfl) ?_ ?_)|(refine sm ?_ ?_)|(refine sp ?_ ?_)|(refine TL.one (by rfl) ?_)|(refine TL.two (by rfl) ?_ ?_)|(refine TL.three (by rfl) ?_ ?_ ?_)|(refine TL.four (by rfl) ?_ ?_ ?_ ?_))))
        all_goals (refine StepL.callW (hrp) rfl rfl rfl rfl rfl (by rfl) (by (first|exact trivial|((with_reducible refine AllP.go ?_);dsimp only [AllP, appP];repeat' (first|refine And.intro ?_ ?_|exact zz|assumption)))) (by rfl) (by rfl) ?_;intro _ _;(refine TL.freezeN 1 (by rfl) (by rfl) ?_);(repeat' (first|(with_reducible refine AllP.go ?_;first|exact og|((try simp only [OS]);repeat' (first|exact oj|refine And.intro ?_ ?_)))|(with_reducible first|exact PanicOk.body|exact rd.panic|refine PanicOk.then' ?_|refine PanicOk.block ?_|refine PanicOk.jump ?_)|(refine TL.done (by rfl) ?_)|(refine TL.auto tysOk rfl ?_ (by rfl) ?_ ?_)|(refine sm ?_ ?_)|(refine sp ?_ ?_)|(refine TL.one (by rfl) ?_)|(refine TL.two (by rfl) ?_ ?_)|(refine TL.three (by rfl) ?_ ?_ ?_)|(refine TL.four (by rfl) ?_ ?_ ?_ ?_))))
        all_goals (refine StepL.callW (hrs) rfl rfl rfl rfl rfl (by rfl) (by (first|exact trivial|((with_reducible refine AllP.go ?_);dsimp only [AllP, appP];repeat' (first|refine And.intro ?_ ?_|exact zz|assumption)))) (by rfl) (by rfl) ?_;intro _ _;(repeat' (first|(with_reducible refine AllP.go ?_;first|exact og|((try simp only [OS]);repeat' (first|exact oj|refine And.intro ?_ ?_)))|(with_reducible first|exact PanicOk.body|exact rd.panic|refine PanicOk.then' ?_|refine PanicOk.block ?_|refine PanicOk.jump ?_)|(refine TL.done (by rfl) ?_)|(refine TL.auto tysOk rfl ?_ (by rfl) ?_ ?_)|(refine sm ?_ ?_)|(refine sp ?_ ?_)|(refine TL.one (by rfl) ?_)|(refine TL.two (by rfl) ?_ ?_)|(refine TL.three (by rfl) ?_ ?_ ?_)|(refine TL.four (by rfl) ?_ ?_ ?_ ?_))))
        all_goals
          by_cases hpe : (l.getD i b0).red = pathI (nds l) i
          · rw [if_pos hpe]
            (repeat' (first|(with_reducible refine AllP.go ?_;first|exact og|((try simp only [OS]);repeat' (first|exact oj|refine And.intro ?_ ?_)))|(refine rg ?_ ?_)|(with_reducible first|refine stp ?_|refine tD rfl ?_)|refine ct ?_|refine cf ?_|((first|refine gs ?_ ?_|refine gl ?_ ?_|refine gc ?_ ?_)<;>intro h<;>(try simp only [NS] at h)<;>(try exact xf)<;>(try refine rn ?_ ?_))))
            (refine TE.ret' io rfl tysOk (()) ?_ rfl (by rfl) ?_;all_goals (try (first|exact trivial|((with_reducible refine AllP.go ?_);dsimp only [AllP, appP];repeat' (first|refine And.intro ?_ ?_|exact zz)))))
          rw [if_neg hpe]
          (repeat' (first|(with_reducible refine AllP.go ?_;first|exact og|((try simp only [OS]);repeat' (first|exact oj|refine And.intro ?_ ?_)))|(refine rg ?_ ?_)|(with_reducible first|refine stp ?_|refine tD rfl ?_)|refine ct ?_|refine cf ?_|((first|refine gs ?_ ?_|refine gl ?_ ?_|refine gc ?_ ?_)<;>intro h<;>(try simp only [NS] at h)<;>(try exact xf)<;>(try refine rn ?_ ?_))))
          (refine TE.only [7, 5, 1, 0] (by rfl) ?_)
          refine TE.loopG (fun q : Nat => q ≤ i ∧ ∀ j, j < q → (l.getD i b0).red ≠ (l.getD j b0).red) (fun q => [(7, .o (.c (.int .i64 q)))]) [] (fun _ => []) (fun q => i - q) 0 (by rfl) ⟨Nat.zero_le _, fun j hj => absurd hj (Nat.not_lt_zero _)⟩ ?_ ?_
          · (refine Ent.of rfl rfl (by rfl) ?_;(try (first|exact trivial|((with_reducible refine AllP.go ?_);dsimp only [AllP, appP];repeat' (first|refine And.intro ?_ ?_|exact zz)))))
          rintro q ⟨hq, hg⟩
          by_cases hlt : q < i
          · have hrq := rsame_c (l.getD i b0).red (l.getD q b0).red x2 (hx _ (getD_mem (d := b0) (by omega))).2.1
            by_cases he : (l.getD i b0).red = (l.getD q b0).red
            · rw [if_pos (dupB_at hlt hi he)]
              (repeat' (first|(with_reducible refine AllP.go ?_;first|exact og|((try simp only [OS]);repeat' (first|exact oj|refine And.intro ?_ ?_)))|(refine rg ?_ ?_)|(with_reducible first|refine stp ?_|refine tD rfl ?_)|refine ct ?_|refine cf ?_|((first|refine gs ?_ ?_|refine gl ?_ ?_|refine gc ?_ ?_)<;>intro h<;>(try simp only [NS] at h)<;>(try exact xf)<;>(try refine rn ?_ ?_))))
              (refine TE.drawK (fun _ => false) (by rfl) (by rfl) (by rfl) ?_)
              (repeat' (first|(with_reducible refine AllP.go ?_;first|exact og|((try simp only [OS]);repeat' (first|exact oj|refine And.intro ?_ ?_)))|(with_reducible first|exact PanicOk.body|exact rd.panic|refine PanicOk.then' ?_|refine PanicOk.block ?_|refine PanicOk.jump ?_)|(refine TL.done (by rfl) ?_)|(refine TL.auto tysOk rfl ?_ (by rfl) ?_ ?_)|(refine sm ?_ ?_)|(refine sp ?_ ?_)|(refine TL.one (by rfl) ?_)|(refine TL.two (by rfl) ?_ ?_)|(refine TL.three (by rfl) ?_ ?_ ?_)|(refine TL.four (by rfl) ?_ ?_ ?_ ?_)))
              all_goals (refine StepL.callW (hrq) rfl rfl rfl rfl rfl (by rfl) (by (first|exact trivial|((with_reducible refine AllP.go ?_);dsimp only [AllP, appP];repeat' (first|refine And.intro ?_ ?_|exact zz|assumption)))) (by rfl) (by rfl) ?_;intro _ _;(repeat' (first|(with_reducible refine AllP.go ?_;first|exact og|((try simp only [OS]);repeat' (first|exact oj|refine And.intro ?_ ?_)))|(with_reducible first|exact PanicOk.body|exact rd.panic|refine PanicOk.then' ?_|refine PanicOk.block ?_|refine PanicOk.jump ?_)|(refine TL.done (by rfl) ?_)|(refine TL.auto tysOk rfl ?_ (by rfl) ?_ ?_)|(refine sm ?_ ?_)|(refine sp ?_ ?_)|(refine TL.one (by rfl) ?_)|(refine TL.two (by rfl) ?_ ?_)|(refine TL.three (by rfl) ?_ ?_ ?_)|(refine TL.four (by rfl) ?_ ?_ ?_ ?_))))
              all_goals (repeat' (first|(with_reducible refine AllP.go ?_;first|exact og|((try simp only [OS]);repeat' (first|exact oj|refine And.intro ?_ ?_)))|(refine rg ?_ ?_)|(with_reducible first|refine stp ?_|refine tD rfl ?_)|refine ct ?_|refine cf ?_|((first|refine gs ?_ ?_|refine gl ?_ ?_|refine gc ?_ ?_)<;>intro h<;>(try simp only [NS] at h)<;>(try exact xf)<;>(try refine rn ?_ ?_))))
              all_goals (refine TE.ret' io rfl tysOk (()) ?_ rfl (by rfl) ?_;all_goals (try (first|exact trivial|((with_reducible refine AllP.go ?_);dsimp only [AllP, appP];repeat' (first|refine And.intro ?_ ?_|exact zz)))))
            · (repeat' (first|(with_reducible refine AllP.go ?_;first|exact og|((try simp only [OS]);repeat' (first|exact oj|refine And.intro ?_ ?_)))|(refine rg ?_ ?_)|(with_reducible first|refine stp ?_|refine tD rfl ?_)|refine ct ?_|refine cf ?_|((first|refine gs ?_ ?_|refine gl ?_ ?_|refine gc ?_ ?_)<;>intro h<;>(try simp only [NS] at h)<;>(try exact xf)<;>(try refine rn ?_ ?_))))
              (refine TE.drawK (fun _ => false) (by rfl) (by rfl) (by rfl) ?_)
              (repeat' (first|(with_reducible refine AllP.go ?_;first|exact og|((try simp only [OS]);repeat' (first|exact oj|refine And.intro ?_ ?_)))|(with_reducible first|exact PanicOk.body|exact rd.panic|refine PanicOk.then' ?_|refine PanicOk.block ?_|refine PanicOk.jump ?_)|(refine TL.done (by rfl) ?_)|(refine TL.auto tysOk rfl ?_ (by rfl) ?_ ?_)|(refine sm ?_ ?_)|(refine sp ?_ ?_)|(refine TL.one (by rfl) ?_)|(refine TL.two (by rfl) ?_ ?_)|(refine TL.three (by rfl) ?_ ?_ ?_)|(refine TL.four (by rfl) ?_ ?_ ?_ ?_)))
              all_goals (refine StepL.callW (hrq) rfl rfl rfl rfl rfl (by rfl) (by (first|exact trivial|((with_reducible refine AllP.go ?_);dsimp only [AllP, appP];repeat' (first|refine And.intro ?_ ?_|exact zz|assumption)))) (by rfl) (by rfl) ?_;intro _ _;(repeat' (first|(with_reducible refine AllP.go ?_;first|exact og|((try simp only [OS]);repeat' (first|exact oj|refine And.intro ?_ ?_)))|(with_reducible first|exact PanicOk.body|exact rd.panic|refine PanicOk.then' ?_|refine PanicOk.block ?_|refine PanicOk.jump ?_)|(refine TL.done (by rfl) ?_)|(refine TL.auto tysOk rfl ?_ (by rfl) ?_ ?_)|(refine sm ?_ ?_)|(refine sp ?_ ?_)|(refine TL.one (by rfl) ?_)|(refine TL.two (by rfl) ?_ ?_)|(refine TL.three (by rfl) ?_ ?_ ?_)|(refine TL.four (by rfl) ?_ ?_ ?_ ?_))))
              all_goals (repeat' (first|(with_reducible refine AllP.go ?_;first|exact og|((try simp only [OS]);repeat' (first|exact oj|refine And.intro ?_ ?_)))|(refine rg ?_ ?_)|(with_reducible first|refine stp ?_|refine tD rfl ?_)|refine ct ?_|refine cf ?_|((first|refine gs ?_ ?_|refine gl ?_ ?_|refine gc ?_ ?_)<;>intro h<;>(try simp only [NS] at h)<;>(try exact xf)<;>(try refine rn ?_ ?_))))
              all_goals refine TE.again' (q + 1) ⟨by omega, fun j hj => ?_⟩ (by omega) ?_
              all_goals first
                | (rcases Nat.lt_or_ge j q with h5 | h5
                   · exact hg j h5
                   · obtain rfl : j = q := by omega
                     exact he)
                | (refine Ent.of rfl rfl (by rfl) ?_;(try (first|exact trivial|((with_reducible refine AllP.go ?_);dsimp only [AllP, appP];repeat' (first|refine And.intro ?_ ?_|exact zz)))))
          · obtain rfl : q = i := by omega
            rw [if_neg (by rw [dupB_not (by omega) hg]; decide)]
            (repeat' (first|(with_reducible refine AllP.go ?_;first|exact og|((try simp only [OS]);repeat' (first|exact oj|refine And.intro ?_ ?_)))|(refine rg ?_ ?_)|(with_reducible first|refine stp ?_|refine tD rfl ?_)|refine ct ?_|refine cf ?_|((first|refine gs ?_ ?_|refine gl ?_ ?_|refine gc ?_ ?_)<;>intro h<;>(try simp only [NS] at h)<;>(try exact xf)<;>(try refine rn ?_ ?_))))
            refine TE.callW (above_c l q hi hl) rfl (by rfl) (by rfl) rfl (by rfl) (by (first|exact trivial|((with_reducible refine AllP.go ?_);dsimp only [AllP, appP];repeat' (first|refine And.intro ?_ ?_|exact zz|assumption)))) ?_
            intro _ _
            ((refine rn ?_ ?_);(repeat' (first|(with_reducible refine AllP.go ?_;first|exact og|((try simp only [OS]);repeat' (first|exact oj|refine And.intro ?_ ?_)))|(refine rg ?_ ?_)|(with_reducible first|refine stp ?_|refine tD rfl ?_)|refine ct ?_|refine cf ?_|((first|refine gs ?_ ?_|refine gl ?_ ?_|refine gc ?_ ?_)<;>intro h<;>(try simp only [NS] at h)<;>(try exact xf)<;>(try refine rn ?_ ?_)))))
            (refine TE.ret' io rfl tysOk (()) ?_ rfl (by rfl) ?_;all_goals (try (first|exact trivial|((with_reducible refine AllP.go ?_);dsimp only [AllP, appP];repeat' (first|refine And.intro ?_ ?_|exact zz)))))
      · rw [if_neg hk]
        (repeat' (first|(with_reducible refine AllP.go ?_;first|exact og|((try simp only [OS]);repeat' (first|exact oj|refine And.intro ?_ ?_)))|(refine rg ?_ ?_)|(with_reducible first|refine stp ?_|refine tD rfl ?_)|refine ct ?_|refine cf ?_|((first|refine gs ?_ ?_|refine gl ?_ ?_|refine gc ?_ ?_)<;>intro h<;>(try simp only [NS] at h)<;>(try exact xf)<;>(try refine rn ?_ ?_))))
        all_goals (refine TE.ret' io rfl tysOk (()) ?_ rfl (by rfl) ?_;all_goals (try (first|exact trivial|((with_reducible refine AllP.go ?_);dsimp only [AllP, appP];repeat' (first|refine And.intro ?_ ?_|exact zz)))))
  · rw [show (l.getD ((i : Nat) : Int).toNat b0).opq = true from ho]
    by_cases hr : (l.getD i b0).red = []
    · have hr0 := hrl.1 hr
      rw [marksX_opq hr ho] at hmE
      by_cases hk : (l.getD i b0).nd.kind = 1
      · rw [if_pos hk] at hmE
        rw [hmE]
        (repeat' (first|(with_reducible refine AllP.go ?_;first|exact og|((try simp only [OS]);repeat' (first|exact oj|refine And.intro ?_ ?_)))|(refine rg ?_ ?_)|(with_reducible first|refine stp ?_|refine tD rfl ?_)|refine ct ?_|refine cf ?_|((first|refine gs ?_ ?_|refine gl ?_ ?_|refine gc ?_ ?_)<;>intro h<;>(try simp only [NS] at h)<;>(try exact xf)<;>(try refine rn ?_ ?_))))
        all_goals (refine TE.callW (above_c l i hi hl) rfl (by rfl) (by rfl) rfl (by rfl) (by (first|exact trivial|((with_reducible refine AllP.go ?_);dsimp only [AllP, appP];repeat' (first|refine And.intro ?_ ?_|exact zz|assumption)))) ?_;intro _ _;((refine rn ?_ ?_);(repeat' (first|(with_reducible refine AllP.go ?_;first|exact og|((try simp only [OS]);repeat' (first|exact oj|refine And.intro ?_ ?_)))|(refine rg ?_ ?_)|(with_reducible first|refine stp ?_|refine tD rfl ?_)|refine ct ?_|refine cf ?_|((first|refine gs ?_ ?_|refine gl ?_ ?_|refine gc ?_ ?_)<;>intro h<;>(try simp only [NS] at h)<;>(try exact xf)<;>(try refine rn ?_ ?_))))))
        all_goals (refine TE.ret' io rfl tysOk (()) ?_ rfl (by rfl) ?_;all_goals (try (first|exact trivial|((with_reducible refine AllP.go ?_);dsimp only [AllP, appP];repeat' (first|refine And.intro ?_ ?_|exact zz)))))
      · rw [if_neg hk] at hmE
        rw [hmE]
        (repeat' (first|(with_reducible refine AllP.go ?_;first|exact og|((try simp only [OS]);repeat' (first|exact oj|refine And.intro ?_ ?_)))|(refine rg ?_ ?_)|(with_reducible first|refine stp ?_|refine tD rfl ?_)|refine ct ?_|refine cf ?_|((first|refine gs ?_ ?_|refine gl ?_ ?_|refine gc ?_ ?_)<;>intro h<;>(try simp only [NS] at h)<;>(try exact xf)<;>(try refine rn ?_ ?_))))
        (refine TE.ret' io rfl tysOk (()) ?_ rfl (by rfl) ?_;all_goals (try (first|exact trivial|((with_reducible refine AllP.go ?_);dsimp only [AllP, appP];repeat' (first|refine And.intro ?_ ?_|exact zz)))))
    · have hr0 : 0 < (l.getD i b0).red.length := List.length_pos_iff.2 hr
      rw [marksX_both hr ho] at hmE
      by_cases hk : (l.getD i b0).nd.kind = 1 ∧ i ≠ 0
      · rw [if_pos hk] at hmE
        rw [hmE]
        (repeat' (first|(with_reducible refine AllP.go ?_;first|exact og|((try simp only [OS]);repeat' (first|exact oj|refine And.intro ?_ ?_)))|(refine rg ?_ ?_)|(with_reducible first|refine stp ?_|refine tD rfl ?_)|refine ct ?_|refine cf ?_|((first|refine gs ?_ ?_|refine gl ?_ ?_|refine gc ?_ ?_)<;>intro h<;>(try simp only [NS] at h)<;>(try exact xf)<;>(try refine rn ?_ ?_))))
        all_goals (refine TE.ret' io rfl tysOk (()) ?_ rfl (by rfl) ?_;all_goals (try (first|exact trivial|((with_reducible refine AllP.go ?_);dsimp only [AllP, appP];repeat' (first|refine And.intro ?_ ?_|exact zz)))))
      · rw [if_neg hk] at hmE
        rw [hmE]
        (repeat' (first|(with_reducible refine AllP.go ?_;first|exact og|((try simp only [OS]);repeat' (first|exact oj|refine And.intro ?_ ?_)))|(refine rg ?_ ?_)|(with_reducible first|refine stp ?_|refine tD rfl ?_)|refine ct ?_|refine cf ?_|((first|refine gs ?_ ?_|refine gl ?_ ?_|refine gc ?_ ?_)<;>intro h<;>(try simp only [NS] at h)<;>(try exact xf)<;>(try refine rn ?_ ?_))))
        all_goals (refine TE.ret' io rfl tysOk (()) ?_ rfl (by rfl) ?_;all_goals (try (first|exact trivial|((with_reducible refine AllP.go ?_);dsimp only [AllP, appP];repeat' (first|refine And.intro ?_ ?_|exact zz)))))
end Go.Proofs.Ythhpofehcnjmmaa.Am
set_option linter.unusedSimpArgs false
set_option linter.unusedVariables false
namespace Go.Proofs.Ythhpofehcnjmmaa.Am
open Go.RowKit Lw
open Br
theorem checkB_bad {l : List Bn} {q : Nat} (hT : (checkT (nds l)).2 = 0) (hq : q < l.length) (h : ∀ j, j < q → marksE l j = 0) (he : marksE l q ≠ 0) : checkB l = ((q : Int), marksE l q) := by
  unfold checkB
  rw [if_neg (fun k => k hT), firstM_at l.length 0 q (Nat.zero_le _) (by omega) (fun j _ hj => h j hj) he]
theorem checkB_good {l : List Bn} (hT : (checkT (nds l)).2 = 0) (h : ∀ j, j < l.length → marksE l j = 0) : checkB l = (0, 0) := by
  unfold checkB
  rw [if_neg (fun k => k hT), firstM_none l.length 0 fun j _ hj => h j (by omega)]
set_option maxRecDepth 20000 in
set_option maxHeartbeats 4000000 in
theorem rcheckB_c (l : List Bn) (hl : l.length ≤ 1000000) (hx : ∀ x ∈ l, okB x) : Con Try.prog 14 [.o (.ro 10 l.length (bnC l).cell)] [] 0 0 U (fun _ => .t [.inl (.c (.int .i64 (checkB l).1)), .inl (.c (.int .i64 (checkB l).2))]) G0 := by
  refine con_of Try.func14 rfl (by kernel_rfl) Try.ntmps14 rfl (by first | exact Nat.zero_le _ | decide) (fun _ => ⟨rfl, rfl⟩) fun w S ν => ?_
  have hti : (nds l).length = l.length := List.length_map ..
  have hxn : ∀ x ∈ l, lenN x.nd := fun x h => (hx x h).1.1
  have hxr : ∀ x ∈ nds l, okR x := fun x h => by
    obtain ⟨y, hy, rfl⟩ := List.mem_map.1 h
    exact (hx y hy).1
  have hrt := rtree_c l hl hxn
  have hrc := rcheck_c (nds l) (by omega) hxr
  (repeat' (first|(with_reducible refine AllP.go ?_;first|exact og|((try simp only [OS]);repeat' (first|exact oj|refine And.intro ?_ ?_)))|(refine rg ?_ ?_)|(with_reducible first|refine stp ?_|refine tD rfl ?_)|refine ct ?_|refine cf ?_|((first|refine gs ?_ ?_|refine gl ?_ ?_|refine gc ?_ ?_)<;>intro h<;>(try simp only [NS] at h)<;>(try exact xf)<;>(try refine rn ?_ ?_))))
  refine TE.callW (hrt) rfl (by rfl) (by rfl) rfl (by rfl) (by (first|exact trivial|((with_reducible refine AllP.go ?_);dsimp only [AllP, appP];repeat' (first|refine And.intro ?_ ?_|exact zz|assumption)))) ?_
  intro _ _
  ((refine rn ?_ ?_);(repeat' (first|(with_reducible refine AllP.go ?_;first|exact og|((try simp only [OS]);repeat' (first|exact oj|refine And.intro ?_ ?_)))|(refine rg ?_ ?_)|(with_reducible first|refine stp ?_|refine tD rfl ?_)|refine ct ?_|refine cf ?_|((first|refine gs ?_ ?_|refine gl ?_ ?_|refine gc ?_ ?_)<;>intro h<;>(try simp only [NS] at h)<;>(try exact xf)<;>(try refine rn ?_ ?_)))))
  refine TE.callW (hrc) rfl (by rfl) (by rfl) rfl (by rfl) (by (first|exact trivial|((with_reducible refine AllP.go ?_);dsimp only [AllP, appP];repeat' (first|refine And.intro ?_ ?_|exact zz|assumption)))) ?_
  intro _ _
  by_cases hT : (checkT (nds l)).2 ≠ 0
  · have hB : checkB l = checkT (nds l) := if_pos hT
    rw [hB]
    ((refine rn ?_ ?_);(repeat' (first|(with_reducible refine AllP.go ?_;first|exact og|((try simp only [OS]);repeat' (first|exact oj|refine And.intro ?_ ?_)))|(refine rg ?_ ?_)|(with_reducible first|refine stp ?_|refine tD rfl ?_)|refine ct ?_|refine cf ?_|((first|refine gs ?_ ?_|refine gl ?_ ?_|refine gc ?_ ?_)<;>intro h<;>(try simp only [NS] at h)<;>(try exact xf)<;>(try refine rn ?_ ?_)))))
    (refine TE.ret' io rfl tysOk (()) ?_ rfl (by rfl) ?_;all_goals (try (first|exact trivial|((with_reducible refine AllP.go ?_);dsimp only [AllP, appP];repeat' (first|refine And.intro ?_ ?_|exact zz)))))
  have hT := Decidable.not_not.1 hT
  ((refine rn ?_ ?_);(repeat' (first|(with_reducible refine AllP.go ?_;first|exact og|((try simp only [OS]);repeat' (first|exact oj|refine And.intro ?_ ?_)))|(refine rg ?_ ?_)|(with_reducible first|refine stp ?_|refine tD rfl ?_)|refine ct ?_|refine cf ?_|((first|refine gs ?_ ?_|refine gl ?_ ?_|refine gc ?_ ?_)<;>intro h<;>(try simp only [NS] at h)<;>(try exact xf)<;>(try refine rn ?_ ?_)))))
  (refine TE.only [6, 0] (by rfl) ?_)
  refine TE.loopG (fun q : Nat => q ≤ l.length ∧ ∀ j, j < q → marksE l j = 0) (fun q => [(6, .o (.c (.int .i64 q)))]) [] (fun _ => []) (fun q => l.length - q) 0 (by rfl) ⟨Nat.zero_le _, fun j hj => absurd hj (Nat.not_lt_zero _)⟩ ?_ ?_
  · (refine Ent.of rfl rfl (by rfl) ?_;(try (first|exact trivial|((with_reducible refine AllP.go ?_);dsimp only [AllP, appP];repeat' (first|refine And.intro ?_ ?_|exact zz)))))
  rintro q ⟨hq, hg⟩
  by_cases hlt : q < l.length
  · have hrm := rmarks_c l q hlt hl hx hT
    (repeat' (first|(with_reducible refine AllP.go ?_;first|exact og|((try simp only [OS]);repeat' (first|exact oj|refine And.intro ?_ ?_)))|(refine rg ?_ ?_)|(with_reducible first|refine stp ?_|refine tD rfl ?_)|refine ct ?_|refine cf ?_|((first|refine gs ?_ ?_|refine gl ?_ ?_|refine gc ?_ ?_)<;>intro h<;>(try simp only [NS] at h)<;>(try exact xf)<;>(try refine rn ?_ ?_))))
    refine TE.callW (hrm) rfl (by rfl) (by rfl) rfl (by rfl) (by (first|exact trivial|((with_reducible refine AllP.go ?_);dsimp only [AllP, appP];repeat' (first|refine And.intro ?_ ?_|exact zz|assumption)))) ?_
    intro _ _
    by_cases he : marksE l q ≠ 0
    · rw [checkB_bad hT hlt hg he]
      ((refine rn ?_ ?_);(repeat' (first|(with_reducible refine AllP.go ?_;first|exact og|((try simp only [OS]);repeat' (first|exact oj|refine And.intro ?_ ?_)))|(refine rg ?_ ?_)|(with_reducible first|refine stp ?_|refine tD rfl ?_)|refine ct ?_|refine cf ?_|((first|refine gs ?_ ?_|refine gl ?_ ?_|refine gc ?_ ?_)<;>intro h<;>(try simp only [NS] at h)<;>(try exact xf)<;>(try refine rn ?_ ?_)))))
      (refine TE.ret' io rfl tysOk (()) ?_ rfl (by rfl) ?_;all_goals (try (first|exact trivial|((with_reducible refine AllP.go ?_);dsimp only [AllP, appP];repeat' (first|refine And.intro ?_ ?_|exact zz)))))
    have he := Decidable.not_not.1 he
    ((refine rn ?_ ?_);(repeat' (first|(with_reducible refine AllP.go ?_;first|exact og|((try simp only [OS]);repeat' (first|exact oj|refine And.intro ?_ ?_)))|(refine rg ?_ ?_)|(with_reducible first|refine stp ?_|refine tD rfl ?_)|refine ct ?_|refine cf ?_|((first|refine gs ?_ ?_|refine gl ?_ ?_|refine gc ?_ ?_)<;>intro h<;>(try simp only [NS] at h)<;>(try exact xf)<;>(try refine rn ?_ ?_)))))
    refine TE.again' (q + 1) ⟨by omega, fun j hj => ?_⟩ (by omega) ?_
    · rcases Nat.lt_or_ge j q with h5 | h5
      · exact hg j h5
      · obtain rfl : j = q := by omega
        exact he
    · (refine Ent.of rfl rfl (by rfl) ?_;(try (first|exact trivial|((with_reducible refine AllP.go ?_);dsimp only [AllP, appP];repeat' (first|refine And.intro ?_ ?_|exact zz)))))
  · obtain rfl : q = l.length := by omega
    rw [checkB_good hT hg]
    (repeat' (first|(with_reducible refine AllP.go ?_;first|exact og|((try simp only [OS]);repeat' (first|exact oj|refine And.intro ?_ ?_)))|(refine rg ?_ ?_)|(with_reducible first|refine stp ?_|refine tD rfl ?_)|refine ct ?_|refine cf ?_|((first|refine gs ?_ ?_|refine gl ?_ ?_|refine gc ?_ ?_)<;>intro h<;>(try simp only [NS] at h)<;>(try exact xf)<;>(try refine rn ?_ ?_))))
    (refine TE.ret' io rfl tysOk (()) ?_ rfl (by rfl) ?_;all_goals (try (first|exact trivial|((with_reducible refine AllP.go ?_);dsimp only [AllP, appP];repeat' (first|refine And.intro ?_ ?_|exact zz)))))
set_option maxRecDepth 20000 in
theorem rknown_c (l : List Bn) (n : Int) (hl : l.length ≤ 1000000) (hx : ∀ x ∈ l, okB x) : Con Try.prog 55 [.o (.ro 10 l.length (bnC l).cell), .o (.c (.int .i64 n))] [] 0 0 U (fun _ => .o (.c (.int .i64 (knownE l n)))) G0 := by
  refine con_of Try.func55 rfl (by kernel_rfl) Try.ntmps55 rfl (by first | exact Nat.zero_le _ | decide) (fun _ => ⟨rfl, rfl⟩) fun w S ν => ?_
  have hrc := rcheckB_c l hl hx
  (repeat' (first|(with_reducible refine AllP.go ?_;first|exact og|((try simp only [OS]);repeat' (first|exact oj|refine And.intro ?_ ?_)))|(refine rg ?_ ?_)|(with_reducible first|refine stp ?_|refine tD rfl ?_)|refine ct ?_|refine cf ?_|((first|refine gs ?_ ?_|refine gl ?_ ?_|refine gc ?_ ?_)<;>intro h<;>(try simp only [NS] at h)<;>(try exact xf)<;>(try refine rn ?_ ?_))))
  refine TE.callW (hrc) rfl (by rfl) (by rfl) rfl (by rfl) (by (first|exact trivial|((with_reducible refine AllP.go ?_);dsimp only [AllP, appP];repeat' (first|refine And.intro ?_ ?_|exact zz|assumption)))) ?_
  intro _ _
  by_cases h1 : (checkB l).2 ≠ 0
  · have hK : knownE l n = (checkB l).2 := if_pos h1
    rw [hK]
    ((refine rn ?_ ?_);(repeat' (first|(with_reducible refine AllP.go ?_;first|exact og|((try simp only [OS]);repeat' (first|exact oj|refine And.intro ?_ ?_)))|(refine rg ?_ ?_)|(with_reducible first|refine stp ?_|refine tD rfl ?_)|refine ct ?_|refine cf ?_|((first|refine gs ?_ ?_|refine gl ?_ ?_|refine gc ?_ ?_)<;>intro h<;>(try simp only [NS] at h)<;>(try exact xf)<;>(try refine rn ?_ ?_)))))
    all_goals (refine TE.ret' io rfl tysOk (()) ?_ rfl (by rfl) ?_;all_goals (try (first|exact trivial|((with_reducible refine AllP.go ?_);dsimp only [AllP, appP];repeat' (first|refine And.intro ?_ ?_|exact zz)))))
  have hK : knownE l n = if n < 0 ∨ (l.length : Int) ≤ n then 4 else 0 := if_neg h1
  by_cases h2 : n < 0 ∨ (l.length : Int) ≤ n
  · rw [if_pos h2] at hK
    rw [hK]
    ((refine rn ?_ ?_);(repeat' (first|(with_reducible refine AllP.go ?_;first|exact og|((try simp only [OS]);repeat' (first|exact oj|refine And.intro ?_ ?_)))|(refine rg ?_ ?_)|(with_reducible first|refine stp ?_|refine tD rfl ?_)|refine ct ?_|refine cf ?_|((first|refine gs ?_ ?_|refine gl ?_ ?_|refine gc ?_ ?_)<;>intro h<;>(try simp only [NS] at h)<;>(try exact xf)<;>(try refine rn ?_ ?_)))))
    all_goals (refine TE.ret' io rfl tysOk (()) ?_ rfl (by rfl) ?_;all_goals (try (first|exact trivial|((with_reducible refine AllP.go ?_);dsimp only [AllP, appP];repeat' (first|refine And.intro ?_ ?_|exact zz)))))
  · rw [if_neg h2] at hK
    rw [hK]
    ((refine rn ?_ ?_);(repeat' (first|(with_reducible refine AllP.go ?_;first|exact og|((try simp only [OS]);repeat' (first|exact oj|refine And.intro ?_ ?_)))|(refine rg ?_ ?_)|(with_reducible first|refine stp ?_|refine tD rfl ?_)|refine ct ?_|refine cf ?_|((first|refine gs ?_ ?_|refine gl ?_ ?_|refine gc ?_ ?_)<;>intro h<;>(try simp only [NS] at h)<;>(try exact xf)<;>(try refine rn ?_ ?_)))))
    all_goals (refine TE.ret' io rfl tysOk (()) ?_ rfl (by rfl) ?_;all_goals (try (first|exact trivial|((with_reducible refine AllP.go ?_);dsimp only [AllP, appP];repeat' (first|refine And.intro ?_ ?_|exact zz)))))
    all_goals omega
end Go.Proofs.Ythhpofehcnjmmaa.Am
namespace Go.Proofs
open Go.Shelf
def Try.lays156_ren : Go.Shelf.Ren := ⟨fun | 156 => 78 | 165 => 101 | 166 => 102 | 169 => 103 | 240 => 112 | 241 => 113 | 276 => 117 | 277 => 118 | n => n, fun | 31 => 36 | 9 => 9 | 3 => 3 | 4 => 4 | 0 => 0 | 20 => 20 | 72 => 130 | 76 => 134 | 70 => 127 | 37 => 128 | 75 => 133 | 127 => 148 | 164 => 151 | 5 => 5 | 80 => 136 | n => n, fun | n => n⟩
theorem Try.lays156 : Go.Proofs.Lays.n156 Try.prog Try.lays156_ren := {
  mixed := by kernel_rfl
  f156 := Try.func78.trans (congrArg some (by kernel_rfl))
  f165 := Try.func101.trans (congrArg some (by kernel_rfl))
  f166 := Try.func102.trans (congrArg some (by kernel_rfl))
  f169 := Try.func103.trans (congrArg some (by kernel_rfl))
  f240 := Try.func112.trans (congrArg some (by kernel_rfl))
  f241 := Try.func113.trans (congrArg some (by kernel_rfl))
  f276 := Try.func117.trans (congrArg some (by kernel_rfl))
  f277 := Try.func118.trans (congrArg some (by kernel_rfl))
  t0 := Try.underlying0
  a0 := Try.isAgg0
  z0 := Try.sizeOf0
  v0 := Try.zeroValue0
  t3 := Try.underlying3
  a3 := Try.isAgg3
  z3 := Try.sizeOf3
  v3 := Try.zeroValue3
  t4 := Try.underlying4
  a4 := Try.isAgg4
  z4 := Try.sizeOf4
  v4 := Try.zeroValue4
  t9 := Try.underlying9
  a9 := Try.isAgg9
  z9 := Try.sizeOf9
  v9 := Try.zeroValue9
  t20 := Try.underlying20
  a20 := Try.isAgg20
  z20 := Try.sizeOf20
  v20 := Try.zeroValue20
  t31 := Try.underlying36
  a31 := Try.isAgg36
  z31 := Try.sizeOf36
  v31 := Try.zeroValue36
  t37 := Try.underlying128
  a37 := Try.isAgg128
  z37 := Try.sizeOf128
  v37 := Try.zeroValue128
  t70 := Try.underlying127
  a70 := Try.isAgg127
  z70 := Try.sizeOf127
  v70 := Try.zeroValue127
  t72 := Try.underlying130
  a72 := Try.isAgg130
  z72 := Try.sizeOf130
  v72 := Try.zeroValue130
  t75 := Try.underlying133
  a75 := Try.isAgg133
  z75 := Try.sizeOf133
  v75 := Try.zeroValue133
  t76 := Try.underlying134
  a76 := Try.isAgg134
  z76 := Try.sizeOf134
  v76 := Try.zeroValue134
  t127 := Try.underlying148
  a127 := Try.isAgg148
  z127 := Try.sizeOf148
  v127 := Try.zeroValue148
  t164 := Try.underlying151
  a164 := Try.isAgg151
  z164 := Try.sizeOf151
  v164 := Try.zeroValue151 }
theorem Try.Builder_Extra_156 : Builder.Extra Try.prog Try.lays156_ren := {
  sizeBuilder := by kernel_rfl
  liesBuilder := by kernel_rfl
  t5 := Try.underlying5
  a5 := Try.isAgg5
  z5 := Try.sizeOf5
  v5 := Try.zeroValue5
  infoByte := by kernel_rfl
  cellsByte := by kernel_rfl
  sizeByte := by kernel_rfl
  neB5 := by decide }
open Go.RowKit in
theorem Try.strings_Join_none (a : Option Addr) (c : Nat) (sep : ByteArray) (w : World) :
    Calls Try.prog 78 #[.slice a 0 c, .string sep] w fun e w' => e = .returned (.string ⟨#[]⟩) ∧ w' = w := Any.strings_Join_none Try.lays156 Try.Builder_Extra_156 a c sep w
open Go.RowKit in
theorem Try.strings_Join (bk o c : Nat) (xs : List ByteArray) (sep : ByteArray) (w : World) (hcells : ∀ (j : Nat) x, xs[j]? = some x → w.cell? ⟨bk, o + j, none⟩ = some (.string x)) (hbk : bk < w.heap.size) (hN : xs.length ≤ 140737488355328) (hcap : xs.length ≤ c) (hlen : (Lib.join (xs.map (·.data.toList)) sep.data.toList).length ≤ 140737488355328) :
    Calls Try.prog 78 #[.slice (some ⟨bk, o, none⟩) xs.length c, .string sep] w fun e w' => e = .returned (.string ⟨(Lib.join (xs.map (·.data.toList)) sep.data.toList).toArray⟩) ∧ Below w.heap.size w w' := Any.strings_Join Try.lays156 Try.Builder_Extra_156 bk o c xs sep w hcells hbk hN hcap hlen
end Go.Proofs
set_option linter.unusedSimpArgs false
set_option linter.unusedVariables false
namespace Go.Proofs.Ythhpofehcnjmmaa.Am
open Go.RowKit Lw
open Br
set_option maxRecDepth 20000 in
theorem cloneS_c (p : List ByteArray) (hn : p.length ≤ 1000000) : Con Try.prog 66 [.o (.ro 1 p.length (paC p).cell)] [] 0 1 U (fun _ => .o (.own 0)) (fun _ => [.own 0 9 1 (paC p)]) := by
  refine con_of Try.func66 rfl (by kernel_rfl) Try.ntmps66 rfl (by first | exact Nat.zero_le _ | decide) (fun _ => ⟨rfl, rfl⟩) fun w S ν => ?_
  (repeat' (first|(with_reducible refine AllP.go ?_;first|exact og|((try simp only [OS]);repeat' (first|exact oj|refine And.intro ?_ ?_)))|(refine rg ?_ ?_)|(with_reducible first|refine stp ?_|refine tD rfl ?_)|refine ct ?_|refine cf ?_|((first|refine gs ?_ ?_|refine gl ?_ ?_|refine gc ?_ ?_)<;>intro h<;>(try simp only [NS] at h)<;>(try exact xf)<;>(try refine rn ?_ ?_))))
  (refine TE.step rfl rfl rfl (fun _ h => nomatch h) (m_isnil tysOk rfl (by first | exact .inl rfl | exact .inr rfl) rfl rfl rfl) ?_; rintro _ ⟨b, hb, rfl⟩; cases b)
  · ((refine rn ?_ ?_);(repeat' (first|(with_reducible refine AllP.go ?_;first|exact og|((try simp only [OS]);repeat' (first|exact oj|refine And.intro ?_ ?_)))|(refine rg ?_ ?_)|(with_reducible first|refine stp ?_|refine tD rfl ?_)|(with_reducible first|exact PanicOk.body|exact rd.panic|refine PanicOk.then' ?_|refine PanicOk.block ?_|refine PanicOk.jump ?_)|(refine dc ?_)|(refine dn ?_)|(refine TL.done (by rfl) ?_)|(refine TL.auto tysOk rfl ?_ (by rfl) ?_ ?_)|((refine TL.one (by rfl) ?_);first|(refine sm ?_ ?_)|(refine sp ?_ ?_))|(refine sm ?_ ?_)|refine ct ?_|refine cf ?_|((first|refine gs ?_ ?_|refine gl ?_ ?_|refine gc ?_ ?_)<;>intro h<;>(try simp only [NS] at h)<;>(try exact xf)<;>(try refine rn ?_ ?_)))))
    (refine TE.ret' io rfl tysOk (()) ?_ rfl (by rfl) ?_;all_goals (try (first|exact trivial|((with_reducible refine AllP.go ?_);dsimp only [AllP, appP];repeat' (first|refine And.intro ?_ ?_|exact zz)))))
    exact litnil_app 1 _
  · have hb0 : p.length = 0 := hb rfl
    ((refine rn ?_ ?_);(repeat' (first|(with_reducible refine AllP.go ?_;first|exact og|((try simp only [OS]);repeat' (first|exact oj|refine And.intro ?_ ?_)))|(refine rg ?_ ?_)|(with_reducible first|refine stp ?_|refine tD rfl ?_)|(with_reducible first|exact PanicOk.body|exact rd.panic|refine PanicOk.then' ?_|refine PanicOk.block ?_|refine PanicOk.jump ?_)|(refine dc ?_)|(refine dn ?_)|(refine TL.done (by rfl) ?_)|(refine TL.auto tysOk rfl ?_ (by rfl) ?_ ?_)|((refine TL.one (by rfl) ?_);first|(refine sm ?_ ?_)|(refine sp ?_ ?_))|(refine sm ?_ ?_)|refine ct ?_|refine cf ?_|((first|refine gs ?_ ?_|refine gl ?_ ?_|refine gc ?_ ?_)<;>intro h<;>(try simp only [NS] at h)<;>(try exact xf)<;>(try refine rn ?_ ?_)))))
    refine TE.nilOwn 2 9 1 (by rfl) ?_
    (refine TE.ret' io rfl tysOk (()) ?_ rfl (by rfl) ?_;all_goals (try (first|exact trivial|((with_reducible refine AllP.go ?_);dsimp only [AllP, appP];repeat' (first|refine And.intro ?_ ?_|exact zz)))))
    exact LeD.zero rfl hb0
set_option maxRecDepth 20000 in
theorem cloneO_c (p : List ByteArray) (hn : p.length ≤ 1000000) : Con Try.prog 66 [.o (.own 0)] [.own 0 9 1 (paC p)] 1 2 U (fun _ => .o (.own 1)) (fun _ => [.own 0 9 1 (paC p), .own 1 9 1 (paC p)]) := by
  refine con_of Try.func66 rfl (by kernel_rfl) Try.ntmps66 rfl (by first | exact Nat.zero_le _ | decide) (fun _ => ⟨rfl, rfl⟩) fun w S ν => ?_
  have hpn : (paC p).n = p.length := rfl
  (repeat' (first|(with_reducible refine AllP.go ?_;first|exact og|((try simp only [OS]);repeat' (first|exact oj|refine And.intro ?_ ?_)))|(refine rg ?_ ?_)|(with_reducible first|refine stp ?_|refine tD rfl ?_)|refine ct ?_|refine cf ?_|((first|refine gs ?_ ?_|refine gl ?_ ?_|refine gc ?_ ?_)<;>intro h<;>(try simp only [NS] at h)<;>(try exact xf)<;>(try refine rn ?_ ?_))))
  (refine TE.step rfl rfl rfl (fun _ h => nomatch h) (m_isnil tysOk rfl (by first | exact .inl rfl | exact .inr rfl) rfl rfl rfl) ?_; rintro _ ⟨b, hb, rfl⟩; cases b)
  · ((refine rn ?_ ?_);(repeat' (first|(with_reducible refine AllP.go ?_;first|exact og|((try simp only [OS]);repeat' (first|exact oj|refine And.intro ?_ ?_)))|(refine rg ?_ ?_)|(with_reducible first|refine stp ?_|refine tD rfl ?_)|(with_reducible first|exact PanicOk.body|exact rd.panic|refine PanicOk.then' ?_|refine PanicOk.block ?_|refine PanicOk.jump ?_)|(refine dc ?_)|(refine dn ?_)|(refine TL.done (by rfl) ?_)|(refine TL.auto tysOk rfl ?_ (by rfl) ?_ ?_)|((refine TL.one (by rfl) ?_);first|(refine sm ?_ ?_)|(refine sp ?_ ?_))|(refine sm ?_ ?_)|refine ct ?_|refine cf ?_|((first|refine gs ?_ ?_|refine gl ?_ ?_|refine gc ?_ ?_)<;>intro h<;>(try simp only [NS] at h)<;>(try exact xf)<;>(try refine rn ?_ ?_)))))
    (refine TE.ret' io rfl tysOk (()) ?_ rfl (by rfl) ?_;all_goals (try (first|exact trivial|((with_reducible refine AllP.go ?_);dsimp only [AllP, appP];repeat' (first|refine And.intro ?_ ?_|exact zz)))))
    exact litnil_app 1 _
  · have hb0 : p.length = 0 := hb rfl
    ((refine rn ?_ ?_);(repeat' (first|(with_reducible refine AllP.go ?_;first|exact og|((try simp only [OS]);repeat' (first|exact oj|refine And.intro ?_ ?_)))|(refine rg ?_ ?_)|(with_reducible first|refine stp ?_|refine tD rfl ?_)|(with_reducible first|exact PanicOk.body|exact rd.panic|refine PanicOk.then' ?_|refine PanicOk.block ?_|refine PanicOk.jump ?_)|(refine dc ?_)|(refine dn ?_)|(refine TL.done (by rfl) ?_)|(refine TL.auto tysOk rfl ?_ (by rfl) ?_ ?_)|((refine TL.one (by rfl) ?_);first|(refine sm ?_ ?_)|(refine sp ?_ ?_))|(refine sm ?_ ?_)|refine ct ?_|refine cf ?_|((first|refine gs ?_ ?_|refine gl ?_ ?_|refine gc ?_ ?_)<;>intro h<;>(try simp only [NS] at h)<;>(try exact xf)<;>(try refine rn ?_ ?_)))))
    refine TE.nilOwn 2 9 1 (by rfl) ?_
    (refine TE.ret' io rfl tysOk (()) ?_ rfl (by rfl) ?_;all_goals (try (first|exact trivial|((with_reducible refine AllP.go ?_);dsimp only [AllP, appP];repeat' (first|refine And.intro ?_ ?_|exact zz)))))
    exact LeD.zero rfl hb0
set_option maxRecDepth 20000 in
theorem joinP_c (p : List ByteArray) (hl : p.length ≤ 1000000) (hj : (Lib.join (p.map (·.data.toList)) [47]).length ≤ 1000000) : Con Try.prog 78 [.o (.ro 1 p.length (paC p).cell), .o (.c (.string ⟨#[47]⟩))] [] 0 0 U (fun _ => .o (.c (.string ⟨(Lib.join (p.map (·.data.toList)) [47]).toArray⟩))) G0 := by
  refine con_below (takes := []) (fn := Try.f78) Try.func78 (by kernel_rfl) (by kernel_rfl) rfl rfl (Nat.le_refl _) (fun _ => rfl) rfl fun w S ν vs hv _ => ?_
  match vs, hv with
  | [u, v], ⟨⟨A, c, hu, h1, h2, h3, h4⟩, ⟨hv, _⟩, _⟩ =>
    subst hu hv
    cases p with
    | nil =>
      refine Calls.mono (Try.strings_Join_none A c ⟨#[47]⟩ w) ?_
      rintro e w' ⟨rfl, rfl⟩
      exact ⟨(), _, rfl, trivial, fun _ _ _ => ⟨rfl, rfl⟩, Below.refl _ _⟩
    | cons x r =>
      obtain ⟨b, off, rfl, hs, hb, hc⟩ := h4 (by simp)
      have hcall := Try.strings_Join b off c (x :: r) ⟨#[47]⟩ w (fun j y hy => ?_) hb (by omega) (by omega) (by
        show (Lib.join ((x :: r).map (·.data.toList)) [47]).length ≤ _
        omega)
      · refine Calls.mono hcall ?_
        rintro e w' ⟨rfl, hbl⟩
        exact ⟨(), _, rfl, trivial, fun _ _ _ => ⟨rfl, rfl⟩, hbl⟩
      · have hjl : j < (x :: r).length := (List.getElem?_eq_some_iff.1 hy).1
        obtain ⟨u, u1, u2⟩ := hc j 0 hjl (by decide)
        rw [Nat.mul_one, Nat.add_zero] at u1
        rw [u1, u2.1]
        show some (Value.string ((x :: r).getD j eS)) = _
        rw [List.getD_eq_getElem?_getD, hy]
        rfl
theorem join_len : ∀ (xs : List (List UInt8)), (Lib.join xs [47]).length ≤ (xs.map (·.length)).sum + xs.length
  | [] => by simp [Lib.join]
  | [s] => by rw [join_one]; simp
  | s :: t :: r => by
    have := join_len (t :: r)
    rw [join_cons, List.length_append, List.length_cons]
    simp only [List.map_cons, List.sum_cons, List.length_cons] at this ⊢
    omega
theorem text_len {p : List ByteArray} (h : pcheckE p = 0) : (Lib.join (p.map (·.data.toList)) [47]).length ≤ 1000 := by
  obtain ⟨h1, h2⟩ := pcheck_iff.1 h
  have h3 := join_len (p.map (·.data.toList))
  have h4 : ∀ (q : List ByteArray), (∀ s ∈ q, pnameE s = 0) → ((q.map (·.data.toList)).map (·.length)).sum ≤ 24 * q.length := by
    intro q
    induction q with
    | nil => intro _; simp
    | cons s r ih =>
      intro hq
      have h5 := (name_size (hq s (List.mem_cons_self ..))).1
      have h6 : s.data.toList.length = s.size := rfl
      have h7 := ih fun x hx => hq x (List.mem_cons_of_mem _ hx)
      simp only [List.map_cons, List.sum_cons, List.length_cons]
      omega
  have h8 := h4 p h2
  rw [List.length_map] at h3
  omega
def printE (p : List ByteArray) : ByteArray × Int := if pcheckE p ≠ 0 then (eS, pcheckE p) else (textS p, 0)
set_option maxRecDepth 20000 in
theorem print_c (p : List ByteArray) (hp : ∀ s ∈ p, s.size ≤ 1000000000) (hl : p.length ≤ 1000000) : Con Try.prog 44 [.o (.ro 1 p.length (paC p).cell)] [] 0 0 U (fun _ => .t [.inl (.c (.string (printE p).1)), .inl (.c (.int .i64 (printE p).2))]) G0 := by
  refine con_of Try.func44 rfl (by kernel_rfl) Try.ntmps44 rfl (by first | exact Nat.zero_le _ | decide) (fun _ => ⟨rfl, rfl⟩) fun w S ν => ?_
  (repeat' (first|(with_reducible refine AllP.go ?_;first|exact og|((try simp only [OS]);repeat' (first|exact oj|refine And.intro ?_ ?_)))|(refine rg ?_ ?_)|(with_reducible first|refine stp ?_|refine tD rfl ?_)|refine ct ?_|refine cf ?_|((first|refine gs ?_ ?_|refine gl ?_ ?_|refine gc ?_ ?_)<;>intro h<;>(try simp only [NS] at h)<;>(try exact xf)<;>(try refine rn ?_ ?_))))
  refine TE.callW (pCheck_c p hp hl) rfl (by rfl) (by rfl) rfl (by rfl) (by (first|exact trivial|((with_reducible refine AllP.go ?_);dsimp only [AllP, appP];repeat' (first|refine And.intro ?_ ?_|exact zz|assumption)))) ?_
  intro _ _
  by_cases h : pcheckE p ≠ 0
  · have hP : printE p = (eS, pcheckE p) := if_pos h
    rw [hP]
    ((refine rn ?_ ?_);(repeat' (first|(with_reducible refine AllP.go ?_;first|exact og|((try simp only [OS]);repeat' (first|exact oj|refine And.intro ?_ ?_)))|(refine rg ?_ ?_)|(with_reducible first|refine stp ?_|refine tD rfl ?_)|refine ct ?_|refine cf ?_|((first|refine gs ?_ ?_|refine gl ?_ ?_|refine gc ?_ ?_)<;>intro h<;>(try simp only [NS] at h)<;>(try exact xf)<;>(try refine rn ?_ ?_)))))
    (refine TE.ret' io rfl tysOk (()) ?_ rfl (by rfl) ?_;all_goals (try (first|exact trivial|((with_reducible refine AllP.go ?_);dsimp only [AllP, appP];repeat' (first|refine And.intro ?_ ?_|exact zz)))))
  have h := Decidable.not_not.1 h
  have hP : printE p = (textS p, 0) := if_neg (fun k => k h)
  rw [hP]
  have hj := joinP_c p hl (by have := text_len h; omega)
  ((refine rn ?_ ?_);(repeat' (first|(with_reducible refine AllP.go ?_;first|exact og|((try simp only [OS]);repeat' (first|exact oj|refine And.intro ?_ ?_)))|(refine rg ?_ ?_)|(with_reducible first|refine stp ?_|refine tD rfl ?_)|refine ct ?_|refine cf ?_|((first|refine gs ?_ ?_|refine gl ?_ ?_|refine gc ?_ ?_)<;>intro h<;>(try simp only [NS] at h)<;>(try exact xf)<;>(try refine rn ?_ ?_)))))
  refine TE.callW (hj) rfl (by rfl) (by rfl) rfl (by rfl) (by (first|exact trivial|((with_reducible refine AllP.go ?_);dsimp only [AllP, appP];repeat' (first|refine And.intro ?_ ?_|exact zz|assumption)))) ?_
  intro _ _
  have hjl := text_len h
  have hsz : (⟨(Lib.join (p.map (·.data.toList)) [47]).toArray⟩ : ByteArray).size = (Lib.join (p.map (·.data.toList)) [47]).length := by show Array.size _ = _; simp
  have hs1 : (⟨#[47]⟩ : ByteArray).size = 1 := rfl
  ((refine rn ?_ ?_);(repeat' (first|(with_reducible refine AllP.go ?_;first|exact og|((try simp only [OS]);repeat' (first|exact oj|refine And.intro ?_ ?_)))|(refine rg ?_ ?_)|(with_reducible first|refine stp ?_|refine tD rfl ?_)|refine ct ?_|refine cf ?_|((first|refine gs ?_ ?_|refine gl ?_ ?_|refine gc ?_ ?_)<;>intro h<;>(try simp only [NS] at h)<;>(try exact xf)<;>(try refine rn ?_ ?_)))))
  (refine TE.ret' io rfl tysOk (()) ?_ rfl (by rfl) ?_;all_goals (try (first|exact trivial|((with_reducible refine AllP.go ?_);dsimp only [AllP, appP];repeat' (first|refine And.intro ?_ ?_|exact zz)))))
end Go.Proofs.Ythhpofehcnjmmaa.Am
set_option linter.unusedSimpArgs false
set_option linter.unusedVariables false
namespace Go.Proofs.Ythhpofehcnjmmaa.Am
open Go.RowKit Lw
open Br
section
variable {α : Type} {f : α → List DC}
theorem get_ents (d : α) : ∀ (l : List α) (k z : Int), k ≤ z → z < k + l.length → getM (ents f k l) z = some (f (l.getD (z - k).toNat d))
  | [], k, z, h1, h2 => by simp at h2; omega
  | x :: r, k, z, h1, h2 => by
    rw [ents, getM]
    by_cases e : k = z
    · rw [if_pos e, e, Int.sub_self]; rfl
    · simp only [List.length_cons] at h2
      rw [if_neg e, get_ents d r (k + 1) z (by omega) (by omega), show (z - k).toNat = (z - (k + 1)).toNat + 1 by omega]; rfl
theorem get_none : ∀ (l : List α) (k z : Int), k + l.length ≤ z → getM (ents f k l) z = none
  | [], _, _, _ => rfl
  | x :: r, k, z, h => by
    simp only [List.length_cons] at h
    rw [ents, getM, if_neg (by omega), get_none r (k + 1) z (by omega)]
theorem put_new (x : α) : ∀ (l : List α) (k z : Int), z = k + l.length → putM (ents f k l) z (f x) = ents f k (l ++ [x])
  | [], k, z, h => by
    obtain rfl : z = k := by simpa using h
    rfl
  | y :: r, k, z, h => by
    simp only [List.length_cons] at h
    rw [ents, putM, if_neg (by omega), put_new x r (k + 1) z (by omega)]; rfl
theorem put_old (x : α) : ∀ (l : List α) (k z : Int), k ≤ z → z < k + l.length → putM (ents f k l) z (f x) = ents f k (l.set (z - k).toNat x)
  | [], k, z, h1, h2 => by simp at h2; omega
  | y :: r, k, z, h1, h2 => by
    rw [ents, putM]
    by_cases e : k = z
    · rw [if_pos e, e, Int.sub_self]; rfl
    · simp only [List.length_cons] at h2
      rw [if_neg e, put_old x r (k + 1) z (by omega) (by omega), show (z - k).toNat = (z - (k + 1)).toNat + 1 by omega]; rfl
end
abbrev ndDs (x : Nd) : List DC := [.c (.int .i64 x.depth), .c (.string x.name), .c (.int .i64 x.kind), .sl 2 x.attrs.length (atC x.attrs).cell, .c (.string x.data), .c (.int .i64 x.major), .c (.int .i64 x.minor), .c (.int .i64 x.cls)]
abbrev cnDs (z : Int) : List DC := [.c (.int .i64 z)]
def opR (x : Int × ByteArray) (j : Nat) : DC := match j with
  | 0 => .c (.int .i64 x.1)
  | _ => .c (.string x.2)
abbrev opC (l : List (Int × ByteArray)) : Ct := listC opR dd0 l
abbrev ckH (c : Ck) : List Chunk := [.box 0 109 [.own 3, .c (.bool c.file), .own 1, .own 2, .c (.int .i64 c.first.length)], .obj 1 (.mp true (ents ndDs 1 c.first)), .obj 2 (.mp false (ents cnDs 1 c.count)), .own 3 146 2 (opC c.dirs)]
def classK (c : Ck) (n : Nd) : Ck := if classF c n = 0 then { c with first := (classD c n).1, count := (classD c n).2 } else c
set_option maxRecDepth 20000 in
set_option maxHeartbeats 4000000 in
theorem class_c (c : Ck) (n : Nd) (hn : lenN n) (hf : ∀ x ∈ c.first, lenN x) (hl : c.count.length = c.first.length) (hcn : ∀ z ∈ c.count, 0 ≤ z ∧ z ≤ 1000000) (hfl : c.first.length ≤ 1000000) : Con Try.prog 100 [.o (.ptr 0 0), .g (ndA n)] (ckH c) 4 4 U (fun _ => .o (.c (.int .i64 (classF c n)))) (fun _ => ckH (classK c n)) := by
  refine con_of Try.func100 rfl (by kernel_rfl) Try.ntmps100 rfl (by first | exact Nat.zero_le _ | decide) (fun _ => ⟨rfl, rfl⟩) fun w S ν => ?_
  by_cases h0 : n.cls = 0
  · have hF : classF c n = 0 := if_pos h0
    have hK : classK c n = c := by unfold classK classD; rw [if_pos hF, if_pos h0]
    rw [hF, hK]
    (repeat' (first|(with_reducible refine AllP.go ?_;first|exact og|((try simp only [OS]);repeat' (first|exact oj|refine And.intro ?_ ?_)))|(refine rg ?_ ?_)|(with_reducible first|refine stp ?_|refine tD rfl ?_)|refine ct ?_|refine cf ?_|((first|refine gs ?_ ?_|refine gl ?_ ?_|refine gc ?_ ?_)<;>intro h<;>(try simp only [NS] at h)<;>(try exact xf)<;>(try refine rn ?_ ?_))))
    (refine TE.ret' io rfl tysOk (()) ?_ rfl (by rfl) ?_;all_goals (try (first|exact trivial|((with_reducible refine AllP.go ?_);dsimp only [AllP, appP];repeat' (first|refine And.intro ?_ ?_|exact zz)))))
  by_cases h1 : n.cls < 0 ∨ (c.first.length : Int) + 1 < n.cls
  · have hF : classF c n = 6 := by unfold classF; rw [if_neg h0, if_pos h1]
    have hK : classK c n = c := by unfold classK; rw [if_neg (by rw [hF]; decide)]
    rw [hF, hK]
    (repeat' (first|(with_reducible refine AllP.go ?_;first|exact og|((try simp only [OS]);repeat' (first|exact oj|refine And.intro ?_ ?_)))|(refine rg ?_ ?_)|(with_reducible first|refine stp ?_|refine tD rfl ?_)|(with_reducible first|exact PanicOk.body|exact rd.panic|refine PanicOk.then' ?_|refine PanicOk.block ?_|refine PanicOk.jump ?_)|(refine dc ?_)|(refine dn ?_)|(refine TL.done (by rfl) ?_)|(refine TL.auto tysOk rfl ?_ (by rfl) ?_ ?_)|((refine TL.one (by rfl) ?_);first|(refine sm ?_ ?_)|(refine sp ?_ ?_))|(refine sm ?_ ?_)|refine ct ?_|refine cf ?_|((first|refine gs ?_ ?_|refine gl ?_ ?_|refine gc ?_ ?_)<;>intro h<;>(try simp only [NS] at h)<;>(try exact xf)<;>(try refine rn ?_ ?_))))
    all_goals (refine TE.ret' io rfl tysOk (()) ?_ rfl (by rfl) ?_;all_goals (try (first|exact trivial|((with_reducible refine AllP.go ?_);dsimp only [AllP, appP];repeat' (first|refine And.intro ?_ ?_|exact zz)))))
  by_cases h2 : (c.first.length : Int) < n.cls
  · have hcls : n.cls = c.first.length + 1 := by omega
    have hF : classF c n = 0 := by unfold classF; rw [if_neg h0, if_neg h1, if_pos h2]
    have hK : classK c n = { c with first := c.first ++ [n], count := c.count ++ [1] } := by unfold classK classD; rw [if_pos hF, if_neg h0, if_pos h2]
    rw [hF, hK]
    have hg : getM (ents cnDs 1 c.count) n.cls = none := get_none _ _ _ (by omega)
    have hp1 : putM (ents ndDs 1 c.first) n.cls (ndDs n) = ents ndDs 1 (c.first ++ [n]) := put_new n _ _ _ (by omega)
    have hp2 : putM (ents cnDs 1 c.count) n.cls (cnDs 1) = ents cnDs 1 (c.count ++ [1]) := put_new 1 _ _ _ (by omega)
    (repeat' (first|(with_reducible refine AllP.go ?_;first|exact og|((try simp only [OS]);repeat' (first|exact oj|refine And.intro ?_ ?_)))|(refine rg ?_ ?_)|(with_reducible first|refine stp ?_|refine tD rfl ?_)|refine ct ?_|refine cf ?_|((first|refine gs ?_ ?_|refine gl ?_ ?_|refine gc ?_ ?_)<;>intro h<;>(try simp only [NS] at h)<;>(try exact xf)<;>(try refine rn ?_ ?_))))
    ((refine dn ?_);repeat' (first|(with_reducible refine AllP.go ?_;first|exact og|((try simp only [OS]);repeat' (first|exact oj|refine And.intro ?_ ?_)))|(with_reducible first|exact PanicOk.body|exact rd.panic|refine PanicOk.then' ?_|refine PanicOk.block ?_|refine PanicOk.jump ?_)|(refine TL.done (by rfl) ?_)|(refine TL.auto tysOk rfl ?_ (by rfl) ?_ ?_)|((refine TL.one (by rfl) ?_);first|(refine sm ?_ ?_)|(refine sp ?_ ?_))|(refine sm ?_ ?_)|((first|refine gl ?_ ?_|refine gc ?_ ?_)<;>intro h<;>(try simp only [NS] at h)<;>(try exact xf))))
    (repeat' (first|(with_reducible refine AllP.go ?_;first|exact og|((try simp only [OS]);repeat' (first|exact oj|refine And.intro ?_ ?_)))|(refine rg ?_ ?_)|(with_reducible first|refine stp ?_|refine tD rfl ?_)|refine ct ?_|refine cf ?_|((first|refine gs ?_ ?_|refine gl ?_ ?_|refine gc ?_ ?_)<;>intro h<;>(try simp only [NS] at h)<;>(try exact xf)<;>(try refine rn ?_ ?_))))
    ((refine dn ?_);repeat' (first|(with_reducible refine AllP.go ?_;first|exact og|((try simp only [OS]);repeat' (first|exact oj|refine And.intro ?_ ?_)))|(with_reducible first|exact PanicOk.body|exact rd.panic|refine PanicOk.then' ?_|refine PanicOk.block ?_|refine PanicOk.jump ?_)|(refine TL.done (by rfl) ?_)|(refine TL.auto tysOk rfl ?_ (by rfl) ?_ ?_)|((refine TL.one (by rfl) ?_);first|(refine sm ?_ ?_)|(refine sp ?_ ?_))|(refine sm ?_ ?_)|((first|refine gl ?_ ?_|refine gc ?_ ?_)<;>intro h<;>(try simp only [NS] at h)<;>(try exact xf))))
    (repeat' (first|(with_reducible refine AllP.go ?_;first|exact og|((try simp only [OS]);repeat' (first|exact oj|refine And.intro ?_ ?_)))|(refine rg ?_ ?_)|(with_reducible first|refine stp ?_|refine tD rfl ?_)|refine ct ?_|refine cf ?_|((first|refine gs ?_ ?_|refine gl ?_ ?_|refine gc ?_ ?_)<;>intro h<;>(try simp only [NS] at h)<;>(try exact xf)<;>(try refine rn ?_ ?_))))
    (refine TE.drawK (fun i => Nat.beq i 0 || Nat.beq i 4) (by rfl) (by rfl) (by rfl) ?_)
    (repeat' (first|(with_reducible refine AllP.go ?_;first|exact og|((try simp only [OS]);repeat' (first|exact oj|refine And.intro ?_ ?_)))|(with_reducible first|exact PanicOk.body|exact rd.panic|refine PanicOk.then' ?_|refine PanicOk.block ?_|refine PanicOk.jump ?_)|(refine TL.done (by rfl) ?_)|(refine TL.auto tysOk rfl ?_ (by rfl) ?_ ?_)|(refine sm ?_ ?_)|(refine sp ?_ ?_)|(refine TL.one (by rfl) ?_)|(refine TL.two (by rfl) ?_ ?_)|(refine TL.three (by rfl) ?_ ?_ ?_)|(refine TL.four (by rfl) ?_ ?_ ?_ ?_)))
    (refine StepL.law rfl rfl rfl (fun _ h => nomatch h) rfl (m_mpUp (mpI true) rfl rfl (Try.underlying106) (Try.underlying3) rfl rfl rfl rfl rfl) (by rfl) ?_; rintro _ rfl)
    (repeat' (first|(with_reducible refine AllP.go ?_;first|exact og|((try simp only [OS]);repeat' (first|exact oj|refine And.intro ?_ ?_)))|(with_reducible first|exact PanicOk.body|exact rd.panic|refine PanicOk.then' ?_|refine PanicOk.block ?_|refine PanicOk.jump ?_)|(refine TL.done (by rfl) ?_)|(refine TL.auto tysOk rfl ?_ (by rfl) ?_ ?_)|(refine sm ?_ ?_)|(refine sp ?_ ?_)|(refine TL.one (by rfl) ?_)|(refine TL.two (by rfl) ?_ ?_)|(refine TL.three (by rfl) ?_ ?_ ?_)|(refine TL.four (by rfl) ?_ ?_ ?_ ?_)))
    (repeat' (first|(with_reducible refine AllP.go ?_;first|exact og|((try simp only [OS]);repeat' (first|exact oj|refine And.intro ?_ ?_)))|(refine rg ?_ ?_)|(with_reducible first|refine stp ?_|refine tD rfl ?_)|refine ct ?_|refine cf ?_|((first|refine gs ?_ ?_|refine gl ?_ ?_|refine gc ?_ ?_)<;>intro h<;>(try simp only [NS] at h)<;>(try exact xf)<;>(try refine rn ?_ ?_))))
    (refine TE.drawK (fun i => Nat.beq i 0 || Nat.beq i 4) (by rfl) (by rfl) (by rfl) ?_)
    (repeat' (first|(with_reducible refine AllP.go ?_;first|exact og|((try simp only [OS]);repeat' (first|exact oj|refine And.intro ?_ ?_)))|(with_reducible first|exact PanicOk.body|exact rd.panic|refine PanicOk.then' ?_|refine PanicOk.block ?_|refine PanicOk.jump ?_)|(refine TL.done (by rfl) ?_)|(refine TL.auto tysOk rfl ?_ (by rfl) ?_ ?_)|(refine sm ?_ ?_)|(refine sp ?_ ?_)|(refine TL.one (by rfl) ?_)|(refine TL.two (by rfl) ?_ ?_)|(refine TL.three (by rfl) ?_ ?_ ?_)|(refine TL.four (by rfl) ?_ ?_ ?_ ?_)))
    (refine StepL.law rfl rfl rfl (fun _ h => nomatch h) rfl (m_mpNone tysOk (mpI false) rfl (Try.underlying96) (Try.underlying3) rfl rfl rfl (hg) rfl rfl rfl) (by rfl) ?_; rintro _ rfl)
    (repeat' (first|(with_reducible refine AllP.go ?_;first|exact og|((try simp only [OS]);repeat' (first|exact oj|refine And.intro ?_ ?_)))|(with_reducible first|exact PanicOk.body|exact rd.panic|refine PanicOk.then' ?_|refine PanicOk.block ?_|refine PanicOk.jump ?_)|(refine TL.done (by rfl) ?_)|(refine TL.auto tysOk rfl ?_ (by rfl) ?_ ?_)|(refine sm ?_ ?_)|(refine sp ?_ ?_)|(refine TL.one (by rfl) ?_)|(refine TL.two (by rfl) ?_ ?_)|(refine TL.three (by rfl) ?_ ?_ ?_)|(refine TL.four (by rfl) ?_ ?_ ?_ ?_)))
    (refine StepL.law rfl rfl rfl (fun _ h => nomatch h) rfl (m_mpUp (mpI false) rfl rfl (Try.underlying96) (Try.underlying3) rfl rfl rfl rfl rfl) (by rfl) ?_; rintro _ rfl)
    (repeat' (first|(with_reducible refine AllP.go ?_;first|exact og|((try simp only [OS]);repeat' (first|exact oj|refine And.intro ?_ ?_)))|(with_reducible first|exact PanicOk.body|exact rd.panic|refine PanicOk.then' ?_|refine PanicOk.block ?_|refine PanicOk.jump ?_)|(refine TL.done (by rfl) ?_)|(refine TL.auto tysOk rfl ?_ (by rfl) ?_ ?_)|(refine sm ?_ ?_)|(refine sp ?_ ?_)|(refine TL.one (by rfl) ?_)|(refine TL.two (by rfl) ?_ ?_)|(refine TL.three (by rfl) ?_ ?_ ?_)|(refine TL.four (by rfl) ?_ ?_ ?_ ?_)))
    (repeat' (first|(with_reducible refine AllP.go ?_;first|exact og|((try simp only [OS]);repeat' (first|exact oj|refine And.intro ?_ ?_)))|(refine rg ?_ ?_)|(with_reducible first|refine stp ?_|refine tD rfl ?_)|refine ct ?_|refine cf ?_|((first|refine gs ?_ ?_|refine gl ?_ ?_|refine gc ?_ ?_)<;>intro h<;>(try simp only [NS] at h)<;>(try exact xf)<;>(try refine rn ?_ ?_))))
    (refine TE.ret' io rfl tysOk (()) ?_ rfl (by rfl) ?_;all_goals (try (first|exact trivial|((with_reducible refine AllP.go ?_);dsimp only [AllP, appP];repeat' (first|refine And.intro ?_ ?_|exact zz)))))
    all_goals first
      | exact congrArg (AO.mp true) hp1
      | exact congrArg (AO.mp false) hp2
      | (refine congrArg (Value.int _) ?_; rw [List.length_append]; simp)
  have hF : classF c n = if likeN (c.first.getD (n.cls - 1).toNat n0) n = true then 0 else 6 := by unfold classF; rw [if_neg h0, if_neg h1, if_neg h2]
  have hfx := hf _ (getD_mem (l := c.first) (d := n0) (k := (n.cls - 1).toNat) (by omega))
  have hlk := like_c (c.first.getD (n.cls - 1).toNat n0) n hfx hn
  have hg1 : getM (ents ndDs 1 c.first) n.cls = some (ndDs (c.first.getD (n.cls - 1).toNat n0)) := get_ents n0 _ _ _ (by omega) (by omega)
  have hg2 : getM (ents cnDs 1 c.count) n.cls = some (cnDs (c.count.getD (n.cls - 1).toNat 0)) := get_ents 0 _ _ _ (by omega) (by omega)
  have hcz := hcn _ (getD_mem (l := c.count) (d := 0) (k := (n.cls - 1).toNat) (by omega))
  have hp2 : putM (ents cnDs 1 c.count) n.cls (cnDs (c.count.getD (n.cls - 1).toNat 0 + 1)) = ents cnDs 1 (c.count.set (n.cls - 1).toNat (c.count.getD (n.cls - 1).toNat 0 + 1)) := put_old _ _ _ _ (by omega) (by omega)
  cases hB : likeN (c.first.getD (n.cls - 1).toNat n0) n
  · rw [hB, if_neg (by decide)] at hF
    rw [hB] at hlk
    have hK : classK c n = c := by unfold classK; rw [if_neg (by rw [hF]; decide)]
    rw [hF, hK]
    (repeat' (first|(with_reducible refine AllP.go ?_;first|exact og|((try simp only [OS]);repeat' (first|exact oj|refine And.intro ?_ ?_)))|(refine rg ?_ ?_)|(with_reducible first|refine stp ?_|refine tD rfl ?_)|refine ct ?_|refine cf ?_|((first|refine gs ?_ ?_|refine gl ?_ ?_|refine gc ?_ ?_)<;>intro h<;>(try simp only [NS] at h)<;>(try exact xf)<;>(try refine rn ?_ ?_))))
    ((refine dn ?_);repeat' (first|(with_reducible refine AllP.go ?_;first|exact og|((try simp only [OS]);repeat' (first|exact oj|refine And.intro ?_ ?_)))|(with_reducible first|exact PanicOk.body|exact rd.panic|refine PanicOk.then' ?_|refine PanicOk.block ?_|refine PanicOk.jump ?_)|(refine TL.done (by rfl) ?_)|(refine TL.auto tysOk rfl ?_ (by rfl) ?_ ?_)|((refine TL.one (by rfl) ?_);first|(refine sm ?_ ?_)|(refine sp ?_ ?_))|(refine sm ?_ ?_)|((first|refine gl ?_ ?_|refine gc ?_ ?_)<;>intro h<;>(try simp only [NS] at h)<;>(try exact xf))))
    (repeat' (first|(with_reducible refine AllP.go ?_;first|exact og|((try simp only [OS]);repeat' (first|exact oj|refine And.intro ?_ ?_)))|(refine rg ?_ ?_)|(with_reducible first|refine stp ?_|refine tD rfl ?_)|refine ct ?_|refine cf ?_|((first|refine gs ?_ ?_|refine gl ?_ ?_|refine gc ?_ ?_)<;>intro h<;>(try simp only [NS] at h)<;>(try exact xf)<;>(try refine rn ?_ ?_))))
    ((refine dn ?_);repeat' (first|(with_reducible refine AllP.go ?_;first|exact og|((try simp only [OS]);repeat' (first|exact oj|refine And.intro ?_ ?_)))|(with_reducible first|exact PanicOk.body|exact rd.panic|refine PanicOk.then' ?_|refine PanicOk.block ?_|refine PanicOk.jump ?_)|(refine TL.done (by rfl) ?_)|(refine TL.auto tysOk rfl ?_ (by rfl) ?_ ?_)|((refine TL.one (by rfl) ?_);first|(refine sm ?_ ?_)|(refine sp ?_ ?_))|(refine sm ?_ ?_)|((first|refine gl ?_ ?_|refine gc ?_ ?_)<;>intro h<;>(try simp only [NS] at h)<;>(try exact xf))))
    (repeat' (first|(with_reducible refine AllP.go ?_;first|exact og|((try simp only [OS]);repeat' (first|exact oj|refine And.intro ?_ ?_)))|(refine rg ?_ ?_)|(with_reducible first|refine stp ?_|refine tD rfl ?_)|refine ct ?_|refine cf ?_|((first|refine gs ?_ ?_|refine gl ?_ ?_|refine gc ?_ ?_)<;>intro h<;>(try simp only [NS] at h)<;>(try exact xf)<;>(try refine rn ?_ ?_))))
    (refine TE.drawN (by rfl) (by rfl) (by rfl) ?_)
    (repeat' (first|(with_reducible refine AllP.go ?_;first|exact og|((try simp only [OS]);repeat' (first|exact oj|refine And.intro ?_ ?_)))|(with_reducible first|exact PanicOk.body|exact rd.panic|refine PanicOk.then' ?_|refine PanicOk.block ?_|refine PanicOk.jump ?_)|(refine TL.done (by rfl) ?_)|(refine TL.auto tysOk rfl ?_ (by rfl) ?_ ?_)|(refine sm ?_ ?_)|(refine sp ?_ ?_)|(refine TL.one (by rfl) ?_)|(refine TL.two (by rfl) ?_ ?_)|(refine TL.three (by rfl) ?_ ?_ ?_)|(refine TL.four (by rfl) ?_ ?_ ?_ ?_)))
    (refine StepL.law rfl rfl rfl (fun _ h => nomatch h) rfl (m_mpGet (mpI true) rfl (Try.underlying106) (Try.underlying3) rfl rfl rfl (hg1) rfl) (by rfl) ?_; rintro _ rfl)
    (repeat' (first|(with_reducible refine AllP.go ?_;first|exact og|((try simp only [OS]);repeat' (first|exact oj|refine And.intro ?_ ?_)))|(with_reducible first|exact PanicOk.body|exact rd.panic|refine PanicOk.then' ?_|refine PanicOk.block ?_|refine PanicOk.jump ?_)|(refine TL.done (by rfl) ?_)|(refine TL.auto tysOk rfl ?_ (by rfl) ?_ ?_)|(refine sm ?_ ?_)|(refine sp ?_ ?_)|(refine TL.one (by rfl) ?_)|(refine TL.two (by rfl) ?_ ?_)|(refine TL.three (by rfl) ?_ ?_ ?_)|(refine TL.four (by rfl) ?_ ?_ ?_ ?_)))
    refine StepL.callW (hlk) rfl rfl rfl rfl rfl (by rfl) (by (first|exact trivial|((with_reducible refine AllP.go ?_);dsimp only [AllP, appP];repeat' (first|refine And.intro ?_ ?_|exact zz|assumption)))) (by rfl) (by rfl) ?_
    intro _ _
    (repeat' (first|(with_reducible refine AllP.go ?_;first|exact og|((try simp only [OS]);repeat' (first|exact oj|refine And.intro ?_ ?_)))|(with_reducible first|exact PanicOk.body|exact rd.panic|refine PanicOk.then' ?_|refine PanicOk.block ?_|refine PanicOk.jump ?_)|(refine TL.done (by rfl) ?_)|(refine TL.auto tysOk rfl ?_ (by rfl) ?_ ?_)|(refine sm ?_ ?_)|(refine sp ?_ ?_)|(refine TL.one (by rfl) ?_)|(refine TL.two (by rfl) ?_ ?_)|(refine TL.three (by rfl) ?_ ?_ ?_)|(refine TL.four (by rfl) ?_ ?_ ?_ ?_)))
    (repeat' (first|(with_reducible refine AllP.go ?_;first|exact og|((try simp only [OS]);repeat' (first|exact oj|refine And.intro ?_ ?_)))|(refine rg ?_ ?_)|(with_reducible first|refine stp ?_|refine tD rfl ?_)|refine ct ?_|refine cf ?_|((first|refine gs ?_ ?_|refine gl ?_ ?_|refine gc ?_ ?_)<;>intro h<;>(try simp only [NS] at h)<;>(try exact xf)<;>(try refine rn ?_ ?_))))
    (refine TE.ret' io rfl tysOk (()) ?_ rfl (by rfl) ?_;all_goals (try (first|exact trivial|((with_reducible refine AllP.go ?_);dsimp only [AllP, appP];repeat' (first|refine And.intro ?_ ?_|exact zz)))))
  · rw [hB, if_pos rfl] at hF
    rw [hB] at hlk
    have hK : classK c n = { c with count := c.count.set (n.cls - 1).toNat (c.count.getD (n.cls - 1).toNat 0 + 1) } := by unfold classK classD; rw [if_pos hF, if_neg h0, if_neg h2]
    rw [hF, hK]
    (repeat' (first|(with_reducible refine AllP.go ?_;first|exact og|((try simp only [OS]);repeat' (first|exact oj|refine And.intro ?_ ?_)))|(refine rg ?_ ?_)|(with_reducible first|refine stp ?_|refine tD rfl ?_)|refine ct ?_|refine cf ?_|((first|refine gs ?_ ?_|refine gl ?_ ?_|refine gc ?_ ?_)<;>intro h<;>(try simp only [NS] at h)<;>(try exact xf)<;>(try refine rn ?_ ?_))))
    ((refine dn ?_);repeat' (first|(with_reducible refine AllP.go ?_;first|exact og|((try simp only [OS]);repeat' (first|exact oj|refine And.intro ?_ ?_)))|(with_reducible first|exact PanicOk.body|exact rd.panic|refine PanicOk.then' ?_|refine PanicOk.block ?_|refine PanicOk.jump ?_)|(refine TL.done (by rfl) ?_)|(refine TL.auto tysOk rfl ?_ (by rfl) ?_ ?_)|((refine TL.one (by rfl) ?_);first|(refine sm ?_ ?_)|(refine sp ?_ ?_))|(refine sm ?_ ?_)|((first|refine gl ?_ ?_|refine gc ?_ ?_)<;>intro h<;>(try simp only [NS] at h)<;>(try exact xf))))
    (repeat' (first|(with_reducible refine AllP.go ?_;first|exact og|((try simp only [OS]);repeat' (first|exact oj|refine And.intro ?_ ?_)))|(refine rg ?_ ?_)|(with_reducible first|refine stp ?_|refine tD rfl ?_)|refine ct ?_|refine cf ?_|((first|refine gs ?_ ?_|refine gl ?_ ?_|refine gc ?_ ?_)<;>intro h<;>(try simp only [NS] at h)<;>(try exact xf)<;>(try refine rn ?_ ?_))))
    ((refine dn ?_);repeat' (first|(with_reducible refine AllP.go ?_;first|exact og|((try simp only [OS]);repeat' (first|exact oj|refine And.intro ?_ ?_)))|(with_reducible first|exact PanicOk.body|exact rd.panic|refine PanicOk.then' ?_|refine PanicOk.block ?_|refine PanicOk.jump ?_)|(refine TL.done (by rfl) ?_)|(refine TL.auto tysOk rfl ?_ (by rfl) ?_ ?_)|((refine TL.one (by rfl) ?_);first|(refine sm ?_ ?_)|(refine sp ?_ ?_))|(refine sm ?_ ?_)|((first|refine gl ?_ ?_|refine gc ?_ ?_)<;>intro h<;>(try simp only [NS] at h)<;>(try exact xf))))
    (repeat' (first|(with_reducible refine AllP.go ?_;first|exact og|((try simp only [OS]);repeat' (first|exact oj|refine And.intro ?_ ?_)))|(refine rg ?_ ?_)|(with_reducible first|refine stp ?_|refine tD rfl ?_)|refine ct ?_|refine cf ?_|((first|refine gs ?_ ?_|refine gl ?_ ?_|refine gc ?_ ?_)<;>intro h<;>(try simp only [NS] at h)<;>(try exact xf)<;>(try refine rn ?_ ?_))))
    (refine TE.drawN (by rfl) (by rfl) (by rfl) ?_)
    (repeat' (first|(with_reducible refine AllP.go ?_;first|exact og|((try simp only [OS]);repeat' (first|exact oj|refine And.intro ?_ ?_)))|(with_reducible first|exact PanicOk.body|exact rd.panic|refine PanicOk.then' ?_|refine PanicOk.block ?_|refine PanicOk.jump ?_)|(refine TL.done (by rfl) ?_)|(refine TL.auto tysOk rfl ?_ (by rfl) ?_ ?_)|(refine sm ?_ ?_)|(refine sp ?_ ?_)|(refine TL.one (by rfl) ?_)|(refine TL.two (by rfl) ?_ ?_)|(refine TL.three (by rfl) ?_ ?_ ?_)|(refine TL.four (by rfl) ?_ ?_ ?_ ?_)))
    (refine StepL.law rfl rfl rfl (fun _ h => nomatch h) rfl (m_mpGet (mpI true) rfl (Try.underlying106) (Try.underlying3) rfl rfl rfl (hg1) rfl) (by rfl) ?_; rintro _ rfl)
    (repeat' (first|(with_reducible refine AllP.go ?_;first|exact og|((try simp only [OS]);repeat' (first|exact oj|refine And.intro ?_ ?_)))|(with_reducible first|exact PanicOk.body|exact rd.panic|refine PanicOk.then' ?_|refine PanicOk.block ?_|refine PanicOk.jump ?_)|(refine TL.done (by rfl) ?_)|(refine TL.auto tysOk rfl ?_ (by rfl) ?_ ?_)|(refine sm ?_ ?_)|(refine sp ?_ ?_)|(refine TL.one (by rfl) ?_)|(refine TL.two (by rfl) ?_ ?_)|(refine TL.three (by rfl) ?_ ?_ ?_)|(refine TL.four (by rfl) ?_ ?_ ?_ ?_)))
    refine StepL.callW (hlk) rfl rfl rfl rfl rfl (by rfl) (by (first|exact trivial|((with_reducible refine AllP.go ?_);dsimp only [AllP, appP];repeat' (first|refine And.intro ?_ ?_|exact zz|assumption)))) (by rfl) (by rfl) ?_
    intro _ _
    (repeat' (first|(with_reducible refine AllP.go ?_;first|exact og|((try simp only [OS]);repeat' (first|exact oj|refine And.intro ?_ ?_)))|(with_reducible first|exact PanicOk.body|exact rd.panic|refine PanicOk.then' ?_|refine PanicOk.block ?_|refine PanicOk.jump ?_)|(refine TL.done (by rfl) ?_)|(refine TL.auto tysOk rfl ?_ (by rfl) ?_ ?_)|(refine sm ?_ ?_)|(refine sp ?_ ?_)|(refine TL.one (by rfl) ?_)|(refine TL.two (by rfl) ?_ ?_)|(refine TL.three (by rfl) ?_ ?_ ?_)|(refine TL.four (by rfl) ?_ ?_ ?_ ?_)))
    (repeat' (first|(with_reducible refine AllP.go ?_;first|exact og|((try simp only [OS]);repeat' (first|exact oj|refine And.intro ?_ ?_)))|(refine rg ?_ ?_)|(with_reducible first|refine stp ?_|refine tD rfl ?_)|refine ct ?_|refine cf ?_|((first|refine gs ?_ ?_|refine gl ?_ ?_|refine gc ?_ ?_)<;>intro h<;>(try simp only [NS] at h)<;>(try exact xf)<;>(try refine rn ?_ ?_))))
    (refine TE.drawK (fun i => Nat.beq i 0 || Nat.beq i 4) (by rfl) (by rfl) (by rfl) ?_)
    (repeat' (first|(with_reducible refine AllP.go ?_;first|exact og|((try simp only [OS]);repeat' (first|exact oj|refine And.intro ?_ ?_)))|(with_reducible first|exact PanicOk.body|exact rd.panic|refine PanicOk.then' ?_|refine PanicOk.block ?_|refine PanicOk.jump ?_)|(refine TL.done (by rfl) ?_)|(refine TL.auto tysOk rfl ?_ (by rfl) ?_ ?_)|(refine sm ?_ ?_)|(refine sp ?_ ?_)|(refine TL.one (by rfl) ?_)|(refine TL.two (by rfl) ?_ ?_)|(refine TL.three (by rfl) ?_ ?_ ?_)|(refine TL.four (by rfl) ?_ ?_ ?_ ?_)))
    (refine StepL.law rfl rfl rfl (fun _ h => nomatch h) rfl (m_mpGet (mpI false) rfl (Try.underlying96) (Try.underlying3) rfl rfl rfl (hg2) rfl) (by rfl) ?_; rintro _ rfl)
    (repeat' (first|(with_reducible refine AllP.go ?_;first|exact og|((try simp only [OS]);repeat' (first|exact oj|refine And.intro ?_ ?_)))|(with_reducible first|exact PanicOk.body|exact rd.panic|refine PanicOk.then' ?_|refine PanicOk.block ?_|refine PanicOk.jump ?_)|(refine TL.done (by rfl) ?_)|(refine TL.auto tysOk rfl ?_ (by rfl) ?_ ?_)|(refine sm ?_ ?_)|(refine sp ?_ ?_)|(refine TL.one (by rfl) ?_)|(refine TL.two (by rfl) ?_ ?_)|(refine TL.three (by rfl) ?_ ?_ ?_)|(refine TL.four (by rfl) ?_ ?_ ?_ ?_)))
    (refine StepL.law rfl rfl rfl (fun _ h => nomatch h) rfl (m_mpUp (mpI false) rfl rfl (Try.underlying96) (Try.underlying3) rfl rfl rfl rfl rfl) (by rfl) ?_; rintro _ rfl)
    (repeat' (first|(with_reducible refine AllP.go ?_;first|exact og|((try simp only [OS]);repeat' (first|exact oj|refine And.intro ?_ ?_)))|(with_reducible first|exact PanicOk.body|exact rd.panic|refine PanicOk.then' ?_|refine PanicOk.block ?_|refine PanicOk.jump ?_)|(refine TL.done (by rfl) ?_)|(refine TL.auto tysOk rfl ?_ (by rfl) ?_ ?_)|(refine sm ?_ ?_)|(refine sp ?_ ?_)|(refine TL.one (by rfl) ?_)|(refine TL.two (by rfl) ?_ ?_)|(refine TL.three (by rfl) ?_ ?_ ?_)|(refine TL.four (by rfl) ?_ ?_ ?_ ?_)))
    (repeat' (first|(with_reducible refine AllP.go ?_;first|exact og|((try simp only [OS]);repeat' (first|exact oj|refine And.intro ?_ ?_)))|(refine rg ?_ ?_)|(with_reducible first|refine stp ?_|refine tD rfl ?_)|refine ct ?_|refine cf ?_|((first|refine gs ?_ ?_|refine gl ?_ ?_|refine gc ?_ ?_)<;>intro h<;>(try simp only [NS] at h)<;>(try exact xf)<;>(try refine rn ?_ ?_))))
    (refine TE.ret' io rfl tysOk (()) ?_ rfl (by rfl) ?_;all_goals (try (first|exact trivial|((with_reducible refine AllP.go ?_);dsimp only [AllP, appP];repeat' (first|refine And.intro ?_ ?_|exact zz)))))
    all_goals exact congrArg (AO.mp false) hp2
end Go.Proofs.Ythhpofehcnjmmaa.Am
set_option linter.unusedSimpArgs false
set_option linter.unusedVariables false
namespace Go.Proofs.Ythhpofehcnjmmaa.Am
open Go.RowKit Lw
open Br
abbrev ckJ (j : Nat) (c : Ck) : List Chunk := [.box 0 109 [.own j, .c (.bool c.file), .own 1, .own 2, .c (.int .i64 c.first.length)], .obj 1 (.mp true (ents ndDs 1 c.first)), .obj 2 (.mp false (ents cnDs 1 c.count)), .own j 146 2 (opC c.dirs)]
def placeK (c : Ck) (n : Nd) : Ck := if placeF c n = 0 then { c with dirs := placeD c n } else c
theorem op_set {l : List (Int × ByteArray)} {i : Nat} {z : Int} {s : ByteArray} (h : i < l.length) : LeDC 2 (setC (setC (opC l) i 0 (.c (.int .i64 z))) i 1 (.c (.string s))) (opC (l.set i (z, s))) := by
  refine ⟨(List.length_set ..).symm, fun a j ha hj => LeX.of_eq ?_⟩
  show (if a = i ∧ j = 1 then _ else if a = i ∧ j = 0 then _ else opR (l.getD a dd0) j) = opR ((l.set i (z, s)).getD a dd0) j
  rw [getD_set h]
  by_cases e : a = i
  · subst e
    rw [if_pos rfl]
    rcases j with _ | _ | j
    · rw [if_neg (fun k => absurd k.2 (by decide)), if_pos ⟨rfl, rfl⟩]; rfl
    · rw [if_pos ⟨rfl, rfl⟩]; rfl
    · omega
  · rw [if_neg (fun k => e k.1), if_neg (fun k => e k.1), if_neg e]
theorem op_fin {l : List (Int × ByteArray)} {k : Nat} (h : k ≤ l.length) : LeDC 2 (appC (headC (opC l) k) (litC [[.c (.int .i64 0), .c (.string eS)]])) (opC (l.take k ++ [dd0])) := by
  have hk : (l.take k).length = k := by rw [List.length_take]; omega
  refine ⟨by show k + 1 = (l.take k ++ [dd0]).length; rw [List.length_append, hk]; rfl, fun a j ha hj => LeX.of_eq ?_⟩
  show (if a < k then opR (l.getD a dd0) j else _) = opR ((l.take k ++ [dd0]).getD a dd0) j
  have ha : a < k + 1 := ha
  rw [getD_snoc, hk]
  by_cases e : a < k
  · rw [if_pos e, if_pos e, getD_take e]
  · obtain rfl : a = k := by omega
    rw [if_neg e, if_neg e, if_pos rfl]
    show nthD (nthR [[DC.c (.int .i64 0), DC.c (.string eS)]] (a - a)) j = opR dd0 j
    rw [Nat.sub_self]
    rcases j with _ | _ | j
    · rfl
    · rfl
    · omega
theorem gtr_iff {a b : ByteArray} : At.ltS b a = true ↔ Op.bytesLess a.data.toList b.data.toList = false ∧ a ≠ b := by
  constructor
  · intro h
    exact ⟨At.ltS_asymm h, fun e => At.ltS_ne h e.symm⟩
  · rintro ⟨h1, h2⟩
    cases h : At.ltS b a
    · exact absurd (At.ltS_tri h1 h) h2
    · rfl
set_option maxRecDepth 20000 in
set_option maxHeartbeats 4000000 in
theorem place_c (c : Ck) (n : Nd) (hns : n.name.size ≤ 1000000000) (hd : c.dirs.length ≤ 1000) (hz : ∀ x ∈ c.dirs, 0 ≤ x.1 ∧ x.1 ≤ 24) : Con Try.prog 98 [.o (.ptr 0 0), .g (ndA n)] (ckH c) 4 5 U (fun _ => .o (.c (.int .i64 (placeF c n)))) (fun _ => ckJ 4 (placeK c n)) := by
  refine con_of Try.func98 rfl (by kernel_rfl) Try.ntmps98 rfl (by first | exact Nat.zero_le _ | decide) (fun _ => ⟨rfl, rfl⟩) fun w S ν => ?_
  have hdn : (opC c.dirs).n = c.dirs.length := rfl
  by_cases h0 : c.dirs = []
  · have h00 : c.dirs.length = 0 := by rw [h0]; rfl
    have hF : placeF c n = if n.depth ≠ 0 ∨ n.name.size ≠ 0 ∨ n.kind ≠ 1 then 6 else 0 := if_pos h0
    by_cases h1 : n.depth ≠ 0 ∨ n.name.size ≠ 0 ∨ n.kind ≠ 1
    · rw [if_pos h1] at hF
      have hK : placeK c n = c := by unfold placeK; rw [if_neg (by rw [hF]; decide)]
      rw [hF, hK]
      (repeat' (first|(with_reducible refine AllP.go ?_;first|exact og|((try simp only [OS]);repeat' (first|exact oj|refine And.intro ?_ ?_)))|(refine rg ?_ ?_)|(with_reducible first|refine stp ?_|refine tD rfl ?_)|refine ct ?_|refine cf ?_|((first|refine gs ?_ ?_|refine gl ?_ ?_|refine gc ?_ ?_)<;>intro h<;>(try simp only [NS] at h)<;>(try exact xf)<;>(try refine rn ?_ ?_))))
      all_goals (refine TE.ret' io rfl tysOk (()) ?_ rfl (by rfl) ?_;all_goals (try (first|exact trivial|((with_reducible refine AllP.go ?_);dsimp only [AllP, appP];repeat' (first|refine And.intro ?_ ?_|exact zz)))))
    · rw [if_neg h1] at hF
      have hK : placeK c n = { c with dirs := [dd0] } := by unfold placeK placeD; rw [if_pos hF, if_pos h0]
      rw [hF, hK]
      (repeat' (first|(with_reducible refine AllP.go ?_;first|exact og|((try simp only [OS]);repeat' (first|exact oj|refine And.intro ?_ ?_)))|(refine rg ?_ ?_)|(with_reducible first|refine stp ?_|refine tD rfl ?_)|refine ct ?_|refine cf ?_|((first|refine gs ?_ ?_|refine gl ?_ ?_|refine gc ?_ ?_)<;>intro h<;>(try simp only [NS] at h)<;>(try exact xf)<;>(try refine rn ?_ ?_))))
      (refine TE.ret' io rfl tysOk (()) ?_ rfl (by rfl) ?_;all_goals (try (first|exact trivial|((with_reducible refine AllP.go ?_);dsimp only [AllP, appP];repeat' (first|refine And.intro ?_ ?_|exact zz)))))
      rw [h0]
      exact listC_snoc (l := []) dd0 rfl (nth2 rfl rfl)
  have hpos : 0 < c.dirs.length := List.length_pos_iff.2 h0
  have hF0 : placeF c n = if n.depth < 1 ∨ mostS c < n.depth then 6 else if 8 < n.depth then 3 else if pnameE n.name ≠ 0 then pnameE n.name else if 0 < (dirAt c n).1 ∧ (dirAt c n).2 = n.name then 8 else if 0 < (dirAt c n).1 ∧ At.ltS n.name (dirAt c n).2 = true then 6 else if (dirAt c n).1 = 24 then 3 else 0 := if_neg h0
  have hm : mostS c = (c.dirs.length : Int) - (if c.file = true then 1 else 0) := rfl
  have hmv : ∃ m : Int, m = mostS c ∧ 0 ≤ m ∧ m ≤ c.dirs.length := ⟨_, rfl, by rw [hm]; split <;> omega, by rw [hm]; split <;> omega⟩
  obtain ⟨most, hmo, hm1, hm2⟩ := hmv
  rw [← hmo] at hF0 hm
  (refine TE.seq ?_; (refine TE.rgo tysOk rfl (by rfl) (by (first | exact trivial | exact fun i _ => ⟨_, rfl⟩ | ((try simp only [OS]); repeat' (first | omega | exact fun i _ => ⟨_, rfl⟩ | refine And.intro ?_ ?_)))) ?_); refine TE.done ?_; refine TE.thenN ?_)
  (refine TE.seqM (ι := Unit) (fun _ => True) (fun _ => ⟨[(3, .o (.ptr 4 0)), (0, .o (.ptr 0 0))], .box 4 70 (ndA n) :: ckH c, 5⟩) ?_ fun _ _ => ?_)
  · (repeat' (first|(with_reducible refine AllP.go ?_;first|exact og|((try simp only [OS]);repeat' (first|exact oj|refine And.intro ?_ ?_)))|(refine rg ?_ ?_)|(with_reducible first|refine stp ?_|refine tD rfl ?_)|refine ct ?_|refine cf ?_|((first|refine gs ?_ ?_|refine gl ?_ ?_|refine gc ?_ ?_)<;>intro h<;>(try simp only [NS] at h)<;>(try exact xf)<;>(try refine rn ?_ ?_))))
    (refine TE.at () trivial ?_;(refine Ent.of rfl rfl (by rfl) ?_;(try (first|exact trivial|((with_reducible refine AllP.go ?_);dsimp only [AllP, appP];repeat' (first|refine And.intro ?_ ?_|exact zz))))))
  (refine TE.seq ?_; (refine TE.rgo tysOk rfl (by rfl) (by (first | exact trivial | exact fun i _ => ⟨_, rfl⟩ | ((try simp only [OS]); repeat' (first | omega | exact fun i _ => ⟨_, rfl⟩ | refine And.intro ?_ ?_)))) ?_); refine TE.done ?_; refine TE.thenN ?_)
  (refine TE.seqM (ι := Unit) (fun _ => True) (fun _ => ⟨[(5, .o (.c (.int .i64 most))), (3, .o (.ptr 4 0)), (0, .o (.ptr 0 0))], .box 4 70 (ndA n) :: ckH c, 5⟩) ?_ fun _ _ => ?_)
  · cases hfl : c.file
    · rw [hfl, if_neg (by decide)] at hm
      (repeat' (first|(with_reducible refine AllP.go ?_;first|exact og|((try simp only [OS]);repeat' (first|exact oj|refine And.intro ?_ ?_)))|(refine rg ?_ ?_)|(with_reducible first|refine stp ?_|refine tD rfl ?_)|refine ct ?_|refine cf ?_|((first|refine gs ?_ ?_|refine gl ?_ ?_|refine gc ?_ ?_)<;>intro h<;>(try simp only [NS] at h)<;>(try exact xf)<;>(try refine rn ?_ ?_))))
      (refine TE.at () trivial ?_;(refine Ent.of rfl rfl (by rfl) ?_;(try (first|exact trivial|((with_reducible refine AllP.go ?_);dsimp only [AllP, appP];repeat' (first|refine And.intro ?_ ?_|exact zz))))))
      all_goals exact congrArg Value.bool hfl.symm
    · rw [hfl, if_pos rfl] at hm
      (repeat' (first|(with_reducible refine AllP.go ?_;first|exact og|((try simp only [OS]);repeat' (first|exact oj|refine And.intro ?_ ?_)))|(refine rg ?_ ?_)|(with_reducible first|refine stp ?_|refine tD rfl ?_)|refine ct ?_|refine cf ?_|((first|refine gs ?_ ?_|refine gl ?_ ?_|refine gc ?_ ?_)<;>intro h<;>(try simp only [NS] at h)<;>(try exact xf)<;>(try refine rn ?_ ?_))))
      (refine TE.at () trivial ?_;(refine Ent.of rfl rfl (by rfl) ?_;(try (first|exact trivial|((with_reducible refine AllP.go ?_);dsimp only [AllP, appP];repeat' (first|refine And.intro ?_ ?_|exact zz))))))
      all_goals exact congrArg Value.bool hfl.symm
  by_cases h1 : n.depth < 1 ∨ most < n.depth
  · rw [if_pos h1] at hF0
    have hK : placeK c n = c := by unfold placeK; rw [if_neg (by rw [hF0]; decide)]
    rw [hF0, hK]
    (repeat' (first|(with_reducible refine AllP.go ?_;first|exact og|((try simp only [OS]);repeat' (first|exact oj|refine And.intro ?_ ?_)))|(refine rg ?_ ?_)|(with_reducible first|refine stp ?_|refine tD rfl ?_)|refine ct ?_|refine cf ?_|((first|refine gs ?_ ?_|refine gl ?_ ?_|refine gc ?_ ?_)<;>intro h<;>(try simp only [NS] at h)<;>(try exact xf)<;>(try refine rn ?_ ?_))))
    all_goals (refine TE.ret' io rfl tysOk (()) ?_ rfl (by rfl) ?_;all_goals (try (first|exact trivial|((with_reducible refine AllP.go ?_);dsimp only [AllP, appP];repeat' (first|refine And.intro ?_ ?_|exact zz)))))
  rw [if_neg h1] at hF0
  by_cases h2 : 8 < n.depth
  · rw [if_pos h2] at hF0
    have hK : placeK c n = c := by unfold placeK; rw [if_neg (by rw [hF0]; decide)]
    rw [hF0, hK]
    (repeat' (first|(with_reducible refine AllP.go ?_;first|exact og|((try simp only [OS]);repeat' (first|exact oj|refine And.intro ?_ ?_)))|(refine rg ?_ ?_)|(with_reducible first|refine stp ?_|refine tD rfl ?_)|refine ct ?_|refine cf ?_|((first|refine gs ?_ ?_|refine gl ?_ ?_|refine gc ?_ ?_)<;>intro h<;>(try simp only [NS] at h)<;>(try exact xf)<;>(try refine rn ?_ ?_))))
    all_goals (refine TE.ret' io rfl tysOk (()) ?_ rfl (by rfl) ?_;all_goals (try (first|exact trivial|((with_reducible refine AllP.go ?_);dsimp only [AllP, appP];repeat' (first|refine And.intro ?_ ?_|exact zz)))))
  rw [if_neg h2] at hF0
  (repeat' (first|(with_reducible refine AllP.go ?_;first|exact og|((try simp only [OS]);repeat' (first|exact oj|refine And.intro ?_ ?_)))|(refine rg ?_ ?_)|(with_reducible first|refine stp ?_|refine tD rfl ?_)|refine ct ?_|refine cf ?_|((first|refine gs ?_ ?_|refine gl ?_ ?_|refine gc ?_ ?_)<;>intro h<;>(try simp only [NS] at h)<;>(try exact xf)<;>(try refine rn ?_ ?_))))
  refine TE.callW (pName_c n.name hns) rfl (by rfl) (by rfl) rfl (by rfl) (by (first|exact trivial|((with_reducible refine AllP.go ?_);dsimp only [AllP, appP];repeat' (first|refine And.intro ?_ ?_|exact zz|assumption)))) ?_
  intro _ _
  by_cases h3 : pnameE n.name ≠ 0
  · rw [if_pos h3] at hF0
    have hK : placeK c n = c := by unfold placeK; rw [if_neg (by rw [hF0]; exact h3)]
    rw [hF0, hK]
    ((refine rn ?_ ?_);(repeat' (first|(with_reducible refine AllP.go ?_;first|exact og|((try simp only [OS]);repeat' (first|exact oj|refine And.intro ?_ ?_)))|(refine rg ?_ ?_)|(with_reducible first|refine stp ?_|refine tD rfl ?_)|refine ct ?_|refine cf ?_|((first|refine gs ?_ ?_|refine gl ?_ ?_|refine gc ?_ ?_)<;>intro h<;>(try simp only [NS] at h)<;>(try exact xf)<;>(try refine rn ?_ ?_)))))
    all_goals (refine TE.ret' io rfl tysOk (()) ?_ rfl (by rfl) ?_;all_goals (try (first|exact trivial|((with_reducible refine AllP.go ?_);dsimp only [AllP, appP];repeat' (first|refine And.intro ?_ ?_|exact zz)))))
  rw [if_neg h3] at hF0
  ((refine rn ?_ ?_);(repeat' (first|(with_reducible refine AllP.go ?_;first|exact og|((try simp only [OS]);repeat' (first|exact oj|refine And.intro ?_ ?_)))|(refine rg ?_ ?_)|(with_reducible first|refine stp ?_|refine tD rfl ?_)|refine ct ?_|refine cf ?_|((first|refine gs ?_ ?_|refine gl ?_ ?_|refine gc ?_ ?_)<;>intro h<;>(try simp only [NS] at h)<;>(try exact xf)<;>(try refine rn ?_ ?_)))))
  (refine TE.only [3, 0] (by rfl) ?_)
  ((refine dn ?_);repeat' (first|(with_reducible refine AllP.go ?_;first|exact og|((try simp only [OS]);repeat' (first|exact oj|refine And.intro ?_ ?_)))|(with_reducible first|exact PanicOk.body|exact rd.panic|refine PanicOk.then' ?_|refine PanicOk.block ?_|refine PanicOk.jump ?_)|(refine TL.done (by rfl) ?_)|(refine TL.auto tysOk rfl ?_ (by rfl) ?_ ?_)|((refine TL.one (by rfl) ?_);first|(refine sm ?_ ?_)|(refine sp ?_ ?_))|(refine sm ?_ ?_)|((first|refine gl ?_ ?_|refine gc ?_ ?_)<;>intro h<;>(try simp only [NS] at h)<;>(try exact xf))))
  (refine TE.only [7, 3, 0] (by rfl) ?_)
  have hDm := hz _ (getD_mem (l := c.dirs) (d := dd0) (k := (n.depth - 1).toNat) (by omega))
  by_cases h4 : 0 < (dirAt c n).1 ∧ (dirAt c n).2 = n.name
  · rw [if_pos h4] at hF0
    have hK : placeK c n = c := by unfold placeK; rw [if_neg (by rw [hF0]; decide)]
    rw [hF0, hK]
    unfold dirAt at h4
    (repeat' (first|(with_reducible refine AllP.go ?_;first|exact og|((try simp only [OS]);repeat' (first|exact oj|refine And.intro ?_ ?_)))|(refine rg ?_ ?_)|(with_reducible first|refine stp ?_|refine tD rfl ?_)|refine ct ?_|refine cf ?_|((first|refine gs ?_ ?_|refine gl ?_ ?_|refine gc ?_ ?_)<;>intro h<;>(try simp only [NS] at h)<;>(try exact xf)<;>(try refine rn ?_ ?_))))
    ((refine dn ?_);repeat' (first|(with_reducible refine AllP.go ?_;first|exact og|((try simp only [OS]);repeat' (first|exact oj|refine And.intro ?_ ?_)))|(with_reducible first|exact PanicOk.body|exact rd.panic|refine PanicOk.then' ?_|refine PanicOk.block ?_|refine PanicOk.jump ?_)|(refine TL.done (by rfl) ?_)|(refine TL.auto tysOk rfl ?_ (by rfl) ?_ ?_)|((refine TL.one (by rfl) ?_);first|(refine sm ?_ ?_)|(refine sp ?_ ?_)|(refine StepL.law rfl rfl rfl (fun _ h => nomatch h) rfl (m_nilO rfl rfl) (by rfl) ?_;rintro _ rfl)|(refine StepL.law rfl rfl rfl (fun _ h => nomatch h) rfl (m_cutOwn tysOk rfl (und_slice tysOk rfl) rfl rfl rfl rfl rfl ?_) (by rfl) ?_;rotate_left;rintro _ rfl;rotate_right;first|omega|skip))|(refine sm ?_ ?_)|((first|refine gl ?_ ?_|refine gc ?_ ?_)<;>intro h<;>(try simp only [NS] at h)<;>(try exact xf))|(refine TL.two (by rfl) ?_ ?_)|(refine TL.three (by rfl) ?_ ?_ ?_)|(refine TL.four (by rfl) ?_ ?_ ?_ ?_)))
    all_goals first | (exfalso; first | omega | exact absurd h4.2 (by assumption)) | skip
    all_goals (repeat' (first|(with_reducible refine AllP.go ?_;first|exact og|((try simp only [OS]);repeat' (first|exact oj|refine And.intro ?_ ?_)))|(refine rg ?_ ?_)|(with_reducible first|refine stp ?_|refine tD rfl ?_)|refine ct ?_|refine cf ?_|((first|refine gs ?_ ?_|refine gl ?_ ?_|refine gc ?_ ?_)<;>intro h<;>(try simp only [NS] at h)<;>(try exact xf)<;>(try refine rn ?_ ?_))))
    all_goals first | (exfalso; first | omega | exact absurd h4.2 (by assumption)) | skip
    all_goals (refine TE.ret' io rfl tysOk (()) ?_ rfl (by rfl) ?_;all_goals (try (first|exact trivial|((with_reducible refine AllP.go ?_);dsimp only [AllP, appP];repeat' (first|refine And.intro ?_ ?_|exact zz)))))
  rw [if_neg h4] at hF0
  by_cases h5 : 0 < (dirAt c n).1 ∧ At.ltS n.name (dirAt c n).2 = true
  · rw [if_pos h5] at hF0
    have hK : placeK c n = c := by unfold placeK; rw [if_neg (by rw [hF0]; decide)]
    rw [hF0, hK]
    unfold dirAt at h4 h5
    (repeat' (first|(with_reducible refine AllP.go ?_;first|exact og|((try simp only [OS]);repeat' (first|exact oj|refine And.intro ?_ ?_)))|(refine rg ?_ ?_)|(with_reducible first|refine stp ?_|refine tD rfl ?_)|refine ct ?_|refine cf ?_|((first|refine gs ?_ ?_|refine gl ?_ ?_|refine gc ?_ ?_)<;>intro h<;>(try simp only [NS] at h)<;>(try exact xf)<;>(try refine rn ?_ ?_))))
    ((refine dn ?_);repeat' (first|(with_reducible refine AllP.go ?_;first|exact og|((try simp only [OS]);repeat' (first|exact oj|refine And.intro ?_ ?_)))|(with_reducible first|exact PanicOk.body|exact rd.panic|refine PanicOk.then' ?_|refine PanicOk.block ?_|refine PanicOk.jump ?_)|(refine TL.done (by rfl) ?_)|(refine TL.auto tysOk rfl ?_ (by rfl) ?_ ?_)|((refine TL.one (by rfl) ?_);first|(refine sm ?_ ?_)|(refine sp ?_ ?_)|(refine StepL.law rfl rfl rfl (fun _ h => nomatch h) rfl (m_nilO rfl rfl) (by rfl) ?_;rintro _ rfl)|(refine StepL.law rfl rfl rfl (fun _ h => nomatch h) rfl (m_cutOwn tysOk rfl (und_slice tysOk rfl) rfl rfl rfl rfl rfl ?_) (by rfl) ?_;rotate_left;rintro _ rfl;rotate_right;first|omega|skip))|(refine sm ?_ ?_)|((first|refine gl ?_ ?_|refine gc ?_ ?_)<;>intro h<;>(try simp only [NS] at h)<;>(try exact xf))|(refine TL.two (by rfl) ?_ ?_)|(refine TL.three (by rfl) ?_ ?_ ?_)|(refine TL.four (by rfl) ?_ ?_ ?_ ?_)))
    all_goals first | (exfalso; first | omega | exact h4 ⟨by assumption, by assumption⟩) | skip
    all_goals (repeat' (first|(with_reducible refine AllP.go ?_;first|exact og|((try simp only [OS]);repeat' (first|exact oj|refine And.intro ?_ ?_)))|(refine rg ?_ ?_)|(with_reducible first|refine stp ?_|refine tD rfl ?_)|refine ct ?_|refine cf ?_|((first|refine gs ?_ ?_|refine gl ?_ ?_|refine gc ?_ ?_)<;>intro h<;>(try simp only [NS] at h)<;>(try exact xf)<;>(try refine rn ?_ ?_))))
    all_goals first | (exfalso; first | omega | exact h4 ⟨by assumption, by assumption⟩) | skip
    rw [gtr_iff] at h5
    all_goals ((refine dn ?_);repeat' (first|(with_reducible refine AllP.go ?_;first|exact og|((try simp only [OS]);repeat' (first|exact oj|refine And.intro ?_ ?_)))|(with_reducible first|exact PanicOk.body|exact rd.panic|refine PanicOk.then' ?_|refine PanicOk.block ?_|refine PanicOk.jump ?_)|(refine TL.done (by rfl) ?_)|(refine TL.auto tysOk rfl ?_ (by rfl) ?_ ?_)|((refine TL.one (by rfl) ?_);first|(refine sm ?_ ?_)|(refine sp ?_ ?_)|(refine StepL.law rfl rfl rfl (fun _ h => nomatch h) rfl (m_nilO rfl rfl) (by rfl) ?_;rintro _ rfl)|(refine StepL.law rfl rfl rfl (fun _ h => nomatch h) rfl (m_cutOwn tysOk rfl (und_slice tysOk rfl) rfl rfl rfl rfl rfl ?_) (by rfl) ?_;rotate_left;rintro _ rfl;rotate_right;first|omega|skip))|(refine sm ?_ ?_)|((first|refine gl ?_ ?_|refine gc ?_ ?_)<;>intro h<;>(try simp only [NS] at h)<;>(try exact xf))|(refine TL.two (by rfl) ?_ ?_)|(refine TL.three (by rfl) ?_ ?_ ?_)|(refine TL.four (by rfl) ?_ ?_ ?_ ?_)))
    all_goals first | (exfalso; simp_all; done) | skip
    all_goals (repeat' (first|(with_reducible refine AllP.go ?_;first|exact og|((try simp only [OS]);repeat' (first|exact oj|refine And.intro ?_ ?_)))|(refine rg ?_ ?_)|(with_reducible first|refine stp ?_|refine tD rfl ?_)|refine ct ?_|refine cf ?_|((first|refine gs ?_ ?_|refine gl ?_ ?_|refine gc ?_ ?_)<;>intro h<;>(try simp only [NS] at h)<;>(try exact xf)<;>(try refine rn ?_ ?_))))
    all_goals (refine TE.ret' io rfl tysOk (()) ?_ rfl (by rfl) ?_;all_goals (try (first|exact trivial|((with_reducible refine AllP.go ?_);dsimp only [AllP, appP];repeat' (first|refine And.intro ?_ ?_|exact zz)))))
  rw [if_neg h5] at hF0
  by_cases h6 : (dirAt c n).1 = 24
  · rw [if_pos h6] at hF0
    have hK : placeK c n = c := by unfold placeK; rw [if_neg (by rw [hF0]; decide)]
    rw [hF0, hK]
    rw [gtr_iff] at h5
    unfold dirAt at h4 h5 h6
    (repeat' (first|(with_reducible refine AllP.go ?_;first|exact og|((try simp only [OS]);repeat' (first|exact oj|refine And.intro ?_ ?_)))|(refine rg ?_ ?_)|(with_reducible first|refine stp ?_|refine tD rfl ?_)|refine ct ?_|refine cf ?_|((first|refine gs ?_ ?_|refine gl ?_ ?_|refine gc ?_ ?_)<;>intro h<;>(try simp only [NS] at h)<;>(try exact xf)<;>(try refine rn ?_ ?_))))
    ((refine dn ?_);repeat' (first|(with_reducible refine AllP.go ?_;first|exact og|((try simp only [OS]);repeat' (first|exact oj|refine And.intro ?_ ?_)))|(with_reducible first|exact PanicOk.body|exact rd.panic|refine PanicOk.then' ?_|refine PanicOk.block ?_|refine PanicOk.jump ?_)|(refine TL.done (by rfl) ?_)|(refine TL.auto tysOk rfl ?_ (by rfl) ?_ ?_)|((refine TL.one (by rfl) ?_);first|(refine sm ?_ ?_)|(refine sp ?_ ?_)|(refine StepL.law rfl rfl rfl (fun _ h => nomatch h) rfl (m_nilO rfl rfl) (by rfl) ?_;rintro _ rfl)|(refine StepL.law rfl rfl rfl (fun _ h => nomatch h) rfl (m_cutOwn tysOk rfl (und_slice tysOk rfl) rfl rfl rfl rfl rfl ?_) (by rfl) ?_;rotate_left;rintro _ rfl;rotate_right;first|omega|skip))|(refine sm ?_ ?_)|((first|refine gl ?_ ?_|refine gc ?_ ?_)<;>intro h<;>(try simp only [NS] at h)<;>(try exact xf))|(refine TL.two (by rfl) ?_ ?_)|(refine TL.three (by rfl) ?_ ?_ ?_)|(refine TL.four (by rfl) ?_ ?_ ?_ ?_)))
    all_goals first | (exfalso; first | omega | exact h4 ⟨by assumption, by assumption⟩) | skip
    all_goals (repeat' (first|(with_reducible refine AllP.go ?_;first|exact og|((try simp only [OS]);repeat' (first|exact oj|refine And.intro ?_ ?_)))|(refine rg ?_ ?_)|(with_reducible first|refine stp ?_|refine tD rfl ?_)|refine ct ?_|refine cf ?_|((first|refine gs ?_ ?_|refine gl ?_ ?_|refine gc ?_ ?_)<;>intro h<;>(try simp only [NS] at h)<;>(try exact xf)<;>(try refine rn ?_ ?_))))
    all_goals first | (exfalso; first | omega | exact h4 ⟨by assumption, by assumption⟩) | skip
    all_goals ((refine dn ?_);repeat' (first|(with_reducible refine AllP.go ?_;first|exact og|((try simp only [OS]);repeat' (first|exact oj|refine And.intro ?_ ?_)))|(with_reducible first|exact PanicOk.body|exact rd.panic|refine PanicOk.then' ?_|refine PanicOk.block ?_|refine PanicOk.jump ?_)|(refine TL.done (by rfl) ?_)|(refine TL.auto tysOk rfl ?_ (by rfl) ?_ ?_)|((refine TL.one (by rfl) ?_);first|(refine sm ?_ ?_)|(refine sp ?_ ?_)|(refine StepL.law rfl rfl rfl (fun _ h => nomatch h) rfl (m_nilO rfl rfl) (by rfl) ?_;rintro _ rfl)|(refine StepL.law rfl rfl rfl (fun _ h => nomatch h) rfl (m_cutOwn tysOk rfl (und_slice tysOk rfl) rfl rfl rfl rfl rfl ?_) (by rfl) ?_;rotate_left;rintro _ rfl;rotate_right;first|omega|skip))|(refine sm ?_ ?_)|((first|refine gl ?_ ?_|refine gc ?_ ?_)<;>intro h<;>(try simp only [NS] at h)<;>(try exact xf))|(refine TL.two (by rfl) ?_ ?_)|(refine TL.three (by rfl) ?_ ?_ ?_)|(refine TL.four (by rfl) ?_ ?_ ?_ ?_)))
    all_goals first | (exfalso; first | omega | exact h5 ⟨by assumption, by assumption⟩) | skip
    all_goals (repeat' (first|(with_reducible refine AllP.go ?_;first|exact og|((try simp only [OS]);repeat' (first|exact oj|refine And.intro ?_ ?_)))|(refine rg ?_ ?_)|(with_reducible first|refine stp ?_|refine tD rfl ?_)|refine ct ?_|refine cf ?_|((first|refine gs ?_ ?_|refine gl ?_ ?_|refine gc ?_ ?_)<;>intro h<;>(try simp only [NS] at h)<;>(try exact xf)<;>(try refine rn ?_ ?_))))
    all_goals first | (exfalso; first | omega | exact h5 ⟨by assumption, by assumption⟩) | skip
    all_goals ((refine TE.step rfl rfl rfl (fun _ h => nomatch h) (m_nilO rfl rfl) ?_;rintro _ rfl);((refine rn ?_ ?_);(repeat' (first|(with_reducible refine AllP.go ?_;first|exact og|((try simp only [OS]);repeat' (first|exact oj|refine And.intro ?_ ?_)))|(refine rg ?_ ?_)|(with_reducible first|refine stp ?_|refine tD rfl ?_)|refine ct ?_|refine cf ?_|((first|refine gs ?_ ?_|refine gl ?_ ?_|refine gc ?_ ?_)<;>intro h<;>(try simp only [NS] at h)<;>(try exact xf)<;>(try refine rn ?_ ?_))))))
    all_goals (refine TE.ret' io rfl tysOk (()) ?_ rfl (by rfl) ?_;all_goals (try (first|exact trivial|((with_reducible refine AllP.go ?_);dsimp only [AllP, appP];repeat' (first|refine And.intro ?_ ?_|exact zz)))))
  rw [if_neg h6] at hF0
  (refine TE.seqM (ι := Unit) (fun _ => True) (fun _ => ⟨[(7, .o (.optr 3 2 (n.depth - 1).toNat 0)), (3, .o (.ptr 4 0)), (0, .o (.ptr 0 0))], .box 4 70 (ndA n) :: ckH c, 5⟩) ?_ fun _ _ => ?_)
  · rw [gtr_iff] at h5
    unfold dirAt at h4 h5 h6
    (repeat' (first|(with_reducible refine AllP.go ?_;first|exact og|((try simp only [OS]);repeat' (first|exact oj|refine And.intro ?_ ?_)))|(refine rg ?_ ?_)|(with_reducible first|refine stp ?_|refine tD rfl ?_)|refine ct ?_|refine cf ?_|((first|refine gs ?_ ?_|refine gl ?_ ?_|refine gc ?_ ?_)<;>intro h<;>(try simp only [NS] at h)<;>(try exact xf)<;>(try refine rn ?_ ?_))))
    ((refine dn ?_);repeat' (first|(with_reducible refine AllP.go ?_;first|exact og|((try simp only [OS]);repeat' (first|exact oj|refine And.intro ?_ ?_)))|(with_reducible first|exact PanicOk.body|exact rd.panic|refine PanicOk.then' ?_|refine PanicOk.block ?_|refine PanicOk.jump ?_)|(refine TL.done (by rfl) ?_)|(refine TL.auto tysOk rfl ?_ (by rfl) ?_ ?_)|((refine TL.one (by rfl) ?_);first|(refine sm ?_ ?_)|(refine sp ?_ ?_)|(refine StepL.law rfl rfl rfl (fun _ h => nomatch h) rfl (m_nilO rfl rfl) (by rfl) ?_;rintro _ rfl)|(refine StepL.law rfl rfl rfl (fun _ h => nomatch h) rfl (m_cutOwn tysOk rfl (und_slice tysOk rfl) rfl rfl rfl rfl rfl ?_) (by rfl) ?_;rotate_left;rintro _ rfl;rotate_right;first|omega|skip))|(refine sm ?_ ?_)|((first|refine gl ?_ ?_|refine gc ?_ ?_)<;>intro h<;>(try simp only [NS] at h)<;>(try exact xf))|(refine TL.two (by rfl) ?_ ?_)|(refine TL.three (by rfl) ?_ ?_ ?_)|(refine TL.four (by rfl) ?_ ?_ ?_ ?_)))
    all_goals first | (exfalso; first | omega | exact h4 ⟨by assumption, by assumption⟩) | skip
    all_goals (repeat' (first|(with_reducible refine AllP.go ?_;first|exact og|((try simp only [OS]);repeat' (first|exact oj|refine And.intro ?_ ?_)))|(refine rg ?_ ?_)|(with_reducible first|refine stp ?_|refine tD rfl ?_)|refine ct ?_|refine cf ?_|((first|refine gs ?_ ?_|refine gl ?_ ?_|refine gc ?_ ?_)<;>intro h<;>(try simp only [NS] at h)<;>(try exact xf)<;>(try refine rn ?_ ?_))))
    all_goals first | (exfalso; first | omega | exact h4 ⟨by assumption, by assumption⟩) | skip
    all_goals ((refine dn ?_);repeat' (first|(with_reducible refine AllP.go ?_;first|exact og|((try simp only [OS]);repeat' (first|exact oj|refine And.intro ?_ ?_)))|(with_reducible first|exact PanicOk.body|exact rd.panic|refine PanicOk.then' ?_|refine PanicOk.block ?_|refine PanicOk.jump ?_)|(refine TL.done (by rfl) ?_)|(refine TL.auto tysOk rfl ?_ (by rfl) ?_ ?_)|((refine TL.one (by rfl) ?_);first|(refine sm ?_ ?_)|(refine sp ?_ ?_)|(refine StepL.law rfl rfl rfl (fun _ h => nomatch h) rfl (m_nilO rfl rfl) (by rfl) ?_;rintro _ rfl)|(refine StepL.law rfl rfl rfl (fun _ h => nomatch h) rfl (m_cutOwn tysOk rfl (und_slice tysOk rfl) rfl rfl rfl rfl rfl ?_) (by rfl) ?_;rotate_left;rintro _ rfl;rotate_right;first|omega|skip))|(refine sm ?_ ?_)|((first|refine gl ?_ ?_|refine gc ?_ ?_)<;>intro h<;>(try simp only [NS] at h)<;>(try exact xf))|(refine TL.two (by rfl) ?_ ?_)|(refine TL.three (by rfl) ?_ ?_ ?_)|(refine TL.four (by rfl) ?_ ?_ ?_ ?_)))
    all_goals first | (exfalso; first | omega | exact h5 ⟨by assumption, by assumption⟩) | skip
    all_goals (repeat' (first|(with_reducible refine AllP.go ?_;first|exact og|((try simp only [OS]);repeat' (first|exact oj|refine And.intro ?_ ?_)))|(refine rg ?_ ?_)|(with_reducible first|refine stp ?_|refine tD rfl ?_)|refine ct ?_|refine cf ?_|((first|refine gs ?_ ?_|refine gl ?_ ?_|refine gc ?_ ?_)<;>intro h<;>(try simp only [NS] at h)<;>(try exact xf)<;>(try refine rn ?_ ?_))))
    all_goals first | (exfalso; first | omega | exact h5 ⟨by assumption, by assumption⟩) | skip
    all_goals ((refine TE.step rfl rfl rfl (fun _ h => nomatch h) (m_nilO rfl rfl) ?_;rintro _ rfl);((refine rn ?_ ?_);(repeat' (first|(with_reducible refine AllP.go ?_;first|exact og|((try simp only [OS]);repeat' (first|exact oj|refine And.intro ?_ ?_)))|(refine rg ?_ ?_)|(with_reducible first|refine stp ?_|refine tD rfl ?_)|refine ct ?_|refine cf ?_|((first|refine gs ?_ ?_|refine gl ?_ ?_|refine gc ?_ ?_)<;>intro h<;>(try simp only [NS] at h)<;>(try exact xf)<;>(try refine rn ?_ ?_))))))
    all_goals (refine TE.at () trivial ?_;(refine Ent.of rfl rfl (by rfl) ?_;(try (first|exact trivial|((with_reducible refine AllP.go ?_);dsimp only [AllP, appP];repeat' (first|refine And.intro ?_ ?_|exact zz))))))
  have hK : placeK c n = { c with dirs := placeD c n } := by unfold placeK; rw [if_pos hF0]
  rw [hF0, hK]
  unfold dirAt at h4 h5 h6
  have hlt : (n.depth - 1).toNat < c.dirs.length := by omega
  have hnn : (opC ({ c with dirs := c.dirs.set (n.depth - 1).toNat ((dirAt c n).1 + 1, n.name) } : Ck).dirs).n = c.dirs.length := List.length_set ..
  have hpd : placeD c n = (c.dirs.set (n.depth - 1).toNat ((dirAt c n).1 + 1, n.name)).take n.depth.toNat ++ [dd0] := if_neg h0
  (refine TE.seqM (ι := Unit) (fun _ => True) (fun _ => ⟨[(3, .o (.ptr 4 0)), (0, .o (.ptr 0 0))], .box 4 70 (ndA n) :: ckH { c with dirs := c.dirs.set (n.depth - 1).toNat ((dirAt c n).1 + 1, n.name) }, 5⟩) ?_ fun _ _ => ?_)
  · (repeat' (first|(with_reducible refine AllP.go ?_;first|exact og|((try simp only [OS]);repeat' (first|exact oj|refine And.intro ?_ ?_)))|(refine rg ?_ ?_)|(with_reducible first|refine stp ?_|refine tD rfl ?_)|refine ct ?_|refine cf ?_|((first|refine gs ?_ ?_|refine gl ?_ ?_|refine gc ?_ ?_)<;>intro h<;>(try simp only [NS] at h)<;>(try exact xf)<;>(try refine rn ?_ ?_))))
    ((refine TE.drawK (fun _ => false) (by rfl) (by rfl) (by rfl) ?_);(repeat' (first|(with_reducible refine AllP.go ?_;first|exact og|((try simp only [OS]);repeat' (first|exact oj|refine And.intro ?_ ?_)))|(with_reducible first|exact PanicOk.body|exact rd.panic|refine PanicOk.then' ?_|refine PanicOk.block ?_|refine PanicOk.jump ?_)|(refine TL.done (by rfl) ?_)|(refine TL.auto tysOk rfl ?_ (by rfl) ?_ ?_)|((refine TL.one (by rfl) ?_);first|(refine sm ?_ ?_)|(refine sp ?_ ?_)|(refine StepL.law rfl rfl rfl (fun _ h => nomatch h) rfl (m_nilO rfl rfl) (by rfl) ?_;rintro _ rfl)|(refine StepL.law rfl rfl rfl (fun _ h => nomatch h) rfl (m_cutOwn tysOk rfl (und_slice tysOk rfl) rfl rfl rfl rfl rfl ?_) (by rfl) ?_;rotate_left;rintro _ rfl;rotate_right;first|omega|skip))|(refine sm ?_ ?_)|(refine sp ?_ ?_)|(refine StepL.law rfl rfl rfl (fun _ h => nomatch h) rfl (m_nilO rfl rfl) (by rfl) ?_;rintro _ rfl)|(refine StepL.law rfl rfl rfl (fun _ h => nomatch h) rfl (m_cutOwn tysOk rfl (und_slice tysOk rfl) rfl rfl rfl rfl rfl ?_) (by rfl) ?_;rotate_left;rintro _ rfl;rotate_right;first|omega|skip)|((first|refine gl ?_ ?_|refine gc ?_ ?_)<;>intro h<;>(try simp only [NS] at h)<;>(try exact xf))|(refine TL.two (by rfl) ?_ ?_)|(refine TL.three (by rfl) ?_ ?_ ?_)|(refine TL.four (by rfl) ?_ ?_ ?_ ?_))))
    all_goals (refine TE.at () trivial ?_;(refine Ent.of rfl rfl (by rfl) ?_;(try (first|exact trivial|((with_reducible refine AllP.go ?_);dsimp only [AllP, appP];repeat' (first|refine And.intro ?_ ?_|exact zz))))))
    all_goals exact op_set hlt
  (repeat' (first|(with_reducible refine AllP.go ?_;first|exact og|((try simp only [OS]);repeat' (first|exact oj|refine And.intro ?_ ?_)))|(refine rg ?_ ?_)|(with_reducible first|refine stp ?_|refine tD rfl ?_)|refine ct ?_|refine cf ?_|((first|refine gs ?_ ?_|refine gl ?_ ?_|refine gc ?_ ?_)<;>intro h<;>(try simp only [NS] at h)<;>(try exact xf)<;>(try refine rn ?_ ?_))))
  ((refine TE.drawK (fun _ => false) (by rfl) (by rfl) (by rfl) ?_);(repeat' (first|(with_reducible refine AllP.go ?_;first|exact og|((try simp only [OS]);repeat' (first|exact oj|refine And.intro ?_ ?_)))|(with_reducible first|exact PanicOk.body|exact rd.panic|refine PanicOk.then' ?_|refine PanicOk.block ?_|refine PanicOk.jump ?_)|(refine TL.done (by rfl) ?_)|(refine TL.auto tysOk rfl ?_ (by rfl) ?_ ?_)|((refine TL.one (by rfl) ?_);first|(refine sm ?_ ?_)|(refine sp ?_ ?_)|(refine StepL.law rfl rfl rfl (fun _ h => nomatch h) rfl (m_nilO rfl rfl) (by rfl) ?_;rintro _ rfl)|(refine StepL.law rfl rfl rfl (fun _ h => nomatch h) rfl (m_cutOwn tysOk rfl (und_slice tysOk rfl) rfl rfl rfl rfl rfl ?_) (by rfl) ?_;rotate_left;rintro _ rfl;rotate_right;first|omega|skip))|(refine sm ?_ ?_)|(refine sp ?_ ?_)|(refine StepL.law rfl rfl rfl (fun _ h => nomatch h) rfl (m_nilO rfl rfl) (by rfl) ?_;rintro _ rfl)|(refine StepL.law rfl rfl rfl (fun _ h => nomatch h) rfl (m_cutOwn tysOk rfl (und_slice tysOk rfl) rfl rfl rfl rfl rfl ?_) (by rfl) ?_;rotate_left;rintro _ rfl;rotate_right;first|omega|skip)|((first|refine gl ?_ ?_|refine gc ?_ ?_)<;>intro h<;>(try simp only [NS] at h)<;>(try exact xf))|(refine TL.two (by rfl) ?_ ?_)|(refine TL.three (by rfl) ?_ ?_ ?_)|(refine TL.four (by rfl) ?_ ?_ ?_ ?_))))
  all_goals (repeat' (first|(with_reducible refine AllP.go ?_;first|exact og|((try simp only [OS]);repeat' (first|exact oj|refine And.intro ?_ ?_)))|(refine rg ?_ ?_)|(with_reducible first|refine stp ?_|refine tD rfl ?_)|refine ct ?_|refine cf ?_|((first|refine gs ?_ ?_|refine gl ?_ ?_|refine gc ?_ ?_)<;>intro h<;>(try simp only [NS] at h)<;>(try exact xf)<;>(try refine rn ?_ ?_))))
  all_goals (refine TE.ret' io rfl tysOk (()) ?_ rfl (by rfl) ?_;all_goals (try (first|exact trivial|((with_reducible refine AllP.go ?_);dsimp only [AllP, appP];repeat' (first|refine And.intro ?_ ?_|exact zz)))))
  all_goals (rw [hpd]; exact op_fin (by rw [List.length_set]; omega))
end Go.Proofs.Ythhpofehcnjmmaa.Am
set_option linter.unusedSimpArgs false
set_option linter.unusedVariables false
namespace Go.Proofs.Ythhpofehcnjmmaa.Am
open Go.RowKit Lw
open Br
def okN (x : Nd) : Prop := x.attrs.length ≤ 1000000 ∧ At.sizeI x.attrs ≤ 1000000000 ∧ x.name.size ≤ 1000000000
def ckNode (c : Ck) (n : Nd) : Ck → Prop := fun c' => nodeF c n = 0 → c' = nodeD c n
set_option maxRecDepth 20000 in
set_option maxHeartbeats 4000000 in
theorem cknode_c (c : Ck) (n : Nd) (hn : okN n) (hd : c.dirs.length ≤ 1000) (hz : ∀ x ∈ c.dirs, 0 ≤ x.1 ∧ x.1 ≤ 24) (hf : ∀ x ∈ c.first, lenN x) (hl : c.count.length = c.first.length) (hcn : ∀ z ∈ c.count, 0 ≤ z ∧ z ≤ 1000000) (hfl : c.first.length ≤ 1000000) : Con Try.prog 74 [.o (.ptr 0 0), .g (ndA n)] (ckH c) 4 5 (ckNode c n) (fun _ => .o (.c (.int .i64 (nodeF c n)))) (fun c' => ckJ 4 c') := by
  refine con_of Try.func74 rfl (by kernel_rfl) Try.ntmps74 rfl (by first | exact Nat.zero_le _ | decide) (fun _ => ⟨rfl, rfl⟩) fun w S ν => ?_
  obtain ⟨hn1, hn2, hn3⟩ := hn
  (repeat' (first|(with_reducible refine AllP.go ?_;first|exact og|((try simp only [OS]);repeat' (first|exact oj|refine And.intro ?_ ?_)))|(refine rg ?_ ?_)|(with_reducible first|refine stp ?_|refine tD rfl ?_)|refine ct ?_|refine cf ?_|((first|refine gs ?_ ?_|refine gl ?_ ?_|refine gc ?_ ?_)<;>intro h<;>(try simp only [NS] at h)<;>(try exact xf)<;>(try refine rn ?_ ?_))))
  refine TE.callW (place_c c n hn3 hd hz) rfl (by rfl) (by rfl) rfl (by rfl) (by (first|exact trivial|((with_reducible refine AllP.go ?_);dsimp only [AllP, appP];repeat' (first|refine And.intro ?_ ?_|exact zz|assumption)))) ?_
  intro _ _
  by_cases h1 : placeF c n ≠ 0
  · have hF : nodeF c n = placeF c n := if_pos h1
    have hF0 : nodeF c n ≠ 0 := by rw [hF]; exact h1
    have hK : placeK c n = c := by unfold placeK; rw [if_neg h1]
    rw [hF, hK]
    ((refine rn ?_ ?_);(repeat' (first|(with_reducible refine AllP.go ?_;first|exact og|((try simp only [OS]);repeat' (first|exact oj|refine And.intro ?_ ?_)))|(refine rg ?_ ?_)|(with_reducible first|refine stp ?_|refine tD rfl ?_)|refine ct ?_|refine cf ?_|((first|refine gs ?_ ?_|refine gl ?_ ?_|refine gc ?_ ?_)<;>intro h<;>(try simp only [NS] at h)<;>(try exact xf)<;>(try refine rn ?_ ?_)))))
    (refine TE.ret' io rfl tysOk (c) ?_ rfl (by rfl) ?_;all_goals (try (first|exact trivial|((with_reducible refine AllP.go ?_);dsimp only [AllP, appP];repeat' (first|refine And.intro ?_ ?_|exact zz)))))
    exact fun k => absurd k hF0
  have h1 := Decidable.not_not.1 h1
  have hK : placeK c n = { c with dirs := placeD c n } := by unfold placeK; rw [if_pos h1]
  rw [hK]
  ((refine rn ?_ ?_);(repeat' (first|(with_reducible refine AllP.go ?_;first|exact og|((try simp only [OS]);repeat' (first|exact oj|refine And.intro ?_ ?_)))|(refine rg ?_ ?_)|(with_reducible first|refine stp ?_|refine tD rfl ?_)|refine ct ?_|refine cf ?_|((first|refine gs ?_ ?_|refine gl ?_ ?_|refine gc ?_ ?_)<;>intro h<;>(try simp only [NS] at h)<;>(try exact xf)<;>(try refine rn ?_ ?_)))))
  refine TE.callW (fields_c n) rfl (by rfl) (by rfl) rfl (by rfl) (by (first|exact trivial|((with_reducible refine AllP.go ?_);dsimp only [AllP, appP];repeat' (first|refine And.intro ?_ ?_|exact zz|assumption)))) ?_
  intro _ _
  by_cases h2 : fieldsE n ≠ 0
  · have hF : nodeF c n = fieldsE n := by unfold nodeF; rw [if_neg (fun k => k h1), if_pos h2]
    have hF0 : nodeF c n ≠ 0 := by rw [hF]; exact h2
    rw [hF]
    ((refine rn ?_ ?_);(repeat' (first|(with_reducible refine AllP.go ?_;first|exact og|((try simp only [OS]);repeat' (first|exact oj|refine And.intro ?_ ?_)))|(refine rg ?_ ?_)|(with_reducible first|refine stp ?_|refine tD rfl ?_)|refine ct ?_|refine cf ?_|((first|refine gs ?_ ?_|refine gl ?_ ?_|refine gc ?_ ?_)<;>intro h<;>(try simp only [NS] at h)<;>(try exact xf)<;>(try refine rn ?_ ?_)))))
    (refine TE.ret' io rfl tysOk (({ c with dirs := placeD c n } : Ck)) ?_ rfl (by rfl) ?_;all_goals (try (first|exact trivial|((with_reducible refine AllP.go ?_);dsimp only [AllP, appP];repeat' (first|refine And.intro ?_ ?_|exact zz)))))
    exact fun k => absurd k hF0
  have h2 := Decidable.not_not.1 h2
  ((refine rn ?_ ?_);(repeat' (first|(with_reducible refine AllP.go ?_;first|exact og|((try simp only [OS]);repeat' (first|exact oj|refine And.intro ?_ ?_)))|(refine rg ?_ ?_)|(with_reducible first|refine stp ?_|refine tD rfl ?_)|refine ct ?_|refine cf ?_|((first|refine gs ?_ ?_|refine gl ?_ ?_|refine gc ?_ ?_)<;>intro h<;>(try simp only [NS] at h)<;>(try exact xf)<;>(try refine rn ?_ ?_)))))
  refine TE.callW (Check_c n.attrs hn1 hn2) rfl (by rfl) (by rfl) rfl (by rfl) (by (first|exact trivial|((with_reducible refine AllP.go ?_);dsimp only [AllP, appP];repeat' (first|refine And.intro ?_ ?_|exact zz|assumption)))) ?_
  intro _ _
  by_cases h3 : At.checkE n.attrs ≠ 0
  · have hF : nodeF c n = At.checkE n.attrs := by unfold nodeF; rw [if_neg (fun k => k h1), if_neg (fun k => k h2), if_pos h3]
    have hF0 : nodeF c n ≠ 0 := by rw [hF]; exact h3
    rw [hF]
    ((refine rn ?_ ?_);(repeat' (first|(with_reducible refine AllP.go ?_;first|exact og|((try simp only [OS]);repeat' (first|exact oj|refine And.intro ?_ ?_)))|(refine rg ?_ ?_)|(with_reducible first|refine stp ?_|refine tD rfl ?_)|refine ct ?_|refine cf ?_|((first|refine gs ?_ ?_|refine gl ?_ ?_|refine gc ?_ ?_)<;>intro h<;>(try simp only [NS] at h)<;>(try exact xf)<;>(try refine rn ?_ ?_)))))
    (refine TE.ret' io rfl tysOk (({ c with dirs := placeD c n } : Ck)) ?_ rfl (by rfl) ?_;all_goals (try (first|exact trivial|((with_reducible refine AllP.go ?_);dsimp only [AllP, appP];repeat' (first|refine And.intro ?_ ?_|exact zz)))))
    exact fun k => absurd k hF0
  have h3 := Decidable.not_not.1 h3
  have hF : nodeF c n = classF c n := by unfold nodeF; rw [if_neg (fun k => k h1), if_neg (fun k => k h2), if_neg (fun k => k h3)]
  rw [hF]
  have hcc := class_c { c with dirs := placeD c n, file := decide (n.kind ≠ 1) } n hn1 hf hl hcn hfl
  ((refine rn ?_ ?_);(repeat' (first|(with_reducible refine AllP.go ?_;first|exact og|((try simp only [OS]);repeat' (first|exact oj|refine And.intro ?_ ?_)))|(refine rg ?_ ?_)|(with_reducible first|refine stp ?_|refine tD rfl ?_)|refine ct ?_|refine cf ?_|((first|refine gs ?_ ?_|refine gl ?_ ?_|refine gc ?_ ?_)<;>intro h<;>(try simp only [NS] at h)<;>(try exact xf)<;>(try refine rn ?_ ?_)))))
  have hb0 : (!decide (n.kind = 1)) = decide (n.kind ≠ 1) := by simp
  refine TE.callW (hcc) rfl (by rfl) (by rfl) rfl (by rfl) (by (first|exact trivial|((with_reducible refine AllP.go ?_);dsimp only [AllP, appP];repeat' (first|refine And.intro ?_ ?_|exact zz|assumption)))) ?_
  intro _ _
  ((refine rn ?_ ?_);(repeat' (first|(with_reducible refine AllP.go ?_;first|exact og|((try simp only [OS]);repeat' (first|exact oj|refine And.intro ?_ ?_)))|(refine rg ?_ ?_)|(with_reducible first|refine stp ?_|refine tD rfl ?_)|refine ct ?_|refine cf ?_|((first|refine gs ?_ ?_|refine gl ?_ ?_|refine gc ?_ ?_)<;>intro h<;>(try simp only [NS] at h)<;>(try exact xf)<;>(try refine rn ?_ ?_)))))
  (refine TE.ret' io rfl tysOk (classK { c with dirs := placeD c n, file := decide (n.kind ≠ 1) } n) ?_ rfl (by rfl) ?_;all_goals (try (first|exact trivial|((with_reducible refine AllP.go ?_);dsimp only [AllP, appP];repeat' (first|refine And.intro ?_ ?_|exact zz)))))
  intro k
  rw [hF] at k
  exact if_pos k
def loneP (l : List Nd) (x : Nd) : Bool := decide (0 < x.cls ∧ countC l x.cls = 1)
def loneI (l : List Nd) : Int := match loneAt l l 0 with
  | some i => i
  | none => -1
def CntOk (l : List Nd) (c : Ck) (x : Nd) : Prop := 0 ≤ x.cls ∧ (0 < x.cls → (x.cls - 1).toNat < c.count.length ∧ c.count.getD (x.cls - 1).toNat 0 = (countC l x.cls : Nat))
abbrev ckV (b f k d : Nat) (c : Ck) : List Chunk := [.box b 109 [.own d, .c (.bool c.file), .own f, .own k, .c (.int .i64 c.first.length)], .obj f (.mp true (ents ndDs 1 c.first)), .obj k (.mp false (ents cnDs 1 c.count)), .own d 146 2 (opC c.dirs)]
abbrev ckC (c : Ck) : List Chunk := .box 3 105 [.ptr 2 0] :: ckV 2 0 1 4 c
set_option maxRecDepth 20000 in
set_option maxHeartbeats 4000000 in
theorem lone_c (l : List Nd) (c : Ck) (x : Nd) (hx : CntOk l c x) : Con Try.prog 76 [.g (ndA x), .o (.ptr 3 0)] (ckC c) 5 5 U (fun _ => .o (.sb (loneP l x))) (fun _ => ckC c) := by
  refine con_of Try.func76 rfl (by kernel_rfl) Try.ntmps76 rfl (by first | exact Nat.zero_le _ | decide) (fun _ => ⟨rfl, rfl⟩) fun w S ν => ?_
  obtain ⟨h0, h1⟩ := hx
  by_cases h2 : 0 < x.cls
  · obtain ⟨h3, h4⟩ := h1 h2
    have hg : getM (ents cnDs 1 c.count) x.cls = some (cnDs (c.count.getD (x.cls - 1).toNat 0)) := get_ents 0 _ _ _ (by omega) (by omega)
    rw [h4] at hg
    (repeat' (first|(with_reducible refine AllP.go ?_;first|exact og|((try simp only [OS]);repeat' (first|exact oj|refine And.intro ?_ ?_)))|(refine rg ?_ ?_)|(with_reducible first|refine stp ?_|refine tD rfl ?_)|refine ct ?_|refine cf ?_|((first|refine gs ?_ ?_|refine gl ?_ ?_|refine gc ?_ ?_)<;>intro h<;>(try simp only [NS] at h)<;>(try exact xf)<;>(try refine rn ?_ ?_))))
    ((refine dn ?_);repeat' (first|(with_reducible refine AllP.go ?_;first|exact og|((try simp only [OS]);repeat' (first|exact oj|refine And.intro ?_ ?_)))|(with_reducible first|exact PanicOk.body|exact rd.panic|refine PanicOk.then' ?_|refine PanicOk.block ?_|refine PanicOk.jump ?_)|(refine TL.done (by rfl) ?_)|(refine TL.auto tysOk rfl ?_ (by rfl) ?_ ?_)|((refine TL.one (by rfl) ?_);first|(refine sm ?_ ?_)|(refine sp ?_ ?_))|(refine sm ?_ ?_)|((first|refine gl ?_ ?_|refine gc ?_ ?_)<;>intro h<;>(try simp only [NS] at h)<;>(try exact xf))))
    (refine TL.one (by rfl) ?_)
    (refine StepL.law rfl rfl rfl (fun _ h => nomatch h) rfl (m_mpGet (mpI false) rfl (Try.underlying96) (Try.underlying3) rfl rfl rfl (hg) rfl) (by rfl) ?_; rintro _ rfl)
    (repeat' (first|(with_reducible refine AllP.go ?_;first|exact og|((try simp only [OS]);repeat' (first|exact oj|refine And.intro ?_ ?_)))|(with_reducible first|exact PanicOk.body|exact rd.panic|refine PanicOk.then' ?_|refine PanicOk.block ?_|refine PanicOk.jump ?_)|(refine TL.done (by rfl) ?_)|(refine TL.auto tysOk rfl ?_ (by rfl) ?_ ?_)|(refine sm ?_ ?_)|(refine sp ?_ ?_)|(refine TL.one (by rfl) ?_)|(refine TL.two (by rfl) ?_ ?_)|(refine TL.three (by rfl) ?_ ?_ ?_)|(refine TL.four (by rfl) ?_ ?_ ?_ ?_)))
    (repeat' (first|(with_reducible refine AllP.go ?_;first|exact og|((try simp only [OS]);repeat' (first|exact oj|refine And.intro ?_ ?_)))|(refine rg ?_ ?_)|(with_reducible first|refine stp ?_|refine tD rfl ?_)|refine ct ?_|refine cf ?_|((first|refine gs ?_ ?_|refine gl ?_ ?_|refine gc ?_ ?_)<;>intro h<;>(try simp only [NS] at h)<;>(try exact xf)<;>(try refine rn ?_ ?_))))
    (refine TE.ret' io rfl tysOk (()) ?_ rfl (by rfl) ?_;all_goals (try (first|exact trivial|((with_reducible refine AllP.go ?_);dsimp only [AllP, appP];repeat' (first|refine And.intro ?_ ?_|exact zz)))))
    unfold loneP
    simp only [decide_eq_decide]
    omega
  · (repeat' (first|(with_reducible refine AllP.go ?_;first|exact og|((try simp only [OS]);repeat' (first|exact oj|refine And.intro ?_ ?_)))|(refine rg ?_ ?_)|(with_reducible first|refine stp ?_|refine tD rfl ?_)|refine ct ?_|refine cf ?_|((first|refine gs ?_ ?_|refine gl ?_ ?_|refine gc ?_ ?_)<;>intro h<;>(try simp only [NS] at h)<;>(try exact xf)<;>(try refine rn ?_ ?_))))
    ((refine dn ?_);repeat' (first|(with_reducible refine AllP.go ?_;first|exact og|((try simp only [OS]);repeat' (first|exact oj|refine And.intro ?_ ?_)))|(with_reducible first|exact PanicOk.body|exact rd.panic|refine PanicOk.then' ?_|refine PanicOk.block ?_|refine PanicOk.jump ?_)|(refine TL.done (by rfl) ?_)|(refine TL.auto tysOk rfl ?_ (by rfl) ?_ ?_)|((refine TL.one (by rfl) ?_);first|(refine sm ?_ ?_)|(refine sp ?_ ?_))|(refine sm ?_ ?_)|((first|refine gl ?_ ?_|refine gc ?_ ?_)<;>intro h<;>(try simp only [NS] at h)<;>(try exact xf))))
    all_goals (repeat' (first|(with_reducible refine AllP.go ?_;first|exact og|((try simp only [OS]);repeat' (first|exact oj|refine And.intro ?_ ?_)))|(refine rg ?_ ?_)|(with_reducible first|refine stp ?_|refine tD rfl ?_)|refine ct ?_|refine cf ?_|((first|refine gs ?_ ?_|refine gl ?_ ?_|refine gc ?_ ?_)<;>intro h<;>(try simp only [NS] at h)<;>(try exact xf)<;>(try refine rn ?_ ?_))))
    all_goals (refine TE.ret' io rfl tysOk (()) ?_ rfl (by rfl) ?_;all_goals (try (first|exact trivial|((with_reducible refine AllP.go ?_);dsimp only [AllP, appP];repeat' (first|refine And.intro ?_ ?_|exact zz)))))
    all_goals refine congrArg Value.bool (Eq.symm (decide_eq_false ?_))
    omega
set_option maxRecDepth 20000 in
set_option maxHeartbeats 4000000 in
theorem loneIdx_c (l : List Nd) (c : Ck) (hl : l.length ≤ 1000000) (hx : ∀ x ∈ l, CntOk l c x) : Con Try.prog 75 [.o (.ro 8 l.length (ndC l).cell), .o (.clo 76 [(3, 0)])] (ckC c) 5 5 U (fun _ => .o (.c (.int .i64 (loneI l)))) (fun _ => ckC c) := by
  refine con_of Try.func75 rfl (by kernel_rfl) Try.ntmps75 rfl (by first | exact Nat.zero_le _ | decide) (fun _ => ⟨rfl, rfl⟩) fun w S ν => ?_
  (repeat' (first|(with_reducible refine AllP.go ?_;first|exact og|((try simp only [OS]);repeat' (first|exact oj|refine And.intro ?_ ?_)))|(refine rg ?_ ?_)|(with_reducible first|refine stp ?_|refine tD rfl ?_)|refine ct ?_|refine cf ?_|((first|refine gs ?_ ?_|refine gl ?_ ?_|refine gc ?_ ?_)<;>intro h<;>(try simp only [NS] at h)<;>(try exact xf)<;>(try refine rn ?_ ?_))))
  refine TE.loopG (fun q : Nat => q ≤ l.length ∧ ∀ j, j < q → ¬ (0 < (l.getD j n0).cls ∧ countC l (l.getD j n0).cls = 1)) (fun q => [(8, .o (.c (.int .i64 q)))]) [] (fun _ => []) (fun q => l.length - q) 0 (by rfl) ⟨Nat.zero_le _, fun k hk => absurd hk (Nat.not_lt_zero _)⟩ ?_ ?_
  · (refine Ent.of rfl rfl (by rfl) ?_;(try (first|exact trivial|((with_reducible refine AllP.go ?_);dsimp only [AllP, appP];repeat' (first|refine And.intro ?_ ?_|exact zz)))))
  rintro q ⟨h1, h2⟩
  by_cases hlt : q < l.length
  · (repeat' (first|(with_reducible refine AllP.go ?_;first|exact og|((try simp only [OS]);repeat' (first|exact oj|refine And.intro ?_ ?_)))|(refine rg ?_ ?_)|(with_reducible first|refine stp ?_|refine tD rfl ?_)|refine ct ?_|refine cf ?_|((first|refine gs ?_ ?_|refine gl ?_ ?_|refine gc ?_ ?_)<;>intro h<;>(try simp only [NS] at h)<;>(try exact xf)<;>(try refine rn ?_ ?_))))
    refine TE.callW (lone_c l c (l.getD q n0) (hx _ (getD_mem hlt))) rfl (by rfl) (by rfl) rfl (by rfl) (by (first|exact trivial|((with_reducible refine AllP.go ?_);dsimp only [AllP, appP];repeat' (first|refine And.intro ?_ ?_|exact zz|assumption)))) ?_
    intro _ _
    by_cases h3 : 0 < (l.getD q n0).cls ∧ countC l (l.getD q n0).cls = 1
    · have hI : loneI l = q := by unfold loneI; rw [lone_at l 0 q hlt h2 h3, Nat.zero_add]
      rw [hI, show loneP l (l.getD q n0) = true from decide_eq_true h3]
      ((refine rn ?_ ?_);(repeat' (first|(with_reducible refine AllP.go ?_;first|exact og|((try simp only [OS]);repeat' (first|exact oj|refine And.intro ?_ ?_)))|(refine rg ?_ ?_)|(with_reducible first|refine stp ?_|refine tD rfl ?_)|refine ct ?_|refine cf ?_|((first|refine gs ?_ ?_|refine gl ?_ ?_|refine gc ?_ ?_)<;>intro h<;>(try simp only [NS] at h)<;>(try exact xf)<;>(try refine rn ?_ ?_)))))
      (refine TE.ret' io rfl tysOk (()) ?_ rfl (by rfl) ?_;all_goals (try (first|exact trivial|((with_reducible refine AllP.go ?_);dsimp only [AllP, appP];repeat' (first|refine And.intro ?_ ?_|exact zz)))))
    · rw [show loneP l (l.getD q n0) = false from decide_eq_false h3]
      ((refine rn ?_ ?_);(repeat' (first|(with_reducible refine AllP.go ?_;first|exact og|((try simp only [OS]);repeat' (first|exact oj|refine And.intro ?_ ?_)))|(refine rg ?_ ?_)|(with_reducible first|refine stp ?_|refine tD rfl ?_)|refine ct ?_|refine cf ?_|((first|refine gs ?_ ?_|refine gl ?_ ?_|refine gc ?_ ?_)<;>intro h<;>(try simp only [NS] at h)<;>(try exact xf)<;>(try refine rn ?_ ?_)))))
      refine TE.again' (q + 1) ⟨by omega, fun k hk => ?_⟩ (by omega) ?_
      · rcases Nat.lt_or_ge k q with h4 | h4
        · exact h2 k h4
        · obtain rfl : k = q := by omega
          exact h3
      · (refine Ent.of rfl rfl (by rfl) ?_;(try (first|exact trivial|((with_reducible refine AllP.go ?_);dsimp only [AllP, appP];repeat' (first|refine And.intro ?_ ?_|exact zz)))))
  · have hI : loneI l = -1 := by
      unfold loneI
      rw [lone_none l 0 fun x hx => ?_]
      obtain ⟨k, hk, rfl⟩ := List.getElem_of_mem hx
      have := h2 k (by omega)
      rwa [List.getD_eq_getElem?_getD, List.getElem?_eq_getElem hk] at this
    rw [hI]
    (repeat' (first|(with_reducible refine AllP.go ?_;first|exact og|((try simp only [OS]);repeat' (first|exact oj|refine And.intro ?_ ?_)))|(refine rg ?_ ?_)|(with_reducible first|refine stp ?_|refine tD rfl ?_)|refine ct ?_|refine cf ?_|((first|refine gs ?_ ?_|refine gl ?_ ?_|refine gc ?_ ?_)<;>intro h<;>(try simp only [NS] at h)<;>(try exact xf)<;>(try refine rn ?_ ?_))))
    (refine TE.ret' io rfl tysOk (()) ?_ rfl (by rfl) ?_;all_goals (try (first|exact trivial|((with_reducible refine AllP.go ?_);dsimp only [AllP, appP];repeat' (first|refine And.intro ?_ ?_|exact zz)))))
end Go.Proofs.Ythhpofehcnjmmaa.Am
set_option linter.unusedSimpArgs false
set_option linter.unusedVariables false
namespace Go.Proofs.Ythhpofehcnjmmaa.Am
open Go.RowKit Lw
open Br
theorem okn_mem {l : List Nd} (h : ∀ x ∈ l, okN x) {q : Nat} (hq : q < l.length) : okN (l.getD q n0) := h _ (getD_mem hq)
theorem checkT_bad {l : List Nd} {q : Nat} {e : Int} (h1 : l ≠ []) (h2 : l.length ≤ 120) (h : errAt [] l 0 = some (q, e)) : checkT l = ((q : Int), e) := by
  unfold checkT
  rw [if_neg h1, if_neg (by omega), h]
theorem checkT_good {l : List Nd} (h1 : l ≠ []) (h2 : l.length ≤ 120) (h : errAt [] l 0 = none) : checkT l = if 0 ≤ loneI l then (loneI l, 6) else (0, 0) := by
  unfold checkT loneI
  rw [if_neg h1, if_neg (by omega), h]
  cases hl : loneAt l l 0 with
  | none => rfl
  | some i => rw [if_pos (by dsimp only; omega)]
structure ChI (l : List Nd) (q : Nat) (c : Ck) : Prop where
  at' : ChkAt l q c
  dirs : c.dirs.length ≤ 9
  first : c.first.length ≤ q
theorem chI_start (l : List Nd) : ChI l 0 ck0 := ⟨chk_start l, Nat.zero_le _, Nat.le_refl _⟩
theorem chI_next {l : List Nd} {q : Nat} {c : Ck} (g : ChI l q c) (h : q < l.length) (he : nodeF c (l.getD q n0) = 0) : ChI l (q + 1) (nodeD c (l.getD q n0)) := by
  refine ⟨chk_next g.at' h he, ?_, ?_⟩
  · have hp : placeF c (l.getD q n0) = 0 := Decidable.byContradiction fun k => by
      unfold nodeF at he; rw [if_pos k] at he; exact k he
    show (placeD c (l.getD q n0)).length ≤ 9
    unfold placeD
    split
    · decide
    · rename_i hne
      unfold placeF at hp
      rw [if_neg hne] at hp
      split at hp
      · exact absurd hp (by decide)
      split at hp
      · exact absurd hp (by decide)
      rw [List.length_append, List.length_take]
      simp only [List.length_cons, List.length_nil]
      omega
  · show (classD c (l.getD q n0)).1.length ≤ q + 1
    have := g.first
    unfold classD
    split
    · dsimp only; omega
    split
    · dsimp only; rw [List.length_append]; simp only [List.length_cons, List.length_nil]; omega
    · dsimp only; omega
theorem mem_take_rev {l : List Nd} {q : Nat} {x : Nd} (h : x ∈ (l.take q).reverse) : x ∈ l := List.mem_of_mem_take (List.mem_reverse.1 h)
theorem mem_getD {α : Type} {l : List α} {d x : α} (h : x ∈ l) : ∃ k, k < l.length ∧ l.getD k d = x := by
  obtain ⟨k, hk, rfl⟩ := List.getElem_of_mem h
  exact ⟨k, hk, by rw [List.getD_eq_getElem?_getD, List.getElem?_eq_getElem hk]; rfl⟩
theorem chI_facts {l : List Nd} {q : Nat} {c : Ck} (g : ChI l q c) (hl : l.length ≤ 1000) (hx : ∀ x ∈ l, okN x) : (∀ x ∈ c.dirs, 0 ≤ x.1 ∧ x.1 ≤ 24) ∧ (∀ x ∈ c.first, lenN x) ∧ c.count.length = c.first.length ∧ (∀ z ∈ c.count, 0 ≤ z ∧ z ≤ 1000000) := by
  have h := g.at'.ok
  refine ⟨fun x hm => ?_, fun x hm => ?_, h.clen, fun z hm => ?_⟩
  · obtain ⟨k, hk, rfl⟩ := mem_getD (d := dd0) hm
    obtain ⟨h1, _, h3⟩ := h.dir k hk
    omega
  · obtain ⟨k, hk, rfl⟩ := mem_getD (d := n0) hm
    exact (hx _ (mem_take_rev (h.fst k hk).1)).1
  · obtain ⟨k, hk, rfl⟩ := mem_getD (d := 0) hm
    have h1 := h.cnt k (by rw [← h.clen]; exact hk)
    have h2 : countC (l.take q).reverse (k + 1) ≤ ((l.take q).reverse).length := List.countP_le_length
    rw [List.length_reverse, List.length_take] at h2
    omega
set_option maxRecDepth 20000 in
set_option maxHeartbeats 4000000 in
theorem check_c (l : List Nd) (hl : l.length ≤ 1000000) (hx : ∀ x ∈ l, okN x) : Con Try.prog 42 [.o (.ro 8 l.length (ndC l).cell)] [] 0 0 U (fun _ => .t [.inl (.c (.int .i64 (checkT l).1)), .inl (.c (.int .i64 (checkT l).2))]) G0 := by
  refine con_of Try.func42 rfl (by kernel_rfl) Try.ntmps42 rfl (by first | exact Nat.zero_le _ | decide) (fun _ => ⟨rfl, rfl⟩) fun w S ν => ?_
  by_cases h1 : l = []
  · have hC : checkT l = (-1, 6) := if_pos h1
    have hl0 : l.length = 0 := by rw [h1]; rfl
    rw [hC]
    (repeat' (first|(with_reducible refine AllP.go ?_;first|exact og|((try simp only [OS]);repeat' (first|exact oj|refine And.intro ?_ ?_)))|(refine rg ?_ ?_)|(with_reducible first|refine stp ?_|refine tD rfl ?_)|refine ct ?_|refine cf ?_|((first|refine gs ?_ ?_|refine gl ?_ ?_|refine gc ?_ ?_)<;>intro h<;>(try simp only [NS] at h)<;>(try exact xf)<;>(try refine rn ?_ ?_))))
    (refine TE.ret' io rfl tysOk (()) ?_ rfl (by rfl) ?_;all_goals (try (first|exact trivial|((with_reducible refine AllP.go ?_);dsimp only [AllP, appP];repeat' (first|refine And.intro ?_ ?_|exact zz)))))
  have hpos : 0 < l.length := List.length_pos_iff.2 h1
  by_cases h2 : 120 < l.length
  · have hC : checkT l = (-1, 3) := by unfold checkT; rw [if_neg h1, if_pos h2]
    rw [hC]
    (repeat' (first|(with_reducible refine AllP.go ?_;first|exact og|((try simp only [OS]);repeat' (first|exact oj|refine And.intro ?_ ?_)))|(refine rg ?_ ?_)|(with_reducible first|refine stp ?_|refine tD rfl ?_)|refine ct ?_|refine cf ?_|((first|refine gs ?_ ?_|refine gl ?_ ?_|refine gc ?_ ?_)<;>intro h<;>(try simp only [NS] at h)<;>(try exact xf)<;>(try refine rn ?_ ?_))))
    (refine TE.ret' io rfl tysOk (()) ?_ rfl (by rfl) ?_;all_goals (try (first|exact trivial|((with_reducible refine AllP.go ?_);dsimp only [AllP, appP];repeat' (first|refine And.intro ?_ ?_|exact zz)))))
  (repeat' (first|(with_reducible refine AllP.go ?_;first|exact og|((try simp only [OS]);repeat' (first|exact oj|refine And.intro ?_ ?_)))|(refine rg ?_ ?_)|(with_reducible first|refine stp ?_|refine tD rfl ?_)|refine ct ?_|refine cf ?_|((first|refine gs ?_ ?_|refine gl ?_ ?_|refine gc ?_ ?_)<;>intro h<;>(try simp only [NS] at h)<;>(try exact xf)<;>(try refine rn ?_ ?_))))
  (refine TE.step rfl rfl rfl (fun _ h => nomatch h) (m_mkMp (.mp true []) (by first | exact .inl ⟨_, rfl⟩ | exact .inr ⟨_, rfl⟩) rfl) ?_; rintro _ rfl)
  ((refine rn ?_ ?_);(repeat' (first|(with_reducible refine AllP.go ?_;first|exact og|((try simp only [OS]);repeat' (first|exact oj|refine And.intro ?_ ?_)))|(refine rg ?_ ?_)|(with_reducible first|refine stp ?_|refine tD rfl ?_)|refine ct ?_|refine cf ?_|((first|refine gs ?_ ?_|refine gl ?_ ?_|refine gc ?_ ?_)<;>intro h<;>(try simp only [NS] at h)<;>(try exact xf)<;>(try refine rn ?_ ?_)))))
  (refine TE.step rfl rfl rfl (fun _ h => nomatch h) (m_mkMp (.mp false []) (by first | exact .inl ⟨_, rfl⟩ | exact .inr ⟨_, rfl⟩) rfl) ?_; rintro _ rfl)
  ((refine rn ?_ ?_);(repeat' (first|(with_reducible refine AllP.go ?_;first|exact og|((try simp only [OS]);repeat' (first|exact oj|refine And.intro ?_ ?_)))|(refine rg ?_ ?_)|(with_reducible first|refine stp ?_|refine tD rfl ?_)|refine ct ?_|refine cf ?_|((first|refine gs ?_ ?_|refine gl ?_ ?_|refine gc ?_ ?_)<;>intro h<;>(try simp only [NS] at h)<;>(try exact xf)<;>(try refine rn ?_ ?_)))))
  refine TE.nilBox 2 0 146 2 (by rfl) (by rfl) ?_
  (refine TE.only [23, 22, 21, 20, 4, 0] (by rfl) ?_)
  refine TE.loopG (fun x : Nat × Ck => ChI l x.1 x.2) (fun x => [(23, .o (.c (.int .i64 x.1)))]) [2, 0, 1, 4] (fun x => ckV 2 0 1 4 x.2) (fun x => l.length - x.1) (0, ck0) (by rfl) (chI_start l) ?_ ?_
  · (refine Ent.of rfl rfl (by rfl) ?_;(try (first|exact trivial|((with_reducible refine AllP.go ?_);dsimp only [AllP, appP];repeat' (first|refine And.intro ?_ ?_|exact zz)))))
    exact LeDC.nil rfl rfl
  rintro ⟨q, c⟩ g
  dsimp only at g
  have hq := g.at'.le
  obtain ⟨f1, f2, f3, f4⟩ := chI_facts g (by omega) hx
  by_cases hlt : q < l.length
  · have hn := okn_mem hx hlt
    (repeat' (first|(with_reducible refine AllP.go ?_;first|exact og|((try simp only [OS]);repeat' (first|exact oj|refine And.intro ?_ ?_)))|(refine rg ?_ ?_)|(with_reducible first|refine stp ?_|refine tD rfl ?_)|refine ct ?_|refine cf ?_|((first|refine gs ?_ ?_|refine gl ?_ ?_|refine gc ?_ ?_)<;>intro h<;>(try simp only [NS] at h)<;>(try exact xf)<;>(try refine rn ?_ ?_))))
    refine TE.callW (cknode_c c (l.getD q n0) hn (by have := g.dirs;omega) f1 f2 f3 f4 (by have := g.first;omega)) rfl (by rfl) (by rfl) rfl (by rfl) (by (first|exact trivial|((with_reducible refine AllP.go ?_);dsimp only [AllP, appP];repeat' (first|refine And.intro ?_ ?_|exact zz|assumption)))) ?_
    intro c' hc'
    by_cases he : nodeF c (l.getD q n0) ≠ 0
    · have hC := checkT_bad h1 (by omega) (chk_bad g.at' hlt he)
      rw [hC]
      ((refine rn ?_ ?_);(repeat' (first|(with_reducible refine AllP.go ?_;first|exact og|((try simp only [OS]);repeat' (first|exact oj|refine And.intro ?_ ?_)))|(refine rg ?_ ?_)|(with_reducible first|refine stp ?_|refine tD rfl ?_)|refine ct ?_|refine cf ?_|((first|refine gs ?_ ?_|refine gl ?_ ?_|refine gc ?_ ?_)<;>intro h<;>(try simp only [NS] at h)<;>(try exact xf)<;>(try refine rn ?_ ?_)))))
      (refine TE.ret' io rfl tysOk (()) ?_ rfl (by rfl) ?_;all_goals (try (first|exact trivial|((with_reducible refine AllP.go ?_);dsimp only [AllP, appP];repeat' (first|refine And.intro ?_ ?_|exact zz)))))
    have he := Decidable.not_not.1 he
    rw [hc' he]
    ((refine rn ?_ ?_);(repeat' (first|(with_reducible refine AllP.go ?_;first|exact og|((try simp only [OS]);repeat' (first|exact oj|refine And.intro ?_ ?_)))|(refine rg ?_ ?_)|(with_reducible first|refine stp ?_|refine tD rfl ?_)|refine ct ?_|refine cf ?_|((first|refine gs ?_ ?_|refine gl ?_ ?_|refine gc ?_ ?_)<;>intro h<;>(try simp only [NS] at h)<;>(try exact xf)<;>(try refine rn ?_ ?_)))))
    refine TE.again' (q + 1, nodeD c (l.getD q n0)) (chI_next g hlt he) (by dsimp only; omega) ?_
    (refine Ent.of rfl rfl (by rfl) ?_;(try (first|exact trivial|((with_reducible refine AllP.go ?_);dsimp only [AllP, appP];repeat' (first|refine And.intro ?_ ?_|exact zz)))))
  · obtain rfl : q = l.length := by omega
    obtain ⟨e1, e2⟩ := chk_end g.at'
    have hC := checkT_good h1 (by omega) e1
    rw [hC]
    have hcnt : ∀ x ∈ l, CntOk l c x := fun x hx => e2 x hx
    (repeat' (first|(with_reducible refine AllP.go ?_;first|exact og|((try simp only [OS]);repeat' (first|exact oj|refine And.intro ?_ ?_)))|(refine rg ?_ ?_)|(with_reducible first|refine stp ?_|refine tD rfl ?_)|refine ct ?_|refine cf ?_|((first|refine gs ?_ ?_|refine gl ?_ ?_|refine gc ?_ ?_)<;>intro h<;>(try simp only [NS] at h)<;>(try exact xf)<;>(try refine rn ?_ ?_))))
    refine TE.callW (loneIdx_c l c hl hcnt) rfl (by rfl) (by rfl) rfl (by rfl) (by (first|exact trivial|((with_reducible refine AllP.go ?_);dsimp only [AllP, appP];repeat' (first|refine And.intro ?_ ?_|exact zz|assumption)))) ?_
    intro _ _
    by_cases hi : 0 ≤ loneI l
    · rw [if_pos hi]
      ((refine rn ?_ ?_);(repeat' (first|(with_reducible refine AllP.go ?_;first|exact og|((try simp only [OS]);repeat' (first|exact oj|refine And.intro ?_ ?_)))|(refine rg ?_ ?_)|(with_reducible first|refine stp ?_|refine tD rfl ?_)|refine ct ?_|refine cf ?_|((first|refine gs ?_ ?_|refine gl ?_ ?_|refine gc ?_ ?_)<;>intro h<;>(try simp only [NS] at h)<;>(try exact xf)<;>(try refine rn ?_ ?_)))))
      (refine TE.ret' io rfl tysOk (()) ?_ rfl (by rfl) ?_;all_goals (try (first|exact trivial|((with_reducible refine AllP.go ?_);dsimp only [AllP, appP];repeat' (first|refine And.intro ?_ ?_|exact zz)))))
    · rw [if_neg hi]
      ((refine rn ?_ ?_);(repeat' (first|(with_reducible refine AllP.go ?_;first|exact og|((try simp only [OS]);repeat' (first|exact oj|refine And.intro ?_ ?_)))|(refine rg ?_ ?_)|(with_reducible first|refine stp ?_|refine tD rfl ?_)|refine ct ?_|refine cf ?_|((first|refine gs ?_ ?_|refine gl ?_ ?_|refine gc ?_ ?_)<;>intro h<;>(try simp only [NS] at h)<;>(try exact xf)<;>(try refine rn ?_ ?_)))))
      (refine TE.ret' io rfl tysOk (()) ?_ rfl (by rfl) ?_;all_goals (try (first|exact trivial|((with_reducible refine AllP.go ?_);dsimp only [AllP, appP];repeat' (first|refine And.intro ?_ ?_|exact zz)))))
end Go.Proofs.Ythhpofehcnjmmaa.Am
