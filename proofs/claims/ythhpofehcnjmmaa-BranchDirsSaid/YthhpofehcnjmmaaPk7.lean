/- Texts of this claim, joined. -/
import Derived.Test.YthhpofehcnjmmaaPk6
import Derived.KernelRfl
set_option linter.unusedSimpArgs false
set_option linter.unusedVariables false
set_option linter.unusedSimpArgs false
set_option linter.unusedVariables false
namespace Go.Proofs.Ythhpofehcnjmmaa.Am
open Go.RowKit Lw
open Br
abbrev puH (j : Nat) (ds : List Di) (acc : List Bn) : List Chunk := [.box 0 55 [.ro 4 ds.length (diC ds).cell], .box 1 22 [.own j], .own j 50 10 (bnC acc), .box 3 100 [.clo 70 [(0, 0), (1, 0), (3, 0)]]]
theorem di_tail (d : Di) (r : List Di) : LeDC 4 ⟨(d :: r).length - 1, fun i j => (diC (d :: r)).cell (1 + i) j⟩ (diC r) := by
  refine ⟨rfl, fun i j hi hj => LeX.of_eq ?_⟩
  show diR ((d :: r).getD (1 + i) di0) j = diR (r.getD i di0) j
  rw [Nat.add_comm]
  rfl
theorem okB_of {x : En} {z : Int} (h : okE x) : okB (bnOf z x) := ⟨⟨h.2.1, h.2.2.1, h.1⟩, Nat.zero_le _, fun s hs => nomatch hs⟩
theorem okB_dir {x : Bn} {d : Di} (h : okB x) (hd : okD d) : okB (bnDir x d) := ⟨⟨hd.1.1, hd.1.2, h.1.2.2⟩, hd.2.1⟩
def PuI (n : Nat) (s : List Di × List Bn) : Prop := s.1.length ≤ n ∧ s.2.length ≤ 120 ∧ (∀ d ∈ s.1, okD d) ∧ ∀ b ∈ s.2, okB b
theorem putEs_inv {n : Nat} {rec : Bn → List Di × List Bn → Mk} (hr : ∀ x s, okB x → PuI n s → PuI n (rec x s).1) {z : Int} : ∀ (es : List En) (s : List Di × List Bn), (∀ x ∈ es, okE x) → PuI n s → PuI n (putEs rec z es s).1
  | [], s, _, h => h
  | x :: r, s, he, h => by
    have h1 := hr (bnOf z x) s (okB_of (he x (List.mem_cons_self ..))) h
    rw [putEs]
    split
    · exact h1
    · exact putEs_inv hr r _ (fun y hy => he y (List.mem_cons_of_mem _ hy)) h1
theorem putF_inv {n : Nat} : ∀ (f : Nat) (x : Bn) (s : List Di × List Bn), okB x → PuI n s → PuI n (putF f x s).1
  | 0, x, s, _, h => h
  | f + 1, x, (ds, b), hx, h => by
    obtain ⟨h1, h2, h3, h4⟩ := h
    have hsnoc : ∀ {y : Bn}, okB y → ∀ z ∈ b ++ [y], okB z := fun hy z hz => by
      rcases List.mem_append.1 hz with hz | hz
      · exact h4 z hz
      · rw [List.mem_singleton.1 hz]; exact hy
    rw [putF]
    by_cases hk : x.nd.kind = 1
    · rw [if_pos hk]
      cases ds with
      | nil => exact ⟨h1, h2, h3, h4⟩
      | cons d r =>
        dsimp only
        have hr1 : r.length ≤ n := by have : (d :: r).length ≤ n := h1; rw [List.length_cons] at this; omega
        have hr3 : ∀ y ∈ r, okD y := fun y hy => h3 y (List.mem_cons_of_mem _ hy)
        have hd := h3 d (List.mem_cons_self ..)
        by_cases c : 120 ≤ b.length ∨ 8 < x.nd.depth
        · rw [if_pos c]
          exact ⟨hr1, h2, hr3, h4⟩
        · rw [if_neg c]
          exact putEs_inv (fun y s hy hs => putF_inv f y s hy hs) _ _ hd.2.2.2 ⟨hr1, by show (b ++ [bnDir x d]).length ≤ 120; rw [List.length_append, List.length_singleton]; omega, hr3, hsnoc (okB_dir hx hd)⟩
    · rw [if_neg hk]
      by_cases c : 120 ≤ b.length ∨ 8 < x.nd.depth
      · rw [if_pos c]
        exact ⟨h1, h2, h3, h4⟩
      · rw [if_neg c]
        exact ⟨h1, by show (b ++ [x]).length ≤ 120; rw [List.length_append, List.length_singleton]; omega, h3, hsnoc hx⟩
theorem put_less (f : Nat) (x : Bn) (s : List Di × List Bn) (hx : okB x) (h : PuI s.1.length s) : (putF f x s).1.1.length ≤ s.1.length := (putF_inv f x s hx h).1
abbrev PutC (f : Nat) (x : Bn) (ds : List Di) (acc : List Bn) : Prop := Con Try.prog 70 [.g (bnA x), .o (.ptr 0 0), .o (.ptr 1 0), .o (.ptr 3 0)] (puH 2 ds acc) 4 5 U (fun _ => .o (.c (.int .i64 (putF f x (ds, acc)).2))) (fun _ => puH 4 (putF f x (ds, acc)).1.1 (putF f x (ds, acc)).1.2)
set_option maxRecDepth 20000 in
set_option maxHeartbeats 16000000 in
theorem put_c (f : Nat) : ∀ (x : Bn) (ds : List Di) (acc : List Bn), ds.length < f → PuI 1000000 (ds, acc) → okB x → 0 ≤ x.nd.depth → x.nd.depth ≤ 9 → PutC f x ds acc := by
  induction f with
  | zero => intro x ds acc h; exact absurd h (Nat.not_lt_zero _)
  | succ f ih =>
    intro x ds acc hf hI hx hd0 hd9
    obtain ⟨i1, i2, i3, i4⟩ := hI
    dsimp only at i1 i2 i3 i4
    unfold PutC
    refine con_of Try.func70 rfl (by kernel_rfl) Try.ntmps70 rfl (by first | exact Nat.zero_le _ | decide) (fun _ => ⟨rfl, rfl⟩) fun w S ν => ?_
    have hna : (bnC acc).n = acc.length := rfl
    have hrow : ∀ y : Bn, ∀ j, j < 10 → nthD [.c (.int .i64 y.nd.depth), .c (.string y.nd.name), .c (.int .i64 y.nd.kind), .sl 2 y.nd.attrs.length (atC y.nd.attrs).cell, .c (.string y.nd.data), .c (.int .i64 y.nd.major), .c (.int .i64 y.nd.minor), .c (.int .i64 y.nd.cls), .c (.bool y.opq), .sl 1 y.red.length (paC y.red).cell] j = bnR y j := fun y j hj => by
      match j, hj with
      | 0, _ => rfl
      | 1, _ => rfl
      | 2, _ => rfl
      | 3, _ => rfl
      | 4, _ => rfl
      | 5, _ => rfl
      | 6, _ => rfl
      | 7, _ => rfl
      | 8, _ => rfl
      | 9, _ => rfl
    by_cases hk : x.nd.kind = 1
    · cases ds with
      | nil =>
        rw [show putF (f + 1) x ([], acc) = (([], acc), 6) by rw [putF, if_pos hk]]
        (repeat' (first|(with_reducible refine AllP.go ?_;first|exact og|((try simp only [OS]);repeat' (first|exact oj|refine And.intro ?_ ?_)))|(refine rg ?_ ?_)|(with_reducible first|refine stp ?_|refine tD rfl ?_)|refine ct ?_|refine cf ?_|((first|refine gs ?_ ?_|refine gl ?_ ?_|refine gc ?_ ?_)<;>intro h<;>(try simp only [NS] at h)<;>(try exact xf)<;>(try refine rn ?_ ?_))))
        (refine TE.ret' io rfl tysOk (()) ?_ rfl (by rfl) ?_;all_goals (try (first|exact trivial|((with_reducible refine AllP.go ?_);dsimp only [AllP, appP];repeat' (first|refine And.intro ?_ ?_|exact zz)))))
      | cons d r =>
        have hl1 : (d :: r).length = r.length + 1 := List.length_cons
        have hd := i3 d (List.mem_cons_self ..)
        have hde := hd.2.2.1
        have hca := Clone_c d.attrs.length (atC d.attrs).cell hd.1.1
        have hcs := cloneS_c d.red hd.2.1.1
        (repeat' (first|(with_reducible refine AllP.go ?_;first|exact og|((try simp only [OS]);repeat' (first|exact oj|refine And.intro ?_ ?_)))|(refine rg ?_ ?_)|(with_reducible first|refine stp ?_|refine tD rfl ?_)|refine ct ?_|refine cf ?_|((first|refine gs ?_ ?_|refine gl ?_ ?_|refine gc ?_ ?_)<;>intro h<;>(try simp only [NS] at h)<;>(try exact xf)<;>(try refine rn ?_ ?_))))
        (refine TE.only [1, 2, 3, 4, 5, 7] (by rfl) ?_)
        (refine TE.mid (ι := Unit) (fun _ => True) (fun _ => ⟨[(1, .o (.ptr 0 0)), (2, .o (.ptr 1 0)), (3, .o (.ptr 3 0)), (4, .o (.ptr 4 0)), (5, .o (.c (.int .i64 0))), (7, .o (.ptr 5 0))], .box 5 53 (diA d) :: .box 4 50 (bnA x) :: puH 2 r acc, 6⟩) ?_ fun _ _ => ?_)
        · (refine TE.drawK (fun _ => false) (by rfl) (by rfl) (by rfl) ?_)
          (repeat' (first|(with_reducible refine AllP.go ?_;first|exact og|((try simp only [OS]);repeat' (first|exact oj|refine And.intro ?_ ?_)))|(with_reducible first|exact PanicOk.body|exact rd.panic|refine PanicOk.then' ?_|refine PanicOk.block ?_|refine PanicOk.jump ?_)|(refine TL.done (by rfl) ?_)|(refine TL.auto tysOk rfl ?_ (by rfl) ?_ ?_)|(refine sm ?_ ?_)|(refine sp ?_ ?_)|(refine TL.one (by rfl) ?_)|(refine TL.two (by rfl) ?_ ?_)|(refine TL.three (by rfl) ?_ ?_ ?_)|(refine TL.four (by rfl) ?_ ?_ ?_ ?_)))
          all_goals (repeat (with_reducible first|refine stp ?_|refine tD rfl ?_))
          all_goals (refine TE.at () trivial ?_;(refine Ent.of rfl rfl (by rfl) ?_;(try (first|exact trivial|((with_reducible refine AllP.go ?_);dsimp only [AllP, appP];repeat' (first|refine And.intro ?_ ?_|exact zz))))))
          all_goals exact di_tail d r
        (repeat (with_reducible first|refine stp ?_|refine tD rfl ?_))
        (refine TE.mid (ι := Unit) (fun _ => True) (fun _ => ⟨[(1, .o (.ptr 0 0)), (2, .o (.ptr 1 0)), (3, .o (.ptr 3 0)), (4, .o (.ptr 4 0)), (5, .o (.c (.int .i64 0))), (7, .o (.ptr 5 0))], .box 5 53 (diA d) :: .box 4 50 (bnA (bnDir x d)) :: puH 2 r acc, 6⟩) ?_ fun _ _ => ?_)
        · (refine TE.drawK (fun i => !(Nat.beq i 4)) (by rfl) (by rfl) (by rfl) ?_)
          (repeat' (first|(with_reducible refine AllP.go ?_;first|exact og|((try simp only [OS]);repeat' (first|exact oj|refine And.intro ?_ ?_)))|(with_reducible first|exact PanicOk.body|exact rd.panic|refine PanicOk.then' ?_|refine PanicOk.block ?_|refine PanicOk.jump ?_)|(refine TL.done (by rfl) ?_)|(refine TL.auto tysOk rfl ?_ (by rfl) ?_ ?_)|(refine sm ?_ ?_)|(refine sp ?_ ?_)|(refine TL.one (by rfl) ?_)|(refine TL.two (by rfl) ?_ ?_)|(refine TL.three (by rfl) ?_ ?_ ?_)|(refine TL.four (by rfl) ?_ ?_ ?_ ?_)))
          all_goals (first|refine StepL.callW (hca) rfl rfl rfl rfl rfl (by rfl) (by (first|exact trivial|((with_reducible refine AllP.go ?_);dsimp only [AllP, appP];repeat' (first|refine And.intro ?_ ?_|exact zz|assumption)))) (by rfl) (by rfl) ?_|refine StepL.callW (hcs) rfl rfl rfl rfl rfl (by rfl) (by (first|exact trivial|((with_reducible refine AllP.go ?_);dsimp only [AllP, appP];repeat' (first|refine And.intro ?_ ?_|exact zz|assumption)))) (by rfl) (by rfl) ?_)
          all_goals intro _ _
          all_goals (repeat' (first|(with_reducible refine AllP.go ?_;first|exact og|((try simp only [OS]);repeat' (first|exact oj|refine And.intro ?_ ?_)))|(with_reducible first|exact PanicOk.body|exact rd.panic|refine PanicOk.then' ?_|refine PanicOk.block ?_|refine PanicOk.jump ?_)|(refine TL.done (by rfl) ?_)|(refine TL.auto tysOk rfl ?_ (by rfl) ?_ ?_)|(refine sm ?_ ?_)|(refine sp ?_ ?_)|(refine TL.one (by rfl) ?_)|(refine TL.two (by rfl) ?_ ?_)|(refine TL.three (by rfl) ?_ ?_ ?_)|(refine TL.four (by rfl) ?_ ?_ ?_ ?_)))
          all_goals (first|refine StepL.callW (hca) rfl rfl rfl rfl rfl (by rfl) (by (first|exact trivial|((with_reducible refine AllP.go ?_);dsimp only [AllP, appP];repeat' (first|refine And.intro ?_ ?_|exact zz|assumption)))) (by rfl) (by rfl) ?_|refine StepL.callW (hcs) rfl rfl rfl rfl rfl (by rfl) (by (first|exact trivial|((with_reducible refine AllP.go ?_);dsimp only [AllP, appP];repeat' (first|refine And.intro ?_ ?_|exact zz|assumption)))) (by rfl) (by rfl) ?_)
          all_goals intro _ _
          all_goals (repeat' (first|(with_reducible refine AllP.go ?_;first|exact og|((try simp only [OS]);repeat' (first|exact oj|refine And.intro ?_ ?_)))|(with_reducible first|exact PanicOk.body|exact rd.panic|refine PanicOk.then' ?_|refine PanicOk.block ?_|refine PanicOk.jump ?_)|(refine TL.done (by rfl) ?_)|(refine TL.auto tysOk rfl ?_ (by rfl) ?_ ?_)|(refine sm ?_ ?_)|(refine sp ?_ ?_)|(refine TL.one (by rfl) ?_)|(refine TL.two (by rfl) ?_ ?_)|(refine TL.three (by rfl) ?_ ?_ ?_)|(refine TL.four (by rfl) ?_ ?_ ?_ ?_)))
          all_goals (repeat (with_reducible first|refine stp ?_|refine tD rfl ?_))
          all_goals (refine TE.freezeN 6 (by rfl) (by rfl) ?_)
          all_goals (refine TE.freezeN 7 (by rfl) (by rfl) ?_)
          all_goals (refine TE.at () trivial ?_;(refine Ent.of rfl rfl (by rfl) ?_;(try (first|exact trivial|((with_reducible refine AllP.go ?_);dsimp only [AllP, appP];repeat' (first|refine And.intro ?_ ?_|exact zz))))))
        have hbd : (bnDir x d).nd.depth = x.nd.depth := rfl
        by_cases c : 120 ≤ acc.length ∨ 8 < x.nd.depth
        · rw [show putF (f + 1) x (d :: r, acc) = ((r, acc), 3) by rw [putF, if_pos hk]; dsimp only; rw [if_pos c]]
          (repeat' (first|(with_reducible refine AllP.go ?_;first|exact og|((try simp only [OS]);repeat' (first|exact oj|refine And.intro ?_ ?_)))|(refine rg ?_ ?_)|(with_reducible first|refine stp ?_|refine tD rfl ?_)|refine ct ?_|refine cf ?_|((first|refine gs ?_ ?_|refine gl ?_ ?_|refine gc ?_ ?_)<;>intro h<;>(try simp only [NS] at h)<;>(try exact xf)<;>(try refine rn ?_ ?_))))
          all_goals (refine TE.ret' io rfl tysOk (()) ?_ rfl (by rfl) ?_;all_goals (try (first|exact trivial|((with_reducible refine AllP.go ?_);dsimp only [AllP, appP];repeat' (first|refine And.intro ?_ ?_|exact zz)))))
        have hP : putF (f + 1) x (d :: r, acc) = putEs (putF f) (x.nd.depth + 1) d.ents (r, acc ++ [bnDir x d]) := by
          rw [putF, if_pos hk]
          dsimp only
          rw [if_neg c]
        rw [hP]
        (repeat' (first|(with_reducible refine AllP.go ?_;first|exact og|((try simp only [OS]);repeat' (first|exact oj|refine And.intro ?_ ?_)))|(refine rg ?_ ?_)|(with_reducible first|refine stp ?_|refine tD rfl ?_)|refine ct ?_|refine cf ?_|((first|refine gs ?_ ?_|refine gl ?_ ?_|refine gc ?_ ?_)<;>intro h<;>(try simp only [NS] at h)<;>(try exact xf)<;>(try refine rn ?_ ?_))))
        (refine TE.only [50, 49, 48, 7, 5, 4, 3, 2, 1] (by rfl) ?_)
        have hI0 : PuI 1000000 (r, acc ++ [bnDir x d]) := ⟨by dsimp only; omega, by show (acc ++ [bnDir x d]).length ≤ 120; rw [List.length_append, List.length_singleton]; omega, fun y hy => i3 y (List.mem_cons_of_mem _ hy), fun z hz => by
          rcases List.mem_append.1 hz with hz | hz
          · exact i4 z hz
          · rw [List.mem_singleton.1 hz]; exact okB_dir hx hd⟩
        refine TE.loopG (fun s : Nat × List Di × List Bn => s.1 ≤ d.ents.length ∧ putEs (putF f) (x.nd.depth + 1) d.ents (r, acc ++ [bnDir x d]) = putEs (putF f) (x.nd.depth + 1) (d.ents.drop s.1) s.2 ∧ PuI 1000000 s.2 ∧ s.2.1.length < f) (fun s => [(50, .o (.c (.int .i64 s.1)))]) [0, 1, 7, 3] (fun s => puH 7 s.2.1 s.2.2) (fun s => d.ents.length - s.1) (0, r, acc ++ [bnDir x d]) (by rfl) ⟨Nat.zero_le _, rfl, hI0, by dsimp only; omega⟩ ?_ ?_
        · (refine Ent.of rfl rfl (by rfl) ?_;(try (first|exact trivial|((with_reducible refine AllP.go ?_);dsimp only [AllP, appP];repeat' (first|refine And.intro ?_ ?_|exact zz)))))
          exact listC_snoc _ rfl (hrow _)
        rintro ⟨q, ds', acc'⟩ ⟨h1, h2, h3, h4⟩
        dsimp only at h1 h2 h3 h4
        by_cases hlt : q < d.ents.length
        · have hxe := hd.2.2.2 _ (getD_mem (d := e0) hlt)
          have hdr : d.ents.drop q = d.ents.getD q e0 :: d.ents.drop (q + 1) := by rw [List.drop_eq_getElem_cons hlt, List.getD_eq_getElem?_getD, List.getElem?_eq_getElem hlt]; rfl
          have hcl := Clone_c (d.ents.getD q e0).node.attrs.length (atC (d.ents.getD q e0).node.attrs).cell hxe.2.1
          have hrec := ih (bnOf (x.nd.depth + 1) (d.ents.getD q e0)) ds' acc' h4 h3 (okB_of hxe) (show 0 ≤ x.nd.depth + 1 by omega) (show x.nd.depth + 1 ≤ 9 by omega)
          have hinv := putF_inv (n := 1000000) f (bnOf (x.nd.depth + 1) (d.ents.getD q e0)) (ds', acc') (okB_of hxe) h3
          have hless : (putF f (bnOf (x.nd.depth + 1) (d.ents.getD q e0)) (ds', acc')).1.1.length ≤ ds'.length := put_less f (bnOf (x.nd.depth + 1) (d.ents.getD q e0)) (ds', acc') (okB_of hxe) ⟨Nat.le_refl _, h3.2⟩
          unfold PutC at hrec
          rw [hdr, putEs] at h2
          rw [h2]
          clear h2
          (repeat' (first|(with_reducible refine AllP.go ?_;first|exact og|((try simp only [OS]);repeat' (first|exact oj|refine And.intro ?_ ?_)))|(refine rg ?_ ?_)|(with_reducible first|refine stp ?_|refine tD rfl ?_)|refine ct ?_|refine cf ?_|((first|refine gs ?_ ?_|refine gl ?_ ?_|refine gc ?_ ?_)<;>intro h<;>(try simp only [NS] at h)<;>(try exact xf)<;>(try refine rn ?_ ?_))))
          dsimp only
          (simp only [Int.toNat_natCast])
          generalize d.ents.getD q e0 = en at *
          (refine TE.drawK (fun i => !(Nat.beq i 0 || Nat.beq i 1 || Nat.beq i 7 || Nat.beq i 3)) (by rfl) (by rfl) (by rfl) ?_)
          (repeat' (first|(with_reducible refine AllP.go ?_;first|exact og|((try simp only [OS]);repeat' (first|exact oj|refine And.intro ?_ ?_)))|(with_reducible first|exact PanicOk.body|exact rd.panic|refine PanicOk.then' ?_|refine PanicOk.block ?_|refine PanicOk.jump ?_)|(refine TL.done (by rfl) ?_)|(refine TL.auto tysOk rfl ?_ (by rfl) ?_ ?_)|(refine sm ?_ ?_)|(refine sp ?_ ?_)|(refine TL.one (by rfl) ?_)|(refine TL.two (by rfl) ?_ ?_)|(refine TL.three (by rfl) ?_ ?_ ?_)|(refine TL.four (by rfl) ?_ ?_ ?_ ?_)))
          all_goals (refine StepL.callW (hcl) rfl rfl rfl rfl rfl (by rfl) (by (first|exact trivial|((with_reducible refine AllP.go ?_);dsimp only [AllP, appP];repeat' (first|refine And.intro ?_ ?_|exact zz|assumption)))) (by rfl) (by rfl) ?_;intro _ _;(refine TL.freezeN 10 (by rfl) (by rfl) ?_);(repeat' (first|(with_reducible refine AllP.go ?_;first|exact og|((try simp only [OS]);repeat' (first|exact oj|refine And.intro ?_ ?_)))|(with_reducible first|exact PanicOk.body|exact rd.panic|refine PanicOk.then' ?_|refine PanicOk.block ?_|refine PanicOk.jump ?_)|(refine TL.done (by rfl) ?_)|(refine TL.auto tysOk rfl ?_ (by rfl) ?_ ?_)|(refine sm ?_ ?_)|(refine sp ?_ ?_)|(refine TL.one (by rfl) ?_)|(refine TL.two (by rfl) ?_ ?_)|(refine TL.three (by rfl) ?_ ?_ ?_)|(refine TL.four (by rfl) ?_ ?_ ?_ ?_))))
          have hbz : (bnOf (x.nd.depth + 1) en).nd.depth = x.nd.depth + 1 := rfl
          all_goals (refine StepL.callW (hrec) rfl rfl rfl rfl rfl (by rfl) (by (first|exact trivial|((with_reducible refine AllP.go ?_);dsimp only [AllP, appP];repeat' (first|refine And.intro ?_ ?_|exact zz|assumption)))) (by rfl) (by rfl) ?_;intro _ _;(repeat' (first|(with_reducible refine AllP.go ?_;first|exact og|((try simp only [OS]);repeat' (first|exact oj|refine And.intro ?_ ?_)))|(with_reducible first|exact PanicOk.body|exact rd.panic|refine PanicOk.then' ?_|refine PanicOk.block ?_|refine PanicOk.jump ?_)|(refine TL.done (by rfl) ?_)|(refine TL.auto tysOk rfl ?_ (by rfl) ?_ ?_)|(refine sm ?_ ?_)|(refine sp ?_ ?_)|(refine TL.one (by rfl) ?_)|(refine TL.two (by rfl) ?_ ?_)|(refine TL.three (by rfl) ?_ ?_ ?_)|(refine TL.four (by rfl) ?_ ?_ ?_ ?_))))
          all_goals (
            by_cases he : (putF f (bnOf (x.nd.depth + 1) en) (ds', acc')).2 ≠ 0
            · rw [if_pos he]
              (repeat' (first|(with_reducible refine AllP.go ?_;first|exact og|((try simp only [OS]);repeat' (first|exact oj|refine And.intro ?_ ?_)))|(refine rg ?_ ?_)|(with_reducible first|refine stp ?_|refine tD rfl ?_)|refine ct ?_|refine cf ?_|((first|refine gs ?_ ?_|refine gl ?_ ?_|refine gc ?_ ?_)<;>intro h<;>(try simp only [NS] at h)<;>(try exact xf)<;>(try refine rn ?_ ?_))))
              (refine TE.ret' io rfl tysOk (()) ?_ rfl (by rfl) ?_;all_goals (try (first|exact trivial|((with_reducible refine AllP.go ?_);dsimp only [AllP, appP];repeat' (first|refine And.intro ?_ ?_|exact zz)))))
            rw [if_neg he]
            (repeat' (first|(with_reducible refine AllP.go ?_;first|exact og|((try simp only [OS]);repeat' (first|exact oj|refine And.intro ?_ ?_)))|(refine rg ?_ ?_)|(with_reducible first|refine stp ?_|refine tD rfl ?_)|refine ct ?_|refine cf ?_|((first|refine gs ?_ ?_|refine gl ?_ ?_|refine gc ?_ ?_)<;>intro h<;>(try simp only [NS] at h)<;>(try exact xf)<;>(try refine rn ?_ ?_))))
            refine TE.again' (q + 1, (putF f (bnOf (x.nd.depth + 1) en) (ds', acc')).1) ?_ ?_ ?_
            · exact ⟨Nat.succ_le_of_lt hlt, rfl, hinv, Nat.lt_of_le_of_lt hless h4⟩
            · show d.ents.length - (q + 1) < d.ents.length - q
              omega
            · (refine Ent.of rfl rfl (by rfl) ?_;(try (first|exact trivial|((with_reducible refine AllP.go ?_);dsimp only [AllP, appP];repeat' (first|refine And.intro ?_ ?_|exact zz))))))
        · obtain rfl : q = d.ents.length := by omega
          rw [h2, List.drop_length, putEs]
          (repeat' (first|(with_reducible refine AllP.go ?_;first|exact og|((try simp only [OS]);repeat' (first|exact oj|refine And.intro ?_ ?_)))|(refine rg ?_ ?_)|(with_reducible first|refine stp ?_|refine tD rfl ?_)|refine ct ?_|refine cf ?_|((first|refine gs ?_ ?_|refine gl ?_ ?_|refine gc ?_ ?_)<;>intro h<;>(try simp only [NS] at h)<;>(try exact xf)<;>(try refine rn ?_ ?_))))
          (refine TE.ret' io rfl tysOk (()) ?_ rfl (by rfl) ?_;all_goals (try (first|exact trivial|((with_reducible refine AllP.go ?_);dsimp only [AllP, appP];repeat' (first|refine And.intro ?_ ?_|exact zz)))))
    · by_cases c : 120 ≤ acc.length ∨ 8 < x.nd.depth
      · rw [show putF (f + 1) x (ds, acc) = ((ds, acc), 3) by rw [putF, if_neg hk, if_pos c]]
        (repeat' (first|(with_reducible refine AllP.go ?_;first|exact og|((try simp only [OS]);repeat' (first|exact oj|refine And.intro ?_ ?_)))|(refine rg ?_ ?_)|(with_reducible first|refine stp ?_|refine tD rfl ?_)|refine ct ?_|refine cf ?_|((first|refine gs ?_ ?_|refine gl ?_ ?_|refine gc ?_ ?_)<;>intro h<;>(try simp only [NS] at h)<;>(try exact xf)<;>(try refine rn ?_ ?_))))
        all_goals (refine TE.ret' io rfl tysOk (()) ?_ rfl (by rfl) ?_;all_goals (try (first|exact trivial|((with_reducible refine AllP.go ?_);dsimp only [AllP, appP];repeat' (first|refine And.intro ?_ ?_|exact zz)))))
      · rw [show putF (f + 1) x (ds, acc) = ((ds, acc ++ [x]), 0) by rw [putF, if_neg hk, if_neg c]]
        (repeat' (first|(with_reducible refine AllP.go ?_;first|exact og|((try simp only [OS]);repeat' (first|exact oj|refine And.intro ?_ ?_)))|(refine rg ?_ ?_)|(with_reducible first|refine stp ?_|refine tD rfl ?_)|refine ct ?_|refine cf ?_|((first|refine gs ?_ ?_|refine gl ?_ ?_|refine gc ?_ ?_)<;>intro h<;>(try simp only [NS] at h)<;>(try exact xf)<;>(try refine rn ?_ ?_))))
        refine TE.loopG (fun m : Nat => m = 0) (fun m => [(50, .o (.c (.int .i64 m)))]) [] (fun _ => []) (fun _ => 0) 0 (by rfl) rfl ?_ ?_
        · (refine Ent.of rfl rfl (by rfl) ?_;(try (first|exact trivial|((with_reducible refine AllP.go ?_);dsimp only [AllP, appP];repeat' (first|refine And.intro ?_ ?_|exact zz)))))
        rintro m rfl
        (repeat' (first|(with_reducible refine AllP.go ?_;first|exact og|((try simp only [OS]);repeat' (first|exact oj|refine And.intro ?_ ?_)))|(refine rg ?_ ?_)|(with_reducible first|refine stp ?_|refine tD rfl ?_)|refine ct ?_|refine cf ?_|((first|refine gs ?_ ?_|refine gl ?_ ?_|refine gc ?_ ?_)<;>intro h<;>(try simp only [NS] at h)<;>(try exact xf)<;>(try refine rn ?_ ?_))))
        (refine TE.ret' io rfl tysOk (()) ?_ rfl (by rfl) ?_;all_goals (try (first|exact trivial|((with_reducible refine AllP.go ?_);dsimp only [AllP, appP];repeat' (first|refine And.intro ?_ ?_|exact zz)))))
        exact listC_snoc _ rfl (hrow x)
end Go.Proofs.Ythhpofehcnjmmaa.Am
set_option linter.unusedSimpArgs false
set_option linter.unusedVariables false
namespace Go.Proofs.Ythhpofehcnjmmaa.Am
open Go.RowKit Lw
open Br
abbrev mkH (j : Nat) (ds : List Di) (acc : List Bn) : List Chunk := [.box 0 103 [.ro 4 ds.length (diC ds).cell, .own j], .own j 50 10 (bnC acc)]
abbrev MakC (f : Nat) (x : Bn) (ds : List Di) (acc : List Bn) : Prop := Con Try.prog 72 [.o (.ptr 0 0), .g (bnA x)] (mkH 1 ds acc) 2 3 U (fun _ => .o (.c (.int .i64 (putF f x (ds, acc)).2))) (fun _ => mkH 2 (putF f x (ds, acc)).1.1 (putF f x (ds, acc)).1.2)
set_option maxRecDepth 20000 in
set_option maxHeartbeats 16000000 in
theorem mak_c (f : Nat) : ∀ (x : Bn) (ds : List Di) (acc : List Bn), x.nd.kind = 1 → ds.length < f → PuI 1000000 (ds, acc) → okB x → 0 ≤ x.nd.depth → x.nd.depth ≤ 9 → MakC f x ds acc := by
  induction f with
  | zero => intro x ds acc _ h; exact absurd h (Nat.not_lt_zero _)
  | succ f ih =>
    intro x ds acc hk hf hI hx hd0 hd9
    obtain ⟨i1, i2, i3, i4⟩ := hI
    dsimp only at i1 i2 i3 i4
    unfold MakC
    refine con_of Try.func72 rfl (by kernel_rfl) Try.ntmps72 rfl (by first | exact Nat.zero_le _ | decide) (fun _ => ⟨rfl, rfl⟩) fun w S ν => ?_
    have hna : (bnC acc).n = acc.length := rfl
    cases ds with
    | nil =>
      rw [show putF (f + 1) x ([], acc) = (([], acc), 6) by rw [putF, if_pos hk]]
      (repeat' (first|(with_reducible refine AllP.go ?_;first|exact og|((try simp only [OS]);repeat' (first|exact oj|refine And.intro ?_ ?_)))|(refine rg ?_ ?_)|(with_reducible first|refine stp ?_|refine tD rfl ?_)|refine ct ?_|refine cf ?_|((first|refine gs ?_ ?_|refine gl ?_ ?_|refine gc ?_ ?_)<;>intro h<;>(try simp only [NS] at h)<;>(try exact xf)<;>(try refine rn ?_ ?_))))
      (refine TE.ret' io rfl tysOk (()) ?_ rfl (by rfl) ?_;all_goals (try (first|exact trivial|((with_reducible refine AllP.go ?_);dsimp only [AllP, appP];repeat' (first|refine And.intro ?_ ?_|exact zz)))))
    | cons d r =>
      have hl1 : (d :: r).length = r.length + 1 := List.length_cons
      have hd := i3 d (List.mem_cons_self ..)
      have hde := hd.2.2.1
      by_cases c : 120 ≤ acc.length ∨ 8 < x.nd.depth
      · rw [show putF (f + 1) x (d :: r, acc) = ((r, acc), 3) by rw [putF, if_pos hk]; dsimp only; rw [if_pos c]]
        (repeat' (first|(with_reducible refine AllP.go ?_;first|exact og|((try simp only [OS]);repeat' (first|exact oj|refine And.intro ?_ ?_)))|(refine rg ?_ ?_)|(with_reducible first|refine stp ?_|refine tD rfl ?_)|refine ct ?_|refine cf ?_|((first|refine gs ?_ ?_|refine gl ?_ ?_|refine gc ?_ ?_)<;>intro h<;>(try simp only [NS] at h)<;>(try exact xf)<;>(try refine rn ?_ ?_))))
        all_goals (refine TE.ret' io rfl tysOk (()) ?_ rfl (by rfl) ?_;all_goals (try (first|exact trivial|((with_reducible refine AllP.go ?_);dsimp only [AllP, appP];repeat' (first|refine And.intro ?_ ?_|exact zz)))))
        all_goals exact di_tail d r
      have hP : putF (f + 1) x (d :: r, acc) = putEs (putF f) (x.nd.depth + 1) d.ents (r, acc ++ [bnDir x d]) := by
        rw [putF, if_pos hk]
        dsimp only
        rw [if_neg c]
      rw [hP]
      have x1 : ((d :: r).getD (Int.toNat 0) di0).attrs.length ≤ 1000000 := hd.1.1
      have x2 : ((d :: r).getD (Int.toNat 0) di0).red.length ≤ 1000000 := hd.2.1.1
      have hrow : ∀ y : Bn, ∀ j, j < 10 → nthD [.c (.int .i64 y.nd.depth), .c (.string y.nd.name), .c (.int .i64 y.nd.kind), .sl 2 y.nd.attrs.length (atC y.nd.attrs).cell, .c (.string y.nd.data), .c (.int .i64 y.nd.major), .c (.int .i64 y.nd.minor), .c (.int .i64 y.nd.cls), .c (.bool y.opq), .sl 1 y.red.length (paC y.red).cell] j = bnR y j := fun y j hj => by
        match j, hj with
        | 0, _ => rfl
        | 1, _ => rfl
        | 2, _ => rfl
        | 3, _ => rfl
        | 4, _ => rfl
        | 5, _ => rfl
        | 6, _ => rfl
        | 7, _ => rfl
        | 8, _ => rfl
        | 9, _ => rfl
      (repeat' (first|(with_reducible refine AllP.go ?_;first|exact og|((try simp only [OS]);repeat' (first|exact oj|refine And.intro ?_ ?_)))|(refine rg ?_ ?_)|(with_reducible first|refine stp ?_|refine tD rfl ?_)|refine ct ?_|refine cf ?_|((first|refine gs ?_ ?_|refine gl ?_ ?_|refine gc ?_ ?_)<;>intro h<;>(try simp only [NS] at h)<;>(try exact xf)<;>(try refine rn ?_ ?_))))
      (refine TE.only [0, 3, 4, 5] (by rfl) ?_)
      (refine TE.mid (ι := Unit) (fun _ => True) (fun _ => ⟨[(0, .o (.ptr 0 0)), (3, .o (.ptr 2 0)), (4, .o (.c (.int .i64 0))), (5, .o (.ptr 3 0))], .box 3 53 (diA d) :: .box 2 50 (bnA (bnDir x d)) :: mkH 1 r acc, 4⟩) ?_ fun _ _ => ?_)
      · (refine TE.drawK (fun i => Nat.beq i 3) (by rfl) (by rfl) (by rfl) ?_)
        (repeat' (first|(with_reducible refine AllP.go ?_;first|exact og|((try simp only [OS]);repeat' (first|exact oj|refine And.intro ?_ ?_)))|(with_reducible first|exact PanicOk.body|exact rd.panic|refine PanicOk.then' ?_|refine PanicOk.block ?_|refine PanicOk.jump ?_)|(refine TL.done (by rfl) ?_)|(refine TL.auto tysOk rfl ?_ (by rfl) ?_ ?_)|(refine sm ?_ ?_)|(refine sp ?_ ?_)|(refine TL.one (by rfl) ?_)|(refine TL.two (by rfl) ?_ ?_)|(refine TL.three (by rfl) ?_ ?_ ?_)|(refine TL.four (by rfl) ?_ ?_ ?_ ?_)))
        all_goals (repeat (with_reducible first|refine stp ?_|refine tD rfl ?_))
        all_goals try (refine TE.freezeN 4 (by rfl) (by rfl) ?_)
        all_goals try (refine TE.freezeN 5 (by rfl) (by rfl) ?_)
        all_goals try (refine TE.freezeN 6 (by rfl) (by rfl) ?_)
        all_goals try (refine TE.freezeN 7 (by rfl) (by rfl) ?_)
        all_goals try (refine TE.freezeN 8 (by rfl) (by rfl) ?_)
        all_goals (refine TE.at () trivial ?_;(refine Ent.of rfl rfl (by rfl) ?_;(try (first|exact trivial|((with_reducible refine AllP.go ?_);dsimp only [AllP, appP];repeat' (first|refine And.intro ?_ ?_|exact zz))))))
        all_goals first | exact di_tail d r | exact litnil_app 2 (atC d.attrs) | exact litnil_app 1 (paC d.red)
      (repeat (with_reducible first|refine stp ?_|refine tD rfl ?_))
      (refine TE.mid (ι := Unit) (fun _ => True) (fun _ => ⟨[(0, .o (.ptr 0 0)), (3, .o (.ptr 2 0)), (4, .o (.c (.int .i64 0))), (5, .o (.ptr 3 0))], .box 3 53 (diA d) :: .box 2 50 (bnA (bnDir x d)) :: mkH 4 r (acc ++ [bnDir x d]), 5⟩) ?_ fun _ _ => ?_)
      · (refine TE.drawK (fun i => Nat.blt i 4 && !(Nat.beq i 0 || Nat.beq i 1)) (by rfl) (by rfl) (by rfl) ?_)
        (repeat' (first|(with_reducible refine AllP.go ?_;first|exact og|((try simp only [OS]);repeat' (first|exact oj|refine And.intro ?_ ?_)))|(with_reducible first|exact PanicOk.body|exact rd.panic|refine PanicOk.then' ?_|refine PanicOk.block ?_|refine PanicOk.jump ?_)|(refine TL.done (by rfl) ?_)|(refine TL.auto tysOk rfl ?_ (by rfl) ?_ ?_)|(refine sm ?_ ?_)|(refine sp ?_ ?_)|(refine TL.one (by rfl) ?_)|(refine TL.two (by rfl) ?_ ?_)|(refine TL.three (by rfl) ?_ ?_ ?_)|(refine TL.four (by rfl) ?_ ?_ ?_ ?_)))
        all_goals (repeat (with_reducible first|refine stp ?_|refine tD rfl ?_))
        all_goals (refine TE.at () trivial ?_;(refine Ent.of rfl rfl (by rfl) ?_;(try (first|exact trivial|((with_reducible refine AllP.go ?_);dsimp only [AllP, appP];repeat' (first|refine And.intro ?_ ?_|exact zz))))))
        all_goals exact listC_snoc _ rfl (hrow _)
      (repeat' (first|(with_reducible refine AllP.go ?_;first|exact og|((try simp only [OS]);repeat' (first|exact oj|refine And.intro ?_ ?_)))|(refine rg ?_ ?_)|(with_reducible first|refine stp ?_|refine tD rfl ?_)|refine ct ?_|refine cf ?_|((first|refine gs ?_ ?_|refine gl ?_ ?_|refine gc ?_ ?_)<;>intro h<;>(try simp only [NS] at h)<;>(try exact xf)<;>(try refine rn ?_ ?_))))
      have hI0 : PuI 1000000 (r, acc ++ [bnDir x d]) := ⟨by dsimp only; omega, by show (acc ++ [bnDir x d]).length ≤ 120; rw [List.length_append, List.length_singleton]; omega, fun y hy => i3 y (List.mem_cons_of_mem _ hy), fun z hz => by
        rcases List.mem_append.1 hz with hz | hz
        · exact i4 z hz
        · rw [List.mem_singleton.1 hz]; exact okB_dir hx hd⟩
      refine TE.loopG (fun s : Nat × List Di × List Bn => s.1 ≤ d.ents.length ∧ putEs (putF f) (x.nd.depth + 1) d.ents (r, acc ++ [bnDir x d]) = putEs (putF f) (x.nd.depth + 1) (d.ents.drop s.1) s.2 ∧ PuI 1000000 s.2 ∧ s.2.1.length < f) (fun s => [(6, .o (.c (.int .i64 s.1)))]) [0, 4] (fun s => mkH 4 s.2.1 s.2.2) (fun s => d.ents.length - s.1) (0, r, acc ++ [bnDir x d]) (by rfl) ⟨Nat.zero_le _, rfl, hI0, by dsimp only; omega⟩ ?_ ?_
      · (refine Ent.of rfl rfl (by rfl) ?_;(try (first|exact trivial|((with_reducible refine AllP.go ?_);dsimp only [AllP, appP];repeat' (first|refine And.intro ?_ ?_|exact zz)))))
      rintro ⟨q, ds', acc'⟩ ⟨h1, h2, h3, h4⟩
      dsimp only at h1 h2 h3 h4
      by_cases hlt : q < d.ents.length
      · have hxe := hd.2.2.2 _ (getD_mem (d := e0) hlt)
        have hdr : d.ents.drop q = d.ents.getD q e0 :: d.ents.drop (q + 1) := by rw [List.drop_eq_getElem_cons hlt, List.getD_eq_getElem?_getD, List.getElem?_eq_getElem hlt]; rfl
        have hrec := fun h => ih (bnOf (x.nd.depth + 1) (d.ents.getD q e0)) ds' acc' h h4 h3 (okB_of hxe) (show 0 ≤ x.nd.depth + 1 by omega) (show x.nd.depth + 1 ≤ 9 by omega)
        have hinv := putF_inv (n := 1000000) f (bnOf (x.nd.depth + 1) (d.ents.getD q e0)) (ds', acc') (okB_of hxe) h3
        have hless : (putF f (bnOf (x.nd.depth + 1) (d.ents.getD q e0)) (ds', acc')).1.1.length ≤ ds'.length := put_less f (bnOf (x.nd.depth + 1) (d.ents.getD q e0)) (ds', acc') (okB_of hxe) ⟨Nat.le_refl _, h3.2⟩
        rw [hdr, putEs] at h2
        rw [h2]
        clear h2
        have hxl := hxe.2.1
        have ha' := h3.2.1
        dsimp only at ha'
        (repeat' (first|(with_reducible refine AllP.go ?_;first|exact og|((try simp only [OS]);repeat' (first|exact oj|refine And.intro ?_ ?_)))|(refine rg ?_ ?_)|(with_reducible first|refine stp ?_|refine tD rfl ?_)|refine ct ?_|refine cf ?_|((first|refine gs ?_ ?_|refine gl ?_ ?_|refine gc ?_ ?_)<;>intro h<;>(try simp only [NS] at h)<;>(try exact xf)<;>(try refine rn ?_ ?_))))
        dsimp only
        (simp only [Int.toNat_natCast])
        (refine TE.only [0, 3, 5, 6, 7] (by rfl) ?_)
        have hbd : (bnDir x d).nd.depth = x.nd.depth := rfl
        (refine TE.mid (ι := Unit) (fun _ => True) (fun _ => ⟨[(0, .o (.ptr 0 0)), (3, .o (.ptr 2 0)), (5, .o (.ptr 3 0)), (6, .o (.c (.int .i64 q))), (7, .o (.ptr 5 0)), (8, .o (.ptr 6 0))], .box 6 50 (bnA (bnOf (x.nd.depth + 1) (d.ents.getD q e0))) :: .box 5 70 (ndA (d.ents.getD q e0).node) :: .box 3 53 (diA d) :: .box 2 50 (bnA (bnDir x d)) :: mkH 4 ds' acc', 7⟩) ?_ fun _ _ => ?_)
        · (refine TE.drawK (fun i => Nat.beq i 2 || Nat.beq i 3 || Nat.beq i 5) (by rfl) (by rfl) (by rfl) ?_)
          (repeat' (first|(with_reducible refine AllP.go ?_;first|exact og|((try simp only [OS]);repeat' (first|exact oj|refine And.intro ?_ ?_)))|(with_reducible first|exact PanicOk.body|exact rd.panic|refine PanicOk.then' ?_|refine PanicOk.block ?_|refine PanicOk.jump ?_)|(refine TL.done (by rfl) ?_)|(refine TL.auto tysOk rfl ?_ (by rfl) ?_ ?_)|(refine sm ?_ ?_)|(refine sp ?_ ?_)|(refine TL.one (by rfl) ?_)|(refine TL.two (by rfl) ?_ ?_)|(refine TL.three (by rfl) ?_ ?_ ?_)|(refine TL.four (by rfl) ?_ ?_ ?_ ?_)))
          all_goals (repeat (with_reducible first|refine stp ?_|refine tD rfl ?_))
          all_goals try (refine TE.freezeN 6 (by rfl) (by rfl) ?_)
          all_goals try (refine TE.freezeN 7 (by rfl) (by rfl) ?_)
          all_goals try (refine TE.freezeN 8 (by rfl) (by rfl) ?_)
          all_goals (refine TE.at () trivial ?_;(refine Ent.of rfl rfl (by rfl) ?_;(try (first|exact trivial|((with_reducible refine AllP.go ?_);dsimp only [AllP, appP];repeat' (first|refine And.intro ?_ ?_|exact zz))))))
          all_goals exact litnil_app 2 (atC (d.ents.getD q e0).node.attrs)
        generalize d.ents.getD q e0 = en at *
        have hbz : (bnOf (x.nd.depth + 1) en).nd.depth = x.nd.depth + 1 := rfl
        have hbk : (bnOf (x.nd.depth + 1) en).nd.kind = en.node.kind := rfl
        (repeat (with_reducible first|refine stp ?_|refine tD rfl ?_))
        by_cases hek : en.node.kind = 1
        · have hrec := hrec hek
          unfold MakC at hrec
          (repeat' (first|(with_reducible refine AllP.go ?_;first|exact og|((try simp only [OS]);repeat' (first|exact oj|refine And.intro ?_ ?_)))|(refine rg ?_ ?_)|(with_reducible first|refine stp ?_|refine tD rfl ?_)|refine ct ?_|refine cf ?_|((first|refine gs ?_ ?_|refine gl ?_ ?_|refine gc ?_ ?_)<;>intro h<;>(try simp only [NS] at h)<;>(try exact xf)<;>(try refine rn ?_ ?_))))
          refine TE.callW (hrec) rfl (by rfl) (by rfl) rfl (by rfl) (by (first|exact trivial|((with_reducible refine AllP.go ?_);dsimp only [AllP, appP];repeat' (first|refine And.intro ?_ ?_|exact zz|assumption)))) ?_
          intro _ _
          by_cases he : (putF f (bnOf (x.nd.depth + 1) en) (ds', acc')).2 ≠ 0
          · rw [if_pos he]
            ((refine rn ?_ ?_);(repeat' (first|(with_reducible refine AllP.go ?_;first|exact og|((try simp only [OS]);repeat' (first|exact oj|refine And.intro ?_ ?_)))|(refine rg ?_ ?_)|(with_reducible first|refine stp ?_|refine tD rfl ?_)|refine ct ?_|refine cf ?_|((first|refine gs ?_ ?_|refine gl ?_ ?_|refine gc ?_ ?_)<;>intro h<;>(try simp only [NS] at h)<;>(try exact xf)<;>(try refine rn ?_ ?_)))))
            (refine TE.ret' io rfl tysOk (()) ?_ rfl (by rfl) ?_;all_goals (try (first|exact trivial|((with_reducible refine AllP.go ?_);dsimp only [AllP, appP];repeat' (first|refine And.intro ?_ ?_|exact zz)))))
          rw [if_neg he]
          ((refine rn ?_ ?_);(repeat' (first|(with_reducible refine AllP.go ?_;first|exact og|((try simp only [OS]);repeat' (first|exact oj|refine And.intro ?_ ?_)))|(refine rg ?_ ?_)|(with_reducible first|refine stp ?_|refine tD rfl ?_)|refine ct ?_|refine cf ?_|((first|refine gs ?_ ?_|refine gl ?_ ?_|refine gc ?_ ?_)<;>intro h<;>(try simp only [NS] at h)<;>(try exact xf)<;>(try refine rn ?_ ?_)))))
          refine TE.again' (q + 1, (putF f (bnOf (x.nd.depth + 1) en) (ds', acc')).1) ?_ ?_ ?_
          · exact ⟨Nat.succ_le_of_lt hlt, rfl, hinv, Nat.lt_of_le_of_lt hless h4⟩
          · show d.ents.length - (q + 1) < d.ents.length - q
            omega
          · (refine Ent.of rfl rfl (by rfl) ?_;(try (first|exact trivial|((with_reducible refine AllP.go ?_);dsimp only [AllP, appP];repeat' (first|refine And.intro ?_ ?_|exact zz)))))
        · have hek' : ¬ (bnOf (x.nd.depth + 1) en).nd.kind = 1 := hek
          obtain ⟨f', rfl⟩ : ∃ f', f = f' + 1 := ⟨f - 1, by omega⟩
          by_cases c2 : 120 ≤ acc'.length ∨ 8 < (bnOf (x.nd.depth + 1) en).nd.depth
          · have e1 : putF (f' + 1) (bnOf (x.nd.depth + 1) en) (ds', acc') = ((ds', acc'), 3) := by rw [putF, if_neg hek', if_pos c2]
            rw [e1]
            rw [if_pos (show (3 : Int) ≠ 0 by decide)]
            (repeat' (first|(with_reducible refine AllP.go ?_;first|exact og|((try simp only [OS]);repeat' (first|exact oj|refine And.intro ?_ ?_)))|(refine rg ?_ ?_)|(with_reducible first|refine stp ?_|refine tD rfl ?_)|refine ct ?_|refine cf ?_|((first|refine gs ?_ ?_|refine gl ?_ ?_|refine gc ?_ ?_)<;>intro h<;>(try simp only [NS] at h)<;>(try exact xf)<;>(try refine rn ?_ ?_))))
            all_goals (refine TE.ret' io rfl tysOk (()) ?_ rfl (by rfl) ?_;all_goals (try (first|exact trivial|((with_reducible refine AllP.go ?_);dsimp only [AllP, appP];repeat' (first|refine And.intro ?_ ?_|exact zz)))))
          · have e1 : putF (f' + 1) (bnOf (x.nd.depth + 1) en) (ds', acc') = ((ds', acc' ++ [bnOf (x.nd.depth + 1) en]), 0) := by rw [putF, if_neg hek', if_neg c2]
            rw [e1] at hinv hless ⊢
            rw [if_neg (fun k => k rfl)]
            (repeat' (first|(with_reducible refine AllP.go ?_;first|exact og|((try simp only [OS]);repeat' (first|exact oj|refine And.intro ?_ ?_)))|(refine rg ?_ ?_)|(with_reducible first|refine stp ?_|refine tD rfl ?_)|refine ct ?_|refine cf ?_|((first|refine gs ?_ ?_|refine gl ?_ ?_|refine gc ?_ ?_)<;>intro h<;>(try simp only [NS] at h)<;>(try exact xf)<;>(try refine rn ?_ ?_))))
            (refine TE.drawK (fun i => Nat.blt i 7 && !(Nat.beq i 0 || Nat.beq i 4)) (by rfl) (by rfl) (by rfl) ?_)
            (repeat' (first|(with_reducible refine AllP.go ?_;first|exact og|((try simp only [OS]);repeat' (first|exact oj|refine And.intro ?_ ?_)))|(with_reducible first|exact PanicOk.body|exact rd.panic|refine PanicOk.then' ?_|refine PanicOk.block ?_|refine PanicOk.jump ?_)|(refine TL.done (by rfl) ?_)|(refine TL.auto tysOk rfl ?_ (by rfl) ?_ ?_)|(refine sm ?_ ?_)|(refine sp ?_ ?_)|(refine TL.one (by rfl) ?_)|(refine TL.two (by rfl) ?_ ?_)|(refine TL.three (by rfl) ?_ ?_ ?_)|(refine TL.four (by rfl) ?_ ?_ ?_ ?_)))
            all_goals (repeat' (first|(with_reducible refine AllP.go ?_;first|exact og|((try simp only [OS]);repeat' (first|exact oj|refine And.intro ?_ ?_)))|(refine rg ?_ ?_)|(with_reducible first|refine stp ?_|refine tD rfl ?_)|refine ct ?_|refine cf ?_|((first|refine gs ?_ ?_|refine gl ?_ ?_|refine gc ?_ ?_)<;>intro h<;>(try simp only [NS] at h)<;>(try exact xf)<;>(try refine rn ?_ ?_))))
            all_goals (
              refine TE.again' (q + 1, (ds', acc' ++ [bnOf (x.nd.depth + 1) en])) ?_ ?_ ?_
              · exact ⟨Nat.succ_le_of_lt hlt, rfl, hinv, h4⟩
              · show d.ents.length - (q + 1) < d.ents.length - q
                omega
              · (refine Ent.of rfl rfl (by rfl) ?_;(try (first|exact trivial|((with_reducible refine AllP.go ?_);dsimp only [AllP, appP];repeat' (first|refine And.intro ?_ ?_|exact zz)))))
                exact listC_snoc _ rfl (hrow _))
      · obtain rfl : q = d.ents.length := by omega
        rw [h2, List.drop_length, putEs]
        (repeat' (first|(with_reducible refine AllP.go ?_;first|exact og|((try simp only [OS]);repeat' (first|exact oj|refine And.intro ?_ ?_)))|(refine rg ?_ ?_)|(with_reducible first|refine stp ?_|refine tD rfl ?_)|refine ct ?_|refine cf ?_|((first|refine gs ?_ ?_|refine gl ?_ ?_|refine gc ?_ ?_)<;>intro h<;>(try simp only [NS] at h)<;>(try exact xf)<;>(try refine rn ?_ ?_))))
        (refine TE.ret' io rfl tysOk (()) ?_ rfl (by rfl) ?_;all_goals (try (first|exact trivial|((with_reducible refine AllP.go ?_);dsimp only [AllP, appP];repeat' (first|refine And.intro ?_ ?_|exact zz)))))
end Go.Proofs.Ythhpofehcnjmmaa.Am
set_option linter.unusedSimpArgs false
set_option linter.unusedVariables false
namespace Go.Proofs.Ythhpofehcnjmmaa.Am
open Go.RowKit Lw
open Br
theorem idxs_nil {p : Nat → Bool} : ∀ {n : Nat}, (∀ i, i < n → p i = false) → idxs p n = []
  | 0, _ => rfl
  | n + 1, h => by
    rw [idxs_succ, h n (by omega), if_neg (by decide), idxs_nil fun i hi => h i (by omega)]
set_option maxRecDepth 20000 in
set_option maxHeartbeats 4000000 in
theorem rKids_c (l : List Bn) (n : Int) (hl : l.length ≤ 1000000) (hx : ∀ x ∈ l, okB x) : Con Try.prog 26 [.o (.ro 10 l.length (bnC l).cell), .o (.c (.int .i64 n))] [] 0 0 U (fun _ => .t [.inl (.ro 1 (kidsE l n).1.length (skC (kidsE l n).1).cell), .inl (.c (.int .i64 (kidsE l n).2))]) G0 := by
  refine con_of Try.func26 rfl (by kernel_rfl) Try.ntmps26 rfl (by first | exact Nat.zero_le _ | decide) (fun _ => ⟨rfl, rfl⟩) fun w S ν => ?_
  have hkn := rknown_c l n hl hx
  have hti : (nds l).length = l.length := List.length_map ..
  (repeat' (first|(with_reducible refine AllP.go ?_;first|exact og|((try simp only [OS]);repeat' (first|exact oj|refine And.intro ?_ ?_)))|(refine rg ?_ ?_)|(with_reducible first|refine stp ?_|refine tD rfl ?_)|refine ct ?_|refine cf ?_|((first|refine gs ?_ ?_|refine gl ?_ ?_|refine gc ?_ ?_)<;>intro h<;>(try simp only [NS] at h)<;>(try exact xf)<;>(try refine rn ?_ ?_))))
  refine TE.callW (hkn) rfl (by rfl) (by rfl) rfl (by rfl) (by (first|exact trivial|((with_reducible refine AllP.go ?_);dsimp only [AllP, appP];repeat' (first|refine And.intro ?_ ?_|exact zz|assumption)))) ?_
  intro _ _
  by_cases h1 : knownE l n ≠ 0
  · rw [show kidsE l n = ([], knownE l n) from if_pos h1]
    ((refine rn ?_ ?_);(repeat' (first|(with_reducible refine AllP.go ?_;first|exact og|((try simp only [OS]);repeat' (first|exact oj|refine And.intro ?_ ?_)))|(refine rg ?_ ?_)|(with_reducible first|refine stp ?_|refine tD rfl ?_)|refine ct ?_|refine cf ?_|((first|refine gs ?_ ?_|refine gl ?_ ?_|refine gc ?_ ?_)<;>intro h<;>(try simp only [NS] at h)<;>(try exact xf)<;>(try refine rn ?_ ?_)))))
    (refine TE.ret' io rfl tysOk (()) ?_ rfl (by rfl) ?_;all_goals (try (first|exact trivial|((with_reducible refine AllP.go ?_);dsimp only [AllP, appP];repeat' (first|refine And.intro ?_ ?_|exact zz)))))
  have hK : kidsE l n = if (l.getD n.toNat b0).nd.kind ≠ 1 then ([], 14) else (kidsL l n, 0) := if_neg h1
  have h1 := Decidable.not_not.1 h1
  obtain ⟨k, rfl, hk⟩ := known_at h1
  rw [Int.toNat_natCast] at hK
  by_cases h2 : (l.getD k b0).nd.kind ≠ 1
  · rw [if_pos h2] at hK
    rw [hK]
    ((refine rn ?_ ?_);(repeat' (first|(with_reducible refine AllP.go ?_;first|exact og|((try simp only [OS]);repeat' (first|exact oj|refine And.intro ?_ ?_)))|(refine rg ?_ ?_)|(with_reducible first|refine stp ?_|refine tD rfl ?_)|refine ct ?_|refine cf ?_|((first|refine gs ?_ ?_|refine gl ?_ ?_|refine gc ?_ ?_)<;>intro h<;>(try simp only [NS] at h)<;>(try exact xf)<;>(try refine rn ?_ ?_)))))
    (refine TE.ret' io rfl tysOk (()) ?_ rfl (by rfl) ?_;all_goals (try (first|exact trivial|((with_reducible refine AllP.go ?_);dsimp only [AllP, appP];repeat' (first|refine And.intro ?_ ?_|exact zz)))))
  rw [if_neg h2] at hK
  rw [hK]
  have h2 := Decidable.not_not.1 h2
  ((refine rn ?_ ?_);(repeat' (first|(with_reducible refine AllP.go ?_;first|exact og|((try simp only [OS]);repeat' (first|exact oj|refine And.intro ?_ ?_)))|(refine rg ?_ ?_)|(with_reducible first|refine stp ?_|refine tD rfl ?_)|refine ct ?_|refine cf ?_|((first|refine gs ?_ ?_|refine gl ?_ ?_|refine gc ?_ ?_)<;>intro h<;>(try simp only [NS] at h)<;>(try exact xf)<;>(try refine rn ?_ ?_)))))
  refine TE.nilOwn 7 3 1 (by rfl) ?_
  (refine TE.only [8, 7, 1, 0] (by rfl) ?_)
  refine TE.loopG (fun q : Nat => k + 1 ≤ q ∧ q ≤ l.length) (fun q => [(8, .o (.c (.int .i64 q))), (7, .o (.own 0))]) [0] (fun q => [.own 0 3 1 (skC (idxs (fun i => decide (aboveI (nds l) i = (k : Int))) q))]) (fun q => l.length - q) (k + 1) (by rfl) ⟨Nat.le_refl _, hk⟩ ?_ ?_
  · (refine Ent.of rfl rfl (by rfl) ?_;(try (first|exact trivial|((with_reducible refine AllP.go ?_);dsimp only [AllP, appP];repeat' (first|refine And.intro ?_ ?_|exact zz)))))
    rw [idxs_nil fun i hi => decide_eq_false fun e => ?_]
    · exact LeDC.nil rfl rfl
    · have h3 := above_lt (d := ((nds l).getD i n0).depth) ((nds l).take i).reverse
      rw [List.length_reverse, List.length_take] at h3
      have h4 : aboveI (nds l) i < i := Int.lt_of_lt_of_le h3 (by omega)
      omega
  rintro q ⟨hq0, hq⟩
  by_cases hlt : q < l.length
  · have hs := idxs_succ (fun i => decide (aboveI (nds l) i = (k : Int))) q
    have hn := idxs_len (fun i => decide (aboveI (nds l) i = (k : Int))) q
    have hcn : (skC (idxs (fun i => decide (aboveI (nds l) i = (k : Int))) q)).n ≤ q := hn
    have hac := above_c l q hlt hl
    (repeat' (first|(with_reducible refine AllP.go ?_;first|exact og|((try simp only [OS]);repeat' (first|exact oj|refine And.intro ?_ ?_)))|(refine rg ?_ ?_)|(with_reducible first|refine stp ?_|refine tD rfl ?_)|refine ct ?_|refine cf ?_|((first|refine gs ?_ ?_|refine gl ?_ ?_|refine gc ?_ ?_)<;>intro h<;>(try simp only [NS] at h)<;>(try exact xf)<;>(try refine rn ?_ ?_))))
    refine TE.callW (hac) rfl (by rfl) (by rfl) rfl (by rfl) (by (first|exact trivial|((with_reducible refine AllP.go ?_);dsimp only [AllP, appP];repeat' (first|refine And.intro ?_ ?_|exact zz|assumption)))) ?_
    intro _ _
    by_cases ha : aboveI (nds l) q = k
    · rw [if_pos (decide_eq_true ha)] at hs
      rw [ha]
      ((refine rn ?_ ?_);(repeat' (first|(with_reducible refine AllP.go ?_;first|exact og|((try simp only [OS]);repeat' (first|exact oj|refine And.intro ?_ ?_)))|(refine rg ?_ ?_)|(with_reducible first|refine stp ?_|refine tD rfl ?_)|refine ct ?_|refine cf ?_|((first|refine gs ?_ ?_|refine gl ?_ ?_|refine gc ?_ ?_)<;>intro h<;>(try simp only [NS] at h)<;>(try exact xf)<;>(try refine rn ?_ ?_)))))
      refine TE.again' (q + 1) ⟨by omega, by omega⟩ (by omega) ?_
      (refine Ent.of rfl rfl (by rfl) ?_;(try (first|exact trivial|((with_reducible refine AllP.go ?_);dsimp only [AllP, appP];repeat' (first|refine And.intro ?_ ?_|exact zz)))))
      all_goals exact listC_snoc _ hs (nth1 rfl)
    · rw [if_neg (by simpa using ha)] at hs
      ((refine rn ?_ ?_);(repeat' (first|(with_reducible refine AllP.go ?_;first|exact og|((try simp only [OS]);repeat' (first|exact oj|refine And.intro ?_ ?_)))|(refine rg ?_ ?_)|(with_reducible first|refine stp ?_|refine tD rfl ?_)|refine ct ?_|refine cf ?_|((first|refine gs ?_ ?_|refine gl ?_ ?_|refine gc ?_ ?_)<;>intro h<;>(try simp only [NS] at h)<;>(try exact xf)<;>(try refine rn ?_ ?_)))))
      refine TE.again' (q + 1) ⟨by omega, by omega⟩ (by omega) ?_
      rw [hs]
      (refine Ent.of rfl rfl (by rfl) ?_;(try (first|exact trivial|((with_reducible refine AllP.go ?_);dsimp only [AllP, appP];repeat' (first|refine And.intro ?_ ?_|exact zz)))))
  · obtain rfl : q = l.length := by omega
    (repeat' (first|(with_reducible refine AllP.go ?_;first|exact og|((try simp only [OS]);repeat' (first|exact oj|refine And.intro ?_ ?_)))|(refine rg ?_ ?_)|(with_reducible first|refine stp ?_|refine tD rfl ?_)|refine ct ?_|refine cf ?_|((first|refine gs ?_ ?_|refine gl ?_ ?_|refine gc ?_ ?_)<;>intro h<;>(try simp only [NS] at h)<;>(try exact xf)<;>(try refine rn ?_ ?_))))
    (refine TE.freezeN 0 (by rfl) (by rfl) ?_)
    (refine TE.ret' io rfl tysOk (()) ?_ rfl (by rfl) ?_;all_goals (try (first|exact trivial|((with_reducible refine AllP.go ?_);dsimp only [AllP, appP];repeat' (first|refine And.intro ?_ ?_|exact zz)))))
end Go.Proofs.Ythhpofehcnjmmaa.Am
set_option linter.unusedSimpArgs false
set_option linter.unusedVariables false
namespace Go.Proofs.Ythhpofehcnjmmaa.Am
open Go.RowKit Lw
open Br
def fstP (l : List Bn) (n : Int) (i q : Nat) : Bool := ((namesL l i).take q).all fun k => decide (n < aboveI (nds l) k) || (decide (aboveI (nds l) k = n) && decide (i ≤ k))
theorem fstP_all (l : List Bn) (n : Int) (i : Nat) : fstP l n i (namesL l i).length = firstP l n i := by
  unfold fstP firstP
  rw [List.take_length]
theorem fstP_succ {l : List Bn} {n : Int} {i q : Nat} (h : q < (namesL l i).length) : fstP l n i (q + 1) = (fstP l n i q && (decide (n < aboveI (nds l) ((namesL l i).getD q 0)) || (decide (aboveI (nds l) ((namesL l i).getD q 0) = n) && decide (i ≤ (namesL l i).getD q 0)))) := by
  unfold fstP
  rw [List.take_add_one, List.all_append, List.getD_eq_getElem?_getD, List.getElem?_eq_getElem h]
  simp
set_option maxRecDepth 20000 in
set_option maxHeartbeats 8000000 in
theorem rDir_c (l : List Bn) (n : Int) (hl : l.length ≤ 1000000) (hx : ∀ x ∈ l, okB x) : Con Try.prog 36 [.o (.ro 10 l.length (bnC l).cell), .o (.c (.int .i64 n))] [] 0 0 U (fun _ => .t [.inr (diA (dirE l n).1), .inl (.c (.int .i64 (dirE l n).2))]) G0 := by
  refine con_of Try.func36 rfl (by kernel_rfl) Try.ntmps36 rfl (by first | exact Nat.zero_le _ | decide) (fun _ => ⟨rfl, rfl⟩) fun w S ν => ?_
  have hti : (nds l).length = l.length := List.length_map ..
  have hkd := rKids_c l n hl hx
  (repeat' (first|(with_reducible refine AllP.go ?_;first|exact og|((try simp only [OS]);repeat' (first|exact oj|refine And.intro ?_ ?_)))|(refine rg ?_ ?_)|(with_reducible first|refine stp ?_|refine tD rfl ?_)|refine ct ?_|refine cf ?_|((first|refine gs ?_ ?_|refine gl ?_ ?_|refine gc ?_ ?_)<;>intro h<;>(try simp only [NS] at h)<;>(try exact xf)<;>(try refine rn ?_ ?_))))
  refine TE.callW (hkd) rfl (by rfl) (by rfl) rfl (by rfl) (by (first|exact trivial|((with_reducible refine AllP.go ?_);dsimp only [AllP, appP];repeat' (first|refine And.intro ?_ ?_|exact zz|assumption)))) ?_
  intro _ _
  clear hkd
  by_cases h1 : (kidsE l n).2 ≠ 0
  · rw [show dirE l n = (di0, (kidsE l n).2) from if_pos h1]
    ((refine rn ?_ ?_);(repeat' (first|(with_reducible refine AllP.go ?_;first|exact og|((try simp only [OS]);repeat' (first|exact oj|refine And.intro ?_ ?_)))|(refine rg ?_ ?_)|(with_reducible first|refine stp ?_|refine tD rfl ?_)|refine ct ?_|refine cf ?_|((first|refine gs ?_ ?_|refine gl ?_ ?_|refine gc ?_ ?_)<;>intro h<;>(try simp only [NS] at h)<;>(try exact xf)<;>(try refine rn ?_ ?_)))))
    (refine TE.ret' io rfl tysOk (()) ?_ rfl (by rfl) ?_;all_goals (try (first|exact trivial|((with_reducible refine AllP.go ?_);dsimp only [AllP, appP];repeat' (first|refine And.intro ?_ ?_|exact zz)))))
  rw [show dirE l n = (dirI l n.toNat, 0) from if_neg h1]
  have h1 := Decidable.not_not.1 h1
  have hkn : knownE l n = 0 := Decidable.byContradiction fun k => by
    unfold kidsE at h1
    rw [if_pos k] at h1
    exact k h1
  have hB := known_bok hkn
  obtain ⟨k, rfl, hk⟩ := known_at hkn
  have hkE : kidsE l (k : Int) = (kidsL l k, 0) := by
    unfold kidsE at h1 ⊢
    rw [if_neg (fun h => h hkn)] at h1 ⊢
    split at h1
    · exact absurd h1 (by decide)
    · rename_i c; rw [if_neg c]
  rw [Int.toNat_natCast, hkE]
  clear h1 hkn hkE
  obtain ⟨x1, x2, x3⟩ := hx _ (getD_mem (d := b0) hk)
  have x4 := x1.1
  ((refine rn ?_ ?_);(repeat' (first|(with_reducible refine AllP.go ?_;first|exact og|((try simp only [OS]);repeat' (first|exact oj|refine And.intro ?_ ?_)))|(refine rg ?_ ?_)|(with_reducible first|refine stp ?_|refine tD rfl ?_)|refine ct ?_|refine cf ?_|((first|refine gs ?_ ?_|refine gl ?_ ?_|refine gc ?_ ?_)<;>intro h<;>(try simp only [NS] at h)<;>(try exact xf)<;>(try refine rn ?_ ?_)))))
  (refine TE.only [6, 4, 1, 0] (by rfl) ?_)
  (refine TE.mid (ι := Unit) (fun _ => True) (fun _ => ⟨[(8, .o (.ptr 1 0)), (6, .o (.ro 1 (kidsL l k).length (skC (kidsL l k)).cell)), (4, .o (.ptr 0 0)), (0, .o (.ro 10 l.length (bnC l).cell)), (1, .o (.c (.int .i64 k)))], [.box 1 53 [.ro 2 (l.getD k b0).nd.attrs.length (atC (l.getD k b0).nd.attrs).cell, .c (.bool (l.getD k b0).opq), .ro 1 (l.getD k b0).red.length (paC (l.getD k b0).red).cell, .c (.slice none 0 0)], .box 0 53 [.c (.slice none 0 0), .c (.bool false), .c (.slice none 0 0), .c (.slice none 0 0)]], 2⟩) ?_ fun _ _ => ?_)
  · (refine TE.drawK (fun _ => false) (by rfl) (by rfl) (by rfl) ?_)
    (repeat' (first|(with_reducible refine AllP.go ?_;first|exact og|((try simp only [OS]);repeat' (first|exact oj|refine And.intro ?_ ?_)))|(with_reducible first|exact PanicOk.body|exact rd.panic|refine PanicOk.then' ?_|refine PanicOk.block ?_|refine PanicOk.jump ?_)|(refine TL.done (by rfl) ?_)|(refine TL.auto tysOk rfl ?_ (by rfl) ?_ ?_)|(refine sm ?_ ?_)|(refine sp ?_ ?_)|(refine TL.one (by rfl) ?_)|(refine TL.two (by rfl) ?_ ?_)|(refine TL.three (by rfl) ?_ ?_ ?_)|(refine TL.four (by rfl) ?_ ?_ ?_ ?_)))
    all_goals (repeat (with_reducible first|refine stp ?_|refine tD rfl ?_))
    all_goals try (refine TE.freezeN 2 (by rfl) (by rfl) ?_)
    all_goals try (refine TE.freezeN 3 (by rfl) (by rfl) ?_)
    all_goals try (refine TE.freezeN 4 (by rfl) (by rfl) ?_)
    all_goals try (refine TE.freezeN 5 (by rfl) (by rfl) ?_)
    all_goals (refine TE.at () trivial ?_;(refine Ent.of rfl rfl (by rfl) ?_;(try (first|exact trivial|((with_reducible refine AllP.go ?_);dsimp only [AllP, appP];repeat' (first|refine And.intro ?_ ?_|exact zz))))))
    all_goals first | exact litnil_app 2 (atC (l.getD k b0).nd.attrs) | exact litnil_app 1 (paC (l.getD k b0).red)
  have hkl : (kidsL l k).length ≤ l.length := idxs_len _ _
  (repeat' (first|(with_reducible refine AllP.go ?_;first|exact og|((try simp only [OS]);repeat' (first|exact oj|refine And.intro ?_ ?_)))|(refine rg ?_ ?_)|(with_reducible first|refine stp ?_|refine tD rfl ?_)|refine ct ?_|refine cf ?_|((first|refine gs ?_ ?_|refine gl ?_ ?_|refine gc ?_ ?_)<;>intro h<;>(try simp only [NS] at h)<;>(try exact xf)<;>(try refine rn ?_ ?_))))
  refine TE.nilBox 1 3 72 12 (by rfl) (by rfl) ?_
  (refine TE.only [9, 8, 6, 4, 1, 0] (by rfl) ?_)
  refine TE.loopG (fun q : Nat => q ≤ (kidsL l k).length) (fun q => [(9, .o (.c (.int .i64 q)))]) [1, 2] (fun q => [.box 1 53 [.ro 2 (l.getD k b0).nd.attrs.length (atC (l.getD k b0).nd.attrs).cell, .c (.bool (l.getD k b0).opq), .ro 1 (l.getD k b0).red.length (paC (l.getD k b0).red).cell, .own 2], .own 2 72 12 (enC (((kidsL l k).take q).map (entI l k)))]) (fun q => (kidsL l k).length - q) 0 (by rfl) (Nat.zero_le _) ?_ ?_
  · (refine Ent.of rfl rfl (by rfl) ?_;(try (first|exact trivial|((with_reducible refine AllP.go ?_);dsimp only [AllP, appP];repeat' (first|refine And.intro ?_ ?_|exact zz)))))
    all_goals exact LeDC.nil rfl rfl
  intro q hq
  by_cases hlt : q < (kidsL l k).length
  · obtain ⟨i, hi⟩ : ∃ i, i = (kidsL l k).getD q 0 := ⟨_, rfl⟩
    obtain ⟨i1, i2⟩ := kid_iff.1 (show i ∈ kidsL l k by rw [hi]; exact getD_mem hlt)
    have hnl : (namesL l i).length ≤ l.length := idxs_len _ _
    have hpc := node_c (l.getD i b0) (hx _ (getD_mem (d := b0) i1)).1.1
    have hnc := rNames_c l i hl hx
    rw [namesE_ok hB i1] at hnc
    have hcn : (enC (((kidsL l k).take q).map (entI l k))).n = q := by show (((kidsL l k).take q).map (entI l k)).length = q; rw [List.length_map, List.length_take]; omega
    have htk : ((kidsL l k).take q).length = q := by rw [List.length_take]; omega
    have hsn : ((kidsL l k).take (q + 1)).map (entI l k) = ((kidsL l k).take q).map (entI l k) ++ [entI l k i] := by rw [map_take (d := 0) hlt, ← hi]
    (repeat' (first|(with_reducible refine AllP.go ?_;first|exact og|((try simp only [OS]);repeat' (first|exact oj|refine And.intro ?_ ?_)))|(refine rg ?_ ?_)|(with_reducible first|refine stp ?_|refine tD rfl ?_)|refine ct ?_|refine cf ?_|((first|refine gs ?_ ?_|refine gl ?_ ?_|refine gc ?_ ?_)<;>intro h<;>(try simp only [NS] at h)<;>(try exact xf)<;>(try refine rn ?_ ?_))))
    rw [show (kidsL l k).getD ((q : Nat) : Int).toNat 0 = i from hi.symm]
    refine TE.callW (hpc) rfl (by rfl) (by rfl) rfl (by rfl) (by (first|exact trivial|((with_reducible refine AllP.go ?_);dsimp only [AllP, appP];repeat' (first|refine And.intro ?_ ?_|exact zz|assumption)))) ?_
    intro _ _
    have hen : (entI l k i).node = entN (l.getD i b0).nd := rfl
    clear hpc
    by_cases hkd : (l.getD i b0).nd.kind = 1
    case' pos => rw [show entN (l.getD i b0).nd = { n0 with kind := 1 } from if_pos hkd] at hen
    case' neg => rw [show entN (l.getD i b0).nd = { (l.getD i b0).nd with depth := 0, name := eS } from if_neg hkd] at hen
    all_goals ((refine rn ?_ ?_);(repeat' (first|(with_reducible refine AllP.go ?_;first|exact og|((try simp only [OS]);repeat' (first|exact oj|refine And.intro ?_ ?_)))|(refine rg ?_ ?_)|(with_reducible first|refine stp ?_|refine tD rfl ?_)|refine ct ?_|refine cf ?_|((first|refine gs ?_ ?_|refine gl ?_ ?_|refine gc ?_ ?_)<;>intro h<;>(try simp only [NS] at h)<;>(try exact xf)<;>(try refine rn ?_ ?_)))))
    all_goals rw [show (kidsL l k).getD ((q : Nat) : Int).toNat 0 = i from hi.symm]
    all_goals refine TE.callW (hnc) rfl (by rfl) (by rfl) rfl (by rfl) (by (first|exact trivial|((with_reducible refine AllP.go ?_);dsimp only [AllP, appP];repeat' (first|refine And.intro ?_ ?_|exact zz|assumption)))) ?_
    all_goals intro _ _
    all_goals clear hnc
    all_goals ((refine rn ?_ ?_);(repeat' (first|(with_reducible refine AllP.go ?_;first|exact og|((try simp only [OS]);repeat' (first|exact oj|refine And.intro ?_ ?_)))|(refine rg ?_ ?_)|(with_reducible first|refine stp ?_|refine tD rfl ?_)|refine ct ?_|refine cf ?_|((first|refine gs ?_ ?_|refine gl ?_ ?_|refine gc ?_ ?_)<;>intro h<;>(try simp only [NS] at h)<;>(try exact xf)<;>(try refine rn ?_ ?_)))))
    all_goals (refine TE.only [14, 13, 11, 10, 9, 8, 6, 4, 1, 0] (by rfl) ?_)
    all_goals (
      refine TE.loopG (fun j : Nat => j ≤ (namesL l i).length) (fun j => [(14, .o (.c (.int .i64 j))), (13, .o (.sb (fstP l k i j)))]) [] (fun _ => []) (fun j => (namesL l i).length - j) 0 (by rfl) (Nat.zero_le _) ?_ ?_
      · (refine Ent.of rfl rfl (by rfl) ?_;(try (first|exact trivial|((with_reducible refine AllP.go ?_);dsimp only [AllP, appP];repeat' (first|refine And.intro ?_ ?_|exact zz)))))
      intro j hj
      by_cases hjl : j < (namesL l i).length
      · have hml := names_lt (getD_mem (l := namesL l i) (d := 0) hjl)
        have hac := above_c l ((namesL l i).getD j 0) hml hl
        have hfs := fstP_succ (n := (k : Int)) hjl
        (repeat' (first|(with_reducible refine AllP.go ?_;first|exact og|((try simp only [OS]);repeat' (first|exact oj|refine And.intro ?_ ?_)))|(refine rg ?_ ?_)|(with_reducible first|refine stp ?_|refine tD rfl ?_)|refine ct ?_|refine cf ?_|((first|refine gs ?_ ?_|refine gl ?_ ?_|refine gc ?_ ?_)<;>intro h<;>(try simp only [NS] at h)<;>(try exact xf)<;>(try refine rn ?_ ?_))))
        refine TE.callW (hac) rfl (by rfl) (by rfl) rfl (by rfl) (by (first|exact trivial|((with_reducible refine AllP.go ?_);dsimp only [AllP, appP];repeat' (first|refine And.intro ?_ ?_|exact zz|assumption)))) ?_
        intro _ _
        ((refine rn ?_ ?_);repeat' (first|(with_reducible refine AllP.go ?_;first|exact og|((try simp only [OS]);repeat' (first|exact oj|refine And.intro ?_ ?_)))|(with_reducible first|refine stp ?_|refine tD rfl ?_)|refine ct ?_|refine cf ?_|((first|refine gs ?_ ?_|refine gl ?_ ?_|refine gc ?_ ?_)<;>intro h<;>(try simp only [NS] at h)<;>(try exact xf)<;>(try refine rn ?_ ?_))))
        refine TE.midG (ι := Unit) (fun _ => True) (fun _ => [(13, .o (.sb (fstP l k i (j + 1))))]) [] (fun _ => []) (by rfl) ?_ fun _ _ => ?_
        · clear hac
          ((refine dn ?_);repeat' (first|(with_reducible refine AllP.go ?_;first|exact og|((try simp only [OS]);repeat' (first|exact oj|refine And.intro ?_ ?_)))|(with_reducible first|exact PanicOk.body|exact rd.panic|refine PanicOk.then' ?_|refine PanicOk.block ?_|refine PanicOk.jump ?_)|(refine TL.done (by rfl) ?_)|(refine TL.auto tysOk rfl ?_ (by rfl) ?_ ?_)|((refine TL.one (by rfl) ?_);first|(refine sm ?_ ?_)|(refine sp ?_ ?_))|(refine sm ?_ ?_)|((first|refine gl ?_ ?_|refine gc ?_ ?_)<;>intro h<;>(try simp only [NS] at h)<;>(try exact xf))))
          all_goals (repeat (with_reducible first|refine stp ?_|refine tD rfl ?_))
          all_goals (refine TE.at () trivial ?_;(refine Ent.of rfl rfl (by rfl) ?_;(try (first|exact trivial|((with_reducible refine AllP.go ?_);dsimp only [AllP, appP];repeat' (first|refine And.intro ?_ ?_|exact zz))))))
          all_goals clear hsn hen hx x1 x2 x3 x4 hkd htk hcn
          all_goals first
            | (refine congrArg Value.bool ?_; rw [hfs]; simp_all; done)
            | skip
          · rename_i g1 g2
            rw [Bool.eq_iff_iff, decide_eq_true_eq]
            (simp only [Int.toNat_natCast])
            rw [← hi, hfs, g1, h]
            simp
        (repeat (with_reducible first|refine stp ?_|refine tD rfl ?_))
        (repeat' (first|(with_reducible refine AllP.go ?_;first|exact og|((try simp only [OS]);repeat' (first|exact oj|refine And.intro ?_ ?_)))|(refine rg ?_ ?_)|(with_reducible first|refine stp ?_|refine tD rfl ?_)|refine ct ?_|refine cf ?_|((first|refine gs ?_ ?_|refine gl ?_ ?_|refine gc ?_ ?_)<;>intro h<;>(try simp only [NS] at h)<;>(try exact xf)<;>(try refine rn ?_ ?_))))
        refine TE.again' (j + 1) (by omega) (by omega) ?_
        (refine Ent.of rfl rfl (by rfl) ?_;(try (first|exact trivial|((with_reducible refine AllP.go ?_);dsimp only [AllP, appP];repeat' (first|refine And.intro ?_ ?_|exact zz)))))
      obtain rfl : j = (namesL l i).length := by omega
      rw [fstP_all]
      (repeat' (first|(with_reducible refine AllP.go ?_;first|exact og|((try simp only [OS]);repeat' (first|exact oj|refine And.intro ?_ ?_)))|(refine rg ?_ ?_)|(with_reducible first|refine stp ?_|refine tD rfl ?_)|refine ct ?_|refine cf ?_|((first|refine gs ?_ ?_|refine gl ?_ ?_|refine gc ?_ ?_)<;>intro h<;>(try simp only [NS] at h)<;>(try exact xf)<;>(try refine rn ?_ ?_))))
      refine TE.midG (ι := Unit) (fun _ => True) (fun _ => []) [1, 2] (fun _ => [.box 1 53 [.ro 2 (l.getD k b0).nd.attrs.length (atC (l.getD k b0).nd.attrs).cell, .c (.bool (l.getD k b0).opq), .ro 1 (l.getD k b0).red.length (paC (l.getD k b0).red).cell, .own 2], .own 2 72 12 (enC (((kidsL l k).take (q + 1)).map (entI l k)))]) (by rfl) ?_ fun _ _ => ?_
      · (refine TE.drawK (fun _ => false) (by rfl) (by rfl) (by rfl) ?_)
        (repeat' (first|(with_reducible refine AllP.go ?_;first|exact og|((try simp only [OS]);repeat' (first|exact oj|refine And.intro ?_ ?_)))|(with_reducible first|exact PanicOk.body|exact rd.panic|refine PanicOk.then' ?_|refine PanicOk.block ?_|refine PanicOk.jump ?_)|(refine TL.done (by rfl) ?_)|(refine TL.auto tysOk rfl ?_ (by rfl) ?_ ?_)|(refine sm ?_ ?_)|(refine sp ?_ ?_)|(refine TL.one (by rfl) ?_)|(refine TL.two (by rfl) ?_ ?_)|(refine TL.three (by rfl) ?_ ?_ ?_)|(refine TL.four (by rfl) ?_ ?_ ?_ ?_)))
        all_goals ((refine StepL.law rfl rfl rfl (fun _ h => nomatch h) rfl (m_buildN tysOk rfl (by rfl) (by rfl) (by rfl) (by rfl)) (by rfl) ?_;rintro _ rfl);(repeat' (first|(with_reducible refine AllP.go ?_;first|exact og|((try simp only [OS]);repeat' (first|exact oj|refine And.intro ?_ ?_)))|(with_reducible first|exact PanicOk.body|exact rd.panic|refine PanicOk.then' ?_|refine PanicOk.block ?_|refine PanicOk.jump ?_)|(refine TL.done (by rfl) ?_)|(refine TL.auto tysOk rfl ?_ (by rfl) ?_ ?_)|(refine sm ?_ ?_)|(refine sp ?_ ?_)|(refine TL.one (by rfl) ?_)|(refine TL.two (by rfl) ?_ ?_)|(refine TL.three (by rfl) ?_ ?_ ?_)|(refine TL.four (by rfl) ?_ ?_ ?_ ?_))))
        all_goals (repeat (with_reducible first|refine stp ?_|refine tD rfl ?_))
        all_goals (refine TE.at () trivial ?_;(refine Ent.of rfl rfl (by rfl) ?_;(try (first|exact trivial|((with_reducible refine AllP.go ?_);dsimp only [AllP, appP];repeat' (first|refine And.intro ?_ ?_|exact zz))))))
        all_goals rw [show (kidsL l k).getD ((q : Nat) : Int).toNat 0 = i from hi.symm]
        all_goals refine listC_snocX _ hsn (ent_row ?_ ?_ ?_ ?_ ?_ ?_ ?_ ?_ ?_ ?_ ?_ ?_)
        all_goals first | exact LeX.of_eq rfl | (refine LeX.of_eq ?_; simp only [enR, hen]; rfl) | (simp only [enR, hen]; exact LeX.nil rfl) | (refine LeX.of_eq ?_; show DC.c (.bool (decide ((1 : Int) = 5))) = DC.c (.bool (decide ((l.getD i b0).nd.kind = 5))); rw [hkd])
      (repeat (with_reducible first|refine stp ?_|refine tD rfl ?_))
      (repeat' (first|(with_reducible refine AllP.go ?_;first|exact og|((try simp only [OS]);repeat' (first|exact oj|refine And.intro ?_ ?_)))|(refine rg ?_ ?_)|(with_reducible first|refine stp ?_|refine tD rfl ?_)|refine ct ?_|refine cf ?_|((first|refine gs ?_ ?_|refine gl ?_ ?_|refine gc ?_ ?_)<;>intro h<;>(try simp only [NS] at h)<;>(try exact xf)<;>(try refine rn ?_ ?_))))
      refine TE.again' (q + 1) (by omega) (by omega) ?_
      (refine Ent.of rfl rfl (by rfl) ?_;(try (first|exact trivial|((with_reducible refine AllP.go ?_);dsimp only [AllP, appP];repeat' (first|refine And.intro ?_ ?_|exact zz))))))
  · obtain rfl : q = (kidsL l k).length := by omega
    (repeat' (first|(with_reducible refine AllP.go ?_;first|exact og|((try simp only [OS]);repeat' (first|exact oj|refine And.intro ?_ ?_)))|(refine rg ?_ ?_)|(with_reducible first|refine stp ?_|refine tD rfl ?_)|refine ct ?_|refine cf ?_|((first|refine gs ?_ ?_|refine gl ?_ ?_|refine gc ?_ ?_)<;>intro h<;>(try simp only [NS] at h)<;>(try exact xf)<;>(try refine rn ?_ ?_))))
    (refine TE.freezeN 2 (by rfl) (by rfl) ?_)
    (refine TE.ret' io rfl tysOk (()) ?_ rfl (by rfl) ?_;all_goals (try (first|exact trivial|((with_reducible refine AllP.go ?_);dsimp only [AllP, appP];repeat' (first|refine And.intro ?_ ?_|exact zz)))))
    rw [List.take_length]
    exact LeD.refl
end Go.Proofs.Ythhpofehcnjmmaa.Am
set_option linter.unusedSimpArgs false
set_option linter.unusedVariables false
namespace Go.Proofs.Ythhpofehcnjmmaa.Am
open Go.RowKit Lw
open Br
abbrev enB (x : En) : List A1 := [.c (.string x.name), .c (.int .i64 x.node.depth), .c (.string x.node.name), .c (.int .i64 x.node.kind), .ro 2 x.node.attrs.length (atC x.node.attrs).cell, .c (.string x.node.data), .c (.int .i64 x.node.major), .c (.int .i64 x.node.minor), .c (.int .i64 x.node.cls), .c (.bool x.white), .c (.bool x.first), .c (.int .i64 x.names)]
theorem en_iff {x y : En} : x = y ↔ x.name = y.name ∧ x.white = y.white ∧ x.first = y.first ∧ x.names = y.names ∧ x.node.depth = y.node.depth ∧ x.node.name = y.node.name ∧ x.node.kind = y.node.kind ∧ x.node.attrs = y.node.attrs ∧ x.node.data = y.node.data ∧ x.node.major = y.node.major ∧ x.node.minor = y.node.minor ∧ x.node.cls = y.node.cls := by
  obtain ⟨a1, ⟨b1, b2, b3, b4, b5, b6, b7, b8⟩, a2, a3, a4⟩ := x
  obtain ⟨c1, ⟨d1, d2, d3, d4, d5, d6, d7, d8⟩, c2, c3, c4⟩ := y
  simp only [En.mk.injEq, Nd.mk.injEq]
  constructor
  · rintro ⟨rfl, ⟨rfl, rfl, rfl, rfl, rfl, rfl, rfl, rfl⟩, rfl, rfl, rfl⟩; simp
  · rintro ⟨rfl, rfl, rfl, rfl, rfl, rfl, rfl, rfl, rfl, rfl, rfl, rfl⟩; simp
theorem list_ext {α : Type} {d : α} {a b : List α} (h : a.length = b.length) (hk : ∀ k, k < a.length → a.getD k d = b.getD k d) : a = b := by
  refine List.ext_getElem h fun k h1 h2 => ?_
  have := hk k h1
  rwa [List.getD_eq_getElem?_getD, List.getElem?_eq_getElem h1, List.getD_eq_getElem?_getD, List.getElem?_eq_getElem h2] at this
set_option maxRecDepth 400000 in
set_option maxHeartbeats 8000000 in
theorem sameEn_c (x y : En) (hx : x.node.attrs.length ≤ 1000000) (hy : y.node.attrs.length ≤ 1000000) : Con Try.prog 97 [.g (enB x), .g (enB y)] [] 0 0 U (fun _ => .o (.sb (decide (x = y)))) G0 := by
  refine con_of Try.func97 rfl (by kernel_rfl) Try.ntmps97 rfl (by first | exact Nat.zero_le _ | decide) (fun _ => ⟨rfl, rfl⟩) fun w S ν => ?_
  have c := eqAttrs_c x.node.attrs y.node.attrs hx hy
  have he := en_iff (x := x) (y := y)
  (repeat' (first|(with_reducible refine AllP.go ?_;first|exact og|((try simp only [OS]);repeat' (first|exact oj|refine And.intro ?_ ?_)))|(refine rg ?_ ?_)|(with_reducible first|refine stp ?_|refine tD rfl ?_)|refine ct ?_|refine cf ?_|((first|refine gs ?_ ?_|refine gl ?_ ?_|refine gc ?_ ?_)<;>intro h<;>(try simp only [NS] at h)<;>(try exact xf)<;>(try refine rn ?_ ?_))))
  (refine TE.mid (ι := Unit) (fun _ => True) (fun _ => ⟨[(2, .o (.ptr 0 0)), (3, .o (.ptr 1 0)), (5, .o (.ptr 2 0)), (6, .o (.ptr 3 0))], [.box 0 72 (enB x), .box 1 72 (enB y), .box 2 70 (ndA x.node), .box 3 70 (ndA y.node)], 4⟩) ?_ fun _ _ => ?_)
  · (refine TE.drawK (fun _ => false) (by rfl) (by rfl) (by rfl) ?_)
    (repeat' (first|(with_reducible refine AllP.go ?_;first|exact og|((try simp only [OS]);repeat' (first|exact oj|refine And.intro ?_ ?_)))|(with_reducible first|exact PanicOk.body|exact rd.panic|refine PanicOk.then' ?_|refine PanicOk.block ?_|refine PanicOk.jump ?_)|(refine TL.done (by rfl) ?_)|(refine TL.auto tysOk rfl ?_ (by rfl) ?_ ?_)|(refine sm ?_ ?_)|(refine sp ?_ ?_)|(refine TL.one (by rfl) ?_)|(refine TL.two (by rfl) ?_ ?_)|(refine TL.three (by rfl) ?_ ?_ ?_)|(refine TL.four (by rfl) ?_ ?_ ?_ ?_)))
    all_goals (repeat (with_reducible first|refine stp ?_|refine tD rfl ?_))
    all_goals (refine TE.at () trivial ?_;(refine Ent.of rfl rfl (by rfl) ?_;(try (first|exact trivial|((with_reducible refine AllP.go ?_);dsimp only [AllP, appP];repeat' (first|refine And.intro ?_ ?_|exact zz))))))
  (repeat (with_reducible first|refine stp ?_|refine tD rfl ?_))
  (repeat' (first|(with_reducible refine AllP.go ?_;first|exact og|((try simp only [OS]);repeat' (first|exact oj|refine And.intro ?_ ?_)))|(refine rg ?_ ?_)|(with_reducible first|refine stp ?_|refine tD rfl ?_)|refine ct ?_|refine cf ?_|((first|refine gs ?_ ?_|refine gl ?_ ?_|refine gc ?_ ?_)<;>intro h<;>(try simp only [NS] at h)<;>(try exact xf)<;>(try refine rn ?_ ?_))))
  · refine TE.callW (c) rfl (by rfl) (by rfl) rfl (by rfl) (by (first|exact trivial|((with_reducible refine AllP.go ?_);dsimp only [AllP, appP];repeat' (first|refine And.intro ?_ ?_|exact zz|assumption)))) ?_
    intro _ _
    clear c hx hy
    ((refine rn ?_ ?_);(repeat' (first|(with_reducible refine AllP.go ?_;first|exact og|((try simp only [OS]);repeat' (first|exact oj|refine And.intro ?_ ?_)))|(refine rg ?_ ?_)|(with_reducible first|refine stp ?_|refine tD rfl ?_)|refine ct ?_|refine cf ?_|((first|refine gs ?_ ?_|refine gl ?_ ?_|refine gc ?_ ?_)<;>intro h<;>(try simp only [NS] at h)<;>(try exact xf)<;>(try refine rn ?_ ?_)))))
    all_goals (refine TE.ret' io rfl tysOk (()) ?_ rfl (by rfl) ?_;all_goals (try (first|exact trivial|((with_reducible refine AllP.go ?_);dsimp only [AllP, appP];repeat' (first|refine And.intro ?_ ?_|exact zz)))))
    all_goals first
      | (rw [decide_eq_decide, he]; simp_all; done)
      | (refine congrArg Value.bool (Eq.symm ?_); rw [decide_eq_false_iff_not, he]; intro k; simp_all; done)
  all_goals clear c hx hy
  all_goals (refine TE.ret' io rfl tysOk (()) ?_ rfl (by rfl) ?_;all_goals (try (first|exact trivial|((with_reducible refine AllP.go ?_);dsimp only [AllP, appP];repeat' (first|refine And.intro ?_ ?_|exact zz)))))
  all_goals (refine congrArg Value.bool (Eq.symm ?_); rw [decide_eq_false_iff_not, he]; intro k; simp_all; done)
set_option maxRecDepth 20000 in
set_option maxHeartbeats 8000000 in
theorem sameEns_c (a b : List En) (ha : a.length ≤ 1000000) (hb : b.length ≤ 1000000) (hxa : ∀ x ∈ a, x.node.attrs.length ≤ 1000000) (hxb : ∀ x ∈ b, x.node.attrs.length ≤ 1000000) : Con Try.prog 96 [.o (.ro 12 a.length (enC a).cell), .o (.ro 12 b.length (enC b).cell), .o (.c (.func (.func 97) #[] #[]))] [] 0 0 U (fun _ => .o (.sb (decide (a = b)))) G0 := by
  refine con_of Try.func96 rfl (by kernel_rfl) Try.ntmps96 rfl (by first | exact Nat.zero_le _ | decide) (fun _ => ⟨rfl, rfl⟩) fun w S ν => ?_
  by_cases hl : a.length = b.length
  case neg =>
    rw [show decide (a = b) = false from decide_eq_false fun e => hl (by rw [e])]
    (repeat' (first|(with_reducible refine AllP.go ?_;first|exact og|((try simp only [OS]);repeat' (first|exact oj|refine And.intro ?_ ?_)))|(refine rg ?_ ?_)|(with_reducible first|refine stp ?_|refine tD rfl ?_)|refine ct ?_|refine cf ?_|((first|refine gs ?_ ?_|refine gl ?_ ?_|refine gc ?_ ?_)<;>intro h<;>(try simp only [NS] at h)<;>(try exact xf)<;>(try refine rn ?_ ?_))))
    (refine TE.ret' io rfl tysOk (()) ?_ rfl (by rfl) ?_;all_goals (try (first|exact trivial|((with_reducible refine AllP.go ?_);dsimp only [AllP, appP];repeat' (first|refine And.intro ?_ ?_|exact zz)))))
  (repeat' (first|(with_reducible refine AllP.go ?_;first|exact og|((try simp only [OS]);repeat' (first|exact oj|refine And.intro ?_ ?_)))|(refine rg ?_ ?_)|(with_reducible first|refine stp ?_|refine tD rfl ?_)|refine ct ?_|refine cf ?_|((first|refine gs ?_ ?_|refine gl ?_ ?_|refine gc ?_ ?_)<;>intro h<;>(try simp only [NS] at h)<;>(try exact xf)<;>(try refine rn ?_ ?_))))
  refine TE.loopG (fun q : Nat => q ≤ a.length ∧ ∀ k, k < q → a.getD k e0 = b.getD k e0) (fun q => [(17, .o (.c (.int .i64 q)))]) [] (fun _ => []) (fun q => a.length - q) 0 (by rfl) ⟨Nat.zero_le _, fun k hk => absurd hk (Nat.not_lt_zero _)⟩ ?_ ?_
  · (refine Ent.of rfl rfl (by rfl) ?_;(try (first|exact trivial|((with_reducible refine AllP.go ?_);dsimp only [AllP, appP];repeat' (first|refine And.intro ?_ ?_|exact zz)))))
  rintro q ⟨h1, h2⟩
  by_cases hlt : q < a.length
  · have c := sameEn_c (a.getD q e0) (b.getD q e0) (hxa _ (getD_mem hlt)) (hxb _ (getD_mem (by omega)))
    (repeat' (first|(with_reducible refine AllP.go ?_;first|exact og|((try simp only [OS]);repeat' (first|exact oj|refine And.intro ?_ ?_)))|(refine rg ?_ ?_)|(with_reducible first|refine stp ?_|refine tD rfl ?_)|refine ct ?_|refine cf ?_|((first|refine gs ?_ ?_|refine gl ?_ ?_|refine gc ?_ ?_)<;>intro h<;>(try simp only [NS] at h)<;>(try exact xf)<;>(try refine rn ?_ ?_))))
    refine TE.callW (c) rfl (by rfl) (by rfl) rfl (by rfl) (by (first|exact trivial|((with_reducible refine AllP.go ?_);dsimp only [AllP, appP];repeat' (first|refine And.intro ?_ ?_|exact zz|assumption)))) ?_
    intro _ _
    by_cases he : a.getD q e0 = b.getD q e0
    · ((refine rn ?_ ?_);(repeat' (first|(with_reducible refine AllP.go ?_;first|exact og|((try simp only [OS]);repeat' (first|exact oj|refine And.intro ?_ ?_)))|(refine rg ?_ ?_)|(with_reducible first|refine stp ?_|refine tD rfl ?_)|refine ct ?_|refine cf ?_|((first|refine gs ?_ ?_|refine gl ?_ ?_|refine gc ?_ ?_)<;>intro h<;>(try simp only [NS] at h)<;>(try exact xf)<;>(try refine rn ?_ ?_)))))
      refine TE.again' (q + 1) ⟨by omega, fun k hk => ?_⟩ (by omega) ?_
      · rcases Nat.lt_or_ge k q with h4 | h4
        · exact h2 k h4
        · obtain rfl : k = q := by omega
          exact he
      · (refine Ent.of rfl rfl (by rfl) ?_;(try (first|exact trivial|((with_reducible refine AllP.go ?_);dsimp only [AllP, appP];repeat' (first|refine And.intro ?_ ?_|exact zz)))))
    · rw [show decide (a = b) = false from decide_eq_false fun e => he (by rw [e])]
      ((refine rn ?_ ?_);(repeat' (first|(with_reducible refine AllP.go ?_;first|exact og|((try simp only [OS]);repeat' (first|exact oj|refine And.intro ?_ ?_)))|(refine rg ?_ ?_)|(with_reducible first|refine stp ?_|refine tD rfl ?_)|refine ct ?_|refine cf ?_|((first|refine gs ?_ ?_|refine gl ?_ ?_|refine gc ?_ ?_)<;>intro h<;>(try simp only [NS] at h)<;>(try exact xf)<;>(try refine rn ?_ ?_)))))
      (refine TE.ret' io rfl tysOk (()) ?_ rfl (by rfl) ?_;all_goals (try (first|exact trivial|((with_reducible refine AllP.go ?_);dsimp only [AllP, appP];repeat' (first|refine And.intro ?_ ?_|exact zz)))))
  · obtain rfl : q = a.length := by omega
    rw [show decide (a = b) = true from decide_eq_true (list_ext (d := e0) hl h2)]
    (repeat' (first|(with_reducible refine AllP.go ?_;first|exact og|((try simp only [OS]);repeat' (first|exact oj|refine And.intro ?_ ?_)))|(refine rg ?_ ?_)|(with_reducible first|refine stp ?_|refine tD rfl ?_)|refine ct ?_|refine cf ?_|((first|refine gs ?_ ?_|refine gl ?_ ?_|refine gc ?_ ?_)<;>intro h<;>(try simp only [NS] at h)<;>(try exact xf)<;>(try refine rn ?_ ?_))))
    (refine TE.ret' io rfl tysOk (()) ?_ rfl (by rfl) ?_;all_goals (try (first|exact trivial|((with_reducible refine AllP.go ?_);dsimp only [AllP, appP];repeat' (first|refine And.intro ?_ ?_|exact zz)))))
set_option maxRecDepth 20000 in
set_option maxHeartbeats 8000000 in
theorem psame_c (a b : Di) (ha : okD a) (hb : okD b) : Con Try.prog 71 [.g (diA a), .g (diA b)] [] 0 0 U (fun _ => .o (.sb (decide (a = b)))) G0 := by
  refine con_of Try.func71 rfl (by kernel_rfl) Try.ntmps71 rfl (by first | exact Nat.zero_le _ | decide) (fun _ => ⟨rfl, rfl⟩) fun w S ν => ?_
  have c1 := eqAttrs_c a.attrs b.attrs ha.1.1 hb.1.1
  have c2 := equalS_c a.red b.red ha.2.1.1 hb.2.1.1
  have c3 := sameEns_c a.ents b.ents ha.2.2.1 hb.2.2.1 (fun x h => (ha.2.2.2 x h).2.1) (fun x h => (hb.2.2.2 x h).2.1)
  have he : a = b ↔ a.attrs = b.attrs ∧ a.opq = b.opq ∧ a.red = b.red ∧ a.ents = b.ents := by
    cases a; cases b; simp
  clear ha hb
  (repeat' (first|(with_reducible refine AllP.go ?_;first|exact og|((try simp only [OS]);repeat' (first|exact oj|refine And.intro ?_ ?_)))|(refine rg ?_ ?_)|(with_reducible first|refine stp ?_|refine tD rfl ?_)|refine ct ?_|refine cf ?_|((first|refine gs ?_ ?_|refine gl ?_ ?_|refine gc ?_ ?_)<;>intro h<;>(try simp only [NS] at h)<;>(try exact xf)<;>(try refine rn ?_ ?_))))
  refine TE.callW (c1) rfl (by rfl) (by rfl) rfl (by rfl) (by (first|exact trivial|((with_reducible refine AllP.go ?_);dsimp only [AllP, appP];repeat' (first|refine And.intro ?_ ?_|exact zz|assumption)))) ?_
  intro _ _
  ((refine rn ?_ ?_);(repeat' (first|(with_reducible refine AllP.go ?_;first|exact og|((try simp only [OS]);repeat' (first|exact oj|refine And.intro ?_ ?_)))|(refine rg ?_ ?_)|(with_reducible first|refine stp ?_|refine tD rfl ?_)|refine ct ?_|refine cf ?_|((first|refine gs ?_ ?_|refine gl ?_ ?_|refine gc ?_ ?_)<;>intro h<;>(try simp only [NS] at h)<;>(try exact xf)<;>(try refine rn ?_ ?_)))))
  · refine TE.callW (c2) rfl (by rfl) (by rfl) rfl (by rfl) (by (first|exact trivial|((with_reducible refine AllP.go ?_);dsimp only [AllP, appP];repeat' (first|refine And.intro ?_ ?_|exact zz|assumption)))) ?_
    intro _ _
    ((refine rn ?_ ?_);(repeat' (first|(with_reducible refine AllP.go ?_;first|exact og|((try simp only [OS]);repeat' (first|exact oj|refine And.intro ?_ ?_)))|(refine rg ?_ ?_)|(with_reducible first|refine stp ?_|refine tD rfl ?_)|refine ct ?_|refine cf ?_|((first|refine gs ?_ ?_|refine gl ?_ ?_|refine gc ?_ ?_)<;>intro h<;>(try simp only [NS] at h)<;>(try exact xf)<;>(try refine rn ?_ ?_)))))
    · refine TE.callW (c3) rfl (by rfl) (by rfl) rfl (by rfl) (by (first|exact trivial|((with_reducible refine AllP.go ?_);dsimp only [AllP, appP];repeat' (first|refine And.intro ?_ ?_|exact zz|assumption)))) ?_
      intro _ _
      clear c1 c2 c3
      ((refine rn ?_ ?_);(repeat' (first|(with_reducible refine AllP.go ?_;first|exact og|((try simp only [OS]);repeat' (first|exact oj|refine And.intro ?_ ?_)))|(refine rg ?_ ?_)|(with_reducible first|refine stp ?_|refine tD rfl ?_)|refine ct ?_|refine cf ?_|((first|refine gs ?_ ?_|refine gl ?_ ?_|refine gc ?_ ?_)<;>intro h<;>(try simp only [NS] at h)<;>(try exact xf)<;>(try refine rn ?_ ?_)))))
      (refine TE.ret' io rfl tysOk (()) ?_ rfl (by rfl) ?_;all_goals (try (first|exact trivial|((with_reducible refine AllP.go ?_);dsimp only [AllP, appP];repeat' (first|refine And.intro ?_ ?_|exact zz)))))
      rw [decide_eq_decide, he]; simp_all
    all_goals (refine TE.ret' io rfl tysOk (()) ?_ rfl (by rfl) ?_;all_goals (try (first|exact trivial|((with_reducible refine AllP.go ?_);dsimp only [AllP, appP];repeat' (first|refine And.intro ?_ ?_|exact zz)))))
    all_goals (refine congrArg Value.bool (Eq.symm ?_); rw [decide_eq_false_iff_not, he]; intro k; simp_all; done)
  all_goals (refine TE.ret' io rfl tysOk (()) ?_ rfl (by rfl) ?_;all_goals (try (first|exact trivial|((with_reducible refine AllP.go ?_);dsimp only [AllP, appP];repeat' (first|refine And.intro ?_ ?_|exact zz)))))
  all_goals (refine congrArg Value.bool (Eq.symm ?_); rw [decide_eq_false_iff_not, he]; intro k; simp_all; done)
end Go.Proofs.Ythhpofehcnjmmaa.Am
set_option linter.unusedSimpArgs false
set_option linter.unusedVariables false
namespace Go.Proofs.Ythhpofehcnjmmaa.Am
open Go.RowKit Lw
open Br
theorem dirE_ok2 {l : List Bn} (hB : Bok l) {n : Nat} (hn : n < l.length) (hk : (l.getD n b0).nd.kind = 1) : dirE l n = (dirI l n, 0) := by
  unfold dirE
  rw [kidsE_dir hB hn hk, if_neg (fun k => k rfl), Int.toNat_natCast]
theorem dirI_okD2 {l : List Bn} (hB : Bok l) (hx : ∀ x ∈ l, okB x) {n : Nat} (hn : n < l.length) : okD (dirI l n) := by
  have h1 := hx _ (getD_mem (d := b0) hn)
  have h2 := kids_24 hB (n := n)
  have hlen : (dirI l n).ents.length = (kidsL l n).length := List.length_map ..
  refine ⟨⟨h1.1.1, h1.1.2.1⟩, h1.2, by omega, fun x hxm => ?_⟩
  obtain ⟨j, hj, rfl⟩ := List.mem_map.1 hxm
  have hjl := (kid_iff.1 hj).1
  have h3 := hx _ (getD_mem (d := b0) hjl)
  refine ⟨h3.1.2.2, ?_⟩
  show okN (entN (l.getD j b0).nd)
  unfold entN
  split
  · exact ⟨by decide, by decide, by decide⟩
  · exact ⟨h3.1.1, h3.1.2.1, show eS.size ≤ 1000000000 by decide⟩
theorem dir_mem2 {l : List Bn} {i : Nat} (h : i < (dirsL l).length) : (dirsL l).getD i 0 < l.length ∧ (l.getD ((dirsL l).getD i 0) b0).nd.kind = 1 := by
  have := idxs_mem.1 (getD_mem (l := dirsL l) (d := 0) h)
  rw [decide_eq_true_eq] at this
  exact this
theorem mk_any {b : List Bn} {l : List Di} (hl : (dirsL b).length = l.length) : ((dirsL b).zip l).any (fun p => decide (dirI b p.1 ≠ p.2)) = true ↔ ∃ q, q < l.length ∧ dirI b ((dirsL b).getD q 0) ≠ l.getD q di0 := by
  rw [List.any_eq_true]
  constructor
  · rintro ⟨p, hp, h⟩
    obtain ⟨q, hq, rfl⟩ := List.getElem_of_mem hp
    rw [List.length_zip] at hq
    refine ⟨q, by omega, ?_⟩
    rw [List.getElem_zip, decide_eq_true_eq] at h
    rw [List.getD_eq_getElem?_getD, List.getElem?_eq_getElem (by omega), List.getD_eq_getElem?_getD, List.getElem?_eq_getElem (by omega)]
    exact h
  · rintro ⟨q, hq, h⟩
    rw [List.getD_eq_getElem?_getD, List.getElem?_eq_getElem (by omega), List.getD_eq_getElem?_getD, List.getElem?_eq_getElem hq] at h
    exact ⟨((dirsL b)[q]'(by omega), l[q]), List.mem_iff_getElem.2 ⟨q, by rw [List.length_zip]; omega, by rw [List.getElem_zip]⟩, decide_eq_true h⟩
theorem put_inv {l : List Di} (hl : l.length ≤ 1000000) (hd : ∀ d ∈ l, okD d) : PuI 1000000 (putI l).1 :=
  putF_inv _ rootB (l, []) ⟨⟨by decide, by decide, by decide⟩, by decide, fun s hs => nomatch hs⟩ ⟨hl, Nat.zero_le _, hd, fun b hb => nomatch hb⟩
set_option maxRecDepth 20000 in
set_option maxHeartbeats 8000000 in
theorem Make_c (l : List Di) (hl : l.length ≤ 1000) (hd : ∀ d ∈ l, okD d) : Con Try.prog 37 [.o (.ro 4 l.length (diC l).cell)] [] 0 0 U (fun _ => .t [.inl (.ro 10 (makeE l).1.length (bnC (makeE l).1).cell), .inl (.c (.int .i64 (makeE l).2))]) G0 := by
  refine con_of Try.func37 rfl (by kernel_rfl) Try.ntmps37 rfl (by first | exact Nat.zero_le _ | decide) (fun _ => ⟨rfl, rfl⟩) fun w S ν => ?_
  have hI := put_inv (l := l) (by omega) hd
  have hput := put_c (l.length + 1) rootB l [] (by omega) ⟨by show l.length ≤ 1000000; omega, Nat.zero_le _, hd, fun b hb => nomatch hb⟩ ⟨⟨by decide, by decide, by decide⟩, by decide, fun s hs => nomatch hs⟩ (by decide) (by decide)
  have hpe : putF (l.length + 1) rootB (l, []) = putI l := rfl
  unfold PutC at hput
  rw [hpe] at hput
  have hM : makeE l = if (putI l).2 ≠ 0 then ([], (putI l).2) else if (putI l).1.1 ≠ [] then ([], 6) else if (checkB (putI l).1.2).2 ≠ 0 then ([], (checkB (putI l).1.2).2) else if ((dirsL (putI l).1.2).zip l).any (fun p => decide (dirI (putI l).1.2 p.1 ≠ p.2)) = true then ([], 6) else ((putI l).1.2, 0) := rfl
  have hpd := put_dirs (ds := l)
  generalize putI l = P at *
  obtain ⟨⟨lft, b⟩, e⟩ := P
  dsimp only at hput hM hI hpd
  obtain ⟨I1, I2, I3, I4⟩ := hI
  dsimp only at I1 I2 I3 I4
  (repeat' (first|(with_reducible refine AllP.go ?_;first|exact og|((try simp only [OS]);repeat' (first|exact oj|refine And.intro ?_ ?_)))|(refine rg ?_ ?_)|(with_reducible first|refine stp ?_|refine tD rfl ?_)|refine ct ?_|refine cf ?_|((first|refine gs ?_ ?_|refine gl ?_ ?_|refine gc ?_ ?_)<;>intro h<;>(try simp only [NS] at h)<;>(try exact xf)<;>(try refine rn ?_ ?_))))
  refine TE.nilBox 0 0 50 10 (by rfl) (by rfl) ?_
  refine TE.callW (hput) rfl (by rfl) (by rfl) rfl (by rfl) ?_ ?_
  · refine AllP.go ?_
    dsimp only [AllP, appP]
    repeat' (first | with_reducible rfl | with_reducible exact LeD.refl | refine And.intro ?_ ?_ | rfl | exact LeD.refl)
    exact LeDC.nil rfl rfl
  intro _ _
  by_cases c1 : e ≠ 0
  · rw [if_pos c1] at hM
    rw [hM]
    ((refine rn ?_ ?_);(repeat' (first|(with_reducible refine AllP.go ?_;first|exact og|((try simp only [OS]);repeat' (first|exact oj|refine And.intro ?_ ?_)))|(refine rg ?_ ?_)|(with_reducible first|refine stp ?_|refine tD rfl ?_)|refine ct ?_|refine cf ?_|((first|refine gs ?_ ?_|refine gl ?_ ?_|refine gc ?_ ?_)<;>intro h<;>(try simp only [NS] at h)<;>(try exact xf)<;>(try refine rn ?_ ?_)))))
    (refine TE.ret' io rfl tysOk (()) ?_ rfl (by rfl) ?_;all_goals (try (first|exact trivial|((with_reducible refine AllP.go ?_);dsimp only [AllP, appP];repeat' (first|refine And.intro ?_ ?_|exact zz)))))
  rw [if_neg c1] at hM
  have c1 := Decidable.not_not.1 c1
  subst c1
  by_cases c2 : lft ≠ []
  · rw [if_pos c2] at hM
    rw [hM]
    have c2' : 0 < lft.length := List.length_pos_iff.2 c2
    ((refine rn ?_ ?_);(repeat' (first|(with_reducible refine AllP.go ?_;first|exact og|((try simp only [OS]);repeat' (first|exact oj|refine And.intro ?_ ?_)))|(refine rg ?_ ?_)|(with_reducible first|refine stp ?_|refine tD rfl ?_)|refine ct ?_|refine cf ?_|((first|refine gs ?_ ?_|refine gl ?_ ?_|refine gc ?_ ?_)<;>intro h<;>(try simp only [NS] at h)<;>(try exact xf)<;>(try refine rn ?_ ?_)))))
    (refine TE.ret' io rfl tysOk (()) ?_ rfl (by rfl) ?_;all_goals (try (first|exact trivial|((with_reducible refine AllP.go ?_);dsimp only [AllP, appP];repeat' (first|refine And.intro ?_ ?_|exact zz)))))
  rw [if_neg c2] at hM
  have c2 := Decidable.not_not.1 c2
  subst c2
  have hlen := hpd rfl rfl
  have hb : b.length ≤ 1000000 := by omega
  have cd := dirs_c b hb I4
  ((refine rn ?_ ?_);(repeat' (first|(with_reducible refine AllP.go ?_;first|exact og|((try simp only [OS]);repeat' (first|exact oj|refine And.intro ?_ ?_)))|(refine rg ?_ ?_)|(with_reducible first|refine stp ?_|refine tD rfl ?_)|refine ct ?_|refine cf ?_|((first|refine gs ?_ ?_|refine gl ?_ ?_|refine gc ?_ ?_)<;>intro h<;>(try simp only [NS] at h)<;>(try exact xf)<;>(try refine rn ?_ ?_)))))
  (refine TE.freezeN 4 (by rfl) (by rfl) ?_)
  refine TE.callW (cd) rfl (by rfl) (by rfl) rfl (by rfl) (by (first|exact trivial|((with_reducible refine AllP.go ?_);dsimp only [AllP, appP];repeat' (first|refine And.intro ?_ ?_|exact zz|assumption)))) ?_
  intro _ _
  by_cases c3 : (checkB b).2 ≠ 0
  · rw [if_pos c3] at hM
    rw [hM, show dirsE b = ([], (checkB b).2) from if_pos c3]
    ((refine rn ?_ ?_);(repeat' (first|(with_reducible refine AllP.go ?_;first|exact og|((try simp only [OS]);repeat' (first|exact oj|refine And.intro ?_ ?_)))|(refine rg ?_ ?_)|(with_reducible first|refine stp ?_|refine tD rfl ?_)|refine ct ?_|refine cf ?_|((first|refine gs ?_ ?_|refine gl ?_ ?_|refine gc ?_ ?_)<;>intro h<;>(try simp only [NS] at h)<;>(try exact xf)<;>(try refine rn ?_ ?_)))))
    (refine TE.ret' io rfl tysOk (()) ?_ rfl (by rfl) ?_;all_goals (try (first|exact trivial|((with_reducible refine AllP.go ?_);dsimp only [AllP, appP];repeat' (first|refine And.intro ?_ ?_|exact zz)))))
  rw [if_neg c3] at hM
  rw [show dirsE b = (dirsL b, 0) from if_neg c3]
  have hB : Bok b := Decidable.not_not.1 c3
  have hany := mk_any hlen
  ((refine rn ?_ ?_);(repeat' (first|(with_reducible refine AllP.go ?_;first|exact og|((try simp only [OS]);repeat' (first|exact oj|refine And.intro ?_ ?_)))|(refine rg ?_ ?_)|(with_reducible first|refine stp ?_|refine tD rfl ?_)|refine ct ?_|refine cf ?_|((first|refine gs ?_ ?_|refine gl ?_ ?_|refine gc ?_ ?_)<;>intro h<;>(try simp only [NS] at h)<;>(try exact xf)<;>(try refine rn ?_ ?_)))))
  (refine TE.only [35, 34, 33, 6, 5, 4, 0] (by rfl) ?_)
  refine TE.loopG (fun q : Nat => q ≤ l.length ∧ ∀ k, k < q → dirI b ((dirsL b).getD k 0) = l.getD k di0) (fun q => [(35, .o (.c (.int .i64 q)))]) [] (fun _ => []) (fun q => l.length - q) 0 (by rfl) ⟨Nat.zero_le _, fun k hk => absurd hk (Nat.not_lt_zero _)⟩ ?_ ?_
  · (refine Ent.of rfl rfl (by rfl) ?_;(try (first|exact trivial|((with_reducible refine AllP.go ?_);dsimp only [AllP, appP];repeat' (first|refine And.intro ?_ ?_|exact zz)))))
  rintro q ⟨h1, h2⟩
  by_cases hlt : q < l.length
  · obtain ⟨m1, m2⟩ := dir_mem2 (l := b) (i := q) (by omega)
    have d1 := Dir_c b ((dirsL b).getD q 0 : Nat) hb I4
    rw [dirE_ok2 hB m1 m2] at d1
    have d2 := psame_c (dirI b ((dirsL b).getD q 0)) (l.getD q di0) (dirI_okD2 hB I4 m1) (hd _ (getD_mem hlt))
    (repeat' (first|(with_reducible refine AllP.go ?_;first|exact og|((try simp only [OS]);repeat' (first|exact oj|refine And.intro ?_ ?_)))|(refine rg ?_ ?_)|(with_reducible first|refine stp ?_|refine tD rfl ?_)|refine ct ?_|refine cf ?_|((first|refine gs ?_ ?_|refine gl ?_ ?_|refine gc ?_ ?_)<;>intro h<;>(try simp only [NS] at h)<;>(try exact xf)<;>(try refine rn ?_ ?_))))
    refine TE.callW (d1) rfl (by rfl) (by rfl) rfl (by rfl) (by (first|exact trivial|((with_reducible refine AllP.go ?_);dsimp only [AllP, appP];repeat' (first|refine And.intro ?_ ?_|exact zz|assumption)))) ?_
    intro _ _
    ((refine rn ?_ ?_);(repeat' (first|(with_reducible refine AllP.go ?_;first|exact og|((try simp only [OS]);repeat' (first|exact oj|refine And.intro ?_ ?_)))|(refine rg ?_ ?_)|(with_reducible first|refine stp ?_|refine tD rfl ?_)|refine ct ?_|refine cf ?_|((first|refine gs ?_ ?_|refine gl ?_ ?_|refine gc ?_ ?_)<;>intro h<;>(try simp only [NS] at h)<;>(try exact xf)<;>(try refine rn ?_ ?_)))))
    (refine TE.only [35, 34, 33, 12, 10, 6, 5, 4, 0] (by rfl) ?_)
    ((refine dn ?_);repeat' (first|(with_reducible refine AllP.go ?_;first|exact og|((try simp only [OS]);repeat' (first|exact oj|refine And.intro ?_ ?_)))|(with_reducible first|exact PanicOk.body|exact rd.panic|refine PanicOk.then' ?_|refine PanicOk.block ?_|refine PanicOk.jump ?_)|(refine TL.done (by rfl) ?_)|(refine TL.auto tysOk rfl ?_ (by rfl) ?_ ?_)|((refine TL.one (by rfl) ?_);first|(refine sm ?_ ?_)|(refine sp ?_ ?_))|(refine sm ?_ ?_)|((first|refine gl ?_ ?_|refine gc ?_ ?_)<;>intro h<;>(try simp only [NS] at h)<;>(try exact xf))))
    (refine TL.one (by rfl) ?_)
    refine StepL.callW (d2) rfl rfl rfl rfl rfl (by rfl) (by (first|exact trivial|((with_reducible refine AllP.go ?_);dsimp only [AllP, appP];repeat' (first|refine And.intro ?_ ?_|exact zz|assumption)))) (by rfl) (by rfl) ?_
    intro _ _
    (repeat' (first|(with_reducible refine AllP.go ?_;first|exact og|((try simp only [OS]);repeat' (first|exact oj|refine And.intro ?_ ?_)))|(with_reducible first|exact PanicOk.body|exact rd.panic|refine PanicOk.then' ?_|refine PanicOk.block ?_|refine PanicOk.jump ?_)|(refine TL.done (by rfl) ?_)|(refine TL.auto tysOk rfl ?_ (by rfl) ?_ ?_)|(refine sm ?_ ?_)|(refine sp ?_ ?_)|(refine TL.one (by rfl) ?_)|(refine TL.two (by rfl) ?_ ?_)|(refine TL.three (by rfl) ?_ ?_ ?_)|(refine TL.four (by rfl) ?_ ?_ ?_ ?_)))
    by_cases he : dirI b ((dirsL b).getD q 0) = l.getD q di0
    · (repeat' (first|(with_reducible refine AllP.go ?_;first|exact og|((try simp only [OS]);repeat' (first|exact oj|refine And.intro ?_ ?_)))|(refine rg ?_ ?_)|(with_reducible first|refine stp ?_|refine tD rfl ?_)|refine ct ?_|refine cf ?_|((first|refine gs ?_ ?_|refine gl ?_ ?_|refine gc ?_ ?_)<;>intro h<;>(try simp only [NS] at h)<;>(try exact xf)<;>(try refine rn ?_ ?_))))
      refine TE.again' (q + 1) ⟨by omega, fun k hk => ?_⟩ (by omega) ?_
      · rcases Nat.lt_or_ge k q with h4 | h4
        · exact h2 k h4
        · obtain rfl : k = q := by omega
          exact he
      · (refine Ent.of rfl rfl (by rfl) ?_;(try (first|exact trivial|((with_reducible refine AllP.go ?_);dsimp only [AllP, appP];repeat' (first|refine And.intro ?_ ?_|exact zz)))))
    · rw [if_pos (hany.2 ⟨q, hlt, he⟩)] at hM
      rw [hM]
      (repeat' (first|(with_reducible refine AllP.go ?_;first|exact og|((try simp only [OS]);repeat' (first|exact oj|refine And.intro ?_ ?_)))|(refine rg ?_ ?_)|(with_reducible first|refine stp ?_|refine tD rfl ?_)|refine ct ?_|refine cf ?_|((first|refine gs ?_ ?_|refine gl ?_ ?_|refine gc ?_ ?_)<;>intro h<;>(try simp only [NS] at h)<;>(try exact xf)<;>(try refine rn ?_ ?_))))
      (refine TE.ret' io rfl tysOk (()) ?_ rfl (by rfl) ?_;all_goals (try (first|exact trivial|((with_reducible refine AllP.go ?_);dsimp only [AllP, appP];repeat' (first|refine And.intro ?_ ?_|exact zz)))))
  · obtain rfl : q = l.length := by omega
    rw [if_neg (fun k => by
      obtain ⟨j, hj, hne⟩ := hany.1 k
      exact hne (h2 j hj))] at hM
    rw [hM]
    (repeat' (first|(with_reducible refine AllP.go ?_;first|exact og|((try simp only [OS]);repeat' (first|exact oj|refine And.intro ?_ ?_)))|(refine rg ?_ ?_)|(with_reducible first|refine stp ?_|refine tD rfl ?_)|refine ct ?_|refine cf ?_|((first|refine gs ?_ ?_|refine gl ?_ ?_|refine gc ?_ ?_)<;>intro h<;>(try simp only [NS] at h)<;>(try exact xf)<;>(try refine rn ?_ ?_))))
    (refine TE.ret' io rfl tysOk (()) ?_ rfl (by rfl) ?_;all_goals (try (first|exact trivial|((with_reducible refine AllP.go ?_);dsimp only [AllP, appP];repeat' (first|refine And.intro ?_ ?_|exact zz)))))
end Go.Proofs.Ythhpofehcnjmmaa.Am
set_option linter.unusedSimpArgs false
set_option linter.unusedVariables false
namespace Go.Proofs.Ythhpofehcnjmmaa.Am
open Go.RowKit Lw
open Br
theorem en_iff2 {x y : En} : x = y ↔ x.name = y.name ∧ x.white = y.white ∧ x.first = y.first ∧ x.names = y.names ∧ [x.node] = [y.node] := by
  cases x; cases y
  simp only [En.mk.injEq, List.cons.injEq, and_true]
  constructor
  · rintro ⟨a, b, c, d, e⟩; exact ⟨a, c, d, e, b⟩
  · rintro ⟨a, c, d, e, b⟩; exact ⟨a, b, c, d, e⟩
theorem list_ext2 {α : Type} {d : α} {a b : List α} (h : a.length = b.length) (hk : ∀ k, k < a.length → a.getD k d = b.getD k d) : a = b := by
  refine List.ext_getElem h fun k h1 h2 => ?_
  have := hk k h1
  rwa [List.getD_eq_getElem?_getD, List.getElem?_eq_getElem h1, List.getD_eq_getElem?_getD, List.getElem?_eq_getElem h2] at this
abbrev enD (x : En) : List A1 := [.c (.string x.name), .c (.int .i64 x.node.depth), .c (.string x.node.name), .c (.int .i64 x.node.kind), .ro 2 x.node.attrs.length (atC x.node.attrs).cell, .c (.string x.node.data), .c (.int .i64 x.node.major), .c (.int .i64 x.node.minor), .c (.int .i64 x.node.cls), .c (.bool x.white), .c (.bool x.first), .c (.int .i64 x.names)]
set_option maxRecDepth 20000 in
set_option maxHeartbeats 8000000 in
theorem rsameDir_c (a b : Di) (ha : okD a) (hb : okD b) : Con Try.prog 39 [.g (diA a), .g (diA b)] [] 0 0 U (fun _ => .o (.sb (decide (a = b)))) G0 := by
  refine con_of Try.func39 rfl (by kernel_rfl) Try.ntmps39 rfl (by first | exact Nat.zero_le _ | decide) (fun _ => ⟨rfl, rfl⟩) fun w S ν => ?_
  have c1 := sameAttrs_c a.attrs b.attrs ha.1.1 hb.1.1
  have c2 := rsame_c a.red b.red ha.2.1.1 hb.2.1.1
  have he : a = b ↔ a.attrs = b.attrs ∧ a.opq = b.opq ∧ a.red = b.red ∧ a.ents = b.ents := by
    cases a; cases b; simp
  have l1 := ha.2.2.1
  have l2 := hb.2.2.1
  have hxa := fun x h => (ha.2.2.2 x h).2.1
  have hxb := fun x h => (hb.2.2.2 x h).2.1
  clear ha hb
  (repeat' (first|(with_reducible refine AllP.go ?_;first|exact og|((try simp only [OS]);repeat' (first|exact oj|refine And.intro ?_ ?_)))|(refine rg ?_ ?_)|(with_reducible first|refine stp ?_|refine tD rfl ?_)|refine ct ?_|refine cf ?_|((first|refine gs ?_ ?_|refine gl ?_ ?_|refine gc ?_ ?_)<;>intro h<;>(try simp only [NS] at h)<;>(try exact xf)<;>(try refine rn ?_ ?_))))
  refine TE.callW (c1) rfl (by rfl) (by rfl) rfl (by rfl) (by (first|exact trivial|((with_reducible refine AllP.go ?_);dsimp only [AllP, appP];repeat' (first|refine And.intro ?_ ?_|exact zz|assumption)))) ?_
  intro _ _
  ((refine rn ?_ ?_);(repeat' (first|(with_reducible refine AllP.go ?_;first|exact og|((try simp only [OS]);repeat' (first|exact oj|refine And.intro ?_ ?_)))|(refine rg ?_ ?_)|(with_reducible first|refine stp ?_|refine tD rfl ?_)|refine ct ?_|refine cf ?_|((first|refine gs ?_ ?_|refine gl ?_ ?_|refine gc ?_ ?_)<;>intro h<;>(try simp only [NS] at h)<;>(try exact xf)<;>(try refine rn ?_ ?_)))))
  · (refine TE.ret' io rfl tysOk (()) ?_ rfl (by rfl) ?_;all_goals (try (first|exact trivial|((with_reducible refine AllP.go ?_);dsimp only [AllP, appP];repeat' (first|refine And.intro ?_ ?_|exact zz)))))
    refine congrArg Value.bool (Eq.symm ?_); rw [decide_eq_false_iff_not, he]; intro k; simp_all; done
  · (refine TE.ret' io rfl tysOk (()) ?_ rfl (by rfl) ?_;all_goals (try (first|exact trivial|((with_reducible refine AllP.go ?_);dsimp only [AllP, appP];repeat' (first|refine And.intro ?_ ?_|exact zz)))))
    refine congrArg Value.bool (Eq.symm ?_); rw [decide_eq_false_iff_not, he]; intro k; simp_all; done
  refine TE.callW (c2) rfl (by rfl) (by rfl) rfl (by rfl) (by (first|exact trivial|((with_reducible refine AllP.go ?_);dsimp only [AllP, appP];repeat' (first|refine And.intro ?_ ?_|exact zz|assumption)))) ?_
  intro _ _
  ((refine rn ?_ ?_);(repeat' (first|(with_reducible refine AllP.go ?_;first|exact og|((try simp only [OS]);repeat' (first|exact oj|refine And.intro ?_ ?_)))|(refine rg ?_ ?_)|(with_reducible first|refine stp ?_|refine tD rfl ?_)|refine ct ?_|refine cf ?_|((first|refine gs ?_ ?_|refine gl ?_ ?_|refine gc ?_ ?_)<;>intro h<;>(try simp only [NS] at h)<;>(try exact xf)<;>(try refine rn ?_ ?_)))))
  · (refine TE.ret' io rfl tysOk (()) ?_ rfl (by rfl) ?_;all_goals (try (first|exact trivial|((with_reducible refine AllP.go ?_);dsimp only [AllP, appP];repeat' (first|refine And.intro ?_ ?_|exact zz)))))
    refine congrArg Value.bool (Eq.symm ?_); rw [decide_eq_false_iff_not, he]; intro k; simp_all; done
  · (refine TE.ret' io rfl tysOk (()) ?_ rfl (by rfl) ?_;all_goals (try (first|exact trivial|((with_reducible refine AllP.go ?_);dsimp only [AllP, appP];repeat' (first|refine And.intro ?_ ?_|exact zz)))))
    refine congrArg Value.bool (Eq.symm (decide_eq_false fun e => ?_))
    rw [he] at e
    have := congrArg List.length e.2.2.2
    omega
  rename_i o1 o2 o3 o4
  have hab : a = b ↔ a.ents = b.ents := by rw [he]; simp_all
  clear c1 c2
  (refine TE.only [5, 4, 3, 2] (by rfl) ?_)
  refine TE.loopG (fun q : Nat => q ≤ a.ents.length ∧ ∀ k, k < q → a.ents.getD k e0 = b.ents.getD k e0) (fun q => [(5, .o (.c (.int .i64 q)))]) [] (fun _ => []) (fun q => a.ents.length - q) 0 (by rfl) ⟨Nat.zero_le _, fun k hk => absurd hk (Nat.not_lt_zero _)⟩ ?_ ?_
  · (refine Ent.of rfl rfl (by rfl) ?_;(try (first|exact trivial|((with_reducible refine AllP.go ?_);dsimp only [AllP, appP];repeat' (first|refine And.intro ?_ ?_|exact zz)))))
  rintro q ⟨h1, h2⟩
  by_cases hlt : q < a.ents.length
  · have hx1 := hxa _ (getD_mem (d := e0) hlt)
    have hy1 := hxb _ (getD_mem (l := b.ents) (d := e0) (k := q) (by omega))
    have hne : ¬ a.ents.getD q e0 = b.ents.getD q e0 → decide (a = b) = false := fun k => decide_eq_false fun e => k (by rw [e])
    have hen := en_iff2 (x := a.ents.getD q e0) (y := b.ents.getD q e0)
    have c := sameList_c [(a.ents.getD q e0).node] [(b.ents.getD q e0).node] (show 1 ≤ 1000000 by decide) (show 1 ≤ 1000000 by decide) (fun z hz => by rw [List.mem_singleton.1 hz]; exact hx1) (fun z hz => by rw [List.mem_singleton.1 hz]; exact hy1)
    have hnx : a.ents.getD q e0 = b.ents.getD q e0 → ∀ k, k < q + 1 → a.ents.getD k e0 = b.ents.getD k e0 := fun e k hk => by
      rcases Nat.lt_or_ge k q with h4 | h4
      · exact h2 k h4
      · obtain rfl : k = q := by omega
        exact e
    (repeat' (first|(with_reducible refine AllP.go ?_;first|exact og|((try simp only [OS]);repeat' (first|exact oj|refine And.intro ?_ ?_)))|(refine rg ?_ ?_)|(with_reducible first|refine stp ?_|refine tD rfl ?_)|refine ct ?_|refine cf ?_|((first|refine gs ?_ ?_|refine gl ?_ ?_|refine gc ?_ ?_)<;>intro h<;>(try simp only [NS] at h)<;>(try exact xf)<;>(try refine rn ?_ ?_))))
    (refine TE.only [5, 3, 2] (by rfl) ?_)
    (refine TE.mid (ι := Unit) (fun _ => True) (fun _ => ⟨[(2, .o (.ptr 0 0)), (3, .o (.ptr 1 0)), (5, .o (.c (.int .i64 q))), (6, .o (.ptr 2 0)), (7, .o (.ptr 3 0))], [.box 2 72 (enD (a.ents.getD q e0)), .box 3 72 (enD (b.ents.getD q e0)), .box 0 53 (diA a), .box 1 53 (diA b)], 4⟩) ?_ fun _ _ => ?_)
    · (refine TE.drawK (fun _ => false) (by rfl) (by rfl) (by rfl) ?_)
      (repeat' (first|(with_reducible refine AllP.go ?_;first|exact og|((try simp only [OS]);repeat' (first|exact oj|refine And.intro ?_ ?_)))|(with_reducible first|exact PanicOk.body|exact rd.panic|refine PanicOk.then' ?_|refine PanicOk.block ?_|refine PanicOk.jump ?_)|(refine TL.done (by rfl) ?_)|(refine TL.auto tysOk rfl ?_ (by rfl) ?_ ?_)|(refine sm ?_ ?_)|(refine sp ?_ ?_)|(refine TL.one (by rfl) ?_)|(refine TL.two (by rfl) ?_ ?_)|(refine TL.three (by rfl) ?_ ?_ ?_)|(refine TL.four (by rfl) ?_ ?_ ?_ ?_)))
      all_goals (repeat (with_reducible first|refine stp ?_|refine tD rfl ?_))
      all_goals (refine TE.at () trivial ?_;(refine Ent.of rfl rfl (by rfl) ?_;(try (first|exact trivial|((with_reducible refine AllP.go ?_);dsimp only [AllP, appP];repeat' (first|refine And.intro ?_ ?_|exact zz))))))
    generalize a.ents.getD q e0 = x at *
    generalize b.ents.getD q e0 = y at *
    clear he hab h2 hxa hxb o1 o4 hx1 hy1
    (repeat (with_reducible first|refine stp ?_|refine tD rfl ?_))
    (repeat' (first|(with_reducible refine AllP.go ?_;first|exact og|((try simp only [OS]);repeat' (first|exact oj|refine And.intro ?_ ?_)))|(refine rg ?_ ?_)|(with_reducible first|refine stp ?_|refine tD rfl ?_)|refine ct ?_|refine cf ?_|((first|refine gs ?_ ?_|refine gl ?_ ?_|refine gc ?_ ?_)<;>intro h<;>(try simp only [NS] at h)<;>(try exact xf)<;>(try refine rn ?_ ?_))))
    iterate 4
      · rw [hne (by rw [hen]; intro k; simp_all)]
        (refine TE.ret' io rfl tysOk (()) ?_ rfl (by rfl) ?_;all_goals (try (first|exact trivial|((with_reducible refine AllP.go ?_);dsimp only [AllP, appP];repeat' (first|refine And.intro ?_ ?_|exact zz)))))
    (refine TE.freezeN 4 (by rfl) (by rfl) ?_)
    (refine TE.freezeN 5 (by rfl) (by rfl) ?_)
    refine TE.callW (c) rfl (by rfl) (by rfl) rfl (by rfl) ?_ ?_
    · refine AllP.go ?_
      refine And.intro rfl ?_
      refine And.intro ?_ ?_
      all_goals exact LeD.lit rfl ⟨fun j hj => LeX.of_eq (nd_row _ j hj), trivial⟩
    intro _ _
    clear c
    by_cases hxy : [x.node] = [y.node]
    · have e : x = y := by rw [hen]; simp_all
      ((refine rn ?_ ?_);(repeat' (first|(with_reducible refine AllP.go ?_;first|exact og|((try simp only [OS]);repeat' (first|exact oj|refine And.intro ?_ ?_)))|(refine rg ?_ ?_)|(with_reducible first|refine stp ?_|refine tD rfl ?_)|refine ct ?_|refine cf ?_|((first|refine gs ?_ ?_|refine gl ?_ ?_|refine gc ?_ ?_)<;>intro h<;>(try simp only [NS] at h)<;>(try exact xf)<;>(try refine rn ?_ ?_)))))
      refine TE.again' (q + 1) ⟨by omega, hnx e⟩ (by omega) ?_
      (refine Ent.of rfl rfl (by rfl) ?_;(try (first|exact trivial|((with_reducible refine AllP.go ?_);dsimp only [AllP, appP];repeat' (first|refine And.intro ?_ ?_|exact zz)))))
    · rw [hne (by rw [hen]; intro k; simp_all)]
      ((refine rn ?_ ?_);(repeat' (first|(with_reducible refine AllP.go ?_;first|exact og|((try simp only [OS]);repeat' (first|exact oj|refine And.intro ?_ ?_)))|(refine rg ?_ ?_)|(with_reducible first|refine stp ?_|refine tD rfl ?_)|refine ct ?_|refine cf ?_|((first|refine gs ?_ ?_|refine gl ?_ ?_|refine gc ?_ ?_)<;>intro h<;>(try simp only [NS] at h)<;>(try exact xf)<;>(try refine rn ?_ ?_)))))
      (refine TE.ret' io rfl tysOk (()) ?_ rfl (by rfl) ?_;all_goals (try (first|exact trivial|((with_reducible refine AllP.go ?_);dsimp only [AllP, appP];repeat' (first|refine And.intro ?_ ?_|exact zz)))))
  · obtain rfl : q = a.ents.length := by omega
    rw [show decide (a = b) = true from decide_eq_true (hab.2 (list_ext2 (d := e0) (by omega) h2))]
    (repeat' (first|(with_reducible refine AllP.go ?_;first|exact og|((try simp only [OS]);repeat' (first|exact oj|refine And.intro ?_ ?_)))|(refine rg ?_ ?_)|(with_reducible first|refine stp ?_|refine tD rfl ?_)|refine ct ?_|refine cf ?_|((first|refine gs ?_ ?_|refine gl ?_ ?_|refine gc ?_ ?_)<;>intro h<;>(try simp only [NS] at h)<;>(try exact xf)<;>(try refine rn ?_ ?_))))
    (refine TE.ret' io rfl tysOk (()) ?_ rfl (by rfl) ?_;all_goals (try (first|exact trivial|((with_reducible refine AllP.go ?_);dsimp only [AllP, appP];repeat' (first|refine And.intro ?_ ?_|exact zz)))))
set_option maxRecDepth 20000 in
set_option maxHeartbeats 8000000 in
theorem rsameB_c (a b : List Bn) (ha : a.length ≤ 1000000) (hb : b.length ≤ 1000000) (hxa : ∀ x ∈ a, okB x) (hxb : ∀ x ∈ b, okB x) : Con Try.prog 40 [.o (.ro 10 a.length (bnC a).cell), .o (.ro 10 b.length (bnC b).cell)] [] 0 0 U (fun _ => .o (.sb (decide (a = b)))) G0 := by
  refine con_of Try.func40 rfl (by kernel_rfl) Try.ntmps40 rfl (by first | exact Nat.zero_le _ | decide) (fun _ => ⟨rfl, rfl⟩) fun w S ν => ?_
  have ta := rtree_c a ha fun x h => (hxa x h).1.1
  have tb := rtree_c b hb fun x h => (hxb x h).1.1
  have la : (nds a).length = a.length := List.length_map ..
  have lb : (nds b).length = b.length := List.length_map ..
  have c := sameList_c (nds a) (nds b) (by omega) (by omega) (fun x h => by obtain ⟨y, hy, rfl⟩ := List.mem_map.1 h; exact (hxa y hy).1.1) (fun x h => by obtain ⟨y, hy, rfl⟩ := List.mem_map.1 h; exact (hxb y hy).1.1)
  (repeat' (first|(with_reducible refine AllP.go ?_;first|exact og|((try simp only [OS]);repeat' (first|exact oj|refine And.intro ?_ ?_)))|(refine rg ?_ ?_)|(with_reducible first|refine stp ?_|refine tD rfl ?_)|refine ct ?_|refine cf ?_|((first|refine gs ?_ ?_|refine gl ?_ ?_|refine gc ?_ ?_)<;>intro h<;>(try simp only [NS] at h)<;>(try exact xf)<;>(try refine rn ?_ ?_))))
  refine TE.callW (ta) rfl (by rfl) (by rfl) rfl (by rfl) (by (first|exact trivial|((with_reducible refine AllP.go ?_);dsimp only [AllP, appP];repeat' (first|refine And.intro ?_ ?_|exact zz|assumption)))) ?_
  intro _ _
  ((refine rn ?_ ?_);(repeat' (first|(with_reducible refine AllP.go ?_;first|exact og|((try simp only [OS]);repeat' (first|exact oj|refine And.intro ?_ ?_)))|(refine rg ?_ ?_)|(with_reducible first|refine stp ?_|refine tD rfl ?_)|refine ct ?_|refine cf ?_|((first|refine gs ?_ ?_|refine gl ?_ ?_|refine gc ?_ ?_)<;>intro h<;>(try simp only [NS] at h)<;>(try exact xf)<;>(try refine rn ?_ ?_)))))
  refine TE.callW (tb) rfl (by rfl) (by rfl) rfl (by rfl) (by (first|exact trivial|((with_reducible refine AllP.go ?_);dsimp only [AllP, appP];repeat' (first|refine And.intro ?_ ?_|exact zz|assumption)))) ?_
  intro _ _
  ((refine rn ?_ ?_);(repeat' (first|(with_reducible refine AllP.go ?_;first|exact og|((try simp only [OS]);repeat' (first|exact oj|refine And.intro ?_ ?_)))|(refine rg ?_ ?_)|(with_reducible first|refine stp ?_|refine tD rfl ?_)|refine ct ?_|refine cf ?_|((first|refine gs ?_ ?_|refine gl ?_ ?_|refine gc ?_ ?_)<;>intro h<;>(try simp only [NS] at h)<;>(try exact xf)<;>(try refine rn ?_ ?_)))))
  refine TE.callW (c) rfl (by rfl) (by rfl) rfl (by rfl) (by (first|exact trivial|((with_reducible refine AllP.go ?_);dsimp only [AllP, appP];repeat' (first|refine And.intro ?_ ?_|exact zz|assumption)))) ?_
  intro _ _
  by_cases hn : nds a = nds b
  case neg =>
    rw [show decide (a = b) = false from decide_eq_false fun e => hn (by rw [e])]
    ((refine rn ?_ ?_);(repeat' (first|(with_reducible refine AllP.go ?_;first|exact og|((try simp only [OS]);repeat' (first|exact oj|refine And.intro ?_ ?_)))|(refine rg ?_ ?_)|(with_reducible first|refine stp ?_|refine tD rfl ?_)|refine ct ?_|refine cf ?_|((first|refine gs ?_ ?_|refine gl ?_ ?_|refine gc ?_ ?_)<;>intro h<;>(try simp only [NS] at h)<;>(try exact xf)<;>(try refine rn ?_ ?_)))))
    (refine TE.ret' io rfl tysOk (()) ?_ rfl (by rfl) ?_;all_goals (try (first|exact trivial|((with_reducible refine AllP.go ?_);dsimp only [AllP, appP];repeat' (first|refine And.intro ?_ ?_|exact zz)))))
  have hl : a.length = b.length := by rw [← la, ← lb, hn]
  have hnd : ∀ k, (a.getD k b0).nd = (b.getD k b0).nd := fun k => by rw [← nds_getD, ← nds_getD, hn]
  clear ta tb c
  ((refine rn ?_ ?_);(repeat' (first|(with_reducible refine AllP.go ?_;first|exact og|((try simp only [OS]);repeat' (first|exact oj|refine And.intro ?_ ?_)))|(refine rg ?_ ?_)|(with_reducible first|refine stp ?_|refine tD rfl ?_)|refine ct ?_|refine cf ?_|((first|refine gs ?_ ?_|refine gl ?_ ?_|refine gc ?_ ?_)<;>intro h<;>(try simp only [NS] at h)<;>(try exact xf)<;>(try refine rn ?_ ?_)))))
  (refine TE.only [5, 1, 0] (by rfl) ?_)
  refine TE.loopG (fun q : Nat => q ≤ a.length ∧ ∀ k, k < q → a.getD k b0 = b.getD k b0) (fun q => [(5, .o (.c (.int .i64 q)))]) [] (fun _ => []) (fun q => a.length - q) 0 (by rfl) ⟨Nat.zero_le _, fun k hk => absurd hk (Nat.not_lt_zero _)⟩ ?_ ?_
  · (refine Ent.of rfl rfl (by rfl) ?_;(try (first|exact trivial|((with_reducible refine AllP.go ?_);dsimp only [AllP, appP];repeat' (first|refine And.intro ?_ ?_|exact zz)))))
  rintro q ⟨h1, h2⟩
  by_cases hlt : q < a.length
  · have c := rsame_c (a.getD q b0).red (b.getD q b0).red (hxa _ (getD_mem hlt)).2.1 (hxb _ (getD_mem (by omega))).2.1
    have hq := hnd q
    have he : a.getD q b0 = b.getD q b0 ↔ (a.getD q b0).opq = (b.getD q b0).opq ∧ (a.getD q b0).red = (b.getD q b0).red := by
      generalize a.getD q b0 = x at *
      generalize b.getD q b0 = y at *
      cases x; cases y
      simp_all
    (repeat' (first|(with_reducible refine AllP.go ?_;first|exact og|((try simp only [OS]);repeat' (first|exact oj|refine And.intro ?_ ?_)))|(refine rg ?_ ?_)|(with_reducible first|refine stp ?_|refine tD rfl ?_)|refine ct ?_|refine cf ?_|((first|refine gs ?_ ?_|refine gl ?_ ?_|refine gc ?_ ?_)<;>intro h<;>(try simp only [NS] at h)<;>(try exact xf)<;>(try refine rn ?_ ?_))))
    ((refine dn ?_);repeat' (first|(with_reducible refine AllP.go ?_;first|exact og|((try simp only [OS]);repeat' (first|exact oj|refine And.intro ?_ ?_)))|(with_reducible first|exact PanicOk.body|exact rd.panic|refine PanicOk.then' ?_|refine PanicOk.block ?_|refine PanicOk.jump ?_)|(refine TL.done (by rfl) ?_)|(refine TL.auto tysOk rfl ?_ (by rfl) ?_ ?_)|((refine TL.one (by rfl) ?_);first|(refine sm ?_ ?_)|(refine sp ?_ ?_))|(refine sm ?_ ?_)|((first|refine gl ?_ ?_|refine gc ?_ ?_)<;>intro h<;>(try simp only [NS] at h)<;>(try exact xf))))
    · rw [show decide (a = b) = false from decide_eq_false fun e => by rw [e] at h; simp at h]
      (repeat' (first|(with_reducible refine AllP.go ?_;first|exact og|((try simp only [OS]);repeat' (first|exact oj|refine And.intro ?_ ?_)))|(refine rg ?_ ?_)|(with_reducible first|refine stp ?_|refine tD rfl ?_)|refine ct ?_|refine cf ?_|((first|refine gs ?_ ?_|refine gl ?_ ?_|refine gc ?_ ?_)<;>intro h<;>(try simp only [NS] at h)<;>(try exact xf)<;>(try refine rn ?_ ?_))))
      (refine TE.ret' io rfl tysOk (()) ?_ rfl (by rfl) ?_;all_goals (try (first|exact trivial|((with_reducible refine AllP.go ?_);dsimp only [AllP, appP];repeat' (first|refine And.intro ?_ ?_|exact zz)))))
    (refine TL.one (by rfl) ?_)
    refine StepL.callW (c) rfl rfl rfl rfl rfl (by rfl) (by (first|exact trivial|((with_reducible refine AllP.go ?_);dsimp only [AllP, appP];repeat' (first|refine And.intro ?_ ?_|exact zz|assumption)))) (by rfl) (by rfl) ?_
    intro _ _
    (repeat' (first|(with_reducible refine AllP.go ?_;first|exact og|((try simp only [OS]);repeat' (first|exact oj|refine And.intro ?_ ?_)))|(with_reducible first|exact PanicOk.body|exact rd.panic|refine PanicOk.then' ?_|refine PanicOk.block ?_|refine PanicOk.jump ?_)|(refine TL.done (by rfl) ?_)|(refine TL.auto tysOk rfl ?_ (by rfl) ?_ ?_)|(refine sm ?_ ?_)|(refine sp ?_ ?_)|(refine TL.one (by rfl) ?_)|(refine TL.two (by rfl) ?_ ?_)|(refine TL.three (by rfl) ?_ ?_ ?_)|(refine TL.four (by rfl) ?_ ?_ ?_ ?_)))
    by_cases hr : (a.getD q b0).red = (b.getD q b0).red
    · have ho : (a.getD q b0).opq = (b.getD q b0).opq := by simpa using h
      (repeat' (first|(with_reducible refine AllP.go ?_;first|exact og|((try simp only [OS]);repeat' (first|exact oj|refine And.intro ?_ ?_)))|(refine rg ?_ ?_)|(with_reducible first|refine stp ?_|refine tD rfl ?_)|refine ct ?_|refine cf ?_|((first|refine gs ?_ ?_|refine gl ?_ ?_|refine gc ?_ ?_)<;>intro h<;>(try simp only [NS] at h)<;>(try exact xf)<;>(try refine rn ?_ ?_))))
      refine TE.again' (q + 1) ⟨by omega, fun k hk => ?_⟩ (by omega) ?_
      · rcases Nat.lt_or_ge k q with h4 | h4
        · exact h2 k h4
        · obtain rfl : k = q := by omega
          exact he.2 ⟨ho, hr⟩
      · (refine Ent.of rfl rfl (by rfl) ?_;(try (first|exact trivial|((with_reducible refine AllP.go ?_);dsimp only [AllP, appP];repeat' (first|refine And.intro ?_ ?_|exact zz)))))
    · rw [show decide (a = b) = false from decide_eq_false fun e => hr (by rw [e])]
      (repeat' (first|(with_reducible refine AllP.go ?_;first|exact og|((try simp only [OS]);repeat' (first|exact oj|refine And.intro ?_ ?_)))|(refine rg ?_ ?_)|(with_reducible first|refine stp ?_|refine tD rfl ?_)|refine ct ?_|refine cf ?_|((first|refine gs ?_ ?_|refine gl ?_ ?_|refine gc ?_ ?_)<;>intro h<;>(try simp only [NS] at h)<;>(try exact xf)<;>(try refine rn ?_ ?_))))
      (refine TE.ret' io rfl tysOk (()) ?_ rfl (by rfl) ?_;all_goals (try (first|exact trivial|((with_reducible refine AllP.go ?_);dsimp only [AllP, appP];repeat' (first|refine And.intro ?_ ?_|exact zz)))))
  · obtain rfl : q = a.length := by omega
    rw [show decide (a = b) = true from decide_eq_true (list_ext2 (d := b0) hl h2)]
    (repeat' (first|(with_reducible refine AllP.go ?_;first|exact og|((try simp only [OS]);repeat' (first|exact oj|refine And.intro ?_ ?_)))|(refine rg ?_ ?_)|(with_reducible first|refine stp ?_|refine tD rfl ?_)|refine ct ?_|refine cf ?_|((first|refine gs ?_ ?_|refine gl ?_ ?_|refine gc ?_ ?_)<;>intro h<;>(try simp only [NS] at h)<;>(try exact xf)<;>(try refine rn ?_ ?_))))
    (refine TE.ret' io rfl tysOk (()) ?_ rfl (by rfl) ?_;all_goals (try (first|exact trivial|((with_reducible refine AllP.go ?_);dsimp only [AllP, appP];repeat' (first|refine And.intro ?_ ?_|exact zz)))))
end Go.Proofs.Ythhpofehcnjmmaa.Am
set_option linter.unusedSimpArgs false
set_option linter.unusedVariables false
namespace Go.Proofs.Ythhpofehcnjmmaa.Am
open Go.RowKit Lw
open Br
theorem make_ok {ds : List Di} (hl : ds.length ≤ 1000000) (hd : ∀ d ∈ ds, okD d) : (makeE ds).1.length ≤ 120 ∧ ∀ x ∈ (makeE ds).1, okB x := by
  have hI := put_inv hl hd
  have h0 : ([] : List Bn).length ≤ 120 ∧ ∀ x ∈ ([] : List Bn), okB x := ⟨Nat.zero_le _, fun x h => nomatch h⟩
  unfold makeE
  split
  · exact h0
  split
  · exact h0
  split
  · exact h0
  split
  · exact h0
  · exact ⟨hI.2.1, hI.2.2.2⟩
end Go.Proofs.Ythhpofehcnjmmaa.Am
set_option linter.unusedSimpArgs false
set_option linter.unusedVariables false
namespace Go.Proofs.Ythhpofehcnjmmaa.Am
open Go.RowKit Lw
open Br
set_option maxRecDepth 20000 in
set_option maxHeartbeats 8000000 in
theorem rMake_c (l : List Di) (hl : l.length ≤ 1000) (hd : ∀ d ∈ l, okD d) : Con Try.prog 38 [.o (.ro 4 l.length (diC l).cell)] [] 0 0 U (fun _ => .t [.inl (.ro 10 (makeE l).1.length (bnC (makeE l).1).cell), .inl (.c (.int .i64 (makeE l).2))]) G0 := by
  refine con_of Try.func38 rfl (by kernel_rfl) Try.ntmps38 rfl (by first | exact Nat.zero_le _ | decide) (fun _ => ⟨rfl, rfl⟩) fun w S ν => ?_
  have hI := put_inv (l := l) (by omega) hd
  have hput := mak_c (l.length + 1) rootB l [] rfl (by omega) ⟨by show l.length ≤ 1000000; omega, Nat.zero_le _, hd, fun b hb => nomatch hb⟩ ⟨⟨by decide, by decide, by decide⟩, by decide, fun s hs => nomatch hs⟩ (by decide) (by decide)
  have hpe : putF (l.length + 1) rootB (l, []) = putI l := rfl
  unfold MakC at hput
  rw [hpe] at hput
  have hM : makeE l = if (putI l).2 ≠ 0 then ([], (putI l).2) else if (putI l).1.1 ≠ [] then ([], 6) else if (checkB (putI l).1.2).2 ≠ 0 then ([], (checkB (putI l).1.2).2) else if ((dirsL (putI l).1.2).zip l).any (fun p => decide (dirI (putI l).1.2 p.1 ≠ p.2)) = true then ([], 6) else ((putI l).1.2, 0) := rfl
  have hpd := put_dirs (ds := l)
  generalize putI l = P at *
  obtain ⟨⟨lft, b⟩, e⟩ := P
  dsimp only at hput hM hI hpd
  obtain ⟨I1, I2, I3, I4⟩ := hI
  dsimp only at I1 I2 I3 I4
  (repeat' (first|(with_reducible refine AllP.go ?_;first|exact og|((try simp only [OS]);repeat' (first|exact oj|refine And.intro ?_ ?_)))|(refine rg ?_ ?_)|(with_reducible first|refine stp ?_|refine tD rfl ?_)|refine ct ?_|refine cf ?_|((first|refine gs ?_ ?_|refine gl ?_ ?_|refine gc ?_ ?_)<;>intro h<;>(try simp only [NS] at h)<;>(try exact xf)<;>(try refine rn ?_ ?_))))
  refine TE.nilBox 0 1 50 10 (by rfl) (by rfl) ?_
  refine TE.callW (hput) rfl (by rfl) (by rfl) rfl (by rfl) ?_ ?_
  · refine AllP.go ?_
    dsimp only [AllP, appP]
    repeat' (first | with_reducible rfl | with_reducible exact LeD.refl | refine And.intro ?_ ?_ | rfl | exact LeD.refl)
    exact LeDC.nil rfl rfl
  intro _ _
  by_cases c1 : e ≠ 0
  · rw [if_pos c1] at hM
    rw [hM]
    ((refine rn ?_ ?_);(repeat' (first|(with_reducible refine AllP.go ?_;first|exact og|((try simp only [OS]);repeat' (first|exact oj|refine And.intro ?_ ?_)))|(refine rg ?_ ?_)|(with_reducible first|refine stp ?_|refine tD rfl ?_)|refine ct ?_|refine cf ?_|((first|refine gs ?_ ?_|refine gl ?_ ?_|refine gc ?_ ?_)<;>intro h<;>(try simp only [NS] at h)<;>(try exact xf)<;>(try refine rn ?_ ?_)))))
    (refine TE.ret' io rfl tysOk (()) ?_ rfl (by rfl) ?_;all_goals (try (first|exact trivial|((with_reducible refine AllP.go ?_);dsimp only [AllP, appP];repeat' (first|refine And.intro ?_ ?_|exact zz)))))
  rw [if_neg c1] at hM
  have c1 := Decidable.not_not.1 c1
  subst c1
  by_cases c2 : lft ≠ []
  · rw [if_pos c2] at hM
    rw [hM]
    have c2' : 0 < lft.length := List.length_pos_iff.2 c2
    ((refine rn ?_ ?_);(repeat' (first|(with_reducible refine AllP.go ?_;first|exact og|((try simp only [OS]);repeat' (first|exact oj|refine And.intro ?_ ?_)))|(refine rg ?_ ?_)|(with_reducible first|refine stp ?_|refine tD rfl ?_)|refine ct ?_|refine cf ?_|((first|refine gs ?_ ?_|refine gl ?_ ?_|refine gc ?_ ?_)<;>intro h<;>(try simp only [NS] at h)<;>(try exact xf)<;>(try refine rn ?_ ?_)))))
    (refine TE.ret' io rfl tysOk (()) ?_ rfl (by rfl) ?_;all_goals (try (first|exact trivial|((with_reducible refine AllP.go ?_);dsimp only [AllP, appP];repeat' (first|refine And.intro ?_ ?_|exact zz)))))
  rw [if_neg c2] at hM
  have c2 := Decidable.not_not.1 c2
  subst c2
  have hlen := hpd rfl rfl
  have hb : b.length ≤ 1000000 := by omega
  have cd := rdirs_c b hb I4
  ((refine rn ?_ ?_);(repeat' (first|(with_reducible refine AllP.go ?_;first|exact og|((try simp only [OS]);repeat' (first|exact oj|refine And.intro ?_ ?_)))|(refine rg ?_ ?_)|(with_reducible first|refine stp ?_|refine tD rfl ?_)|refine ct ?_|refine cf ?_|((first|refine gs ?_ ?_|refine gl ?_ ?_|refine gc ?_ ?_)<;>intro h<;>(try simp only [NS] at h)<;>(try exact xf)<;>(try refine rn ?_ ?_)))))
  (refine TE.freezeN 2 (by rfl) (by rfl) ?_)
  refine TE.callW (cd) rfl (by rfl) (by rfl) rfl (by rfl) (by (first|exact trivial|((with_reducible refine AllP.go ?_);dsimp only [AllP, appP];repeat' (first|refine And.intro ?_ ?_|exact zz|assumption)))) ?_
  intro _ _
  by_cases c3 : (checkB b).2 ≠ 0
  · rw [if_pos c3] at hM
    rw [hM, show dirsE b = ([], (checkB b).2) from if_pos c3]
    ((refine rn ?_ ?_);(repeat' (first|(with_reducible refine AllP.go ?_;first|exact og|((try simp only [OS]);repeat' (first|exact oj|refine And.intro ?_ ?_)))|(refine rg ?_ ?_)|(with_reducible first|refine stp ?_|refine tD rfl ?_)|refine ct ?_|refine cf ?_|((first|refine gs ?_ ?_|refine gl ?_ ?_|refine gc ?_ ?_)<;>intro h<;>(try simp only [NS] at h)<;>(try exact xf)<;>(try refine rn ?_ ?_)))))
    (refine TE.ret' io rfl tysOk (()) ?_ rfl (by rfl) ?_;all_goals (try (first|exact trivial|((with_reducible refine AllP.go ?_);dsimp only [AllP, appP];repeat' (first|refine And.intro ?_ ?_|exact zz)))))
  rw [if_neg c3] at hM
  rw [show dirsE b = (dirsL b, 0) from if_neg c3]
  have hB : Bok b := Decidable.not_not.1 c3
  have hany := mk_any hlen
  ((refine rn ?_ ?_);(repeat' (first|(with_reducible refine AllP.go ?_;first|exact og|((try simp only [OS]);repeat' (first|exact oj|refine And.intro ?_ ?_)))|(refine rg ?_ ?_)|(with_reducible first|refine stp ?_|refine tD rfl ?_)|refine ct ?_|refine cf ?_|((first|refine gs ?_ ?_|refine gl ?_ ?_|refine gc ?_ ?_)<;>intro h<;>(try simp only [NS] at h)<;>(try exact xf)<;>(try refine rn ?_ ?_)))))
  (refine TE.only [7, 6, 4, 0] (by rfl) ?_)
  refine TE.loopG (fun q : Nat => q ≤ l.length ∧ ∀ k, k < q → dirI b ((dirsL b).getD k 0) = l.getD k di0) (fun q => [(7, .o (.c (.int .i64 q)))]) [] (fun _ => []) (fun q => l.length - q) 0 (by rfl) ⟨Nat.zero_le _, fun k hk => absurd hk (Nat.not_lt_zero _)⟩ ?_ ?_
  · (refine Ent.of rfl rfl (by rfl) ?_;(try (first|exact trivial|((with_reducible refine AllP.go ?_);dsimp only [AllP, appP];repeat' (first|refine And.intro ?_ ?_|exact zz)))))
  rintro q ⟨h1, h2⟩
  by_cases hlt : q < l.length
  · obtain ⟨m1, m2⟩ := dir_mem2 (l := b) (i := q) (by omega)
    have d1 := rDir_c b ((dirsL b).getD q 0 : Nat) hb I4
    rw [dirE_ok2 hB m1 m2] at d1
    have d2 := rsameDir_c (dirI b ((dirsL b).getD q 0)) (l.getD q di0) (dirI_okD2 hB I4 m1) (hd _ (getD_mem hlt))
    (repeat' (first|(with_reducible refine AllP.go ?_;first|exact og|((try simp only [OS]);repeat' (first|exact oj|refine And.intro ?_ ?_)))|(refine rg ?_ ?_)|(with_reducible first|refine stp ?_|refine tD rfl ?_)|refine ct ?_|refine cf ?_|((first|refine gs ?_ ?_|refine gl ?_ ?_|refine gc ?_ ?_)<;>intro h<;>(try simp only [NS] at h)<;>(try exact xf)<;>(try refine rn ?_ ?_))))
    (refine TE.drawK (fun i => Nat.beq i 0) (by rfl) (by rfl) (by rfl) ?_)
    (repeat' (first|(with_reducible refine AllP.go ?_;first|exact og|((try simp only [OS]);repeat' (first|exact oj|refine And.intro ?_ ?_)))|(with_reducible first|exact PanicOk.body|exact rd.panic|refine PanicOk.then' ?_|refine PanicOk.block ?_|refine PanicOk.jump ?_)|(refine TL.done (by rfl) ?_)|(refine TL.auto tysOk rfl ?_ (by rfl) ?_ ?_)|(refine sm ?_ ?_)|(refine sp ?_ ?_)|(refine TL.one (by rfl) ?_)|(refine TL.two (by rfl) ?_ ?_)|(refine TL.three (by rfl) ?_ ?_ ?_)|(refine TL.four (by rfl) ?_ ?_ ?_ ?_)))
    all_goals refine StepL.callW (d1) rfl rfl rfl rfl rfl (by rfl) (by (first|exact trivial|((with_reducible refine AllP.go ?_);dsimp only [AllP, appP];repeat' (first|refine And.intro ?_ ?_|exact zz|assumption)))) (by rfl) (by rfl) ?_
    all_goals intro _ _
    all_goals (repeat' (first|(with_reducible refine AllP.go ?_;first|exact og|((try simp only [OS]);repeat' (first|exact oj|refine And.intro ?_ ?_)))|(with_reducible first|exact PanicOk.body|exact rd.panic|refine PanicOk.then' ?_|refine PanicOk.block ?_|refine PanicOk.jump ?_)|(refine TL.done (by rfl) ?_)|(refine TL.auto tysOk rfl ?_ (by rfl) ?_ ?_)|(refine sm ?_ ?_)|(refine sp ?_ ?_)|(refine TL.one (by rfl) ?_)|(refine TL.two (by rfl) ?_ ?_)|(refine TL.three (by rfl) ?_ ?_ ?_)|(refine TL.four (by rfl) ?_ ?_ ?_ ?_)))
    all_goals (repeat (with_reducible first|refine stp ?_|refine tD rfl ?_))
    all_goals (
      (refine TE.only [9, 8, 7, 6, 4, 0] (by rfl) ?_)
      ((refine dn ?_);repeat' (first|(with_reducible refine AllP.go ?_;first|exact og|((try simp only [OS]);repeat' (first|exact oj|refine And.intro ?_ ?_)))|(with_reducible first|exact PanicOk.body|exact rd.panic|refine PanicOk.then' ?_|refine PanicOk.block ?_|refine PanicOk.jump ?_)|(refine TL.done (by rfl) ?_)|(refine TL.auto tysOk rfl ?_ (by rfl) ?_ ?_)|((refine TL.one (by rfl) ?_);first|(refine sm ?_ ?_)|(refine sp ?_ ?_))|(refine sm ?_ ?_)|((first|refine gl ?_ ?_|refine gc ?_ ?_)<;>intro h<;>(try simp only [NS] at h)<;>(try exact xf))))
      (refine TL.one (by rfl) ?_)
      refine StepL.callW (d2) rfl rfl rfl rfl rfl (by rfl) (by (first|exact trivial|((with_reducible refine AllP.go ?_);dsimp only [AllP, appP];repeat' (first|refine And.intro ?_ ?_|exact zz|assumption)))) (by rfl) (by rfl) ?_
      intro _ _
      (repeat' (first|(with_reducible refine AllP.go ?_;first|exact og|((try simp only [OS]);repeat' (first|exact oj|refine And.intro ?_ ?_)))|(with_reducible first|exact PanicOk.body|exact rd.panic|refine PanicOk.then' ?_|refine PanicOk.block ?_|refine PanicOk.jump ?_)|(refine TL.done (by rfl) ?_)|(refine TL.auto tysOk rfl ?_ (by rfl) ?_ ?_)|(refine sm ?_ ?_)|(refine sp ?_ ?_)|(refine TL.one (by rfl) ?_)|(refine TL.two (by rfl) ?_ ?_)|(refine TL.three (by rfl) ?_ ?_ ?_)|(refine TL.four (by rfl) ?_ ?_ ?_ ?_)))
      by_cases he : dirI b ((dirsL b).getD q 0) = l.getD q di0
      · (repeat' (first|(with_reducible refine AllP.go ?_;first|exact og|((try simp only [OS]);repeat' (first|exact oj|refine And.intro ?_ ?_)))|(refine rg ?_ ?_)|(with_reducible first|refine stp ?_|refine tD rfl ?_)|refine ct ?_|refine cf ?_|((first|refine gs ?_ ?_|refine gl ?_ ?_|refine gc ?_ ?_)<;>intro h<;>(try simp only [NS] at h)<;>(try exact xf)<;>(try refine rn ?_ ?_))))
        refine TE.again' (q + 1) ⟨by omega, fun k hk => ?_⟩ (by omega) ?_
        · rcases Nat.lt_or_ge k q with h4 | h4
          · exact h2 k h4
          · obtain rfl : k = q := by omega
            exact he
        · (refine Ent.of rfl rfl (by rfl) ?_;(try (first|exact trivial|((with_reducible refine AllP.go ?_);dsimp only [AllP, appP];repeat' (first|refine And.intro ?_ ?_|exact zz)))))
      · rw [if_pos (hany.2 ⟨q, hlt, he⟩)] at hM
        rw [hM]
        (repeat' (first|(with_reducible refine AllP.go ?_;first|exact og|((try simp only [OS]);repeat' (first|exact oj|refine And.intro ?_ ?_)))|(refine rg ?_ ?_)|(with_reducible first|refine stp ?_|refine tD rfl ?_)|refine ct ?_|refine cf ?_|((first|refine gs ?_ ?_|refine gl ?_ ?_|refine gc ?_ ?_)<;>intro h<;>(try simp only [NS] at h)<;>(try exact xf)<;>(try refine rn ?_ ?_))))
        (refine TE.ret' io rfl tysOk (()) ?_ rfl (by rfl) ?_;all_goals (try (first|exact trivial|((with_reducible refine AllP.go ?_);dsimp only [AllP, appP];repeat' (first|refine And.intro ?_ ?_|exact zz))))))
  · obtain rfl : q = l.length := by omega
    rw [if_neg (fun k => by
      obtain ⟨j, hj, hne⟩ := hany.1 k
      exact hne (h2 j hj))] at hM
    rw [hM]
    (repeat' (first|(with_reducible refine AllP.go ?_;first|exact og|((try simp only [OS]);repeat' (first|exact oj|refine And.intro ?_ ?_)))|(refine rg ?_ ?_)|(with_reducible first|refine stp ?_|refine tD rfl ?_)|refine ct ?_|refine cf ?_|((first|refine gs ?_ ?_|refine gl ?_ ?_|refine gc ?_ ?_)<;>intro h<;>(try simp only [NS] at h)<;>(try exact xf)<;>(try refine rn ?_ ?_))))
    (refine TE.ret' io rfl tysOk (()) ?_ rfl (by rfl) ?_;all_goals (try (first|exact trivial|((with_reducible refine AllP.go ?_);dsimp only [AllP, appP];repeat' (first|refine And.intro ?_ ?_|exact zz)))))
theorem dirE_okD {l : List Bn} (hx : ∀ x ∈ l, okB x) (n : Int) : okD (dirE l n).1 := by
  unfold dirE
  split
  · show okD di0
    exact ⟨⟨by decide, by decide⟩, ⟨by decide, fun s hs => nomatch hs⟩, by decide, fun x hx => nomatch hx⟩
  · rename_i h1
    have h1 := Decidable.not_not.1 h1
    have hkn : knownE l n = 0 := Decidable.byContradiction fun k => by
      unfold kidsE at h1
      rw [if_pos k] at h1
      exact k h1
    obtain ⟨k, rfl, hk⟩ := known_at hkn
    show okD (dirI l (k : Int).toNat)
    rw [Int.toNat_natCast]
    exact dirI_okD2 (known_bok hkn) hx hk
set_option maxRecDepth 20000 in
set_option maxHeartbeats 16000000 in
theorem Dirs_c (l : List Bn) (n : Int) (ds : List Di) : Con Try.prog 9 [.o (.ro 10 l.length (bnC l).cell), .o (.c (.int .i64 n)), .o (.ro 4 ds.length (diC ds).cell)] [] 0 0 U (fun _ => .o (.c (.bool true))) G0 := by
  refine con_of Try.func9 rfl (by kernel_rfl) Try.ntmps9 rfl (by first | exact Nat.zero_le _ | decide) (fun _ => ⟨rfl, rfl⟩) fun w S ν => ?_
  (repeat' (first|(with_reducible refine AllP.go ?_;first|exact og|((try simp only [OS]);repeat' (first|exact oj|refine And.intro ?_ ?_)))|(refine rg ?_ ?_)|(with_reducible first|refine stp ?_|refine tD rfl ?_)|refine ct ?_|refine cf ?_|((first|refine gs ?_ ?_|refine gl ?_ ?_|refine gc ?_ ?_)<;>intro h<;>(try simp only [NS] at h)<;>(try exact xf)<;>(try refine rn ?_ ?_))))
  refine TE.callW (large_c l) rfl (by rfl) (by rfl) rfl (by rfl) (by (first|exact trivial|((with_reducible refine AllP.go ?_);dsimp only [AllP, appP];repeat' (first|refine And.intro ?_ ?_|exact zz|assumption)))) ?_
  intro r hr
  cases r
  case true =>
    ((refine rn ?_ ?_);(repeat' (first|(with_reducible refine AllP.go ?_;first|exact og|((try simp only [OS]);repeat' (first|exact oj|refine And.intro ?_ ?_)))|(refine rg ?_ ?_)|(with_reducible first|refine stp ?_|refine tD rfl ?_)|refine ct ?_|refine cf ?_|((first|refine gs ?_ ?_|refine gl ?_ ?_|refine gc ?_ ?_)<;>intro h<;>(try simp only [NS] at h)<;>(try exact xf)<;>(try refine rn ?_ ?_)))))
    refine TE.callW (shown_c) rfl (by rfl) (by rfl) rfl (by rfl) (by (first|exact trivial|((with_reducible refine AllP.go ?_);dsimp only [AllP, appP];repeat' (first|refine And.intro ?_ ?_|exact zz|assumption)))) ?_
    intro _ _
    ((refine rn ?_ ?_);(repeat' (first|(with_reducible refine AllP.go ?_;first|exact og|((try simp only [OS]);repeat' (first|exact oj|refine And.intro ?_ ?_)))|(refine rg ?_ ?_)|(with_reducible first|refine stp ?_|refine tD rfl ?_)|refine ct ?_|refine cf ?_|((first|refine gs ?_ ?_|refine gl ?_ ?_|refine gc ?_ ?_)<;>intro h<;>(try simp only [NS] at h)<;>(try exact xf)<;>(try refine rn ?_ ?_)))))
    (refine TE.ret' io rfl tysOk (()) ?_ rfl (by rfl) ?_;all_goals (try (first|exact trivial|((with_reducible refine AllP.go ?_);dsimp only [AllP, appP];repeat' (first|refine And.intro ?_ ?_|exact zz)))))
  obtain ⟨hl, hx⟩ := sm_ok (hr rfl)
  ((refine rn ?_ ?_);(repeat' (first|(with_reducible refine AllP.go ?_;first|exact og|((try simp only [OS]);repeat' (first|exact oj|refine And.intro ?_ ?_)))|(refine rg ?_ ?_)|(with_reducible first|refine stp ?_|refine tD rfl ?_)|refine ct ?_|refine cf ?_|((first|refine gs ?_ ?_|refine gl ?_ ?_|refine gc ?_ ?_)<;>intro h<;>(try simp only [NS] at h)<;>(try exact xf)<;>(try refine rn ?_ ?_)))))
  refine TE.callW (many_c ds) rfl (by rfl) (by rfl) rfl (by rfl) (by (first|exact trivial|((with_reducible refine AllP.go ?_);dsimp only [AllP, appP];repeat' (first|refine And.intro ?_ ?_|exact zz|assumption)))) ?_
  intro r hr2
  cases r
  case true =>
    ((refine rn ?_ ?_);(repeat' (first|(with_reducible refine AllP.go ?_;first|exact og|((try simp only [OS]);repeat' (first|exact oj|refine And.intro ?_ ?_)))|(refine rg ?_ ?_)|(with_reducible first|refine stp ?_|refine tD rfl ?_)|refine ct ?_|refine cf ?_|((first|refine gs ?_ ?_|refine gl ?_ ?_|refine gc ?_ ?_)<;>intro h<;>(try simp only [NS] at h)<;>(try exact xf)<;>(try refine rn ?_ ?_)))))
    refine TE.callW (shown_c) rfl (by rfl) (by rfl) rfl (by rfl) (by (first|exact trivial|((with_reducible refine AllP.go ?_);dsimp only [AllP, appP];repeat' (first|refine And.intro ?_ ?_|exact zz|assumption)))) ?_
    intro _ _
    ((refine rn ?_ ?_);(repeat' (first|(with_reducible refine AllP.go ?_;first|exact og|((try simp only [OS]);repeat' (first|exact oj|refine And.intro ?_ ?_)))|(refine rg ?_ ?_)|(with_reducible first|refine stp ?_|refine tD rfl ?_)|refine ct ?_|refine cf ?_|((first|refine gs ?_ ?_|refine gl ?_ ?_|refine gc ?_ ?_)<;>intro h<;>(try simp only [NS] at h)<;>(try exact xf)<;>(try refine rn ?_ ?_)))))
    (refine TE.ret' io rfl tysOk (()) ?_ rfl (by rfl) ?_;all_goals (try (first|exact trivial|((with_reducible refine AllP.go ?_);dsimp only [AllP, appP];repeat' (first|refine And.intro ?_ ?_|exact zz)))))
  obtain ⟨g1, g2⟩ := hr2 rfl
  have hds : ∀ d ∈ ds, okD d := fun d hd => by
    obtain ⟨k, hk, rfl⟩ := mem_getD (d := di0) hd
    exact smD_ok (g2 k hk)
  clear hr hr2 g2
  have c1 := Dir_c l n hl hx
  have c2 := rDir_c l n hl hx
  have c3 := Make_c ds (by omega) hds
  have c4 := rMake_c ds (by omega) hds
  have hdo := dirE_okD hx n
  obtain ⟨n4, n5⟩ := make_ok (ds := ds) (by omega) hds
  have c5 := rsameDir_c (dirE l n).1 (dirE l n).1 hdo hdo
  have c6 := rsameB_c (makeE ds).1 (makeE ds).1 (by omega) (by omega) n5 n5
  rw [decide_eq_true rfl] at c5 c6
  ((refine rn ?_ ?_);(repeat' (first|(with_reducible refine AllP.go ?_;first|exact og|((try simp only [OS]);repeat' (first|exact oj|refine And.intro ?_ ?_)))|(refine rg ?_ ?_)|(with_reducible first|refine stp ?_|refine tD rfl ?_)|refine ct ?_|refine cf ?_|((first|refine gs ?_ ?_|refine gl ?_ ?_|refine gc ?_ ?_)<;>intro h<;>(try simp only [NS] at h)<;>(try exact xf)<;>(try refine rn ?_ ?_)))))
  refine TE.callW (c1) rfl (by rfl) (by rfl) rfl (by rfl) (by (first|exact trivial|((with_reducible refine AllP.go ?_);dsimp only [AllP, appP];repeat' (first|refine And.intro ?_ ?_|exact zz|assumption)))) ?_
  intro _ _
  ((refine rn ?_ ?_);(repeat' (first|(with_reducible refine AllP.go ?_;first|exact og|((try simp only [OS]);repeat' (first|exact oj|refine And.intro ?_ ?_)))|(refine rg ?_ ?_)|(with_reducible first|refine stp ?_|refine tD rfl ?_)|refine ct ?_|refine cf ?_|((first|refine gs ?_ ?_|refine gl ?_ ?_|refine gc ?_ ?_)<;>intro h<;>(try simp only [NS] at h)<;>(try exact xf)<;>(try refine rn ?_ ?_)))))
  refine TE.callW (c2) rfl (by rfl) (by rfl) rfl (by rfl) (by (first|exact trivial|((with_reducible refine AllP.go ?_);dsimp only [AllP, appP];repeat' (first|refine And.intro ?_ ?_|exact zz|assumption)))) ?_
  intro _ _
  ((refine rn ?_ ?_);(repeat' (first|(with_reducible refine AllP.go ?_;first|exact og|((try simp only [OS]);repeat' (first|exact oj|refine And.intro ?_ ?_)))|(refine rg ?_ ?_)|(with_reducible first|refine stp ?_|refine tD rfl ?_)|refine ct ?_|refine cf ?_|((first|refine gs ?_ ?_|refine gl ?_ ?_|refine gc ?_ ?_)<;>intro h<;>(try simp only [NS] at h)<;>(try exact xf)<;>(try refine rn ?_ ?_)))))
  refine TE.callW (c3) rfl (by rfl) (by rfl) rfl (by rfl) (by (first|exact trivial|((with_reducible refine AllP.go ?_);dsimp only [AllP, appP];repeat' (first|refine And.intro ?_ ?_|exact zz|assumption)))) ?_
  intro _ _
  ((refine rn ?_ ?_);(repeat' (first|(with_reducible refine AllP.go ?_;first|exact og|((try simp only [OS]);repeat' (first|exact oj|refine And.intro ?_ ?_)))|(refine rg ?_ ?_)|(with_reducible first|refine stp ?_|refine tD rfl ?_)|refine ct ?_|refine cf ?_|((first|refine gs ?_ ?_|refine gl ?_ ?_|refine gc ?_ ?_)<;>intro h<;>(try simp only [NS] at h)<;>(try exact xf)<;>(try refine rn ?_ ?_)))))
  refine TE.callW (c4) rfl (by rfl) (by rfl) rfl (by rfl) (by (first|exact trivial|((with_reducible refine AllP.go ?_);dsimp only [AllP, appP];repeat' (first|refine And.intro ?_ ?_|exact zz|assumption)))) ?_
  intro _ _
  ((refine rn ?_ ?_);(repeat' (first|(with_reducible refine AllP.go ?_;first|exact og|((try simp only [OS]);repeat' (first|exact oj|refine And.intro ?_ ?_)))|(refine rg ?_ ?_)|(with_reducible first|refine stp ?_|refine tD rfl ?_)|refine ct ?_|refine cf ?_|((first|refine gs ?_ ?_|refine gl ?_ ?_|refine gc ?_ ?_)<;>intro h<;>(try simp only [NS] at h)<;>(try exact xf)<;>(try refine rn ?_ ?_)))))
  refine TE.callW (c5) rfl (by rfl) (by rfl) rfl (by rfl) (by (first|exact trivial|((with_reducible refine AllP.go ?_);dsimp only [AllP, appP];repeat' (first|refine And.intro ?_ ?_|exact zz|assumption)))) ?_
  intro _ _
  ((refine rn ?_ ?_);(repeat' (first|(with_reducible refine AllP.go ?_;first|exact og|((try simp only [OS]);repeat' (first|exact oj|refine And.intro ?_ ?_)))|(refine rg ?_ ?_)|(with_reducible first|refine stp ?_|refine tD rfl ?_)|refine ct ?_|refine cf ?_|((first|refine gs ?_ ?_|refine gl ?_ ?_|refine gc ?_ ?_)<;>intro h<;>(try simp only [NS] at h)<;>(try exact xf)<;>(try refine rn ?_ ?_)))))
  refine TE.callW (c6) rfl (by rfl) (by rfl) rfl (by rfl) (by (first|exact trivial|((with_reducible refine AllP.go ?_);dsimp only [AllP, appP];repeat' (first|refine And.intro ?_ ?_|exact zz|assumption)))) ?_
  intro _ _
  ((refine rn ?_ ?_);(repeat' (first|(with_reducible refine AllP.go ?_;first|exact og|((try simp only [OS]);repeat' (first|exact oj|refine And.intro ?_ ?_)))|(refine rg ?_ ?_)|(with_reducible first|refine stp ?_|refine tD rfl ?_)|refine ct ?_|refine cf ?_|((first|refine gs ?_ ?_|refine gl ?_ ?_|refine gc ?_ ?_)<;>intro h<;>(try simp only [NS] at h)<;>(try exact xf)<;>(try refine rn ?_ ?_)))))
  refine TE.callW (shown_c) rfl (by rfl) (by rfl) rfl (by rfl) (by (first|exact trivial|((with_reducible refine AllP.go ?_);dsimp only [AllP, appP];repeat' (first|refine And.intro ?_ ?_|exact zz|assumption)))) ?_
  intro _ _
  ((refine rn ?_ ?_);(repeat' (first|(with_reducible refine AllP.go ?_;first|exact og|((try simp only [OS]);repeat' (first|exact oj|refine And.intro ?_ ?_)))|(refine rg ?_ ?_)|(with_reducible first|refine stp ?_|refine tD rfl ?_)|refine ct ?_|refine cf ?_|((first|refine gs ?_ ?_|refine gl ?_ ?_|refine gc ?_ ?_)<;>intro h<;>(try simp only [NS] at h)<;>(try exact xf)<;>(try refine rn ?_ ?_)))))
  (refine TE.ret' io rfl tysOk (()) ?_ rfl (by rfl) ?_;all_goals (try (first|exact trivial|((with_reducible refine AllP.go ?_);dsimp only [AllP, appP];repeat' (first|refine And.intro ?_ ?_|exact zz)))))
end Go.Proofs.Ythhpofehcnjmmaa.Am
set_option linter.unusedSimpArgs false
set_option linter.unusedVariables false
namespace Go.Proofs.Ythhpofehcnjmmaa.Am
open Go.RowKit Lw At Br
theorem not_st {P : Program} {t : TypeId} {d : TypeDesc} (h : P.underlying t = some d) (hd : ∀ fs, d ≠ .struct fs) : ∀ fs, P.underlying t ≠ some (.struct fs) := fun fs e => hd fs (Option.some.inj (h.symm.trans e))
theorem not_ar {P : Program} {t : TypeId} {d : TypeDesc} (h : P.underlying t = some d) (hd : ∀ n e, d ≠ .array n e) : ∀ n e, P.underlying t ≠ some (.array n e) := fun n e' e => hd n e' (Option.some.inj (h.symm.trans e))
theorem ao_int : AOpen Try.prog 3 (fun z : Int => .o (.c (.int .i64 z))) intG :=
  AOpen.one (DOpen.i64 (by kernel_rfl) (by kernel_rfl)) (not_st (d := .int .i64) (by kernel_rfl) fun _ h => by cases h) (not_ar (d := .int .i64) (by kernel_rfl) fun _ _ h => by cases h)
theorem do_strs : DOpen Try.prog 36 1 (slR 1 strR eS) (listG strG) := DOpen.slice (e := 9) (DOpen.str (by kernel_rfl) (by kernel_rfl)) eS (by kernel_rfl) (by kernel_rfl)
def atGood (x : At.At) : Prop := x.1.size ≤ maxLen ∧ x.2.size ≤ maxLen
theorem do_at : DOpen Try.prog 67 2 atR atGood := by
  have h0 := DOpen.struct (P := Try.prog) (t := 67) (by kernel_rfl) (by decide) Try.underlying67 (DFields.cons rfl (DOpen.str (by kernel_rfl) (by kernel_rfl)) (DFields.cons rfl (DOpen.str (by kernel_rfl) (by kernel_rfl)) DFields.nil))
  refine h0.map (fun x => ((x.1, x.2.1) : At.At)) (fun x j hj => ?_) fun x g => (show atGood _ from ⟨g.1, g.2.1⟩)
  match j, hj with
  | 0, _ => rfl
  | 1, _ => rfl
theorem do_ats : DOpen Try.prog 48 1 (slR 2 atR d0) (listG atGood) := DOpen.slice (e := 67) do_at _ (by kernel_rfl) (by kernel_rfl)
def bnGood (x : Bn) : Prop := intG x.nd.depth ∧ strG x.nd.name ∧ intG x.nd.kind ∧ listG atGood x.nd.attrs ∧ strG x.nd.data ∧ intG x.nd.major ∧ intG x.nd.minor ∧ intG x.nd.cls ∧ listG strG x.red
theorem do_bn : DOpen Try.prog 50 10 bnR bnGood := by
  have h0 := DOpen.struct (P := Try.prog) (t := 50) (by kernel_rfl) (by decide) Try.underlying50 (DFields.cons rfl (DOpen.i64 (by kernel_rfl) (by kernel_rfl)) (DFields.cons rfl (DOpen.str (by kernel_rfl) (by kernel_rfl)) (DFields.cons rfl (DOpen.i64 (by kernel_rfl) (by kernel_rfl)) (DFields.cons rfl do_ats (DFields.cons rfl (DOpen.str (by kernel_rfl) (by kernel_rfl)) (DFields.cons rfl (DOpen.i64 (by kernel_rfl) (by kernel_rfl)) (DFields.cons rfl (DOpen.i64 (by kernel_rfl) (by kernel_rfl)) (DFields.cons rfl (DOpen.i64 (by kernel_rfl) (by kernel_rfl)) (DFields.cons rfl (DOpen.bool (by kernel_rfl) (by kernel_rfl)) (DFields.cons rfl do_strs DFields.nil))))))))))
  refine h0.map (fun x => (⟨⟨x.1, x.2.1, x.2.2.1, x.2.2.2.1, x.2.2.2.2.1, x.2.2.2.2.2.1, x.2.2.2.2.2.2.1, x.2.2.2.2.2.2.2.1⟩, x.2.2.2.2.2.2.2.2.1, x.2.2.2.2.2.2.2.2.2.1⟩ : Bn)) (fun x j hj => ?_) fun x g => (show bnGood _ from ⟨g.1, g.2.1, g.2.2.1, g.2.2.2.1, g.2.2.2.2.1, g.2.2.2.2.2.1, g.2.2.2.2.2.2.1, g.2.2.2.2.2.2.2.1, g.2.2.2.2.2.2.2.2.2.1⟩)
  match j, hj with
  | 0, _ => rfl
  | 1, _ => rfl
  | 2, _ => rfl
  | 3, _ => rfl
  | 4, _ => rfl
  | 5, _ => rfl
  | 6, _ => rfl
  | 7, _ => rfl
  | 8, _ => rfl
  | 9, _ => rfl
theorem do_bns : DOpen Try.prog 22 1 (slR 10 bnR b0) (listG bnGood) := DOpen.slice (e := 50) do_bn _ (by kernel_rfl) (by kernel_rfl)
theorem ao_bns : AOpen Try.prog 22 (fun l : List Bn => .o (.ro 10 l.length (bnC l).cell)) (listG bnGood) :=
  AOpen.one do_bns (not_st (d := .slice 50) (by kernel_rfl) fun _ h => by cases h) (not_ar (d := .slice 50) (by kernel_rfl) fun _ _ h => by cases h)
end Go.Proofs.Ythhpofehcnjmmaa.Am
set_option linter.unusedSimpArgs false
set_option linter.unusedVariables false
namespace Go.Proofs.Ythhpofehcnjmmaa.Am
open Go.RowKit Lw At Br
def ndGood (x : Nd) : Prop := intG x.depth ∧ strG x.name ∧ intG x.kind ∧ listG atGood x.attrs ∧ strG x.data ∧ intG x.major ∧ intG x.minor ∧ intG x.cls
theorem do_nd : DOpen Try.prog 70 8 ndR ndGood := by
  have h0 := DOpen.struct (P := Try.prog) (t := 70) (by kernel_rfl) (by decide) Try.underlying70 (DFields.cons rfl (DOpen.i64 (by kernel_rfl) (by kernel_rfl)) (DFields.cons rfl (DOpen.str (by kernel_rfl) (by kernel_rfl)) (DFields.cons rfl (DOpen.i64 (by kernel_rfl) (by kernel_rfl)) (DFields.cons rfl do_ats (DFields.cons rfl (DOpen.str (by kernel_rfl) (by kernel_rfl)) (DFields.cons rfl (DOpen.i64 (by kernel_rfl) (by kernel_rfl)) (DFields.cons rfl (DOpen.i64 (by kernel_rfl) (by kernel_rfl)) (DFields.cons rfl (DOpen.i64 (by kernel_rfl) (by kernel_rfl)) DFields.nil))))))))
  refine h0.map (fun x => (⟨x.1, x.2.1, x.2.2.1, x.2.2.2.1, x.2.2.2.2.1, x.2.2.2.2.2.1, x.2.2.2.2.2.2.1, x.2.2.2.2.2.2.2.1⟩ : Nd)) (fun x j hj => ?_) fun x g => (show ndGood _ from ⟨g.1, g.2.1, g.2.2.1, g.2.2.2.1, g.2.2.2.2.1, g.2.2.2.2.2.1, g.2.2.2.2.2.2.1, g.2.2.2.2.2.2.2.1⟩)
  match j, hj with
  | 0, _ => rfl
  | 1, _ => rfl
  | 2, _ => rfl
  | 3, _ => rfl
  | 4, _ => rfl
  | 5, _ => rfl
  | 6, _ => rfl
  | 7, _ => rfl
def enGood (x : En) : Prop := strG x.name ∧ ndGood x.node ∧ intG x.names
theorem do_en : DOpen Try.prog 72 12 enR enGood := by
  have h0 := DOpen.struct (P := Try.prog) (t := 72) (by kernel_rfl) (by decide) Try.underlying72 (DFields.cons rfl (DOpen.str (by kernel_rfl) (by kernel_rfl)) (DFields.cons rfl do_nd (DFields.cons rfl (DOpen.bool (by kernel_rfl) (by kernel_rfl)) (DFields.cons rfl (DOpen.bool (by kernel_rfl) (by kernel_rfl)) (DFields.cons rfl (DOpen.i64 (by kernel_rfl) (by kernel_rfl)) DFields.nil)))))
  refine h0.map (fun x => (⟨x.1, x.2.1, x.2.2.1, x.2.2.2.1, x.2.2.2.2.1⟩ : En)) (fun x j hj => ?_) fun x g => (show enGood _ from ⟨g.1, g.2.1, g.2.2.2.2.1⟩)
  match j, hj with
  | 0, _ => rfl
  | 1, _ => rfl
  | 2, _ => rfl
  | 3, _ => rfl
  | 4, _ => rfl
  | 5, _ => rfl
  | 6, _ => rfl
  | 7, _ => rfl
  | 8, _ => rfl
  | 9, _ => rfl
  | 10, _ => rfl
  | 11, _ => rfl
theorem do_ens : DOpen Try.prog 51 1 (slR 12 enR e0) (listG enGood) := DOpen.slice (e := 72) do_en _ (by kernel_rfl) (by kernel_rfl)
def diGood (d : Di) : Prop := listG atGood d.attrs ∧ listG strG d.red ∧ listG enGood d.ents
theorem do_di : DOpen Try.prog 53 4 diR diGood := by
  have h0 := DOpen.struct (P := Try.prog) (t := 53) (by kernel_rfl) (by decide) Try.underlying53 (DFields.cons rfl do_ats (DFields.cons rfl (DOpen.bool (by kernel_rfl) (by kernel_rfl)) (DFields.cons rfl do_strs (DFields.cons rfl do_ens DFields.nil))))
  refine h0.map (fun x => (⟨x.1, x.2.1, x.2.2.1, x.2.2.2.1⟩ : Di)) (fun x j hj => ?_) fun x g => (show diGood _ from ⟨g.1, g.2.2.1, g.2.2.2.1⟩)
  match j, hj with
  | 0, _ => rfl
  | 1, _ => rfl
  | 2, _ => rfl
  | 3, _ => rfl
theorem do_dis : DOpen Try.prog 55 1 (slR 4 diR di0) (listG diGood) := DOpen.slice (e := 53) do_di _ (by kernel_rfl) (by kernel_rfl)
theorem ao_dis : AOpen Try.prog 55 (fun l : List Di => .o (.ro 4 l.length (diC l).cell)) (listG diGood) :=
  AOpen.one do_dis (not_st (d := .slice 53) (by kernel_rfl) fun _ h => by cases h) (not_ar (d := .slice 53) (by kernel_rfl) fun _ _ h => by cases h)
end Go.Proofs.Ythhpofehcnjmmaa.Am
