/- Texts of this claim, joined. -/
import Derived.Test.YthhpofehcnjmmaaPk5
set_option linter.unusedSimpArgs false
set_option linter.unusedVariables false
set_option linter.unusedSimpArgs false
set_option linter.unusedVariables false
namespace Go.Proofs.Ythhpofehcnjmmaa.Am
open Go.RowKit Lw
open Br
def natR (n : Nat) (_ : Nat) : DC := .c (.int .i64 n)
abbrev skC (s : List Nat) : Ct := listC natR 0 s
theorem head_take {α : Type} {f : α → Nat → DC} {d : α} {sz k m : Nat} {l : List α} (h : k = m) (hm : m ≤ l.length) : LeDC sz (headC (listC f d l) k) (listC f d (l.take m)) := by
  subst h
  refine ⟨by show k = (l.take k).length; rw [List.length_take]; omega, fun i j hi _ => LeX.of_eq ?_⟩
  show f (l.getD i d) j = f ((l.take k).getD i d) j
  have hi : i < k := hi
  rw [getD_take hi]
set_option maxRecDepth 20000 in
theorem walk_c (l : List Bn) : Con Try.prog 43 [.o (.ro 10 l.length (bnC l).cell)] [] 0 1 U (fun _ => .o (.clo 77 [(0, 0)])) (fun _ => [.box 0 22 [.ro 10 l.length (bnC l).cell]]) := by
  refine con_of Try.func43 rfl (by kernel_rfl) Try.ntmps43 rfl (by first | exact Nat.zero_le _ | decide) (fun _ => ⟨rfl, rfl⟩) fun w S ν => ?_
  (repeat' (first|(with_reducible refine AllP.go ?_;first|exact og|((try simp only [OS]);repeat' (first|exact oj|refine And.intro ?_ ?_)))|(refine rg ?_ ?_)|(with_reducible first|refine stp ?_|refine tD rfl ?_)|(with_reducible first|exact PanicOk.body|exact rd.panic|refine PanicOk.then' ?_|refine PanicOk.block ?_|refine PanicOk.jump ?_)|(refine dc ?_)|(refine dn ?_)|(refine TL.done (by rfl) ?_)|(refine TL.auto tysOk rfl ?_ (by rfl) ?_ ?_)|((refine TL.one (by rfl) ?_);first|(refine sm ?_ ?_)|(refine sp ?_ ?_))|(refine sm ?_ ?_)|refine ct ?_|refine cf ?_|((first|refine gs ?_ ?_|refine gl ?_ ?_|refine gc ?_ ?_)<;>intro h<;>(try simp only [NS] at h)<;>(try exact xf)<;>(try refine rn ?_ ?_))))
  (refine TE.ret' io rfl tysOk (()) ?_ rfl (by rfl) ?_;all_goals (try (first|exact trivial|((with_reducible refine AllP.go ?_);dsimp only [AllP, appP];repeat' (first|refine And.intro ?_ ?_|exact zz)))))
abbrev metE (l : List Bn) (q : Nat) : List (ByteArray × List DC) := (metL l q).map fun t => (t, [.c (.bool true)])
theorem metE_none {l : List Bn} {q : Nat} (h : q < l.length) (hr : (l.getD q b0).red = []) : metE l (q + 1) = metE l q := by
  unfold metE
  rw [metL_none h hr]
theorem get_in {v : List DC} {k : ByteArray} : ∀ {L : List ByteArray}, k ∈ L → getM (L.map fun t => (t, v)) k = some v
  | x :: r, h => by
    rw [List.map_cons, getM]
    by_cases e : x = k
    · rw [if_pos e]
    · rw [if_neg e]
      exact get_in ((List.mem_cons.1 h).elim (fun h => absurd h.symm e) id)
theorem get_out {v : List DC} {k : ByteArray} : ∀ {L : List ByteArray}, k ∉ L → getM (L.map fun t => (t, v)) k = none
  | [], _ => rfl
  | x :: r, h => by
    rw [List.map_cons, getM, if_neg ?_, get_out fun h2 => h (List.mem_cons_of_mem _ h2)]
    intro e
    have e : x = k := e
    exact h (by rw [e]; exact List.mem_cons_self ..)
theorem put_set {v : List DC} {k : ByteArray} : ∀ (L : List ByteArray), k ∉ L → putM (L.map fun t => (t, v)) k v = (L ++ [k]).map fun t => (t, v)
  | [], _ => rfl
  | x :: r, h => by
    rw [List.map_cons, putM, if_neg ?_, put_set r fun h2 => h (List.mem_cons_of_mem _ h2)]
    · rfl
    · intro e
      have e : x = k := e
      exact h (by rw [e]; exact List.mem_cons_self ..)
set_option maxRecDepth 20000 in
set_option maxHeartbeats 4000000 in
theorem checkB_c (l : List Bn) (hl : l.length ≤ 1000000) (hx : ∀ x ∈ l, okB x) : Con Try.prog 13 [.o (.ro 10 l.length (bnC l).cell)] [] 0 0 U (fun _ => .t [.inl (.c (.int .i64 (checkB l).1)), .inl (.c (.int .i64 (checkB l).2))]) G0 := by
  refine con_of Try.func13 rfl (by kernel_rfl) Try.ntmps13 rfl (by first | exact Nat.zero_le _ | decide) (fun _ => ⟨rfl, rfl⟩) fun w S ν => ?_
  have hti : (nds l).length = l.length := List.length_map ..
  have hxn : ∀ x ∈ l, lenN x.nd := fun x h => (hx x h).1.1
  have hxr : ∀ x ∈ nds l, okN x := fun x h => by
    obtain ⟨y, hy, rfl⟩ := List.mem_map.1 h
    exact (hx y hy).1
  have hrt := tree_c l hl hxn
  have hrc := check_c (nds l) (by omega) hxr
  (repeat' (first|(with_reducible refine AllP.go ?_;first|exact og|((try simp only [OS]);repeat' (first|exact oj|refine And.intro ?_ ?_)))|(refine rg ?_ ?_)|(with_reducible first|refine stp ?_|refine tD rfl ?_)|refine ct ?_|refine cf ?_|((first|refine gs ?_ ?_|refine gl ?_ ?_|refine gc ?_ ?_)<;>intro h<;>(try simp only [NS] at h)<;>(try exact xf)<;>(try refine rn ?_ ?_))))
  refine TE.callW (hrt) rfl (by rfl) (by rfl) rfl (by rfl) (by (first|exact trivial|((with_reducible refine AllP.go ?_);dsimp only [AllP, appP];repeat' (first|refine And.intro ?_ ?_|exact zz|assumption)))) ?_
  intro _ _
  ((refine rn ?_ ?_);(repeat' (first|(with_reducible refine AllP.go ?_;first|exact og|((try simp only [OS]);repeat' (first|exact oj|refine And.intro ?_ ?_)))|(refine rg ?_ ?_)|(with_reducible first|refine stp ?_|refine tD rfl ?_)|refine ct ?_|refine cf ?_|((first|refine gs ?_ ?_|refine gl ?_ ?_|refine gc ?_ ?_)<;>intro h<;>(try simp only [NS] at h)<;>(try exact xf)<;>(try refine rn ?_ ?_)))))
  refine TE.callW (hrc) rfl (by rfl) (by rfl) rfl (by rfl) (by (first|exact trivial|((with_reducible refine AllP.go ?_);dsimp only [AllP, appP];repeat' (first|refine And.intro ?_ ?_|exact zz|assumption)))) ?_
  intro _ _
  by_cases hT : (checkT (nds l)).2 ≠ 0
  · have hB : checkB l = checkT (nds l) := if_pos hT
    rw [hB]
    ((refine rn ?_ ?_);(repeat' (first|(with_reducible refine AllP.go ?_;first|exact og|((try simp only [OS]);repeat' (first|exact oj|refine And.intro ?_ ?_)))|(refine rg ?_ ?_)|(with_reducible first|refine stp ?_|refine tD rfl ?_)|refine ct ?_|refine cf ?_|((first|refine gs ?_ ?_|refine gl ?_ ?_|refine gc ?_ ?_)<;>intro h<;>(try simp only [NS] at h)<;>(try exact xf)<;>(try refine rn ?_ ?_)))))
    (refine TE.ret' io rfl tysOk (()) ?_ rfl (by rfl) ?_;all_goals (try (first|exact trivial|((with_reducible refine AllP.go ?_);dsimp only [AllP, appP];repeat' (first|refine And.intro ?_ ?_|exact zz)))))
  have hT := Decidable.not_not.1 hT
  have hT : Tok (nds l) := hT
  ((refine rn ?_ ?_);(repeat' (first|(with_reducible refine AllP.go ?_;first|exact og|((try simp only [OS]);repeat' (first|exact oj|refine And.intro ?_ ?_)))|(refine rg ?_ ?_)|(with_reducible first|refine stp ?_|refine tD rfl ?_)|refine ct ?_|refine cf ?_|((first|refine gs ?_ ?_|refine gl ?_ ?_|refine gc ?_ ?_)<;>intro h<;>(try simp only [NS] at h)<;>(try exact xf)<;>(try refine rn ?_ ?_)))))
  (refine TE.step rfl rfl rfl (fun _ h => nomatch h) (m_mkMp (.ms false []) (by first | exact .inl ⟨_, rfl⟩ | exact .inr ⟨_, rfl⟩) rfl) ?_; rintro _ rfl)
  ((refine rn ?_ ?_);(repeat' (first|(with_reducible refine AllP.go ?_;first|exact og|((try simp only [OS]);repeat' (first|exact oj|refine And.intro ?_ ?_)))|(refine rg ?_ ?_)|(with_reducible first|refine stp ?_|refine tD rfl ?_)|refine ct ?_|refine cf ?_|((first|refine gs ?_ ?_|refine gl ?_ ?_|refine gc ?_ ?_)<;>intro h<;>(try simp only [NS] at h)<;>(try exact xf)<;>(try refine rn ?_ ?_)))))
  refine TE.callW (walk_c l) rfl (by rfl) (by rfl) rfl (by rfl) (by (first|exact trivial|((with_reducible refine AllP.go ?_);dsimp only [AllP, appP];repeat' (first|refine And.intro ?_ ?_|exact zz|assumption)))) ?_
  intro _ _
  ((refine rn ?_ ?_);(repeat' (first|(with_reducible refine AllP.go ?_;first|exact og|((try simp only [OS]);repeat' (first|exact oj|refine And.intro ?_ ?_)))|(refine rg ?_ ?_)|(with_reducible first|refine stp ?_|refine tD rfl ?_)|refine ct ?_|refine cf ?_|((first|refine gs ?_ ?_|refine gl ?_ ?_|refine gc ?_ ?_)<;>intro h<;>(try simp only [NS] at h)<;>(try exact xf)<;>(try refine rn ?_ ?_)))))
  (refine TE.only [25, 6, 3, 2, 1] (by rfl) ?_)
  (refine TE.range rfl (by rfl) (by rfl) (by kernel_rfl) (by rfl) (by rfl) rfl ?_)
  intro l' a1 w0 B0 S0 ν0 L
  (repeat (first|(with_reducible refine AllP.go ?_;first|exact og|((try simp only [OS]);repeat' (first|exact oj|refine And.intro ?_ ?_)))|(refine rg ?_ ?_)|(with_reducible first|refine stp ?_|refine tD rfl ?_)|(with_reducible first|exact PanicOk.body|exact rd.panic|refine PanicOk.then' ?_|refine PanicOk.block ?_|refine PanicOk.jump ?_)|(refine dc ?_)|(refine dn ?_)|(refine TL.done (by rfl) ?_)|(refine TL.auto tysOk rfl ?_ (by rfl) ?_ ?_)|((refine TL.one (by rfl) ?_);first|(refine sm ?_ ?_)|(refine sp ?_ ?_))|(refine sm ?_ ?_)|refine ct ?_|refine cf ?_))
  refine TE.nilOwn 3 3 1 (by rfl) ?_
  refine TE.nilOwn 4 9 1 (by rfl) ?_
  refine TE.loopG (fun q : Nat => q ≤ l.length ∧ ∀ j, j < q → marksE l j = 0) (fun q => [(10, .o (.c (.int .i64 q))), (3, .o (.own 6)), (4, .o (.own 7))]) [6, 7, 3] (fun q => [.own 6 3 1 (skC (stkI (nds l) q)), .own 7 9 1 (paC (pstI (nds l) q)), .obj 3 (.ms false (metE l q))]) (fun q => l.length - q) 0 (by rfl) ⟨Nat.zero_le _, fun j hj => absurd hj (Nat.not_lt_zero _)⟩ ?_ ?_
  · (refine Ent.of rfl rfl (by rfl) ?_;(try (first|exact trivial|((with_reducible refine AllP.go ?_);dsimp only [AllP, appP];repeat' (first|refine And.intro ?_ ?_|exact zz)))))
    · exact LeDC.nil rfl rfl
    · exact LeDC.nil rfl rfl
  rintro q ⟨hq, hg⟩
  by_cases hlt : q < l.length
  · have hxd : ((nds l).getD q n0).depth = (l.getD q b0).nd.depth := by rw [nds_getD]
    have hxnm : ((nds l).getD q n0).name = (l.getD q b0).nd.name := by rw [nds_getD]
    have hks : (skC (stkI (nds l) q)).n = (stkI (nds l) q).length := rfl
    have hkp : (paC (pstI (nds l) q)).n = (pstI (nds l) q).length := rfl
    obtain ⟨f1, f2, f3, f4, f5⟩ := walk_facts hT (q := q) (by omega)
    rw [hxd] at f1 f2 f3
    obtain ⟨d, hd⟩ : ∃ d, d = (l.getD q b0).nd.depth := ⟨_, rfl⟩
    have ht1 : ((stkI (nds l) q).take (l.getD q b0).nd.depth.toNat).length = (l.getD q b0).nd.depth.toNat := by rw [List.length_take]; omega
    have ht2 : ((pstI (nds l) q).take ((l.getD q b0).nd.depth - 1).toNat).length = ((l.getD q b0).nd.depth - 1).toNat := by rw [List.length_take]; omega
    (repeat' (first|(with_reducible refine AllP.go ?_;first|exact og|((try simp only [OS]);repeat' (first|exact oj|refine And.intro ?_ ?_)))|(refine rg ?_ ?_)|(with_reducible first|refine stp ?_|refine tD rfl ?_)|refine ct ?_|refine cf ?_|((first|refine gs ?_ ?_|refine gl ?_ ?_|refine gc ?_ ?_)<;>intro h<;>(try simp only [NS] at h)<;>(try exact xf)<;>(try refine rn ?_ ?_))))
    refine TE.midG (ι := Unit) (fun _ => True) (fun _ => [(3, .o (.own 6)), (4, .o (.own 7))]) [6, 7] (fun _ => [.own 6 3 1 (skC ((stkI (nds l) q).take (l.getD q b0).nd.depth.toNat)), .own 7 9 1 (paC ((pstI (nds l) q).take ((l.getD q b0).nd.depth - 1).toNat))]) (by rfl) ?_ fun _ _ => ?_
    · (refine TE.drawK (fun i => !(Nat.beq i 6 || Nat.beq i 7)) (by rfl) (by rfl) (by rfl) ?_)
      (repeat' (first|(with_reducible refine AllP.go ?_;first|exact og|((try simp only [OS]);repeat' (first|exact oj|refine And.intro ?_ ?_)))|(with_reducible first|exact PanicOk.body|exact rd.panic|refine PanicOk.then' ?_|refine PanicOk.block ?_|refine PanicOk.jump ?_)|(refine TL.done (by rfl) ?_)|(refine TL.auto tysOk rfl ?_ (by rfl) ?_ ?_)|((refine TL.one (by rfl) ?_);first|(refine sm ?_ ?_)|(refine sp ?_ ?_)|(refine StepL.law rfl rfl rfl (fun _ h => nomatch h) rfl (m_nilO rfl rfl) (by rfl) ?_;rintro _ rfl)|(refine StepL.law rfl rfl rfl (fun _ h => nomatch h) rfl (m_cutOwn tysOk rfl (und_slice tysOk rfl) rfl rfl rfl rfl rfl ?_) (by rfl) ?_;rotate_left;rintro _ rfl;rotate_right;first|omega|skip))|(refine sm ?_ ?_)|(refine sp ?_ ?_)|(refine StepL.law rfl rfl rfl (fun _ h => nomatch h) rfl (m_nilO rfl rfl) (by rfl) ?_;rintro _ rfl)|(refine StepL.law rfl rfl rfl (fun _ h => nomatch h) rfl (m_cutOwn tysOk rfl (und_slice tysOk rfl) rfl rfl rfl rfl rfl ?_) (by rfl) ?_;rotate_left;rintro _ rfl;rotate_right;first|omega|skip)|((first|refine gl ?_ ?_|refine gc ?_ ?_)<;>intro h<;>(try simp only [NS] at h)<;>(try exact xf))|(refine TL.two (by rfl) ?_ ?_)|(refine TL.three (by rfl) ?_ ?_ ?_)|(refine TL.four (by rfl) ?_ ?_ ?_ ?_)))
      all_goals first | (simp only [Int.toNat_natCast]; rw [hks]; omega) | skip
      all_goals (repeat (with_reducible first|refine stp ?_|refine tD rfl ?_))
      all_goals (refine TE.at () trivial ?_;(refine Ent.of rfl rfl (by rfl) ?_;(try (first|exact trivial|((with_reducible refine AllP.go ?_);dsimp only [AllP, appP];repeat' (first|refine And.intro ?_ ?_|exact zz))))))
      all_goals first
        | exact head_take (by simp only [Int.toNat_natCast]; rw [hks]; omega) (by omega)
        | exact head_take (by simp only [Int.toNat_natCast]; rw [hkp]; omega) (by omega)
    (repeat (with_reducible first|refine stp ?_|refine tD rfl ?_))
    ((refine rg ?_ ?_);try (with_reducible refine AllP.go ?_;first|exact og|((try simp only [OS]);repeat' (first|exact oj|refine And.intro ?_ ?_))))
    refine TE.done (TE.thenN ?_)
    refine TE.seq ?_
    refine TE.midG (ι := Unit) (fun _ => True) (fun _ => [(4, .o (.own 7)), (7, .o (.c (.int .i64 (aboveI (nds l) q))))]) [7] (fun _ => [.own 7 9 1 (paC (pstI (nds l) (q + 1)))]) (by rfl) ?_ fun _ _ => ?_
    · rcases Nat.eq_zero_or_pos q with h0 | h0
      · subst h0
        obtain ⟨r1, r2, r3⟩ := walk_root hT
        rw [hxd] at r1
        have ht3 : ((stkI (nds l) 0).take (l.getD 0 b0).nd.depth.toNat).length = 0 := by rw [ht1, r1]; rfl
        (repeat' (first|(with_reducible refine AllP.go ?_;first|exact og|((try simp only [OS]);repeat' (first|exact oj|refine And.intro ?_ ?_)))|(refine rg ?_ ?_)|(with_reducible first|refine stp ?_|refine tD rfl ?_)|refine ct ?_|refine cf ?_|((first|refine gs ?_ ?_|refine gl ?_ ?_|refine gc ?_ ?_)<;>intro h<;>(try simp only [NS] at h)<;>(try exact xf)<;>(try refine rn ?_ ?_))))
        (refine TE.at () trivial ?_;(refine Ent.of rfl rfl (by rfl) ?_;(try (first|exact trivial|((with_reducible refine AllP.go ?_);dsimp only [AllP, appP];repeat' (first|refine And.intro ?_ ?_|exact zz))))))
        rw [r3, List.take_nil, pstI_zero (by omega)]
        exact LeD.refl
      · obtain ⟨k1, _, _, _, _, k6⟩ := walk_at hT (q := q) (by omega) h0
        rw [hxd] at k1 k6
        have hix : (((skC ((stkI (nds l) q).take (l.getD q b0).nd.depth.toNat)).n : Int) - 1).toNat = ((l.getD q b0).nd.depth - 1).toNat := by
          show ((((stkI (nds l) q).take (l.getD q b0).nd.depth.toNat).length : Int) - 1).toNat = _
          rw [ht1]
          omega
        have hps := pstI_succ (l := nds l) (q := q) (by omega) h0
        rw [hxd, hxnm] at hps
        (repeat' (first|(with_reducible refine AllP.go ?_;first|exact og|((try simp only [OS]);repeat' (first|exact oj|refine And.intro ?_ ?_)))|(refine rg ?_ ?_)|(with_reducible first|refine stp ?_|refine tD rfl ?_)|refine ct ?_|refine cf ?_|((first|refine gs ?_ ?_|refine gl ?_ ?_|refine gc ?_ ?_)<;>intro h<;>(try simp only [NS] at h)<;>(try exact xf)<;>(try refine rn ?_ ?_))))
        (refine TE.at () trivial ?_;(refine Ent.of rfl rfl (by rfl) ?_;(try (first|exact trivial|((with_reducible refine AllP.go ?_);dsimp only [AllP, appP];repeat' (first|refine And.intro ?_ ?_|exact zz))))))
        · refine congrArg (Value.int _) ?_
          rw [hix, k6, getD_take (by omega)]
        · exact listC_snoc _ hps (nth1 rfl)
    (refine TE.only [10, 9, 8, 7, 6, 5, 4, 3, 1, 0] (by rfl) ?_)
    have hpl : (pstI (nds l) (q + 1)).length ≤ 1000000 := by rw [pstI_path hT (by omega)]; have := (pcheck_iff.1 (path_ok hT q (by omega))).1; omega
    (repeat' (first|(with_reducible refine AllP.go ?_;first|exact og|((try simp only [OS]);repeat' (first|exact oj|refine And.intro ?_ ?_)))|(refine rg ?_ ?_)|(with_reducible first|refine stp ?_|refine tD rfl ?_)|refine ct ?_|refine cf ?_|((first|refine gs ?_ ?_|refine gl ?_ ?_|refine gc ?_ ?_)<;>intro h<;>(try simp only [NS] at h)<;>(try exact xf)<;>(try refine rn ?_ ?_))))
    refine TE.callW (cloneO_c (pstI (nds l) (q + 1)) hpl) rfl (by rfl) (by rfl) rfl (by rfl) (by (first|exact trivial|((with_reducible refine AllP.go ?_);dsimp only [AllP, appP];repeat' (first|refine And.intro ?_ ?_|exact zz|assumption)))) ?_
    intro _ _
    ((refine rn ?_ ?_);try (with_reducible refine AllP.go ?_;first|exact og|((try simp only [OS]);repeat' (first|exact oj|refine And.intro ?_ ?_))))
    (refine TE.freezeN 11 (by rfl) (by rfl) ?_)
    (refine TE.only [54, 50, 49, 10, 9, 8, 4, 3, 1, 0] (by rfl) ?_)
    (refine TE.yield L rfl (by rfl) (by rfl) rfl rfl (by rfl) (by rfl) (by rfl) rfl (by rfl) ?_)
    intro Qr w1 B1 S1 ν1 rd
    (repeat (first|(with_reducible refine AllP.go ?_;first|exact og|((try simp only [OS]);repeat' (first|exact oj|refine And.intro ?_ ?_)))|(refine rg ?_ ?_)|(with_reducible first|refine stp ?_|refine tD rfl ?_)|(with_reducible first|exact PanicOk.body|exact rd.panic|refine PanicOk.then' ?_|refine PanicOk.block ?_|refine PanicOk.jump ?_)|(refine dc ?_)|(refine dn ?_)|(refine TL.done (by rfl) ?_)|(refine TL.auto tysOk rfl ?_ (by rfl) ?_ ?_)|((refine TL.one (by rfl) ?_);first|(refine sm ?_ ?_)|(refine sp ?_ ?_))|(refine sm ?_ ?_)|refine ct ?_|refine cf ?_))
    refine rd.begin ?_
    clear rd
    intro w1 B1 S1 ν1 rd
    have hmE := marksE_X l q
    have hst := stkI_succ (l := nds l) (q := q) (by omega)
    rw [hxd] at hst
    have hpp : pstI (nds l) (q + 1) = pathI (nds l) q := pstI_path hT (by omega)
    have hrl : (l.getD q b0).red = [] ↔ (l.getD q b0).red.length = 0 := List.length_eq_zero_iff.symm
    obtain ⟨x1, x2, x3⟩ := hx _ (getD_mem (d := b0) hlt)
    have hnext : marksE l q = 0 → ∀ j, j < q + 1 → marksE l j = 0 := fun he j hj => by
      rcases Nat.lt_or_ge j q with h5 | h5
      · exact hg j h5
      · obtain rfl : j = q := by omega
        exact he
    (repeat (with_reducible first|refine stp ?_|refine tD rfl ?_))
    ((refine rg ?_ ?_);try (with_reducible refine AllP.go ?_;first|exact og|((try simp only [OS]);repeat' (first|exact oj|refine And.intro ?_ ?_))))
    refine TE.done (TE.thenN ?_)
    (refine TE.only [9, 8, 7, 6, 3, 2, 1] (by rfl) ?_)
    cases ho : (l.getD q b0).opq
    · rw [show (l.getD ((q : Nat) : Int).toNat b0).opq = false from ho]
      by_cases hr : (l.getD q b0).red = []
      · have hr0 := hrl.1 hr
        rw [marksX_none hr ho] at hmE
        by_cases h5 : (l.getD q b0).nd.kind = 5
        · have hi0 : 0 < q := by
            rcases Nat.eq_zero_or_pos q with e | e
            · subst e
              have := (node_zero ((tok_node hT).2.2 0 (by omega))).1
              rw [nds_getD] at this
              unfold placeE at this
              simp only [List.take_zero, List.reverse_nil] at this
              split at this
              · exact absurd this (by decide)
              · omega
            · exact e
          obtain ⟨a1, a2⟩ := above_pos hT hi0 (by omega)
          obtain ⟨k, hk⟩ : ∃ k : Nat, aboveI (nds l) q = k := ⟨(aboveI (nds l) q).toNat, by omega⟩
          have hu : opqAt l (aboveI (nds l) q) = (l.getD k b0).opq := by rw [hk]; unfold opqAt; simp
          rw [hu] at hmE
          rw [hk] at a1 a2 ⊢
          (repeat' (first|(with_reducible refine AllP.go ?_;first|exact og|((try simp only [OS]);repeat' (first|exact oj|refine And.intro ?_ ?_)))|(refine rg ?_ ?_)|(with_reducible first|refine stp ?_|refine tD rfl ?_)|refine ct ?_|refine cf ?_|((first|refine gs ?_ ?_|refine gl ?_ ?_|refine gc ?_ ?_)<;>intro h<;>(try simp only [NS] at h)<;>(try exact xf)<;>(try refine rn ?_ ?_))))
          rw [show (l.getD ((k : Nat) : Int).toNat b0).opq = (l.getD k b0).opq from rfl]
          cases hok : (l.getD k b0).opq
          · rw [hok, if_neg (by simp)] at hmE
            (repeat' (first|(with_reducible refine AllP.go ?_;first|exact og|((try simp only [OS]);repeat' (first|exact oj|refine And.intro ?_ ?_)))|(refine rg ?_ ?_)|(with_reducible first|refine stp ?_|refine tD rfl ?_)|refine ct ?_|refine cf ?_|((first|refine gs ?_ ?_|refine gl ?_ ?_|refine gc ?_ ?_)<;>intro h<;>(try simp only [NS] at h)<;>(try exact xf)<;>(try refine rn ?_ ?_))))
            refine rd.normal ?_
            ((refine rn ?_ ?_);(repeat' (first|(with_reducible refine AllP.go ?_;first|exact og|((try simp only [OS]);repeat' (first|exact oj|refine And.intro ?_ ?_)))|(refine rg ?_ ?_)|(with_reducible first|refine stp ?_|refine tD rfl ?_)|refine ct ?_|refine cf ?_|((first|refine gs ?_ ?_|refine gl ?_ ?_|refine gc ?_ ?_)<;>intro h<;>(try simp only [NS] at h)<;>(try exact xf)<;>(try refine rn ?_ ?_)))))
            refine TE.again' (q + 1) ⟨by omega, hnext hmE⟩ (by omega) ?_
            (refine Ent.of rfl rfl (by rfl) ?_;(try (first|exact trivial|((with_reducible refine AllP.go ?_);dsimp only [AllP, appP];repeat' (first|refine And.intro ?_ ?_|exact zz)))))
            all_goals first | exact listC_snoc _ hst (nth1 rfl) | exact congrArg (AO.ms false) (metE_none hlt hr).symm
          · rw [hok, if_pos ⟨h5, rfl⟩] at hmE
            (repeat' (first|(with_reducible refine AllP.go ?_;first|exact og|((try simp only [OS]);repeat' (first|exact oj|refine And.intro ?_ ?_)))|(refine rg ?_ ?_)|(with_reducible first|refine stp ?_|refine tD rfl ?_)|refine ct ?_|refine cf ?_|((first|refine gs ?_ ?_|refine gl ?_ ?_|refine gc ?_ ?_)<;>intro h<;>(try simp only [NS] at h)<;>(try exact xf)<;>(try refine rn ?_ ?_))))
            (refine rd.ret ?_;intro w2 B2 S2 ν2 L2;((refine rn ?_ ?_);(repeat' (first|(with_reducible refine AllP.go ?_;first|exact og|((try simp only [OS]);repeat' (first|exact oj|refine And.intro ?_ ?_)))|(refine rg ?_ ?_)|(with_reducible first|refine stp ?_|refine tD rfl ?_)|refine ct ?_|refine cf ?_|((first|refine gs ?_ ?_|refine gl ?_ ?_|refine gc ?_ ?_)<;>intro h<;>(try simp only [NS] at h)<;>(try exact xf)<;>(try refine rn ?_ ?_)))));refine TE.iterStop L2 io (by rfl) ?_;(repeat' (first|(with_reducible refine AllP.go ?_;first|exact og|((try simp only [OS]);repeat' (first|exact oj|refine And.intro ?_ ?_)))|(refine rg ?_ ?_)|(with_reducible first|refine stp ?_|refine tD rfl ?_)|refine ct ?_|refine cf ?_|((first|refine gs ?_ ?_|refine gl ?_ ?_|refine gc ?_ ?_)<;>intro h<;>(try simp only [NS] at h)<;>(try exact xf)<;>(try refine rn ?_ ?_)))))
            rw [checkB_bad hT hlt hg (by rw [hmE]; decide), hmE]
            (refine TE.ret' io rfl tysOk (()) ?_ rfl (by rfl) ?_;all_goals (try (first|exact trivial|((with_reducible refine AllP.go ?_);dsimp only [AllP, appP];repeat' (first|refine And.intro ?_ ?_|exact zz)))))
        · rw [if_neg (fun k => h5 k.1)] at hmE
          (repeat' (first|(with_reducible refine AllP.go ?_;first|exact og|((try simp only [OS]);repeat' (first|exact oj|refine And.intro ?_ ?_)))|(refine rg ?_ ?_)|(with_reducible first|refine stp ?_|refine tD rfl ?_)|refine ct ?_|refine cf ?_|((first|refine gs ?_ ?_|refine gl ?_ ?_|refine gc ?_ ?_)<;>intro h<;>(try simp only [NS] at h)<;>(try exact xf)<;>(try refine rn ?_ ?_))))
          all_goals refine rd.normal ?_
          all_goals ((refine rn ?_ ?_);(repeat' (first|(with_reducible refine AllP.go ?_;first|exact og|((try simp only [OS]);repeat' (first|exact oj|refine And.intro ?_ ?_)))|(refine rg ?_ ?_)|(with_reducible first|refine stp ?_|refine tD rfl ?_)|refine ct ?_|refine cf ?_|((first|refine gs ?_ ?_|refine gl ?_ ?_|refine gc ?_ ?_)<;>intro h<;>(try simp only [NS] at h)<;>(try exact xf)<;>(try refine rn ?_ ?_)))))
          all_goals refine TE.again' (q + 1) ⟨by omega, hnext hmE⟩ (by omega) ?_
          all_goals (refine Ent.of rfl rfl (by rfl) ?_;(try (first|exact trivial|((with_reducible refine AllP.go ?_);dsimp only [AllP, appP];repeat' (first|refine And.intro ?_ ?_|exact zz)))))
          all_goals first | exact listC_snoc _ hst (nth1 rfl) | exact congrArg (AO.ms false) (metE_none hlt hr).symm
      · have hr0 : 0 < (l.getD q b0).red.length := List.length_pos_iff.2 hr
        rw [marksX_red hr ho] at hmE
        by_cases hk : (l.getD q b0).nd.kind = 1 ∧ q ≠ 0
        · rw [if_pos hk] at hmE
          have hpc := print_c (l.getD q b0).red x3 x2
          have hpq := equalS_c (l.getD q b0).red (pstI (nds l) (q + 1)) x2 hpl
          (repeat' (first|(with_reducible refine AllP.go ?_;first|exact og|((try simp only [OS]);repeat' (first|exact oj|refine And.intro ?_ ?_)))|(refine rg ?_ ?_)|(with_reducible first|refine stp ?_|refine tD rfl ?_)|refine ct ?_|refine cf ?_|((first|refine gs ?_ ?_|refine gl ?_ ?_|refine gc ?_ ?_)<;>intro h<;>(try simp only [NS] at h)<;>(try exact xf)<;>(try refine rn ?_ ?_))))
          refine TE.callW (hpc) rfl (by rfl) (by rfl) rfl (by rfl) (by (first|exact trivial|((with_reducible refine AllP.go ?_);dsimp only [AllP, appP];repeat' (first|refine And.intro ?_ ?_|exact zz|assumption)))) ?_
          intro _ _
          by_cases hp : pcheckE (l.getD q b0).red ≠ 0
          · rw [if_pos hp] at hmE
            rw [show printE (l.getD q b0).red = (eS, pcheckE (l.getD q b0).red) from if_pos hp]
            ((refine rn ?_ ?_);(repeat' (first|(with_reducible refine AllP.go ?_;first|exact og|((try simp only [OS]);repeat' (first|exact oj|refine And.intro ?_ ?_)))|(refine rg ?_ ?_)|(with_reducible first|refine stp ?_|refine tD rfl ?_)|refine ct ?_|refine cf ?_|((first|refine gs ?_ ?_|refine gl ?_ ?_|refine gc ?_ ?_)<;>intro h<;>(try simp only [NS] at h)<;>(try exact xf)<;>(try refine rn ?_ ?_)))))
            (refine rd.ret ?_;intro w2 B2 S2 ν2 L2;((refine rn ?_ ?_);(repeat' (first|(with_reducible refine AllP.go ?_;first|exact og|((try simp only [OS]);repeat' (first|exact oj|refine And.intro ?_ ?_)))|(refine rg ?_ ?_)|(with_reducible first|refine stp ?_|refine tD rfl ?_)|refine ct ?_|refine cf ?_|((first|refine gs ?_ ?_|refine gl ?_ ?_|refine gc ?_ ?_)<;>intro h<;>(try simp only [NS] at h)<;>(try exact xf)<;>(try refine rn ?_ ?_)))));refine TE.iterStop L2 io (by rfl) ?_;(repeat' (first|(with_reducible refine AllP.go ?_;first|exact og|((try simp only [OS]);repeat' (first|exact oj|refine And.intro ?_ ?_)))|(refine rg ?_ ?_)|(with_reducible first|refine stp ?_|refine tD rfl ?_)|refine ct ?_|refine cf ?_|((first|refine gs ?_ ?_|refine gl ?_ ?_|refine gc ?_ ?_)<;>intro h<;>(try simp only [NS] at h)<;>(try exact xf)<;>(try refine rn ?_ ?_)))))
            rw [checkB_bad hT hlt hg (by rw [hmE]; exact hp), hmE]
            (refine TE.ret' io rfl tysOk (()) ?_ rfl (by rfl) ?_;all_goals (try (first|exact trivial|((with_reducible refine AllP.go ?_);dsimp only [AllP, appP];repeat' (first|refine And.intro ?_ ?_|exact zz)))))
          rw [if_neg hp] at hmE
          rw [show printE (l.getD q b0).red = (textS (l.getD q b0).red, 0) from if_neg hp]
          ((refine rn ?_ ?_);(repeat' (first|(with_reducible refine AllP.go ?_;first|exact og|((try simp only [OS]);repeat' (first|exact oj|refine And.intro ?_ ?_)))|(refine rg ?_ ?_)|(with_reducible first|refine stp ?_|refine tD rfl ?_)|refine ct ?_|refine cf ?_|((first|refine gs ?_ ?_|refine gl ?_ ?_|refine gc ?_ ?_)<;>intro h<;>(try simp only [NS] at h)<;>(try exact xf)<;>(try refine rn ?_ ?_)))))
          refine TE.callW (hpq) rfl (by rfl) (by rfl) rfl (by rfl) (by (first|exact trivial|((with_reducible refine AllP.go ?_);dsimp only [AllP, appP];repeat' (first|refine And.intro ?_ ?_|exact zz|assumption)))) ?_
          intro _ _
          rw [hpp]
          by_cases he : (l.getD q b0).red = pathI (nds l) q
          · rw [if_pos he] at hmE
            ((refine rn ?_ ?_);(repeat' (first|(with_reducible refine AllP.go ?_;first|exact og|((try simp only [OS]);repeat' (first|exact oj|refine And.intro ?_ ?_)))|(refine rg ?_ ?_)|(with_reducible first|refine stp ?_|refine tD rfl ?_)|refine ct ?_|refine cf ?_|((first|refine gs ?_ ?_|refine gl ?_ ?_|refine gc ?_ ?_)<;>intro h<;>(try simp only [NS] at h)<;>(try exact xf)<;>(try refine rn ?_ ?_)))))
            (refine rd.ret ?_;intro w2 B2 S2 ν2 L2;((refine rn ?_ ?_);(repeat' (first|(with_reducible refine AllP.go ?_;first|exact og|((try simp only [OS]);repeat' (first|exact oj|refine And.intro ?_ ?_)))|(refine rg ?_ ?_)|(with_reducible first|refine stp ?_|refine tD rfl ?_)|refine ct ?_|refine cf ?_|((first|refine gs ?_ ?_|refine gl ?_ ?_|refine gc ?_ ?_)<;>intro h<;>(try simp only [NS] at h)<;>(try exact xf)<;>(try refine rn ?_ ?_)))));refine TE.iterStop L2 io (by rfl) ?_;(repeat' (first|(with_reducible refine AllP.go ?_;first|exact og|((try simp only [OS]);repeat' (first|exact oj|refine And.intro ?_ ?_)))|(refine rg ?_ ?_)|(with_reducible first|refine stp ?_|refine tD rfl ?_)|refine ct ?_|refine cf ?_|((first|refine gs ?_ ?_|refine gl ?_ ?_|refine gc ?_ ?_)<;>intro h<;>(try simp only [NS] at h)<;>(try exact xf)<;>(try refine rn ?_ ?_)))))
            rw [checkB_bad hT hlt hg (by rw [hmE]; decide), hmE]
            (refine TE.ret' io rfl tysOk (()) ?_ rfl (by rfl) ?_;all_goals (try (first|exact trivial|((with_reducible refine AllP.go ?_);dsimp only [AllP, appP];repeat' (first|refine And.intro ?_ ?_|exact zz)))))
          rw [if_neg he] at hmE
          have hmd := met_dup hlt hg hr (Decidable.not_not.1 hp)
          ((refine rn ?_ ?_);(repeat' (first|(with_reducible refine AllP.go ?_;first|exact og|((try simp only [OS]);repeat' (first|exact oj|refine And.intro ?_ ?_)))|(refine rg ?_ ?_)|(with_reducible first|refine stp ?_|refine tD rfl ?_)|refine ct ?_|refine cf ?_|((first|refine gs ?_ ?_|refine gl ?_ ?_|refine gc ?_ ?_)<;>intro h<;>(try simp only [NS] at h)<;>(try exact xf)<;>(try refine rn ?_ ?_)))))
          by_cases hd : dupB l q = true
          · rw [if_pos hd] at hmE
            have hgt : getM (metE l q) (textS (l.getD q b0).red) = some [.c (.bool true)] := get_in (hmd.2 hd)
            (refine TE.step rfl rfl rfl (fun _ h => nomatch h) (m_mpGet (mpS false) rfl (Try.underlying74) (Try.underlying9) rfl rfl rfl (hgt) rfl) ?_; rintro _ rfl)
            ((refine rn ?_ ?_);(repeat' (first|(with_reducible refine AllP.go ?_;first|exact og|((try simp only [OS]);repeat' (first|exact oj|refine And.intro ?_ ?_)))|(refine rg ?_ ?_)|(with_reducible first|refine stp ?_|refine tD rfl ?_)|refine ct ?_|refine cf ?_|((first|refine gs ?_ ?_|refine gl ?_ ?_|refine gc ?_ ?_)<;>intro h<;>(try simp only [NS] at h)<;>(try exact xf)<;>(try refine rn ?_ ?_)))))
            (refine rd.ret ?_;intro w2 B2 S2 ν2 L2;((refine rn ?_ ?_);(repeat' (first|(with_reducible refine AllP.go ?_;first|exact og|((try simp only [OS]);repeat' (first|exact oj|refine And.intro ?_ ?_)))|(refine rg ?_ ?_)|(with_reducible first|refine stp ?_|refine tD rfl ?_)|refine ct ?_|refine cf ?_|((first|refine gs ?_ ?_|refine gl ?_ ?_|refine gc ?_ ?_)<;>intro h<;>(try simp only [NS] at h)<;>(try exact xf)<;>(try refine rn ?_ ?_)))));refine TE.iterStop L2 io (by rfl) ?_;(repeat' (first|(with_reducible refine AllP.go ?_;first|exact og|((try simp only [OS]);repeat' (first|exact oj|refine And.intro ?_ ?_)))|(refine rg ?_ ?_)|(with_reducible first|refine stp ?_|refine tD rfl ?_)|refine ct ?_|refine cf ?_|((first|refine gs ?_ ?_|refine gl ?_ ?_|refine gc ?_ ?_)<;>intro h<;>(try simp only [NS] at h)<;>(try exact xf)<;>(try refine rn ?_ ?_)))))
            rw [checkB_bad hT hlt hg (by rw [hmE]; decide), hmE]
            (refine TE.ret' io rfl tysOk (()) ?_ rfl (by rfl) ?_;all_goals (try (first|exact trivial|((with_reducible refine AllP.go ?_);dsimp only [AllP, appP];repeat' (first|refine And.intro ?_ ?_|exact zz)))))
          · rw [if_neg hd] at hmE
            have hgt : getM (metE l q) (textS (l.getD q b0).red) = none := get_out (fun h => hd (hmd.1 h))
            have hpt : putM (metE l q) (textS (l.getD q b0).red) [.c (.bool true)] = metE l (q + 1) := by
              unfold metE
              rw [metL_some hlt hr]
              exact put_set _ (fun h => hd (hmd.1 h))
            (refine TE.step rfl rfl rfl (fun _ h => nomatch h) (m_mpNone tysOk (mpS false) rfl (Try.underlying74) (Try.underlying9) rfl rfl rfl (hgt) rfl rfl rfl) ?_; rintro _ rfl)
            ((refine rn ?_ ?_);(repeat' (first|(with_reducible refine AllP.go ?_;first|exact og|((try simp only [OS]);repeat' (first|exact oj|refine And.intro ?_ ?_)))|(refine rg ?_ ?_)|(with_reducible first|refine stp ?_|refine tD rfl ?_)|refine ct ?_|refine cf ?_|((first|refine gs ?_ ?_|refine gl ?_ ?_|refine gc ?_ ?_)<;>intro h<;>(try simp only [NS] at h)<;>(try exact xf)<;>(try refine rn ?_ ?_)))))
            (refine TE.step rfl rfl rfl (fun _ h => nomatch h) (m_mpUp (mpS false) rfl rfl (Try.underlying74) (Try.underlying9) rfl rfl rfl rfl rfl) ?_; rintro _ rfl)
            ((refine rn ?_ ?_);(repeat' (first|(with_reducible refine AllP.go ?_;first|exact og|((try simp only [OS]);repeat' (first|exact oj|refine And.intro ?_ ?_)))|(refine rg ?_ ?_)|(with_reducible first|refine stp ?_|refine tD rfl ?_)|refine ct ?_|refine cf ?_|((first|refine gs ?_ ?_|refine gl ?_ ?_|refine gc ?_ ?_)<;>intro h<;>(try simp only [NS] at h)<;>(try exact xf)<;>(try refine rn ?_ ?_)))))
            refine rd.normal ?_
            ((refine rn ?_ ?_);(repeat' (first|(with_reducible refine AllP.go ?_;first|exact og|((try simp only [OS]);repeat' (first|exact oj|refine And.intro ?_ ?_)))|(refine rg ?_ ?_)|(with_reducible first|refine stp ?_|refine tD rfl ?_)|refine ct ?_|refine cf ?_|((first|refine gs ?_ ?_|refine gl ?_ ?_|refine gc ?_ ?_)<;>intro h<;>(try simp only [NS] at h)<;>(try exact xf)<;>(try refine rn ?_ ?_)))))
            refine TE.again' (q + 1) ⟨by omega, hnext hmE⟩ (by omega) ?_
            (refine Ent.of rfl rfl (by rfl) ?_;(try (first|exact trivial|((with_reducible refine AllP.go ?_);dsimp only [AllP, appP];repeat' (first|refine And.intro ?_ ?_|exact zz)))))
            all_goals first | exact listC_snoc _ hst (nth1 rfl) | exact congrArg (AO.ms false) hpt | (rw [hpp]; exact LeD.refl)
        · rw [if_neg hk] at hmE
          (repeat' (first|(with_reducible refine AllP.go ?_;first|exact og|((try simp only [OS]);repeat' (first|exact oj|refine And.intro ?_ ?_)))|(refine rg ?_ ?_)|(with_reducible first|refine stp ?_|refine tD rfl ?_)|refine ct ?_|refine cf ?_|((first|refine gs ?_ ?_|refine gl ?_ ?_|refine gc ?_ ?_)<;>intro h<;>(try simp only [NS] at h)<;>(try exact xf)<;>(try refine rn ?_ ?_))))
          all_goals (refine rd.ret ?_;intro w2 B2 S2 ν2 L2;((refine rn ?_ ?_);(repeat' (first|(with_reducible refine AllP.go ?_;first|exact og|((try simp only [OS]);repeat' (first|exact oj|refine And.intro ?_ ?_)))|(refine rg ?_ ?_)|(with_reducible first|refine stp ?_|refine tD rfl ?_)|refine ct ?_|refine cf ?_|((first|refine gs ?_ ?_|refine gl ?_ ?_|refine gc ?_ ?_)<;>intro h<;>(try simp only [NS] at h)<;>(try exact xf)<;>(try refine rn ?_ ?_)))));refine TE.iterStop L2 io (by rfl) ?_;(repeat' (first|(with_reducible refine AllP.go ?_;first|exact og|((try simp only [OS]);repeat' (first|exact oj|refine And.intro ?_ ?_)))|(refine rg ?_ ?_)|(with_reducible first|refine stp ?_|refine tD rfl ?_)|refine ct ?_|refine cf ?_|((first|refine gs ?_ ?_|refine gl ?_ ?_|refine gc ?_ ?_)<;>intro h<;>(try simp only [NS] at h)<;>(try exact xf)<;>(try refine rn ?_ ?_)))))
          all_goals rw [checkB_bad hT hlt hg (by rw [hmE]; decide), hmE]
          all_goals (refine TE.ret' io rfl tysOk (()) ?_ rfl (by rfl) ?_;all_goals (try (first|exact trivial|((with_reducible refine AllP.go ?_);dsimp only [AllP, appP];repeat' (first|refine And.intro ?_ ?_|exact zz)))))
    · rw [show (l.getD ((q : Nat) : Int).toNat b0).opq = true from ho]
      by_cases hr : (l.getD q b0).red = []
      · have hr0 := hrl.1 hr
        rw [marksX_opq hr ho] at hmE
        by_cases hk : (l.getD q b0).nd.kind = 1
        · rw [if_pos hk] at hmE
          (repeat' (first|(with_reducible refine AllP.go ?_;first|exact og|((try simp only [OS]);repeat' (first|exact oj|refine And.intro ?_ ?_)))|(refine rg ?_ ?_)|(with_reducible first|refine stp ?_|refine tD rfl ?_)|refine ct ?_|refine cf ?_|((first|refine gs ?_ ?_|refine gl ?_ ?_|refine gc ?_ ?_)<;>intro h<;>(try simp only [NS] at h)<;>(try exact xf)<;>(try refine rn ?_ ?_))))
          all_goals refine rd.normal ?_
          all_goals ((refine rn ?_ ?_);(repeat' (first|(with_reducible refine AllP.go ?_;first|exact og|((try simp only [OS]);repeat' (first|exact oj|refine And.intro ?_ ?_)))|(refine rg ?_ ?_)|(with_reducible first|refine stp ?_|refine tD rfl ?_)|refine ct ?_|refine cf ?_|((first|refine gs ?_ ?_|refine gl ?_ ?_|refine gc ?_ ?_)<;>intro h<;>(try simp only [NS] at h)<;>(try exact xf)<;>(try refine rn ?_ ?_)))))
          all_goals refine TE.again' (q + 1) ⟨by omega, hnext hmE⟩ (by omega) ?_
          all_goals (refine Ent.of rfl rfl (by rfl) ?_;(try (first|exact trivial|((with_reducible refine AllP.go ?_);dsimp only [AllP, appP];repeat' (first|refine And.intro ?_ ?_|exact zz)))))
          all_goals first | exact listC_snoc _ hst (nth1 rfl) | exact congrArg (AO.ms false) (metE_none hlt hr).symm
        · rw [if_neg hk] at hmE
          (repeat' (first|(with_reducible refine AllP.go ?_;first|exact og|((try simp only [OS]);repeat' (first|exact oj|refine And.intro ?_ ?_)))|(refine rg ?_ ?_)|(with_reducible first|refine stp ?_|refine tD rfl ?_)|refine ct ?_|refine cf ?_|((first|refine gs ?_ ?_|refine gl ?_ ?_|refine gc ?_ ?_)<;>intro h<;>(try simp only [NS] at h)<;>(try exact xf)<;>(try refine rn ?_ ?_))))
          (refine rd.ret ?_;intro w2 B2 S2 ν2 L2;((refine rn ?_ ?_);(repeat' (first|(with_reducible refine AllP.go ?_;first|exact og|((try simp only [OS]);repeat' (first|exact oj|refine And.intro ?_ ?_)))|(refine rg ?_ ?_)|(with_reducible first|refine stp ?_|refine tD rfl ?_)|refine ct ?_|refine cf ?_|((first|refine gs ?_ ?_|refine gl ?_ ?_|refine gc ?_ ?_)<;>intro h<;>(try simp only [NS] at h)<;>(try exact xf)<;>(try refine rn ?_ ?_)))));refine TE.iterStop L2 io (by rfl) ?_;(repeat' (first|(with_reducible refine AllP.go ?_;first|exact og|((try simp only [OS]);repeat' (first|exact oj|refine And.intro ?_ ?_)))|(refine rg ?_ ?_)|(with_reducible first|refine stp ?_|refine tD rfl ?_)|refine ct ?_|refine cf ?_|((first|refine gs ?_ ?_|refine gl ?_ ?_|refine gc ?_ ?_)<;>intro h<;>(try simp only [NS] at h)<;>(try exact xf)<;>(try refine rn ?_ ?_)))))
          rw [checkB_bad hT hlt hg (by rw [hmE]; decide), hmE]
          (refine TE.ret' io rfl tysOk (()) ?_ rfl (by rfl) ?_;all_goals (try (first|exact trivial|((with_reducible refine AllP.go ?_);dsimp only [AllP, appP];repeat' (first|refine And.intro ?_ ?_|exact zz)))))
      · have hr0 : 0 < (l.getD q b0).red.length := List.length_pos_iff.2 hr
        rw [marksX_both hr ho] at hmE
        by_cases hk : (l.getD q b0).nd.kind = 1 ∧ q ≠ 0
        · rw [if_pos hk] at hmE
          (repeat' (first|(with_reducible refine AllP.go ?_;first|exact og|((try simp only [OS]);repeat' (first|exact oj|refine And.intro ?_ ?_)))|(refine rg ?_ ?_)|(with_reducible first|refine stp ?_|refine tD rfl ?_)|refine ct ?_|refine cf ?_|((first|refine gs ?_ ?_|refine gl ?_ ?_|refine gc ?_ ?_)<;>intro h<;>(try simp only [NS] at h)<;>(try exact xf)<;>(try refine rn ?_ ?_))))
          all_goals (refine rd.ret ?_;intro w2 B2 S2 ν2 L2;((refine rn ?_ ?_);(repeat' (first|(with_reducible refine AllP.go ?_;first|exact og|((try simp only [OS]);repeat' (first|exact oj|refine And.intro ?_ ?_)))|(refine rg ?_ ?_)|(with_reducible first|refine stp ?_|refine tD rfl ?_)|refine ct ?_|refine cf ?_|((first|refine gs ?_ ?_|refine gl ?_ ?_|refine gc ?_ ?_)<;>intro h<;>(try simp only [NS] at h)<;>(try exact xf)<;>(try refine rn ?_ ?_)))));refine TE.iterStop L2 io (by rfl) ?_;(repeat' (first|(with_reducible refine AllP.go ?_;first|exact og|((try simp only [OS]);repeat' (first|exact oj|refine And.intro ?_ ?_)))|(refine rg ?_ ?_)|(with_reducible first|refine stp ?_|refine tD rfl ?_)|refine ct ?_|refine cf ?_|((first|refine gs ?_ ?_|refine gl ?_ ?_|refine gc ?_ ?_)<;>intro h<;>(try simp only [NS] at h)<;>(try exact xf)<;>(try refine rn ?_ ?_)))))
          all_goals rw [checkB_bad hT hlt hg (by rw [hmE]; decide), hmE]
          all_goals (refine TE.ret' io rfl tysOk (()) ?_ rfl (by rfl) ?_;all_goals (try (first|exact trivial|((with_reducible refine AllP.go ?_);dsimp only [AllP, appP];repeat' (first|refine And.intro ?_ ?_|exact zz)))))
        · rw [if_neg hk] at hmE
          (repeat' (first|(with_reducible refine AllP.go ?_;first|exact og|((try simp only [OS]);repeat' (first|exact oj|refine And.intro ?_ ?_)))|(refine rg ?_ ?_)|(with_reducible first|refine stp ?_|refine tD rfl ?_)|refine ct ?_|refine cf ?_|((first|refine gs ?_ ?_|refine gl ?_ ?_|refine gc ?_ ?_)<;>intro h<;>(try simp only [NS] at h)<;>(try exact xf)<;>(try refine rn ?_ ?_))))
          all_goals (refine rd.ret ?_;intro w2 B2 S2 ν2 L2;((refine rn ?_ ?_);(repeat' (first|(with_reducible refine AllP.go ?_;first|exact og|((try simp only [OS]);repeat' (first|exact oj|refine And.intro ?_ ?_)))|(refine rg ?_ ?_)|(with_reducible first|refine stp ?_|refine tD rfl ?_)|refine ct ?_|refine cf ?_|((first|refine gs ?_ ?_|refine gl ?_ ?_|refine gc ?_ ?_)<;>intro h<;>(try simp only [NS] at h)<;>(try exact xf)<;>(try refine rn ?_ ?_)))));refine TE.iterStop L2 io (by rfl) ?_;(repeat' (first|(with_reducible refine AllP.go ?_;first|exact og|((try simp only [OS]);repeat' (first|exact oj|refine And.intro ?_ ?_)))|(refine rg ?_ ?_)|(with_reducible first|refine stp ?_|refine tD rfl ?_)|refine ct ?_|refine cf ?_|((first|refine gs ?_ ?_|refine gl ?_ ?_|refine gc ?_ ?_)<;>intro h<;>(try simp only [NS] at h)<;>(try exact xf)<;>(try refine rn ?_ ?_)))))
          all_goals rw [checkB_bad hT hlt hg (by rw [hmE]; decide), hmE]
          all_goals (refine TE.ret' io rfl tysOk (()) ?_ rfl (by rfl) ?_;all_goals (try (first|exact trivial|((with_reducible refine AllP.go ?_);dsimp only [AllP, appP];repeat' (first|refine And.intro ?_ ?_|exact zz)))))
  · obtain rfl : q = l.length := by omega
    (repeat' (first|(with_reducible refine AllP.go ?_;first|exact og|((try simp only [OS]);repeat' (first|exact oj|refine And.intro ?_ ?_)))|(refine rg ?_ ?_)|(with_reducible first|refine stp ?_|refine tD rfl ?_)|refine ct ?_|refine cf ?_|((first|refine gs ?_ ?_|refine gl ?_ ?_|refine gc ?_ ?_)<;>intro h<;>(try simp only [NS] at h)<;>(try exact xf)<;>(try refine rn ?_ ?_))))
    refine TE.iterEnd L (by first | exact .inl rfl | exact .inr rfl) (by rfl) ?_
    (repeat' (first|(with_reducible refine AllP.go ?_;first|exact og|((try simp only [OS]);repeat' (first|exact oj|refine And.intro ?_ ?_)))|(refine rg ?_ ?_)|(with_reducible first|refine stp ?_|refine tD rfl ?_)|refine ct ?_|refine cf ?_|((first|refine gs ?_ ?_|refine gl ?_ ?_|refine gc ?_ ?_)<;>intro h<;>(try simp only [NS] at h)<;>(try exact xf)<;>(try refine rn ?_ ?_))))
    rw [checkB_good hT hg]
    (refine TE.ret' io rfl tysOk (()) ?_ rfl (by rfl) ?_;all_goals (try (first|exact trivial|((with_reducible refine AllP.go ?_);dsimp only [AllP, appP];repeat' (first|refine And.intro ?_ ?_|exact zz)))))
end Go.Proofs.Ythhpofehcnjmmaa.Am
set_option linter.unusedSimpArgs false
set_option linter.unusedVariables false
namespace Go.Proofs.Ythhpofehcnjmmaa.Am
open Go.RowKit Lw
open Br
set_option maxRecDepth 20000 in
theorem known_c (l : List Bn) (n : Int) (hl : l.length ≤ 1000000) (hx : ∀ x ∈ l, okB x) : Con Try.prog 54 [.o (.ro 10 l.length (bnC l).cell), .o (.c (.int .i64 n))] [] 0 0 U (fun _ => .o (.c (.int .i64 (knownE l n)))) G0 := by
  refine con_of Try.func54 rfl (by kernel_rfl) Try.ntmps54 rfl (by first | exact Nat.zero_le _ | decide) (fun _ => ⟨rfl, rfl⟩) fun w S ν => ?_
  have hrc := checkB_c l hl hx
  (repeat' (first|(with_reducible refine AllP.go ?_;first|exact og|((try simp only [OS]);repeat' (first|exact oj|refine And.intro ?_ ?_)))|(refine rg ?_ ?_)|(with_reducible first|refine stp ?_|refine tD rfl ?_)|refine ct ?_|refine cf ?_|((first|refine gs ?_ ?_|refine gl ?_ ?_|refine gc ?_ ?_)<;>intro h<;>(try simp only [NS] at h)<;>(try exact xf)<;>(try refine rn ?_ ?_))))
  refine TE.callW (hrc) rfl (by rfl) (by rfl) rfl (by rfl) (by (first|exact trivial|((with_reducible refine AllP.go ?_);dsimp only [AllP, appP];repeat' (first|refine And.intro ?_ ?_|exact zz|assumption)))) ?_
  intro _ _
  by_cases h1 : (checkB l).2 ≠ 0
  · have hK : knownE l n = (checkB l).2 := if_pos h1
    rw [hK]
    ((refine rn ?_ ?_);(repeat' (first|(with_reducible refine AllP.go ?_;first|exact og|((try simp only [OS]);repeat' (first|exact oj|refine And.intro ?_ ?_)))|(refine rg ?_ ?_)|(with_reducible first|refine stp ?_|refine tD rfl ?_)|refine ct ?_|refine cf ?_|((first|refine gs ?_ ?_|refine gl ?_ ?_|refine gc ?_ ?_)<;>intro h<;>(try simp only [NS] at h)<;>(try exact xf)<;>(try refine rn ?_ ?_)))))
    all_goals (refine TE.ret' io rfl tysOk (()) ?_ rfl (by rfl) ?_;all_goals (try (first|exact trivial|((with_reducible refine AllP.go ?_);dsimp only [AllP, appP];repeat' (first|refine And.intro ?_ ?_|exact zz)))))
  have hK : knownE l n = if n < 0 ∨ (l.length : Int) ≤ n then 4 else 0 := if_neg h1
  by_cases h2 : n < 0 ∨ (l.length : Int) ≤ n
  · rw [if_pos h2] at hK
    rw [hK]
    ((refine rn ?_ ?_);(repeat' (first|(with_reducible refine AllP.go ?_;first|exact og|((try simp only [OS]);repeat' (first|exact oj|refine And.intro ?_ ?_)))|(refine rg ?_ ?_)|(with_reducible first|refine stp ?_|refine tD rfl ?_)|refine ct ?_|refine cf ?_|((first|refine gs ?_ ?_|refine gl ?_ ?_|refine gc ?_ ?_)<;>intro h<;>(try simp only [NS] at h)<;>(try exact xf)<;>(try refine rn ?_ ?_)))))
    all_goals (refine TE.ret' io rfl tysOk (()) ?_ rfl (by rfl) ?_;all_goals (try (first|exact trivial|((with_reducible refine AllP.go ?_);dsimp only [AllP, appP];repeat' (first|refine And.intro ?_ ?_|exact zz)))))
  · rw [if_neg h2] at hK
    rw [hK]
    ((refine rn ?_ ?_);(repeat' (first|(with_reducible refine AllP.go ?_;first|exact og|((try simp only [OS]);repeat' (first|exact oj|refine And.intro ?_ ?_)))|(refine rg ?_ ?_)|(with_reducible first|refine stp ?_|refine tD rfl ?_)|refine ct ?_|refine cf ?_|((first|refine gs ?_ ?_|refine gl ?_ ?_|refine gc ?_ ?_)<;>intro h<;>(try simp only [NS] at h)<;>(try exact xf)<;>(try refine rn ?_ ?_)))))
    all_goals (refine TE.ret' io rfl tysOk (()) ?_ rfl (by rfl) ?_;all_goals (try (first|exact trivial|((with_reducible refine AllP.go ?_);dsimp only [AllP, appP];repeat' (first|refine And.intro ?_ ?_|exact zz)))))
set_option maxRecDepth 20000 in
set_option maxHeartbeats 4000000 in
theorem dirs_c (l : List Bn) (hl : l.length ≤ 1000000) (hx : ∀ x ∈ l, okB x) : Con Try.prog 30 [.o (.ro 10 l.length (bnC l).cell)] [] 0 0 U (fun _ => .t [.inl (.ro 1 (dirsE l).1.length (skC (dirsE l).1).cell), .inl (.c (.int .i64 (dirsE l).2))]) G0 := by
  refine con_of Try.func30 rfl (by kernel_rfl) Try.ntmps30 rfl (by first | exact Nat.zero_le _ | decide) (fun _ => ⟨rfl, rfl⟩) fun w S ν => ?_
  have hrc := checkB_c l hl hx
  (repeat' (first|(with_reducible refine AllP.go ?_;first|exact og|((try simp only [OS]);repeat' (first|exact oj|refine And.intro ?_ ?_)))|(refine rg ?_ ?_)|(with_reducible first|refine stp ?_|refine tD rfl ?_)|refine ct ?_|refine cf ?_|((first|refine gs ?_ ?_|refine gl ?_ ?_|refine gc ?_ ?_)<;>intro h<;>(try simp only [NS] at h)<;>(try exact xf)<;>(try refine rn ?_ ?_))))
  refine TE.callW (hrc) rfl (by rfl) (by rfl) rfl (by rfl) (by (first|exact trivial|((with_reducible refine AllP.go ?_);dsimp only [AllP, appP];repeat' (first|refine And.intro ?_ ?_|exact zz|assumption)))) ?_
  intro _ _
  by_cases h1 : (checkB l).2 ≠ 0
  · have hK : dirsE l = ([], (checkB l).2) := if_pos h1
    rw [hK]
    ((refine rn ?_ ?_);(repeat' (first|(with_reducible refine AllP.go ?_;first|exact og|((try simp only [OS]);repeat' (first|exact oj|refine And.intro ?_ ?_)))|(refine rg ?_ ?_)|(with_reducible first|refine stp ?_|refine tD rfl ?_)|refine ct ?_|refine cf ?_|((first|refine gs ?_ ?_|refine gl ?_ ?_|refine gc ?_ ?_)<;>intro h<;>(try simp only [NS] at h)<;>(try exact xf)<;>(try refine rn ?_ ?_)))))
    (refine TE.ret' io rfl tysOk (()) ?_ rfl (by rfl) ?_;all_goals (try (first|exact trivial|((with_reducible refine AllP.go ?_);dsimp only [AllP, appP];repeat' (first|refine And.intro ?_ ?_|exact zz)))))
  have hK : dirsE l = (dirsL l, 0) := if_neg h1
  rw [hK]
  ((refine rn ?_ ?_);(repeat' (first|(with_reducible refine AllP.go ?_;first|exact og|((try simp only [OS]);repeat' (first|exact oj|refine And.intro ?_ ?_)))|(refine rg ?_ ?_)|(with_reducible first|refine stp ?_|refine tD rfl ?_)|refine ct ?_|refine cf ?_|((first|refine gs ?_ ?_|refine gl ?_ ?_|refine gc ?_ ?_)<;>intro h<;>(try simp only [NS] at h)<;>(try exact xf)<;>(try refine rn ?_ ?_)))))
  refine TE.nilOwn 6 3 1 (by rfl) ?_
  (refine TE.only [19, 18, 17, 6, 0] (by rfl) ?_)
  refine TE.loopG (fun q : Nat => q ≤ l.length) (fun q => [(19, .o (.c (.int .i64 q))), (6, .o (.own 0))]) [0] (fun q => [.own 0 3 1 (skC (idxs (fun i => decide ((l.getD i b0).nd.kind = 1)) q))]) (fun q => l.length - q) 0 (by rfl) (Nat.zero_le _) ?_ ?_
  · (refine Ent.of rfl rfl (by rfl) ?_;(try (first|exact trivial|((with_reducible refine AllP.go ?_);dsimp only [AllP, appP];repeat' (first|refine And.intro ?_ ?_|exact zz)))))
    exact LeDC.nil rfl rfl
  intro q hq
  by_cases hlt : q < l.length
  · have hs := idxs_succ (fun i => decide ((l.getD i b0).nd.kind = 1)) q
    have hn := idxs_len (fun i => decide ((l.getD i b0).nd.kind = 1)) q
    have hcn : (skC (idxs (fun i => decide ((l.getD i b0).nd.kind = 1)) q)).n ≤ q := hn
    by_cases hk : (l.getD q b0).nd.kind = 1
    · rw [if_pos (decide_eq_true hk)] at hs
      (repeat' (first|(with_reducible refine AllP.go ?_;first|exact og|((try simp only [OS]);repeat' (first|exact oj|refine And.intro ?_ ?_)))|(refine rg ?_ ?_)|(with_reducible first|refine stp ?_|refine tD rfl ?_)|refine ct ?_|refine cf ?_|((first|refine gs ?_ ?_|refine gl ?_ ?_|refine gc ?_ ?_)<;>intro h<;>(try simp only [NS] at h)<;>(try exact xf)<;>(try refine rn ?_ ?_))))
      refine TE.again' (q + 1) (by omega) (by omega) ?_
      (refine Ent.of rfl rfl (by rfl) ?_;(try (first|exact trivial|((with_reducible refine AllP.go ?_);dsimp only [AllP, appP];repeat' (first|refine And.intro ?_ ?_|exact zz)))))
      exact listC_snoc _ hs (nth1 rfl)
    · rw [if_neg (by simpa using hk)] at hs
      (repeat' (first|(with_reducible refine AllP.go ?_;first|exact og|((try simp only [OS]);repeat' (first|exact oj|refine And.intro ?_ ?_)))|(refine rg ?_ ?_)|(with_reducible first|refine stp ?_|refine tD rfl ?_)|refine ct ?_|refine cf ?_|((first|refine gs ?_ ?_|refine gl ?_ ?_|refine gc ?_ ?_)<;>intro h<;>(try simp only [NS] at h)<;>(try exact xf)<;>(try refine rn ?_ ?_))))
      refine TE.again' (q + 1) (by omega) (by omega) ?_
      rw [hs]
      (refine Ent.of rfl rfl (by rfl) ?_;(try (first|exact trivial|((with_reducible refine AllP.go ?_);dsimp only [AllP, appP];repeat' (first|refine And.intro ?_ ?_|exact zz)))))
  · obtain rfl : q = l.length := by omega
    (repeat' (first|(with_reducible refine AllP.go ?_;first|exact og|((try simp only [OS]);repeat' (first|exact oj|refine And.intro ?_ ?_)))|(refine rg ?_ ?_)|(with_reducible first|refine stp ?_|refine tD rfl ?_)|refine ct ?_|refine cf ?_|((first|refine gs ?_ ?_|refine gl ?_ ?_|refine gc ?_ ?_)<;>intro h<;>(try simp only [NS] at h)<;>(try exact xf)<;>(try refine rn ?_ ?_))))
    (refine TE.freezeN 0 (by rfl) (by rfl) ?_)
    (refine TE.ret' io rfl tysOk (()) ?_ rfl (by rfl) ?_;all_goals (try (first|exact trivial|((with_reducible refine AllP.go ?_);dsimp only [AllP, appP];repeat' (first|refine And.intro ?_ ?_|exact zz)))))
set_option maxRecDepth 20000 in
set_option maxHeartbeats 4000000 in
theorem rdirs_c (l : List Bn) (hl : l.length ≤ 1000000) (hx : ∀ x ∈ l, okB x) : Con Try.prog 31 [.o (.ro 10 l.length (bnC l).cell)] [] 0 0 U (fun _ => .t [.inl (.ro 1 (dirsE l).1.length (skC (dirsE l).1).cell), .inl (.c (.int .i64 (dirsE l).2))]) G0 := by
  refine con_of Try.func31 rfl (by kernel_rfl) Try.ntmps31 rfl (by first | exact Nat.zero_le _ | decide) (fun _ => ⟨rfl, rfl⟩) fun w S ν => ?_
  have hrc := rcheckB_c l hl hx
  (repeat' (first|(with_reducible refine AllP.go ?_;first|exact og|((try simp only [OS]);repeat' (first|exact oj|refine And.intro ?_ ?_)))|(refine rg ?_ ?_)|(with_reducible first|refine stp ?_|refine tD rfl ?_)|refine ct ?_|refine cf ?_|((first|refine gs ?_ ?_|refine gl ?_ ?_|refine gc ?_ ?_)<;>intro h<;>(try simp only [NS] at h)<;>(try exact xf)<;>(try refine rn ?_ ?_))))
  refine TE.callW (hrc) rfl (by rfl) (by rfl) rfl (by rfl) (by (first|exact trivial|((with_reducible refine AllP.go ?_);dsimp only [AllP, appP];repeat' (first|refine And.intro ?_ ?_|exact zz|assumption)))) ?_
  intro _ _
  by_cases h1 : (checkB l).2 ≠ 0
  · have hK : dirsE l = ([], (checkB l).2) := if_pos h1
    rw [hK]
    ((refine rn ?_ ?_);(repeat' (first|(with_reducible refine AllP.go ?_;first|exact og|((try simp only [OS]);repeat' (first|exact oj|refine And.intro ?_ ?_)))|(refine rg ?_ ?_)|(with_reducible first|refine stp ?_|refine tD rfl ?_)|refine ct ?_|refine cf ?_|((first|refine gs ?_ ?_|refine gl ?_ ?_|refine gc ?_ ?_)<;>intro h<;>(try simp only [NS] at h)<;>(try exact xf)<;>(try refine rn ?_ ?_)))))
    (refine TE.ret' io rfl tysOk (()) ?_ rfl (by rfl) ?_;all_goals (try (first|exact trivial|((with_reducible refine AllP.go ?_);dsimp only [AllP, appP];repeat' (first|refine And.intro ?_ ?_|exact zz)))))
  have hK : dirsE l = (dirsL l, 0) := if_neg h1
  rw [hK]
  ((refine rn ?_ ?_);(repeat' (first|(with_reducible refine AllP.go ?_;first|exact og|((try simp only [OS]);repeat' (first|exact oj|refine And.intro ?_ ?_)))|(refine rg ?_ ?_)|(with_reducible first|refine stp ?_|refine tD rfl ?_)|refine ct ?_|refine cf ?_|((first|refine gs ?_ ?_|refine gl ?_ ?_|refine gc ?_ ?_)<;>intro h<;>(try simp only [NS] at h)<;>(try exact xf)<;>(try refine rn ?_ ?_)))))
  refine TE.nilOwn 6 3 1 (by rfl) ?_
  (refine TE.only [7, 6, 0] (by rfl) ?_)
  refine TE.loopG (fun q : Nat => q ≤ l.length) (fun q => [(7, .o (.c (.int .i64 q))), (6, .o (.own 0))]) [0] (fun q => [.own 0 3 1 (skC (idxs (fun i => decide ((l.getD i b0).nd.kind = 1)) q))]) (fun q => l.length - q) 0 (by rfl) (Nat.zero_le _) ?_ ?_
  · (refine Ent.of rfl rfl (by rfl) ?_;(try (first|exact trivial|((with_reducible refine AllP.go ?_);dsimp only [AllP, appP];repeat' (first|refine And.intro ?_ ?_|exact zz)))))
    exact LeDC.nil rfl rfl
  intro q hq
  by_cases hlt : q < l.length
  · have hs := idxs_succ (fun i => decide ((l.getD i b0).nd.kind = 1)) q
    have hn := idxs_len (fun i => decide ((l.getD i b0).nd.kind = 1)) q
    have hcn : (skC (idxs (fun i => decide ((l.getD i b0).nd.kind = 1)) q)).n ≤ q := hn
    by_cases hk : (l.getD q b0).nd.kind = 1
    · rw [if_pos (decide_eq_true hk)] at hs
      (repeat' (first|(with_reducible refine AllP.go ?_;first|exact og|((try simp only [OS]);repeat' (first|exact oj|refine And.intro ?_ ?_)))|(refine rg ?_ ?_)|(with_reducible first|refine stp ?_|refine tD rfl ?_)|refine ct ?_|refine cf ?_|((first|refine gs ?_ ?_|refine gl ?_ ?_|refine gc ?_ ?_)<;>intro h<;>(try simp only [NS] at h)<;>(try exact xf)<;>(try refine rn ?_ ?_))))
      refine TE.again' (q + 1) (by omega) (by omega) ?_
      (refine Ent.of rfl rfl (by rfl) ?_;(try (first|exact trivial|((with_reducible refine AllP.go ?_);dsimp only [AllP, appP];repeat' (first|refine And.intro ?_ ?_|exact zz)))))
      exact listC_snoc _ hs (nth1 rfl)
    · rw [if_neg (by simpa using hk)] at hs
      (repeat' (first|(with_reducible refine AllP.go ?_;first|exact og|((try simp only [OS]);repeat' (first|exact oj|refine And.intro ?_ ?_)))|(refine rg ?_ ?_)|(with_reducible first|refine stp ?_|refine tD rfl ?_)|refine ct ?_|refine cf ?_|((first|refine gs ?_ ?_|refine gl ?_ ?_|refine gc ?_ ?_)<;>intro h<;>(try simp only [NS] at h)<;>(try exact xf)<;>(try refine rn ?_ ?_))))
      refine TE.again' (q + 1) (by omega) (by omega) ?_
      rw [hs]
      (refine Ent.of rfl rfl (by rfl) ?_;(try (first|exact trivial|((with_reducible refine AllP.go ?_);dsimp only [AllP, appP];repeat' (first|refine And.intro ?_ ?_|exact zz)))))
  · obtain rfl : q = l.length := by omega
    (repeat' (first|(with_reducible refine AllP.go ?_;first|exact og|((try simp only [OS]);repeat' (first|exact oj|refine And.intro ?_ ?_)))|(refine rg ?_ ?_)|(with_reducible first|refine stp ?_|refine tD rfl ?_)|refine ct ?_|refine cf ?_|((first|refine gs ?_ ?_|refine gl ?_ ?_|refine gc ?_ ?_)<;>intro h<;>(try simp only [NS] at h)<;>(try exact xf)<;>(try refine rn ?_ ?_))))
    (refine TE.freezeN 0 (by rfl) (by rfl) ?_)
    (refine TE.ret' io rfl tysOk (()) ?_ rfl (by rfl) ?_;all_goals (try (first|exact trivial|((with_reducible refine AllP.go ?_);dsimp only [AllP, appP];repeat' (first|refine And.intro ?_ ?_|exact zz)))))
theorem known_at {l : List Bn} {n : Int} (h : knownE l n = 0) : ∃ k : Nat, n = k ∧ k < l.length := by
  unfold knownE at h
  split at h
  · rename_i k; exact absurd h k
  split at h
  · exact absurd h (by decide)
  exact ⟨n.toNat, by omega, by omega⟩
set_option maxRecDepth 20000 in
set_option maxHeartbeats 4000000 in
theorem names_c (l : List Bn) (i : Nat) (hi : i < l.length) (hl : l.length ≤ 1000000) : Con Try.prog 57 [.o (.ro 10 l.length (bnC l).cell), .o (.c (.int .i64 i))] [] 0 0 U (fun _ => .o (.ro 1 (namesL l i).length (skC (namesL l i)).cell)) G0 := by
  refine con_of Try.func57 rfl (by kernel_rfl) Try.ntmps57 rfl (by first | exact Nat.zero_le _ | decide) (fun _ => ⟨rfl, rfl⟩) fun w S ν => ?_
  by_cases h0 : (l.getD i b0).nd.cls = 0
  · rw [names_zero hi h0]
    (repeat' (first|(with_reducible refine AllP.go ?_;first|exact og|((try simp only [OS]);repeat' (first|exact oj|refine And.intro ?_ ?_)))|(refine rg ?_ ?_)|(with_reducible first|refine stp ?_|refine tD rfl ?_)|refine ct ?_|refine cf ?_|((first|refine gs ?_ ?_|refine gl ?_ ?_|refine gc ?_ ?_)<;>intro h<;>(try simp only [NS] at h)<;>(try exact xf)<;>(try refine rn ?_ ?_))))
    (refine TE.freezeN 0 (by rfl) (by rfl) ?_)
    (refine TE.ret' io rfl tysOk (()) ?_ rfl (by rfl) ?_;all_goals (try (first|exact trivial|((with_reducible refine AllP.go ?_);dsimp only [AllP, appP];repeat' (first|refine And.intro ?_ ?_|exact zz)))))
    exact listC_one _ (nth1 rfl)
  (repeat' (first|(with_reducible refine AllP.go ?_;first|exact og|((try simp only [OS]);repeat' (first|exact oj|refine And.intro ?_ ?_)))|(refine rg ?_ ?_)|(with_reducible first|refine stp ?_|refine tD rfl ?_)|refine ct ?_|refine cf ?_|((first|refine gs ?_ ?_|refine gl ?_ ?_|refine gc ?_ ?_)<;>intro h<;>(try simp only [NS] at h)<;>(try exact xf)<;>(try refine rn ?_ ?_))))
  refine TE.nilOwn 5 3 1 (by rfl) ?_
  (refine TE.only [18, 17, 16, 5, 1, 0] (by rfl) ?_)
  refine TE.loopG (fun q : Nat => q ≤ l.length) (fun q => [(18, .o (.c (.int .i64 q))), (5, .o (.own 0))]) [0] (fun q => [.own 0 3 1 (skC (idxs (namesP l i) q))]) (fun q => l.length - q) 0 (by rfl) (Nat.zero_le _) ?_ ?_
  · (refine Ent.of rfl rfl (by rfl) ?_;(try (first|exact trivial|((with_reducible refine AllP.go ?_);dsimp only [AllP, appP];repeat' (first|refine And.intro ?_ ?_|exact zz)))))
    exact LeDC.nil rfl rfl
  intro q hq
  by_cases hlt : q < l.length
  · have hs := idxs_succ (namesP l i) q
    have hn := idxs_len (namesP l i) q
    have hcn : (skC (idxs (namesP l i) q)).n ≤ q := hn
    rw [namesP_cls h0] at hs
    by_cases hk : (l.getD q b0).nd.cls = (l.getD i b0).nd.cls
    · rw [if_pos (decide_eq_true hk)] at hs
      (repeat' (first|(with_reducible refine AllP.go ?_;first|exact og|((try simp only [OS]);repeat' (first|exact oj|refine And.intro ?_ ?_)))|(refine rg ?_ ?_)|(with_reducible first|refine stp ?_|refine tD rfl ?_)|refine ct ?_|refine cf ?_|((first|refine gs ?_ ?_|refine gl ?_ ?_|refine gc ?_ ?_)<;>intro h<;>(try simp only [NS] at h)<;>(try exact xf)<;>(try refine rn ?_ ?_))))
      ((refine dn ?_);repeat' (first|(with_reducible refine AllP.go ?_;first|exact og|((try simp only [OS]);repeat' (first|exact oj|refine And.intro ?_ ?_)))|(with_reducible first|exact PanicOk.body|exact rd.panic|refine PanicOk.then' ?_|refine PanicOk.block ?_|refine PanicOk.jump ?_)|(refine TL.done (by rfl) ?_)|(refine TL.auto tysOk rfl ?_ (by rfl) ?_ ?_)|((refine TL.one (by rfl) ?_);first|(refine sm ?_ ?_)|(refine sp ?_ ?_))|(refine sm ?_ ?_)|((first|refine gl ?_ ?_|refine gc ?_ ?_)<;>intro h<;>(try simp only [NS] at h)<;>(try exact xf))))
      (repeat' (first|(with_reducible refine AllP.go ?_;first|exact og|((try simp only [OS]);repeat' (first|exact oj|refine And.intro ?_ ?_)))|(refine rg ?_ ?_)|(with_reducible first|refine stp ?_|refine tD rfl ?_)|refine ct ?_|refine cf ?_|((first|refine gs ?_ ?_|refine gl ?_ ?_|refine gc ?_ ?_)<;>intro h<;>(try simp only [NS] at h)<;>(try exact xf)<;>(try refine rn ?_ ?_))))
      refine TE.again' (q + 1) (by omega) (by omega) ?_
      (refine Ent.of rfl rfl (by rfl) ?_;(try (first|exact trivial|((with_reducible refine AllP.go ?_);dsimp only [AllP, appP];repeat' (first|refine And.intro ?_ ?_|exact zz)))))
      exact listC_snoc _ hs (nth1 rfl)
    · rw [if_neg (by simpa using hk)] at hs
      (repeat' (first|(with_reducible refine AllP.go ?_;first|exact og|((try simp only [OS]);repeat' (first|exact oj|refine And.intro ?_ ?_)))|(refine rg ?_ ?_)|(with_reducible first|refine stp ?_|refine tD rfl ?_)|refine ct ?_|refine cf ?_|((first|refine gs ?_ ?_|refine gl ?_ ?_|refine gc ?_ ?_)<;>intro h<;>(try simp only [NS] at h)<;>(try exact xf)<;>(try refine rn ?_ ?_))))
      ((refine dn ?_);repeat' (first|(with_reducible refine AllP.go ?_;first|exact og|((try simp only [OS]);repeat' (first|exact oj|refine And.intro ?_ ?_)))|(with_reducible first|exact PanicOk.body|exact rd.panic|refine PanicOk.then' ?_|refine PanicOk.block ?_|refine PanicOk.jump ?_)|(refine TL.done (by rfl) ?_)|(refine TL.auto tysOk rfl ?_ (by rfl) ?_ ?_)|((refine TL.one (by rfl) ?_);first|(refine sm ?_ ?_)|(refine sp ?_ ?_))|(refine sm ?_ ?_)|((first|refine gl ?_ ?_|refine gc ?_ ?_)<;>intro h<;>(try simp only [NS] at h)<;>(try exact xf))))
      (repeat' (first|(with_reducible refine AllP.go ?_;first|exact og|((try simp only [OS]);repeat' (first|exact oj|refine And.intro ?_ ?_)))|(refine rg ?_ ?_)|(with_reducible first|refine stp ?_|refine tD rfl ?_)|refine ct ?_|refine cf ?_|((first|refine gs ?_ ?_|refine gl ?_ ?_|refine gc ?_ ?_)<;>intro h<;>(try simp only [NS] at h)<;>(try exact xf)<;>(try refine rn ?_ ?_))))
      refine TE.again' (q + 1) (by omega) (by omega) ?_
      rw [hs]
      (refine Ent.of rfl rfl (by rfl) ?_;(try (first|exact trivial|((with_reducible refine AllP.go ?_);dsimp only [AllP, appP];repeat' (first|refine And.intro ?_ ?_|exact zz)))))
  · obtain rfl : q = l.length := by omega
    (repeat' (first|(with_reducible refine AllP.go ?_;first|exact og|((try simp only [OS]);repeat' (first|exact oj|refine And.intro ?_ ?_)))|(refine rg ?_ ?_)|(with_reducible first|refine stp ?_|refine tD rfl ?_)|refine ct ?_|refine cf ?_|((first|refine gs ?_ ?_|refine gl ?_ ?_|refine gc ?_ ?_)<;>intro h<;>(try simp only [NS] at h)<;>(try exact xf)<;>(try refine rn ?_ ?_))))
    (refine TE.freezeN 0 (by rfl) (by rfl) ?_)
    (refine TE.ret' io rfl tysOk (()) ?_ rfl (by rfl) ?_;all_goals (try (first|exact trivial|((with_reducible refine AllP.go ?_);dsimp only [AllP, appP];repeat' (first|refine And.intro ?_ ?_|exact zz)))))
set_option maxRecDepth 20000 in
set_option maxHeartbeats 4000000 in
theorem Names_c (l : List Bn) (n : Int) (hl : l.length ≤ 1000000) (hx : ∀ x ∈ l, okB x) : Con Try.prog 27 [.o (.ro 10 l.length (bnC l).cell), .o (.c (.int .i64 n))] [] 0 0 U (fun _ => .t [.inl (.ro 1 (namesE l n).1.length (skC (namesE l n).1).cell), .inl (.c (.int .i64 (namesE l n).2))]) G0 := by
  refine con_of Try.func27 rfl (by kernel_rfl) Try.ntmps27 rfl (by first | exact Nat.zero_le _ | decide) (fun _ => ⟨rfl, rfl⟩) fun w S ν => ?_
  have hkn := known_c l n hl hx
  (repeat' (first|(with_reducible refine AllP.go ?_;first|exact og|((try simp only [OS]);repeat' (first|exact oj|refine And.intro ?_ ?_)))|(refine rg ?_ ?_)|(with_reducible first|refine stp ?_|refine tD rfl ?_)|refine ct ?_|refine cf ?_|((first|refine gs ?_ ?_|refine gl ?_ ?_|refine gc ?_ ?_)<;>intro h<;>(try simp only [NS] at h)<;>(try exact xf)<;>(try refine rn ?_ ?_))))
  refine TE.callW (hkn) rfl (by rfl) (by rfl) rfl (by rfl) (by (first|exact trivial|((with_reducible refine AllP.go ?_);dsimp only [AllP, appP];repeat' (first|refine And.intro ?_ ?_|exact zz|assumption)))) ?_
  intro _ _
  by_cases h1 : knownE l n ≠ 0
  · have hK : namesE l n = ([], knownE l n) := if_pos h1
    rw [hK]
    ((refine rn ?_ ?_);(repeat' (first|(with_reducible refine AllP.go ?_;first|exact og|((try simp only [OS]);repeat' (first|exact oj|refine And.intro ?_ ?_)))|(refine rg ?_ ?_)|(with_reducible first|refine stp ?_|refine tD rfl ?_)|refine ct ?_|refine cf ?_|((first|refine gs ?_ ?_|refine gl ?_ ?_|refine gc ?_ ?_)<;>intro h<;>(try simp only [NS] at h)<;>(try exact xf)<;>(try refine rn ?_ ?_)))))
    (refine TE.ret' io rfl tysOk (()) ?_ rfl (by rfl) ?_;all_goals (try (first|exact trivial|((with_reducible refine AllP.go ?_);dsimp only [AllP, appP];repeat' (first|refine And.intro ?_ ?_|exact zz)))))
  have hK : namesE l n = (namesL l n.toNat, 0) := if_neg h1
  obtain ⟨k, rfl, hk⟩ := known_at (Decidable.not_not.1 h1)
  rw [Int.toNat_natCast] at hK
  rw [hK]
  have hnc := names_c l k hk hl
  ((refine rn ?_ ?_);(repeat' (first|(with_reducible refine AllP.go ?_;first|exact og|((try simp only [OS]);repeat' (first|exact oj|refine And.intro ?_ ?_)))|(refine rg ?_ ?_)|(with_reducible first|refine stp ?_|refine tD rfl ?_)|refine ct ?_|refine cf ?_|((first|refine gs ?_ ?_|refine gl ?_ ?_|refine gc ?_ ?_)<;>intro h<;>(try simp only [NS] at h)<;>(try exact xf)<;>(try refine rn ?_ ?_)))))
  refine TE.callW (hnc) rfl (by rfl) (by rfl) rfl (by rfl) (by (first|exact trivial|((with_reducible refine AllP.go ?_);dsimp only [AllP, appP];repeat' (first|refine And.intro ?_ ?_|exact zz|assumption)))) ?_
  intro _ _
  ((refine rn ?_ ?_);(repeat' (first|(with_reducible refine AllP.go ?_;first|exact og|((try simp only [OS]);repeat' (first|exact oj|refine And.intro ?_ ?_)))|(refine rg ?_ ?_)|(with_reducible first|refine stp ?_|refine tD rfl ?_)|refine ct ?_|refine cf ?_|((first|refine gs ?_ ?_|refine gl ?_ ?_|refine gc ?_ ?_)<;>intro h<;>(try simp only [NS] at h)<;>(try exact xf)<;>(try refine rn ?_ ?_)))))
  (refine TE.ret' io rfl tysOk (()) ?_ rfl (by rfl) ?_;all_goals (try (first|exact trivial|((with_reducible refine AllP.go ?_);dsimp only [AllP, appP];repeat' (first|refine And.intro ?_ ?_|exact zz)))))
set_option maxRecDepth 20000 in
set_option maxHeartbeats 4000000 in
theorem rNames_c (l : List Bn) (n : Int) (hl : l.length ≤ 1000000) (hx : ∀ x ∈ l, okB x) : Con Try.prog 28 [.o (.ro 10 l.length (bnC l).cell), .o (.c (.int .i64 n))] [] 0 0 U (fun _ => .t [.inl (.ro 1 (namesE l n).1.length (skC (namesE l n).1).cell), .inl (.c (.int .i64 (namesE l n).2))]) G0 := by
  refine con_of Try.func28 rfl (by kernel_rfl) Try.ntmps28 rfl (by first | exact Nat.zero_le _ | decide) (fun _ => ⟨rfl, rfl⟩) fun w S ν => ?_
  have hkn := rknown_c l n hl hx
  (repeat' (first|(with_reducible refine AllP.go ?_;first|exact og|((try simp only [OS]);repeat' (first|exact oj|refine And.intro ?_ ?_)))|(refine rg ?_ ?_)|(with_reducible first|refine stp ?_|refine tD rfl ?_)|refine ct ?_|refine cf ?_|((first|refine gs ?_ ?_|refine gl ?_ ?_|refine gc ?_ ?_)<;>intro h<;>(try simp only [NS] at h)<;>(try exact xf)<;>(try refine rn ?_ ?_))))
  refine TE.callW (hkn) rfl (by rfl) (by rfl) rfl (by rfl) (by (first|exact trivial|((with_reducible refine AllP.go ?_);dsimp only [AllP, appP];repeat' (first|refine And.intro ?_ ?_|exact zz|assumption)))) ?_
  intro _ _
  by_cases h1 : knownE l n ≠ 0
  · have hK : namesE l n = ([], knownE l n) := if_pos h1
    rw [hK]
    ((refine rn ?_ ?_);(repeat' (first|(with_reducible refine AllP.go ?_;first|exact og|((try simp only [OS]);repeat' (first|exact oj|refine And.intro ?_ ?_)))|(refine rg ?_ ?_)|(with_reducible first|refine stp ?_|refine tD rfl ?_)|refine ct ?_|refine cf ?_|((first|refine gs ?_ ?_|refine gl ?_ ?_|refine gc ?_ ?_)<;>intro h<;>(try simp only [NS] at h)<;>(try exact xf)<;>(try refine rn ?_ ?_)))))
    (refine TE.ret' io rfl tysOk (()) ?_ rfl (by rfl) ?_;all_goals (try (first|exact trivial|((with_reducible refine AllP.go ?_);dsimp only [AllP, appP];repeat' (first|refine And.intro ?_ ?_|exact zz)))))
  have hK : namesE l n = (namesL l n.toNat, 0) := if_neg h1
  obtain ⟨i, rfl, hi⟩ := known_at (Decidable.not_not.1 h1)
  rw [Int.toNat_natCast] at hK
  rw [hK]
  ((refine rn ?_ ?_);(repeat' (first|(with_reducible refine AllP.go ?_;first|exact og|((try simp only [OS]);repeat' (first|exact oj|refine And.intro ?_ ?_)))|(refine rg ?_ ?_)|(with_reducible first|refine stp ?_|refine tD rfl ?_)|refine ct ?_|refine cf ?_|((first|refine gs ?_ ?_|refine gl ?_ ?_|refine gc ?_ ?_)<;>intro h<;>(try simp only [NS] at h)<;>(try exact xf)<;>(try refine rn ?_ ?_)))))
  refine TE.nilOwn 7 3 1 (by rfl) ?_
  (refine TE.only [8, 7, 1, 0] (by rfl) ?_)
  refine TE.loopG (fun q : Nat => q ≤ l.length) (fun q => [(8, .o (.c (.int .i64 q))), (7, .o (.own 0))]) [0] (fun q => [.own 0 3 1 (skC (idxs (namesP l i) q))]) (fun q => l.length - q) 0 (by rfl) (Nat.zero_le _) ?_ ?_
  · (refine Ent.of rfl rfl (by rfl) ?_;(try (first|exact trivial|((with_reducible refine AllP.go ?_);dsimp only [AllP, appP];repeat' (first|refine And.intro ?_ ?_|exact zz)))))
    exact LeDC.nil rfl rfl
  intro q hq
  by_cases hlt : q < l.length
  · have hs := idxs_succ (namesP l i) q
    have hn := idxs_len (namesP l i) q
    have hcn : (skC (idxs (namesP l i) q)).n ≤ q := hn
    by_cases hk : namesP l i q = true
    · rw [if_pos hk] at hs
      unfold namesP at hk
      rw [Bool.or_eq_true, Bool.and_eq_true, decide_eq_true_eq, decide_eq_true_eq, decide_eq_true_eq] at hk
      (repeat' (first|(with_reducible refine AllP.go ?_;first|exact og|((try simp only [OS]);repeat' (first|exact oj|refine And.intro ?_ ?_)))|(refine rg ?_ ?_)|(with_reducible first|refine stp ?_|refine tD rfl ?_)|refine ct ?_|refine cf ?_|((first|refine gs ?_ ?_|refine gl ?_ ?_|refine gc ?_ ?_)<;>intro h<;>(try simp only [NS] at h)<;>(try exact xf)<;>(try refine rn ?_ ?_))))
      ((refine dn ?_);repeat' (first|(with_reducible refine AllP.go ?_;first|exact og|((try simp only [OS]);repeat' (first|exact oj|refine And.intro ?_ ?_)))|(with_reducible first|exact PanicOk.body|exact rd.panic|refine PanicOk.then' ?_|refine PanicOk.block ?_|refine PanicOk.jump ?_)|(refine TL.done (by rfl) ?_)|(refine TL.auto tysOk rfl ?_ (by rfl) ?_ ?_)|((refine TL.one (by rfl) ?_);first|(refine sm ?_ ?_)|(refine sp ?_ ?_))|(refine sm ?_ ?_)|((first|refine gl ?_ ?_|refine gc ?_ ?_)<;>intro h<;>(try simp only [NS] at h)<;>(try exact xf))))
      all_goals first | (exfalso; omega) | skip
      all_goals (repeat' (first|(with_reducible refine AllP.go ?_;first|exact og|((try simp only [OS]);repeat' (first|exact oj|refine And.intro ?_ ?_)))|(refine rg ?_ ?_)|(with_reducible first|refine stp ?_|refine tD rfl ?_)|refine ct ?_|refine cf ?_|((first|refine gs ?_ ?_|refine gl ?_ ?_|refine gc ?_ ?_)<;>intro h<;>(try simp only [NS] at h)<;>(try exact xf)<;>(try refine rn ?_ ?_))))
      all_goals first | (exfalso; omega) | skip
      all_goals refine TE.again' (q + 1) (by omega) (by omega) ?_
      all_goals (refine Ent.of rfl rfl (by rfl) ?_;(try (first|exact trivial|((with_reducible refine AllP.go ?_);dsimp only [AllP, appP];repeat' (first|refine And.intro ?_ ?_|exact zz)))))
      all_goals exact listC_snoc _ hs (nth1 rfl)
    · rw [if_neg hk] at hs
      unfold namesP at hk
      rw [Bool.or_eq_true, Bool.and_eq_true, decide_eq_true_eq, decide_eq_true_eq, decide_eq_true_eq] at hk
      (repeat' (first|(with_reducible refine AllP.go ?_;first|exact og|((try simp only [OS]);repeat' (first|exact oj|refine And.intro ?_ ?_)))|(refine rg ?_ ?_)|(with_reducible first|refine stp ?_|refine tD rfl ?_)|refine ct ?_|refine cf ?_|((first|refine gs ?_ ?_|refine gl ?_ ?_|refine gc ?_ ?_)<;>intro h<;>(try simp only [NS] at h)<;>(try exact xf)<;>(try refine rn ?_ ?_))))
      ((refine dn ?_);repeat' (first|(with_reducible refine AllP.go ?_;first|exact og|((try simp only [OS]);repeat' (first|exact oj|refine And.intro ?_ ?_)))|(with_reducible first|exact PanicOk.body|exact rd.panic|refine PanicOk.then' ?_|refine PanicOk.block ?_|refine PanicOk.jump ?_)|(refine TL.done (by rfl) ?_)|(refine TL.auto tysOk rfl ?_ (by rfl) ?_ ?_)|((refine TL.one (by rfl) ?_);first|(refine sm ?_ ?_)|(refine sp ?_ ?_))|(refine sm ?_ ?_)|((first|refine gl ?_ ?_|refine gc ?_ ?_)<;>intro h<;>(try simp only [NS] at h)<;>(try exact xf))))
      all_goals first | (exfalso; omega) | skip
      all_goals (repeat' (first|(with_reducible refine AllP.go ?_;first|exact og|((try simp only [OS]);repeat' (first|exact oj|refine And.intro ?_ ?_)))|(refine rg ?_ ?_)|(with_reducible first|refine stp ?_|refine tD rfl ?_)|refine ct ?_|refine cf ?_|((first|refine gs ?_ ?_|refine gl ?_ ?_|refine gc ?_ ?_)<;>intro h<;>(try simp only [NS] at h)<;>(try exact xf)<;>(try refine rn ?_ ?_))))
      all_goals first | (exfalso; omega) | skip
      all_goals refine TE.again' (q + 1) (by omega) (by omega) ?_
      all_goals rw [hs]
      all_goals (refine Ent.of rfl rfl (by rfl) ?_;(try (first|exact trivial|((with_reducible refine AllP.go ?_);dsimp only [AllP, appP];repeat' (first|refine And.intro ?_ ?_|exact zz)))))
  · obtain rfl : q = l.length := by omega
    (repeat' (first|(with_reducible refine AllP.go ?_;first|exact og|((try simp only [OS]);repeat' (first|exact oj|refine And.intro ?_ ?_)))|(refine rg ?_ ?_)|(with_reducible first|refine stp ?_|refine tD rfl ?_)|refine ct ?_|refine cf ?_|((first|refine gs ?_ ?_|refine gl ?_ ?_|refine gc ?_ ?_)<;>intro h<;>(try simp only [NS] at h)<;>(try exact xf)<;>(try refine rn ?_ ?_))))
    (refine TE.freezeN 0 (by rfl) (by rfl) ?_)
    (refine TE.ret' io rfl tysOk (()) ?_ rfl (by rfl) ?_;all_goals (try (first|exact trivial|((with_reducible refine AllP.go ?_);dsimp only [AllP, appP];repeat' (first|refine And.intro ?_ ?_|exact zz)))))
end Go.Proofs.Ythhpofehcnjmmaa.Am
set_option linter.unusedSimpArgs false
set_option linter.unusedVariables false
namespace Go.Proofs.Ythhpofehcnjmmaa.Am
open Go.RowKit Lw
open Br
set_option maxRecDepth 20000 in
theorem equalO_c (l m : List ByteArray) (hl : l.length ≤ 1000000) (hm : m.length ≤ 1000000) : Con Try.prog 45 [.o (.own 0), .o (.ro 1 m.length (paC m).cell)] [.own 0 9 1 (paC l)] 1 1 U (fun _ => .o (.sb (decide (l = m)))) (fun _ => [.own 0 9 1 (paC l)]) := by
  refine con_of Try.func45 rfl (by kernel_rfl) Try.ntmps45 rfl (by first | exact Nat.zero_le _ | decide) (fun _ => ⟨rfl, rfl⟩) fun w S ν => ?_
  have hln : (paC l).n = l.length := rfl
  by_cases hlm : l.length = m.length
  · (repeat' (first|(with_reducible refine AllP.go ?_;first|exact og|((try simp only [OS]);repeat' (first|exact oj|refine And.intro ?_ ?_)))|(refine rg ?_ ?_)|(with_reducible first|refine stp ?_|refine tD rfl ?_)|(with_reducible first|exact PanicOk.body|exact rd.panic|refine PanicOk.then' ?_|refine PanicOk.block ?_|refine PanicOk.jump ?_)|(refine dc ?_)|(refine dn ?_)|(refine TL.done (by rfl) ?_)|(refine TL.auto tysOk rfl ?_ (by rfl) ?_ ?_)|((refine TL.one (by rfl) ?_);first|(refine sm ?_ ?_)|(refine sp ?_ ?_))|(refine sm ?_ ?_)|refine ct ?_|refine cf ?_|((first|refine gs ?_ ?_|refine gl ?_ ?_|refine gc ?_ ?_)<;>intro h<;>(try simp only [NS] at h)<;>(try exact xf)<;>(try refine rn ?_ ?_))))
    refine TE.loopG (fun q : Nat => q ≤ l.length ∧ ∀ j, j < q → l.getD j eS = m.getD j eS) (fun q => [(13, .o (.c (.int .i64 q)))]) [] (fun _ => []) (fun q => l.length - q) 0 (by rfl) ⟨Nat.zero_le _, fun j hj => absurd hj (Nat.not_lt_zero _)⟩ ?_ ?_
    · (refine Ent.of rfl rfl (by rfl) ?_;(try (first|exact trivial|((with_reducible refine AllP.go ?_);dsimp only [AllP, appP];repeat' (first|refine And.intro ?_ ?_|exact zz)))))
    rintro q ⟨hq, hg⟩
    by_cases hlt : q < l.length
    · by_cases he : l.getD q eS = m.getD q eS
      · (repeat' (first|(with_reducible refine AllP.go ?_;first|exact og|((try simp only [OS]);repeat' (first|exact oj|refine And.intro ?_ ?_)))|(refine rg ?_ ?_)|(with_reducible first|refine stp ?_|refine tD rfl ?_)|(with_reducible first|exact PanicOk.body|exact rd.panic|refine PanicOk.then' ?_|refine PanicOk.block ?_|refine PanicOk.jump ?_)|(refine dc ?_)|(refine dn ?_)|(refine TL.done (by rfl) ?_)|(refine TL.auto tysOk rfl ?_ (by rfl) ?_ ?_)|((refine TL.one (by rfl) ?_);first|(refine sm ?_ ?_)|(refine sp ?_ ?_))|(refine sm ?_ ?_)|refine ct ?_|refine cf ?_|((first|refine gs ?_ ?_|refine gl ?_ ?_|refine gc ?_ ?_)<;>intro h<;>(try simp only [NS] at h)<;>(try exact xf)<;>(try refine rn ?_ ?_))))
        refine TE.again' (q + 1) ⟨by omega, fun j hj => ?_⟩ (by omega) ?_
        · rcases Nat.lt_or_ge j q with h5 | h5
          · exact hg j h5
          · obtain rfl : j = q := by omega
            exact he
        · (refine Ent.of rfl rfl (by rfl) ?_;(try (first|exact trivial|((with_reducible refine AllP.go ?_);dsimp only [AllP, appP];repeat' (first|refine And.intro ?_ ?_|exact zz)))))
      · have hne : l ≠ m := fun e => he (by rw [e])
        (repeat' (first|(with_reducible refine AllP.go ?_;first|exact og|((try simp only [OS]);repeat' (first|exact oj|refine And.intro ?_ ?_)))|(refine rg ?_ ?_)|(with_reducible first|refine stp ?_|refine tD rfl ?_)|(with_reducible first|exact PanicOk.body|exact rd.panic|refine PanicOk.then' ?_|refine PanicOk.block ?_|refine PanicOk.jump ?_)|(refine dc ?_)|(refine dn ?_)|(refine TL.done (by rfl) ?_)|(refine TL.auto tysOk rfl ?_ (by rfl) ?_ ?_)|((refine TL.one (by rfl) ?_);first|(refine sm ?_ ?_)|(refine sp ?_ ?_))|(refine sm ?_ ?_)|refine ct ?_|refine cf ?_|((first|refine gs ?_ ?_|refine gl ?_ ?_|refine gc ?_ ?_)<;>intro h<;>(try simp only [NS] at h)<;>(try exact xf)<;>(try refine rn ?_ ?_))))
        (refine TE.ret' io rfl tysOk (()) ?_ rfl (by rfl) ?_;all_goals (try (first|exact trivial|((with_reducible refine AllP.go ?_);dsimp only [AllP, appP];repeat' (first|refine And.intro ?_ ?_|exact zz)))))
        exact congrArg Value.bool (decide_eq_false hne).symm
    · have heq : l = m := plist_eq_of hlm fun k hk => hg k (by omega)
      (repeat' (first|(with_reducible refine AllP.go ?_;first|exact og|((try simp only [OS]);repeat' (first|exact oj|refine And.intro ?_ ?_)))|(refine rg ?_ ?_)|(with_reducible first|refine stp ?_|refine tD rfl ?_)|(with_reducible first|exact PanicOk.body|exact rd.panic|refine PanicOk.then' ?_|refine PanicOk.block ?_|refine PanicOk.jump ?_)|(refine dc ?_)|(refine dn ?_)|(refine TL.done (by rfl) ?_)|(refine TL.auto tysOk rfl ?_ (by rfl) ?_ ?_)|((refine TL.one (by rfl) ?_);first|(refine sm ?_ ?_)|(refine sp ?_ ?_))|(refine sm ?_ ?_)|refine ct ?_|refine cf ?_|((first|refine gs ?_ ?_|refine gl ?_ ?_|refine gc ?_ ?_)<;>intro h<;>(try simp only [NS] at h)<;>(try exact xf)<;>(try refine rn ?_ ?_))))
      (refine TE.ret' io rfl tysOk (()) ?_ rfl (by rfl) ?_;all_goals (try (first|exact trivial|((with_reducible refine AllP.go ?_);dsimp only [AllP, appP];repeat' (first|refine And.intro ?_ ?_|exact zz)))))
      exact congrArg Value.bool (decide_eq_true heq).symm
  · have hne : l ≠ m := fun e => hlm (by rw [e])
    (repeat' (first|(with_reducible refine AllP.go ?_;first|exact og|((try simp only [OS]);repeat' (first|exact oj|refine And.intro ?_ ?_)))|(refine rg ?_ ?_)|(with_reducible first|refine stp ?_|refine tD rfl ?_)|(with_reducible first|exact PanicOk.body|exact rd.panic|refine PanicOk.then' ?_|refine PanicOk.block ?_|refine PanicOk.jump ?_)|(refine dc ?_)|(refine dn ?_)|(refine TL.done (by rfl) ?_)|(refine TL.auto tysOk rfl ?_ (by rfl) ?_ ?_)|((refine TL.one (by rfl) ?_);first|(refine sm ?_ ?_)|(refine sp ?_ ?_))|(refine sm ?_ ?_)|refine ct ?_|refine cf ?_|((first|refine gs ?_ ?_|refine gl ?_ ?_|refine gc ?_ ?_)<;>intro h<;>(try simp only [NS] at h)<;>(try exact xf)<;>(try refine rn ?_ ?_))))
    (refine TE.ret' io rfl tysOk (()) ?_ rfl (by rfl) ?_;all_goals (try (first|exact trivial|((with_reducible refine AllP.go ?_);dsimp only [AllP, appP];repeat' (first|refine And.intro ?_ ?_|exact zz)))))
    exact congrArg Value.bool (decide_eq_false hne).symm
abbrev treesC (l : List Nd) : Ct := litC [[.sl 8 l.length (ndC l).cell]]
set_option maxRecDepth 20000 in
theorem tcheck_c (l : List Nd) (hl : l.length ≤ 1000000) (hx : ∀ x ∈ l, okN x) : Con Try.prog 84 [.o (.own 0)] [.own 0 29 1 (treesC l)] 1 1 U (fun _ => .o (.c (.int .i64 (checkT l).2))) (fun _ => [.own 0 29 1 (treesC l)]) := by
  refine con_of Try.func84 rfl (by kernel_rfl) Try.ntmps84 rfl (by first | exact Nat.zero_le _ | decide) (fun _ => ⟨rfl, rfl⟩) fun w S ν => ?_
  have hc := check_c l hl hx
  (repeat' (first|(with_reducible refine AllP.go ?_;first|exact og|((try simp only [OS]);repeat' (first|exact oj|refine And.intro ?_ ?_)))|(refine rg ?_ ?_)|(with_reducible first|refine stp ?_|refine tD rfl ?_)|refine ct ?_|refine cf ?_|((first|refine gs ?_ ?_|refine gl ?_ ?_|refine gc ?_ ?_)<;>intro h<;>(try simp only [NS] at h)<;>(try exact xf)<;>(try refine rn ?_ ?_))))
  refine TE.loopG (fun q : Nat => q ≤ 1 ∧ (q = 1 → (checkT l).2 = 0)) (fun q => [(9, .o (.c (.int .i64 q)))]) [] (fun _ => []) (fun q => 1 - q) 0 (by rfl) ⟨by omega, fun h => by omega⟩ ?_ ?_
  · (refine Ent.of rfl rfl (by rfl) ?_;(try (first|exact trivial|((with_reducible refine AllP.go ?_);dsimp only [AllP, appP];repeat' (first|refine And.intro ?_ ?_|exact zz)))))
  rintro q ⟨hq, hg⟩
  by_cases h0 : q = 0
  · subst h0
    (repeat' (first|(with_reducible refine AllP.go ?_;first|exact og|((try simp only [OS]);repeat' (first|exact oj|refine And.intro ?_ ?_)))|(refine rg ?_ ?_)|(with_reducible first|refine stp ?_|refine tD rfl ?_)|refine ct ?_|refine cf ?_|((first|refine gs ?_ ?_|refine gl ?_ ?_|refine gc ?_ ?_)<;>intro h<;>(try simp only [NS] at h)<;>(try exact xf)<;>(try refine rn ?_ ?_))))
    refine TE.callW (hc) rfl (by rfl) (by rfl) rfl (by rfl) (by (first|exact trivial|((with_reducible refine AllP.go ?_);dsimp only [AllP, appP];repeat' (first|refine And.intro ?_ ?_|exact zz|assumption)))) ?_
    intro _ _
    by_cases he : (checkT l).2 ≠ 0
    · ((refine rn ?_ ?_);(repeat' (first|(with_reducible refine AllP.go ?_;first|exact og|((try simp only [OS]);repeat' (first|exact oj|refine And.intro ?_ ?_)))|(refine rg ?_ ?_)|(with_reducible first|refine stp ?_|refine tD rfl ?_)|refine ct ?_|refine cf ?_|((first|refine gs ?_ ?_|refine gl ?_ ?_|refine gc ?_ ?_)<;>intro h<;>(try simp only [NS] at h)<;>(try exact xf)<;>(try refine rn ?_ ?_)))))
      (refine TE.ret' io rfl tysOk (()) ?_ rfl (by rfl) ?_;all_goals (try (first|exact trivial|((with_reducible refine AllP.go ?_);dsimp only [AllP, appP];repeat' (first|refine And.intro ?_ ?_|exact zz)))))
    · ((refine rn ?_ ?_);(repeat' (first|(with_reducible refine AllP.go ?_;first|exact og|((try simp only [OS]);repeat' (first|exact oj|refine And.intro ?_ ?_)))|(refine rg ?_ ?_)|(with_reducible first|refine stp ?_|refine tD rfl ?_)|refine ct ?_|refine cf ?_|((first|refine gs ?_ ?_|refine gl ?_ ?_|refine gc ?_ ?_)<;>intro h<;>(try simp only [NS] at h)<;>(try exact xf)<;>(try refine rn ?_ ?_)))))
      refine TE.again' 1 ⟨by omega, fun _ => Decidable.not_not.1 he⟩ (by omega) ?_
      (refine Ent.of rfl rfl (by rfl) ?_;(try (first|exact trivial|((with_reducible refine AllP.go ?_);dsimp only [AllP, appP];repeat' (first|refine And.intro ?_ ?_|exact zz)))))
  · obtain rfl : q = 1 := by omega
    rw [hg rfl]
    (repeat' (first|(with_reducible refine AllP.go ?_;first|exact og|((try simp only [OS]);repeat' (first|exact oj|refine And.intro ?_ ?_)))|(refine rg ?_ ?_)|(with_reducible first|refine stp ?_|refine tD rfl ?_)|refine ct ?_|refine cf ?_|((first|refine gs ?_ ?_|refine gl ?_ ?_|refine gc ?_ ?_)<;>intro h<;>(try simp only [NS] at h)<;>(try exact xf)<;>(try refine rn ?_ ?_))))
    (refine TE.ret' io rfl tysOk (()) ?_ rfl (by rfl) ?_;all_goals (try (first|exact trivial|((with_reducible refine AllP.go ?_);dsimp only [AllP, appP];repeat' (first|refine And.intro ?_ ?_|exact zz)))))
set_option maxRecDepth 20000 in
theorem twalk_c (l : List Nd) : Con Try.prog 104 [.o (.ro 8 l.length (ndC l).cell)] [] 0 1 U (fun _ => .o (.clo 114 [(0, 0)])) (fun _ => [.box 0 29 [.ro 8 l.length (ndC l).cell]]) := by
  refine con_of Try.func104 rfl (by kernel_rfl) Try.ntmps104 rfl (by first | exact Nat.zero_le _ | decide) (fun _ => ⟨rfl, rfl⟩) fun w S ν => ?_
  (repeat' (first|(with_reducible refine AllP.go ?_;first|exact og|((try simp only [OS]);repeat' (first|exact oj|refine And.intro ?_ ?_)))|(refine rg ?_ ?_)|(with_reducible first|refine stp ?_|refine tD rfl ?_)|(with_reducible first|exact PanicOk.body|exact rd.panic|refine PanicOk.then' ?_|refine PanicOk.block ?_|refine PanicOk.jump ?_)|(refine dc ?_)|(refine dn ?_)|(refine TL.done (by rfl) ?_)|(refine TL.auto tysOk rfl ?_ (by rfl) ?_ ?_)|((refine TL.one (by rfl) ?_);first|(refine sm ?_ ?_)|(refine sp ?_ ?_))|(refine sm ?_ ?_)|refine ct ?_|refine cf ?_|((first|refine gs ?_ ?_|refine gl ?_ ?_|refine gc ?_ ?_)<;>intro h<;>(try simp only [NS] at h)<;>(try exact xf)<;>(try refine rn ?_ ?_))))
  (refine TE.ret' io rfl tysOk (()) ?_ rfl (by rfl) ?_;all_goals (try (first|exact trivial|((with_reducible refine AllP.go ?_);dsimp only [AllP, appP];repeat' (first|refine And.intro ?_ ?_|exact zz)))))
theorem findI_at {l : List Nd} {p : List ByteArray} {q : Nat} (hq : q < l.length) (hg : ∀ j, j < q → pathI l j ≠ p) (h : pathI l q = p) : findI l p = q := findF_at _ _ _ (Nat.zero_le _) (by omega) (fun j _ hj => hg j hj) h
theorem findI_none {l : List Nd} {p : List ByteArray} (hg : ∀ j, j < l.length → pathI l j ≠ p) : findI l p = -1 := findF_none _ _ fun j _ hj => hg j (by omega)
set_option maxRecDepth 20000 in
set_option maxHeartbeats 4000000 in
theorem tfind_c (l : List Nd) (p : List ByteArray) (hl : l.length ≤ 1000000) (hp : p.length ≤ 1000000) (hT : Tok l) : Con Try.prog 85 [.o (.ro 8 l.length (ndC l).cell), .o (.ro 1 p.length (paC p).cell)] [] 0 0 U (fun _ => .o (.c (.int .i64 (findI l p)))) G0 := by
  refine con_of Try.func85 rfl (by kernel_rfl) Try.ntmps85 rfl (by first | exact Nat.zero_le _ | decide) (fun _ => ⟨rfl, rfl⟩) fun w S ν => ?_
  (repeat' (first|(with_reducible refine AllP.go ?_;first|exact og|((try simp only [OS]);repeat' (first|exact oj|refine And.intro ?_ ?_)))|(refine rg ?_ ?_)|(with_reducible first|refine stp ?_|refine tD rfl ?_)|refine ct ?_|refine cf ?_|((first|refine gs ?_ ?_|refine gl ?_ ?_|refine gc ?_ ?_)<;>intro h<;>(try simp only [NS] at h)<;>(try exact xf)<;>(try refine rn ?_ ?_))))
  refine TE.callW (twalk_c l) rfl (by rfl) (by rfl) rfl (by rfl) (by (first|exact trivial|((with_reducible refine AllP.go ?_);dsimp only [AllP, appP];repeat' (first|refine And.intro ?_ ?_|exact zz|assumption)))) ?_
  intro _ _
  ((refine rn ?_ ?_);(repeat' (first|(with_reducible refine AllP.go ?_;first|exact og|((try simp only [OS]);repeat' (first|exact oj|refine And.intro ?_ ?_)))|(refine rg ?_ ?_)|(with_reducible first|refine stp ?_|refine tD rfl ?_)|refine ct ?_|refine cf ?_|((first|refine gs ?_ ?_|refine gl ?_ ?_|refine gc ?_ ?_)<;>intro h<;>(try simp only [NS] at h)<;>(try exact xf)<;>(try refine rn ?_ ?_)))))
  (refine TE.range rfl (by rfl) (by rfl) (by kernel_rfl) (by rfl) (by rfl) rfl ?_)
  intro l' a1 w0 B0 S0 ν0 L
  (repeat (first|(with_reducible refine AllP.go ?_;first|exact og|((try simp only [OS]);repeat' (first|exact oj|refine And.intro ?_ ?_)))|(refine rg ?_ ?_)|(with_reducible first|refine stp ?_|refine tD rfl ?_)|(with_reducible first|exact PanicOk.body|exact rd.panic|refine PanicOk.then' ?_|refine PanicOk.block ?_|refine PanicOk.jump ?_)|(refine dc ?_)|(refine dn ?_)|(refine TL.done (by rfl) ?_)|(refine TL.auto tysOk rfl ?_ (by rfl) ?_ ?_)|((refine TL.one (by rfl) ?_);first|(refine sm ?_ ?_)|(refine sp ?_ ?_))|(refine sm ?_ ?_)|refine ct ?_|refine cf ?_))
  refine TE.nilOwn 3 9 1 (by rfl) ?_
  refine TE.loopG (fun q : Nat => q ≤ l.length ∧ ∀ j, j < q → pathI l j ≠ p) (fun q => [(8, .o (.c (.int .i64 q))), (3, .o (.own 3))]) [3] (fun q => [.own 3 9 1 (paC (pstI l q))]) (fun q => l.length - q) 0 (by rfl) ⟨Nat.zero_le _, fun j hj => absurd hj (Nat.not_lt_zero _)⟩ ?_ ?_
  · (refine Ent.of rfl rfl (by rfl) ?_;(try (first|exact trivial|((with_reducible refine AllP.go ?_);dsimp only [AllP, appP];repeat' (first|refine And.intro ?_ ?_|exact zz)))))
    exact LeDC.nil rfl rfl
  rintro q ⟨hq, hg⟩
  by_cases hlt : q < l.length
  · have hkp : (paC (pstI l q)).n = (pstI l q).length := rfl
    obtain ⟨f1, f2, f3, f4, f5⟩ := walk_facts hT (q := q) hlt
    have hpl := (pcheck_iff.1 (path_ok hT q hlt)).1
    have hpp : pstI l (q + 1) = pathI l q := pstI_path hT hlt
    have heq := equalO_c (pathI l q) p (by omega) hp
    rcases Nat.eq_zero_or_pos q with h0 | h0
    · subst h0
      have e0 : pathI l 0 = [] := rfl
      (repeat' (first|(with_reducible refine AllP.go ?_;first|exact og|((try simp only [OS]);repeat' (first|exact oj|refine And.intro ?_ ?_)))|(refine rg ?_ ?_)|(with_reducible first|refine stp ?_|refine tD rfl ?_)|refine ct ?_|refine cf ?_|((first|refine gs ?_ ?_|refine gl ?_ ?_|refine gc ?_ ?_)<;>intro h<;>(try simp only [NS] at h)<;>(try exact xf)<;>(try refine rn ?_ ?_))))
      (refine TE.only [26, 25, 24, 8, 7, 6, 3, 1, 0] (by rfl) ?_)
      (refine TE.yield L rfl (by rfl) (by rfl) rfl rfl (by rfl) (by rfl) (by rfl) rfl (by rfl) ?_)
      intro Qr w1 B1 S1 ν1 rd
      (repeat (first|(with_reducible refine AllP.go ?_;first|exact og|((try simp only [OS]);repeat' (first|exact oj|refine And.intro ?_ ?_)))|(refine rg ?_ ?_)|(with_reducible first|refine stp ?_|refine tD rfl ?_)|(with_reducible first|exact PanicOk.body|exact rd.panic|refine PanicOk.then' ?_|refine PanicOk.block ?_|refine PanicOk.jump ?_)|(refine dc ?_)|(refine dn ?_)|(refine TL.done (by rfl) ?_)|(refine TL.auto tysOk rfl ?_ (by rfl) ?_ ?_)|((refine TL.one (by rfl) ?_);first|(refine sm ?_ ?_)|(refine sp ?_ ?_))|(refine sm ?_ ?_)|refine ct ?_|refine cf ?_))
      refine rd.begin ?_
      clear rd
      intro w1 B1 S1 ν1 rd
      have heq0 := equalO_c (pstI l 0) p (by omega) hp
      have e1 : pstI l 0 = pathI l 0 := rfl
      (repeat' (first|(with_reducible refine AllP.go ?_;first|exact og|((try simp only [OS]);repeat' (first|exact oj|refine And.intro ?_ ?_)))|(refine rg ?_ ?_)|(with_reducible first|refine stp ?_|refine tD rfl ?_)|refine ct ?_|refine cf ?_|((first|refine gs ?_ ?_|refine gl ?_ ?_|refine gc ?_ ?_)<;>intro h<;>(try simp only [NS] at h)<;>(try exact xf)<;>(try refine rn ?_ ?_))))
      refine TE.callW (heq0) rfl (by rfl) (by rfl) rfl (by rfl) (by (first|exact trivial|((with_reducible refine AllP.go ?_);dsimp only [AllP, appP];repeat' (first|refine And.intro ?_ ?_|exact zz|assumption)))) ?_
      intro _ _
      by_cases hpe : pstI l 0 = p
      · ((refine rn ?_ ?_);(repeat' (first|(with_reducible refine AllP.go ?_;first|exact og|((try simp only [OS]);repeat' (first|exact oj|refine And.intro ?_ ?_)))|(refine rg ?_ ?_)|(with_reducible first|refine stp ?_|refine tD rfl ?_)|refine ct ?_|refine cf ?_|((first|refine gs ?_ ?_|refine gl ?_ ?_|refine gc ?_ ?_)<;>intro h<;>(try simp only [NS] at h)<;>(try exact xf)<;>(try refine rn ?_ ?_)))))
        (refine rd.ret ?_;intro w2 B2 S2 ν2 L2;((refine rn ?_ ?_);(repeat' (first|(with_reducible refine AllP.go ?_;first|exact og|((try simp only [OS]);repeat' (first|exact oj|refine And.intro ?_ ?_)))|(refine rg ?_ ?_)|(with_reducible first|refine stp ?_|refine tD rfl ?_)|refine ct ?_|refine cf ?_|((first|refine gs ?_ ?_|refine gl ?_ ?_|refine gc ?_ ?_)<;>intro h<;>(try simp only [NS] at h)<;>(try exact xf)<;>(try refine rn ?_ ?_)))));refine TE.iterStop L2 io (by rfl) ?_;(repeat' (first|(with_reducible refine AllP.go ?_;first|exact og|((try simp only [OS]);repeat' (first|exact oj|refine And.intro ?_ ?_)))|(refine rg ?_ ?_)|(with_reducible first|refine stp ?_|refine tD rfl ?_)|refine ct ?_|refine cf ?_|((first|refine gs ?_ ?_|refine gl ?_ ?_|refine gc ?_ ?_)<;>intro h<;>(try simp only [NS] at h)<;>(try exact xf)<;>(try refine rn ?_ ?_)))))
        rw [findI_at hlt hg (e1.symm.trans hpe)]
        (refine TE.ret' io rfl tysOk (()) ?_ rfl (by rfl) ?_;all_goals (try (first|exact trivial|((with_reducible refine AllP.go ?_);dsimp only [AllP, appP];repeat' (first|refine And.intro ?_ ?_|exact zz)))))
      · ((refine rn ?_ ?_);(repeat' (first|(with_reducible refine AllP.go ?_;first|exact og|((try simp only [OS]);repeat' (first|exact oj|refine And.intro ?_ ?_)))|(refine rg ?_ ?_)|(with_reducible first|refine stp ?_|refine tD rfl ?_)|refine ct ?_|refine cf ?_|((first|refine gs ?_ ?_|refine gl ?_ ?_|refine gc ?_ ?_)<;>intro h<;>(try simp only [NS] at h)<;>(try exact xf)<;>(try refine rn ?_ ?_)))))
        refine rd.normal ?_
        ((refine rn ?_ ?_);(repeat' (first|(with_reducible refine AllP.go ?_;first|exact og|((try simp only [OS]);repeat' (first|exact oj|refine And.intro ?_ ?_)))|(refine rg ?_ ?_)|(with_reducible first|refine stp ?_|refine tD rfl ?_)|refine ct ?_|refine cf ?_|((first|refine gs ?_ ?_|refine gl ?_ ?_|refine gc ?_ ?_)<;>intro h<;>(try simp only [NS] at h)<;>(try exact xf)<;>(try refine rn ?_ ?_)))))
        refine TE.again' 1 ⟨by omega, fun j hj => ?_⟩ (by omega) ?_
        · obtain rfl : j = 0 := by omega
          exact fun h => hpe (e1.trans h)
        · rw [pstI_zero hlt]
          (refine Ent.of rfl rfl (by rfl) ?_;(try (first|exact trivial|((with_reducible refine AllP.go ?_);dsimp only [AllP, appP];repeat' (first|refine And.intro ?_ ?_|exact zz)))))
    · obtain ⟨k1, _⟩ := walk_at hT hlt h0
      have hps := pstI_succ hlt h0
      have ht2 : ((pstI l q).take ((l.getD q n0).depth - 1).toNat).length = ((l.getD q n0).depth - 1).toNat := by rw [List.length_take]; omega
      (repeat' (first|(with_reducible refine AllP.go ?_;first|exact og|((try simp only [OS]);repeat' (first|exact oj|refine And.intro ?_ ?_)))|(refine rg ?_ ?_)|(with_reducible first|refine stp ?_|refine tD rfl ?_)|refine ct ?_|refine cf ?_|((first|refine gs ?_ ?_|refine gl ?_ ?_|refine gc ?_ ?_)<;>intro h<;>(try simp only [NS] at h)<;>(try exact xf)<;>(try refine rn ?_ ?_))))
      refine TE.midG (ι := Unit) (fun _ => True) (fun _ => [(3, .o (.own 3))]) [3] (fun _ => [.own 3 9 1 (paC (pstI l (q + 1)))]) (by rfl) ?_ fun _ _ => ?_
      · have hdl : ((headC (paC (pstI l q)) ((l.getD ((q : Nat) : Int).toNat n0).depth - 1).toNat)).n = ((l.getD q n0).depth - 1).toNat := rfl
        (refine TE.drawK (fun i => Nat.beq i 4) (by rfl) (by rfl) (by rfl) ?_)
        (repeat' (first|(with_reducible refine AllP.go ?_;first|exact og|((try simp only [OS]);repeat' (first|exact oj|refine And.intro ?_ ?_)))|(with_reducible first|exact PanicOk.body|exact rd.panic|refine PanicOk.then' ?_|refine PanicOk.block ?_|refine PanicOk.jump ?_)|(refine TL.done (by rfl) ?_)|(refine TL.auto tysOk rfl ?_ (by rfl) ?_ ?_)|((refine TL.one (by rfl) ?_);first|(refine sm ?_ ?_)|(refine sp ?_ ?_)|(refine StepL.law rfl rfl rfl (fun _ h => nomatch h) rfl (m_nilO rfl rfl) (by rfl) ?_;rintro _ rfl)|(refine StepL.law rfl rfl rfl (fun _ h => nomatch h) rfl (m_cutOwn tysOk rfl (und_slice tysOk rfl) rfl rfl rfl rfl rfl ?_) (by rfl) ?_;rotate_left;rintro _ rfl;rotate_right;first|omega|skip))|(refine sm ?_ ?_)|(refine sp ?_ ?_)|(refine StepL.law rfl rfl rfl (fun _ h => nomatch h) rfl (m_nilO rfl rfl) (by rfl) ?_;rintro _ rfl)|(refine StepL.law rfl rfl rfl (fun _ h => nomatch h) rfl (m_cutOwn tysOk rfl (und_slice tysOk rfl) rfl rfl rfl rfl rfl ?_) (by rfl) ?_;rotate_left;rintro _ rfl;rotate_right;first|omega|skip)|((first|refine gl ?_ ?_|refine gc ?_ ?_)<;>intro h<;>(try simp only [NS] at h)<;>(try exact xf))|(refine TL.two (by rfl) ?_ ?_)|(refine TL.three (by rfl) ?_ ?_ ?_)|(refine TL.four (by rfl) ?_ ?_ ?_ ?_)))
        all_goals first | (simp only [Int.toNat_natCast]; rw [hkp]; omega) | skip
        all_goals (repeat (with_reducible first|refine stp ?_|refine tD rfl ?_))
        all_goals (refine TE.at () trivial ?_;(refine Ent.of rfl rfl (by rfl) ?_;(try (first|exact trivial|((with_reducible refine AllP.go ?_);dsimp only [AllP, appP];repeat' (first|refine And.intro ?_ ?_|exact zz))))))
        all_goals exact (LeDC.app (head_take (by simp only [Int.toNat_natCast]) (by omega)) (LeDC.refl _ _)).trans (listC_snoc _ hps (nth1 rfl))
      (refine TE.only [8, 7, 6, 4, 3, 1, 0] (by rfl) ?_)
      (repeat' (first|(with_reducible refine AllP.go ?_;first|exact og|((try simp only [OS]);repeat' (first|exact oj|refine And.intro ?_ ?_)))|(refine rg ?_ ?_)|(with_reducible first|refine stp ?_|refine tD rfl ?_)|refine ct ?_|refine cf ?_|((first|refine gs ?_ ?_|refine gl ?_ ?_|refine gc ?_ ?_)<;>intro h<;>(try simp only [NS] at h)<;>(try exact xf)<;>(try refine rn ?_ ?_))))
      (refine TE.only [26, 25, 24, 8, 7, 6, 3, 1, 0] (by rfl) ?_)
      (refine TE.yield L rfl (by rfl) (by rfl) rfl rfl (by rfl) (by rfl) (by rfl) rfl (by rfl) ?_)
      intro Qr w1 B1 S1 ν1 rd
      (repeat (first|(with_reducible refine AllP.go ?_;first|exact og|((try simp only [OS]);repeat' (first|exact oj|refine And.intro ?_ ?_)))|(refine rg ?_ ?_)|(with_reducible first|refine stp ?_|refine tD rfl ?_)|(with_reducible first|exact PanicOk.body|exact rd.panic|refine PanicOk.then' ?_|refine PanicOk.block ?_|refine PanicOk.jump ?_)|(refine dc ?_)|(refine dn ?_)|(refine TL.done (by rfl) ?_)|(refine TL.auto tysOk rfl ?_ (by rfl) ?_ ?_)|((refine TL.one (by rfl) ?_);first|(refine sm ?_ ?_)|(refine sp ?_ ?_))|(refine sm ?_ ?_)|refine ct ?_|refine cf ?_))
      refine rd.begin ?_
      clear rd
      intro w1 B1 S1 ν1 rd
      have heq0 := equalO_c (pstI l (q + 1)) p (by rw [hpp]; omega) hp
      (repeat' (first|(with_reducible refine AllP.go ?_;first|exact og|((try simp only [OS]);repeat' (first|exact oj|refine And.intro ?_ ?_)))|(refine rg ?_ ?_)|(with_reducible first|refine stp ?_|refine tD rfl ?_)|refine ct ?_|refine cf ?_|((first|refine gs ?_ ?_|refine gl ?_ ?_|refine gc ?_ ?_)<;>intro h<;>(try simp only [NS] at h)<;>(try exact xf)<;>(try refine rn ?_ ?_))))
      refine TE.callW (heq0) rfl (by rfl) (by rfl) rfl (by rfl) (by (first|exact trivial|((with_reducible refine AllP.go ?_);dsimp only [AllP, appP];repeat' (first|refine And.intro ?_ ?_|exact zz|assumption)))) ?_
      intro _ _
      by_cases hpe : pstI l (q + 1) = p
      · ((refine rn ?_ ?_);(repeat' (first|(with_reducible refine AllP.go ?_;first|exact og|((try simp only [OS]);repeat' (first|exact oj|refine And.intro ?_ ?_)))|(refine rg ?_ ?_)|(with_reducible first|refine stp ?_|refine tD rfl ?_)|refine ct ?_|refine cf ?_|((first|refine gs ?_ ?_|refine gl ?_ ?_|refine gc ?_ ?_)<;>intro h<;>(try simp only [NS] at h)<;>(try exact xf)<;>(try refine rn ?_ ?_)))))
        (refine rd.ret ?_;intro w2 B2 S2 ν2 L2;((refine rn ?_ ?_);(repeat' (first|(with_reducible refine AllP.go ?_;first|exact og|((try simp only [OS]);repeat' (first|exact oj|refine And.intro ?_ ?_)))|(refine rg ?_ ?_)|(with_reducible first|refine stp ?_|refine tD rfl ?_)|refine ct ?_|refine cf ?_|((first|refine gs ?_ ?_|refine gl ?_ ?_|refine gc ?_ ?_)<;>intro h<;>(try simp only [NS] at h)<;>(try exact xf)<;>(try refine rn ?_ ?_)))));refine TE.iterStop L2 io (by rfl) ?_;(repeat' (first|(with_reducible refine AllP.go ?_;first|exact og|((try simp only [OS]);repeat' (first|exact oj|refine And.intro ?_ ?_)))|(refine rg ?_ ?_)|(with_reducible first|refine stp ?_|refine tD rfl ?_)|refine ct ?_|refine cf ?_|((first|refine gs ?_ ?_|refine gl ?_ ?_|refine gc ?_ ?_)<;>intro h<;>(try simp only [NS] at h)<;>(try exact xf)<;>(try refine rn ?_ ?_)))))
        rw [findI_at hlt hg (hpp.symm.trans hpe)]
        (refine TE.ret' io rfl tysOk (()) ?_ rfl (by rfl) ?_;all_goals (try (first|exact trivial|((with_reducible refine AllP.go ?_);dsimp only [AllP, appP];repeat' (first|refine And.intro ?_ ?_|exact zz)))))
      · ((refine rn ?_ ?_);(repeat' (first|(with_reducible refine AllP.go ?_;first|exact og|((try simp only [OS]);repeat' (first|exact oj|refine And.intro ?_ ?_)))|(refine rg ?_ ?_)|(with_reducible first|refine stp ?_|refine tD rfl ?_)|refine ct ?_|refine cf ?_|((first|refine gs ?_ ?_|refine gl ?_ ?_|refine gc ?_ ?_)<;>intro h<;>(try simp only [NS] at h)<;>(try exact xf)<;>(try refine rn ?_ ?_)))))
        refine rd.normal ?_
        ((refine rn ?_ ?_);(repeat' (first|(with_reducible refine AllP.go ?_;first|exact og|((try simp only [OS]);repeat' (first|exact oj|refine And.intro ?_ ?_)))|(refine rg ?_ ?_)|(with_reducible first|refine stp ?_|refine tD rfl ?_)|refine ct ?_|refine cf ?_|((first|refine gs ?_ ?_|refine gl ?_ ?_|refine gc ?_ ?_)<;>intro h<;>(try simp only [NS] at h)<;>(try exact xf)<;>(try refine rn ?_ ?_)))))
        refine TE.again' (q + 1) ⟨by omega, fun j hj => ?_⟩ (by omega) ?_
        · rcases Nat.lt_or_ge j q with h4 | h4
          · exact hg j h4
          · obtain rfl : j = q := by omega
            exact fun h => hpe (hpp.trans h)
        · (refine Ent.of rfl rfl (by rfl) ?_;(try (first|exact trivial|((with_reducible refine AllP.go ?_);dsimp only [AllP, appP];repeat' (first|refine And.intro ?_ ?_|exact zz)))))
  · obtain rfl : q = l.length := by omega
    (repeat' (first|(with_reducible refine AllP.go ?_;first|exact og|((try simp only [OS]);repeat' (first|exact oj|refine And.intro ?_ ?_)))|(refine rg ?_ ?_)|(with_reducible first|refine stp ?_|refine tD rfl ?_)|refine ct ?_|refine cf ?_|((first|refine gs ?_ ?_|refine gl ?_ ?_|refine gc ?_ ?_)<;>intro h<;>(try simp only [NS] at h)<;>(try exact xf)<;>(try refine rn ?_ ?_))))
    refine TE.iterEnd L (by first | exact .inl rfl | exact .inr rfl) (by rfl) ?_
    (repeat' (first|(with_reducible refine AllP.go ?_;first|exact og|((try simp only [OS]);repeat' (first|exact oj|refine And.intro ?_ ?_)))|(refine rg ?_ ?_)|(with_reducible first|refine stp ?_|refine tD rfl ?_)|refine ct ?_|refine cf ?_|((first|refine gs ?_ ?_|refine gl ?_ ?_|refine gc ?_ ?_)<;>intro h<;>(try simp only [NS] at h)<;>(try exact xf)<;>(try refine rn ?_ ?_))))
    rw [findI_none hg]
    (refine TE.ret' io rfl tysOk (()) ?_ rfl (by rfl) ?_;all_goals (try (first|exact trivial|((with_reducible refine AllP.go ?_);dsimp only [AllP, appP];repeat' (first|refine And.intro ?_ ?_|exact zz)))))
end Go.Proofs.Ythhpofehcnjmmaa.Am
set_option linter.unusedSimpArgs false
set_option linter.unusedVariables false
namespace Go.Proofs.Ythhpofehcnjmmaa.Am
open Go.RowKit Lw
open Br
def okP (p : List ByteArray) : Prop := p.length ≤ 1000000 ∧ ∀ s ∈ p, s.size ≤ 1000000000
set_option maxRecDepth 20000 in
theorem tFind_c (l : List Nd) (p : List ByteArray) (hl : l.length ≤ 1000000) (hx : ∀ x ∈ l, okN x) (hp : okP p) : Con Try.prog 52 [.o (.ro 8 l.length (ndC l).cell), .o (.ro 1 p.length (paC p).cell)] [] 0 0 U (fun _ => .t [.inl (.c (.int .i64 (findE l p).1)), .inl (.c (.int .i64 (findE l p).2))]) G0 := by
  refine con_of Try.func52 rfl (by kernel_rfl) Try.ntmps52 rfl (by first | exact Nat.zero_le _ | decide) (fun _ => ⟨rfl, rfl⟩) fun w S ν => ?_
  have htc := tcheck_c l hl hx
  (repeat' (first|(with_reducible refine AllP.go ?_;first|exact og|((try simp only [OS]);repeat' (first|exact oj|refine And.intro ?_ ?_)))|(refine rg ?_ ?_)|(with_reducible first|refine stp ?_|refine tD rfl ?_)|refine ct ?_|refine cf ?_|((first|refine gs ?_ ?_|refine gl ?_ ?_|refine gc ?_ ?_)<;>intro h<;>(try simp only [NS] at h)<;>(try exact xf)<;>(try refine rn ?_ ?_))))
  refine TE.callW (htc) rfl (by rfl) (by rfl) rfl (by rfl) (by (first|exact trivial|((with_reducible refine AllP.go ?_);dsimp only [AllP, appP];repeat' (first|refine And.intro ?_ ?_|exact zz|assumption)))) ?_
  intro _ _
  by_cases h1 : (checkT l).2 ≠ 0
  · rw [show findE l p = (0, (checkT l).2) from if_pos h1]
    ((refine rn ?_ ?_);(repeat' (first|(with_reducible refine AllP.go ?_;first|exact og|((try simp only [OS]);repeat' (first|exact oj|refine And.intro ?_ ?_)))|(refine rg ?_ ?_)|(with_reducible first|refine stp ?_|refine tD rfl ?_)|refine ct ?_|refine cf ?_|((first|refine gs ?_ ?_|refine gl ?_ ?_|refine gc ?_ ?_)<;>intro h<;>(try simp only [NS] at h)<;>(try exact xf)<;>(try refine rn ?_ ?_)))))
    (refine TE.ret' io rfl tysOk (()) ?_ rfl (by rfl) ?_;all_goals (try (first|exact trivial|((with_reducible refine AllP.go ?_);dsimp only [AllP, appP];repeat' (first|refine And.intro ?_ ?_|exact zz)))))
  have hE : findE l p = if pcheckE p ≠ 0 then (0, pcheckE p) else if findI l p < 0 then (0, 4) else (findI l p, 0) := if_neg h1
  have h1 := Decidable.not_not.1 h1
  have hT : Tok l := h1
  ((refine rn ?_ ?_);(repeat' (first|(with_reducible refine AllP.go ?_;first|exact og|((try simp only [OS]);repeat' (first|exact oj|refine And.intro ?_ ?_)))|(refine rg ?_ ?_)|(with_reducible first|refine stp ?_|refine tD rfl ?_)|refine ct ?_|refine cf ?_|((first|refine gs ?_ ?_|refine gl ?_ ?_|refine gc ?_ ?_)<;>intro h<;>(try simp only [NS] at h)<;>(try exact xf)<;>(try refine rn ?_ ?_)))))
  refine TE.callW (pCheck_c p hp.2 hp.1) rfl (by rfl) (by rfl) rfl (by rfl) (by (first|exact trivial|((with_reducible refine AllP.go ?_);dsimp only [AllP, appP];repeat' (first|refine And.intro ?_ ?_|exact zz|assumption)))) ?_
  intro _ _
  by_cases h2 : pcheckE p ≠ 0
  · rw [if_pos h2] at hE
    rw [hE]
    ((refine rn ?_ ?_);(repeat' (first|(with_reducible refine AllP.go ?_;first|exact og|((try simp only [OS]);repeat' (first|exact oj|refine And.intro ?_ ?_)))|(refine rg ?_ ?_)|(with_reducible first|refine stp ?_|refine tD rfl ?_)|refine ct ?_|refine cf ?_|((first|refine gs ?_ ?_|refine gl ?_ ?_|refine gc ?_ ?_)<;>intro h<;>(try simp only [NS] at h)<;>(try exact xf)<;>(try refine rn ?_ ?_)))))
    (refine TE.ret' io rfl tysOk (()) ?_ rfl (by rfl) ?_;all_goals (try (first|exact trivial|((with_reducible refine AllP.go ?_);dsimp only [AllP, appP];repeat' (first|refine And.intro ?_ ?_|exact zz)))))
  rw [if_neg h2] at hE
  have hf := tfind_c l p hl hp.1 hT
  ((refine rn ?_ ?_);(repeat' (first|(with_reducible refine AllP.go ?_;first|exact og|((try simp only [OS]);repeat' (first|exact oj|refine And.intro ?_ ?_)))|(refine rg ?_ ?_)|(with_reducible first|refine stp ?_|refine tD rfl ?_)|refine ct ?_|refine cf ?_|((first|refine gs ?_ ?_|refine gl ?_ ?_|refine gc ?_ ?_)<;>intro h<;>(try simp only [NS] at h)<;>(try exact xf)<;>(try refine rn ?_ ?_)))))
  refine TE.callW (hf) rfl (by rfl) (by rfl) rfl (by rfl) (by (first|exact trivial|((with_reducible refine AllP.go ?_);dsimp only [AllP, appP];repeat' (first|refine And.intro ?_ ?_|exact zz|assumption)))) ?_
  intro _ _
  by_cases h3 : findI l p < 0
  · rw [if_pos h3] at hE
    rw [hE]
    ((refine rn ?_ ?_);(repeat' (first|(with_reducible refine AllP.go ?_;first|exact og|((try simp only [OS]);repeat' (first|exact oj|refine And.intro ?_ ?_)))|(refine rg ?_ ?_)|(with_reducible first|refine stp ?_|refine tD rfl ?_)|refine ct ?_|refine cf ?_|((first|refine gs ?_ ?_|refine gl ?_ ?_|refine gc ?_ ?_)<;>intro h<;>(try simp only [NS] at h)<;>(try exact xf)<;>(try refine rn ?_ ?_)))))
    (refine TE.ret' io rfl tysOk (()) ?_ rfl (by rfl) ?_;all_goals (try (first|exact trivial|((with_reducible refine AllP.go ?_);dsimp only [AllP, appP];repeat' (first|refine And.intro ?_ ?_|exact zz)))))
  · rw [if_neg h3] at hE
    rw [hE]
    ((refine rn ?_ ?_);(repeat' (first|(with_reducible refine AllP.go ?_;first|exact og|((try simp only [OS]);repeat' (first|exact oj|refine And.intro ?_ ?_)))|(refine rg ?_ ?_)|(with_reducible first|refine stp ?_|refine tD rfl ?_)|refine ct ?_|refine cf ?_|((first|refine gs ?_ ?_|refine gl ?_ ?_|refine gc ?_ ?_)<;>intro h<;>(try simp only [NS] at h)<;>(try exact xf)<;>(try refine rn ?_ ?_)))))
    (refine TE.ret' io rfl tysOk (()) ?_ rfl (by rfl) ?_;all_goals (try (first|exact trivial|((with_reducible refine AllP.go ?_);dsimp only [AllP, appP];repeat' (first|refine And.intro ?_ ?_|exact zz)))))
theorem okn_nds {l : List Bn} (hx : ∀ x ∈ l, okB x) : ∀ x ∈ nds l, okN x := fun x h => by
  obtain ⟨y, hy, rfl⟩ := List.mem_map.1 h
  exact (hx y hy).1
set_option maxRecDepth 20000 in
theorem at_c (l : List Bn) (p : List ByteArray) (hl : l.length ≤ 1000000) (hx : ∀ x ∈ l, okB x) (hp : okP p) : Con Try.prog 20 [.o (.ro 10 l.length (bnC l).cell), .o (.ro 1 p.length (paC p).cell)] [] 0 0 U (fun _ => .t [.inl (.c (.int .i64 (atE l p).1)), .inl (.c (.int .i64 (atE l p).2))]) G0 := by
  refine con_of Try.func20 rfl (by kernel_rfl) Try.ntmps20 rfl (by first | exact Nat.zero_le _ | decide) (fun _ => ⟨rfl, rfl⟩) fun w S ν => ?_
  have hrc := checkB_c l hl hx
  have hti : (nds l).length = l.length := List.length_map ..
  have hrt := tree_c l hl fun x h => (hx x h).1.1
  have hf := tFind_c (nds l) p (by omega) (okn_nds hx) hp
  (repeat' (first|(with_reducible refine AllP.go ?_;first|exact og|((try simp only [OS]);repeat' (first|exact oj|refine And.intro ?_ ?_)))|(refine rg ?_ ?_)|(with_reducible first|refine stp ?_|refine tD rfl ?_)|refine ct ?_|refine cf ?_|((first|refine gs ?_ ?_|refine gl ?_ ?_|refine gc ?_ ?_)<;>intro h<;>(try simp only [NS] at h)<;>(try exact xf)<;>(try refine rn ?_ ?_))))
  refine TE.callW (hrc) rfl (by rfl) (by rfl) rfl (by rfl) (by (first|exact trivial|((with_reducible refine AllP.go ?_);dsimp only [AllP, appP];repeat' (first|refine And.intro ?_ ?_|exact zz|assumption)))) ?_
  intro _ _
  by_cases h1 : (checkB l).2 ≠ 0
  · rw [show atE l p = (0, (checkB l).2) from if_pos h1]
    ((refine rn ?_ ?_);(repeat' (first|(with_reducible refine AllP.go ?_;first|exact og|((try simp only [OS]);repeat' (first|exact oj|refine And.intro ?_ ?_)))|(refine rg ?_ ?_)|(with_reducible first|refine stp ?_|refine tD rfl ?_)|refine ct ?_|refine cf ?_|((first|refine gs ?_ ?_|refine gl ?_ ?_|refine gc ?_ ?_)<;>intro h<;>(try simp only [NS] at h)<;>(try exact xf)<;>(try refine rn ?_ ?_)))))
    (refine TE.ret' io rfl tysOk (()) ?_ rfl (by rfl) ?_;all_goals (try (first|exact trivial|((with_reducible refine AllP.go ?_);dsimp only [AllP, appP];repeat' (first|refine And.intro ?_ ?_|exact zz)))))
  rw [show atE l p = findE (nds l) p from if_neg h1]
  ((refine rn ?_ ?_);(repeat' (first|(with_reducible refine AllP.go ?_;first|exact og|((try simp only [OS]);repeat' (first|exact oj|refine And.intro ?_ ?_)))|(refine rg ?_ ?_)|(with_reducible first|refine stp ?_|refine tD rfl ?_)|refine ct ?_|refine cf ?_|((first|refine gs ?_ ?_|refine gl ?_ ?_|refine gc ?_ ?_)<;>intro h<;>(try simp only [NS] at h)<;>(try exact xf)<;>(try refine rn ?_ ?_)))))
  refine TE.callW (hrt) rfl (by rfl) (by rfl) rfl (by rfl) (by (first|exact trivial|((with_reducible refine AllP.go ?_);dsimp only [AllP, appP];repeat' (first|refine And.intro ?_ ?_|exact zz|assumption)))) ?_
  intro _ _
  ((refine rn ?_ ?_);(repeat' (first|(with_reducible refine AllP.go ?_;first|exact og|((try simp only [OS]);repeat' (first|exact oj|refine And.intro ?_ ?_)))|(refine rg ?_ ?_)|(with_reducible first|refine stp ?_|refine tD rfl ?_)|refine ct ?_|refine cf ?_|((first|refine gs ?_ ?_|refine gl ?_ ?_|refine gc ?_ ?_)<;>intro h<;>(try simp only [NS] at h)<;>(try exact xf)<;>(try refine rn ?_ ?_)))))
  refine TE.callW (hf) rfl (by rfl) (by rfl) rfl (by rfl) (by (first|exact trivial|((with_reducible refine AllP.go ?_);dsimp only [AllP, appP];repeat' (first|refine And.intro ?_ ?_|exact zz|assumption)))) ?_
  intro _ _
  ((refine rn ?_ ?_);(repeat' (first|(with_reducible refine AllP.go ?_;first|exact og|((try simp only [OS]);repeat' (first|exact oj|refine And.intro ?_ ?_)))|(refine rg ?_ ?_)|(with_reducible first|refine stp ?_|refine tD rfl ?_)|refine ct ?_|refine cf ?_|((first|refine gs ?_ ?_|refine gl ?_ ?_|refine gc ?_ ?_)<;>intro h<;>(try simp only [NS] at h)<;>(try exact xf)<;>(try refine rn ?_ ?_)))))
  (refine TE.ret' io rfl tysOk (()) ?_ rfl (by rfl) ?_;all_goals (try (first|exact trivial|((with_reducible refine AllP.go ?_);dsimp only [AllP, appP];repeat' (first|refine And.intro ?_ ?_|exact zz)))))
end Go.Proofs.Ythhpofehcnjmmaa.Am
set_option linter.unusedSimpArgs false
set_option linter.unusedVariables false
namespace Go.Proofs.Ythhpofehcnjmmaa.Am
open Go.RowKit Lw
open Br
theorem known_bok {l : List Bn} {n : Int} (h : knownE l n = 0) : Bok l := by
  unfold knownE at h
  split at h
  · rename_i c; exact absurd h c
  · rename_i c; exact Decidable.not_not.1 c
set_option maxRecDepth 20000 in
set_option maxHeartbeats 4000000 in
theorem Kids_c (l : List Bn) (n : Int) (hl : l.length ≤ 1000000) (hx : ∀ x ∈ l, okB x) : Con Try.prog 25 [.o (.ro 10 l.length (bnC l).cell), .o (.c (.int .i64 n))] [] 0 0 U (fun _ => .t [.inl (.ro 1 (kidsE l n).1.length (skC (kidsE l n).1).cell), .inl (.c (.int .i64 (kidsE l n).2))]) G0 := by
  refine con_of Try.func25 rfl (by kernel_rfl) Try.ntmps25 rfl (by first | exact Nat.zero_le _ | decide) (fun _ => ⟨rfl, rfl⟩) fun w S ν => ?_
  have hti : (nds l).length = l.length := List.length_map ..
  have hkn := known_c l n hl hx
  (repeat' (first|(with_reducible refine AllP.go ?_;first|exact og|((try simp only [OS]);repeat' (first|exact oj|refine And.intro ?_ ?_)))|(refine rg ?_ ?_)|(with_reducible first|refine stp ?_|refine tD rfl ?_)|refine ct ?_|refine cf ?_|((first|refine gs ?_ ?_|refine gl ?_ ?_|refine gc ?_ ?_)<;>intro h<;>(try simp only [NS] at h)<;>(try exact xf)<;>(try refine rn ?_ ?_))))
  refine TE.callW (hkn) rfl (by rfl) (by rfl) rfl (by rfl) (by (first|exact trivial|((with_reducible refine AllP.go ?_);dsimp only [AllP, appP];repeat' (first|refine And.intro ?_ ?_|exact zz|assumption)))) ?_
  intro _ _
  by_cases h1 : knownE l n ≠ 0
  · rw [show kidsE l n = ([], knownE l n) from if_pos h1]
    ((refine rn ?_ ?_);(repeat' (first|(with_reducible refine AllP.go ?_;first|exact og|((try simp only [OS]);repeat' (first|exact oj|refine And.intro ?_ ?_)))|(refine rg ?_ ?_)|(with_reducible first|refine stp ?_|refine tD rfl ?_)|refine ct ?_|refine cf ?_|((first|refine gs ?_ ?_|refine gl ?_ ?_|refine gc ?_ ?_)<;>intro h<;>(try simp only [NS] at h)<;>(try exact xf)<;>(try refine rn ?_ ?_)))))
    (refine TE.ret' io rfl tysOk (()) ?_ rfl (by rfl) ?_;all_goals (try (first|exact trivial|((with_reducible refine AllP.go ?_);dsimp only [AllP, appP];repeat' (first|refine And.intro ?_ ?_|exact zz)))))
  have hK : kidsE l n = if (l.getD n.toNat b0).nd.kind ≠ 1 then ([], 14) else (kidsL l n, 0) := if_neg h1
  have h1 := Decidable.not_not.1 h1
  obtain ⟨k, rfl, hk⟩ := known_at h1
  have hT : Tok (nds l) := bok_tok (known_bok h1)
  rw [Int.toNat_natCast] at hK
  by_cases h2 : (l.getD k b0).nd.kind ≠ 1
  · rw [if_pos h2] at hK
    rw [hK]
    ((refine rn ?_ ?_);(repeat' (first|(with_reducible refine AllP.go ?_;first|exact og|((try simp only [OS]);repeat' (first|exact oj|refine And.intro ?_ ?_)))|(refine rg ?_ ?_)|(with_reducible first|refine stp ?_|refine tD rfl ?_)|refine ct ?_|refine cf ?_|((first|refine gs ?_ ?_|refine gl ?_ ?_|refine gc ?_ ?_)<;>intro h<;>(try simp only [NS] at h)<;>(try exact xf)<;>(try refine rn ?_ ?_)))))
    (refine TE.ret' io rfl tysOk (()) ?_ rfl (by rfl) ?_;all_goals (try (first|exact trivial|((with_reducible refine AllP.go ?_);dsimp only [AllP, appP];repeat' (first|refine And.intro ?_ ?_|exact zz)))))
  rw [if_neg h2] at hK
  rw [hK]
  ((refine rn ?_ ?_);(repeat' (first|(with_reducible refine AllP.go ?_;first|exact og|((try simp only [OS]);repeat' (first|exact oj|refine And.intro ?_ ?_)))|(refine rg ?_ ?_)|(with_reducible first|refine stp ?_|refine tD rfl ?_)|refine ct ?_|refine cf ?_|((first|refine gs ?_ ?_|refine gl ?_ ?_|refine gc ?_ ?_)<;>intro h<;>(try simp only [NS] at h)<;>(try exact xf)<;>(try refine rn ?_ ?_)))))
  refine TE.callW (walk_c l) rfl (by rfl) (by rfl) rfl (by rfl) (by (first|exact trivial|((with_reducible refine AllP.go ?_);dsimp only [AllP, appP];repeat' (first|refine And.intro ?_ ?_|exact zz|assumption)))) ?_
  intro _ _
  ((refine rn ?_ ?_);(repeat' (first|(with_reducible refine AllP.go ?_;first|exact og|((try simp only [OS]);repeat' (first|exact oj|refine And.intro ?_ ?_)))|(refine rg ?_ ?_)|(with_reducible first|refine stp ?_|refine tD rfl ?_)|refine ct ?_|refine cf ?_|((first|refine gs ?_ ?_|refine gl ?_ ?_|refine gc ?_ ?_)<;>intro h<;>(try simp only [NS] at h)<;>(try exact xf)<;>(try refine rn ?_ ?_)))))
  (refine TE.only [23, 7, 3] (by rfl) ?_)

  (refine TE.range rfl (by rfl) (by rfl) (by kernel_rfl) (by rfl) (by rfl) rfl ?_)
  intro l' a1 w0 B0 S0 ν0 L
  (repeat (first|(with_reducible refine AllP.go ?_;first|exact og|((try simp only [OS]);repeat' (first|exact oj|refine And.intro ?_ ?_)))|(refine rg ?_ ?_)|(with_reducible first|refine stp ?_|refine tD rfl ?_)|(with_reducible first|exact PanicOk.body|exact rd.panic|refine PanicOk.then' ?_|refine PanicOk.block ?_|refine PanicOk.jump ?_)|(refine dc ?_)|(refine dn ?_)|(refine TL.done (by rfl) ?_)|(refine TL.auto tysOk rfl ?_ (by rfl) ?_ ?_)|((refine TL.one (by rfl) ?_);first|(refine sm ?_ ?_)|(refine sp ?_ ?_))|(refine sm ?_ ?_)|refine ct ?_|refine cf ?_))
  refine TE.nilOwn 3 3 1 (by rfl) ?_
  refine TE.nilOwn 4 9 1 (by rfl) ?_
  refine TE.nilBox 1 0 3 1 (by rfl) (by rfl) ?_
  refine TE.loopG (fun q : Nat => q ≤ l.length ∧ True) (fun q => [(10, .o (.c (.int .i64 q))), (3, .o (.own 3)), (4, .o (.own 4))]) [3, 4, 5] (fun q => [.own 3 3 1 (skC (stkI (nds l) q)), .own 4 9 1 (paC (pstI (nds l) q)), .own 5 3 1 (skC (idxs (fun i => decide (aboveI (nds l) i = (k : Int))) q))]) (fun q => l.length - q) 0 (by rfl) ⟨Nat.zero_le _, trivial⟩ ?_ ?_
  · (refine Ent.of rfl rfl (by rfl) ?_;(try (first|exact trivial|((with_reducible refine AllP.go ?_);dsimp only [AllP, appP];repeat' (first|refine And.intro ?_ ?_|exact zz)))))
    all_goals first | exact LeDC.nil rfl rfl
  rintro q ⟨hq, hg⟩
  by_cases hlt : q < l.length
  · have hxd : ((nds l).getD q n0).depth = (l.getD q b0).nd.depth := by rw [nds_getD]
    have hxnm : ((nds l).getD q n0).name = (l.getD q b0).nd.name := by rw [nds_getD]
    have hks : (skC (stkI (nds l) q)).n = (stkI (nds l) q).length := rfl
    have hkp : (paC (pstI (nds l) q)).n = (pstI (nds l) q).length := rfl
    obtain ⟨f1, f2, f3, f4, f5⟩ := walk_facts hT (q := q) (by omega)
    rw [hxd] at f1 f2 f3
    have ht1 : ((stkI (nds l) q).take (l.getD q b0).nd.depth.toNat).length = (l.getD q b0).nd.depth.toNat := by rw [List.length_take]; omega
    have ht2 : ((pstI (nds l) q).take ((l.getD q b0).nd.depth - 1).toNat).length = ((l.getD q b0).nd.depth - 1).toNat := by rw [List.length_take]; omega
    (repeat' (first|(with_reducible refine AllP.go ?_;first|exact og|((try simp only [OS]);repeat' (first|exact oj|refine And.intro ?_ ?_)))|(refine rg ?_ ?_)|(with_reducible first|refine stp ?_|refine tD rfl ?_)|refine ct ?_|refine cf ?_|((first|refine gs ?_ ?_|refine gl ?_ ?_|refine gc ?_ ?_)<;>intro h<;>(try simp only [NS] at h)<;>(try exact xf)<;>(try refine rn ?_ ?_))))
    refine TE.midG (ι := Unit) (fun _ => True) (fun _ => [(3, .o (.own 3)), (4, .o (.own 4))]) [3, 4] (fun _ => [.own 3 3 1 (skC ((stkI (nds l) q).take (l.getD q b0).nd.depth.toNat)), .own 4 9 1 (paC ((pstI (nds l) q).take ((l.getD q b0).nd.depth - 1).toNat))]) (by rfl) ?_ fun _ _ => ?_
    · (refine TE.drawK (fun i => !(Nat.beq i 3 || Nat.beq i 4)) (by rfl) (by rfl) (by rfl) ?_)
      (repeat' (first|(with_reducible refine AllP.go ?_;first|exact og|((try simp only [OS]);repeat' (first|exact oj|refine And.intro ?_ ?_)))|(with_reducible first|exact PanicOk.body|exact rd.panic|refine PanicOk.then' ?_|refine PanicOk.block ?_|refine PanicOk.jump ?_)|(refine TL.done (by rfl) ?_)|(refine TL.auto tysOk rfl ?_ (by rfl) ?_ ?_)|((refine TL.one (by rfl) ?_);first|(refine sm ?_ ?_)|(refine sp ?_ ?_)|(refine StepL.law rfl rfl rfl (fun _ h => nomatch h) rfl (m_nilO rfl rfl) (by rfl) ?_;rintro _ rfl)|(refine StepL.law rfl rfl rfl (fun _ h => nomatch h) rfl (m_cutOwn tysOk rfl (und_slice tysOk rfl) rfl rfl rfl rfl rfl ?_) (by rfl) ?_;rotate_left;rintro _ rfl;rotate_right;first|omega|skip))|(refine sm ?_ ?_)|(refine sp ?_ ?_)|(refine StepL.law rfl rfl rfl (fun _ h => nomatch h) rfl (m_nilO rfl rfl) (by rfl) ?_;rintro _ rfl)|(refine StepL.law rfl rfl rfl (fun _ h => nomatch h) rfl (m_cutOwn tysOk rfl (und_slice tysOk rfl) rfl rfl rfl rfl rfl ?_) (by rfl) ?_;rotate_left;rintro _ rfl;rotate_right;first|omega|skip)|((first|refine gl ?_ ?_|refine gc ?_ ?_)<;>intro h<;>(try simp only [NS] at h)<;>(try exact xf))|(refine TL.two (by rfl) ?_ ?_)|(refine TL.three (by rfl) ?_ ?_ ?_)|(refine TL.four (by rfl) ?_ ?_ ?_ ?_)))
      all_goals first | (simp only [Int.toNat_natCast]; rw [hks]; omega) | skip
      all_goals (repeat (with_reducible first|refine stp ?_|refine tD rfl ?_))
      all_goals (refine TE.at () trivial ?_;(refine Ent.of rfl rfl (by rfl) ?_;(try (first|exact trivial|((with_reducible refine AllP.go ?_);dsimp only [AllP, appP];repeat' (first|refine And.intro ?_ ?_|exact zz))))))
      all_goals first
        | exact head_take (by simp only [Int.toNat_natCast]; rw [hks]; omega) (by omega)
        | exact head_take (by simp only [Int.toNat_natCast]; rw [hkp]; omega) (by omega)
    (repeat (with_reducible first|refine stp ?_|refine tD rfl ?_))
    ((refine rg ?_ ?_);try (with_reducible refine AllP.go ?_;first|exact og|((try simp only [OS]);repeat' (first|exact oj|refine And.intro ?_ ?_))))
    refine TE.done (TE.thenN ?_)
    refine TE.seq ?_
    refine TE.midG (ι := Unit) (fun _ => True) (fun _ => [(4, .o (.own 4)), (7, .o (.c (.int .i64 (aboveI (nds l) q))))]) [4] (fun _ => [.own 4 9 1 (paC (pstI (nds l) (q + 1)))]) (by rfl) ?_ fun _ _ => ?_
    · rcases Nat.eq_zero_or_pos q with h0 | h0
      · subst h0
        obtain ⟨r1, r2, r3⟩ := walk_root hT
        rw [hxd] at r1
        have ht3 : ((stkI (nds l) 0).take (l.getD 0 b0).nd.depth.toNat).length = 0 := by rw [ht1, r1]; rfl
        (repeat' (first|(with_reducible refine AllP.go ?_;first|exact og|((try simp only [OS]);repeat' (first|exact oj|refine And.intro ?_ ?_)))|(refine rg ?_ ?_)|(with_reducible first|refine stp ?_|refine tD rfl ?_)|refine ct ?_|refine cf ?_|((first|refine gs ?_ ?_|refine gl ?_ ?_|refine gc ?_ ?_)<;>intro h<;>(try simp only [NS] at h)<;>(try exact xf)<;>(try refine rn ?_ ?_))))
        (refine TE.at () trivial ?_;(refine Ent.of rfl rfl (by rfl) ?_;(try (first|exact trivial|((with_reducible refine AllP.go ?_);dsimp only [AllP, appP];repeat' (first|refine And.intro ?_ ?_|exact zz))))))
        rw [r3, List.take_nil, pstI_zero (by omega)]
        exact LeD.refl
      · obtain ⟨k1, _, _, _, _, k6⟩ := walk_at hT (q := q) (by omega) h0
        rw [hxd] at k1 k6
        have hix : (((skC ((stkI (nds l) q).take (l.getD q b0).nd.depth.toNat)).n : Int) - 1).toNat = ((l.getD q b0).nd.depth - 1).toNat := by
          show ((((stkI (nds l) q).take (l.getD q b0).nd.depth.toNat).length : Int) - 1).toNat = _
          rw [ht1]
          omega
        have hps := pstI_succ (l := nds l) (q := q) (by omega) h0
        rw [hxd, hxnm] at hps
        (repeat' (first|(with_reducible refine AllP.go ?_;first|exact og|((try simp only [OS]);repeat' (first|exact oj|refine And.intro ?_ ?_)))|(refine rg ?_ ?_)|(with_reducible first|refine stp ?_|refine tD rfl ?_)|refine ct ?_|refine cf ?_|((first|refine gs ?_ ?_|refine gl ?_ ?_|refine gc ?_ ?_)<;>intro h<;>(try simp only [NS] at h)<;>(try exact xf)<;>(try refine rn ?_ ?_))))
        (refine TE.at () trivial ?_;(refine Ent.of rfl rfl (by rfl) ?_;(try (first|exact trivial|((with_reducible refine AllP.go ?_);dsimp only [AllP, appP];repeat' (first|refine And.intro ?_ ?_|exact zz))))))
        · refine congrArg (Value.int _) ?_
          rw [hix, k6, getD_take (by omega)]
        · exact listC_snoc _ hps (nth1 rfl)
    (refine TE.only [10, 9, 8, 7, 6, 5, 4, 3, 1, 0] (by rfl) ?_)
    have hpl : (pstI (nds l) (q + 1)).length ≤ 1000000 := by rw [pstI_path hT (by omega)]; have := (pcheck_iff.1 (path_ok hT q (by omega))).1; omega
    (repeat' (first|(with_reducible refine AllP.go ?_;first|exact og|((try simp only [OS]);repeat' (first|exact oj|refine And.intro ?_ ?_)))|(refine rg ?_ ?_)|(with_reducible first|refine stp ?_|refine tD rfl ?_)|refine ct ?_|refine cf ?_|((first|refine gs ?_ ?_|refine gl ?_ ?_|refine gc ?_ ?_)<;>intro h<;>(try simp only [NS] at h)<;>(try exact xf)<;>(try refine rn ?_ ?_))))
    refine TE.callW (cloneO_c (pstI (nds l) (q + 1)) hpl) rfl (by rfl) (by rfl) rfl (by rfl) (by (first|exact trivial|((with_reducible refine AllP.go ?_);dsimp only [AllP, appP];repeat' (first|refine And.intro ?_ ?_|exact zz|assumption)))) ?_
    intro _ _
    ((refine rn ?_ ?_);try (with_reducible refine AllP.go ?_;first|exact og|((try simp only [OS]);repeat' (first|exact oj|refine And.intro ?_ ?_))))
    (refine TE.freezeN 9 (by rfl) (by rfl) ?_)
    (refine TE.only [54, 50, 49, 10, 9, 8, 4, 3, 1, 0] (by rfl) ?_)
    (refine TE.yield L rfl (by rfl) (by rfl) rfl rfl (by rfl) (by rfl) (by rfl) rfl (by rfl) ?_)
    intro Qr w1 B1 S1 ν1 rd
    (repeat (first|(with_reducible refine AllP.go ?_;first|exact og|((try simp only [OS]);repeat' (first|exact oj|refine And.intro ?_ ?_)))|(refine rg ?_ ?_)|(with_reducible first|refine stp ?_|refine tD rfl ?_)|(with_reducible first|exact PanicOk.body|exact rd.panic|refine PanicOk.then' ?_|refine PanicOk.block ?_|refine PanicOk.jump ?_)|(refine dc ?_)|(refine dn ?_)|(refine TL.done (by rfl) ?_)|(refine TL.auto tysOk rfl ?_ (by rfl) ?_ ?_)|((refine TL.one (by rfl) ?_);first|(refine sm ?_ ?_)|(refine sp ?_ ?_))|(refine sm ?_ ?_)|refine ct ?_|refine cf ?_))
    refine rd.begin ?_
    clear rd
    intro w1 B1 S1 ν1 rd
    have hpp : pstI (nds l) (q + 1) = pathI (nds l) q := pstI_path hT (by omega)
    have hst := stkI_succ (l := nds l) (q := q) (by omega)
    rw [hxd] at hst
    have hs := idxs_succ (fun i => decide (aboveI (nds l) i = (k : Int))) q
    have hn := idxs_len (fun i => decide (aboveI (nds l) i = (k : Int))) q
    have hcn : (skC (idxs (fun i => decide (aboveI (nds l) i = (k : Int))) q)).n ≤ q := hn
    by_cases ha : aboveI (nds l) q = k
    · rw [if_pos (decide_eq_true ha)] at hs
      (repeat' (first|(with_reducible refine AllP.go ?_;first|exact og|((try simp only [OS]);repeat' (first|exact oj|refine And.intro ?_ ?_)))|(refine rg ?_ ?_)|(with_reducible first|refine stp ?_|refine tD rfl ?_)|refine ct ?_|refine cf ?_|((first|refine gs ?_ ?_|refine gl ?_ ?_|refine gc ?_ ?_)<;>intro h<;>(try simp only [NS] at h)<;>(try exact xf)<;>(try refine rn ?_ ?_))))

      refine rd.normal ?_
      ((refine rn ?_ ?_);(repeat' (first|(with_reducible refine AllP.go ?_;first|exact og|((try simp only [OS]);repeat' (first|exact oj|refine And.intro ?_ ?_)))|(refine rg ?_ ?_)|(with_reducible first|refine stp ?_|refine tD rfl ?_)|refine ct ?_|refine cf ?_|((first|refine gs ?_ ?_|refine gl ?_ ?_|refine gc ?_ ?_)<;>intro h<;>(try simp only [NS] at h)<;>(try exact xf)<;>(try refine rn ?_ ?_)))))
      refine TE.again' (q + 1) ⟨by omega, trivial⟩ (by omega) ?_
      (refine Ent.of rfl rfl (by rfl) ?_;(try (first|exact trivial|((with_reducible refine AllP.go ?_);dsimp only [AllP, appP];repeat' (first|refine And.intro ?_ ?_|exact zz)))))
      all_goals first | exact listC_snoc _ hst (nth1 rfl) | exact listC_snoc _ hs (nth1 rfl)
    · rw [if_neg (by simpa using ha)] at hs
      rw [← hs]
      (repeat' (first|(with_reducible refine AllP.go ?_;first|exact og|((try simp only [OS]);repeat' (first|exact oj|refine And.intro ?_ ?_)))|(refine rg ?_ ?_)|(with_reducible first|refine stp ?_|refine tD rfl ?_)|refine ct ?_|refine cf ?_|((first|refine gs ?_ ?_|refine gl ?_ ?_|refine gc ?_ ?_)<;>intro h<;>(try simp only [NS] at h)<;>(try exact xf)<;>(try refine rn ?_ ?_))))
      refine rd.normal ?_
      ((refine rn ?_ ?_);(repeat' (first|(with_reducible refine AllP.go ?_;first|exact og|((try simp only [OS]);repeat' (first|exact oj|refine And.intro ?_ ?_)))|(refine rg ?_ ?_)|(with_reducible first|refine stp ?_|refine tD rfl ?_)|refine ct ?_|refine cf ?_|((first|refine gs ?_ ?_|refine gl ?_ ?_|refine gc ?_ ?_)<;>intro h<;>(try simp only [NS] at h)<;>(try exact xf)<;>(try refine rn ?_ ?_)))))
      refine TE.again' (q + 1) ⟨by omega, trivial⟩ (by omega) ?_
      (refine Ent.of rfl rfl (by rfl) ?_;(try (first|exact trivial|((with_reducible refine AllP.go ?_);dsimp only [AllP, appP];repeat' (first|refine And.intro ?_ ?_|exact zz)))))
      all_goals first | exact listC_snoc _ hst (nth1 rfl) | exact listC_snoc _ hs (nth1 rfl)
  · obtain rfl : q = l.length := by omega
    (repeat' (first|(with_reducible refine AllP.go ?_;first|exact og|((try simp only [OS]);repeat' (first|exact oj|refine And.intro ?_ ?_)))|(refine rg ?_ ?_)|(with_reducible first|refine stp ?_|refine tD rfl ?_)|refine ct ?_|refine cf ?_|((first|refine gs ?_ ?_|refine gl ?_ ?_|refine gc ?_ ?_)<;>intro h<;>(try simp only [NS] at h)<;>(try exact xf)<;>(try refine rn ?_ ?_))))
    refine TE.iterEnd L (by first | exact .inl rfl | exact .inr rfl) (by rfl) ?_
    (repeat' (first|(with_reducible refine AllP.go ?_;first|exact og|((try simp only [OS]);repeat' (first|exact oj|refine And.intro ?_ ?_)))|(refine rg ?_ ?_)|(with_reducible first|refine stp ?_|refine tD rfl ?_)|refine ct ?_|refine cf ?_|((first|refine gs ?_ ?_|refine gl ?_ ?_|refine gc ?_ ?_)<;>intro h<;>(try simp only [NS] at h)<;>(try exact xf)<;>(try refine rn ?_ ?_))))
    (refine TE.freezeN 5 (by rfl) (by rfl) ?_)
    (refine TE.ret' io rfl tysOk (()) ?_ rfl (by rfl) ?_;all_goals (try (first|exact trivial|((with_reducible refine AllP.go ?_);dsimp only [AllP, appP];repeat' (first|refine And.intro ?_ ?_|exact zz)))))
end Go.Proofs.Ythhpofehcnjmmaa.Am
set_option linter.unusedSimpArgs false
set_option linter.unusedVariables false
namespace Go.Proofs.Ythhpofehcnjmmaa.Am
open Go.RowKit Lw
open Br
abbrev twoC (a b : Int) : Ct := litC [[.c (.int .i64 a)], [.c (.int .i64 b)]]
set_option maxRecDepth 20000 in
theorem or2_c (a b : Int) : Con Try.prog 69 [.o (.own 0)] [.own 0 3 1 (twoC a b)] 1 1 U (fun _ => .o (.c (.int .i64 (if a ≠ 0 then a else b)))) (fun _ => [.own 0 3 1 (twoC a b)]) := by
  refine con_of Try.func69 rfl (by kernel_rfl) Try.ntmps69 rfl (by first | exact Nat.zero_le _ | decide) (fun _ => ⟨rfl, rfl⟩) fun w S ν => ?_
  have hn : (twoC a b).n = 2 := rfl
  (repeat' (first|(with_reducible refine AllP.go ?_;first|exact og|((try simp only [OS]);repeat' (first|exact oj|refine And.intro ?_ ?_)))|(refine rg ?_ ?_)|(with_reducible first|refine stp ?_|refine tD rfl ?_)|refine ct ?_|refine cf ?_|((first|refine gs ?_ ?_|refine gl ?_ ?_|refine gc ?_ ?_)<;>intro h<;>(try simp only [NS] at h)<;>(try exact xf)<;>(try refine rn ?_ ?_))))
  refine TE.loopG (fun q : Nat => q ≤ 2 ∧ (0 < q → a = 0) ∧ (1 < q → b = 0)) (fun q => [(8, .o (.c (.int .i64 q)))]) [] (fun _ => []) (fun q => 2 - q) 0 (by rfl) ⟨by omega, fun h => absurd h (by omega), fun h => absurd h (by omega)⟩ ?_ ?_
  · (refine Ent.of rfl rfl (by rfl) ?_;(try (first|exact trivial|((with_reducible refine AllP.go ?_);dsimp only [AllP, appP];repeat' (first|refine And.intro ?_ ?_|exact zz)))))
  rintro q ⟨hq, g1, g2⟩
  rcases (show q = 0 ∨ q = 1 ∨ q = 2 by omega) with e | e | e
  · subst e
    by_cases ha : a = 0
    · (repeat' (first|(with_reducible refine AllP.go ?_;first|exact og|((try simp only [OS]);repeat' (first|exact oj|refine And.intro ?_ ?_)))|(refine rg ?_ ?_)|(with_reducible first|refine stp ?_|refine tD rfl ?_)|refine ct ?_|refine cf ?_|((first|refine gs ?_ ?_|refine gl ?_ ?_|refine gc ?_ ?_)<;>intro h<;>(try simp only [NS] at h)<;>(try exact xf)<;>(try refine rn ?_ ?_))))
      refine TE.again' 1 ⟨by omega, fun _ => ha, fun h => absurd h (by omega)⟩ (by omega) ?_
      (refine Ent.of rfl rfl (by rfl) ?_;(try (first|exact trivial|((with_reducible refine AllP.go ?_);dsimp only [AllP, appP];repeat' (first|refine And.intro ?_ ?_|exact zz)))))
    · rw [if_pos ha]
      (repeat' (first|(with_reducible refine AllP.go ?_;first|exact og|((try simp only [OS]);repeat' (first|exact oj|refine And.intro ?_ ?_)))|(refine rg ?_ ?_)|(with_reducible first|refine stp ?_|refine tD rfl ?_)|refine ct ?_|refine cf ?_|((first|refine gs ?_ ?_|refine gl ?_ ?_|refine gc ?_ ?_)<;>intro h<;>(try simp only [NS] at h)<;>(try exact xf)<;>(try refine rn ?_ ?_))))
      (refine TE.ret' io rfl tysOk (()) ?_ rfl (by rfl) ?_;all_goals (try (first|exact trivial|((with_reducible refine AllP.go ?_);dsimp only [AllP, appP];repeat' (first|refine And.intro ?_ ?_|exact zz)))))
  · subst e
    have ha := g1 (by omega)
    rw [if_neg (by rw [ha]; simp)]
    by_cases hb : b = 0
    · (repeat' (first|(with_reducible refine AllP.go ?_;first|exact og|((try simp only [OS]);repeat' (first|exact oj|refine And.intro ?_ ?_)))|(refine rg ?_ ?_)|(with_reducible first|refine stp ?_|refine tD rfl ?_)|refine ct ?_|refine cf ?_|((first|refine gs ?_ ?_|refine gl ?_ ?_|refine gc ?_ ?_)<;>intro h<;>(try simp only [NS] at h)<;>(try exact xf)<;>(try refine rn ?_ ?_))))
      refine TE.again' 2 ⟨by omega, fun _ => ha, fun _ => hb⟩ (by omega) ?_
      (refine Ent.of rfl rfl (by rfl) ?_;(try (first|exact trivial|((with_reducible refine AllP.go ?_);dsimp only [AllP, appP];repeat' (first|refine And.intro ?_ ?_|exact zz)))))
    · (repeat' (first|(with_reducible refine AllP.go ?_;first|exact og|((try simp only [OS]);repeat' (first|exact oj|refine And.intro ?_ ?_)))|(refine rg ?_ ?_)|(with_reducible first|refine stp ?_|refine tD rfl ?_)|refine ct ?_|refine cf ?_|((first|refine gs ?_ ?_|refine gl ?_ ?_|refine gc ?_ ?_)<;>intro h<;>(try simp only [NS] at h)<;>(try exact xf)<;>(try refine rn ?_ ?_))))
      (refine TE.ret' io rfl tysOk (()) ?_ rfl (by rfl) ?_;all_goals (try (first|exact trivial|((with_reducible refine AllP.go ?_);dsimp only [AllP, appP];repeat' (first|refine And.intro ?_ ?_|exact zz)))))
  · subst e
    have ha := g1 (by omega)
    have hb := g2 (by omega)
    rw [if_neg (by rw [ha]; simp), hb]
    (repeat' (first|(with_reducible refine AllP.go ?_;first|exact og|((try simp only [OS]);repeat' (first|exact oj|refine And.intro ?_ ?_)))|(refine rg ?_ ?_)|(with_reducible first|refine stp ?_|refine tD rfl ?_)|refine ct ?_|refine cf ?_|((first|refine gs ?_ ?_|refine gl ?_ ?_|refine gc ?_ ?_)<;>intro h<;>(try simp only [NS] at h)<;>(try exact xf)<;>(try refine rn ?_ ?_))))
    (refine TE.ret' io rfl tysOk (()) ?_ rfl (by rfl) ?_;all_goals (try (first|exact trivial|((with_reducible refine AllP.go ?_);dsimp only [AllP, appP];repeat' (first|refine And.intro ?_ ?_|exact zz)))))
def avs (l : List Bn) (q : Nat) : List Int := (List.range q).map (aboveI (nds l))
theorem avs_len (l : List Bn) (q : Nat) : (avs l q).length = q := by simp [avs]
theorem avs_succ (l : List Bn) (q : Nat) : avs l (q + 1) = avs l q ++ [aboveI (nds l) q] := by simp [avs, List.range_succ]
theorem avs_get {l : List Bn} {q k : Nat} (h : k < q) : (avs l q).getD k 0 = aboveI (nds l) k := by
  unfold avs
  rw [List.getD_eq_getElem?_getD, List.getElem?_map, List.getElem?_range h]
  rfl
theorem av_get {l : List Bn} {q k : Nat} (h : k < q) : getM (ents cnDs 0 (avs l q)) (k : Int) = some (cnDs (aboveI (nds l) k)) := by
  rw [get_ents 0 _ _ _ (by omega) (by rw [avs_len]; omega), Int.sub_zero, Int.toNat_natCast, avs_get h]
abbrev avB (l : List Bn) : List Chunk := [.box 0 96 [.own 1], .obj 1 (.mp false (ents cnDs 0 (avs l l.length)))]
theorem av_rng (l : List Bn) {k : Nat} (h : k < l.length) : -1 ≤ aboveI (nds l) k ∧ aboveI (nds l) k ≤ l.length := by
  have h1 := above_ge (d := ((nds l).getD k n0).depth) ((nds l).take k).reverse
  have h2 := above_lt (d := ((nds l).getD k n0).depth) ((nds l).take k).reverse
  rw [List.length_reverse, List.length_take] at h2
  have h3 : (nds l).length = l.length := List.length_map ..
  unfold aboveI
  omega
set_option maxRecDepth 20000 in
theorem dord_c (l : List Bn) (x y : Nat) (hx : x < l.length) (hy : y < l.length) (hl : l.length ≤ 1000000) : Con Try.prog 68 [.o (.c (.int .i64 x)), .o (.c (.int .i64 y)), .o (.ptr 0 0)] (avB l) 2 2 U (fun _ => .o (.c (.int .i64 (ordI (aboveI (nds l)) x y)))) (fun _ => avB l) := by
  refine con_of Try.func68 rfl (by kernel_rfl) Try.ntmps68 rfl (by first | exact Nat.zero_le _ | decide) (fun _ => ⟨rfl, rfl⟩) fun w S ν => ?_
  have r1 := av_rng l hx
  have r2 := av_rng l hy
  have g1 := av_get (l := l) hx
  have g2 := av_get (l := l) hy
  (repeat' (first|(with_reducible refine AllP.go ?_;first|exact og|((try simp only [OS]);repeat' (first|exact oj|refine And.intro ?_ ?_)))|(refine rg ?_ ?_)|(with_reducible first|refine stp ?_|refine tD rfl ?_)|refine ct ?_|refine cf ?_|((first|refine gs ?_ ?_|refine gl ?_ ?_|refine gc ?_ ?_)<;>intro h<;>(try simp only [NS] at h)<;>(try exact xf)<;>(try refine rn ?_ ?_))))
  (refine TE.step rfl rfl rfl (fun _ h => nomatch h) (m_mpGet (mpI false) rfl (Try.underlying96) (Try.underlying3) rfl rfl rfl (g1) rfl) ?_; rintro _ rfl)
  ((refine rn ?_ ?_);(repeat' (first|(with_reducible refine AllP.go ?_;first|exact og|((try simp only [OS]);repeat' (first|exact oj|refine And.intro ?_ ?_)))|(refine rg ?_ ?_)|(with_reducible first|refine stp ?_|refine tD rfl ?_)|refine ct ?_|refine cf ?_|((first|refine gs ?_ ?_|refine gl ?_ ?_|refine gc ?_ ?_)<;>intro h<;>(try simp only [NS] at h)<;>(try exact xf)<;>(try refine rn ?_ ?_)))))
  (refine TE.step rfl rfl rfl (fun _ h => nomatch h) (m_mpGet (mpI false) rfl (Try.underlying96) (Try.underlying3) rfl rfl rfl (g2) rfl) ?_; rintro _ rfl)
  ((refine rn ?_ ?_);(repeat' (first|(with_reducible refine AllP.go ?_;first|exact og|((try simp only [OS]);repeat' (first|exact oj|refine And.intro ?_ ?_)))|(refine rg ?_ ?_)|(with_reducible first|refine stp ?_|refine tD rfl ?_)|refine ct ?_|refine cf ?_|((first|refine gs ?_ ?_|refine gl ?_ ?_|refine gc ?_ ?_)<;>intro h<;>(try simp only [NS] at h)<;>(try exact xf)<;>(try refine rn ?_ ?_)))))
  refine TE.callW (or2_c (aboveI (nds l) x - aboveI (nds l) y) ((x : Int) - y)) rfl (by rfl) (by rfl) rfl (by rfl) (by (first|exact trivial|((with_reducible refine AllP.go ?_);dsimp only [AllP, appP];repeat' (first|refine And.intro ?_ ?_|exact zz|assumption)))) ?_
  intro _ _
  ((refine rn ?_ ?_);(repeat' (first|(with_reducible refine AllP.go ?_;first|exact og|((try simp only [OS]);repeat' (first|exact oj|refine And.intro ?_ ?_)))|(refine rg ?_ ?_)|(with_reducible first|refine stp ?_|refine tD rfl ?_)|refine ct ?_|refine cf ?_|((first|refine gs ?_ ?_|refine gl ?_ ?_|refine gc ?_ ?_)<;>intro h<;>(try simp only [NS] at h)<;>(try exact xf)<;>(try refine rn ?_ ?_)))))
  (refine TE.ret' io rfl tysOk (()) ?_ rfl (by rfl) ?_;all_goals (try (first|exact trivial|((with_reducible refine AllP.go ?_);dsimp only [AllP, appP];repeat' (first|refine And.intro ?_ ?_|exact zz)))))
set_option maxRecDepth 20000 in
set_option maxHeartbeats 4000000 in
theorem min_c (l : List Bn) (ks : List Nat) (h0 : 0 < ks.length) (hk : ∀ k ∈ ks, k < l.length) (hl : l.length ≤ 1000000) (hkl : ks.length ≤ 1000000) : Con Try.prog 67 [.o (.ro 1 ks.length (skC ks).cell), .o (.clo 68 [(0, 0)])] (avB l) 2 2 U (fun _ => .o (.c (.int .i64 (minN (aboveI (nds l)) ks)))) (fun _ => avB l) := by
  refine con_of Try.func67 rfl (by kernel_rfl) Try.ntmps67 rfl (by first | exact Nat.zero_le _ | decide) (fun _ => ⟨rfl, rfl⟩) fun w S ν => ?_
  obtain ⟨m, r, rfl⟩ := List.exists_cons_of_ne_nil (List.length_pos_iff.1 h0)
  have hrl : (m :: r).length = r.length + 1 := rfl
  (repeat' (first|(with_reducible refine AllP.go ?_;first|exact og|((try simp only [OS]);repeat' (first|exact oj|refine And.intro ?_ ?_)))|(refine rg ?_ ?_)|(with_reducible first|refine stp ?_|refine tD rfl ?_)|refine ct ?_|refine cf ?_|((first|refine gs ?_ ?_|refine gl ?_ ?_|refine gc ?_ ?_)<;>intro h<;>(try simp only [NS] at h)<;>(try exact xf)<;>(try refine rn ?_ ?_))))
  refine TE.loopG (fun p : Nat => p ≤ r.length) (fun p => [(6, .o (.c (.int .i64 (p + 1 : Nat)))), (5, .o (.c (.int .i64 (minL (aboveI (nds l)) m (r.take p) : Nat))))]) [] (fun _ => []) (fun p => r.length - p) 0 (by rfl) (Nat.zero_le _) ?_ ?_
  · (refine Ent.of rfl rfl (by rfl) ?_;(try (first|exact trivial|((with_reducible refine AllP.go ?_);dsimp only [AllP, appP];repeat' (first|refine And.intro ?_ ?_|exact zz)))))
  intro p hp
  have hmem : minL (aboveI (nds l)) m (r.take p) < l.length := by
    rcases (minL_spec (aboveI (nds l)) (r.take p) m).1 with e | e
    · rw [e]; exact hk m (List.mem_cons_self ..)
    · exact hk _ (List.mem_cons_of_mem _ (List.mem_of_mem_take e))
  by_cases hlt : p < r.length
  · have hx : (m :: r).getD (((p + 1 : Nat) : Int)).toNat 0 = r.getD p 0 := by rw [Int.toNat_natCast]; rfl
    have hxl : r.getD p 0 < l.length := hk _ (List.mem_cons_of_mem _ (getD_mem hlt))
    have hsn : minL (aboveI (nds l)) m (r.take (p + 1)) = if ordI (aboveI (nds l)) (r.getD p 0) (minL (aboveI (nds l)) m (r.take p)) < 0 then r.getD p 0 else minL (aboveI (nds l)) m (r.take p) := by
      rw [List.take_add_one, List.getD_eq_getElem?_getD, List.getElem?_eq_getElem hlt]
      exact minL_snoc _ _ _ _
    have hd := dord_c l (r.getD p 0) (minL (aboveI (nds l)) m (r.take p)) hxl hmem hl
    (repeat' (first|(with_reducible refine AllP.go ?_;first|exact og|((try simp only [OS]);repeat' (first|exact oj|refine And.intro ?_ ?_)))|(refine rg ?_ ?_)|(with_reducible first|refine stp ?_|refine tD rfl ?_)|refine ct ?_|refine cf ?_|((first|refine gs ?_ ?_|refine gl ?_ ?_|refine gc ?_ ?_)<;>intro h<;>(try simp only [NS] at h)<;>(try exact xf)<;>(try refine rn ?_ ?_))))
    rw [hx]
    refine TE.callW (hd) rfl (by rfl) (by rfl) rfl (by rfl) (by (first|exact trivial|((with_reducible refine AllP.go ?_);dsimp only [AllP, appP];repeat' (first|refine And.intro ?_ ?_|exact zz|assumption)))) ?_
    intro _ _
    by_cases ho : ordI (aboveI (nds l)) (r.getD p 0) (minL (aboveI (nds l)) m (r.take p)) < 0
    · rw [if_pos ho] at hsn
      ((refine rn ?_ ?_);(repeat' (first|(with_reducible refine AllP.go ?_;first|exact og|((try simp only [OS]);repeat' (first|exact oj|refine And.intro ?_ ?_)))|(refine rg ?_ ?_)|(with_reducible first|refine stp ?_|refine tD rfl ?_)|refine ct ?_|refine cf ?_|((first|refine gs ?_ ?_|refine gl ?_ ?_|refine gc ?_ ?_)<;>intro h<;>(try simp only [NS] at h)<;>(try exact xf)<;>(try refine rn ?_ ?_)))))
      refine TE.again' (p + 1) (by omega) (by omega) ?_
      rw [hsn]
      (refine Ent.of rfl rfl (by rfl) ?_;(try (first|exact trivial|((with_reducible refine AllP.go ?_);dsimp only [AllP, appP];repeat' (first|refine And.intro ?_ ?_|exact zz)))))
    · rw [if_neg ho] at hsn
      ((refine rn ?_ ?_);(repeat' (first|(with_reducible refine AllP.go ?_;first|exact og|((try simp only [OS]);repeat' (first|exact oj|refine And.intro ?_ ?_)))|(refine rg ?_ ?_)|(with_reducible first|refine stp ?_|refine tD rfl ?_)|refine ct ?_|refine cf ?_|((first|refine gs ?_ ?_|refine gl ?_ ?_|refine gc ?_ ?_)<;>intro h<;>(try simp only [NS] at h)<;>(try exact xf)<;>(try refine rn ?_ ?_)))))
      refine TE.again' (p + 1) (by omega) (by omega) ?_
      rw [hsn]
      (refine Ent.of rfl rfl (by rfl) ?_;(try (first|exact trivial|((with_reducible refine AllP.go ?_);dsimp only [AllP, appP];repeat' (first|refine And.intro ?_ ?_|exact zz)))))
  · obtain rfl : p = r.length := by omega
    (repeat' (first|(with_reducible refine AllP.go ?_;first|exact og|((try simp only [OS]);repeat' (first|exact oj|refine And.intro ?_ ?_)))|(refine rg ?_ ?_)|(with_reducible first|refine stp ?_|refine tD rfl ?_)|refine ct ?_|refine cf ?_|((first|refine gs ?_ ?_|refine gl ?_ ?_|refine gc ?_ ?_)<;>intro h<;>(try simp only [NS] at h)<;>(try exact xf)<;>(try refine rn ?_ ?_))))
    (refine TE.ret' io rfl tysOk (()) ?_ rfl (by rfl) ?_;all_goals (try (first|exact trivial|((with_reducible refine AllP.go ?_);dsimp only [AllP, appP];repeat' (first|refine And.intro ?_ ?_|exact zz)))))
    rw [List.take_length]
    rfl
end Go.Proofs.Ythhpofehcnjmmaa.Am

set_option linter.unusedSimpArgs false
set_option linter.unusedVariables false
namespace Go.Proofs.Ythhpofehcnjmmaa.Am
open Go.RowKit Lw
open Br
def enR (x : En) (j : Nat) : DC := match j with
  | 0 => .c (.string x.name)
  | 1 => .c (.int .i64 x.node.depth)
  | 2 => .c (.string x.node.name)
  | 3 => .c (.int .i64 x.node.kind)
  | 4 => .sl 2 x.node.attrs.length (atC x.node.attrs).cell
  | 5 => .c (.string x.node.data)
  | 6 => .c (.int .i64 x.node.major)
  | 7 => .c (.int .i64 x.node.minor)
  | 8 => .c (.int .i64 x.node.cls)
  | 9 => .c (.bool x.white)
  | 10 => .c (.bool x.first)
  | _ => .c (.int .i64 x.names)
abbrev enC (l : List En) : Ct := listC enR e0 l
abbrev diA (d : Di) : List A1 := [.ro 2 d.attrs.length (atC d.attrs).cell, .c (.bool d.opq), .ro 1 d.red.length (paC d.red).cell, .ro 12 d.ents.length (enC d.ents).cell]
theorem ent_row {x : En} {r : List DC} (h0 : LeX (nthD r 0) (enR x 0)) (h1 : LeX (nthD r 1) (enR x 1)) (h2 : LeX (nthD r 2) (enR x 2)) (h3 : LeX (nthD r 3) (enR x 3)) (h4 : LeX (nthD r 4) (enR x 4)) (h5 : LeX (nthD r 5) (enR x 5)) (h6 : LeX (nthD r 6) (enR x 6)) (h7 : LeX (nthD r 7) (enR x 7)) (h8 : LeX (nthD r 8) (enR x 8)) (h9 : LeX (nthD r 9) (enR x 9)) (h10 : LeX (nthD r 10) (enR x 10)) (h11 : LeX (nthD r 11) (enR x 11)) : ∀ j, j < 12 → LeX (nthD r j) (enR x j)
  | 0, _ => h0
  | 1, _ => h1
  | 2, _ => h2
  | 3, _ => h3
  | 4, _ => h4
  | 5, _ => h5
  | 6, _ => h6
  | 7, _ => h7
  | 8, _ => h8
  | 9, _ => h9
  | 10, _ => h10
  | 11, _ => h11
  | j + 12, h => absurd h (by omega)
set_option maxRecDepth 20000 in
set_option maxHeartbeats 8000000 in
theorem Dir_c (l : List Bn) (n : Int) (hl : l.length ≤ 1000000) (hx : ∀ x ∈ l, okB x) : Con Try.prog 35 [.o (.ro 10 l.length (bnC l).cell), .o (.c (.int .i64 n))] [] 0 0 U (fun _ => .t [.inr (diA (dirE l n).1), .inl (.c (.int .i64 (dirE l n).2))]) G0 := by
  refine con_of Try.func35 rfl (by kernel_rfl) Try.ntmps35 rfl (by first | exact Nat.zero_le _ | decide) (fun _ => ⟨rfl, rfl⟩) fun w S ν => ?_
  have hti : (nds l).length = l.length := List.length_map ..
  have hkd := Kids_c l n hl hx
  (repeat' (first|(with_reducible refine AllP.go ?_;first|exact og|((try simp only [OS]);repeat' (first|exact oj|refine And.intro ?_ ?_)))|(refine rg ?_ ?_)|(with_reducible first|refine stp ?_|refine tD rfl ?_)|refine ct ?_|refine cf ?_|((first|refine gs ?_ ?_|refine gl ?_ ?_|refine gc ?_ ?_)<;>intro h<;>(try simp only [NS] at h)<;>(try exact xf)<;>(try refine rn ?_ ?_))))
  refine TE.callW (hkd) rfl (by rfl) (by rfl) rfl (by rfl) (by (first|exact trivial|((with_reducible refine AllP.go ?_);dsimp only [AllP, appP];repeat' (first|refine And.intro ?_ ?_|exact zz|assumption)))) ?_
  intro _ _
  by_cases h1 : (kidsE l n).2 ≠ 0
  · rw [show dirE l n = (di0, (kidsE l n).2) from if_pos h1]
    ((refine rn ?_ ?_);(repeat' (first|(with_reducible refine AllP.go ?_;first|exact og|((try simp only [OS]);repeat' (first|exact oj|refine And.intro ?_ ?_)))|(refine rg ?_ ?_)|(with_reducible first|refine stp ?_|refine tD rfl ?_)|refine ct ?_|refine cf ?_|((first|refine gs ?_ ?_|refine gl ?_ ?_|refine gc ?_ ?_)<;>intro h<;>(try simp only [NS] at h)<;>(try exact xf)<;>(try refine rn ?_ ?_)))))
    (refine TE.ret' io rfl tysOk (()) ?_ rfl (by rfl) ?_;all_goals (try (first|exact trivial|((with_reducible refine AllP.go ?_);dsimp only [AllP, appP];repeat' (first|refine And.intro ?_ ?_|exact zz)))))
  rw [show dirE l n = (dirI l n.toNat, 0) from if_neg h1]
  have h1 := Decidable.not_not.1 h1
  have hkn : knownE l n = 0 := Decidable.byContradiction fun k => by
    unfold kidsE at h1
    rw [if_pos k] at h1
    exact k h1
  have hT : Tok (nds l) := bok_tok (known_bok hkn)
  obtain ⟨k, rfl, hk⟩ := known_at hkn
  have hkE : kidsE l (k : Int) = (kidsL l k, 0) := by
    unfold kidsE at h1 ⊢
    rw [if_neg (fun h => h hkn)] at h1 ⊢
    split at h1
    · exact absurd h1 (by decide)
    · rename_i c; rw [if_neg c]
  rw [Int.toNat_natCast, hkE]
  obtain ⟨x1, x2, x3⟩ := hx _ (getD_mem (d := b0) hk)
  have hcs := cloneS_c (l.getD k b0).red x2
  have hca := Clone_c (l.getD k b0).nd.attrs.length (atC (l.getD k b0).nd.attrs).cell x1.1
  ((refine rn ?_ ?_);(repeat' (first|(with_reducible refine AllP.go ?_;first|exact og|((try simp only [OS]);repeat' (first|exact oj|refine And.intro ?_ ?_)))|(refine rg ?_ ?_)|(with_reducible first|refine stp ?_|refine tD rfl ?_)|refine ct ?_|refine cf ?_|((first|refine gs ?_ ?_|refine gl ?_ ?_|refine gc ?_ ?_)<;>intro h<;>(try simp only [NS] at h)<;>(try exact xf)<;>(try refine rn ?_ ?_)))))
  (refine TE.only [6, 4, 1, 0] (by rfl) ?_)
  (refine TE.mid (ι := Unit) (fun _ => True) (fun _ => ⟨[(8, .o (.ptr 1 0)), (6, .o (.ro 1 (kidsL l k).length (skC (kidsL l k)).cell)), (4, .o (.ptr 0 0)), (0, .o (.ro 10 l.length (bnC l).cell)), (1, .o (.c (.int .i64 k)))], [.box 1 53 [.ro 2 (l.getD k b0).nd.attrs.length (atC (l.getD k b0).nd.attrs).cell, .c (.bool (l.getD k b0).opq), .ro 1 (l.getD k b0).red.length (paC (l.getD k b0).red).cell, .c (.slice none 0 0)], .box 0 53 [.c (.slice none 0 0), .c (.bool false), .c (.slice none 0 0), .c (.slice none 0 0)]], 2⟩) ?_ fun _ _ => ?_)
  · (refine TE.drawK (fun _ => false) (by rfl) (by rfl) (by rfl) ?_)
    (repeat' (first|(with_reducible refine AllP.go ?_;first|exact og|((try simp only [OS]);repeat' (first|exact oj|refine And.intro ?_ ?_)))|(with_reducible first|exact PanicOk.body|exact rd.panic|refine PanicOk.then' ?_|refine PanicOk.block ?_|refine PanicOk.jump ?_)|(refine TL.done (by rfl) ?_)|(refine TL.auto tysOk rfl ?_ (by rfl) ?_ ?_)|(refine sm ?_ ?_)|(refine sp ?_ ?_)|(refine TL.one (by rfl) ?_)|(refine TL.two (by rfl) ?_ ?_)|(refine TL.three (by rfl) ?_ ?_ ?_)|(refine TL.four (by rfl) ?_ ?_ ?_ ?_)))
    all_goals (first|refine StepL.callW (hca) rfl rfl rfl rfl rfl (by rfl) (by (first|exact trivial|((with_reducible refine AllP.go ?_);dsimp only [AllP, appP];repeat' (first|refine And.intro ?_ ?_|exact zz|assumption)))) (by rfl) (by rfl) ?_|refine StepL.callW (hcs) rfl rfl rfl rfl rfl (by rfl) (by (first|exact trivial|((with_reducible refine AllP.go ?_);dsimp only [AllP, appP];repeat' (first|refine And.intro ?_ ?_|exact zz|assumption)))) (by rfl) (by rfl) ?_)
    all_goals intro _ _
    all_goals (repeat' (first|(with_reducible refine AllP.go ?_;first|exact og|((try simp only [OS]);repeat' (first|exact oj|refine And.intro ?_ ?_)))|(with_reducible first|exact PanicOk.body|exact rd.panic|refine PanicOk.then' ?_|refine PanicOk.block ?_|refine PanicOk.jump ?_)|(refine TL.done (by rfl) ?_)|(refine TL.auto tysOk rfl ?_ (by rfl) ?_ ?_)|(refine sm ?_ ?_)|(refine sp ?_ ?_)|(refine TL.one (by rfl) ?_)|(refine TL.two (by rfl) ?_ ?_)|(refine TL.three (by rfl) ?_ ?_ ?_)|(refine TL.four (by rfl) ?_ ?_ ?_ ?_)))
    all_goals (first|refine StepL.callW (hca) rfl rfl rfl rfl rfl (by rfl) (by (first|exact trivial|((with_reducible refine AllP.go ?_);dsimp only [AllP, appP];repeat' (first|refine And.intro ?_ ?_|exact zz|assumption)))) (by rfl) (by rfl) ?_|refine StepL.callW (hcs) rfl rfl rfl rfl rfl (by rfl) (by (first|exact trivial|((with_reducible refine AllP.go ?_);dsimp only [AllP, appP];repeat' (first|refine And.intro ?_ ?_|exact zz|assumption)))) (by rfl) (by rfl) ?_)
    all_goals intro _ _
    all_goals (repeat' (first|(with_reducible refine AllP.go ?_;first|exact og|((try simp only [OS]);repeat' (first|exact oj|refine And.intro ?_ ?_)))|(with_reducible first|exact PanicOk.body|exact rd.panic|refine PanicOk.then' ?_|refine PanicOk.block ?_|refine PanicOk.jump ?_)|(refine TL.done (by rfl) ?_)|(refine TL.auto tysOk rfl ?_ (by rfl) ?_ ?_)|(refine sm ?_ ?_)|(refine sp ?_ ?_)|(refine TL.one (by rfl) ?_)|(refine TL.two (by rfl) ?_ ?_)|(refine TL.three (by rfl) ?_ ?_ ?_)|(refine TL.four (by rfl) ?_ ?_ ?_ ?_)))
    all_goals (repeat (with_reducible first|refine stp ?_|refine tD rfl ?_))
    all_goals (first | ((refine TE.freezeN 1 (by rfl) (by rfl) ?_); (refine TE.freezeN 2 (by rfl) (by rfl) ?_)) | ((refine TE.freezeN 1 (by rfl) (by rfl) ?_); (refine TE.freezeN 3 (by rfl) (by rfl) ?_)) | ((refine TE.freezeN 2 (by rfl) (by rfl) ?_); (refine TE.freezeN 3 (by rfl) (by rfl) ?_)))
    all_goals (refine TE.at () trivial ?_;(refine Ent.of rfl rfl (by rfl) ?_;(try (first|exact trivial|((with_reducible refine AllP.go ?_);dsimp only [AllP, appP];repeat' (first|refine And.intro ?_ ?_|exact zz))))))
  (repeat' (first|(with_reducible refine AllP.go ?_;first|exact og|((try simp only [OS]);repeat' (first|exact oj|refine And.intro ?_ ?_)))|(refine rg ?_ ?_)|(with_reducible first|refine stp ?_|refine tD rfl ?_)|refine ct ?_|refine cf ?_|((first|refine gs ?_ ?_|refine gl ?_ ?_|refine gc ?_ ?_)<;>intro h<;>(try simp only [NS] at h)<;>(try exact xf)<;>(try refine rn ?_ ?_))))
  (refine TE.step rfl rfl rfl (fun _ h => nomatch h) (m_mkMp (.mp false []) (by first | exact .inl ⟨_, rfl⟩ | exact .inr ⟨_, rfl⟩) rfl) ?_; rintro _ rfl)
  ((refine rn ?_ ?_);(repeat' (first|(with_reducible refine AllP.go ?_;first|exact og|((try simp only [OS]);repeat' (first|exact oj|refine And.intro ?_ ?_)))|(refine rg ?_ ?_)|(with_reducible first|refine stp ?_|refine tD rfl ?_)|refine ct ?_|refine cf ?_|((first|refine gs ?_ ?_|refine gl ?_ ?_|refine gc ?_ ?_)<;>intro h<;>(try simp only [NS] at h)<;>(try exact xf)<;>(try refine rn ?_ ?_)))))
  refine TE.callW (walk_c l) rfl (by rfl) (by rfl) rfl (by rfl) (by (first|exact trivial|((with_reducible refine AllP.go ?_);dsimp only [AllP, appP];repeat' (first|refine And.intro ?_ ?_|exact zz|assumption)))) ?_
  intro _ _
  ((refine rn ?_ ?_);(repeat' (first|(with_reducible refine AllP.go ?_;first|exact og|((try simp only [OS]);repeat' (first|exact oj|refine And.intro ?_ ?_)))|(refine rg ?_ ?_)|(with_reducible first|refine stp ?_|refine tD rfl ?_)|refine ct ?_|refine cf ?_|((first|refine gs ?_ ?_|refine gl ?_ ?_|refine gc ?_ ?_)<;>intro h<;>(try simp only [NS] at h)<;>(try exact xf)<;>(try refine rn ?_ ?_)))))
  (refine TE.only [47, 9, 8, 6, 4, 1, 0] (by rfl) ?_)
  (refine TE.range rfl (by rfl) (by rfl) (by kernel_rfl) (by rfl) (by rfl) rfl ?_)
  intro l' a1 w0 B0 S0 ν0 L
  (repeat (first|(with_reducible refine AllP.go ?_;first|exact og|((try simp only [OS]);repeat' (first|exact oj|refine And.intro ?_ ?_)))|(refine rg ?_ ?_)|(with_reducible first|refine stp ?_|refine tD rfl ?_)|(with_reducible first|exact PanicOk.body|exact rd.panic|refine PanicOk.then' ?_|refine PanicOk.block ?_|refine PanicOk.jump ?_)|(refine dc ?_)|(refine dn ?_)|(refine TL.done (by rfl) ?_)|(refine TL.auto tysOk rfl ?_ (by rfl) ?_ ?_)|((refine TL.one (by rfl) ?_);first|(refine sm ?_ ?_)|(refine sp ?_ ?_))|(refine sm ?_ ?_)|refine ct ?_|refine cf ?_))
  refine TE.nilOwn 3 3 1 (by rfl) ?_
  refine TE.nilOwn 4 9 1 (by rfl) ?_
  refine TE.loopG (fun q : Nat => q ≤ l.length ∧ True) (fun q => [(10, .o (.c (.int .i64 q))), (3, .o (.own 5)), (4, .o (.own 6))]) [5, 6, 2] (fun q => [.own 5 3 1 (skC (stkI (nds l) q)), .own 6 9 1 (paC (pstI (nds l) q)), .obj 2 (.mp false (ents cnDs 0 (avs l q)))]) (fun q => l.length - q) 0 (by rfl) ⟨Nat.zero_le _, trivial⟩ ?_ ?_
  · (refine Ent.of rfl rfl (by rfl) ?_;(try (first|exact trivial|((with_reducible refine AllP.go ?_);dsimp only [AllP, appP];repeat' (first|refine And.intro ?_ ?_|exact zz)))))
    all_goals first | exact LeDC.nil rfl rfl
  rintro q ⟨hq, hg⟩
  by_cases hlt : q < l.length
  · have hxd : ((nds l).getD q n0).depth = (l.getD q b0).nd.depth := by rw [nds_getD]
    have hxnm : ((nds l).getD q n0).name = (l.getD q b0).nd.name := by rw [nds_getD]
    have hks : (skC (stkI (nds l) q)).n = (stkI (nds l) q).length := rfl
    have hkp : (paC (pstI (nds l) q)).n = (pstI (nds l) q).length := rfl
    obtain ⟨f1, f2, f3, f4, f5⟩ := walk_facts hT (q := q) (by omega)
    rw [hxd] at f1 f2 f3
    have ht1 : ((stkI (nds l) q).take (l.getD q b0).nd.depth.toNat).length = (l.getD q b0).nd.depth.toNat := by rw [List.length_take]; omega
    have ht2 : ((pstI (nds l) q).take ((l.getD q b0).nd.depth - 1).toNat).length = ((l.getD q b0).nd.depth - 1).toNat := by rw [List.length_take]; omega
    (repeat' (first|(with_reducible refine AllP.go ?_;first|exact og|((try simp only [OS]);repeat' (first|exact oj|refine And.intro ?_ ?_)))|(refine rg ?_ ?_)|(with_reducible first|refine stp ?_|refine tD rfl ?_)|refine ct ?_|refine cf ?_|((first|refine gs ?_ ?_|refine gl ?_ ?_|refine gc ?_ ?_)<;>intro h<;>(try simp only [NS] at h)<;>(try exact xf)<;>(try refine rn ?_ ?_))))
    refine TE.midG (ι := Unit) (fun _ => True) (fun _ => [(3, .o (.own 5)), (4, .o (.own 6))]) [5, 6] (fun _ => [.own 5 3 1 (skC ((stkI (nds l) q).take (l.getD q b0).nd.depth.toNat)), .own 6 9 1 (paC ((pstI (nds l) q).take ((l.getD q b0).nd.depth - 1).toNat))]) (by rfl) ?_ fun _ _ => ?_
    · (refine TE.drawK (fun i => !(Nat.beq i 5 || Nat.beq i 6)) (by rfl) (by rfl) (by rfl) ?_)
      (repeat' (first|(with_reducible refine AllP.go ?_;first|exact og|((try simp only [OS]);repeat' (first|exact oj|refine And.intro ?_ ?_)))|(with_reducible first|exact PanicOk.body|exact rd.panic|refine PanicOk.then' ?_|refine PanicOk.block ?_|refine PanicOk.jump ?_)|(refine TL.done (by rfl) ?_)|(refine TL.auto tysOk rfl ?_ (by rfl) ?_ ?_)|((refine TL.one (by rfl) ?_);first|(refine sm ?_ ?_)|(refine sp ?_ ?_)|(refine StepL.law rfl rfl rfl (fun _ h => nomatch h) rfl (m_nilO rfl rfl) (by rfl) ?_;rintro _ rfl)|(refine StepL.law rfl rfl rfl (fun _ h => nomatch h) rfl (m_cutOwn tysOk rfl (und_slice tysOk rfl) rfl rfl rfl rfl rfl ?_) (by rfl) ?_;rotate_left;rintro _ rfl;rotate_right;first|omega|skip))|(refine sm ?_ ?_)|(refine sp ?_ ?_)|(refine StepL.law rfl rfl rfl (fun _ h => nomatch h) rfl (m_nilO rfl rfl) (by rfl) ?_;rintro _ rfl)|(refine StepL.law rfl rfl rfl (fun _ h => nomatch h) rfl (m_cutOwn tysOk rfl (und_slice tysOk rfl) rfl rfl rfl rfl rfl ?_) (by rfl) ?_;rotate_left;rintro _ rfl;rotate_right;first|omega|skip)|((first|refine gl ?_ ?_|refine gc ?_ ?_)<;>intro h<;>(try simp only [NS] at h)<;>(try exact xf))|(refine TL.two (by rfl) ?_ ?_)|(refine TL.three (by rfl) ?_ ?_ ?_)|(refine TL.four (by rfl) ?_ ?_ ?_ ?_)))
      all_goals first | (simp only [Int.toNat_natCast]; rw [hks]; omega) | skip
      all_goals (repeat (with_reducible first|refine stp ?_|refine tD rfl ?_))
      all_goals (refine TE.at () trivial ?_;(refine Ent.of rfl rfl (by rfl) ?_;(try (first|exact trivial|((with_reducible refine AllP.go ?_);dsimp only [AllP, appP];repeat' (first|refine And.intro ?_ ?_|exact zz))))))
      all_goals first
        | exact head_take (by simp only [Int.toNat_natCast]; rw [hks]; omega) (by omega)
        | exact head_take (by simp only [Int.toNat_natCast]; rw [hkp]; omega) (by omega)
    (repeat (with_reducible first|refine stp ?_|refine tD rfl ?_))
    ((refine rg ?_ ?_);try (with_reducible refine AllP.go ?_;first|exact og|((try simp only [OS]);repeat' (first|exact oj|refine And.intro ?_ ?_))))
    refine TE.done (TE.thenN ?_)
    refine TE.seq ?_
    refine TE.midG (ι := Unit) (fun _ => True) (fun _ => [(4, .o (.own 6)), (7, .o (.c (.int .i64 (aboveI (nds l) q))))]) [6] (fun _ => [.own 6 9 1 (paC (pstI (nds l) (q + 1)))]) (by rfl) ?_ fun _ _ => ?_
    · rcases Nat.eq_zero_or_pos q with h0 | h0
      · subst h0
        obtain ⟨r1, r2, r3⟩ := walk_root hT
        rw [hxd] at r1
        have ht3 : ((stkI (nds l) 0).take (l.getD 0 b0).nd.depth.toNat).length = 0 := by rw [ht1, r1]; rfl
        (repeat' (first|(with_reducible refine AllP.go ?_;first|exact og|((try simp only [OS]);repeat' (first|exact oj|refine And.intro ?_ ?_)))|(refine rg ?_ ?_)|(with_reducible first|refine stp ?_|refine tD rfl ?_)|refine ct ?_|refine cf ?_|((first|refine gs ?_ ?_|refine gl ?_ ?_|refine gc ?_ ?_)<;>intro h<;>(try simp only [NS] at h)<;>(try exact xf)<;>(try refine rn ?_ ?_))))
        (refine TE.at () trivial ?_;(refine Ent.of rfl rfl (by rfl) ?_;(try (first|exact trivial|((with_reducible refine AllP.go ?_);dsimp only [AllP, appP];repeat' (first|refine And.intro ?_ ?_|exact zz))))))
        rw [r3, List.take_nil, pstI_zero (by omega)]
        exact LeD.refl
      · obtain ⟨k1, _, _, _, _, k6⟩ := walk_at hT (q := q) (by omega) h0
        rw [hxd] at k1 k6
        have hix : (((skC ((stkI (nds l) q).take (l.getD q b0).nd.depth.toNat)).n : Int) - 1).toNat = ((l.getD q b0).nd.depth - 1).toNat := by
          show ((((stkI (nds l) q).take (l.getD q b0).nd.depth.toNat).length : Int) - 1).toNat = _
          rw [ht1]
          omega
        have hps := pstI_succ (l := nds l) (q := q) (by omega) h0
        rw [hxd, hxnm] at hps
        (repeat' (first|(with_reducible refine AllP.go ?_;first|exact og|((try simp only [OS]);repeat' (first|exact oj|refine And.intro ?_ ?_)))|(refine rg ?_ ?_)|(with_reducible first|refine stp ?_|refine tD rfl ?_)|refine ct ?_|refine cf ?_|((first|refine gs ?_ ?_|refine gl ?_ ?_|refine gc ?_ ?_)<;>intro h<;>(try simp only [NS] at h)<;>(try exact xf)<;>(try refine rn ?_ ?_))))
        (refine TE.at () trivial ?_;(refine Ent.of rfl rfl (by rfl) ?_;(try (first|exact trivial|((with_reducible refine AllP.go ?_);dsimp only [AllP, appP];repeat' (first|refine And.intro ?_ ?_|exact zz))))))
        · refine congrArg (Value.int _) ?_
          rw [hix, k6, getD_take (by omega)]
        · exact listC_snoc _ hps (nth1 rfl)
    (refine TE.only [10, 9, 8, 7, 6, 5, 4, 3, 1, 0] (by rfl) ?_)
    have hpl : (pstI (nds l) (q + 1)).length ≤ 1000000 := by rw [pstI_path hT (by omega)]; have := (pcheck_iff.1 (path_ok hT q (by omega))).1; omega
    (repeat' (first|(with_reducible refine AllP.go ?_;first|exact og|((try simp only [OS]);repeat' (first|exact oj|refine And.intro ?_ ?_)))|(refine rg ?_ ?_)|(with_reducible first|refine stp ?_|refine tD rfl ?_)|refine ct ?_|refine cf ?_|((first|refine gs ?_ ?_|refine gl ?_ ?_|refine gc ?_ ?_)<;>intro h<;>(try simp only [NS] at h)<;>(try exact xf)<;>(try refine rn ?_ ?_))))
    refine TE.callW (cloneO_c (pstI (nds l) (q + 1)) hpl) rfl (by rfl) (by rfl) rfl (by rfl) (by (first|exact trivial|((with_reducible refine AllP.go ?_);dsimp only [AllP, appP];repeat' (first|refine And.intro ?_ ?_|exact zz|assumption)))) ?_
    intro _ _
    ((refine rn ?_ ?_);try (with_reducible refine AllP.go ?_;first|exact og|((try simp only [OS]);repeat' (first|exact oj|refine And.intro ?_ ?_))))
    (refine TE.freezeN 10 (by rfl) (by rfl) ?_)
    (refine TE.only [54, 50, 49, 10, 9, 8, 4, 3, 1, 0] (by rfl) ?_)
    (refine TE.yield L rfl (by rfl) (by rfl) rfl rfl (by rfl) (by rfl) (by rfl) rfl (by rfl) ?_)
    intro Qr w1 B1 S1 ν1 rd
    (repeat (first|(with_reducible refine AllP.go ?_;first|exact og|((try simp only [OS]);repeat' (first|exact oj|refine And.intro ?_ ?_)))|(refine rg ?_ ?_)|(with_reducible first|refine stp ?_|refine tD rfl ?_)|(with_reducible first|exact PanicOk.body|exact rd.panic|refine PanicOk.then' ?_|refine PanicOk.block ?_|refine PanicOk.jump ?_)|(refine dc ?_)|(refine dn ?_)|(refine TL.done (by rfl) ?_)|(refine TL.auto tysOk rfl ?_ (by rfl) ?_ ?_)|((refine TL.one (by rfl) ?_);first|(refine sm ?_ ?_)|(refine sp ?_ ?_))|(refine sm ?_ ?_)|refine ct ?_|refine cf ?_))
    refine rd.begin ?_
    clear rd
    intro w1 B1 S1 ν1 rd
    have hpp : pstI (nds l) (q + 1) = pathI (nds l) q := pstI_path hT (by omega)
    have hst := stkI_succ (l := nds l) (q := q) (by omega)
    rw [hxd] at hst
    have hpu : putM (ents cnDs 0 (avs l q)) (q : Int) (cnDs (aboveI (nds l) q)) = ents cnDs 0 (avs l (q + 1)) := by
      rw [avs_succ]
      exact put_new (f := cnDs) (aboveI (nds l) q) _ _ _ (by rw [avs_len]; omega)
    (repeat' (first|(with_reducible refine AllP.go ?_;first|exact og|((try simp only [OS]);repeat' (first|exact oj|refine And.intro ?_ ?_)))|(refine rg ?_ ?_)|(with_reducible first|refine stp ?_|refine tD rfl ?_)|refine ct ?_|refine cf ?_|((first|refine gs ?_ ?_|refine gl ?_ ?_|refine gc ?_ ?_)<;>intro h<;>(try simp only [NS] at h)<;>(try exact xf)<;>(try refine rn ?_ ?_))))
    (refine TE.step rfl rfl rfl (fun _ h => nomatch h) (m_mpUp (mpI false) rfl rfl (Try.underlying96) (Try.underlying3) rfl rfl rfl rfl rfl) ?_; rintro _ rfl)
    ((refine rn ?_ ?_);(repeat' (first|(with_reducible refine AllP.go ?_;first|exact og|((try simp only [OS]);repeat' (first|exact oj|refine And.intro ?_ ?_)))|(refine rg ?_ ?_)|(with_reducible first|refine stp ?_|refine tD rfl ?_)|refine ct ?_|refine cf ?_|((first|refine gs ?_ ?_|refine gl ?_ ?_|refine gc ?_ ?_)<;>intro h<;>(try simp only [NS] at h)<;>(try exact xf)<;>(try refine rn ?_ ?_)))))
    refine rd.normal ?_
    ((refine rn ?_ ?_);(repeat' (first|(with_reducible refine AllP.go ?_;first|exact og|((try simp only [OS]);repeat' (first|exact oj|refine And.intro ?_ ?_)))|(refine rg ?_ ?_)|(with_reducible first|refine stp ?_|refine tD rfl ?_)|refine ct ?_|refine cf ?_|((first|refine gs ?_ ?_|refine gl ?_ ?_|refine gc ?_ ?_)<;>intro h<;>(try simp only [NS] at h)<;>(try exact xf)<;>(try refine rn ?_ ?_)))))
    refine TE.again' (q + 1) ⟨by omega, trivial⟩ (by omega) ?_
    (refine Ent.of rfl rfl (by rfl) ?_;(try (first|exact trivial|((with_reducible refine AllP.go ?_);dsimp only [AllP, appP];repeat' (first|refine And.intro ?_ ?_|exact zz)))))
    all_goals first | exact listC_snoc _ hst (nth1 rfl) | exact congrArg (AO.mp false) hpu
  · obtain rfl : q = l.length := by omega
    (repeat' (first|(with_reducible refine AllP.go ?_;first|exact og|((try simp only [OS]);repeat' (first|exact oj|refine And.intro ?_ ?_)))|(refine rg ?_ ?_)|(with_reducible first|refine stp ?_|refine tD rfl ?_)|refine ct ?_|refine cf ?_|((first|refine gs ?_ ?_|refine gl ?_ ?_|refine gc ?_ ?_)<;>intro h<;>(try simp only [NS] at h)<;>(try exact xf)<;>(try refine rn ?_ ?_))))
    refine TE.iterEnd L (by first | exact .inl rfl | exact .inr rfl) (by rfl) ?_
    have hkl : (kidsL l k).length ≤ l.length := idxs_len _ _
    (repeat' (first|(with_reducible refine AllP.go ?_;first|exact og|((try simp only [OS]);repeat' (first|exact oj|refine And.intro ?_ ?_)))|(refine rg ?_ ?_)|(with_reducible first|refine stp ?_|refine tD rfl ?_)|refine ct ?_|refine cf ?_|((first|refine gs ?_ ?_|refine gl ?_ ?_|refine gc ?_ ?_)<;>intro h<;>(try simp only [NS] at h)<;>(try exact xf)<;>(try refine rn ?_ ?_))))
    refine TE.nilBox 1 3 72 12 (by rfl) (by rfl) ?_
    (refine TE.only [56, 55, 54, 9, 8, 4, 1, 0] (by rfl) ?_)
    refine TE.loopG (fun q : Nat => q ≤ (kidsL l k).length) (fun q => [(56, .o (.c (.int .i64 q)))]) [1, 7, 5] (fun q => [.box 1 53 [.ro 2 (l.getD k b0).nd.attrs.length (atC (l.getD k b0).nd.attrs).cell, .c (.bool (l.getD k b0).opq), .ro 1 (l.getD k b0).red.length (paC (l.getD k b0).red).cell, .own 7], .own 7 72 12 (enC (((kidsL l k).take q).map (entI l k)))]) (fun q => (kidsL l k).length - q) 0 (by rfl) (Nat.zero_le _) ?_ ?_
    · (refine Ent.of rfl rfl (by rfl) ?_;(try (first|exact trivial|((with_reducible refine AllP.go ?_);dsimp only [AllP, appP];repeat' (first|refine And.intro ?_ ?_|exact zz)))))
      all_goals exact LeDC.nil rfl rfl
    intro q hq
    by_cases hlt : q < (kidsL l k).length
    · obtain ⟨i, hi⟩ : ∃ i, i = (kidsL l k).getD q 0 := ⟨_, rfl⟩
      obtain ⟨i1, i2⟩ := kid_iff.1 (show i ∈ kidsL l k by rw [hi]; exact getD_mem hlt)
      have hnl : (namesL l i).length ≤ l.length := idxs_len _ _
      have hnm : i ∈ namesL l i := idxs_mem.2 ⟨i1, by unfold namesP; simp⟩
      have hnc := names_c l i i1 hl
      have hmc := min_c l (namesL l i) (List.length_pos_of_mem hnm) (fun k hk => names_lt hk) hl (by omega)
      have hpc := plain_c (l.getD i b0) (hx _ (getD_mem (d := b0) i1)).1.1
      have hcn : (enC (((kidsL l k).take q).map (entI l k))).n = q := by show (((kidsL l k).take q).map (entI l k)).length = q; rw [List.length_map, List.length_take]; omega
      have hfm := first_min (l := l) (n := (k : Int)) i1 i2
      (repeat' (first|(with_reducible refine AllP.go ?_;first|exact og|((try simp only [OS]);repeat' (first|exact oj|refine And.intro ?_ ?_)))|(refine rg ?_ ?_)|(with_reducible first|refine stp ?_|refine tD rfl ?_)|refine ct ?_|refine cf ?_|((first|refine gs ?_ ?_|refine gl ?_ ?_|refine gc ?_ ?_)<;>intro h<;>(try simp only [NS] at h)<;>(try exact xf)<;>(try refine rn ?_ ?_))))
      rw [show (kidsL l k).getD ((q : Nat) : Int).toNat 0 = i from hi.symm]
      refine TE.callW (hnc) rfl (by rfl) (by rfl) rfl (by rfl) (by (first|exact trivial|((with_reducible refine AllP.go ?_);dsimp only [AllP, appP];repeat' (first|refine And.intro ?_ ?_|exact zz|assumption)))) ?_
      intro _ _
      ((refine rn ?_ ?_);(repeat' (first|(with_reducible refine AllP.go ?_;first|exact og|((try simp only [OS]);repeat' (first|exact oj|refine And.intro ?_ ?_)))|(refine rg ?_ ?_)|(with_reducible first|refine stp ?_|refine tD rfl ?_)|refine ct ?_|refine cf ?_|((first|refine gs ?_ ?_|refine gl ?_ ?_|refine gc ?_ ?_)<;>intro h<;>(try simp only [NS] at h)<;>(try exact xf)<;>(try refine rn ?_ ?_)))))
      refine TE.callW (hmc) rfl (by rfl) (by rfl) rfl (by rfl) (by (first|exact trivial|((with_reducible refine AllP.go ?_);dsimp only [AllP, appP];repeat' (first|refine And.intro ?_ ?_|exact zz|assumption)))) ?_
      intro _ _
      ((refine rn ?_ ?_);(repeat' (first|(with_reducible refine AllP.go ?_;first|exact og|((try simp only [OS]);repeat' (first|exact oj|refine And.intro ?_ ?_)))|(refine rg ?_ ?_)|(with_reducible first|refine stp ?_|refine tD rfl ?_)|refine ct ?_|refine cf ?_|((first|refine gs ?_ ?_|refine gl ?_ ?_|refine gc ?_ ?_)<;>intro h<;>(try simp only [NS] at h)<;>(try exact xf)<;>(try refine rn ?_ ?_)))))
      (refine TE.only [56, 55, 54, 15, 14, 13, 9, 8, 4, 1, 0] (by rfl) ?_)
      refine TE.midG (ι := Unit) (fun _ => True) (fun _ => [(16, .o (.ptr 5 0))]) [5] (fun _ => [.box 5 72 [.c (.string (l.getD i b0).nd.name), .c (.int .i64 (l.getD i b0).nd.depth), .c (.string (l.getD i b0).nd.name), .c (.int .i64 (l.getD i b0).nd.kind), .ro 2 (l.getD i b0).nd.attrs.length (atC (l.getD i b0).nd.attrs).cell, .c (.string (l.getD i b0).nd.data), .c (.int .i64 (l.getD i b0).nd.major), .c (.int .i64 (l.getD i b0).nd.minor), .c (.int .i64 (l.getD i b0).nd.cls), .sb (decide ((l.getD i b0).nd.kind = 5)), .sb (firstP l k i), .c (.int .i64 ((namesL l i).length : Nat))]]) (by rfl) ?_ fun _ _ => ?_
      · (refine TE.drawK (fun _ => false) (by rfl) (by rfl) (by rfl) ?_)
        (repeat' (first|(with_reducible refine AllP.go ?_;first|exact og|((try simp only [OS]);repeat' (first|exact oj|refine And.intro ?_ ?_)))|(with_reducible first|exact PanicOk.body|exact rd.panic|refine PanicOk.then' ?_|refine PanicOk.block ?_|refine PanicOk.jump ?_)|(refine TL.done (by rfl) ?_)|(refine TL.auto tysOk rfl ?_ (by rfl) ?_ ?_)|(refine sm ?_ ?_)|(refine sp ?_ ?_)|(refine TL.one (by rfl) ?_)|(refine TL.two (by rfl) ?_ ?_)|(refine TL.three (by rfl) ?_ ?_ ?_)|(refine TL.four (by rfl) ?_ ?_ ?_ ?_)))
        all_goals (refine StepL.callW (hpc) rfl rfl rfl rfl rfl (by rfl) (by (first|exact trivial|((with_reducible refine AllP.go ?_);dsimp only [AllP, appP];repeat' (first|refine And.intro ?_ ?_|exact zz|assumption)))) (by rfl) (by rfl) ?_;intro _ _;(repeat' (first|(with_reducible refine AllP.go ?_;first|exact og|((try simp only [OS]);repeat' (first|exact oj|refine And.intro ?_ ?_)))|(with_reducible first|exact PanicOk.body|exact rd.panic|refine PanicOk.then' ?_|refine PanicOk.block ?_|refine PanicOk.jump ?_)|(refine TL.done (by rfl) ?_)|(refine TL.auto tysOk rfl ?_ (by rfl) ?_ ?_)|(refine sm ?_ ?_)|(refine sp ?_ ?_)|(refine TL.one (by rfl) ?_)|(refine TL.two (by rfl) ?_ ?_)|(refine TL.three (by rfl) ?_ ?_ ?_)|(refine TL.four (by rfl) ?_ ?_ ?_ ?_))))
        all_goals ((refine StepL.law rfl rfl rfl (fun _ h => nomatch h) rfl (m_buildN tysOk rfl (by rfl) (by rfl) (by rfl) (by rfl)) (by rfl) ?_;rintro _ rfl);(repeat' (first|(with_reducible refine AllP.go ?_;first|exact og|((try simp only [OS]);repeat' (first|exact oj|refine And.intro ?_ ?_)))|(with_reducible first|exact PanicOk.body|exact rd.panic|refine PanicOk.then' ?_|refine PanicOk.block ?_|refine PanicOk.jump ?_)|(refine TL.done (by rfl) ?_)|(refine TL.auto tysOk rfl ?_ (by rfl) ?_ ?_)|(refine sm ?_ ?_)|(refine sp ?_ ?_)|(refine TL.one (by rfl) ?_)|(refine TL.two (by rfl) ?_ ?_)|(refine TL.three (by rfl) ?_ ?_ ?_)|(refine TL.four (by rfl) ?_ ?_ ?_ ?_))))
        all_goals (repeat (with_reducible first|refine stp ?_|refine tD rfl ?_))
        all_goals (refine TE.at () trivial ?_;(refine Ent.of rfl rfl (by rfl) ?_;(try (first|exact trivial|((with_reducible refine AllP.go ?_);dsimp only [AllP, appP];repeat' (first|refine And.intro ?_ ?_|exact zz))))))
        all_goals exact (decide_eq_decide.2 (by omega)).trans hfm
      have htk : ((kidsL l k).take q).length = q := by rw [List.length_take]; omega
      have hsn : ((kidsL l k).take (q + 1)).map (entI l k) = ((kidsL l k).take q).map (entI l k) ++ [entI l k i] := by rw [map_take (d := 0) hlt, ← hi]
      by_cases hkd : (l.getD i b0).nd.kind = 1
      · have hen : (entI l k i).node = { n0 with kind := 1 } := if_pos hkd
        (repeat' (first|(with_reducible refine AllP.go ?_;first|exact og|((try simp only [OS]);repeat' (first|exact oj|refine And.intro ?_ ?_)))|(refine rg ?_ ?_)|(with_reducible first|refine stp ?_|refine tD rfl ?_)|refine ct ?_|refine cf ?_|((first|refine gs ?_ ?_|refine gl ?_ ?_|refine gc ?_ ?_)<;>intro h<;>(try simp only [NS] at h)<;>(try exact xf)<;>(try refine rn ?_ ?_))))
        refine TE.again' (q + 1) (by omega) (by omega) ?_
        (refine Ent.of rfl rfl (by rfl) ?_;(try (first|exact trivial|((with_reducible refine AllP.go ?_);dsimp only [AllP, appP];repeat' (first|refine And.intro ?_ ?_|exact zz)))))
        all_goals refine listC_snocX _ hsn (ent_row ?_ ?_ ?_ ?_ ?_ ?_ ?_ ?_ ?_ ?_ ?_ ?_)
        all_goals first | exact LeX.of_eq rfl | (refine LeX.of_eq ?_; simp only [enR, hen]; rfl) | (simp only [enR, hen]; exact LeX.nil rfl)
      · have hen : (entI l k i).node = { (l.getD i b0).nd with depth := 0, name := eS } := if_neg hkd
        (repeat' (first|(with_reducible refine AllP.go ?_;first|exact og|((try simp only [OS]);repeat' (first|exact oj|refine And.intro ?_ ?_)))|(refine rg ?_ ?_)|(with_reducible first|refine stp ?_|refine tD rfl ?_)|refine ct ?_|refine cf ?_|((first|refine gs ?_ ?_|refine gl ?_ ?_|refine gc ?_ ?_)<;>intro h<;>(try simp only [NS] at h)<;>(try exact xf)<;>(try refine rn ?_ ?_))))
        refine TE.again' (q + 1) (by omega) (by omega) ?_
        (refine Ent.of rfl rfl (by rfl) ?_;(try (first|exact trivial|((with_reducible refine AllP.go ?_);dsimp only [AllP, appP];repeat' (first|refine And.intro ?_ ?_|exact zz)))))
        all_goals refine listC_snocX _ hsn (ent_row ?_ ?_ ?_ ?_ ?_ ?_ ?_ ?_ ?_ ?_ ?_ ?_)
        all_goals first | exact LeX.of_eq rfl | (refine LeX.of_eq ?_; simp only [enR, hen]; rfl) | (simp only [enR, hen]; exact LeX.nil rfl)
    · obtain rfl : q = (kidsL l k).length := by omega
      (repeat' (first|(with_reducible refine AllP.go ?_;first|exact og|((try simp only [OS]);repeat' (first|exact oj|refine And.intro ?_ ?_)))|(refine rg ?_ ?_)|(with_reducible first|refine stp ?_|refine tD rfl ?_)|refine ct ?_|refine cf ?_|((first|refine gs ?_ ?_|refine gl ?_ ?_|refine gc ?_ ?_)<;>intro h<;>(try simp only [NS] at h)<;>(try exact xf)<;>(try refine rn ?_ ?_))))
      (refine TE.freezeN 7 (by rfl) (by rfl) ?_)
      (refine TE.ret' io rfl tysOk (()) ?_ rfl (by rfl) ?_;all_goals (try (first|exact trivial|((with_reducible refine AllP.go ?_);dsimp only [AllP, appP];repeat' (first|refine And.intro ?_ ?_|exact zz)))))
      rw [List.take_length]
      exact LeD.refl
end Go.Proofs.Ythhpofehcnjmmaa.Am
set_option linter.unusedSimpArgs false
set_option linter.unusedVariables false
namespace Go.Proofs.Ythhpofehcnjmmaa.Am
open Go.RowKit Lw
open Br
abbrev nEx (d : Int) (nm : ByteArray) (k : Int) (dt : ByteArray) (c : Int) : Nd := ⟨d, nm, k, [], dt, 0, 0, c⟩
def exL : List Bn := [⟨nEx 0 eS 1 eS 0, false, []⟩, ⟨nEx 1 ⟨#[97]⟩ 1 eS 0, true, []⟩, ⟨nEx 2 ⟨#[120]⟩ 2 ⟨#[49, 50]⟩ 1, false, []⟩, ⟨nEx 1 ⟨#[100]⟩ 1 eS 0, false, [⟨#[111, 108, 100]⟩, ⟨#[100]⟩]⟩, ⟨nEx 2 ⟨#[119]⟩ 5 eS 0, false, []⟩, ⟨nEx 2 ⟨#[121]⟩ 2 ⟨#[49, 50]⟩ 1, false, []⟩]
set_option maxRecDepth 20000 in
set_option maxHeartbeats 4000000 in
theorem ints_c (a b : List Nat) (ha : a.length ≤ 1000000) (hb : b.length ≤ 1000000) : Con Try.prog 29 [.o (.ro 1 a.length (skC a).cell), .o (.ro 1 b.length (skC b).cell)] [] 0 0 U (fun _ => .o (.sb (decide (a = b)))) G0 := by
  refine con_of Try.func29 rfl (by kernel_rfl) Try.ntmps29 rfl (by first | exact Nat.zero_le _ | decide) (fun _ => ⟨rfl, rfl⟩) fun w S ν => ?_
  (repeat' (first|(with_reducible refine AllP.go ?_;first|exact og|((try simp only [OS]);repeat' (first|exact oj|refine And.intro ?_ ?_)))|(refine rg ?_ ?_)|(with_reducible first|refine stp ?_|refine tD rfl ?_)|refine ct ?_|refine cf ?_|((first|refine gs ?_ ?_|refine gl ?_ ?_|refine gc ?_ ?_)<;>intro h<;>(try simp only [NS] at h)<;>(try exact xf)<;>(try refine rn ?_ ?_))))
  refine TE.loopG (fun q : Nat => q ≤ a.length ∧ q ≤ b.length ∧ ∀ j, j < q → a.getD j 0 = b.getD j 0) (fun q => [(5, .o (.c (.int .i64 q)))]) [] (fun _ => []) (fun q => a.length - q) 0 (by rfl) ⟨Nat.zero_le _, Nat.zero_le _, fun j hj => absurd hj (Nat.not_lt_zero _)⟩ ?_ ?_
  · (refine Ent.of rfl rfl (by rfl) ?_;(try (first|exact trivial|((with_reducible refine AllP.go ?_);dsimp only [AllP, appP];repeat' (first|refine And.intro ?_ ?_|exact zz)))))
  rintro q ⟨hq, hq2, hg⟩
  by_cases h1 : q < a.length ∧ q < b.length
  · by_cases he : a.getD q 0 = b.getD q 0
    · (repeat' (first|(with_reducible refine AllP.go ?_;first|exact og|((try simp only [OS]);repeat' (first|exact oj|refine And.intro ?_ ?_)))|(refine rg ?_ ?_)|(with_reducible first|refine stp ?_|refine tD rfl ?_)|(with_reducible first|exact PanicOk.body|exact rd.panic|refine PanicOk.then' ?_|refine PanicOk.block ?_|refine PanicOk.jump ?_)|(refine dc ?_)|(refine dn ?_)|(refine TL.done (by rfl) ?_)|(refine TL.auto tysOk rfl ?_ (by rfl) ?_ ?_)|((refine TL.one (by rfl) ?_);first|(refine sm ?_ ?_)|(refine sp ?_ ?_))|(refine sm ?_ ?_)|refine ct ?_|refine cf ?_|((first|refine gs ?_ ?_|refine gl ?_ ?_|refine gc ?_ ?_)<;>intro h<;>(try simp only [NS] at h)<;>(try exact xf)<;>(try refine rn ?_ ?_))))
      all_goals refine TE.again' (q + 1) ⟨by omega, by omega, fun j hj => ?_⟩ (by omega) ?_
      all_goals first
        | (rcases Nat.lt_or_ge j q with h5 | h5
           · exact hg j h5
           · obtain rfl : j = q := by omega
             exact he)
        | (refine Ent.of rfl rfl (by rfl) ?_;(try (first|exact trivial|((with_reducible refine AllP.go ?_);dsimp only [AllP, appP];repeat' (first|refine And.intro ?_ ?_|exact zz)))))
    · have hne : a ≠ b := fun e => he (by rw [e])
      (repeat' (first|(with_reducible refine AllP.go ?_;first|exact og|((try simp only [OS]);repeat' (first|exact oj|refine And.intro ?_ ?_)))|(refine rg ?_ ?_)|(with_reducible first|refine stp ?_|refine tD rfl ?_)|(with_reducible first|exact PanicOk.body|exact rd.panic|refine PanicOk.then' ?_|refine PanicOk.block ?_|refine PanicOk.jump ?_)|(refine dc ?_)|(refine dn ?_)|(refine TL.done (by rfl) ?_)|(refine TL.auto tysOk rfl ?_ (by rfl) ?_ ?_)|((refine TL.one (by rfl) ?_);first|(refine sm ?_ ?_)|(refine sp ?_ ?_))|(refine sm ?_ ?_)|refine ct ?_|refine cf ?_|((first|refine gs ?_ ?_|refine gl ?_ ?_|refine gc ?_ ?_)<;>intro h<;>(try simp only [NS] at h)<;>(try exact xf)<;>(try refine rn ?_ ?_))))
      all_goals (refine TE.ret' io rfl tysOk (()) ?_ rfl (by rfl) ?_;all_goals (try (first|exact trivial|((with_reducible refine AllP.go ?_);dsimp only [AllP, appP];repeat' (first|refine And.intro ?_ ?_|exact zz)))))
      all_goals exact congrArg Value.bool (decide_eq_false hne).symm
  · have hfin : decide (a.length = b.length) = decide (a = b) := by
      refine decide_eq_decide.2 ⟨fun e => ?_, fun e => by rw [e]⟩
      refine List.ext_getElem e fun k k1 k2 => ?_
      have := hg k (by omega)
      rwa [List.getD_eq_getElem?_getD, List.getD_eq_getElem?_getD, List.getElem?_eq_getElem k1, List.getElem?_eq_getElem k2] at this
    (repeat' (first|(with_reducible refine AllP.go ?_;first|exact og|((try simp only [OS]);repeat' (first|exact oj|refine And.intro ?_ ?_)))|(refine rg ?_ ?_)|(with_reducible first|refine stp ?_|refine tD rfl ?_)|(with_reducible first|exact PanicOk.body|exact rd.panic|refine PanicOk.then' ?_|refine PanicOk.block ?_|refine PanicOk.jump ?_)|(refine dc ?_)|(refine dn ?_)|(refine TL.done (by rfl) ?_)|(refine TL.auto tysOk rfl ?_ (by rfl) ?_ ?_)|((refine TL.one (by rfl) ?_);first|(refine sm ?_ ?_)|(refine sp ?_ ?_))|(refine sm ?_ ?_)|refine ct ?_|refine cf ?_|((first|refine gs ?_ ?_|refine gl ?_ ?_|refine gc ?_ ?_)<;>intro h<;>(try simp only [NS] at h)<;>(try exact xf)<;>(try refine rn ?_ ?_))))
    all_goals (refine TE.ret' io rfl tysOk (()) ?_ rfl (by rfl) ?_;all_goals (try (first|exact trivial|((with_reducible refine AllP.go ?_);dsimp only [AllP, appP];repeat' (first|refine And.intro ?_ ?_|exact zz)))))
    all_goals exact (decide_eq_decide.2 (by omega)).trans hfin
theorem bn_row {x : Bn} {r : List DC} (h0 : LeX (nthD r 0) (bnR x 0)) (h1 : LeX (nthD r 1) (bnR x 1)) (h2 : LeX (nthD r 2) (bnR x 2)) (h3 : LeX (nthD r 3) (bnR x 3)) (h4 : LeX (nthD r 4) (bnR x 4)) (h5 : LeX (nthD r 5) (bnR x 5)) (h6 : LeX (nthD r 6) (bnR x 6)) (h7 : LeX (nthD r 7) (bnR x 7)) (h8 : LeX (nthD r 8) (bnR x 8)) (h9 : LeX (nthD r 9) (bnR x 9)) : ∀ j, j < 10 → LeX (nthD r j) (bnR x j)
  | 0, _ => h0
  | 1, _ => h1
  | 2, _ => h2
  | 3, _ => h3
  | 4, _ => h4
  | 5, _ => h5
  | 6, _ => h6
  | 7, _ => h7
  | 8, _ => h8
  | 9, _ => h9
  | j + 10, h => absurd h (by omega)
set_option maxRecDepth 20000 in
set_option maxHeartbeats 4000000 in
theorem example_c : Con Try.prog 41 [] [] 0 1 U (fun _ => .o (.own 0)) (fun _ => [.own 0 50 10 (bnC exL)]) := by
  refine con_of Try.func41 rfl (by kernel_rfl) Try.ntmps41 rfl (by first | exact Nat.zero_le _ | decide) (fun _ => ⟨rfl, rfl⟩) fun w S ν => ?_
  (repeat' (first|(with_reducible refine AllP.go ?_;first|exact og|((try simp only [OS]);repeat' (first|exact oj|refine And.intro ?_ ?_)))|(refine rg ?_ ?_)|(with_reducible first|refine stp ?_|refine tD rfl ?_)|refine ct ?_|refine cf ?_|((first|refine gs ?_ ?_|refine gl ?_ ?_|refine gc ?_ ?_)<;>intro h<;>(try simp only [NS] at h)<;>(try exact xf)<;>(try refine rn ?_ ?_))))
  (refine TE.freezeN 0 (by rfl) (by rfl) ?_)
  ((refine rn ?_ ?_);(repeat' (first|(with_reducible refine AllP.go ?_;first|exact og|((try simp only [OS]);repeat' (first|exact oj|refine And.intro ?_ ?_)))|(refine rg ?_ ?_)|(with_reducible first|refine stp ?_|refine tD rfl ?_)|refine ct ?_|refine cf ?_|((first|refine gs ?_ ?_|refine gl ?_ ?_|refine gc ?_ ?_)<;>intro h<;>(try simp only [NS] at h)<;>(try exact xf)<;>(try refine rn ?_ ?_)))))
  (refine TE.ret' io rfl tysOk (()) ?_ rfl (by rfl) ?_;all_goals (try (first|exact trivial|((with_reducible refine AllP.go ?_);dsimp only [AllP, appP];repeat' (first|refine And.intro ?_ ?_|exact zz)))))
  (refine LeD.lit rfl ?_; repeat' (first | exact trivial | exact LeX.of_eq rfl | exact LeX.nil rfl | (refine LeX.lit rfl ?_) | refine nth1x ?_ | refine nth2x ?_ ?_ | refine nth3x ?_ ?_ ?_ | refine nth4x ?_ ?_ ?_ ?_ | refine And.intro ?_ ?_))
  all_goals refine bn_row ?_ ?_ ?_ ?_ ?_ ?_ ?_ ?_ ?_ ?_
  all_goals first | exact LeX.of_eq rfl | exact LeX.nil rfl | skip
  all_goals (refine LeX.lit rfl ?_; repeat' (first | exact trivial | exact LeX.of_eq rfl | exact LeX.nil rfl | (refine LeX.lit rfl ?_) | refine nth1x ?_ | refine nth2x ?_ ?_ | refine nth3x ?_ ?_ ?_ | refine nth4x ?_ ?_ ?_ ?_ | refine And.intro ?_ ?_))
theorem ex_dirs : dirsE exL = ([0, 1, 3], 0) := by decide
theorem ex_kids : kidsE exL 3 = ([4, 5], 0) := by decide
theorem ex_names : namesE exL 2 = ([2, 5], 0) := by decide
theorem ex_at : atE exL [⟨#[100]⟩, ⟨#[119]⟩] = (4, 0) := by decide
theorem ex_dir : dirE exL 3 = (⟨[], false, [⟨#[111, 108, 100]⟩, ⟨#[100]⟩], [⟨⟨#[119]⟩, ⟨0, eS, 5, [], eS, 0, 0, 0⟩, true, true, 1⟩, ⟨⟨#[121]⟩, ⟨0, eS, 2, [], ⟨#[49, 50]⟩, 0, 0, 1⟩, false, false, 2⟩]⟩, 0) := by decide
def exA : List Bn := exL.set 3 { exL.getD 3 b0 with red := [⟨#[100]⟩] }
def exB : List Bn := exL.set 1 { exL.getD 1 b0 with red := [⟨#[113]⟩] }
theorem ex_a : checkB exA = (3, 6) := by decide
theorem ex_b : checkB exB = (1, 6) := by decide
end Go.Proofs.Ythhpofehcnjmmaa.Am
set_option linter.unusedSimpArgs false
set_option linter.unusedVariables false
namespace Go.Proofs.Ythhpofehcnjmmaa.Am
open Go.RowKit Lw
open Br
theorem bok_small {l : List Bn} (h : l.all (fun x => decide (x.nd.attrs.length = 0 ∧ x.nd.name.size ≤ 1000 ∧ x.red.length ≤ 1000) && x.red.all (fun s => decide (s.size ≤ 1000))) = true) : ∀ x ∈ l, okB x := fun x hx => by
  have h1 := List.all_eq_true.1 h x hx
  rw [Bool.and_eq_true, decide_eq_true_eq, List.all_eq_true] at h1
  obtain ⟨⟨h2, h3, h4⟩, h5⟩ := h1
  have h6 : x.nd.attrs = [] := List.length_eq_zero_iff.1 h2
  refine ⟨⟨by omega, by rw [h6]; decide, by omega⟩, by omega, fun s hs => ?_⟩
  have := of_decide_eq_true (h5 s hs)
  omega
theorem ex_ok : ∀ x ∈ exL, okB x := bok_small (by decide)
theorem exA_ok : ∀ x ∈ exA, okB x := bok_small (by decide)
theorem exB_ok : ∀ x ∈ exB, okB x := bok_small (by decide)
theorem bn_setR {l : List Bn} {i : Nat} {d : DC} {r : List ByteArray} (hi : i < l.length) (h : LeX d (bnR { l.getD i b0 with red := r } 9)) : LeDC 10 (setC (bnC l) i 9 d) (bnC (l.set i { l.getD i b0 with red := r })) := by
  refine ⟨(List.length_set ..).symm, fun a j ha hj => ?_⟩
  show LeX (if a = i ∧ j = 9 then d else bnR (l.getD a b0) j) (bnR ((l.set i { l.getD i b0 with red := r }).getD a b0) j)
  rw [getD_set hi]
  by_cases e : a = i
  · subst e
    rw [if_pos rfl]
    by_cases e2 : j = 9
    · subst e2
      rw [if_pos ⟨rfl, rfl⟩]
      exact h
    · rw [if_neg (fun k => e2 k.2)]
      refine LeX.of_eq ?_
      match j, hj, e2 with
      | 0, _, _ => rfl
      | 1, _, _ => rfl
      | 2, _, _ => rfl
      | 3, _, _ => rfl
      | 4, _, _ => rfl
      | 5, _, _ => rfl
      | 6, _, _ => rfl
      | 7, _, _ => rfl
      | 8, _, _ => rfl
      | 9, _, h => exact absurd rfl h
      | j + 10, h, _ => omega
  · rw [if_neg (fun k => e k.1), if_neg e]
    exact LeX.of_eq rfl
set_option maxRecDepth 20000 in
set_option maxHeartbeats 16000000 in
theorem shown_c : Con Try.prog 12 [] [] 0 0 U (fun _ => .o (.c (.bool true))) G0 := by
  refine con_of0 Try.func12 rfl (by kernel_rfl) Try.ntmps12 rfl (by first | exact Nat.zero_le _ | decide) (fun _ => ⟨rfl, rfl⟩) fun w S ν => ?_
  have hl : exL.length ≤ 1000000 := by decide
  have c1 := dirs_c exL hl ex_ok
  have c2 := Kids_c exL 3 hl ex_ok
  have c3 := Names_c exL 2 hl ex_ok
  have c4 := at_c exL [⟨#[100]⟩, ⟨#[119]⟩] hl ex_ok ⟨by decide, by decide⟩
  have c5 := Dir_c exL 3 hl ex_ok
  rw [ex_dirs] at c1
  rw [ex_kids] at c2
  rw [ex_names] at c3
  rw [ex_at] at c4
  rw [ex_dir] at c5
  have i1 := ints_c [0, 1, 3] [0, 1, 3] (by decide) (by decide)
  have i2 := ints_c [4, 5] [4, 5] (by decide) (by decide)
  have i3 := ints_c [2, 5] [2, 5] (by decide) (by decide)
  rw [decide_eq_true rfl] at i1 i2 i3
  (repeat' (first|(with_reducible refine AllP.go ?_;first|exact og|((try simp only [OS]);repeat' (first|exact oj|refine And.intro ?_ ?_)))|(refine rg ?_ ?_)|(with_reducible first|refine stp ?_|refine tD rfl ?_)|refine ct ?_|refine cf ?_|((first|refine gs ?_ ?_|refine gl ?_ ?_|refine gc ?_ ?_)<;>intro h<;>(try simp only [NS] at h)<;>(try exact xf)<;>(try refine rn ?_ ?_))))
  refine TE.callW (example_c) rfl (by rfl) (by rfl) rfl (by rfl) (by (first|exact trivial|((with_reducible refine AllP.go ?_);dsimp only [AllP, appP];repeat' (first|refine And.intro ?_ ?_|exact zz|assumption)))) ?_
  intro _ _
  ((refine rn ?_ ?_);(repeat' (first|(with_reducible refine AllP.go ?_;first|exact og|((try simp only [OS]);repeat' (first|exact oj|refine And.intro ?_ ?_)))|(refine rg ?_ ?_)|(with_reducible first|refine stp ?_|refine tD rfl ?_)|refine ct ?_|refine cf ?_|((first|refine gs ?_ ?_|refine gl ?_ ?_|refine gc ?_ ?_)<;>intro h<;>(try simp only [NS] at h)<;>(try exact xf)<;>(try refine rn ?_ ?_)))))
  refine TE.lend 1 0 rfl (by rfl) (by rfl) (by decide) (by rfl) ?_
  intro w0 B0 S0 ν0 v S1 g L
  refine TE.callW (c1) rfl (by rfl) (by rfl) rfl (by rfl) (by (first|exact trivial|((with_reducible refine AllP.go ?_);dsimp only [AllP, appP];repeat' (first|refine And.intro ?_ ?_|exact zz|assumption)))) ?_
  intro _ _
  ((refine rn ?_ ?_);(repeat' (first|(with_reducible refine AllP.go ?_;first|exact og|((try simp only [OS]);repeat' (first|exact oj|refine And.intro ?_ ?_)))|(refine rg ?_ ?_)|(with_reducible first|refine stp ?_|refine tD rfl ?_)|refine ct ?_|refine cf ?_|((first|refine gs ?_ ?_|refine gl ?_ ?_|refine gc ?_ ?_)<;>intro h<;>(try simp only [NS] at h)<;>(try exact xf)<;>(try refine rn ?_ ?_)))))
  refine TE.callW (c2) rfl (by rfl) (by rfl) rfl (by rfl) (by (first|exact trivial|((with_reducible refine AllP.go ?_);dsimp only [AllP, appP];repeat' (first|refine And.intro ?_ ?_|exact zz|assumption)))) ?_
  intro _ _
  ((refine rn ?_ ?_);(repeat' (first|(with_reducible refine AllP.go ?_;first|exact og|((try simp only [OS]);repeat' (first|exact oj|refine And.intro ?_ ?_)))|(refine rg ?_ ?_)|(with_reducible first|refine stp ?_|refine tD rfl ?_)|refine ct ?_|refine cf ?_|((first|refine gs ?_ ?_|refine gl ?_ ?_|refine gc ?_ ?_)<;>intro h<;>(try simp only [NS] at h)<;>(try exact xf)<;>(try refine rn ?_ ?_)))))
  refine TE.callW (c3) rfl (by rfl) (by rfl) rfl (by rfl) (by (first|exact trivial|((with_reducible refine AllP.go ?_);dsimp only [AllP, appP];repeat' (first|refine And.intro ?_ ?_|exact zz|assumption)))) ?_
  intro _ _
  ((refine rn ?_ ?_);(repeat' (first|(with_reducible refine AllP.go ?_;first|exact og|((try simp only [OS]);repeat' (first|exact oj|refine And.intro ?_ ?_)))|(refine rg ?_ ?_)|(with_reducible first|refine stp ?_|refine tD rfl ?_)|refine ct ?_|refine cf ?_|((first|refine gs ?_ ?_|refine gl ?_ ?_|refine gc ?_ ?_)<;>intro h<;>(try simp only [NS] at h)<;>(try exact xf)<;>(try refine rn ?_ ?_)))))
  (refine TE.freezeN 1 (by rfl) (by rfl) ?_)
  refine TE.callW (c4) rfl (by rfl) (by rfl) rfl (by rfl) (by (first|exact trivial|((with_reducible refine AllP.go ?_);dsimp only [AllP, appP];repeat' (first|with_reducible rfl|with_reducible exact LeD.refl|refine And.intro ?_ ?_|exact vi|rfl|exact vb|exact trivial|(refine LeD.lit rfl ?_)|exact LeX.of_eq rfl|exact LeX.nil rfl|(refine LeX.lit rfl ?_)|refine nth1x ?_|refine nth2x ?_ ?_|refine nth3x ?_ ?_ ?_|refine nth4x ?_ ?_ ?_ ?_|exact LeD.refl)))) ?_
  intro _ _
  ((refine rn ?_ ?_);(repeat' (first|(with_reducible refine AllP.go ?_;first|exact og|((try simp only [OS]);repeat' (first|exact oj|refine And.intro ?_ ?_)))|(refine rg ?_ ?_)|(with_reducible first|refine stp ?_|refine tD rfl ?_)|refine ct ?_|refine cf ?_|((first|refine gs ?_ ?_|refine gl ?_ ?_|refine gc ?_ ?_)<;>intro h<;>(try simp only [NS] at h)<;>(try exact xf)<;>(try refine rn ?_ ?_)))))
  refine TE.callW (c5) rfl (by rfl) (by rfl) rfl (by rfl) (by (first|exact trivial|((with_reducible refine AllP.go ?_);dsimp only [AllP, appP];repeat' (first|refine And.intro ?_ ?_|exact zz|assumption)))) ?_
  intro _ _
  ((refine rn ?_ ?_);(repeat' (first|(with_reducible refine AllP.go ?_;first|exact og|((try simp only [OS]);repeat' (first|exact oj|refine And.intro ?_ ?_)))|(refine rg ?_ ?_)|(with_reducible first|refine stp ?_|refine tD rfl ?_)|refine ct ?_|refine cf ?_|((first|refine gs ?_ ?_|refine gl ?_ ?_|refine gc ?_ ?_)<;>intro h<;>(try simp only [NS] at h)<;>(try exact xf)<;>(try refine rn ?_ ?_)))))
  (refine TE.freezeN 3 (by rfl) (by rfl) ?_)
  refine TE.callW (i1) rfl (by rfl) (by rfl) rfl (by rfl) (by (first|exact trivial|((with_reducible refine AllP.go ?_);dsimp only [AllP, appP];repeat' (first|with_reducible rfl|with_reducible exact LeD.refl|refine And.intro ?_ ?_|exact vi|rfl|exact vb|exact trivial|(refine LeD.lit rfl ?_)|exact LeX.of_eq rfl|exact LeX.nil rfl|(refine LeX.lit rfl ?_)|refine nth1x ?_|refine nth2x ?_ ?_|refine nth3x ?_ ?_ ?_|refine nth4x ?_ ?_ ?_ ?_|exact LeD.refl)))) ?_
  intro _ _
  ((refine rn ?_ ?_);(repeat' (first|(with_reducible refine AllP.go ?_;first|exact og|((try simp only [OS]);repeat' (first|exact oj|refine And.intro ?_ ?_)))|(refine rg ?_ ?_)|(with_reducible first|refine stp ?_|refine tD rfl ?_)|refine ct ?_|refine cf ?_|((first|refine gs ?_ ?_|refine gl ?_ ?_|refine gc ?_ ?_)<;>intro h<;>(try simp only [NS] at h)<;>(try exact xf)<;>(try refine rn ?_ ?_)))))
  (refine TE.freezeN 4 (by rfl) (by rfl) ?_)
  refine TE.callW (i2) rfl (by rfl) (by rfl) rfl (by rfl) (by (first|exact trivial|((with_reducible refine AllP.go ?_);dsimp only [AllP, appP];repeat' (first|with_reducible rfl|with_reducible exact LeD.refl|refine And.intro ?_ ?_|exact vi|rfl|exact vb|exact trivial|(refine LeD.lit rfl ?_)|exact LeX.of_eq rfl|exact LeX.nil rfl|(refine LeX.lit rfl ?_)|refine nth1x ?_|refine nth2x ?_ ?_|refine nth3x ?_ ?_ ?_|refine nth4x ?_ ?_ ?_ ?_|exact LeD.refl)))) ?_
  intro _ _
  ((refine rn ?_ ?_);(repeat' (first|(with_reducible refine AllP.go ?_;first|exact og|((try simp only [OS]);repeat' (first|exact oj|refine And.intro ?_ ?_)))|(refine rg ?_ ?_)|(with_reducible first|refine stp ?_|refine tD rfl ?_)|refine ct ?_|refine cf ?_|((first|refine gs ?_ ?_|refine gl ?_ ?_|refine gc ?_ ?_)<;>intro h<;>(try simp only [NS] at h)<;>(try exact xf)<;>(try refine rn ?_ ?_)))))
  (refine TE.freezeN 5 (by rfl) (by rfl) ?_)
  refine TE.callW (i3) rfl (by rfl) (by rfl) rfl (by rfl) (by (first|exact trivial|((with_reducible refine AllP.go ?_);dsimp only [AllP, appP];repeat' (first|with_reducible rfl|with_reducible exact LeD.refl|refine And.intro ?_ ?_|exact vi|rfl|exact vb|exact trivial|(refine LeD.lit rfl ?_)|exact LeX.of_eq rfl|exact LeX.nil rfl|(refine LeX.lit rfl ?_)|refine nth1x ?_|refine nth2x ?_ ?_|refine nth3x ?_ ?_ ?_|refine nth4x ?_ ?_ ?_ ?_|exact LeD.refl)))) ?_
  intro _ _
  ((refine rn ?_ ?_);repeat' (first|(with_reducible refine AllP.go ?_;first|exact og|((try simp only [OS]);repeat' (first|exact oj|refine And.intro ?_ ?_)))|(with_reducible first|refine stp ?_|refine tD rfl ?_)|refine ct ?_|refine cf ?_|((first|refine gs ?_ ?_|refine gl ?_ ?_|refine gc ?_ ?_)<;>intro h<;>(try simp only [NS] at h)<;>(try exact xf)<;>(try refine rn ?_ ?_))))
  refine TE.thaw L 1 (by repeat (first | exact List.mem_cons_self .. | refine List.mem_cons_of_mem _ ?_)) (by rfl) ?_
  (refine TE.only [1, 0] (by rfl) ?_)
  have hlen : exL.length = 6 := rfl
  have c6 := checkB_c exA (by decide) exA_ok
  have c7 := checkB_c exB (by decide) exB_ok
  rw [ex_a] at c6
  rw [ex_b] at c7
  have hA : LeDC 10 (setC (bnC exL) (Int.toNat 3) 9 (.sl 1 (litC [[DC.c (.string ⟨#[100]⟩)]]).n (litC [[DC.c (.string ⟨#[100]⟩)]]).cell)) (bnC exA) := bn_setR (by decide) (by (refine LeX.lit rfl ?_; repeat' (first | exact trivial | exact LeX.of_eq rfl | exact LeX.nil rfl | (refine LeX.lit rfl ?_) | refine nth1x ?_ | refine nth2x ?_ ?_ | refine nth3x ?_ ?_ ?_ | refine nth4x ?_ ?_ ?_ ?_ | refine And.intro ?_ ?_)))
  have hB : LeDC 10 (setC (bnC exL) (Int.toNat 1) 9 (.sl 1 (litC [[DC.c (.string ⟨#[113]⟩)]]).n (litC [[DC.c (.string ⟨#[113]⟩)]]).cell)) (bnC exB) := bn_setR (by decide) (by (refine LeX.lit rfl ?_; repeat' (first | exact trivial | exact LeX.of_eq rfl | exact LeX.nil rfl | (refine LeX.lit rfl ?_) | refine nth1x ?_ | refine nth2x ?_ ?_ | refine nth3x ?_ ?_ ?_ | refine nth4x ?_ ?_ ?_ ?_ | refine And.intro ?_ ?_)))
  (repeat' (first|(with_reducible refine AllP.go ?_;first|exact og|((try simp only [OS]);repeat' (first|exact oj|refine And.intro ?_ ?_)))|(refine rg ?_ ?_)|(with_reducible first|refine stp ?_|refine tD rfl ?_)|refine ct ?_|refine cf ?_|((first|refine gs ?_ ?_|refine gl ?_ ?_|refine gc ?_ ?_)<;>intro h<;>(try simp only [NS] at h)<;>(try exact xf)<;>(try refine rn ?_ ?_))))
  (refine TE.freezeN 7 (by rfl) (by rfl) ?_)
  ((refine rn ?_ ?_);(repeat' (first|(with_reducible refine AllP.go ?_;first|exact og|((try simp only [OS]);repeat' (first|exact oj|refine And.intro ?_ ?_)))|(refine rg ?_ ?_)|(with_reducible first|refine stp ?_|refine tD rfl ?_)|refine ct ?_|refine cf ?_|((first|refine gs ?_ ?_|refine gl ?_ ?_|refine gc ?_ ?_)<;>intro h<;>(try simp only [NS] at h)<;>(try exact xf)<;>(try refine rn ?_ ?_)))))
  (refine TE.freezeN 6 (by rfl) (by rfl) ?_)
  refine TE.callW (c6) rfl (by rfl) (by rfl) rfl (by rfl) ?_ ?_
  · refine AllP.go ?_
    refine And.intro rfl ?_
    exact hA
  intro _ _
  ((refine rn ?_ ?_);(repeat' (first|(with_reducible refine AllP.go ?_;first|exact og|((try simp only [OS]);repeat' (first|exact oj|refine And.intro ?_ ?_)))|(refine rg ?_ ?_)|(with_reducible first|refine stp ?_|refine tD rfl ?_)|refine ct ?_|refine cf ?_|((first|refine gs ?_ ?_|refine gl ?_ ?_|refine gc ?_ ?_)<;>intro h<;>(try simp only [NS] at h)<;>(try exact xf)<;>(try refine rn ?_ ?_)))))
  refine TE.callW (example_c) rfl (by rfl) (by rfl) rfl (by rfl) (by (first|exact trivial|((with_reducible refine AllP.go ?_);dsimp only [AllP, appP];repeat' (first|refine And.intro ?_ ?_|exact zz|assumption)))) ?_
  intro _ _
  ((refine rn ?_ ?_);(repeat' (first|(with_reducible refine AllP.go ?_;first|exact og|((try simp only [OS]);repeat' (first|exact oj|refine And.intro ?_ ?_)))|(refine rg ?_ ?_)|(with_reducible first|refine stp ?_|refine tD rfl ?_)|refine ct ?_|refine cf ?_|((first|refine gs ?_ ?_|refine gl ?_ ?_|refine gc ?_ ?_)<;>intro h<;>(try simp only [NS] at h)<;>(try exact xf)<;>(try refine rn ?_ ?_)))))
  (refine TE.freezeN 9 (by rfl) (by rfl) ?_)
  ((refine rn ?_ ?_);(repeat' (first|(with_reducible refine AllP.go ?_;first|exact og|((try simp only [OS]);repeat' (first|exact oj|refine And.intro ?_ ?_)))|(refine rg ?_ ?_)|(with_reducible first|refine stp ?_|refine tD rfl ?_)|refine ct ?_|refine cf ?_|((first|refine gs ?_ ?_|refine gl ?_ ?_|refine gc ?_ ?_)<;>intro h<;>(try simp only [NS] at h)<;>(try exact xf)<;>(try refine rn ?_ ?_)))))
  (refine TE.freezeN 8 (by rfl) (by rfl) ?_)
  refine TE.callW (c7) rfl (by rfl) (by rfl) rfl (by rfl) ?_ ?_
  · refine AllP.go ?_
    refine And.intro rfl ?_
    exact hB
  intro _ _
  ((refine rn ?_ ?_);(repeat' (first|(with_reducible refine AllP.go ?_;first|exact og|((try simp only [OS]);repeat' (first|exact oj|refine And.intro ?_ ?_)))|(refine rg ?_ ?_)|(with_reducible first|refine stp ?_|refine tD rfl ?_)|refine ct ?_|refine cf ?_|((first|refine gs ?_ ?_|refine gl ?_ ?_|refine gc ?_ ?_)<;>intro h<;>(try simp only [NS] at h)<;>(try exact xf)<;>(try refine rn ?_ ?_)))))
  (refine TE.ret' io rfl tysOk (()) ?_ rfl (by rfl) ?_;all_goals (try (first|exact trivial|((with_reducible refine AllP.go ?_);dsimp only [AllP, appP];repeat' (first|refine And.intro ?_ ?_|exact zz)))))
end Go.Proofs.Ythhpofehcnjmmaa.Am
set_option linter.unusedSimpArgs false
set_option linter.unusedVariables false
namespace Go.Proofs.Ythhpofehcnjmmaa.Am
open Go.RowKit Lw
open Br
def smB (x : Bn) : Prop := (x.nd.attrs.length ≤ 10 ∧ x.red.length ≤ 12 ∧ x.nd.name.size ≤ 1000 ∧ x.nd.data.size ≤ 1000) ∧ (∀ j, j < x.nd.attrs.length → (x.nd.attrs.getD j At.d0).1.size ≤ 1000 ∧ (x.nd.attrs.getD j At.d0).2.size ≤ 1000) ∧ ∀ j, j < x.red.length → (x.red.getD j eS).size ≤ 1000
def smL (l : List Bn) : Prop := l.length ≤ 130 ∧ ∀ j, j < l.length → smB (l.getD j b0)
set_option maxRecDepth 20000 in
set_option maxHeartbeats 4000000 in
theorem large_c (l : List Bn) : Con Try.prog 11 [.o (.ro 10 l.length (bnC l).cell)] [] 0 0 (fun r : Bool => r = false → smL l) (fun r => .o (.c (.bool r))) (fun _ => []) := by
  refine con_of Try.func11 rfl (by kernel_rfl) Try.ntmps11 rfl (by first | exact Nat.zero_le _ | decide) (fun _ => ⟨rfl, rfl⟩) fun w S ν => ?_
  (repeat' (first|(with_reducible refine AllP.go ?_;first|exact og|((try simp only [OS]);repeat' (first|exact oj|refine And.intro ?_ ?_)))|(refine rg ?_ ?_)|(with_reducible first|refine stp ?_|refine tD rfl ?_)|refine ct ?_|refine cf ?_|((first|refine gs ?_ ?_|refine gl ?_ ?_|refine gc ?_ ?_)<;>intro h<;>(try simp only [NS] at h)<;>(try exact xf)<;>(try refine rn ?_ ?_))))
  refine TE.loopG (fun q : Nat => q ≤ l.length ∧ q ≤ 150 ∧ ∀ j, j < q → smB (l.getD j b0)) (fun q => [(3, .o (.c (.int .i64 q)))]) [] (fun _ => []) (fun q => l.length - q) 0 (by rfl) ⟨Nat.zero_le _, Nat.zero_le _, fun j hj => absurd hj (Nat.not_lt_zero _)⟩ ?_ ?_
  · (refine Ent.of rfl rfl (by rfl) ?_;(try (first|exact trivial|((with_reducible refine AllP.go ?_);dsimp only [AllP, appP];repeat' (first|refine And.intro ?_ ?_|exact zz)))))
  rintro q ⟨h1, h2, h3⟩
  by_cases hlt : q < l.length ∧ q < 150
  · obtain ⟨hlt, h150⟩ := hlt
    by_cases hb : (l.getD q b0).nd.attrs.length ≤ 10 ∧ (l.getD q b0).red.length ≤ 12 ∧ (l.getD q b0).nd.name.size ≤ 1000 ∧ (l.getD q b0).nd.data.size ≤ 1000
    · have hb' := hb
      obtain ⟨b1, b2, b3, b4⟩ := hb'
      (repeat' (first|(with_reducible refine AllP.go ?_;first|exact og|((try simp only [OS]);repeat' (first|exact oj|refine And.intro ?_ ?_)))|(refine rg ?_ ?_)|(with_reducible first|refine stp ?_|refine tD rfl ?_)|refine ct ?_|refine cf ?_|((first|refine gs ?_ ?_|refine gl ?_ ?_|refine gc ?_ ?_)<;>intro h<;>(try simp only [NS] at h)<;>(try exact xf)<;>(try refine rn ?_ ?_))))
      refine TE.loopG (fun j : Nat => j ≤ (l.getD q b0).nd.attrs.length ∧ ∀ i, i < j → ((l.getD q b0).nd.attrs.getD i At.d0).1.size ≤ 1000 ∧ ((l.getD q b0).nd.attrs.getD i At.d0).2.size ≤ 1000) (fun j => [(5, .o (.c (.int .i64 j)))]) [] (fun _ => []) (fun j => (l.getD q b0).nd.attrs.length - j) 0 (by rfl) ⟨Nat.zero_le _, fun j hj => absurd hj (Nat.not_lt_zero _)⟩ ?_ ?_
      · (refine Ent.of rfl rfl (by rfl) ?_;(try (first|exact trivial|((with_reducible refine AllP.go ?_);dsimp only [AllP, appP];repeat' (first|refine And.intro ?_ ?_|exact zz)))))
      rintro j ⟨h4, h5⟩
      by_cases hj : j < (l.getD q b0).nd.attrs.length
      · by_cases hc : ((l.getD q b0).nd.attrs.getD j At.d0).1.size ≤ 1000 ∧ ((l.getD q b0).nd.attrs.getD j At.d0).2.size ≤ 1000
        · have hc' := hc
          obtain ⟨c1, c2⟩ := hc'
          (repeat' (first|(with_reducible refine AllP.go ?_;first|exact og|((try simp only [OS]);repeat' (first|exact oj|refine And.intro ?_ ?_)))|(refine rg ?_ ?_)|(with_reducible first|refine stp ?_|refine tD rfl ?_)|refine ct ?_|refine cf ?_|((first|refine gs ?_ ?_|refine gl ?_ ?_|refine gc ?_ ?_)<;>intro h<;>(try simp only [NS] at h)<;>(try exact xf)<;>(try refine rn ?_ ?_))))
          refine TE.again' (j + 1) ⟨by omega, fun i hi => ?_⟩ (by omega) ?_
          · rcases Nat.lt_or_ge i j with h6 | h6
            · exact h5 i h6
            · obtain rfl : i = j := by omega
              exact hc
          · (refine Ent.of rfl rfl (by rfl) ?_;(try (first|exact trivial|((with_reducible refine AllP.go ?_);dsimp only [AllP, appP];repeat' (first|refine And.intro ?_ ?_|exact zz)))))
        · (repeat' (first|(with_reducible refine AllP.go ?_;first|exact og|((try simp only [OS]);repeat' (first|exact oj|refine And.intro ?_ ?_)))|(refine rg ?_ ?_)|(with_reducible first|refine stp ?_|refine tD rfl ?_)|refine ct ?_|refine cf ?_|((first|refine gs ?_ ?_|refine gl ?_ ?_|refine gc ?_ ?_)<;>intro h<;>(try simp only [NS] at h)<;>(try exact xf)<;>(try refine rn ?_ ?_))))
          all_goals
            (refine TE.ret' io rfl tysOk (true) ?_ rfl (by rfl) ?_;all_goals (try (first|exact trivial|((with_reducible refine AllP.go ?_);dsimp only [AllP, appP];repeat' (first|refine And.intro ?_ ?_|exact zz)))))
            intro h
            cases h
      · obtain rfl : j = (l.getD q b0).nd.attrs.length := by omega
        (repeat' (first|(with_reducible refine AllP.go ?_;first|exact og|((try simp only [OS]);repeat' (first|exact oj|refine And.intro ?_ ?_)))|(refine rg ?_ ?_)|(with_reducible first|refine stp ?_|refine tD rfl ?_)|refine ct ?_|refine cf ?_|((first|refine gs ?_ ?_|refine gl ?_ ?_|refine gc ?_ ?_)<;>intro h<;>(try simp only [NS] at h)<;>(try exact xf)<;>(try refine rn ?_ ?_))))
        refine TE.loopG (fun j : Nat => j ≤ (l.getD q b0).red.length ∧ ∀ i, i < j → ((l.getD q b0).red.getD i eS).size ≤ 1000) (fun j => [(6, .o (.c (.int .i64 j)))]) [] (fun _ => []) (fun j => (l.getD q b0).red.length - j) 0 (by rfl) ⟨Nat.zero_le _, fun j hj => absurd hj (Nat.not_lt_zero _)⟩ ?_ ?_
        · (refine Ent.of rfl rfl (by rfl) ?_;(try (first|exact trivial|((with_reducible refine AllP.go ?_);dsimp only [AllP, appP];repeat' (first|refine And.intro ?_ ?_|exact zz)))))
        rintro j ⟨h6, h7⟩
        by_cases hj : j < (l.getD q b0).red.length
        · by_cases hc : ((l.getD q b0).red.getD j eS).size ≤ 1000
          · (repeat' (first|(with_reducible refine AllP.go ?_;first|exact og|((try simp only [OS]);repeat' (first|exact oj|refine And.intro ?_ ?_)))|(refine rg ?_ ?_)|(with_reducible first|refine stp ?_|refine tD rfl ?_)|refine ct ?_|refine cf ?_|((first|refine gs ?_ ?_|refine gl ?_ ?_|refine gc ?_ ?_)<;>intro h<;>(try simp only [NS] at h)<;>(try exact xf)<;>(try refine rn ?_ ?_))))
            refine TE.again' (j + 1) ⟨by omega, fun i hi => ?_⟩ (by omega) ?_
            · rcases Nat.lt_or_ge i j with h8 | h8
              · exact h7 i h8
              · obtain rfl : i = j := by omega
                exact hc
            · (refine Ent.of rfl rfl (by rfl) ?_;(try (first|exact trivial|((with_reducible refine AllP.go ?_);dsimp only [AllP, appP];repeat' (first|refine And.intro ?_ ?_|exact zz)))))
          · (repeat' (first|(with_reducible refine AllP.go ?_;first|exact og|((try simp only [OS]);repeat' (first|exact oj|refine And.intro ?_ ?_)))|(refine rg ?_ ?_)|(with_reducible first|refine stp ?_|refine tD rfl ?_)|refine ct ?_|refine cf ?_|((first|refine gs ?_ ?_|refine gl ?_ ?_|refine gc ?_ ?_)<;>intro h<;>(try simp only [NS] at h)<;>(try exact xf)<;>(try refine rn ?_ ?_))))
            all_goals
              (refine TE.ret' io rfl tysOk (true) ?_ rfl (by rfl) ?_;all_goals (try (first|exact trivial|((with_reducible refine AllP.go ?_);dsimp only [AllP, appP];repeat' (first|refine And.intro ?_ ?_|exact zz)))))
              intro h
              cases h
        · obtain rfl : j = (l.getD q b0).red.length := by omega
          (repeat' (first|(with_reducible refine AllP.go ?_;first|exact og|((try simp only [OS]);repeat' (first|exact oj|refine And.intro ?_ ?_)))|(refine rg ?_ ?_)|(with_reducible first|refine stp ?_|refine tD rfl ?_)|refine ct ?_|refine cf ?_|((first|refine gs ?_ ?_|refine gl ?_ ?_|refine gc ?_ ?_)<;>intro h<;>(try simp only [NS] at h)<;>(try exact xf)<;>(try refine rn ?_ ?_))))
          refine TE.again' (q + 1) ⟨by omega, by omega, fun i hi => ?_⟩ (by omega) ?_
          · rcases Nat.lt_or_ge i q with h8 | h8
            · exact h3 i h8
            · obtain rfl : i = q := by omega
              exact ⟨hb, h5, h7⟩
          · (refine Ent.of rfl rfl (by rfl) ?_;(try (first|exact trivial|((with_reducible refine AllP.go ?_);dsimp only [AllP, appP];repeat' (first|refine And.intro ?_ ?_|exact zz)))))
    · (repeat' (first|(with_reducible refine AllP.go ?_;first|exact og|((try simp only [OS]);repeat' (first|exact oj|refine And.intro ?_ ?_)))|(refine rg ?_ ?_)|(with_reducible first|refine stp ?_|refine tD rfl ?_)|refine ct ?_|refine cf ?_|((first|refine gs ?_ ?_|refine gl ?_ ?_|refine gc ?_ ?_)<;>intro h<;>(try simp only [NS] at h)<;>(try exact xf)<;>(try refine rn ?_ ?_))))
      all_goals
        (refine TE.ret' io rfl tysOk (true) ?_ rfl (by rfl) ?_;all_goals (try (first|exact trivial|((with_reducible refine AllP.go ?_);dsimp only [AllP, appP];repeat' (first|refine And.intro ?_ ?_|exact zz)))))
        intro h
        cases h
  · (repeat' (first|(with_reducible refine AllP.go ?_;first|exact og|((try simp only [OS]);repeat' (first|exact oj|refine And.intro ?_ ?_)))|(refine rg ?_ ?_)|(with_reducible first|refine stp ?_|refine tD rfl ?_)|refine ct ?_|refine cf ?_|((first|refine gs ?_ ?_|refine gl ?_ ?_|refine gc ?_ ?_)<;>intro h<;>(try simp only [NS] at h)<;>(try exact xf)<;>(try refine rn ?_ ?_))))
    all_goals
      (refine TE.ret' io rfl tysOk (decide (130 < (l.length : Int))) ?_ rfl (by rfl) ?_;all_goals (try (first|exact trivial|((with_reducible refine AllP.go ?_);dsimp only [AllP, appP];repeat' (first|refine And.intro ?_ ?_|exact zz)))))
      intro h
      have h6 := of_decide_eq_false h
      obtain rfl : q = l.length := by omega
      exact ⟨by omega, h3⟩
theorem sizeI_small {l : List At.At} (h : ∀ j, j < l.length → (l.getD j At.d0).1.size ≤ 1000 ∧ (l.getD j At.d0).2.size ≤ 1000) : At.sizeI l ≤ 2002 * l.length := by
  have h1 : ∀ q, q ≤ l.length → At.sizeI (l.take q) ≤ 2002 * q := by
    intro q
    induction q with
    | zero => intro _; simp [At.sizeI]
    | succ q ih =>
      intro hq
      rw [At.sizeI_snoc (by omega)]
      have h2 := h q (by omega)
      have h3 := ih (by omega)
      omega
  have h4 := h1 l.length (Nat.le_refl _)
  rwa [List.take_length] at h4
theorem sm_ok {l : List Bn} (h : smL l) : l.length ≤ 1000000 ∧ ∀ x ∈ l, okB x := by
  refine ⟨by have := h.1; omega, fun x hx => ?_⟩
  obtain ⟨i, hi, rfl⟩ := List.getElem_of_mem hx
  have h1 := h.2 i hi
  rw [List.getD_eq_getElem?_getD, List.getElem?_eq_getElem hi] at h1
  have h1 : smB l[i] := h1
  obtain ⟨⟨h2, h3, h4, h5⟩, h6, h7⟩ := h1
  refine ⟨⟨by omega, ?_, by omega⟩, by omega, fun s hs => ?_⟩
  · have := sizeI_small h6
    omega
  · obtain ⟨j, hj, rfl⟩ := List.getElem_of_mem hs
    have h8 := h7 j hj
    rw [List.getD_eq_getElem?_getD, List.getElem?_eq_getElem hj] at h8
    exact Nat.le_trans h8 (by decide)
end Go.Proofs.Ythhpofehcnjmmaa.Am
set_option linter.unusedSimpArgs false
set_option linter.unusedVariables false
namespace Go.Proofs.Ythhpofehcnjmmaa.Am
open Go.RowKit Lw
open Br At
def okE (x : En) : Prop := x.name.size ≤ 1000000000 ∧ okN x.node
def okD (d : Di) : Prop := (d.attrs.length ≤ 1000000 ∧ At.sizeI d.attrs ≤ 1000000000) ∧ okP d.red ∧ d.ents.length ≤ 1000000 ∧ ∀ x ∈ d.ents, okE x
section
variable {d : Di} {last : ByteArray} {x : En}
end
end Go.Proofs.Ythhpofehcnjmmaa.Am
set_option linter.unusedSimpArgs false
set_option linter.unusedVariables false
namespace Go.Proofs.Ythhpofehcnjmmaa.Am
open Go.RowKit Lw
open Br
def diR (d : Di) (j : Nat) : DC := match j with
  | 0 => .sl 2 d.attrs.length (atC d.attrs).cell
  | 1 => .c (.bool d.opq)
  | 2 => .sl 1 d.red.length (paC d.red).cell
  | _ => .sl 12 d.ents.length (enC d.ents).cell
abbrev diC (l : List Di) : Ct := listC diR di0 l
def bnD (d : Di) : Bn := ⟨{ n0 with attrs := d.attrs }, false, d.red⟩
def bnE (x : En) : Bn := ⟨{ n0 with name := x.name, attrs := x.node.attrs, data := x.node.data }, false, []⟩
def smE (x : En) : Prop := smB (bnE x) ∧ x.node.name.size ≤ 1000
def smD (d : Di) : Prop := smB (bnD d) ∧ d.ents.length ≤ 300 ∧ ∀ k, k < d.ents.length → smE (d.ents.getD k e0)
theorem smB_ok {x : Bn} (h : smB x) : okB x := by
  obtain ⟨⟨h2, h3, h4, h5⟩, h6, h7⟩ := h
  refine ⟨⟨by omega, ?_, by omega⟩, by omega, fun s hs => ?_⟩
  · have := sizeI_small h6
    omega
  · obtain ⟨j, hj, rfl⟩ := List.getElem_of_mem hs
    have h8 := h7 j hj
    rw [List.getD_eq_getElem?_getD, List.getElem?_eq_getElem hj] at h8
    exact Nat.le_trans h8 (by decide)
theorem smD_ok {d : Di} (h : smD d) : okD d := by
  obtain ⟨h1, h2, h3⟩ := h
  have h4 := smB_ok h1
  refine ⟨⟨h4.1.1, h4.1.2.1⟩, h4.2, by omega, fun x hx => ?_⟩
  obtain ⟨k, hk, rfl⟩ := mem_getD (d := e0) hx
  obtain ⟨g1, g2⟩ := h3 k hk
  have h5 := smB_ok g1
  exact ⟨h5.1.2.2, h5.1.1, h5.1.2.1, by omega⟩
theorem sm_one {x : Bn} (h : smL [x]) : smB x := h.2 0 (Nat.zero_lt_succ 0)
set_option maxRecDepth 20000 in
set_option maxHeartbeats 8000000 in
theorem many_c (l : List Di) : Con Try.prog 32 [.o (.ro 4 l.length (diC l).cell)] [] 0 0 (fun r : Bool => r = false → l.length ≤ 130 ∧ ∀ j, j < l.length → smD (l.getD j di0)) (fun r => .o (.c (.bool r))) (fun _ => []) := by
  refine con_of Try.func32 rfl (by kernel_rfl) Try.ntmps32 rfl (by first | exact Nat.zero_le _ | decide) (fun _ => ⟨rfl, rfl⟩) fun w S ν => ?_
  (repeat' (first|(with_reducible refine AllP.go ?_;first|exact og|((try simp only [OS]);repeat' (first|exact oj|refine And.intro ?_ ?_)))|(refine rg ?_ ?_)|(with_reducible first|refine stp ?_|refine tD rfl ?_)|refine ct ?_|refine cf ?_|((first|refine gs ?_ ?_|refine gl ?_ ?_|refine gc ?_ ?_)<;>intro h<;>(try simp only [NS] at h)<;>(try exact xf)<;>(try refine rn ?_ ?_))))
  refine TE.loopG (fun s : Nat × Nat => s.1 ≤ l.length ∧ s.1 ≤ 150 ∧ s.2 ≤ 400 * s.1 ∧ ∀ j, j < s.1 → smB (bnD (l.getD j di0)) ∧ ((l.getD j di0).ents.length ≤ s.2 ∨ 400 ≤ s.2) ∧ ∀ k, k < (l.getD j di0).ents.length → k < 400 → smE ((l.getD j di0).ents.getD k e0)) (fun s => [(4, .o (.c (.int .i64 s.1))), (3, .o (.c (.int .i64 s.2)))]) [] (fun _ => []) (fun s => l.length - s.1) (0, 0) (by rfl) ⟨Nat.zero_le _, Nat.zero_le _, Nat.zero_le _, fun j hj => absurd hj (Nat.not_lt_zero _)⟩ ?_ ?_
  · (refine Ent.of rfl rfl (by rfl) ?_;(try (first|exact trivial|((with_reducible refine AllP.go ?_);dsimp only [AllP, appP];repeat' (first|refine And.intro ?_ ?_|exact zz)))))
  rintro ⟨q, n⟩ ⟨h1, h2, h3, h4⟩
  dsimp only at h1 h2 h3 h4
  by_cases hlt : q < l.length ∧ q < 150
  · obtain ⟨hlt, h150⟩ := hlt
    have hBR : ∀ (d : Di), RowsOk bnR 10 [[.c (.int .i64 0), .c (.string ⟨#[]⟩), .c (.int .i64 0), .sl 2 d.attrs.length (atC d.attrs).cell, .c (.string ⟨#[]⟩), .c (.int .i64 0), .c (.int .i64 0), .c (.int .i64 0), .c (.bool false), .sl 1 d.red.length (paC d.red).cell]] [bnD d] := fun d => ⟨bn_row (LeX.of_eq rfl) (LeX.of_eq rfl) (LeX.of_eq rfl) (LeX.of_eq rfl) (LeX.of_eq rfl) (LeX.of_eq rfl) (LeX.of_eq rfl) (LeX.of_eq rfl) (LeX.of_eq rfl) (LeX.of_eq rfl), trivial⟩
    have hBE : ∀ (x : En), RowsOk bnR 10 [[.c (.int .i64 0), .c (.string x.name), .c (.int .i64 0), .sl 2 x.node.attrs.length (atC x.node.attrs).cell, .c (.string x.node.data), .c (.int .i64 0), .c (.int .i64 0), .c (.int .i64 0), .c (.bool false), .c (.slice none 0 0)]] [bnE x] := fun x => ⟨bn_row (LeX.of_eq rfl) (LeX.of_eq rfl) (LeX.of_eq rfl) (LeX.of_eq rfl) (LeX.of_eq rfl) (LeX.of_eq rfl) (LeX.of_eq rfl) (LeX.of_eq rfl) (LeX.of_eq rfl) (LeX.nil rfl), trivial⟩
    (repeat' (first|(with_reducible refine AllP.go ?_;first|exact og|((try simp only [OS]);repeat' (first|exact oj|refine And.intro ?_ ?_)))|(refine rg ?_ ?_)|(with_reducible first|refine stp ?_|refine tD rfl ?_)|refine ct ?_|refine cf ?_|((first|refine gs ?_ ?_|refine gl ?_ ?_|refine gc ?_ ?_)<;>intro h<;>(try simp only [NS] at h)<;>(try exact xf)<;>(try refine rn ?_ ?_))))
    (refine TE.drawK (fun _ => false) (by rfl) (by rfl) (by rfl) ?_)
    (repeat' (first|(with_reducible refine AllP.go ?_;first|exact og|((try simp only [OS]);repeat' (first|exact oj|refine And.intro ?_ ?_)))|(with_reducible first|exact PanicOk.body|exact rd.panic|refine PanicOk.then' ?_|refine PanicOk.block ?_|refine PanicOk.jump ?_)|(refine TL.done (by rfl) ?_)|(refine TL.auto tysOk rfl ?_ (by rfl) ?_ ?_)|((refine TL.one (by rfl) ?_);first|(refine sm ?_ ?_)|(refine sp ?_ ?_))|(refine sm ?_ ?_)|(refine sp ?_ ?_)|(refine TL.two (by rfl) ?_ ?_)|(refine TL.three (by rfl) ?_ ?_ ?_)|(refine TL.four (by rfl) ?_ ?_ ?_ ?_)))
    dsimp only
    (simp only [Int.toNat_natCast])
    (refine TL.freezeN 0 (by rfl) (by rfl) ?_)
    (refine TL.one (by rfl) ?_)
    refine StepL.callW (large_c [bnD (l.getD q di0)]) rfl rfl rfl rfl rfl (by rfl) ?_ (by rfl) (by rfl) ?_
    · refine AllP.go ?_
      exact ⟨rfl, LeD.lit rfl (hBR _)⟩
    intro r hr
    (repeat' (first|(with_reducible refine AllP.go ?_;first|exact og|((try simp only [OS]);repeat' (first|exact oj|refine And.intro ?_ ?_)))|(with_reducible first|exact PanicOk.body|exact rd.panic|refine PanicOk.then' ?_|refine PanicOk.block ?_|refine PanicOk.jump ?_)|(refine TL.done (by rfl) ?_)|(refine TL.auto tysOk rfl ?_ (by rfl) ?_ ?_)|(refine sm ?_ ?_)|(refine sp ?_ ?_)|(refine TL.one (by rfl) ?_)|(refine TL.two (by rfl) ?_ ?_)|(refine TL.three (by rfl) ?_ ?_ ?_)|(refine TL.four (by rfl) ?_ ?_ ?_ ?_)))
    cases r
    case true =>
      (repeat' (first|(with_reducible refine AllP.go ?_;first|exact og|((try simp only [OS]);repeat' (first|exact oj|refine And.intro ?_ ?_)))|(refine rg ?_ ?_)|(with_reducible first|refine stp ?_|refine tD rfl ?_)|refine ct ?_|refine cf ?_|((first|refine gs ?_ ?_|refine gl ?_ ?_|refine gc ?_ ?_)<;>intro h<;>(try simp only [NS] at h)<;>(try exact xf)<;>(try refine rn ?_ ?_))))
      (refine TE.ret' io rfl tysOk (true) ?_ rfl (by rfl) ?_;all_goals (try (first|exact trivial|((with_reducible refine AllP.go ?_);dsimp only [AllP, appP];repeat' (first|refine And.intro ?_ ?_|exact zz)))))
      intro h
      cases h
    have hb := sm_one (hr rfl)
    (repeat' (first|(with_reducible refine AllP.go ?_;first|exact og|((try simp only [OS]);repeat' (first|exact oj|refine And.intro ?_ ?_)))|(refine rg ?_ ?_)|(with_reducible first|refine stp ?_|refine tD rfl ?_)|refine ct ?_|refine cf ?_|((first|refine gs ?_ ?_|refine gl ?_ ?_|refine gc ?_ ?_)<;>intro h<;>(try simp only [NS] at h)<;>(try exact xf)<;>(try refine rn ?_ ?_))))
    (refine TE.only [5, 4, 3, 2, 0] (by rfl) ?_)
    refine TE.loopG (fun k : Nat => k ≤ (l.getD q di0).ents.length ∧ k ≤ 400 ∧ ∀ j, j < k → smE ((l.getD q di0).ents.getD j e0)) (fun k => [(5, .o (.c (.int .i64 k))), (3, .o (.c (.int .i64 (n + k : Nat))))]) [] (fun _ => []) (fun k => (l.getD q di0).ents.length - k) 0 (by rfl) ⟨Nat.zero_le _, Nat.zero_le _, fun j hj => absurd hj (Nat.not_lt_zero _)⟩ ?_ ?_
    · (refine Ent.of rfl rfl (by rfl) ?_;(try (first|exact trivial|((with_reducible refine AllP.go ?_);dsimp only [AllP, appP];repeat' (first|refine And.intro ?_ ?_|exact zz)))))
    rintro k ⟨k1, k2, k3⟩
    by_cases hk : k < (l.getD q di0).ents.length ∧ k < 400
    · obtain ⟨hk, hk4⟩ := hk
      (repeat' (first|(with_reducible refine AllP.go ?_;first|exact og|((try simp only [OS]);repeat' (first|exact oj|refine And.intro ?_ ?_)))|(refine rg ?_ ?_)|(with_reducible first|refine stp ?_|refine tD rfl ?_)|refine ct ?_|refine cf ?_|((first|refine gs ?_ ?_|refine gl ?_ ?_|refine gc ?_ ?_)<;>intro h<;>(try simp only [NS] at h)<;>(try exact xf)<;>(try refine rn ?_ ?_))))
      (refine TE.freezeN 2 (by rfl) (by rfl) ?_)
      (simp only [Int.toNat_natCast])
      refine TE.callW (large_c [bnE ((l.getD q di0).ents.getD k e0)]) rfl (by rfl) (by rfl) rfl (by rfl) ?_ ?_
      · refine AllP.go ?_
        exact ⟨rfl, LeD.lit rfl (hBE _)⟩
      intro r hr
      cases r
      case true =>
        ((refine rn ?_ ?_);(repeat' (first|(with_reducible refine AllP.go ?_;first|exact og|((try simp only [OS]);repeat' (first|exact oj|refine And.intro ?_ ?_)))|(refine rg ?_ ?_)|(with_reducible first|refine stp ?_|refine tD rfl ?_)|refine ct ?_|refine cf ?_|((first|refine gs ?_ ?_|refine gl ?_ ?_|refine gc ?_ ?_)<;>intro h<;>(try simp only [NS] at h)<;>(try exact xf)<;>(try refine rn ?_ ?_)))))
        (refine TE.ret' io rfl tysOk (true) ?_ rfl (by rfl) ?_;all_goals (try (first|exact trivial|((with_reducible refine AllP.go ?_);dsimp only [AllP, appP];repeat' (first|refine And.intro ?_ ?_|exact zz)))))
        intro h
        cases h
      have hb2 := sm_one (hr rfl)
      ((refine rn ?_ ?_);(repeat' (first|(with_reducible refine AllP.go ?_;first|exact og|((try simp only [OS]);repeat' (first|exact oj|refine And.intro ?_ ?_)))|(refine rg ?_ ?_)|(with_reducible first|refine stp ?_|refine tD rfl ?_)|refine ct ?_|refine cf ?_|((first|refine gs ?_ ?_|refine gl ?_ ?_|refine gc ?_ ?_)<;>intro h<;>(try simp only [NS] at h)<;>(try exact xf)<;>(try refine rn ?_ ?_)))))
      · (refine TE.ret' io rfl tysOk (true) ?_ rfl (by rfl) ?_;all_goals (try (first|exact trivial|((with_reducible refine AllP.go ?_);dsimp only [AllP, appP];repeat' (first|refine And.intro ?_ ?_|exact zz)))))
        intro h
        cases h
      · refine TE.again' (k + 1) ⟨by omega, by omega, fun j hj => ?_⟩ (by omega) ?_
        · rcases Nat.lt_or_ge j k with h5 | h5
          · exact k3 j h5
          · obtain rfl : j = k := by omega
            exact ⟨hb2, by omega⟩
        · (refine Ent.of rfl rfl (by rfl) ?_;(try (first|exact trivial|((with_reducible refine AllP.go ?_);dsimp only [AllP, appP];repeat' (first|refine And.intro ?_ ?_|exact zz)))))
    · (repeat' (first|(with_reducible refine AllP.go ?_;first|exact og|((try simp only [OS]);repeat' (first|exact oj|refine And.intro ?_ ?_)))|(refine rg ?_ ?_)|(with_reducible first|refine stp ?_|refine tD rfl ?_)|refine ct ?_|refine cf ?_|((first|refine gs ?_ ?_|refine gl ?_ ?_|refine gc ?_ ?_)<;>intro h<;>(try simp only [NS] at h)<;>(try exact xf)<;>(try refine rn ?_ ?_))))
      all_goals refine TE.again' (q + 1, n + k) ⟨by dsimp only; omega, by dsimp only; omega, by dsimp only; omega, fun j hj => ?_⟩ (by dsimp only; omega) ?_
      all_goals first
        | (rcases Nat.lt_or_ge j q with h5 | h5
           · obtain ⟨g1, g2, g3⟩ := h4 j h5
             exact ⟨g1, by dsimp only; omega, g3⟩
           · obtain rfl : j = q := by have : j < q + 1 := hj; omega
             exact ⟨hb, by dsimp only; omega, fun i a b => k3 i (by omega)⟩)
        | (refine Ent.of rfl rfl (by rfl) ?_;(try (first|exact trivial|((with_reducible refine AllP.go ?_);dsimp only [AllP, appP];repeat' (first|refine And.intro ?_ ?_|exact zz)))))
  · (repeat' (first|(with_reducible refine AllP.go ?_;first|exact og|((try simp only [OS]);repeat' (first|exact oj|refine And.intro ?_ ?_)))|(refine rg ?_ ?_)|(with_reducible first|refine stp ?_|refine tD rfl ?_)|refine ct ?_|refine cf ?_|((first|refine gs ?_ ?_|refine gl ?_ ?_|refine gc ?_ ?_)<;>intro h<;>(try simp only [NS] at h)<;>(try exact xf)<;>(try refine rn ?_ ?_))))
    · (refine TE.ret' io rfl tysOk (true) ?_ rfl (by rfl) ?_;all_goals (try (first|exact trivial|((with_reducible refine AllP.go ?_);dsimp only [AllP, appP];repeat' (first|refine And.intro ?_ ?_|exact zz)))))
      intro h
      cases h
    · (refine TE.ret' io rfl tysOk (true) ?_ rfl (by rfl) ?_;all_goals (try (first|exact trivial|((with_reducible refine AllP.go ?_);dsimp only [AllP, appP];repeat' (first|refine And.intro ?_ ?_|exact zz)))))
      intro h
      cases h
    · (refine TE.ret' io rfl tysOk (decide (300 < (n : Int))) ?_ rfl (by rfl) ?_;all_goals (try (first|exact trivial|((with_reducible refine AllP.go ?_);dsimp only [AllP, appP];repeat' (first|refine And.intro ?_ ?_|exact zz)))))
      intro h
      have h6 := of_decide_eq_false h
      obtain rfl : q = l.length := by omega
      refine ⟨by omega, fun j hj => ?_⟩
      obtain ⟨g1, g2, g3⟩ := h4 j hj
      exact ⟨g1, by omega, fun k hk => g3 k hk (by omega)⟩
end Go.Proofs.Ythhpofehcnjmmaa.Am
