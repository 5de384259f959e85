/- The program's reader: numbers, groups, strings. -/
import Derived.Test.YtlbgepgpihklfaaArJ

namespace Go.Proofs.Ytlbgepgpihklfaa.Am
open Go.RowKit Lw
open Rec (RcT)

/-- What a reader's kind leaves: the place. -/
abbrev rdP (k : Nat) (bs : List UInt8) (at_ a' : Nat) : Prop := a' ≤ bs.length ∧ ((Rec.oneD k (bs.drop at_)).1 = 0 → a' = at_ + (Rec.oneD k (bs.drop at_)).2.2)

theorem grpD_err (f z : Nat) (l : List UInt8) (h : (Rec.grpD f z l).1 ≠ 0) : (Rec.grpD f z l).2.1 = 0 := by
  induction f generalizing z l with
  | zero => rfl
  | succ f ih =>
    cases l with
    | nil => rfl
    | cons b r =>
      rw [Rec.grpD] at h ⊢
      split
      · rfl
      · rename_i h1
        rw [if_neg h1] at h
        split
        · rename_i h2
          rw [if_pos h2] at h
          split
          · rfl
          · rename_i h3; rw [if_neg h3] at h; exact absurd rfl h
        · rename_i h2
          rw [if_neg h2] at h
          exact ih _ _ h
set_option maxRecDepth 20000 in
theorem rgroups_c (l wd : Nat) (p g : Value) (bs : List UInt8) (at_ : Nat) (ha : at_ ≤ bs.length) (hb : bs.length ≤ 1000000) : Con Try.prog 36 [.o (.ptr 0 0), .g (kdA l wd p g)] (rdC bs at_ 0) 1 3 (rdP 118 bs at_) (fun _ => .g (rcA (Rec.oneD 118 (bs.drop at_)).2.1)) (fun a' => rdC bs a' (Rec.oneD 118 (bs.drop at_)).1) := by
  refine con_of Try.func36 rfl (by kernel_rfl) Try.ntmps36 rfl (by first | exact Nat.zero_le _ | decide) (fun _ => ⟨rfl, rfl⟩) fun w S ν => ?_
  obtain ⟨G, hG⟩ : ∃ G, G = Rec.grpD 10 0 (bs.drop at_) := ⟨_, rfl⟩
  have hlt : G.2.1 < 18446744073709551616 := by rw [hG]; exact Rec.grpD_lt 10 0 _ (by omega) (by decide)
  have h0 : G.1 ≠ 0 → G.2.1 = 0 := by rw [hG]; exact grpD_err _ _ _
  obtain ⟨C, hC0⟩ : ∃ C, C = Rec.oneD 118 (bs.drop at_) := ⟨_, rfl⟩
  have hC : C = if G.1 ≠ 0 then (G.1, Rec.rcZ, 0) else (0, (UInt64.ofNat G.2.1, ⟨#[]⟩, []), G.2.2) := by
    rw [hC0, hG]; unfold Rec.oneD; rw [if_neg (by decide), if_pos rfl]
  unfold rdP
  rw [← hC0]
  (repeat (first | (refine TE.rgo tysOk rfl (by rfl) (by (first | exact trivial | exact fun i _ => ⟨_, rfl⟩ | exact ⟨fun i _ => ⟨_, rfl⟩, trivial⟩ | (simp only [OS] <;> omega))) ?_) | (with_reducible first | refine t1 ?_ | refine t2 ?_ | refine t3 ?_ | refine t4 ?_ | refine t5 ?_ | refine t6 ?_ | refine t7 ?_ | refine t8 ?_ | refine t9 ?_ | refine tA ?_ | refine tB ?_ | refine tC ?_ | refine tD rfl ?_ | refine tE ?_ | refine tF ?_ | refine tG ?_ | refine tH ?_ | refine tI ?_ | refine tJ ?_ | refine tK ?_ | refine tL ?_) | (refine TE.drawN (by rfl) (by rfl) (by rfl) ?_) | (refine TL.done (by rfl) ?_) | (refine TL.auto tysOk rfl (by (repeat with_reducible first | exact PanicOk.body | exact rd.panic | refine PanicOk.then' ?_ | refine PanicOk.block ?_ | refine PanicOk.jump ?_)) (by rfl) (by (first | exact trivial | exact fun i _ => ⟨_, rfl⟩ | exact ⟨fun i _ => ⟨_, rfl⟩, trivial⟩ | (simp only [OS] <;> omega))) ?_) | (refine TL.one (by rfl) ?_; (refine StepL.mem tysOk rfl rfl rfl rfl (by rfl) (by (first | exact trivial | exact fun i _ => ⟨_, rfl⟩ | exact ⟨fun i _ => ⟨_, rfl⟩, trivial⟩ | (simp only [OS] <;> omega))) (by rfl) ?_)) | refine TE.cond_true (by rfl) ?_ | refine TE.cond_false (by rfl) ?_))
  refine TE.callW (short_c bs at_ ha hb) rfl (by rfl) (by rfl) rfl (by rfl) (by (first | exact trivial | ((with_reducible refine AllP.go ?_); dsimp only [AllP, appP]; repeat' (first | with_reducible rfl | with_reducible exact LeD.refl | refine And.intro ?_ ?_ | (refine congrArg (Value.int _) ?_; first | omega | rfl | (simp only [Int.toNat_natCast]; omega)) | rfl | (refine congrArg Value.bool ?_; assumption) | assumption | exact LeD.refl)))) ?_
  rw [← hG]
  rintro a' ⟨h1, h2⟩
  ((refine TE.run tysOk rfl (by rfl) (by (first | exact trivial | exact fun i _ => ⟨_, rfl⟩ | exact ⟨fun i _ => ⟨_, rfl⟩, trivial⟩ | (simp only [OS] <;> omega))) ?_); repeat (first | (refine TE.rgo tysOk rfl (by rfl) (by (first | exact trivial | exact fun i _ => ⟨_, rfl⟩ | exact ⟨fun i _ => ⟨_, rfl⟩, trivial⟩ | (simp only [OS] <;> omega))) ?_) | (with_reducible first | refine t1 ?_ | refine t2 ?_ | refine t3 ?_ | refine t4 ?_ | refine t5 ?_ | refine t6 ?_ | refine t7 ?_ | refine t8 ?_ | refine t9 ?_ | refine tA ?_ | refine tB ?_ | refine tC ?_ | refine tD rfl ?_ | refine tE ?_ | refine tF ?_ | refine tG ?_ | refine tH ?_ | refine tI ?_ | refine tJ ?_ | refine tK ?_ | refine tL ?_) | (refine TE.drawN (by rfl) (by rfl) (by rfl) ?_) | (refine TL.done (by rfl) ?_) | (refine TL.auto tysOk rfl (by (repeat with_reducible first | exact PanicOk.body | exact rd.panic | refine PanicOk.then' ?_ | refine PanicOk.block ?_ | refine PanicOk.jump ?_)) (by rfl) (by (first | exact trivial | exact fun i _ => ⟨_, rfl⟩ | exact ⟨fun i _ => ⟨_, rfl⟩, trivial⟩ | (simp only [OS] <;> omega))) ?_) | (refine TL.one (by rfl) ?_; (refine StepL.mem tysOk rfl rfl rfl rfl (by rfl) (by (first | exact trivial | exact fun i _ => ⟨_, rfl⟩ | exact ⟨fun i _ => ⟨_, rfl⟩, trivial⟩ | (simp only [OS] <;> omega))) (by rfl) ?_)) | refine TE.cond_true (by rfl) ?_ | refine TE.cond_false (by rfl) ?_))
  by_cases hg : G.1 ≠ 0
  · rw [if_pos hg] at hC
    have hz := h0 hg
    rw [hC, hz]
    (refine TE.ret' (by first | exact .inl rfl | exact .inr rfl) rfl tysOk (a') ?_ rfl (by rfl) ?_; all_goals (try (first | exact trivial | ((with_reducible refine AllP.go ?_); dsimp only [AllP, appP]; repeat' (first | with_reducible rfl | with_reducible exact LeD.refl | refine And.intro ?_ ?_ | (refine congrArg (Value.int _) ?_; first | omega | rfl | (simp only [Int.toNat_natCast]; omega)) | rfl | (refine congrArg Value.bool ?_; assumption) | exact LeD.refl)))))
    exact ⟨h1, fun h => absurd h hg⟩
  · rw [if_neg hg] at hC
    have hg' : G.1 = 0 := Decidable.not_not.1 hg
    have hu : (UInt64.ofNat G.2.1).toNat = G.2.1 := by simp; omega
    rw [hC, hg']
    (refine TE.ret' (by first | exact .inl rfl | exact .inr rfl) rfl tysOk (a') ?_ rfl (by rfl) ?_; all_goals (try (first | exact trivial | ((with_reducible refine AllP.go ?_); dsimp only [AllP, appP]; repeat' (first | with_reducible rfl | with_reducible exact LeD.refl | refine And.intro ?_ ?_ | (refine congrArg (Value.int _) ?_; first | omega | rfl | (simp only [Int.toNat_natCast]; omega)) | rfl | (refine congrArg Value.bool ?_; assumption) | exact LeD.refl)))))
    · exact ⟨h1, fun _ => h2 hg'⟩
    all_goals (refine congrArg (Value.int _) ?_; exact congrArg Int.ofNat hu.symm)

set_option maxRecDepth 20000 in
theorem rnumber_c (k : Nat) (hk : 0 < Rec.widthN k) (p g : Value) (bs : List UInt8) (at_ : Nat) (ha : at_ ≤ bs.length) (hb : bs.length ≤ 1000000) : Con Try.prog 34 [.o (.ptr 0 0), .g (kdA k (Rec.widthN k) p g)] (rdC bs at_ 0) 1 3 (rdP k bs at_) (fun _ => .g (rcA (Rec.oneD k (bs.drop at_)).2.1)) (fun a' => rdC bs a' (Rec.oneD k (bs.drop at_)).1) := by
  refine con_of Try.func34 rfl (by kernel_rfl) Try.ntmps34 rfl (by first | exact Nat.zero_le _ | decide) (fun _ => ⟨rfl, rfl⟩) fun w S ν => ?_
  have hw8 := Rec.widthN_le k
  obtain ⟨C, hC0⟩ : ∃ C, C = Rec.oneD k (bs.drop at_) := ⟨_, rfl⟩
  have hC : C = if (bs.drop at_).length < Rec.widthN k then (10, Rec.rcZ, 0) else (0, (UInt64.ofNat (Rec.leVal ((bs.drop at_).take (Rec.widthN k))), ⟨#[]⟩, []), Rec.widthN k) := by
    rw [hC0]; unfold Rec.oneD; rw [if_pos hk]
  unfold rdP
  rw [← hC0]
  have hdl : (bs.drop at_).length = bs.length - at_ := List.length_drop ..
  (repeat (first | (refine TE.rgo tysOk rfl (by rfl) (by (first | exact trivial | exact fun i _ => ⟨_, rfl⟩ | exact ⟨fun i _ => ⟨_, rfl⟩, trivial⟩ | (simp only [OS] <;> omega))) ?_) | (with_reducible first | refine t1 ?_ | refine t2 ?_ | refine t3 ?_ | refine t4 ?_ | refine t5 ?_ | refine t6 ?_ | refine t7 ?_ | refine t8 ?_ | refine t9 ?_ | refine tA ?_ | refine tB ?_ | refine tC ?_ | refine tD rfl ?_ | refine tE ?_ | refine tF ?_ | refine tG ?_ | refine tH ?_ | refine tI ?_ | refine tJ ?_ | refine tK ?_ | refine tL ?_) | (refine TE.drawN (by rfl) (by rfl) (by rfl) ?_) | (refine TL.done (by rfl) ?_) | (refine TL.auto tysOk rfl (by (repeat with_reducible first | exact PanicOk.body | exact rd.panic | refine PanicOk.then' ?_ | refine PanicOk.block ?_ | refine PanicOk.jump ?_)) (by rfl) (by (first | exact trivial | exact fun i _ => ⟨_, rfl⟩ | exact ⟨fun i _ => ⟨_, rfl⟩, trivial⟩ | (simp only [OS] <;> omega))) ?_) | (refine TL.one (by rfl) ?_; (refine StepL.mem tysOk rfl rfl rfl rfl (by rfl) (by (first | exact trivial | exact fun i _ => ⟨_, rfl⟩ | exact ⟨fun i _ => ⟨_, rfl⟩, trivial⟩ | (simp only [OS] <;> omega))) (by rfl) ?_)) | refine TE.cond_true (by rfl) ?_ | refine TE.cond_false (by rfl) ?_))
  refine TE.callW (take_c bs at_ (Rec.widthN k) 0 ha hb (by omega)) rfl (by rfl) (by rfl) rfl (by rfl) (by (first | exact trivial | ((with_reducible refine AllP.go ?_); dsimp only [AllP, appP]; repeat' (first | with_reducible rfl | with_reducible exact LeD.refl | refine And.intro ?_ ?_ | (refine congrArg (Value.int _) ?_; first | omega | rfl | (simp only [Int.toNat_natCast]; omega)) | rfl | (refine congrArg Value.bool ?_; assumption) | assumption | exact LeD.refl)))) ?_
  intro _ _
  by_cases hlt : bs.length < at_ + Rec.widthN k
  · rw [if_pos (by omega)] at hC
    have hE0 : tkE bs at_ (Rec.widthN k) 0 = 10 := by unfold tkE; rw [if_neg (by omega), if_pos hlt]
    have hA0 : tkA bs at_ (Rec.widthN k) 0 = at_ := by unfold tkA; rw [if_neg (by rw [hE0]; decide)]
    have hR0 : tkR bs at_ (Rec.widthN k) 0 = [] := by unfold tkR; rw [if_neg (by rw [hE0]; decide)]
    rw [hE0, hA0, hR0, hC]
    ((refine TE.run tysOk rfl (by rfl) (by (first | exact trivial | exact fun i _ => ⟨_, rfl⟩ | exact ⟨fun i _ => ⟨_, rfl⟩, trivial⟩ | (simp only [OS] <;> omega))) ?_); repeat (first | (refine TE.rgo tysOk rfl (by rfl) (by (first | exact trivial | exact fun i _ => ⟨_, rfl⟩ | exact ⟨fun i _ => ⟨_, rfl⟩, trivial⟩ | (simp only [OS] <;> omega))) ?_) | (with_reducible first | refine t1 ?_ | refine t2 ?_ | refine t3 ?_ | refine t4 ?_ | refine t5 ?_ | refine t6 ?_ | refine t7 ?_ | refine t8 ?_ | refine t9 ?_ | refine tA ?_ | refine tB ?_ | refine tC ?_ | refine tD rfl ?_ | refine tE ?_ | refine tF ?_ | refine tG ?_ | refine tH ?_ | refine tI ?_ | refine tJ ?_ | refine tK ?_ | refine tL ?_) | (refine TE.drawN (by rfl) (by rfl) (by rfl) ?_) | (refine TL.done (by rfl) ?_) | (refine TL.auto tysOk rfl (by (repeat with_reducible first | exact PanicOk.body | exact rd.panic | refine PanicOk.then' ?_ | refine PanicOk.block ?_ | refine PanicOk.jump ?_)) (by rfl) (by (first | exact trivial | exact fun i _ => ⟨_, rfl⟩ | exact ⟨fun i _ => ⟨_, rfl⟩, trivial⟩ | (simp only [OS] <;> omega))) ?_) | (refine TL.one (by rfl) ?_; (refine StepL.mem tysOk rfl rfl rfl rfl (by rfl) (by (first | exact trivial | exact fun i _ => ⟨_, rfl⟩ | exact ⟨fun i _ => ⟨_, rfl⟩, trivial⟩ | (simp only [OS] <;> omega))) (by rfl) ?_)) | refine TE.cond_true (by rfl) ?_ | refine TE.cond_false (by rfl) ?_))
    refine TE.callW (pvalue_c [] (by simp)) rfl (by rfl) (by rfl) rfl (by rfl) (by (first | exact trivial | ((with_reducible refine AllP.go ?_); dsimp only [AllP, appP]; repeat' (first | with_reducible rfl | with_reducible exact LeD.refl | refine And.intro ?_ ?_ | (refine congrArg (Value.int _) ?_; first | omega | rfl | (simp only [Int.toNat_natCast]; omega)) | rfl | (refine congrArg Value.bool ?_; assumption) | assumption | exact LeD.refl)))) ?_
    intro _ _
    ((refine TE.run tysOk rfl (by rfl) (by (first | exact trivial | exact fun i _ => ⟨_, rfl⟩ | exact ⟨fun i _ => ⟨_, rfl⟩, trivial⟩ | (simp only [OS] <;> omega))) ?_); repeat (first | (refine TE.rgo tysOk rfl (by rfl) (by (first | exact trivial | exact fun i _ => ⟨_, rfl⟩ | exact ⟨fun i _ => ⟨_, rfl⟩, trivial⟩ | (simp only [OS] <;> omega))) ?_) | (with_reducible first | refine t1 ?_ | refine t2 ?_ | refine t3 ?_ | refine t4 ?_ | refine t5 ?_ | refine t6 ?_ | refine t7 ?_ | refine t8 ?_ | refine t9 ?_ | refine tA ?_ | refine tB ?_ | refine tC ?_ | refine tD rfl ?_ | refine tE ?_ | refine tF ?_ | refine tG ?_ | refine tH ?_ | refine tI ?_ | refine tJ ?_ | refine tK ?_ | refine tL ?_) | (refine TE.drawN (by rfl) (by rfl) (by rfl) ?_) | (refine TL.done (by rfl) ?_) | (refine TL.auto tysOk rfl (by (repeat with_reducible first | exact PanicOk.body | exact rd.panic | refine PanicOk.then' ?_ | refine PanicOk.block ?_ | refine PanicOk.jump ?_)) (by rfl) (by (first | exact trivial | exact fun i _ => ⟨_, rfl⟩ | exact ⟨fun i _ => ⟨_, rfl⟩, trivial⟩ | (simp only [OS] <;> omega))) ?_) | (refine TL.one (by rfl) ?_; (refine StepL.mem tysOk rfl rfl rfl rfl (by rfl) (by (first | exact trivial | exact fun i _ => ⟨_, rfl⟩ | exact ⟨fun i _ => ⟨_, rfl⟩, trivial⟩ | (simp only [OS] <;> omega))) (by rfl) ?_)) | refine TE.cond_true (by rfl) ?_ | refine TE.cond_false (by rfl) ?_))
    (refine TE.ret' (by first | exact .inl rfl | exact .inr rfl) rfl tysOk (at_) ?_ rfl (by rfl) ?_; all_goals (try (first | exact trivial | ((with_reducible refine AllP.go ?_); dsimp only [AllP, appP]; repeat' (first | with_reducible rfl | with_reducible exact LeD.refl | refine And.intro ?_ ?_ | (refine congrArg (Value.int _) ?_; first | omega | rfl | (simp only [Int.toNat_natCast]; omega)) | rfl | (refine congrArg Value.bool ?_; assumption) | exact LeD.refl)))))
    exact ⟨ha, fun h => absurd h (by decide)⟩
  · rw [if_neg (by omega)] at hC
    have hE0 : tkE bs at_ (Rec.widthN k) 0 = 0 := by unfold tkE; rw [if_neg (by omega), if_neg hlt]
    have hA0 : tkA bs at_ (Rec.widthN k) 0 = at_ + Rec.widthN k := by unfold tkA; rw [if_pos hE0]
    have hR0 : tkR bs at_ (Rec.widthN k) 0 = (bs.drop at_).take (Rec.widthN k) := by unfold tkR; rw [if_pos hE0]
    have hRl : ((bs.drop at_).take (Rec.widthN k)).length = Rec.widthN k := by rw [List.length_take, hdl]; omega
    rw [hE0, hA0, hR0, hC]
    generalize (bs.drop at_).take (Rec.widthN k) = R at *
    have hv := Rec.leVal_lt R
    have hp : 256 ^ R.length ≤ 256 ^ 8 := Nat.pow_le_pow_right (by decide) (by omega)
    have h64 : (256 : Nat) ^ 8 = 18446744073709551616 := by decide
    have hu : (UInt64.ofNat (Rec.leVal R)).toNat = Rec.leVal R := by simp; omega
    ((refine TE.run tysOk rfl (by rfl) (by (first | exact trivial | exact fun i _ => ⟨_, rfl⟩ | exact ⟨fun i _ => ⟨_, rfl⟩, trivial⟩ | (simp only [OS] <;> omega))) ?_); repeat (first | (refine TE.rgo tysOk rfl (by rfl) (by (first | exact trivial | exact fun i _ => ⟨_, rfl⟩ | exact ⟨fun i _ => ⟨_, rfl⟩, trivial⟩ | (simp only [OS] <;> omega))) ?_) | (with_reducible first | refine t1 ?_ | refine t2 ?_ | refine t3 ?_ | refine t4 ?_ | refine t5 ?_ | refine t6 ?_ | refine t7 ?_ | refine t8 ?_ | refine t9 ?_ | refine tA ?_ | refine tB ?_ | refine tC ?_ | refine tD rfl ?_ | refine tE ?_ | refine tF ?_ | refine tG ?_ | refine tH ?_ | refine tI ?_ | refine tJ ?_ | refine tK ?_ | refine tL ?_) | (refine TE.drawN (by rfl) (by rfl) (by rfl) ?_) | (refine TL.done (by rfl) ?_) | (refine TL.auto tysOk rfl (by (repeat with_reducible first | exact PanicOk.body | exact rd.panic | refine PanicOk.then' ?_ | refine PanicOk.block ?_ | refine PanicOk.jump ?_)) (by rfl) (by (first | exact trivial | exact fun i _ => ⟨_, rfl⟩ | exact ⟨fun i _ => ⟨_, rfl⟩, trivial⟩ | (simp only [OS] <;> omega))) ?_) | (refine TL.one (by rfl) ?_; (refine StepL.mem tysOk rfl rfl rfl rfl (by rfl) (by (first | exact trivial | exact fun i _ => ⟨_, rfl⟩ | exact ⟨fun i _ => ⟨_, rfl⟩, trivial⟩ | (simp only [OS] <;> omega))) (by rfl) ?_)) | refine TE.cond_true (by rfl) ?_ | refine TE.cond_false (by rfl) ?_))
    refine TE.callW (pvalue_c R (by omega)) rfl (by rfl) (by rfl) rfl (by rfl) (by (first | exact trivial | ((with_reducible refine AllP.go ?_); dsimp only [AllP, appP]; repeat' (first | with_reducible rfl | with_reducible exact LeD.refl | refine And.intro ?_ ?_ | (refine congrArg (Value.int _) ?_; first | omega | rfl | (simp only [Int.toNat_natCast]; omega)) | rfl | (refine congrArg Value.bool ?_; assumption) | assumption | exact LeD.refl)))) ?_
    intro _ _
    ((refine TE.run tysOk rfl (by rfl) (by (first | exact trivial | exact fun i _ => ⟨_, rfl⟩ | exact ⟨fun i _ => ⟨_, rfl⟩, trivial⟩ | (simp only [OS] <;> omega))) ?_); repeat (first | (refine TE.rgo tysOk rfl (by rfl) (by (first | exact trivial | exact fun i _ => ⟨_, rfl⟩ | exact ⟨fun i _ => ⟨_, rfl⟩, trivial⟩ | (simp only [OS] <;> omega))) ?_) | (with_reducible first | refine t1 ?_ | refine t2 ?_ | refine t3 ?_ | refine t4 ?_ | refine t5 ?_ | refine t6 ?_ | refine t7 ?_ | refine t8 ?_ | refine t9 ?_ | refine tA ?_ | refine tB ?_ | refine tC ?_ | refine tD rfl ?_ | refine tE ?_ | refine tF ?_ | refine tG ?_ | refine tH ?_ | refine tI ?_ | refine tJ ?_ | refine tK ?_ | refine tL ?_) | (refine TE.drawN (by rfl) (by rfl) (by rfl) ?_) | (refine TL.done (by rfl) ?_) | (refine TL.auto tysOk rfl (by (repeat with_reducible first | exact PanicOk.body | exact rd.panic | refine PanicOk.then' ?_ | refine PanicOk.block ?_ | refine PanicOk.jump ?_)) (by rfl) (by (first | exact trivial | exact fun i _ => ⟨_, rfl⟩ | exact ⟨fun i _ => ⟨_, rfl⟩, trivial⟩ | (simp only [OS] <;> omega))) ?_) | (refine TL.one (by rfl) ?_; (refine StepL.mem tysOk rfl rfl rfl rfl (by rfl) (by (first | exact trivial | exact fun i _ => ⟨_, rfl⟩ | exact ⟨fun i _ => ⟨_, rfl⟩, trivial⟩ | (simp only [OS] <;> omega))) (by rfl) ?_)) | refine TE.cond_true (by rfl) ?_ | refine TE.cond_false (by rfl) ?_))
    (refine TE.ret' (by first | exact .inl rfl | exact .inr rfl) rfl tysOk ((at_ + Rec.widthN k)) ?_ rfl (by rfl) ?_; all_goals (try (first | exact trivial | ((with_reducible refine AllP.go ?_); dsimp only [AllP, appP]; repeat' (first | with_reducible rfl | with_reducible exact LeD.refl | refine And.intro ?_ ?_ | (refine congrArg (Value.int _) ?_; first | omega | rfl | (simp only [Int.toNat_natCast]; omega)) | rfl | (refine congrArg Value.bool ?_; assumption) | exact LeD.refl)))))
    · exact ⟨by omega, fun _ => rfl⟩
    all_goals (refine congrArg (Value.int _) ?_; exact congrArg Int.ofNat hu.symm)

theorem cntD_le (lim : Nat) (l : List UInt8) : (Rec.cntD lim l).2.1 ≤ lim := by
  unfold Rec.cntD; split
  · exact Nat.zero_le _
  · split
    · exact Nat.zero_le _
    · omega
theorem cntD_err (lim : Nat) (l : List UInt8) (h : (Rec.cntD lim l).1 ≠ 0) : (Rec.cntD lim l).2.1 = 0 := by
  unfold Rec.cntD at h ⊢; split
  · rfl
  · rename_i h1
    rw [if_neg h1] at h
    split
    · rfl
    · rename_i h2
      rw [if_neg h2] at h
      exact absurd h h1
set_option maxRecDepth 20000 in
theorem rstr_c (l wd : Nat) (p g : Value) (bs : List UInt8) (at_ : Nat) (ha : at_ ≤ bs.length) (hb : bs.length ≤ 1000000) : Con Try.prog 38 [.o (.ptr 0 0), .g (kdA l wd p g)] (rdC bs at_ 0) 1 3 (rdP 115 bs at_) (fun _ => .g (rcA (Rec.oneD 115 (bs.drop at_)).2.1)) (fun a' => rdC bs a' (Rec.oneD 115 (bs.drop at_)).1) := by
  refine con_of Try.func38 rfl (by kernel_rfl) Try.ntmps38 rfl (by first | exact Nat.zero_le _ | decide) (fun _ => ⟨rfl, rfl⟩) fun w S ν => ?_
  obtain ⟨G, hG⟩ : ∃ G, G = Rec.cntD 400 (bs.drop at_) := ⟨_, rfl⟩
  obtain ⟨C, hC0⟩ : ∃ C, C = Rec.oneD 115 (bs.drop at_) := ⟨_, rfl⟩
  have hdl : (bs.drop at_).length = bs.length - at_ := List.length_drop ..
  have hC : C = if G.1 ≠ 0 then (G.1, Rec.rcZ, 0) else if bs.length - at_ < G.2.2 + G.2.1 then (10, Rec.rcZ, 0) else (0, (0, ⟨(((bs.drop at_).drop G.2.2).take G.2.1).toArray⟩, []), G.2.2 + G.2.1) := by
    rw [hC0, hG, ← hdl]; unfold Rec.oneD; rw [if_neg (by decide), if_neg (by decide), if_pos rfl]
  unfold rdP
  rw [← hC0]
  (repeat (first | (refine TE.rgo tysOk rfl (by rfl) (by (first | exact trivial | exact fun i _ => ⟨_, rfl⟩ | exact ⟨fun i _ => ⟨_, rfl⟩, trivial⟩ | (simp only [OS] <;> omega))) ?_) | (with_reducible first | refine t1 ?_ | refine t2 ?_ | refine t3 ?_ | refine t4 ?_ | refine t5 ?_ | refine t6 ?_ | refine t7 ?_ | refine t8 ?_ | refine t9 ?_ | refine tA ?_ | refine tB ?_ | refine tC ?_ | refine tD rfl ?_ | refine tE ?_ | refine tF ?_ | refine tG ?_ | refine tH ?_ | refine tI ?_ | refine tJ ?_ | refine tK ?_ | refine tL ?_) | (refine TE.drawN (by rfl) (by rfl) (by rfl) ?_) | (refine TL.done (by rfl) ?_) | (refine TL.auto tysOk rfl (by (repeat with_reducible first | exact PanicOk.body | exact rd.panic | refine PanicOk.then' ?_ | refine PanicOk.block ?_ | refine PanicOk.jump ?_)) (by rfl) (by (first | exact trivial | exact fun i _ => ⟨_, rfl⟩ | exact ⟨fun i _ => ⟨_, rfl⟩, trivial⟩ | (simp only [OS] <;> omega))) ?_) | (refine TL.one (by rfl) ?_; (refine StepL.mem tysOk rfl rfl rfl rfl (by rfl) (by (first | exact trivial | exact fun i _ => ⟨_, rfl⟩ | exact ⟨fun i _ => ⟨_, rfl⟩, trivial⟩ | (simp only [OS] <;> omega))) (by rfl) ?_)) | refine TE.cond_true (by rfl) ?_ | refine TE.cond_false (by rfl) ?_))
  refine TE.callW (count_c bs at_ 400 ha hb (by omega)) rfl (by rfl) (by rfl) rfl (by rfl) (by (first | exact trivial | ((with_reducible refine AllP.go ?_); dsimp only [AllP, appP]; repeat' (first | with_reducible rfl | with_reducible exact LeD.refl | refine And.intro ?_ ?_ | (refine congrArg (Value.int _) ?_; first | omega | rfl | (simp only [Int.toNat_natCast]; omega)) | rfl | (refine congrArg Value.bool ?_; assumption) | assumption | exact LeD.refl)))) ?_
  rw [← hG]
  rintro a' ⟨h1, h2⟩
  have hG4 : G.2.1 ≤ 400 := by rw [hG]; exact cntD_le _ _
  have hGe : G.1 ≠ 0 → G.2.1 = 0 := by rw [hG]; exact cntD_err _ _
  ((refine TE.run tysOk rfl (by rfl) (by (first | exact trivial | exact fun i _ => ⟨_, rfl⟩ | exact ⟨fun i _ => ⟨_, rfl⟩, trivial⟩ | (simp only [OS] <;> omega))) ?_); repeat (first | (refine TE.rgo tysOk rfl (by rfl) (by (first | exact trivial | exact fun i _ => ⟨_, rfl⟩ | exact ⟨fun i _ => ⟨_, rfl⟩, trivial⟩ | (simp only [OS] <;> omega))) ?_) | (with_reducible first | refine t1 ?_ | refine t2 ?_ | refine t3 ?_ | refine t4 ?_ | refine t5 ?_ | refine t6 ?_ | refine t7 ?_ | refine t8 ?_ | refine t9 ?_ | refine tA ?_ | refine tB ?_ | refine tC ?_ | refine tD rfl ?_ | refine tE ?_ | refine tF ?_ | refine tG ?_ | refine tH ?_ | refine tI ?_ | refine tJ ?_ | refine tK ?_ | refine tL ?_) | (refine TE.drawN (by rfl) (by rfl) (by rfl) ?_) | (refine TL.done (by rfl) ?_) | (refine TL.auto tysOk rfl (by (repeat with_reducible first | exact PanicOk.body | exact rd.panic | refine PanicOk.then' ?_ | refine PanicOk.block ?_ | refine PanicOk.jump ?_)) (by rfl) (by (first | exact trivial | exact fun i _ => ⟨_, rfl⟩ | exact ⟨fun i _ => ⟨_, rfl⟩, trivial⟩ | (simp only [OS] <;> omega))) ?_) | (refine TL.one (by rfl) ?_; (refine StepL.mem tysOk rfl rfl rfl rfl (by rfl) (by (first | exact trivial | exact fun i _ => ⟨_, rfl⟩ | exact ⟨fun i _ => ⟨_, rfl⟩, trivial⟩ | (simp only [OS] <;> omega))) (by rfl) ?_)) | refine TE.cond_true (by rfl) ?_ | refine TE.cond_false (by rfl) ?_))
  refine TE.callW (take_c bs a' G.2.1 G.1 h1 hb (by omega)) rfl (by rfl) (by rfl) rfl (by rfl) (by (first | exact trivial | ((with_reducible refine AllP.go ?_); dsimp only [AllP, appP]; repeat' (first | with_reducible rfl | with_reducible exact LeD.refl | refine And.intro ?_ ?_ | (refine congrArg (Value.int _) ?_; first | omega | rfl | (simp only [Int.toNat_natCast]; omega)) | rfl | (refine congrArg Value.bool ?_; assumption) | assumption | exact LeD.refl)))) ?_
  intro _ _
  have hstr : ∀ R : List UInt8, (⟨(ctBytes (Ct.mk R.length (bytesC R).cell).n (Ct.mk R.length (bytesC R).cell).cell).toArray⟩ : ByteArray) = ⟨R.toArray⟩ := fun R => congrArg (fun l : List UInt8 => ByteArray.mk l.toArray) (ctBytes_bytesC R)
  by_cases hg : G.1 ≠ 0
  · rw [if_pos hg] at hC
    have hE0 : tkE bs a' G.2.1 G.1 = G.1 := by unfold tkE; rw [if_pos hg]
    have hA0 : tkA bs a' G.2.1 G.1 = a' := by unfold tkA; rw [if_neg (by rw [hE0]; exact hg)]
    have hR0 : tkR bs a' G.2.1 G.1 = [] := by unfold tkR; rw [if_neg (by rw [hE0]; exact hg)]
    rw [hE0, hA0, hR0, hC]
    ((refine TE.run tysOk rfl (by rfl) (by (first | exact trivial | exact fun i _ => ⟨_, rfl⟩ | exact ⟨fun i _ => ⟨_, rfl⟩, trivial⟩ | (simp only [OS] <;> omega))) ?_); repeat (first | (refine TE.rgo tysOk rfl (by rfl) (by (first | exact trivial | exact fun i _ => ⟨_, rfl⟩ | exact ⟨fun i _ => ⟨_, rfl⟩, trivial⟩ | (simp only [OS] <;> omega))) ?_) | (with_reducible first | refine t1 ?_ | refine t2 ?_ | refine t3 ?_ | refine t4 ?_ | refine t5 ?_ | refine t6 ?_ | refine t7 ?_ | refine t8 ?_ | refine t9 ?_ | refine tA ?_ | refine tB ?_ | refine tC ?_ | refine tD rfl ?_ | refine tE ?_ | refine tF ?_ | refine tG ?_ | refine tH ?_ | refine tI ?_ | refine tJ ?_ | refine tK ?_ | refine tL ?_) | (refine TE.drawN (by rfl) (by rfl) (by rfl) ?_) | (refine TL.done (by rfl) ?_) | (refine TL.auto tysOk rfl (by (repeat with_reducible first | exact PanicOk.body | exact rd.panic | refine PanicOk.then' ?_ | refine PanicOk.block ?_ | refine PanicOk.jump ?_)) (by rfl) (by (first | exact trivial | exact fun i _ => ⟨_, rfl⟩ | exact ⟨fun i _ => ⟨_, rfl⟩, trivial⟩ | (simp only [OS] <;> omega))) ?_) | (refine TL.one (by rfl) ?_; (refine StepL.mem tysOk rfl rfl rfl rfl (by rfl) (by (first | exact trivial | exact fun i _ => ⟨_, rfl⟩ | exact ⟨fun i _ => ⟨_, rfl⟩, trivial⟩ | (simp only [OS] <;> omega))) (by rfl) ?_)) | refine TE.cond_true (by rfl) ?_ | refine TE.cond_false (by rfl) ?_))
    (refine TE.ret' (by first | exact .inl rfl | exact .inr rfl) rfl tysOk (a') ?_ rfl (by rfl) ?_; all_goals (try (first | exact trivial | ((with_reducible refine AllP.go ?_); dsimp only [AllP, appP]; repeat' (first | with_reducible rfl | with_reducible exact LeD.refl | refine And.intro ?_ ?_ | (refine congrArg (Value.int _) ?_; first | omega | rfl | (simp only [Int.toNat_natCast]; omega)) | rfl | (refine congrArg Value.bool ?_; assumption) | exact LeD.refl)))))
    exact ⟨h1, fun h => absurd h hg⟩
  · rw [if_neg hg] at hC
    have hg' : G.1 = 0 := Decidable.not_not.1 hg
    have ha' := h2 hg'
    by_cases hlt : bs.length < a' + G.2.1
    · rw [if_pos (by omega)] at hC
      have hE0 : tkE bs a' G.2.1 G.1 = 10 := by unfold tkE; rw [if_neg hg, if_pos hlt]
      have hA0 : tkA bs a' G.2.1 G.1 = a' := by unfold tkA; rw [if_neg (by rw [hE0]; decide)]
      have hR0 : tkR bs a' G.2.1 G.1 = [] := by unfold tkR; rw [if_neg (by rw [hE0]; decide)]
      rw [hE0, hA0, hR0, hC]
      ((refine TE.run tysOk rfl (by rfl) (by (first | exact trivial | exact fun i _ => ⟨_, rfl⟩ | exact ⟨fun i _ => ⟨_, rfl⟩, trivial⟩ | (simp only [OS] <;> omega))) ?_); repeat (first | (refine TE.rgo tysOk rfl (by rfl) (by (first | exact trivial | exact fun i _ => ⟨_, rfl⟩ | exact ⟨fun i _ => ⟨_, rfl⟩, trivial⟩ | (simp only [OS] <;> omega))) ?_) | (with_reducible first | refine t1 ?_ | refine t2 ?_ | refine t3 ?_ | refine t4 ?_ | refine t5 ?_ | refine t6 ?_ | refine t7 ?_ | refine t8 ?_ | refine t9 ?_ | refine tA ?_ | refine tB ?_ | refine tC ?_ | refine tD rfl ?_ | refine tE ?_ | refine tF ?_ | refine tG ?_ | refine tH ?_ | refine tI ?_ | refine tJ ?_ | refine tK ?_ | refine tL ?_) | (refine TE.drawN (by rfl) (by rfl) (by rfl) ?_) | (refine TL.done (by rfl) ?_) | (refine TL.auto tysOk rfl (by (repeat with_reducible first | exact PanicOk.body | exact rd.panic | refine PanicOk.then' ?_ | refine PanicOk.block ?_ | refine PanicOk.jump ?_)) (by rfl) (by (first | exact trivial | exact fun i _ => ⟨_, rfl⟩ | exact ⟨fun i _ => ⟨_, rfl⟩, trivial⟩ | (simp only [OS] <;> omega))) ?_) | (refine TL.one (by rfl) ?_; (refine StepL.mem tysOk rfl rfl rfl rfl (by rfl) (by (first | exact trivial | exact fun i _ => ⟨_, rfl⟩ | exact ⟨fun i _ => ⟨_, rfl⟩, trivial⟩ | (simp only [OS] <;> omega))) (by rfl) ?_)) | refine TE.cond_true (by rfl) ?_ | refine TE.cond_false (by rfl) ?_))
      (refine TE.ret' (by first | exact .inl rfl | exact .inr rfl) rfl tysOk (a') ?_ rfl (by rfl) ?_; all_goals (try (first | exact trivial | ((with_reducible refine AllP.go ?_); dsimp only [AllP, appP]; repeat' (first | with_reducible rfl | with_reducible exact LeD.refl | refine And.intro ?_ ?_ | (refine congrArg (Value.int _) ?_; first | omega | rfl | (simp only [Int.toNat_natCast]; omega)) | rfl | (refine congrArg Value.bool ?_; assumption) | exact LeD.refl)))))
      exact ⟨h1, fun h => absurd h (by decide)⟩
    · rw [if_neg (by omega)] at hC
      have hE0 : tkE bs a' G.2.1 G.1 = 0 := by unfold tkE; rw [if_neg hg, if_neg hlt]
      have hA0 : tkA bs a' G.2.1 G.1 = a' + G.2.1 := by unfold tkA; rw [if_pos hE0]
      have hR0 : tkR bs a' G.2.1 G.1 = ((bs.drop at_).drop G.2.2).take G.2.1 := by unfold tkR; rw [if_pos hE0, List.drop_drop, ← ha']
      rw [hE0, hA0, hR0, hC]
      ((refine TE.run tysOk rfl (by rfl) (by (first | exact trivial | exact fun i _ => ⟨_, rfl⟩ | exact ⟨fun i _ => ⟨_, rfl⟩, trivial⟩ | (simp only [OS] <;> omega))) ?_); repeat (first | (refine TE.rgo tysOk rfl (by rfl) (by (first | exact trivial | exact fun i _ => ⟨_, rfl⟩ | exact ⟨fun i _ => ⟨_, rfl⟩, trivial⟩ | (simp only [OS] <;> omega))) ?_) | (with_reducible first | refine t1 ?_ | refine t2 ?_ | refine t3 ?_ | refine t4 ?_ | refine t5 ?_ | refine t6 ?_ | refine t7 ?_ | refine t8 ?_ | refine t9 ?_ | refine tA ?_ | refine tB ?_ | refine tC ?_ | refine tD rfl ?_ | refine tE ?_ | refine tF ?_ | refine tG ?_ | refine tH ?_ | refine tI ?_ | refine tJ ?_ | refine tK ?_ | refine tL ?_) | (refine TE.drawN (by rfl) (by rfl) (by rfl) ?_) | (refine TL.done (by rfl) ?_) | (refine TL.auto tysOk rfl (by (repeat with_reducible first | exact PanicOk.body | exact rd.panic | refine PanicOk.then' ?_ | refine PanicOk.block ?_ | refine PanicOk.jump ?_)) (by rfl) (by (first | exact trivial | exact fun i _ => ⟨_, rfl⟩ | exact ⟨fun i _ => ⟨_, rfl⟩, trivial⟩ | (simp only [OS] <;> omega))) ?_) | (refine TL.one (by rfl) ?_; (refine StepL.mem tysOk rfl rfl rfl rfl (by rfl) (by (first | exact trivial | exact fun i _ => ⟨_, rfl⟩ | exact ⟨fun i _ => ⟨_, rfl⟩, trivial⟩ | (simp only [OS] <;> omega))) (by rfl) ?_)) | refine TE.cond_true (by rfl) ?_ | refine TE.cond_false (by rfl) ?_))
      (refine TE.ret' (by first | exact .inl rfl | exact .inr rfl) rfl tysOk ((a' + G.2.1)) ?_ rfl (by rfl) ?_; all_goals (try (first | exact trivial | ((with_reducible refine AllP.go ?_); dsimp only [AllP, appP]; repeat' (first | with_reducible rfl | with_reducible exact LeD.refl | refine And.intro ?_ ?_ | (refine congrArg (Value.int _) ?_; first | omega | rfl | (simp only [Int.toNat_natCast]; omega)) | rfl | (refine congrArg Value.bool ?_; assumption) | exact LeD.refl)))))
      · exact ⟨by omega, fun _ => by show a' + G.2.1 = at_ + (G.2.2 + G.2.1); omega⟩
      all_goals exact congrArg Value.string (hstr _)
end Go.Proofs.Ytlbgepgpihklfaa.Am
