/- The program's reader: lists. -/
import Derived.Test.YtlbgepgpihklfaaArK
import Derived.Test.YtlbgepgpihklfaaAmL

namespace Go.Proofs.Ytlbgepgpihklfaa.Am
open Go.RowKit Lw
open Rec (RcT)

set_option maxRecDepth 20000 in
theorem chunk_c (n : Nat) (cell : Nat → Nat → DC) : Con Try.prog 48 [.o (.ro 1 n cell), .o (.c (.int .i64 4))] [] 0 2 U (fun _ => .o (.clo 49 [(0, 0), (1, 0)])) (fun _ => [.box 0 23 [.ro 1 n cell], .box 1 3 [.c (.int .i64 4)]]) := by
  refine con_of Try.func48 rfl (by kernel_rfl) Try.ntmps48 rfl (by first | exact Nat.zero_le _ | decide) (fun _ => ⟨rfl, rfl⟩) fun w S ν => ?_
  (repeat' (first | (refine TE.rgo tysOk rfl (by rfl) (by (first | exact trivial | exact fun i _ => ⟨_, rfl⟩ | exact ⟨fun i _ => ⟨_, rfl⟩, trivial⟩ | (simp only [OS] <;> omega))) ?_) | (with_reducible first | refine t1 ?_ | refine t2 ?_ | refine t3 ?_ | refine t4 ?_ | refine t5 ?_ | refine t6 ?_ | refine t7 ?_ | refine t8 ?_ | refine t9 ?_ | refine tA ?_ | refine tB ?_ | refine tC ?_ | refine tD rfl ?_ | refine tE ?_ | refine tF ?_ | refine tG ?_ | refine tH ?_ | refine tI ?_ | refine tJ ?_ | refine tK ?_ | refine tL ?_) | (refine TE.drawN (by rfl) (by rfl) (by rfl) ?_) | (refine TL.done (by rfl) ?_) | (refine TL.auto tysOk rfl (by (repeat with_reducible first | exact PanicOk.body | exact rd.panic | refine PanicOk.then' ?_ | refine PanicOk.block ?_ | refine PanicOk.jump ?_)) (by rfl) (by (first | exact trivial | exact fun i _ => ⟨_, rfl⟩ | exact ⟨fun i _ => ⟨_, rfl⟩, trivial⟩ | (simp only [OS] <;> omega))) ?_) | (refine TL.one (by rfl) ?_; (refine StepL.mem tysOk rfl rfl rfl rfl (by rfl) (by (first | exact trivial | exact fun i _ => ⟨_, rfl⟩ | exact ⟨fun i _ => ⟨_, rfl⟩, trivial⟩ | (simp only [OS] <;> omega))) (by rfl) ?_)) | refine TE.cond_true (by rfl) ?_ | refine TE.cond_false (by rfl) ?_ | ((refine TE.gsplit (by rfl) (by rfl) ?_ ?_ <;> intro h <;> (try simp only [NS] at h) <;> (try (exfalso; first | omega | exact h trivial | exact h))) <;> (refine TE.run tysOk rfl (by rfl) (by (first | exact trivial | exact fun i _ => ⟨_, rfl⟩ | exact ⟨fun i _ => ⟨_, rfl⟩, trivial⟩ | (simp only [OS] <;> omega))) ?_)) | ((first | refine TL.gsplit (by rfl) (by rfl) ?_ ?_ | refine TE.cond_split (by rfl) ?_ ?_) <;> intro h <;> (try simp only [NS] at h) <;> (try (exfalso; first | omega | exact h trivial | exact h)))))
  (refine TE.ret' (by first | exact .inl rfl | exact .inr rfl) rfl tysOk (()) ?_ rfl (by rfl) ?_; all_goals (try (first | exact trivial | ((with_reducible refine AllP.go ?_); dsimp only [AllP, appP]; repeat' (first | with_reducible rfl | with_reducible exact LeD.refl | refine And.intro ?_ ?_ | (refine congrArg (Value.int _) ?_; first | omega | rfl | (simp only [Int.toNat_natCast]; omega)) | rfl | (refine congrArg Value.bool ?_; assumption) | exact LeD.refl)))))

/-- The numbers of a list of bytes. -/
def numsI (R : List UInt8) (m : Nat) : List UInt32 := (List.range m).map fun i => UInt32.ofNat (Rec.leVal ((R.drop (4 * i)).take 4))
theorem numsI_len (R : List UInt8) (m : Nat) : (numsI R m).length = m := by simp [numsI]
theorem numsI_snoc (R : List UInt8) (m : Nat) : numsI R (m + 1) = numsI R m ++ [UInt32.ofNat (Rec.leVal ((R.drop (4 * m)).take 4))] := by
  simp [numsI, List.range_succ]

theorem u32_nth {z : Int} {b : UInt32} (h : z = b.toNat) : ∀ j, j < 1 → nthD [.c (.int .u32 z)] j = u32R b j := by
  intro j hj
  obtain rfl : j = 0 := by omega
  subst h; rfl

set_option maxRecDepth 20000 in
theorem rlist_c (l wd : Nat) (p g : Value) (bs : List UInt8) (at_ : Nat) (ha : at_ ≤ bs.length) (hb : bs.length ≤ 1000000) : Con Try.prog 40 [.o (.ptr 0 0), .g (kdA l wd p g)] (rdC bs at_ 0) 1 3 (rdP 108 bs at_) (fun _ => .g (rcA (Rec.oneD 108 (bs.drop at_)).2.1)) (fun a' => rdC bs a' (Rec.oneD 108 (bs.drop at_)).1) := by
  refine con_of Try.func40 rfl (by kernel_rfl) Try.ntmps40 rfl (by first | exact Nat.zero_le _ | decide) (fun _ => ⟨rfl, rfl⟩) fun w S ν => ?_
  obtain ⟨G, hG⟩ : ∃ G, G = Rec.cntD 60 (bs.drop at_) := ⟨_, rfl⟩
  obtain ⟨C, hC0⟩ : ∃ C, C = Rec.oneD 108 (bs.drop at_) := ⟨_, rfl⟩
  have hdl : (bs.drop at_).length = bs.length - at_ := List.length_drop ..
  have hC : C = if G.1 ≠ 0 then (G.1, Rec.rcZ, 0) else if bs.length - at_ < G.2.2 + 4 * G.2.1 then (10, Rec.rcZ, 0) else (0, (0, ⟨#[]⟩, (List.range G.2.1).map fun i => UInt32.ofNat (Rec.leVal (((bs.drop at_).drop (G.2.2 + 4 * i)).take 4))), G.2.2 + 4 * G.2.1) := by
    rw [hC0, hG, ← hdl]; unfold Rec.oneD; rw [if_neg (by decide), if_neg (by decide), if_neg (by decide)]
  unfold rdP
  rw [← hC0]
  (repeat (first | (refine TE.rgo tysOk rfl (by rfl) (by (first | exact trivial | exact fun i _ => ⟨_, rfl⟩ | exact ⟨fun i _ => ⟨_, rfl⟩, trivial⟩ | (simp only [OS] <;> omega))) ?_) | (with_reducible first | refine t1 ?_ | refine t2 ?_ | refine t3 ?_ | refine t4 ?_ | refine t5 ?_ | refine t6 ?_ | refine t7 ?_ | refine t8 ?_ | refine t9 ?_ | refine tA ?_ | refine tB ?_ | refine tC ?_ | refine tD rfl ?_ | refine tE ?_ | refine tF ?_ | refine tG ?_ | refine tH ?_ | refine tI ?_ | refine tJ ?_ | refine tK ?_ | refine tL ?_) | (refine TE.drawN (by rfl) (by rfl) (by rfl) ?_) | (refine TL.done (by rfl) ?_) | (refine TL.auto tysOk rfl (by (repeat with_reducible first | exact PanicOk.body | exact rd.panic | refine PanicOk.then' ?_ | refine PanicOk.block ?_ | refine PanicOk.jump ?_)) (by rfl) (by (first | exact trivial | exact fun i _ => ⟨_, rfl⟩ | exact ⟨fun i _ => ⟨_, rfl⟩, trivial⟩ | (simp only [OS] <;> omega))) ?_) | (refine TL.one (by rfl) ?_; (refine StepL.mem tysOk rfl rfl rfl rfl (by rfl) (by (first | exact trivial | exact fun i _ => ⟨_, rfl⟩ | exact ⟨fun i _ => ⟨_, rfl⟩, trivial⟩ | (simp only [OS] <;> omega))) (by rfl) ?_)) | refine TE.cond_true (by rfl) ?_ | refine TE.cond_false (by rfl) ?_))
  refine TE.callW (count_c bs at_ 60 ha hb (by omega)) rfl (by rfl) (by rfl) rfl (by rfl) (by (first | exact trivial | ((with_reducible refine AllP.go ?_); dsimp only [AllP, appP]; repeat' (first | with_reducible rfl | with_reducible exact LeD.refl | refine And.intro ?_ ?_ | (refine congrArg (Value.int _) ?_; first | omega | rfl | (simp only [Int.toNat_natCast]; omega)) | rfl | (refine congrArg Value.bool ?_; assumption) | assumption | exact LeD.refl)))) ?_
  rw [← hG]
  rintro a' ⟨h1, h2⟩
  have hG4 : G.2.1 ≤ 60 := by rw [hG]; exact cntD_le _ _
  have hGe : G.1 ≠ 0 → G.2.1 = 0 := by rw [hG]; exact cntD_err _ _
  ((refine TE.run tysOk rfl (by rfl) (by (first | exact trivial | exact fun i _ => ⟨_, rfl⟩ | exact ⟨fun i _ => ⟨_, rfl⟩, trivial⟩ | (simp only [OS] <;> omega))) ?_); repeat (first | (refine TE.rgo tysOk rfl (by rfl) (by (first | exact trivial | exact fun i _ => ⟨_, rfl⟩ | exact ⟨fun i _ => ⟨_, rfl⟩, trivial⟩ | (simp only [OS] <;> omega))) ?_) | (with_reducible first | refine t1 ?_ | refine t2 ?_ | refine t3 ?_ | refine t4 ?_ | refine t5 ?_ | refine t6 ?_ | refine t7 ?_ | refine t8 ?_ | refine t9 ?_ | refine tA ?_ | refine tB ?_ | refine tC ?_ | refine tD rfl ?_ | refine tE ?_ | refine tF ?_ | refine tG ?_ | refine tH ?_ | refine tI ?_ | refine tJ ?_ | refine tK ?_ | refine tL ?_) | (refine TE.drawN (by rfl) (by rfl) (by rfl) ?_) | (refine TL.done (by rfl) ?_) | (refine TL.auto tysOk rfl (by (repeat with_reducible first | exact PanicOk.body | exact rd.panic | refine PanicOk.then' ?_ | refine PanicOk.block ?_ | refine PanicOk.jump ?_)) (by rfl) (by (first | exact trivial | exact fun i _ => ⟨_, rfl⟩ | exact ⟨fun i _ => ⟨_, rfl⟩, trivial⟩ | (simp only [OS] <;> omega))) ?_) | (refine TL.one (by rfl) ?_; (refine StepL.mem tysOk rfl rfl rfl rfl (by rfl) (by (first | exact trivial | exact fun i _ => ⟨_, rfl⟩ | exact ⟨fun i _ => ⟨_, rfl⟩, trivial⟩ | (simp only [OS] <;> omega))) (by rfl) ?_)) | refine TE.cond_true (by rfl) ?_ | refine TE.cond_false (by rfl) ?_))
  refine TE.callW (take_c bs a' (4 * G.2.1) G.1 h1 hb (by omega)) rfl (by rfl) (by rfl) rfl (by rfl) (by (first | exact trivial | ((with_reducible refine AllP.go ?_); dsimp only [AllP, appP]; repeat' (first | with_reducible rfl | with_reducible exact LeD.refl | refine And.intro ?_ ?_ | (refine congrArg (Value.int _) ?_; first | omega | rfl | (simp only [Int.toNat_natCast]; omega)) | rfl | (refine congrArg Value.bool ?_; assumption) | assumption | exact LeD.refl)))) ?_
  intro _ _
  obtain ⟨R, hR⟩ : ∃ R, R = tkR bs a' (4 * G.2.1) G.1 := ⟨_, rfl⟩
  rw [← hR]
  obtain ⟨m, hm⟩ : ∃ m, R.length = 4 * m ∧ m ≤ 60 := by
    rw [hR]; unfold tkR
    split
    · rename_i h
      refine ⟨G.2.1, ?_, hG4⟩
      rw [List.length_take, List.length_drop]
      unfold tkE at h
      split at h
      · rename_i h'; exact absurd h h'
      · split at h
        · cases h
        · omega
    · exact ⟨0, rfl, by omega⟩
  obtain ⟨hm, hm60⟩ := hm
  obtain ⟨A0, hA0⟩ : ∃ A0, A0 = tkA bs a' (4 * G.2.1) G.1 := ⟨_, rfl⟩
  obtain ⟨E0, hE0⟩ : ∃ E0, E0 = tkE bs a' (4 * G.2.1) G.1 := ⟨_, rfl⟩
  rw [← hA0, ← hE0]
  have hfin : C.1 = E0 ∧ C.2.1 = (0, ⟨#[]⟩, numsI R m) ∧ A0 ≤ bs.length ∧ (E0 = 0 → A0 = at_ + C.2.2) := by
    by_cases hg : G.1 ≠ 0
    · rw [if_pos hg] at hC
      have hE1 : E0 = G.1 := by rw [hE0]; unfold tkE; rw [if_pos hg]
      have hA1 : A0 = a' := by rw [hA0]; unfold tkA; rw [if_neg (by rw [← hE0, hE1]; exact hg)]
      have hR1 : R = [] := by rw [hR]; unfold tkR; rw [if_neg (by rw [← hE0, hE1]; exact hg)]
      have hm0 : m = 0 := by rw [hR1] at hm; simp at hm; omega
      subst hm0
      rw [hC]
      exact ⟨hE1.symm, rfl, by omega, fun h => absurd h (by rw [hE1]; exact hg)⟩
    · rw [if_neg hg] at hC
      have hg' : G.1 = 0 := Decidable.not_not.1 hg
      have ha' := h2 hg'
      by_cases hlt : bs.length < a' + 4 * G.2.1
      · rw [if_pos (by omega)] at hC
        have hE1 : E0 = 10 := by rw [hE0]; unfold tkE; rw [if_neg hg, if_pos hlt]
        have hA1 : A0 = a' := by rw [hA0]; unfold tkA; rw [if_neg (by rw [← hE0, hE1]; decide)]
        have hR1 : R = [] := by rw [hR]; unfold tkR; rw [if_neg (by rw [← hE0, hE1]; decide)]
        have hm0 : m = 0 := by rw [hR1] at hm; simp at hm; omega
        subst hm0
        rw [hC]
        exact ⟨hE1.symm, rfl, by omega, fun h => absurd h (by rw [hE1]; decide)⟩
      · rw [if_neg (by omega)] at hC
        have hE1 : E0 = 0 := by rw [hE0]; unfold tkE; rw [if_neg hg, if_neg hlt]
        have hA1 : A0 = a' + 4 * G.2.1 := by rw [hA0]; unfold tkA; rw [if_pos (by rw [← hE0, hE1])]
        have hR1 : R = ((bs.drop at_).drop G.2.2).take (4 * G.2.1) := by rw [hR]; unfold tkR; rw [if_pos (by rw [← hE0, hE1]), List.drop_drop, ← ha']
        have hm0 : m = G.2.1 := by
          rw [hR1, List.length_take, List.length_drop, hdl] at hm; omega
        subst hm0
        rw [hC]
        refine ⟨hE1.symm, ?_, by omega, fun _ => by show A0 = at_ + (G.2.2 + 4 * G.2.1); omega⟩
        show (0, _, List.map _ _) = ((0 : UInt64), (⟨#[]⟩ : ByteArray), List.map _ _)
        congr 2
        refine List.map_congr_left fun i hi => ?_
        have := List.mem_range.1 hi
        rw [hR1, List.drop_take, List.take_take, Nat.min_eq_left (by omega), List.drop_drop (i := 4 * i)]
  ((refine TE.run tysOk rfl (by rfl) (by (first | exact trivial | exact fun i _ => ⟨_, rfl⟩ | exact ⟨fun i _ => ⟨_, rfl⟩, trivial⟩ | (simp only [OS] <;> omega))) ?_); refine TE.done ?_; refine TE.thenN ?_)
  (refine TE.seq ?_; (refine TE.rgo tysOk rfl (by rfl) (by (first | exact trivial | exact fun i _ => ⟨_, rfl⟩ | exact ⟨fun i _ => ⟨_, rfl⟩, trivial⟩ | (simp only [OS] <;> omega))) ?_); refine TE.done ?_; refine TE.thenN ?_)
  refine TE.seq ?_
  refine TE.seq ?_
  refine TE.region ?_; refine TE.run tysOk rfl (by rfl) (by (first | exact trivial | exact fun i _ => ⟨_, rfl⟩ | exact ⟨fun i _ => ⟨_, rfl⟩, trivial⟩ | (simp only [OS] <;> omega))) ?_
  refine TE.callW (chunk_c R.length (bytesC R).cell) rfl (by rfl) (by rfl) rfl (by rfl) (by (first | exact trivial | ((with_reducible refine AllP.go ?_); dsimp only [AllP, appP]; repeat' (first | with_reducible rfl | with_reducible exact LeD.refl | refine And.intro ?_ ?_ | (refine congrArg (Value.int _) ?_; first | omega | rfl | (simp only [Int.toNat_natCast]; omega)) | rfl | (refine congrArg Value.bool ?_; assumption) | assumption | exact LeD.refl)))) ?_
  intro _ _
  ((refine TE.run tysOk rfl (by rfl) (by (first | exact trivial | exact fun i _ => ⟨_, rfl⟩ | exact ⟨fun i _ => ⟨_, rfl⟩, trivial⟩ | (simp only [OS] <;> omega))) ?_); refine TE.done ?_; refine TE.thenN ?_)
  refine TE.block ?_
  refine TE.nilBox 3 2 50 1 (by rfl) (by rfl) ?_
  (refine TE.range rfl (by rfl) (by rfl) (by kernel_rfl) (by rfl) (by rfl) rfl ?_)
  intro l' a1 w0 B0 S0 ν0 L
  (repeat (first | (refine TE.rgo tysOk rfl (by rfl) (by (first | exact trivial | exact fun i _ => ⟨_, rfl⟩ | exact ⟨fun i _ => ⟨_, rfl⟩, trivial⟩ | (simp only [OS] <;> omega))) ?_) | (with_reducible first | refine t1 ?_ | refine t2 ?_ | refine t3 ?_ | refine t4 ?_ | refine t5 ?_ | refine t6 ?_ | refine t7 ?_ | refine t8 ?_ | refine t9 ?_ | refine tA ?_ | refine tB ?_ | refine tC ?_ | refine tD rfl ?_ | refine tE ?_ | refine tF ?_ | refine tG ?_ | refine tH ?_ | refine tI ?_ | refine tJ ?_ | refine tK ?_ | refine tL ?_) | (refine TE.drawN (by rfl) (by rfl) (by rfl) ?_) | (refine TL.done (by rfl) ?_) | (refine TL.auto tysOk rfl (by (repeat with_reducible first | exact PanicOk.body | exact rd.panic | refine PanicOk.then' ?_ | refine PanicOk.block ?_ | refine PanicOk.jump ?_)) (by rfl) (by (first | exact trivial | exact fun i _ => ⟨_, rfl⟩ | exact ⟨fun i _ => ⟨_, rfl⟩, trivial⟩ | (simp only [OS] <;> omega))) ?_) | (refine TL.one (by rfl) ?_; (refine StepL.mem tysOk rfl rfl rfl rfl (by rfl) (by (first | exact trivial | exact fun i _ => ⟨_, rfl⟩ | exact ⟨fun i _ => ⟨_, rfl⟩, trivial⟩ | (simp only [OS] <;> omega))) (by rfl) ?_)) | refine TE.cond_true (by rfl) ?_ | refine TE.cond_false (by rfl) ?_))
  refine TE.loop' (fun k : Nat => k ≤ m) (fun k => ⟨[(0, .o (.c (.func (.yield l') #[] #[]))), (1, .o (.ptr 4 0)), (2, .o (.ptr 5 0)), (4, .o (.c (.int .i64 ((4 * k : Nat) : Int))))], .box 3 49 [.c (.int .u64 0), .c (.string ⟨#[]⟩), .own 7] :: .own 7 50 1 (u32C (numsI R k)) :: .box 4 23 [.ro 1 R.length (bytesC R).cell] :: .box 5 3 [.c (.int .i64 4)] :: .box 2 49 [.c (.int .u64 0), .c (.string ⟨#[]⟩), .c (.slice none 0 0)] :: rdC bs A0 E0, 8⟩) (fun k => m - k) 0 (Nat.zero_le _) ?_ ?_
  · (refine Ent.of rfl rfl (by rfl) ?_; (try (first | exact trivial | ((with_reducible refine AllP.go ?_); dsimp only [AllP, appP]; repeat' (first | with_reducible rfl | with_reducible exact LeD.refl | refine And.intro ?_ ?_ | (refine congrArg (Value.int _) ?_; first | omega | rfl | (simp only [Int.toNat_natCast]; omega)) | rfl | (refine congrArg Value.bool ?_; assumption) | exact LeD.refl)))))
    exact LeDC.nil rfl rfl
  intro k hk
  (repeat (first | (refine TE.rgo tysOk rfl (by rfl) (by (first | exact trivial | exact fun i _ => ⟨_, rfl⟩ | exact ⟨fun i _ => ⟨_, rfl⟩, trivial⟩ | (simp only [OS] <;> omega))) ?_) | (with_reducible first | refine t1 ?_ | refine t2 ?_ | refine t3 ?_ | refine t4 ?_ | refine t5 ?_ | refine t6 ?_ | refine t7 ?_ | refine t8 ?_ | refine t9 ?_ | refine tA ?_ | refine tB ?_ | refine tC ?_ | refine tD rfl ?_ | refine tE ?_ | refine tF ?_ | refine tG ?_ | refine tH ?_ | refine tI ?_ | refine tJ ?_ | refine tK ?_ | refine tL ?_) | (refine TE.drawN (by rfl) (by rfl) (by rfl) ?_) | (refine TL.done (by rfl) ?_) | (refine TL.auto tysOk rfl (by (repeat with_reducible first | exact PanicOk.body | exact rd.panic | refine PanicOk.then' ?_ | refine PanicOk.block ?_ | refine PanicOk.jump ?_)) (by rfl) (by (first | exact trivial | exact fun i _ => ⟨_, rfl⟩ | exact ⟨fun i _ => ⟨_, rfl⟩, trivial⟩ | (simp only [OS] <;> omega))) ?_) | (refine TL.one (by rfl) ?_; (refine StepL.mem tysOk rfl rfl rfl rfl (by rfl) (by (first | exact trivial | exact fun i _ => ⟨_, rfl⟩ | exact ⟨fun i _ => ⟨_, rfl⟩, trivial⟩ | (simp only [OS] <;> omega))) (by rfl) ?_)) | refine TE.cond_true (by rfl) ?_ | refine TE.cond_false (by rfl) ?_))
  (refine TE.cond_split (by rfl) ?_ ?_ <;> intro h <;> (try simp only [NS] at h) <;> (try (exfalso; first | omega | exact h trivial | exact h)))
  · (repeat (first | (refine TE.rgo tysOk rfl (by rfl) (by (first | exact trivial | exact fun i _ => ⟨_, rfl⟩ | exact ⟨fun i _ => ⟨_, rfl⟩, trivial⟩ | (simp only [OS] <;> omega))) ?_) | (with_reducible first | refine t1 ?_ | refine t2 ?_ | refine t3 ?_ | refine t4 ?_ | refine t5 ?_ | refine t6 ?_ | refine t7 ?_ | refine t8 ?_ | refine t9 ?_ | refine tA ?_ | refine tB ?_ | refine tC ?_ | refine tD rfl ?_ | refine tE ?_ | refine tF ?_ | refine tG ?_ | refine tH ?_ | refine tI ?_ | refine tJ ?_ | refine tK ?_ | refine tL ?_) | (refine TE.drawN (by rfl) (by rfl) (by rfl) ?_) | (refine TL.done (by rfl) ?_) | (refine TL.auto tysOk rfl (by (repeat with_reducible first | exact PanicOk.body | exact rd.panic | refine PanicOk.then' ?_ | refine PanicOk.block ?_ | refine PanicOk.jump ?_)) (by rfl) (by (first | exact trivial | exact fun i _ => ⟨_, rfl⟩ | exact ⟨fun i _ => ⟨_, rfl⟩, trivial⟩ | (simp only [OS] <;> omega))) ?_) | (refine TL.one (by rfl) ?_; (refine StepL.mem tysOk rfl rfl rfl rfl (by rfl) (by (first | exact trivial | exact fun i _ => ⟨_, rfl⟩ | exact ⟨fun i _ => ⟨_, rfl⟩, trivial⟩ | (simp only [OS] <;> omega))) (by rfl) ?_)) | refine TE.cond_true (by rfl) ?_ | refine TE.cond_false (by rfl) ?_))
    (refine TE.yield L rfl (by rfl) (by rfl) rfl rfl (by rfl) (by rfl) (by rfl) rfl (by rfl) ?_)
    intro Qr w1 B1 S1 ν1 rd
    (repeat (first | (refine TE.rgo tysOk rfl (by rfl) (by (first | exact trivial | exact fun i _ => ⟨_, rfl⟩ | exact ⟨fun i _ => ⟨_, rfl⟩, trivial⟩ | (simp only [OS] <;> omega))) ?_) | (with_reducible first | refine t1 ?_ | refine t2 ?_ | refine t3 ?_ | refine t4 ?_ | refine t5 ?_ | refine t6 ?_ | refine t7 ?_ | refine t8 ?_ | refine t9 ?_ | refine tA ?_ | refine tB ?_ | refine tC ?_ | refine tD rfl ?_ | refine tE ?_ | refine tF ?_ | refine tG ?_ | refine tH ?_ | refine tI ?_ | refine tJ ?_ | refine tK ?_ | refine tL ?_) | (refine TE.drawN (by rfl) (by rfl) (by rfl) ?_) | (refine TL.done (by rfl) ?_) | (refine TL.auto tysOk rfl (by (repeat with_reducible first | exact PanicOk.body | exact rd.panic | refine PanicOk.then' ?_ | refine PanicOk.block ?_ | refine PanicOk.jump ?_)) (by rfl) (by (first | exact trivial | exact fun i _ => ⟨_, rfl⟩ | exact ⟨fun i _ => ⟨_, rfl⟩, trivial⟩ | (simp only [OS] <;> omega))) ?_) | (refine TL.one (by rfl) ?_; (refine StepL.mem tysOk rfl rfl rfl rfl (by rfl) (by (first | exact trivial | exact fun i _ => ⟨_, rfl⟩ | exact ⟨fun i _ => ⟨_, rfl⟩, trivial⟩ | (simp only [OS] <;> omega))) (by rfl) ?_)) | refine TE.cond_true (by rfl) ?_ | refine TE.cond_false (by rfl) ?_))
    refine TE.ent' (st' := ⟨[(6, .o (.ptr 3 0)), (7, .o (.ro 1 ((R.drop (4 * k)).take 4).length (bytesC ((R.drop (4 * k)).take 4)).cell))], .box 3 49 [.c (.int .u64 0), .c (.string ⟨#[]⟩), .own 7] :: .own 7 50 1 (u32C (numsI R k)) :: .box 4 23 [.ro 1 R.length (bytesC R).cell] :: .box 5 3 [.c (.int .i64 4)] :: .box 2 49 [.c (.int .u64 0), .c (.string ⟨#[]⟩), .c (.slice none 0 0)] :: rdC bs A0 E0, 8⟩) ?_ ?_
    · (refine Ent.of rfl rfl (by rfl) ?_; (try (first | exact trivial | ((with_reducible refine AllP.go ?_); dsimp only [AllP, appP]; repeat' (first | with_reducible rfl | with_reducible exact LeD.refl | refine And.intro ?_ ?_ | (refine congrArg (Value.int _) ?_; first | omega | rfl | (simp only [Int.toNat_natCast]; omega)) | rfl | (refine congrArg Value.bool ?_; assumption) | exact LeD.refl)))))
      skip
      have e1 : (((4 * k : Nat) : Int) + min 4 ((((R.length : Int)).toNat - (((4 * k : Nat) : Int)).toNat : Nat) : Int)).toNat - (((4 * k : Nat) : Int)).toNat = 4 := by omega
      rw [e1]
      exact bytes_part R (4 * k) 4 (by omega)
    refine rd.begin ?_
    clear rd
    intro w1 B1 S1 ν1 rd
    have hl4 : ((R.drop (4 * k)).take 4).length = 4 := by rw [List.length_take, List.length_drop]; omega
    have hv4 := Rec.leVal_lt ((R.drop (4 * k)).take 4)
    rw [hl4] at hv4
    have hsn := numsI_snoc R k
    have hnn : (u32C (numsI R k)).n = k := numsI_len R k
    (repeat (first | (refine TE.rgo tysOk rfl (by rfl) (by (first | exact trivial | exact fun i _ => ⟨_, rfl⟩ | exact ⟨fun i _ => ⟨_, rfl⟩, trivial⟩ | (simp only [OS] <;> omega))) ?_) | (with_reducible first | refine t1 ?_ | refine t2 ?_ | refine t3 ?_ | refine t4 ?_ | refine t5 ?_ | refine t6 ?_ | refine t7 ?_ | refine t8 ?_ | refine t9 ?_ | refine tA ?_ | refine tB ?_ | refine tC ?_ | refine tD rfl ?_ | refine tE ?_ | refine tF ?_ | refine tG ?_ | refine tH ?_ | refine tI ?_ | refine tJ ?_ | refine tK ?_ | refine tL ?_) | refine TE.cond_true (by rfl) ?_ | refine TE.cond_false (by rfl) ?_))
    ((refine TE.drawK (fun _ => false) (by rfl) (by rfl) (by rfl) ?_); (repeat' (first | (refine TL.done (by rfl) ?_) | (refine TL.auto tysOk rfl (by (repeat with_reducible first | exact PanicOk.body | exact rd.panic | refine PanicOk.then' ?_ | refine PanicOk.block ?_ | refine PanicOk.jump ?_)) (by rfl) (by (first | exact trivial | exact fun i _ => ⟨_, rfl⟩ | exact ⟨fun i _ => ⟨_, rfl⟩, trivial⟩ | (simp only [OS] <;> omega))) ?_) | (refine StepL.mem tysOk rfl rfl rfl rfl (by rfl) (by (first | exact trivial | exact fun i _ => ⟨_, rfl⟩ | exact ⟨fun i _ => ⟨_, rfl⟩, trivial⟩ | (simp only [OS] <;> omega))) (by rfl) ?_) | (refine StepL.pure tysOk rfl rfl rfl rfl (by rfl) (by (first | exact trivial | exact fun i _ => ⟨_, rfl⟩ | exact ⟨fun i _ => ⟨_, rfl⟩, trivial⟩ | (simp only [OS] <;> omega))) (by rfl) ?_) | (refine TL.one (by rfl) ?_) | (refine TL.branch (by rfl) ?_; refine And.intro ?_ ?_) | (with_reducible refine And.intro ?_ ?_))))
    all_goals (refine StepL.callW (pvalue_c ((R.drop (4 * k)).take 4) (by omega)) rfl rfl rfl rfl rfl (by rfl) (by (first | exact trivial | ((with_reducible refine AllP.go ?_); dsimp only [AllP, appP]; repeat' (first | with_reducible rfl | with_reducible exact LeD.refl | refine And.intro ?_ ?_ | (refine congrArg (Value.int _) ?_; first | omega | rfl | (simp only [Int.toNat_natCast]; omega)) | rfl | (refine congrArg Value.bool ?_; assumption) | assumption | exact LeD.refl)))) (by rfl) (by rfl) ?_; intro _ _; (repeat' (first | (refine TL.done (by rfl) ?_) | (refine TL.auto tysOk rfl (by (repeat with_reducible first | exact PanicOk.body | exact rd.panic | refine PanicOk.then' ?_ | refine PanicOk.block ?_ | refine PanicOk.jump ?_)) (by rfl) (by (first | exact trivial | exact fun i _ => ⟨_, rfl⟩ | exact ⟨fun i _ => ⟨_, rfl⟩, trivial⟩ | (simp only [OS] <;> omega))) ?_) | (refine StepL.mem tysOk rfl rfl rfl rfl (by rfl) (by (first | exact trivial | exact fun i _ => ⟨_, rfl⟩ | exact ⟨fun i _ => ⟨_, rfl⟩, trivial⟩ | (simp only [OS] <;> omega))) (by rfl) ?_) | (refine StepL.pure tysOk rfl rfl rfl rfl (by rfl) (by (first | exact trivial | exact fun i _ => ⟨_, rfl⟩ | exact ⟨fun i _ => ⟨_, rfl⟩, trivial⟩ | (simp only [OS] <;> omega))) (by rfl) ?_) | (refine TL.one (by rfl) ?_) | (refine TL.branch (by rfl) ?_; refine And.intro ?_ ?_) | (with_reducible refine And.intro ?_ ?_))))
    all_goals ((repeat (with_reducible first | refine t1 ?_ | refine t2 ?_ | refine t3 ?_ | refine t4 ?_ | refine t5 ?_ | refine t6 ?_ | refine t7 ?_ | refine t8 ?_ | refine t9 ?_ | refine tA ?_ | refine tB ?_ | refine tC ?_ | refine tD rfl ?_ | refine tE ?_ | refine tF ?_ | refine tG ?_ | refine tH ?_ | refine tI ?_ | refine tJ ?_ | refine tK ?_ | refine tL ?_)); refine rd.normal ?_)
    all_goals ((refine TE.run tysOk rfl (by rfl) (by (first | exact trivial | exact fun i _ => ⟨_, rfl⟩ | exact ⟨fun i _ => ⟨_, rfl⟩, trivial⟩ | (simp only [OS] <;> omega))) ?_); repeat (first | (refine TE.rgo tysOk rfl (by rfl) (by (first | exact trivial | exact fun i _ => ⟨_, rfl⟩ | exact ⟨fun i _ => ⟨_, rfl⟩, trivial⟩ | (simp only [OS] <;> omega))) ?_) | (with_reducible first | refine t1 ?_ | refine t2 ?_ | refine t3 ?_ | refine t4 ?_ | refine t5 ?_ | refine t6 ?_ | refine t7 ?_ | refine t8 ?_ | refine t9 ?_ | refine tA ?_ | refine tB ?_ | refine tC ?_ | refine tD rfl ?_ | refine tE ?_ | refine tF ?_ | refine tG ?_ | refine tH ?_ | refine tI ?_ | refine tJ ?_ | refine tK ?_ | refine tL ?_) | (refine TE.drawN (by rfl) (by rfl) (by rfl) ?_) | (refine TL.done (by rfl) ?_) | (refine TL.auto tysOk rfl (by (repeat with_reducible first | exact PanicOk.body | exact rd.panic | refine PanicOk.then' ?_ | refine PanicOk.block ?_ | refine PanicOk.jump ?_)) (by rfl) (by (first | exact trivial | exact fun i _ => ⟨_, rfl⟩ | exact ⟨fun i _ => ⟨_, rfl⟩, trivial⟩ | (simp only [OS] <;> omega))) ?_) | (refine TL.one (by rfl) ?_; (refine StepL.mem tysOk rfl rfl rfl rfl (by rfl) (by (first | exact trivial | exact fun i _ => ⟨_, rfl⟩ | exact ⟨fun i _ => ⟨_, rfl⟩, trivial⟩ | (simp only [OS] <;> omega))) (by rfl) ?_)) | refine TE.cond_true (by rfl) ?_ | refine TE.cond_false (by rfl) ?_))
    all_goals (refine TE.again' (k + 1) (by omega) (by omega) ?_; (refine Ent.of rfl rfl (by rfl) ?_; (try (first | exact trivial | ((with_reducible refine AllP.go ?_); dsimp only [AllP, appP]; repeat' (first | with_reducible rfl | with_reducible exact LeD.refl | refine And.intro ?_ ?_ | (refine congrArg (Value.int _) ?_; first | omega | rfl | (simp only [Int.toNat_natCast]; omega)) | rfl | (refine congrArg Value.bool ?_; assumption) | exact LeD.refl))))))
    all_goals exact listC_snoc _ hsn (u32_nth (by simp))
  · (repeat (first | (refine TE.rgo tysOk rfl (by rfl) (by (first | exact trivial | exact fun i _ => ⟨_, rfl⟩ | exact ⟨fun i _ => ⟨_, rfl⟩, trivial⟩ | (simp only [OS] <;> omega))) ?_) | (with_reducible first | refine t1 ?_ | refine t2 ?_ | refine t3 ?_ | refine t4 ?_ | refine t5 ?_ | refine t6 ?_ | refine t7 ?_ | refine t8 ?_ | refine t9 ?_ | refine tA ?_ | refine tB ?_ | refine tC ?_ | refine tD rfl ?_ | refine tE ?_ | refine tF ?_ | refine tG ?_ | refine tH ?_ | refine tI ?_ | refine tJ ?_ | refine tK ?_ | refine tL ?_) | (refine TE.drawN (by rfl) (by rfl) (by rfl) ?_) | (refine TL.done (by rfl) ?_) | (refine TL.auto tysOk rfl (by (repeat with_reducible first | exact PanicOk.body | exact rd.panic | refine PanicOk.then' ?_ | refine PanicOk.block ?_ | refine PanicOk.jump ?_)) (by rfl) (by (first | exact trivial | exact fun i _ => ⟨_, rfl⟩ | exact ⟨fun i _ => ⟨_, rfl⟩, trivial⟩ | (simp only [OS] <;> omega))) ?_) | (refine TL.one (by rfl) ?_; (refine StepL.mem tysOk rfl rfl rfl rfl (by rfl) (by (first | exact trivial | exact fun i _ => ⟨_, rfl⟩ | exact ⟨fun i _ => ⟨_, rfl⟩, trivial⟩ | (simp only [OS] <;> omega))) (by rfl) ?_)) | refine TE.cond_true (by rfl) ?_ | refine TE.cond_false (by rfl) ?_))
    refine TE.iterEnd L (by first | exact .inl rfl | exact .inr rfl) (by rfl) ?_
    obtain rfl : k = m := by omega
    obtain ⟨f1, f2, f3, f4⟩ := hfin
    (refine TE.freezeN 7 (by rfl) (by rfl) ?_)
    (repeat (first | (refine TE.rgo tysOk rfl (by rfl) (by (first | exact trivial | exact fun i _ => ⟨_, rfl⟩ | exact ⟨fun i _ => ⟨_, rfl⟩, trivial⟩ | (simp only [OS] <;> omega))) ?_) | (with_reducible first | refine t1 ?_ | refine t2 ?_ | refine t3 ?_ | refine t4 ?_ | refine t5 ?_ | refine t6 ?_ | refine t7 ?_ | refine t8 ?_ | refine t9 ?_ | refine tA ?_ | refine tB ?_ | refine tC ?_ | refine tD rfl ?_ | refine tE ?_ | refine tF ?_ | refine tG ?_ | refine tH ?_ | refine tI ?_ | refine tJ ?_ | refine tK ?_ | refine tL ?_) | (refine TE.drawN (by rfl) (by rfl) (by rfl) ?_) | (refine TL.done (by rfl) ?_) | (refine TL.auto tysOk rfl (by (repeat with_reducible first | exact PanicOk.body | exact rd.panic | refine PanicOk.then' ?_ | refine PanicOk.block ?_ | refine PanicOk.jump ?_)) (by rfl) (by (first | exact trivial | exact fun i _ => ⟨_, rfl⟩ | exact ⟨fun i _ => ⟨_, rfl⟩, trivial⟩ | (simp only [OS] <;> omega))) ?_) | (refine TL.one (by rfl) ?_; (refine StepL.mem tysOk rfl rfl rfl rfl (by rfl) (by (first | exact trivial | exact fun i _ => ⟨_, rfl⟩ | exact ⟨fun i _ => ⟨_, rfl⟩, trivial⟩ | (simp only [OS] <;> omega))) (by rfl) ?_)) | refine TE.cond_true (by rfl) ?_ | refine TE.cond_false (by rfl) ?_))
    rw [f1, f2]
    (refine TE.ret' (by first | exact .inl rfl | exact .inr rfl) rfl tysOk (A0) ?_ rfl (by rfl) ?_; all_goals (try (first | exact trivial | ((with_reducible refine AllP.go ?_); dsimp only [AllP, appP]; repeat' (first | with_reducible rfl | with_reducible exact LeD.refl | refine And.intro ?_ ?_ | (refine congrArg (Value.int _) ?_; first | omega | rfl | (simp only [Int.toNat_natCast]; omega)) | rfl | (refine congrArg Value.bool ?_; assumption) | exact LeD.refl)))))
    · exact ⟨f3, fun h => f4 (f1 ▸ h)⟩
end Go.Proofs.Ytlbgepgpihklfaa.Am
