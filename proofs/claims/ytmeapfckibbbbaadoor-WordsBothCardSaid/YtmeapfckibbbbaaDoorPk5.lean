/- Texts of this claim, joined. -/
import Derived.Test.YtmeapfckibbbbaaDoorPk4
import Derived.Shelf.Strings.OnBuilder
import Derived.Lib.ItoaLen
set_option linter.unusedSimpArgs false
set_option linter.unusedVariables false
/- The words: Unquote, the program's. -/
set_option linter.unusedVariables false
namespace Go.Proofs.YtmeapfckibbbbaaDoor.Wo
/-- A whole quoted word, or the fault 6. -/
def unquoteI (l : Bs) : Bs × Int := if (unqI l).2 = 0 ∨ (unqI l).2 < l.length then ([], 6) else ((unqI l).1, 0)
end Go.Proofs.YtmeapfckibbbbaaDoor.Wo
namespace Go.Proofs.YtmeapfckibbbbaaDoor.Am
open Go.RowKit Lw Wo
set_option maxRecDepth 20000 in
theorem Unquote_c (m : Int) (te : TypeId) (pe : Value) (l : Bs) (hl : l.length ≤ 1000000) : Con Tryd.prog 19 [.o (.c (.string (sB l)))] (glC m te pe) 4 4 U (fun _ => .t [.inl (.c (.string (sB (unquoteI l).1))), .inl (.c (.int .i64 (unquoteI l).2))]) (fun _ => glC m te pe) := by
  refine con_of Tryd.func19 rfl (by kernel_rfl) Tryd.ntmps19 rfl (by first | exact Nat.zero_le _ | decide) (fun _ => ⟨rfl, rfl⟩) fun w S ν => ?_
  have hz : (sB l).size = l.length := sB_size _
  (repeat' (first | (with_reducible refine AllP.go ?_; (first | exact trivial | exact fun i _ => ⟨_, rfl⟩ | ((try simp only [OS]); repeat' (first | omega | exact fun i _ => ⟨_, rfl⟩ | refine And.intro ?_ ?_)))) | (refine TE.rgo tysOk rfl (by rfl) ?_ ?_) | (with_reducible first | refine t1 ?_ | refine t2 ?_ | refine t3 ?_ | refine t4 ?_ | refine t5 ?_ | refine t6 ?_ | refine t7 ?_ | refine t8 ?_ | refine t9 ?_ | refine tA ?_ | refine tB ?_ | refine tC ?_ | refine tD rfl ?_ | refine tE ?_ | refine tF ?_ | refine tG ?_ | refine tH ?_ | refine tI ?_ | refine tJ ?_ | refine tK ?_ | refine tL ?_) | refine TE.cond_true (by rfl) ?_ | refine TE.cond_false (by rfl) ?_ | ((refine TE.gsplit (by rfl) (by rfl) ?_ ?_ <;> intro h <;> (try simp only [NS] at h) <;> (try (exfalso; first | omega | exact h trivial | exact h | exact h rfl | contradiction))) <;> (refine TE.run tysOk rfl (by rfl) ?_ ?_)) | ((first | refine TL.gsplit (by rfl) (by rfl) ?_ ?_ | refine TE.cond_split (by rfl) ?_ ?_) <;> intro h <;> (try simp only [NS] at h) <;> (try (exfalso; first | omega | exact h trivial | exact h | exact h rfl | contradiction)))))
  refine TE.callW (unq_c m te pe l hl) rfl (by rfl) (by rfl) rfl (by rfl) (by (first | exact trivial | ((with_reducible refine AllP.go ?_); dsimp only [AllP, appP]; repeat' (first | with_reducible rfl | with_reducible exact LeD.refl | refine And.intro ?_ ?_ | (refine congrArg (Value.int _) ?_; first | omega | rfl | (simp only [Int.toNat_natCast]; omega)) | rfl | (refine congrArg Value.bool ?_; assumption) | assumption | exact LeD.refl)))) ?_
  intro _ _
  ((refine TE.run tysOk rfl (by rfl) ?_ ?_); (repeat' (first | (with_reducible refine AllP.go ?_; (first | exact trivial | exact fun i _ => ⟨_, rfl⟩ | ((try simp only [OS]); repeat' (first | omega | exact fun i _ => ⟨_, rfl⟩ | refine And.intro ?_ ?_)))) | (refine TE.rgo tysOk rfl (by rfl) ?_ ?_) | (with_reducible first | refine t1 ?_ | refine t2 ?_ | refine t3 ?_ | refine t4 ?_ | refine t5 ?_ | refine t6 ?_ | refine t7 ?_ | refine t8 ?_ | refine t9 ?_ | refine tA ?_ | refine tB ?_ | refine tC ?_ | refine tD rfl ?_ | refine tE ?_ | refine tF ?_ | refine tG ?_ | refine tH ?_ | refine tI ?_ | refine tJ ?_ | refine tK ?_ | refine tL ?_) | refine TE.cond_true (by rfl) ?_ | refine TE.cond_false (by rfl) ?_ | ((refine TE.gsplit (by rfl) (by rfl) ?_ ?_ <;> intro h <;> (try simp only [NS] at h) <;> (try (exfalso; first | omega | exact h trivial | exact h | exact h rfl | contradiction))) <;> (refine TE.run tysOk rfl (by rfl) ?_ ?_)) | ((first | refine TL.gsplit (by rfl) (by rfl) ?_ ?_ | refine TE.cond_split (by rfl) ?_ ?_) <;> intro h <;> (try simp only [NS] at h) <;> (try (exfalso; first | omega | exact h trivial | exact h | exact h rfl | contradiction))))))
  · rw [show unquoteI l = ([], 6) from if_pos (.inl (by omega))]
    (refine TE.ret' (by first | exact .inl rfl | exact .inr rfl) rfl tysOk (()) ?_ rfl (by rfl) ?_; all_goals (try (first | exact trivial | ((with_reducible refine AllP.go ?_); dsimp only [AllP, appP]; repeat' (first | with_reducible rfl | with_reducible exact LeD.refl | refine And.intro ?_ ?_ | (refine congrArg (Value.int _) ?_; first | omega | rfl | (simp only [Int.toNat_natCast]; omega)) | rfl | (refine congrArg Value.bool ?_; assumption) | exact LeD.refl)))))
  · rw [show unquoteI l = ([], 6) from if_pos (.inr (by omega))]
    (refine TE.ret' (by first | exact .inl rfl | exact .inr rfl) rfl tysOk (()) ?_ rfl (by rfl) ?_; all_goals (try (first | exact trivial | ((with_reducible refine AllP.go ?_); dsimp only [AllP, appP]; repeat' (first | with_reducible rfl | with_reducible exact LeD.refl | refine And.intro ?_ ?_ | (refine congrArg (Value.int _) ?_; first | omega | rfl | (simp only [Int.toNat_natCast]; omega)) | rfl | (refine congrArg Value.bool ?_; assumption) | exact LeD.refl)))))
  · rw [show unquoteI l = ((unqI l).1, 0) from if_neg (by omega)]
    (refine TE.ret' (by first | exact .inl rfl | exact .inr rfl) rfl tysOk (()) ?_ rfl (by rfl) ?_; all_goals (try (first | exact trivial | ((with_reducible refine AllP.go ?_); dsimp only [AllP, appP]; repeat' (first | with_reducible rfl | with_reducible exact LeD.refl | refine And.intro ?_ ?_ | (refine congrArg (Value.int _) ?_; first | omega | rfl | (simp only [Int.toNat_natCast]; omega)) | rfl | (refine congrArg Value.bool ?_; assumption) | exact LeD.refl)))))
end Go.Proofs.YtmeapfckibbbbaaDoor.Am
/- The words: quoting and bare words, the reference's. -/
set_option linter.unusedVariables false
namespace Go.Proofs.YtmeapfckibbbbaaDoor.Am
open Go.RowKit Lw Wo
end Go.Proofs.YtmeapfckibbbbaaDoor.Am
/- The words: what stands between quotes read, the reference's. -/
set_option linter.unusedVariables false
namespace Go.Proofs.YtmeapfckibbbbaaDoor.Wo
end Go.Proofs.YtmeapfckibbbbaaDoor.Wo
namespace Go.Proofs.YtmeapfckibbbbaaDoor.Am
open Go.RowKit Lw Wo
end Go.Proofs.YtmeapfckibbbbaaDoor.Am
/- The words: Unquote, the reference's. -/
set_option linter.unusedVariables false
namespace Go.Proofs.YtmeapfckibbbbaaDoor.Wo
theorem unqG_le : ∀ (n : Nat) (s : Bs), s.length ≤ n → ∀ x, unqG s = some x → x.2 ≤ s.length
  | _, [], _, x, h => by rw [unqG_nil] at h; cases h
  | 0, _ :: _, hn, _, _ => absurd hn (Nat.not_succ_le_zero _)
  | n + 1, a :: r, hn, x, h => by
    rw [unqG] at h
    split at h
    · cases h; simp
    · split at h
      · cases h
      · rename_i hd
        cases hg : unqG ((a :: r).drop (decI1 (a :: r)).2) with
        | none => rw [hg] at h; cases h
        | some y =>
          rw [hg] at h
          cases h
          have hl := dec_le (a :: r)
          have := unqG_le n _ (by rw [List.length_drop]; omega) y hg
          rw [List.length_drop] at this
          dsimp only
          omega
theorem unqI_le (l : Bs) : (unqI l).2 ≤ l.length := by
  match l with
  | [] => exact Nat.zero_le _
  | a :: r =>
    unfold unqI
    dsimp only
    split
    · cases h : unqG r with
      | none => exact Nat.zero_le _
      | some x =>
        have := unqG_le _ r (Nat.le_refl _) x h
        show 1 + x.2 ≤ r.length + 1
        omega
    · exact Nat.zero_le _
end Go.Proofs.YtmeapfckibbbbaaDoor.Wo
namespace Go.Proofs.YtmeapfckibbbbaaDoor.Am
open Go.RowKit Lw Wo
end Go.Proofs.YtmeapfckibbbbaaDoor.Am
/- The words: the laws Names and Quotes, walked (shown is an assumption here; it wants Split and List). -/
set_option linter.unusedVariables false
namespace Go.Proofs.YtmeapfckibbbbaaDoor.Am
open Go.RowKit Lw Wo
end Go.Proofs.YtmeapfckibbbbaaDoor.Am
/- The words: the fields of a line, the reference's. -/
set_option linter.unusedVariables false
namespace Go.Proofs.YtmeapfckibbbbaaDoor.Am
open Go.RowKit Lw Wo
def fdR (x : Fld) (j : Nat) : DC := match j with
  | 0 => .c (.string (sB x.1))
  | _ => .c (.bool x.2)
abbrev fdC (l : List Fld) : Ct := listC fdR ([], false) l
end Go.Proofs.YtmeapfckibbbbaaDoor.Am
/- The words: the fields of a line, the program's. -/
set_option linter.unusedVariables false
namespace Go.Proofs.YtmeapfckibbbbaaDoor.Am
open Go.RowKit Lw Wo
set_option maxRecDepth 20000 in
theorem fields_c (l : Bs) : Con Tryd.prog 28 [.o (.c (.string (sB l)))] [] 0 1 U (fun _ => .o (.clo 51 [(0, 0)])) (fun _ => [.box 0 9 [.c (.string (sB l))]]) := by
  refine con_of Tryd.func28 rfl (by kernel_rfl) Tryd.ntmps28 rfl (by first | exact Nat.zero_le _ | decide) (fun _ => ⟨rfl, rfl⟩) fun w S ν => ?_
  (repeat' (first | (with_reducible refine AllP.go ?_; (first | exact trivial | exact fun i _ => ⟨_, rfl⟩ | ((try simp only [OS]); repeat' (first | omega | exact fun i _ => ⟨_, rfl⟩ | refine And.intro ?_ ?_)))) | (refine TE.rgo tysOk rfl (by rfl) ?_ ?_) | (with_reducible first | refine t1 ?_ | refine t2 ?_ | refine t3 ?_ | refine t4 ?_ | refine t5 ?_ | refine t6 ?_ | refine t7 ?_ | refine t8 ?_ | refine t9 ?_ | refine tA ?_ | refine tB ?_ | refine tC ?_ | refine tD rfl ?_ | refine tE ?_ | refine tF ?_ | refine tG ?_ | refine tH ?_ | refine tI ?_ | refine tJ ?_ | refine tK ?_ | refine tL ?_) | (with_reducible first | exact PanicOk.body | exact rd.panic | refine PanicOk.then' ?_ | refine PanicOk.block ?_ | refine PanicOk.jump ?_) | (refine TE.drawC (by rfl) (by rfl) (by rfl) (by rfl) ?_) | (refine TE.drawN (by rfl) (by rfl) (by rfl) ?_) | (refine TL.done (by rfl) ?_) | (refine TL.auto tysOk rfl ?_ (by rfl) ?_ ?_) | ((refine TL.one (by rfl) ?_); first | (refine StepL.mem tysOk rfl rfl rfl rfl (by rfl) ?_ (by rfl) ?_) | (refine StepL.pure tysOk rfl rfl rfl rfl (by rfl) ?_ (by rfl) ?_)) | (refine StepL.mem tysOk rfl rfl rfl rfl (by rfl) ?_ (by rfl) ?_) | refine TE.cond_true (by rfl) ?_ | refine TE.cond_false (by rfl) ?_ | ((refine TE.gsplit (by rfl) (by rfl) ?_ ?_ <;> intro h <;> (try simp only [NS] at h) <;> (try (exfalso; first | omega | exact h trivial | exact h | exact h rfl | contradiction))) <;> (refine TE.run tysOk rfl (by rfl) ?_ ?_)) | ((first | refine TL.gsplit (by rfl) (by rfl) ?_ ?_ | refine TE.cond_split (by rfl) ?_ ?_) <;> intro h <;> (try simp only [NS] at h) <;> (try (exfalso; first | omega | exact h trivial | exact h | exact h rfl | contradiction)))))
  (refine TE.ret' (by first | exact .inl rfl | exact .inr rfl) rfl tysOk (()) ?_ rfl (by rfl) ?_; all_goals (try (first | exact trivial | ((with_reducible refine AllP.go ?_); dsimp only [AllP, appP]; repeat' (first | with_reducible rfl | with_reducible exact LeD.refl | refine And.intro ?_ ?_ | (refine congrArg (Value.int _) ?_; first | omega | rfl | (simp only [Int.toNat_natCast]; omega)) | rfl | (refine congrArg Value.bool ?_; assumption) | exact LeD.refl)))))
set_option maxRecDepth 20000 in
set_option maxHeartbeats 8000000 in
theorem Split_c (m : Int) (te : TypeId) (pe : Value) (l : Bs) (hl : l.length ≤ 1000000) : Con Tryd.prog 10 [.o (.c (.string (sB l)))] (glC m te pe) 4 4 U (fun _ => .t [.inl (.ro 2 (splitI l).1.length (fdC (splitI l).1).cell), .inl (.c (.int .i64 (splitI l).2))]) (fun _ => glC m te pe) := by
  refine con_of Tryd.func10 rfl (by kernel_rfl) Tryd.ntmps10 rfl (by first | exact Nat.zero_le _ | decide) (fun _ => ⟨rfl, rfl⟩) fun w S ν => ?_
  have hz : (sB l).size = l.length := sB_size _
  (repeat' (first | (with_reducible refine AllP.go ?_; (first | exact trivial | exact fun i _ => ⟨_, rfl⟩ | ((try simp only [OS]); repeat' (first | omega | exact fun i _ => ⟨_, rfl⟩ | refine And.intro ?_ ?_)))) | (refine TE.rgo tysOk rfl (by rfl) ?_ ?_) | (with_reducible first | refine t1 ?_ | refine t2 ?_ | refine t3 ?_ | refine t4 ?_ | refine t5 ?_ | refine t6 ?_ | refine t7 ?_ | refine t8 ?_ | refine t9 ?_ | refine tA ?_ | refine tB ?_ | refine tC ?_ | refine tD rfl ?_ | refine tE ?_ | refine tF ?_ | refine tG ?_ | refine tH ?_ | refine tI ?_ | refine tJ ?_ | refine tK ?_ | refine tL ?_) | refine TE.cond_true (by rfl) ?_ | refine TE.cond_false (by rfl) ?_ | ((refine TE.gsplit (by rfl) (by rfl) ?_ ?_ <;> intro h <;> (try simp only [NS] at h) <;> (try (exfalso; first | omega | exact h trivial | exact h | exact h rfl | contradiction))) <;> (refine TE.run tysOk rfl (by rfl) ?_ ?_)) | ((first | refine TL.gsplit (by rfl) (by rfl) ?_ ?_ | refine TE.cond_split (by rfl) ?_ ?_) <;> intro h <;> (try simp only [NS] at h) <;> (try (exfalso; first | omega | exact h trivial | exact h | exact h rfl | contradiction)))))
  · rw [show splitI l = ([], 3) from if_pos (by omega)]
    (refine TE.ret' (by first | exact .inl rfl | exact .inr rfl) rfl tysOk (()) ?_ rfl (by rfl) ?_; all_goals (try (first | exact trivial | ((with_reducible refine AllP.go ?_); dsimp only [AllP, appP]; repeat' (first | with_reducible rfl | with_reducible exact LeD.refl | refine And.intro ?_ ?_ | (refine congrArg (Value.int _) ?_; first | omega | rfl | (simp only [Int.toNat_natCast]; omega)) | rfl | (refine congrArg Value.bool ?_; assumption) | exact LeD.refl)))))
  · have hl0 : l = [] := List.length_eq_zero_iff.1 (by omega)
    rw [show splitI l = ([], 0) by unfold splitI; rw [if_neg (by omega), if_pos hl0]]
    (refine TE.ret' (by first | exact .inl rfl | exact .inr rfl) rfl tysOk (()) ?_ rfl (by rfl) ?_; all_goals (try (first | exact trivial | ((with_reducible refine AllP.go ?_); dsimp only [AllP, appP]; repeat' (first | with_reducible rfl | with_reducible exact LeD.refl | refine And.intro ?_ ?_ | (refine congrArg (Value.int _) ?_; first | omega | rfl | (simp only [Int.toNat_natCast]; omega)) | rfl | (refine congrArg Value.bool ?_; assumption) | exact LeD.refl)))))
  have hl0 : l ≠ [] := fun e => by subst e; exact h hz
  have hs : splitI l = match fieldsI l with | none => ([], 6) | some fs => if fs.any longF = true ∨ 64 < fs.length then ([], 3) else (fs, 0) := by
    unfold splitI; rw [if_neg (by omega), if_neg hl0]; rfl
  refine TE.callW (fields_c l) rfl (by rfl) (by rfl) rfl (by rfl) (by (first | exact trivial | ((with_reducible refine AllP.go ?_); dsimp only [AllP, appP]; repeat' (first | with_reducible rfl | with_reducible exact LeD.refl | refine And.intro ?_ ?_ | (refine congrArg (Value.int _) ?_; first | omega | rfl | (simp only [Int.toNat_natCast]; omega)) | rfl | (refine congrArg Value.bool ?_; assumption) | assumption | exact LeD.refl)))) ?_
  intro _ _
  ((refine TE.run tysOk rfl (by rfl) (by (first | exact trivial | exact fun i _ => ⟨_, rfl⟩ | ((try simp only [OS]); repeat' (first | omega | exact fun i _ => ⟨_, rfl⟩ | refine And.intro ?_ ?_)))) ?_); refine TE.done ?_; refine TE.thenN ?_)
  refine TE.block ?_
  refine TE.nilBox 6 0 43 2 (by rfl) (by rfl) ?_
  (refine TE.range rfl (by rfl) (by rfl) (by kernel_rfl) (by rfl) (by rfl) rfl ?_)
  intro l' a1 w0 B0 S0 ν0 L
  have hle := unqI_le
  refine TE.scope2' (α := Nat × List Fld) (β := (Nat × List Fld) × (Fld × Nat)) 1 0 (fun x => match x with
    | .inl p => p.1 ≤ l.length ∧ p.2.length ≤ p.1 ∧ (fieldsI (l.drop p.1)).map (p.2 ++ ·) = fieldsI l
    | .inr p => p.1.1 ≤ l.length ∧ p.1.2.length ≤ p.1.1 ∧ (fieldsI (l.drop p.1.1)).map (p.1.2 ++ ·) = fieldsI l ∧ fieldI (l.drop p.1.1) = some p.2 ∧ p.1.1 + p.2.2 ≤ l.length)
    (fun x => match x with
    | .inl p => ⟨[(0, .o (.c (.func (.yield l') #[] #[]))), (3, .o (.c (.string (sB (l.drop p.1))))), (4, .o (.ptr 10 0))], .own 11 43 2 (fdC p.2) :: .box 10 43 [.any, .any] :: .box 8 9 [.c (.string (sB l))] :: .box 7 4 [.sb (p.2.any longF)] :: .box 6 23 [.own 11] :: .box 5 24 [.c (.int .i64 0)] :: .box 4 23 [.c (.slice none 0 0)] :: glC m te pe, 12⟩
    | .inr p => ⟨[(0, .o (.c (.func (.yield l') #[] #[]))), (3, .o (.c (.string (sB (l.drop p.1.1))))), (4, .o (.ptr 10 0)), (5, .o (.c (.int .i64 (p.2.2 : Nat))))], .own 11 43 2 (fdC p.1.2) :: .box 10 43 [.c (.string (sB p.2.1.1)), .c (.bool p.2.1.2)] :: .box 8 9 [.c (.string (sB l))] :: .box 7 4 [.sb (p.1.2.any longF)] :: .box 6 23 [.own 11] :: .box 5 24 [.c (.int .i64 0)] :: .box 4 23 [.c (.slice none 0 0)] :: glC m te pe, 12⟩)
    (fun x => match x with
    | .inl p => 2 * (l.length - p.1) + 1
    | .inr p => 2 * (l.length - p.1.1)) (by rfl) (by rfl) ?_ ?_ ?_
  · intro hf
    (refine TE.seq ?_; (refine TE.rgo tysOk rfl (by rfl) (by (first | exact trivial | exact fun i _ => ⟨_, rfl⟩ | ((try simp only [OS]); repeat' (first | omega | exact fun i _ => ⟨_, rfl⟩ | refine And.intro ?_ ?_)))) ?_); refine TE.done ?_; refine TE.thenN ?_)
    (refine TE.seq ?_; (refine TE.rgo tysOk rfl (by rfl) (by (first | exact trivial | exact fun i _ => ⟨_, rfl⟩ | ((try simp only [OS]); repeat' (first | omega | exact fun i _ => ⟨_, rfl⟩ | refine And.intro ?_ ?_)))) ?_); refine TE.done ?_; refine TE.thenN ?_)
    (refine TE.seq ?_; (refine TE.rgo tysOk rfl (by rfl) (by (first | exact trivial | exact fun i _ => ⟨_, rfl⟩ | ((try simp only [OS]); repeat' (first | omega | exact fun i _ => ⟨_, rfl⟩ | refine And.intro ?_ ?_)))) ?_); refine TE.done ?_; refine TE.thenN ?_)
    refine TE.seq (TE.label (TE.thenN ?_))
    refine TE.ent' ?_ (hf (0, []) ⟨Nat.zero_le _, Nat.le_refl _, by simp⟩)
    (refine Ent.of rfl rfl (by rfl) ?_; (try (first | exact trivial | ((with_reducible refine AllP.go ?_); dsimp only [AllP, appP]; repeat' (first | with_reducible rfl | with_reducible exact LeD.refl | refine And.intro ?_ ?_ | (refine congrArg (Value.int _) ?_; first | omega | rfl | (simp only [Int.toNat_natCast]; omega)) | rfl | (refine congrArg Value.bool ?_; assumption) | exact LeD.refl)))))
    exact LeDC.nil rfl rfl
  · rintro ⟨i, out⟩ ⟨g1, g2, g3⟩ hf
    dsimp only at g1 g2 g3
    have hdl : (l.drop i).length = l.length - i := List.length_drop ..
    have hul := hle (l.drop i)
    have hwl : (wordI (l.drop i)).length ≤ (l.drop i).length := (List.takeWhile_sublist _).length_le
    have hfq : (unqI (l.drop i)).2 ≠ 0 → fieldI (l.drop i) = some (((unqI (l.drop i)).1, true), (unqI (l.drop i)).2) := fun e => if_pos e
    have hfb : (unqI (l.drop i)).2 = 0 → bareI (wordI (l.drop i)) = true → fieldI (l.drop i) = some ((wordI (l.drop i), false), (wordI (l.drop i)).length) := fun e k => by
      unfold fieldI
      rw [if_neg (fun q => q e), if_pos k]
    have hfn : (unqI (l.drop i)).2 = 0 → ¬ bareI (wordI (l.drop i)) = true → splitI l = ([], 6) := fun e k => by
      rw [hs, fields_none (by unfold fieldI; rw [if_neg (fun q => q e), if_neg k]) g3]
    have hc1 := cut_c m te pe (l.drop i) [32] (by rw [hdl]; omega)
    rw [cut_sp] at hc1
    (repeat (with_reducible first | refine t1 ?_ | refine t2 ?_ | refine t3 ?_ | refine t4 ?_ | refine t5 ?_ | refine t6 ?_ | refine t7 ?_ | refine t8 ?_ | refine t9 ?_ | refine tA ?_ | refine tB ?_ | refine tC ?_ | refine tD rfl ?_ | refine tE ?_ | refine tF ?_ | refine tG ?_ | refine tH ?_ | refine tI ?_ | refine tJ ?_ | refine tK ?_ | refine tL ?_))
    ((refine TE.rgo tysOk rfl (by rfl) ?_ ?_); try (with_reducible refine AllP.go ?_; (first | exact trivial | exact fun i _ => ⟨_, rfl⟩ | ((try simp only [OS]); repeat' (first | omega | exact fun i _ => ⟨_, rfl⟩ | refine And.intro ?_ ?_)))))
    refine TE.callW (unq_c m te pe (l.drop i) (by rw [hdl]; omega)) rfl (by rfl) (by rfl) rfl (by rfl) (by (first | exact trivial | ((with_reducible refine AllP.go ?_); dsimp only [AllP, appP]; repeat' (first | with_reducible rfl | with_reducible exact LeD.refl | refine And.intro ?_ ?_ | (refine congrArg (Value.int _) ?_; first | omega | rfl | (simp only [Int.toNat_natCast]; omega)) | rfl | (refine congrArg Value.bool ?_; assumption) | assumption | exact LeD.refl)))) ?_
    intro _ _
    generalize unqI (l.drop i) = u at *
    obtain ⟨ta, n0⟩ := u
    dsimp only at hul hfq hfb hfn
    ((refine TE.run tysOk rfl (by rfl) ?_ ?_); (repeat' (first | (with_reducible refine AllP.go ?_; (first | exact trivial | exact fun i _ => ⟨_, rfl⟩ | ((try simp only [OS]); repeat' (first | omega | exact fun i _ => ⟨_, rfl⟩ | refine And.intro ?_ ?_)))) | (refine TE.rgo tysOk rfl (by rfl) ?_ ?_) | (with_reducible first | refine t1 ?_ | refine t2 ?_ | refine t3 ?_ | refine t4 ?_ | refine t5 ?_ | refine t6 ?_ | refine t7 ?_ | refine t8 ?_ | refine t9 ?_ | refine tA ?_ | refine tB ?_ | refine tC ?_ | refine tD rfl ?_ | refine tE ?_ | refine tF ?_ | refine tG ?_ | refine tH ?_ | refine tI ?_ | refine tJ ?_ | refine tK ?_ | refine tL ?_) | refine TE.cond_true (by rfl) ?_ | refine TE.cond_false (by rfl) ?_ | ((refine TE.gsplit (by rfl) (by rfl) ?_ ?_ <;> intro h <;> (try simp only [NS] at h) <;> (try (exfalso; first | omega | exact h trivial | exact h | exact h rfl | contradiction))) <;> (refine TE.run tysOk rfl (by rfl) ?_ ?_)) | ((first | refine TL.gsplit (by rfl) (by rfl) ?_ ?_ | refine TE.cond_split (by rfl) ?_ ?_) <;> intro h <;> (try simp only [NS] at h) <;> (try (exfalso; first | omega | exact h trivial | exact h | exact h rfl | contradiction))))))
    · (with_reducible first | refine TE.jfN ?_ | refine TE.jfR ?_ | refine TE.jfE ?_ | refine TE.jfG ?_)
      refine TE.at (.inr ((i, out), ((ta, true), n0))) ⟨rfl, ⟨g1, g2, g3, hfq (by omega), by dsimp only; omega⟩, by dsimp only; omega⟩ ?_
      (refine Ent.of rfl rfl (by rfl) ?_; (try (first | exact trivial | ((with_reducible refine AllP.go ?_); dsimp only [AllP, appP]; repeat' (first | with_reducible rfl | with_reducible exact LeD.refl | refine And.intro ?_ ?_ | (refine congrArg (Value.int _) ?_; first | omega | rfl | (simp only [Int.toNat_natCast]; omega)) | rfl | (refine congrArg Value.bool ?_; assumption) | exact LeD.refl)))))
    · generalize wordI (l.drop i) = tb at *
      refine TE.callW (hc1) rfl (by rfl) (by rfl) rfl (by rfl) (by (first | exact trivial | ((with_reducible refine AllP.go ?_); dsimp only [AllP, appP]; repeat' (first | with_reducible rfl | with_reducible exact LeD.refl | refine And.intro ?_ ?_ | (refine congrArg (Value.int _) ?_; first | omega | rfl | (simp only [Int.toNat_natCast]; omega)) | rfl | (refine congrArg Value.bool ?_; assumption) | assumption | exact LeD.refl)))) ?_
      intro _ _
      ((refine TE.run tysOk rfl (by rfl) ?_ ?_); (repeat' (first | (with_reducible refine AllP.go ?_; (first | exact trivial | exact fun i _ => ⟨_, rfl⟩ | ((try simp only [OS]); repeat' (first | omega | exact fun i _ => ⟨_, rfl⟩ | refine And.intro ?_ ?_)))) | (refine TE.rgo tysOk rfl (by rfl) ?_ ?_) | (with_reducible first | refine t1 ?_ | refine t2 ?_ | refine t3 ?_ | refine t4 ?_ | refine t5 ?_ | refine t6 ?_ | refine t7 ?_ | refine t8 ?_ | refine t9 ?_ | refine tA ?_ | refine tB ?_ | refine tC ?_ | refine tD rfl ?_ | refine tE ?_ | refine tF ?_ | refine tG ?_ | refine tH ?_ | refine tI ?_ | refine tJ ?_ | refine tK ?_ | refine tL ?_) | refine TE.cond_true (by rfl) ?_ | refine TE.cond_false (by rfl) ?_ | ((refine TE.gsplit (by rfl) (by rfl) ?_ ?_ <;> intro h <;> (try simp only [NS] at h) <;> (try (exfalso; first | omega | exact h trivial | exact h | exact h rfl | contradiction))) <;> (refine TE.run tysOk rfl (by rfl) ?_ ?_)) | ((first | refine TL.gsplit (by rfl) (by rfl) ?_ ?_ | refine TE.cond_split (by rfl) ?_ ?_) <;> intro h <;> (try simp only [NS] at h) <;> (try (exfalso; first | omega | exact h trivial | exact h | exact h rfl | contradiction))))))
      refine TE.callW (isBare_c tb (by omega)) rfl (by rfl) (by rfl) rfl (by rfl) (by (first | exact trivial | ((with_reducible refine AllP.go ?_); dsimp only [AllP, appP]; repeat' (first | with_reducible rfl | with_reducible exact LeD.refl | refine And.intro ?_ ?_ | (refine congrArg (Value.int _) ?_; first | omega | rfl | (simp only [Int.toNat_natCast]; omega)) | rfl | (refine congrArg Value.bool ?_; assumption) | assumption | exact LeD.refl)))) ?_
      intro _ _
      by_cases hb : bareI tb = true
      · rw [hb]
        ((refine TE.run tysOk rfl (by rfl) (by (first | exact trivial | exact fun i _ => ⟨_, rfl⟩ | ((try simp only [OS]); repeat' (first | omega | exact fun i _ => ⟨_, rfl⟩ | refine And.intro ?_ ?_)))) ?_); refine TE.done ?_; refine TE.thenN ?_)
        (refine TE.cond_split (by rfl) ?_ ?_ <;> intro h <;> (try simp only [NS] at h) <;> (try (exfalso; first | omega | exact h trivial | exact h | exact h rfl | contradiction)))
        refine TE.skip (TE.thenN (TE.seq (TE.label (TE.thenN ?_))))
        refine TE.ent' ?_ (hf ((i, out), ((tb, false), tb.length)) ⟨g1, g2, g3, hfb (by omega) hb, by dsimp only; omega⟩ (by dsimp only; omega))
        have hz1 := sB_size tb
        (refine Ent.of rfl rfl (by rfl) ?_; (try (first | exact trivial | ((with_reducible refine AllP.go ?_); dsimp only [AllP, appP]; repeat' (first | with_reducible rfl | with_reducible exact LeD.refl | refine And.intro ?_ ?_ | (refine congrArg (Value.int _) ?_; first | omega | rfl | (simp only [Int.toNat_natCast]; omega)) | rfl | (refine congrArg Value.bool ?_; assumption) | exact LeD.refl)))))
      · have h6 := hfn (by omega) hb
        rw [Bool.not_eq_true] at hb
        rw [hb]
        ((refine TE.run tysOk rfl (by rfl) ?_ ?_); (repeat' (first | (with_reducible refine AllP.go ?_; (first | exact trivial | exact fun i _ => ⟨_, rfl⟩ | ((try simp only [OS]); repeat' (first | omega | exact fun i _ => ⟨_, rfl⟩ | refine And.intro ?_ ?_)))) | (refine TE.rgo tysOk rfl (by rfl) ?_ ?_) | (with_reducible first | refine t1 ?_ | refine t2 ?_ | refine t3 ?_ | refine t4 ?_ | refine t5 ?_ | refine t6 ?_ | refine t7 ?_ | refine t8 ?_ | refine t9 ?_ | refine tA ?_ | refine tB ?_ | refine tC ?_ | refine tD rfl ?_ | refine tE ?_ | refine tF ?_ | refine tG ?_ | refine tH ?_ | refine tI ?_ | refine tJ ?_ | refine tK ?_ | refine tL ?_) | refine TE.cond_true (by rfl) ?_ | refine TE.cond_false (by rfl) ?_ | ((refine TE.gsplit (by rfl) (by rfl) ?_ ?_ <;> intro h <;> (try simp only [NS] at h) <;> (try (exfalso; first | omega | exact h trivial | exact h | exact h rfl | contradiction))) <;> (refine TE.run tysOk rfl (by rfl) ?_ ?_)) | ((first | refine TL.gsplit (by rfl) (by rfl) ?_ ?_ | refine TE.cond_split (by rfl) ?_ ?_) <;> intro h <;> (try simp only [NS] at h) <;> (try (exfalso; first | omega | exact h trivial | exact h | exact h rfl | contradiction))))))
        (refine TE.yield L rfl (by rfl) (by rfl) rfl rfl (by rfl) (by rfl) (by rfl) rfl (by rfl) ?_)
        intro Qr w1 B1 S1 ν1 rd
        (repeat (first | (with_reducible refine AllP.go ?_; (first | exact trivial | exact fun i _ => ⟨_, rfl⟩ | ((try simp only [OS]); repeat' (first | omega | exact fun i _ => ⟨_, rfl⟩ | refine And.intro ?_ ?_)))) | (refine TE.rgo tysOk rfl (by rfl) ?_ ?_) | (with_reducible first | refine t1 ?_ | refine t2 ?_ | refine t3 ?_ | refine t4 ?_ | refine t5 ?_ | refine t6 ?_ | refine t7 ?_ | refine t8 ?_ | refine t9 ?_ | refine tA ?_ | refine tB ?_ | refine tC ?_ | refine tD rfl ?_ | refine tE ?_ | refine tF ?_ | refine tG ?_ | refine tH ?_ | refine tI ?_ | refine tJ ?_ | refine tK ?_ | refine tL ?_) | (with_reducible first | exact PanicOk.body | exact rd.panic | refine PanicOk.then' ?_ | refine PanicOk.block ?_ | refine PanicOk.jump ?_) | (refine TE.drawC (by rfl) (by rfl) (by rfl) (by rfl) ?_) | (refine TE.drawN (by rfl) (by rfl) (by rfl) ?_) | (refine TL.done (by rfl) ?_) | (refine TL.auto tysOk rfl ?_ (by rfl) ?_ ?_) | ((refine TL.one (by rfl) ?_); first | (refine StepL.mem tysOk rfl rfl rfl rfl (by rfl) ?_ (by rfl) ?_) | (refine StepL.pure tysOk rfl rfl rfl rfl (by rfl) ?_ (by rfl) ?_)) | (refine StepL.mem tysOk rfl rfl rfl rfl (by rfl) ?_ (by rfl) ?_) | refine TE.cond_true (by rfl) ?_ | refine TE.cond_false (by rfl) ?_))
        refine rd.begin ?_
        clear rd
        intro w1 B1 S1 ν1 rd
        (repeat' (first | (with_reducible refine AllP.go ?_; (first | exact trivial | exact fun i _ => ⟨_, rfl⟩ | ((try simp only [OS]); repeat' (first | omega | exact fun i _ => ⟨_, rfl⟩ | refine And.intro ?_ ?_)))) | (refine TE.rgo tysOk rfl (by rfl) ?_ ?_) | (with_reducible first | refine t1 ?_ | refine t2 ?_ | refine t3 ?_ | refine t4 ?_ | refine t5 ?_ | refine t6 ?_ | refine t7 ?_ | refine t8 ?_ | refine t9 ?_ | refine tA ?_ | refine tB ?_ | refine tC ?_ | refine tD rfl ?_ | refine tE ?_ | refine tF ?_ | refine tG ?_ | refine tH ?_ | refine tI ?_ | refine tJ ?_ | refine tK ?_ | refine tL ?_) | refine TE.cond_true (by rfl) ?_ | refine TE.cond_false (by rfl) ?_ | ((refine TE.gsplit (by rfl) (by rfl) ?_ ?_ <;> intro h <;> (try simp only [NS] at h) <;> (try (exfalso; first | omega | exact h trivial | exact h | exact h rfl | contradiction))) <;> (refine TE.run tysOk rfl (by rfl) ?_ ?_)) | ((first | refine TL.gsplit (by rfl) (by rfl) ?_ ?_ | refine TE.cond_split (by rfl) ?_ ?_) <;> intro h <;> (try simp only [NS] at h) <;> (try (exfalso; first | omega | exact h trivial | exact h | exact h rfl | contradiction)))))
        refine rd.ret ?_
        intro w2 B2 S2 ν2 L2
        (repeat' (first | (with_reducible refine AllP.go ?_; (first | exact trivial | exact fun i _ => ⟨_, rfl⟩ | ((try simp only [OS]); repeat' (first | omega | exact fun i _ => ⟨_, rfl⟩ | refine And.intro ?_ ?_)))) | (refine TE.rgo tysOk rfl (by rfl) ?_ ?_) | (with_reducible first | refine t1 ?_ | refine t2 ?_ | refine t3 ?_ | refine t4 ?_ | refine t5 ?_ | refine t6 ?_ | refine t7 ?_ | refine t8 ?_ | refine t9 ?_ | refine tA ?_ | refine tB ?_ | refine tC ?_ | refine tD rfl ?_ | refine tE ?_ | refine tF ?_ | refine tG ?_ | refine tH ?_ | refine tI ?_ | refine tJ ?_ | refine tK ?_ | refine tL ?_) | refine TE.cond_true (by rfl) ?_ | refine TE.cond_false (by rfl) ?_ | ((refine TE.gsplit (by rfl) (by rfl) ?_ ?_ <;> intro h <;> (try simp only [NS] at h) <;> (try (exfalso; first | omega | exact h trivial | exact h | exact h rfl | contradiction))) <;> (refine TE.run tysOk rfl (by rfl) ?_ ?_)) | ((first | refine TL.gsplit (by rfl) (by rfl) ?_ ?_ | refine TE.cond_split (by rfl) ?_ ?_) <;> intro h <;> (try simp only [NS] at h) <;> (try (exfalso; first | omega | exact h trivial | exact h | exact h rfl | contradiction)))))
        (with_reducible first | refine TE.jfN ?_ | refine TE.jfR ?_ | refine TE.jfE ?_ | refine TE.jfG ?_)
        refine TE.iterStop L2 (by first | exact .inl rfl | exact .inr rfl) (by rfl) ?_
        (repeat' (first | (with_reducible refine AllP.go ?_; (first | exact trivial | exact fun i _ => ⟨_, rfl⟩ | ((try simp only [OS]); repeat' (first | omega | exact fun i _ => ⟨_, rfl⟩ | refine And.intro ?_ ?_)))) | (refine TE.rgo tysOk rfl (by rfl) ?_ ?_) | (with_reducible first | refine t1 ?_ | refine t2 ?_ | refine t3 ?_ | refine t4 ?_ | refine t5 ?_ | refine t6 ?_ | refine t7 ?_ | refine t8 ?_ | refine t9 ?_ | refine tA ?_ | refine tB ?_ | refine tC ?_ | refine tD rfl ?_ | refine tE ?_ | refine tF ?_ | refine tG ?_ | refine tH ?_ | refine tI ?_ | refine tJ ?_ | refine tK ?_ | refine tL ?_) | refine TE.cond_true (by rfl) ?_ | refine TE.cond_false (by rfl) ?_ | ((refine TE.gsplit (by rfl) (by rfl) ?_ ?_ <;> intro h <;> (try simp only [NS] at h) <;> (try (exfalso; first | omega | exact h trivial | exact h | exact h rfl | contradiction))) <;> (refine TE.run tysOk rfl (by rfl) ?_ ?_)) | ((first | refine TL.gsplit (by rfl) (by rfl) ?_ ?_ | refine TE.cond_split (by rfl) ?_ ?_) <;> intro h <;> (try simp only [NS] at h) <;> (try (exfalso; first | omega | exact h trivial | exact h | exact h rfl | contradiction)))))
        rw [h6]
        (refine TE.ret' (by first | exact .inl rfl | exact .inr rfl) rfl tysOk (()) ?_ rfl (by rfl) ?_; all_goals (try (first | exact trivial | ((with_reducible refine AllP.go ?_); dsimp only [AllP, appP]; repeat' (first | with_reducible rfl | with_reducible exact LeD.refl | refine And.intro ?_ ?_ | (refine congrArg (Value.int _) ?_; first | omega | rfl | (simp only [Int.toNat_natCast]; omega)) | rfl | (refine congrArg Value.bool ?_; assumption) | exact LeD.refl)))))
  · rintro ⟨⟨i, out⟩, ⟨f, n⟩⟩ ⟨g1, g2, g3, g4, g5⟩
    dsimp only at g1 g2 g3 g4 g5 ⊢
    have hdl : (sB (l.drop i)).size = l.length - i := by rw [sB_size, List.length_drop]
    have he : (sB (l.drop i)).extract ((n : Nat) : Int).toNat ((sB (l.drop i)).size : Int).toNat = sB (l.drop (i + n)) := by
      rw [sB_ext, hdl, List.drop_drop, List.take_of_length_le (by rw [List.length_drop]; omega)]
      rfl
    have hz2 : (sB (l.drop (i + n))).size = l.length - (i + n) := by rw [sB_size, List.length_drop]
    have he2 : (sB (l.drop (i + n))).extract ((1 : Int)).toNat ((sB (l.drop (i + n))).size : Int).toNat = sB (l.drop (i + n + 1)) := by
      rw [sB_ext, hz2, List.drop_drop, List.take_of_length_le (by rw [List.length_drop]; omega)]
      rfl
    have hgd : (l.drop (i + n)).getD (Int.toNat 0) 0 = l.getD (i + n) 0 := getD_drop l (i + n) 0
    have hsz := sB_size f.1
    have b6 : i + n < l.length → (l.getD (i + n) 0).toNat ≠ 32 → splitI l = ([], 6) := fun h1 h2 => by rw [hs, fields_bad g4 g3 h1 h2]
    have b3 : l.length ≤ i + n → ((out ++ [f]).any longF = true ∨ 64 < (out ++ [f]).length) → splitI l = ([], 3) := fun h1 h2 => by rw [hs, fields_end g4 g3 h1]; exact if_pos h2
    have b0 : l.length ≤ i + n → ¬ ((out ++ [f]).any longF = true ∨ 64 < (out ++ [f]).length) → splitI l = (out ++ [f], 0) := fun h1 h2 => by rw [hs, fields_end g4 g3 h1]; exact if_neg h2
    have hL1 : out.any longF = true → true = (out ++ [f]).any longF := fun e => by
      rw [List.any_append, e]; rfl
    have hL2 : out.any longF = false → decide (2000 < ((sB f.1).size : Int)) = (out ++ [f]).any longF := fun e => by
      rw [List.any_append, e]
      show _ = (false || (decide (2000 < f.1.length) || false))
      rw [Bool.false_or, Bool.or_false]
      exact decide_eq_decide.2 ⟨fun e => by omega, fun e => by omega⟩
    have hol : (out ++ [f]).length = out.length + 1 := by simp
    (repeat (with_reducible first | refine t1 ?_ | refine t2 ?_ | refine t3 ?_ | refine t4 ?_ | refine t5 ?_ | refine t6 ?_ | refine t7 ?_ | refine t8 ?_ | refine t9 ?_ | refine tA ?_ | refine tB ?_ | refine tC ?_ | refine tD rfl ?_ | refine tE ?_ | refine tF ?_ | refine tG ?_ | refine tH ?_ | refine tI ?_ | refine tJ ?_ | refine tK ?_ | refine tL ?_))
    ((refine TE.rgo tysOk rfl (by rfl) ?_ ?_); try (with_reducible refine AllP.go ?_; (first | exact trivial | exact fun i _ => ⟨_, rfl⟩ | ((try simp only [OS]); repeat' (first | omega | exact fun i _ => ⟨_, rfl⟩ | refine And.intro ?_ ?_)))))
    refine TE.done (TE.thenN ?_)
    rw [he]
    (repeat' (first | (with_reducible refine AllP.go ?_; (first | exact trivial | exact fun i _ => ⟨_, rfl⟩ | ((try simp only [OS]); repeat' (first | omega | exact fun i _ => ⟨_, rfl⟩ | refine And.intro ?_ ?_)))) | (refine TE.rgo tysOk rfl (by rfl) ?_ ?_) | (with_reducible first | refine t1 ?_ | refine t2 ?_ | refine t3 ?_ | refine t4 ?_ | refine t5 ?_ | refine t6 ?_ | refine t7 ?_ | refine t8 ?_ | refine t9 ?_ | refine tA ?_ | refine tB ?_ | refine tC ?_ | refine tD rfl ?_ | refine tE ?_ | refine tF ?_ | refine tG ?_ | refine tH ?_ | refine tI ?_ | refine tJ ?_ | refine tK ?_ | refine tL ?_) | refine TE.cond_true (by rfl) ?_ | refine TE.cond_false (by rfl) ?_ | ((refine TE.gsplit (by rfl) (by rfl) ?_ ?_ <;> intro h <;> (try simp only [NS] at h) <;> (try (exfalso; first | omega | exact h trivial | exact h | exact h rfl | contradiction))) <;> (refine TE.run tysOk rfl (by rfl) ?_ ?_)) | ((first | refine TL.gsplit (by rfl) (by rfl) ?_ ?_ | refine TE.cond_split (by rfl) ?_ ?_) <;> intro h <;> (try simp only [NS] at h) <;> (try (exfalso; first | omega | exact h trivial | exact h | exact h rfl | contradiction)))))
    · (refine TE.yield L rfl (by rfl) (by rfl) rfl rfl (by rfl) (by rfl) (by rfl) rfl (by rfl) ?_)
      intro Qr w1 B1 S1 ν1 rd
      (repeat (first | (with_reducible refine AllP.go ?_; (first | exact trivial | exact fun i _ => ⟨_, rfl⟩ | ((try simp only [OS]); repeat' (first | omega | exact fun i _ => ⟨_, rfl⟩ | refine And.intro ?_ ?_)))) | (refine TE.rgo tysOk rfl (by rfl) ?_ ?_) | (with_reducible first | refine t1 ?_ | refine t2 ?_ | refine t3 ?_ | refine t4 ?_ | refine t5 ?_ | refine t6 ?_ | refine t7 ?_ | refine t8 ?_ | refine t9 ?_ | refine tA ?_ | refine tB ?_ | refine tC ?_ | refine tD rfl ?_ | refine tE ?_ | refine tF ?_ | refine tG ?_ | refine tH ?_ | refine tI ?_ | refine tJ ?_ | refine tK ?_ | refine tL ?_) | (with_reducible first | exact PanicOk.body | exact rd.panic | refine PanicOk.then' ?_ | refine PanicOk.block ?_ | refine PanicOk.jump ?_) | (refine TE.drawC (by rfl) (by rfl) (by rfl) (by rfl) ?_) | (refine TE.drawN (by rfl) (by rfl) (by rfl) ?_) | (refine TL.done (by rfl) ?_) | (refine TL.auto tysOk rfl ?_ (by rfl) ?_ ?_) | ((refine TL.one (by rfl) ?_); first | (refine StepL.mem tysOk rfl rfl rfl rfl (by rfl) ?_ (by rfl) ?_) | (refine StepL.pure tysOk rfl rfl rfl rfl (by rfl) ?_ (by rfl) ?_)) | (refine StepL.mem tysOk rfl rfl rfl rfl (by rfl) ?_ (by rfl) ?_) | refine TE.cond_true (by rfl) ?_ | refine TE.cond_false (by rfl) ?_))
      refine rd.begin ?_
      clear rd
      intro w1 B1 S1 ν1 rd
      (repeat' (first | (with_reducible refine AllP.go ?_; (first | exact trivial | exact fun i _ => ⟨_, rfl⟩ | ((try simp only [OS]); repeat' (first | omega | exact fun i _ => ⟨_, rfl⟩ | refine And.intro ?_ ?_)))) | (refine TE.rgo tysOk rfl (by rfl) ?_ ?_) | (with_reducible first | refine t1 ?_ | refine t2 ?_ | refine t3 ?_ | refine t4 ?_ | refine t5 ?_ | refine t6 ?_ | refine t7 ?_ | refine t8 ?_ | refine t9 ?_ | refine tA ?_ | refine tB ?_ | refine tC ?_ | refine tD rfl ?_ | refine tE ?_ | refine tF ?_ | refine tG ?_ | refine tH ?_ | refine tI ?_ | refine tJ ?_ | refine tK ?_ | refine tL ?_) | refine TE.cond_true (by rfl) ?_ | refine TE.cond_false (by rfl) ?_ | ((refine TE.gsplit (by rfl) (by rfl) ?_ ?_ <;> intro h <;> (try simp only [NS] at h) <;> (try (exfalso; first | omega | exact h trivial | exact h | exact h rfl | contradiction))) <;> (refine TE.run tysOk rfl (by rfl) ?_ ?_)) | ((first | refine TL.gsplit (by rfl) (by rfl) ?_ ?_ | refine TE.cond_split (by rfl) ?_ ?_) <;> intro h <;> (try simp only [NS] at h) <;> (try (exfalso; first | omega | exact h trivial | exact h | exact h rfl | contradiction)))))
      refine rd.ret ?_
      intro w2 B2 S2 ν2 L2
      (repeat' (first | (with_reducible refine AllP.go ?_; (first | exact trivial | exact fun i _ => ⟨_, rfl⟩ | ((try simp only [OS]); repeat' (first | omega | exact fun i _ => ⟨_, rfl⟩ | refine And.intro ?_ ?_)))) | (refine TE.rgo tysOk rfl (by rfl) ?_ ?_) | (with_reducible first | refine t1 ?_ | refine t2 ?_ | refine t3 ?_ | refine t4 ?_ | refine t5 ?_ | refine t6 ?_ | refine t7 ?_ | refine t8 ?_ | refine t9 ?_ | refine tA ?_ | refine tB ?_ | refine tC ?_ | refine tD rfl ?_ | refine tE ?_ | refine tF ?_ | refine tG ?_ | refine tH ?_ | refine tI ?_ | refine tJ ?_ | refine tK ?_ | refine tL ?_) | refine TE.cond_true (by rfl) ?_ | refine TE.cond_false (by rfl) ?_ | ((refine TE.gsplit (by rfl) (by rfl) ?_ ?_ <;> intro h <;> (try simp only [NS] at h) <;> (try (exfalso; first | omega | exact h trivial | exact h | exact h rfl | contradiction))) <;> (refine TE.run tysOk rfl (by rfl) ?_ ?_)) | ((first | refine TL.gsplit (by rfl) (by rfl) ?_ ?_ | refine TE.cond_split (by rfl) ?_ ?_) <;> intro h <;> (try simp only [NS] at h) <;> (try (exfalso; first | omega | exact h trivial | exact h | exact h rfl | contradiction)))))
      (with_reducible first | refine TE.jfN ?_ | refine TE.jfR ?_ | refine TE.jfE ?_ | refine TE.jfG ?_)
      refine TE.iterStop L2 (by first | exact .inl rfl | exact .inr rfl) (by rfl) ?_
      (repeat' (first | (with_reducible refine AllP.go ?_; (first | exact trivial | exact fun i _ => ⟨_, rfl⟩ | ((try simp only [OS]); repeat' (first | omega | exact fun i _ => ⟨_, rfl⟩ | refine And.intro ?_ ?_)))) | (refine TE.rgo tysOk rfl (by rfl) ?_ ?_) | (with_reducible first | refine t1 ?_ | refine t2 ?_ | refine t3 ?_ | refine t4 ?_ | refine t5 ?_ | refine t6 ?_ | refine t7 ?_ | refine t8 ?_ | refine t9 ?_ | refine tA ?_ | refine tB ?_ | refine tC ?_ | refine tD rfl ?_ | refine tE ?_ | refine tF ?_ | refine tG ?_ | refine tH ?_ | refine tI ?_ | refine tJ ?_ | refine tK ?_ | refine tL ?_) | refine TE.cond_true (by rfl) ?_ | refine TE.cond_false (by rfl) ?_ | ((refine TE.gsplit (by rfl) (by rfl) ?_ ?_ <;> intro h <;> (try simp only [NS] at h) <;> (try (exfalso; first | omega | exact h trivial | exact h | exact h rfl | contradiction))) <;> (refine TE.run tysOk rfl (by rfl) ?_ ?_)) | ((first | refine TL.gsplit (by rfl) (by rfl) ?_ ?_ | refine TE.cond_split (by rfl) ?_ ?_) <;> intro h <;> (try simp only [NS] at h) <;> (try (exfalso; first | omega | exact h trivial | exact h | exact h rfl | contradiction)))))
      rw [b6 (by omega) (fun e => h (by show (((l.drop (i + n)).getD (Int.toNat 0) 0).toNat : Int) = 32; rw [hgd]; exact congrArg Nat.cast e))]
      (refine TE.ret' (by first | exact .inl rfl | exact .inr rfl) rfl tysOk (()) ?_ rfl (by rfl) ?_; all_goals (try (first | exact trivial | ((with_reducible refine AllP.go ?_); dsimp only [AllP, appP]; repeat' (first | with_reducible rfl | with_reducible exact LeD.refl | refine And.intro ?_ ?_ | (refine congrArg (Value.int _) ?_; first | omega | rfl | (simp only [Int.toNat_natCast]; omega)) | rfl | (refine congrArg Value.bool ?_; assumption) | exact LeD.refl)))))
    all_goals (refine TE.only [48, 47, 5, 4, 3, 0] (by rfl) ?_)
    all_goals (refine TE.yield L rfl (by rfl) (by rfl) rfl rfl (by rfl) (by rfl) (by rfl) rfl (by rfl) ?_)
    all_goals intro Qr w1 B1 S1 ν1 rd
    all_goals (repeat (first | (with_reducible refine AllP.go ?_; (first | exact trivial | exact fun i _ => ⟨_, rfl⟩ | ((try simp only [OS]); repeat' (first | omega | exact fun i _ => ⟨_, rfl⟩ | refine And.intro ?_ ?_)))) | (refine TE.rgo tysOk rfl (by rfl) ?_ ?_) | (with_reducible first | refine t1 ?_ | refine t2 ?_ | refine t3 ?_ | refine t4 ?_ | refine t5 ?_ | refine t6 ?_ | refine t7 ?_ | refine t8 ?_ | refine t9 ?_ | refine tA ?_ | refine tB ?_ | refine tC ?_ | refine tD rfl ?_ | refine tE ?_ | refine tF ?_ | refine tG ?_ | refine tH ?_ | refine tI ?_ | refine tJ ?_ | refine tK ?_ | refine tL ?_) | (with_reducible first | exact PanicOk.body | exact rd.panic | refine PanicOk.then' ?_ | refine PanicOk.block ?_ | refine PanicOk.jump ?_) | (refine TE.drawC (by rfl) (by rfl) (by rfl) (by rfl) ?_) | (refine TE.drawN (by rfl) (by rfl) (by rfl) ?_) | (refine TL.done (by rfl) ?_) | (refine TL.auto tysOk rfl ?_ (by rfl) ?_ ?_) | ((refine TL.one (by rfl) ?_); first | (refine StepL.mem tysOk rfl rfl rfl rfl (by rfl) ?_ (by rfl) ?_) | (refine StepL.pure tysOk rfl rfl rfl rfl (by rfl) ?_ (by rfl) ?_)) | (refine StepL.mem tysOk rfl rfl rfl rfl (by rfl) ?_ (by rfl) ?_) | refine TE.cond_true (by rfl) ?_ | refine TE.cond_false (by rfl) ?_))
    all_goals refine rd.begin ?_
    all_goals clear rd
    all_goals intro w1 B1 S1 ν1 rd
    all_goals (repeat' (first | (with_reducible refine AllP.go ?_; (first | exact trivial | exact fun i _ => ⟨_, rfl⟩ | ((try simp only [OS]); repeat' (first | omega | exact fun i _ => ⟨_, rfl⟩ | refine And.intro ?_ ?_)))) | (refine TE.rgo tysOk rfl (by rfl) ?_ ?_) | (with_reducible first | refine t1 ?_ | refine t2 ?_ | refine t3 ?_ | refine t4 ?_ | refine t5 ?_ | refine t6 ?_ | refine t7 ?_ | refine t8 ?_ | refine t9 ?_ | refine tA ?_ | refine tB ?_ | refine tC ?_ | refine tD rfl ?_ | refine tE ?_ | refine tF ?_ | refine tG ?_ | refine tH ?_ | refine tI ?_ | refine tJ ?_ | refine tK ?_ | refine tL ?_) | refine TE.cond_true (by rfl) ?_ | refine TE.cond_false (by rfl) ?_ | ((refine TE.gsplit (by rfl) (by rfl) ?_ ?_ <;> intro h <;> (try simp only [NS] at h) <;> (try (exfalso; first | omega | exact h trivial | exact h | exact h rfl | contradiction))) <;> (refine TE.run tysOk rfl (by rfl) ?_ ?_)) | ((first | refine TL.gsplit (by rfl) (by rfl) ?_ ?_ | refine TE.cond_split (by rfl) ?_ ?_) <;> intro h <;> (try simp only [NS] at h) <;> (try (exfalso; first | omega | exact h trivial | exact h | exact h rfl | contradiction)))))
    all_goals refine rd.normal ?_
    all_goals ((refine TE.run tysOk rfl (by rfl) ?_ ?_); (repeat' (first | (with_reducible refine AllP.go ?_; (first | exact trivial | exact fun i _ => ⟨_, rfl⟩ | ((try simp only [OS]); repeat' (first | omega | exact fun i _ => ⟨_, rfl⟩ | refine And.intro ?_ ?_)))) | (refine TE.rgo tysOk rfl (by rfl) ?_ ?_) | (with_reducible first | refine t1 ?_ | refine t2 ?_ | refine t3 ?_ | refine t4 ?_ | refine t5 ?_ | refine t6 ?_ | refine t7 ?_ | refine t8 ?_ | refine t9 ?_ | refine tA ?_ | refine tB ?_ | refine tC ?_ | refine tD rfl ?_ | refine tE ?_ | refine tF ?_ | refine tG ?_ | refine tH ?_ | refine tI ?_ | refine tJ ?_ | refine tK ?_ | refine tL ?_) | refine TE.cond_true (by rfl) ?_ | refine TE.cond_false (by rfl) ?_ | ((refine TE.gsplit (by rfl) (by rfl) ?_ ?_ <;> intro h <;> (try simp only [NS] at h) <;> (try (exfalso; first | omega | exact h trivial | exact h | exact h rfl | contradiction))) <;> (refine TE.run tysOk rfl (by rfl) ?_ ?_)) | ((first | refine TL.gsplit (by rfl) (by rfl) ?_ ?_ | refine TE.cond_split (by rfl) ?_ ?_) <;> intro h <;> (try simp only [NS] at h) <;> (try (exfalso; first | omega | exact h trivial | exact h | exact h rfl | contradiction))))))
    all_goals (with_reducible first | refine TE.jfN ?_ | refine TE.jfR ?_ | refine TE.jfE ?_ | refine TE.jfG ?_)
    · have hL := hL1 (by assumption)
      have h : (((l.drop (i + n)).getD (Int.toNat 0) 0).toNat : Int) = 32 := by assumption
      rw [hgd] at h
      refine TE.at (.inl (i + n + 1, out ++ [f])) ⟨rfl, ⟨by dsimp only; omega, by dsimp only; omega, fields_more g4 g3 (by omega) (Int.ofNat.inj h)⟩, by dsimp only; omega⟩ ?_
      (refine Ent.of rfl rfl (by rfl) ?_; (try (first | exact trivial | ((with_reducible refine AllP.go ?_); dsimp only [AllP, appP]; repeat' (first | with_reducible rfl | with_reducible exact LeD.refl | refine And.intro ?_ ?_ | (refine congrArg (Value.int _) ?_; first | omega | rfl | (simp only [Int.toNat_natCast]; omega)) | rfl | (refine congrArg Value.bool ?_; assumption) | exact LeD.refl)))))
      · exact congrArg Value.string he2
      · exact listC_snocX (f := fdR) _ rfl (nth2x (LeX.of_eq rfl) (LeX.of_eq rfl))
    · have hL := hL2 (by assumption)
      have h : (((l.drop (i + n)).getD (Int.toNat 0) 0).toNat : Int) = 32 := by assumption
      rw [hgd] at h
      refine TE.at (.inl (i + n + 1, out ++ [f])) ⟨rfl, ⟨by dsimp only; omega, by dsimp only; omega, fields_more g4 g3 (by omega) (Int.ofNat.inj h)⟩, by dsimp only; omega⟩ ?_
      (refine Ent.of rfl rfl (by rfl) ?_; (try (first | exact trivial | ((with_reducible refine AllP.go ?_); dsimp only [AllP, appP]; repeat' (first | with_reducible rfl | with_reducible exact LeD.refl | refine And.intro ?_ ?_ | (refine congrArg (Value.int _) ?_; first | omega | rfl | (simp only [Int.toNat_natCast]; omega)) | rfl | (refine congrArg Value.bool ?_; assumption) | exact LeD.refl)))))
      · exact congrArg Value.string he2
      · exact listC_snocX (f := fdR) _ rfl (nth2x (LeX.of_eq rfl) (LeX.of_eq rfl))
      · exact hL
    · refine TE.iterEnd L (by first | exact .inl rfl | exact .inr rfl) (by rfl) ?_
      (repeat' (first | (with_reducible refine AllP.go ?_; (first | exact trivial | exact fun i _ => ⟨_, rfl⟩ | ((try simp only [OS]); repeat' (first | omega | exact fun i _ => ⟨_, rfl⟩ | refine And.intro ?_ ?_)))) | (refine TE.rgo tysOk rfl (by rfl) ?_ ?_) | (with_reducible first | refine t1 ?_ | refine t2 ?_ | refine t3 ?_ | refine t4 ?_ | refine t5 ?_ | refine t6 ?_ | refine t7 ?_ | refine t8 ?_ | refine t9 ?_ | refine tA ?_ | refine tB ?_ | refine tC ?_ | refine tD rfl ?_ | refine tE ?_ | refine tF ?_ | refine tG ?_ | refine tH ?_ | refine tI ?_ | refine tJ ?_ | refine tK ?_ | refine tL ?_) | refine TE.cond_true (by rfl) ?_ | refine TE.cond_false (by rfl) ?_ | ((refine TE.gsplit (by rfl) (by rfl) ?_ ?_ <;> intro h <;> (try simp only [NS] at h) <;> (try (exfalso; first | omega | exact h trivial | exact h | exact h rfl | contradiction))) <;> (refine TE.run tysOk rfl (by rfl) ?_ ?_)) | ((first | refine TL.gsplit (by rfl) (by rfl) ?_ ?_ | refine TE.cond_split (by rfl) ?_ ?_) <;> intro h <;> (try simp only [NS] at h) <;> (try (exfalso; first | omega | exact h trivial | exact h | exact h rfl | contradiction)))))
      rw [b3 (by omega) (.inl (hL1 (by assumption)).symm)]
      (refine TE.ret' (by first | exact .inl rfl | exact .inr rfl) rfl tysOk (()) ?_ rfl (by rfl) ?_; all_goals (try (first | exact trivial | ((with_reducible refine AllP.go ?_); dsimp only [AllP, appP]; repeat' (first | with_reducible rfl | with_reducible exact LeD.refl | refine And.intro ?_ ?_ | (refine congrArg (Value.int _) ?_; first | omega | rfl | (simp only [Int.toNat_natCast]; omega)) | rfl | (refine congrArg Value.bool ?_; assumption) | exact LeD.refl)))))
    · have hap : (appC (fdC out) (litC [[DC.c (Value.string (sB f.1)), DC.c (Value.bool f.2)]])).n = out.length + 1 := rfl
      refine TE.iterEnd L (by first | exact .inl rfl | exact .inr rfl) (by rfl) ?_
      (repeat' (first | (with_reducible refine AllP.go ?_; (first | exact trivial | exact fun i _ => ⟨_, rfl⟩ | ((try simp only [OS]); repeat' (first | omega | exact fun i _ => ⟨_, rfl⟩ | refine And.intro ?_ ?_)))) | (refine TE.rgo tysOk rfl (by rfl) ?_ ?_) | (with_reducible first | refine t1 ?_ | refine t2 ?_ | refine t3 ?_ | refine t4 ?_ | refine t5 ?_ | refine t6 ?_ | refine t7 ?_ | refine t8 ?_ | refine t9 ?_ | refine tA ?_ | refine tB ?_ | refine tC ?_ | refine tD rfl ?_ | refine tE ?_ | refine tF ?_ | refine tG ?_ | refine tH ?_ | refine tI ?_ | refine tJ ?_ | refine tK ?_ | refine tL ?_) | refine TE.cond_true (by rfl) ?_ | refine TE.cond_false (by rfl) ?_ | ((refine TE.gsplit (by rfl) (by rfl) ?_ ?_ <;> intro h <;> (try simp only [NS] at h) <;> (try (exfalso; first | omega | exact h trivial | exact h | exact h rfl | contradiction))) <;> (refine TE.run tysOk rfl (by rfl) ?_ ?_)) | ((first | refine TL.gsplit (by rfl) (by rfl) ?_ ?_ | refine TE.cond_split (by rfl) ?_ ?_) <;> intro h <;> (try simp only [NS] at h) <;> (try (exfalso; first | omega | exact h trivial | exact h | exact h rfl | contradiction)))))
      · rw [b3 (by omega) (.inl ((hL2 (by assumption)).symm.trans (decide_eq_true h)))]
        (refine TE.ret' (by first | exact .inl rfl | exact .inr rfl) rfl tysOk (()) ?_ rfl (by rfl) ?_; all_goals (try (first | exact trivial | ((with_reducible refine AllP.go ?_); dsimp only [AllP, appP]; repeat' (first | with_reducible rfl | with_reducible exact LeD.refl | refine And.intro ?_ ?_ | (refine congrArg (Value.int _) ?_; first | omega | rfl | (simp only [Int.toNat_natCast]; omega)) | rfl | (refine congrArg Value.bool ?_; assumption) | exact LeD.refl)))))
      · rw [b3 (by omega) (.inr (by omega))]
        (refine TE.ret' (by first | exact .inl rfl | exact .inr rfl) rfl tysOk (()) ?_ rfl (by rfl) ?_; all_goals (try (first | exact trivial | ((with_reducible refine AllP.go ?_); dsimp only [AllP, appP]; repeat' (first | with_reducible rfl | with_reducible exact LeD.refl | refine And.intro ?_ ?_ | (refine congrArg (Value.int _) ?_; first | omega | rfl | (simp only [Int.toNat_natCast]; omega)) | rfl | (refine congrArg Value.bool ?_; assumption) | exact LeD.refl)))))
      · (refine TE.freezeN 14 (by rfl) (by rfl) ?_)
        rw [b0 (by omega) (fun e => e.elim (fun e => by rw [← hL2 (by assumption)] at e; have := of_decide_eq_true e; omega) (fun e => by omega))]
        (refine TE.ret' (by first | exact .inl rfl | exact .inr rfl) rfl tysOk (()) ?_ rfl (by rfl) ?_; all_goals (try (first | exact trivial | ((with_reducible refine AllP.go ?_); dsimp only [AllP, appP]; repeat' (first | with_reducible rfl | with_reducible exact LeD.refl | refine And.intro ?_ ?_ | (refine congrArg (Value.int _) ?_; first | omega | rfl | (simp only [Int.toNat_natCast]; omega)) | rfl | (refine congrArg Value.bool ?_; assumption) | exact LeD.refl)))))
        exact listC_snocX (f := fdR) _ rfl (nth2x (LeX.of_eq rfl) (LeX.of_eq rfl))
end Go.Proofs.YtmeapfckibbbbaaDoor.Am
/- The words: a strings.Builder and what is written on it. -/
set_option linter.unusedVariables false
namespace Go.Proofs.YtmeapfckibbbbaaDoor.Am
open Go.RowKit Lw Go.Shelf
section
variable {P : Program}
/-- A function that leaves the world as it was, the chunks that it takes among it. -/
theorem con_id {ι : Type} {f : FuncId} {args : List AV} {takes : List Chunk} {m : Nat} {pre : ι → Prop} {res : ι → AV} {fn : Func} (hf : P.funcs[f]? = some fn) (hn : (fn.name == "runtime.NumGoroutine") = false) (hb : fn.body.isNone = false) (wfT : allB (Chunk.ltB m) takes = true) (wf : ∀ x, (res x).ltB m = true)
    (h : ∀ w S ν vs, All2 (AV.rel w S ν) args vs → (∀ c ∈ takes, c.holds w S ν) → Calls P f vs.toArray w fun e w' => ∃ x u, e = .returned u ∧ pre x ∧ (res x).rel w S ν u ∧ w' = w) : Con P f args takes m m pre res (fun _ => takes) := by
  refine ⟨⟨fn, hf, hn, hb⟩, wfT, Nat.le_refl _, fun x => ⟨wf x, wfT⟩, fun w S ν vs ha ht hnd hbk hS => Calls.mono (h w S ν vs ha ht) ?_⟩
  rintro e w' ⟨x, u, he, hp, hr, rfl⟩
  exact ⟨x, S, ν, u, he, hp, hr, Fr.refl _ _, fun _ _ => rfl, fun _ h => h, fun b hb => ⟨hS b hb, .inl hb⟩, ht, hnd, fun b hb => ⟨(hbk b hb).1, (hbk b hb).2, .inl hb⟩⟩
end
/-- A builder that nothing was written on, one that was written on. -/
abbrev blN (l : List UInt8) : List Chunk := [.box 0 65 [.c (.pointer none), .own 1], .own 1 5 1 (bytesC l)]
abbrev blC (l : List UInt8) : List Chunk := [.box 0 65 [.ptr 0 0, .own 1], .own 1 5 1 (bytesC l)]
abbrev blG (l : List UInt8) : List Chunk := [.box 0 65 [.ptr 0 0, .own 2], .own 2 5 1 (bytesC l)]
set_option maxRecDepth 20000 in
theorem ccU_c (l : List UInt8) : Con Tryd.prog 70 [.o (.ptr 0 0)] (blC l) 2 2 U (fun _ => .t []) (fun _ => blC l) := by
  refine con_id (fn := Tryd.f70) Tryd.func70 (by kernel_rfl) (by kernel_rfl) rfl (fun _ => rfl) fun w S ν vs hv ht => ?_
  obtain ⟨b, us, h1, h2, h3⟩ := ht _ (List.mem_cons_self ..)
  cases vs with
  | nil => exact hv.elim
  | cons v vs =>
    cases vs with
    | cons _ _ => exact hv.2.elim
    | nil =>
      obtain ⟨⟨b', k1, k2⟩, _⟩ := hv
      rw [h1] at k1
      cases k1
      cases us with
      | nil => exact h3.elim
      | cons u us =>
        obtain ⟨⟨b2, g1, g2⟩, _⟩ := h3
        rw [h1] at g1
        cases g1
        dsimp only at k2 g2
        subst k2
        have c0 : w.cell? ⟨b, 0, none⟩ = some (.pointer (some ⟨b, 0, none⟩)) := by rw [Lib.cell_of_heap h2, g2]; rfl
        refine Calls.mono (Any.Builder_copyCheck_used (ρ := Tryd.lays156_ren) { Tryd.lays156 with } Tryd.Builder_Extra_156.toX72 b w c0) ?_
        rintro e w' ⟨rfl, rfl⟩
        exact ⟨(), _, rfl, trivial, ⟨[], rfl, trivial⟩, rfl⟩
set_option maxRecDepth 20000 in
theorem ccN_c (l : List UInt8) : Con Tryd.prog 70 [.o (.ptr 0 0)] (blN l) 2 2 U (fun _ => .t []) (fun _ => blC l) := by
  refine ⟨⟨Tryd.f70, Tryd.func70, by kernel_rfl, by kernel_rfl⟩, rfl, Nat.le_refl _, fun x => ⟨rfl, rfl⟩, fun w S ν vs hv ht hnd hbk hS => ?_⟩
  obtain ⟨b, us, h1, h2, h3⟩ := ht _ (List.mem_cons_self ..)
  have ho := ht _ (List.mem_cons_of_mem _ (List.mem_cons_self ..))
  cases vs with
  | nil => exact hv.elim
  | cons v vs =>
    cases vs with
    | cons _ _ => exact hv.2.elim
    | nil =>
      obtain ⟨⟨b', k1, k2⟩, _⟩ := hv
      rw [h1] at k1
      cases k1
      match us, h3, h2 with
      | [u0, u1], ⟨g0, g1, _⟩, h2 =>
        obtain ⟨g0, _⟩ := g0
        subst g0
        dsimp only at k2
        subst k2
        have c0 : w.cell? ⟨b, 0, none⟩ = some (.pointer none) := by rw [Lib.cell_of_heap h2]; rfl
        have hsh : w.shape? b = some (65, 2) := by simp [World.shape?, h2]
        have hfz : w.frozen? ⟨b, 0, none⟩ = false := Lib.frozen_of_heap h2 0
        have hbk0 : b ∈ blks ν (blN l) := mem_blks.2 ⟨_, List.mem_cons_self .., by simp [Chunk.blk, h1]⟩
        have hne : ∀ k, (Chunk.own 1 5 1 (bytesC l)).blk ν = some k → k ≠ b := by
          intro k hk e
          subst e
          simp only [blks, blN, List.filterMap_cons, List.filterMap_nil, hk] at hnd
          have e0 : (Chunk.box 0 65 [.c (.pointer none), .own 1]).blk ν = some k := by simp [Chunk.blk, h1]
          rw [e0] at hnd
          simp at hnd
        have gr : Gr w (w.setCell ⟨b, 0, none⟩ (.pointer (some ⟨b, 0, none⟩))) S S := ⟨by simp [World.setCell], fun k hs _ => Below.heap_setCell w ⟨b, 0, none⟩ _ k fun e => (hbk b hbk0).2 (by have e : k = b := e; rw [← e]; exact hs), fun _ h => h⟩
        have eb : ∀ {A B : List A1}, blks ν [.box 0 65 A, .own 1 5 1 (bytesC l)] = blks ν [.box 0 65 B, .own 1 5 1 (bytesC l)] := rfl
        refine Calls.mono (Any.Builder_copyCheck_fresh (ρ := Tryd.lays156_ren) { Tryd.lays156 with } Tryd.Builder_Extra_156.toX72 b w c0 hsh hfz) ?_
        rintro e w' ⟨rfl, rfl⟩
        refine ⟨(), S, ν, _, rfl, trivial, ⟨[], rfl, trivial⟩, ⟨rfl, rfl, rfl, by simp [World.setCell], fun k hk hn => Below.heap_setCell w ⟨b, 0, none⟩ _ k fun e => hn (by have e : k = b := e; rw [e]; exact hbk0)⟩, fun _ _ => rfl, fun _ h => h, fun k hk => ⟨by have := hS k hk; simpa [World.setCell] using this, .inl hk⟩, ?_, ?_, ?_⟩
        · intro c hc
          rcases List.mem_cons.1 hc with rfl | hc
          · exact ⟨b, [.pointer (some ⟨b, 0, none⟩), u1], h1, heap_setCell_same h2, ⟨b, h1, rfl⟩, A1.mono (m := 2) gr (fun _ _ => rfl) (show 1 < 2 by decide) g1, trivial⟩
          · rw [List.mem_singleton.1 hc]
            exact Chunk.mono (m := 2) gr (fun _ _ => rfl) (show 1 < 2 by decide) (fun k hk => Below.heap_setCell w ⟨b, 0, none⟩ _ k (hne k hk)) ho
        · exact hnd
        · intro k hk
          have := hbk k hk
          exact ⟨by simpa [World.setCell] using this.1, this.2, .inl hk⟩
section
variable {P : Program} {st : AS} {o : Oper} {K : Nat → Bool}
/-- unsafe.SliceData of a slice of the call's own that is not empty. -/
theorem m_sliceData {c : Call} {x : Operand} {t id E sz : Nat} {ct : Ct} (ho : o.op = .call c) (hc : c.callee = .builtin .unsafeSliceData) (hx : c.args.toList = [x]) (ht : c.argTypes.toList = [t]) (hv : aop st x = some (.o (.own id))) (hf : findOwn (fun _ => true) st.hp id = some (E, sz, ct)) (hn : 0 < ct.n) : StepTo P K o st (· = st.put o.dst (.o (.optr id sz 0 0))) := by
  intro X S ν a w Q K' hd sat hk
  obtain ⟨xs, h1, _⟩ := sat.hp _ (findOwn_ok hf).1
  obtain ⟨⟨h2, _⟩, h3⟩ := aop_ok sat hv
  obtain ⟨g, cap, e1, e2⟩ : ∃ g cap, ν id = .slice (some ⟨g, 0, none⟩) ct.n cap ∧ ct.n ≤ cap := by
    rcases h1.2 with ⟨_, hz⟩ | ⟨g, cap, cur, e1, _, _, e4, _⟩
    · omega
    · exact ⟨g, cap, e1, e4⟩
  obtain ⟨cs, ex⟩ := exec_builtin (a := a) ho hc hx (show c.argTypes = #[t] by rw [← Array.toList_inj]; exact ht)
  refine wp_value (w' := w) (u := .pointer (some ⟨g, 0, none⟩)) ?_ (hk _ S ν _ _ rfl (sat.put hd (v := .o (.optr id sz 0 0)) ⟨g, ct.n, cap, e1, by simp⟩ h3) ⟨Nat.le_refl _, fun _ h => h, fun ch hc hk => ⟨by rw [(AS.put_hp _ _ _).1]; exact hc, rfl⟩, fun _ _ => rfl⟩)
  rw [ex]
  have hr := Lib.run_unsafeSliceData_row (P := P) (w := w) #[t] o.type ⟨g, 0, none⟩ ct.n cap (by omega)
  simp only [builtin, List.map_cons, List.map_nil, Sem.run_bind, h2, e1]
  rw [hr]
  rfl
/-- unsafe.String of all bytes of a slice of the call's own: the slice is given up. -/
theorem m_unsafeString {c : Call} {p x : Operand} {pt it id E : Nat} {l : List UInt8} {rest : List Chunk} (ho : o.op = .call c) (hc : c.callee = .builtin .unsafeString) (hx : c.args.toList = [p, x]) (ht : c.argTypes.toList = [pt, it]) (hp : P.underlying pt = some (.pointer E)) (hE : P.cellsOf E = 1) (hv : aop st p = some (.o (.optr id 1 0 0))) (hl : aop st x = some (.o (.c (.int .i64 (l.length : Nat))))) (hf : takeOwn (fun i => !K i) st.hp id = some (E, 1, bytesC l, rest)) (hn : l ≠ []) : StepTo P K o st (· = (AS.mk st.env rest st.nid).put o.dst (.o (.c (.string (sB l))))) := by
  intro X S ν a w Q K' hd sat hk
  obtain ⟨hperm, hK⟩ := takeOwn_perm hf
  have hmem : Chunk.own id E 1 (bytesC l) ∈ st.hp := hperm.symm.subset (List.mem_cons_self ..)
  obtain ⟨xs, h1, h1b⟩ := sat.hp _ hmem
  have hn0 : 0 < l.length := List.length_pos_iff.2 hn
  have hbn : (bytesC l).n = l.length := rfl
  rw [hbn] at h1 h1b
  obtain ⟨g, cap, cur, e1, e3, e4, e5, e6, e7⟩ : ∃ g cap cur, ν id = .slice (some ⟨g, 0, none⟩) l.length cap ∧ w.heap[g]? = some (.cells cur E (0, 0)) ∧ l.length ≤ cap ∧ cap ≤ maxLen ∧ cur.size = cap * 1 ∧ cur.toList.take (l.length * 1) = xs := by
    rcases h1.2 with ⟨_, hz⟩ | ⟨g, cap, cur, e1, _, e3, e4, e5, e6, e7⟩
    · omega
    · exact ⟨g, cap, cur, e1, e3, e4, e5, e6, e7⟩
  have hblk : (Chunk.own id E 1 (bytesC l)).blk ν = some g := by simp [Chunk.blk, e1, Value.ownBlock]
  obtain ⟨⟨g', n', cp', k1, k2⟩, _⟩ := aop_ok sat hv
  rw [e1] at k1
  cases k1
  have hl2 : a.eval x = .int .i64 (l.length : Nat) := (aop_ok sat hl).1.1
  obtain ⟨cs, ex⟩ := exec_builtin (a := a) ho hc hx (show c.argTypes = #[pt, it] by rw [← Array.toList_inj]; exact ht)
  have hcell : ∀ j x, l[j]? = some x → w.cell? ((⟨g, 0, none⟩ : Addr).add j) = some (.int .u8 x.toNat) := fun j x hj => by
    have hjl : j < l.length := (List.getElem?_eq_some_iff.1 hj).1
    obtain ⟨u, u1, u2⟩ := h1b j 0 hjl (by decide)
    have hadd : (⟨g, 0, none⟩ : Addr).add j = ⟨g, j, none⟩ := (Lib.add_plain g 0 j).trans (by rw [Nat.zero_add])
    rw [hadd, Lib.cell_of_heap e3]
    have : xs[j]? = cur[j]? := by
      rw [← e7, List.getElem?_take, if_pos (by omega)]
      simp
    rw [Nat.mul_one, Nat.add_zero, this] at u1
    rw [u1, u2.1]
    show some (Value.int .u8 ((l.getD j 0).toNat : Int)) = _
    rw [List.getD_eq_getElem?_getD, hj, Option.getD_some]
  have hrun := Lib.run_unsafeString_row (P := P) w pt it o.type E hp hE g cur.size (by simp [World.shape?, e3]) l hn (by omega) (by unfold maxLen at e5; omega) hcell
  have hw' : (w.freeze ⟨g, 0, none⟩ l.length).heap.size = w.heap.size ∧ ∀ k, k ≠ g → (w.freeze ⟨g, 0, none⟩ l.length).heap[k]? = w.heap[k]? := by
    unfold World.freeze
    rw [if_neg (by omega)]
    refine ⟨by simp, fun k hk => ?_⟩
    simp only [Array.getElem?_modify]
    rw [if_neg (fun e => hk e.symm)]
  have hos : (w.freeze ⟨g, 0, none⟩ l.length).os = w.os ∧ (w.freeze ⟨g, 0, none⟩ l.length).tape = w.tape ∧ (w.freeze ⟨g, 0, none⟩ l.length).output = w.output := by
    unfold World.freeze
    rw [if_neg (by omega)]
    exact ⟨rfl, rfl, rfl⟩
  have hgb : g ∈ blks ν st.hp := mem_blks.2 ⟨_, hmem, hblk⟩
  obtain ⟨s1, s2⟩ := swap_kp (takes := [.own id E 1 (bytesC l)]) (gives := []) (rest := rest) (nid := st.nid) (ν' := ν) (S' := S) (K := K) (w' := w.freeze ⟨g, 0, none⟩ l.length) (o := o) (av := .o (.c (.string (sB l)))) (u := .string (sB l)) hd sat hperm
    (fun ch hc => by rw [List.mem_singleton.1 hc]; show K id = false; simpa using hK) ⟨hos.1, hos.2.1, hos.2.2, by rw [hw'.1]; exact Nat.le_refl _, fun k hk hn => hw'.2 k fun e => hn (mem_blks.2 ⟨_, List.mem_singleton.2 rfl, by rw [e]; exact hblk⟩)⟩ (fun _ _ => rfl) (fun _ h => h)
    (fun b hb => ⟨by rw [hw'.1]; exact (sat.imm b hb).1, .inl hb⟩) (fun c hc => nomatch hc) List.nodup_nil (fun b hb => nomatch hb) (fun c hc => nomatch hc) (Nat.le_refl _) ⟨rfl, rfl⟩ trivial
  refine wp_value (w' := w.freeze ⟨g, 0, none⟩ l.length) (u := .string (sB l)) ?_ (hk _ S ν _ _ rfl s1 s2)
  rw [ex]
  have k2' : a.eval p = .pointer (some ⟨g, 0, none⟩) := by rw [k2]
  simp only [builtin, List.map_cons, List.map_nil, Sem.run_bind, k2', hl2]
  rw [hrun]
  rfl
end
theorem str_ap (l s : List UInt8) : LeDC 1 (appC (bytesC l) (strC (sB s))) (bytesC (l ++ s)) := bytes_app (LeDC.refl _ _) (LeDC.refl _ _) rfl
set_option maxRecDepth 20000 in
theorem blWB_c (l : List UInt8) (c : UInt8) (hl : l.length ≤ 1000000) : Con Tryd.prog 47 [.o (.ptr 0 0), .o (.c (.int .u8 c.toNat))] (blC l) 2 3 U (fun _ => .o (.c .nilIface)) (fun _ => blG (l ++ [c])) := by
  refine con_of Tryd.func47 rfl (by kernel_rfl) Tryd.ntmps47 rfl (by first | exact Nat.zero_le _ | decide) (fun _ => ⟨rfl, rfl⟩) fun w S ν => ?_
  (repeat (first | (with_reducible refine AllP.go ?_; (first | exact trivial | exact fun i _ => ⟨_, rfl⟩ | ((try simp only [OS]); repeat' (first | omega | exact fun i _ => ⟨_, rfl⟩ | refine And.intro ?_ ?_)))) | (refine TE.rgo tysOk rfl (by rfl) ?_ ?_) | (with_reducible first | refine t1 ?_ | refine t2 ?_ | refine t3 ?_ | refine t4 ?_ | refine t5 ?_ | refine t6 ?_ | refine t7 ?_ | refine t8 ?_ | refine t9 ?_ | refine tA ?_ | refine tB ?_ | refine tC ?_ | refine tD rfl ?_ | refine tE ?_ | refine tF ?_ | refine tG ?_ | refine tH ?_ | refine tI ?_ | refine tJ ?_ | refine tK ?_ | refine tL ?_) | (with_reducible first | exact PanicOk.body | exact rd.panic | refine PanicOk.then' ?_ | refine PanicOk.block ?_ | refine PanicOk.jump ?_) | (refine TE.drawC (by rfl) (by rfl) (by rfl) (by rfl) ?_) | (refine TE.drawN (by rfl) (by rfl) (by rfl) ?_) | (refine TL.done (by rfl) ?_) | (refine TL.auto tysOk rfl ?_ (by rfl) ?_ ?_) | ((refine TL.one (by rfl) ?_); first | (refine StepL.mem tysOk rfl rfl rfl rfl (by rfl) ?_ (by rfl) ?_) | (refine StepL.pure tysOk rfl rfl rfl rfl (by rfl) ?_ (by rfl) ?_)) | (refine StepL.mem tysOk rfl rfl rfl rfl (by rfl) ?_ (by rfl) ?_) | refine TE.cond_true (by rfl) ?_ | refine TE.cond_false (by rfl) ?_))
  refine TE.callW (ccU_c l) rfl (by rfl) (by rfl) rfl (by rfl) (by (first | exact trivial | ((with_reducible refine AllP.go ?_); dsimp only [AllP, appP]; repeat' (first | with_reducible rfl | with_reducible exact LeD.refl | refine And.intro ?_ ?_ | (refine congrArg (Value.int _) ?_; first | omega | rfl | (simp only [Int.toNat_natCast]; omega)) | rfl | (refine congrArg Value.bool ?_; assumption) | assumption | exact LeD.refl)))) ?_
  intro _ _
  ((refine TE.run tysOk rfl (by rfl) ?_ ?_); (repeat (first | (with_reducible refine AllP.go ?_; (first | exact trivial | exact fun i _ => ⟨_, rfl⟩ | ((try simp only [OS]); repeat' (first | omega | exact fun i _ => ⟨_, rfl⟩ | refine And.intro ?_ ?_)))) | (refine TE.rgo tysOk rfl (by rfl) ?_ ?_) | (with_reducible first | refine t1 ?_ | refine t2 ?_ | refine t3 ?_ | refine t4 ?_ | refine t5 ?_ | refine t6 ?_ | refine t7 ?_ | refine t8 ?_ | refine t9 ?_ | refine tA ?_ | refine tB ?_ | refine tC ?_ | refine tD rfl ?_ | refine tE ?_ | refine tF ?_ | refine tG ?_ | refine tH ?_ | refine tI ?_ | refine tJ ?_ | refine tK ?_ | refine tL ?_) | (with_reducible first | exact PanicOk.body | exact rd.panic | refine PanicOk.then' ?_ | refine PanicOk.block ?_ | refine PanicOk.jump ?_) | (refine TE.drawC (by rfl) (by rfl) (by rfl) (by rfl) ?_) | (refine TE.drawN (by rfl) (by rfl) (by rfl) ?_) | (refine TL.done (by rfl) ?_) | (refine TL.auto tysOk rfl ?_ (by rfl) ?_ ?_) | ((refine TL.one (by rfl) ?_); first | (refine StepL.mem tysOk rfl rfl rfl rfl (by rfl) ?_ (by rfl) ?_) | (refine StepL.pure tysOk rfl rfl rfl rfl (by rfl) ?_ (by rfl) ?_)) | (refine StepL.mem tysOk rfl rfl rfl rfl (by rfl) ?_ (by rfl) ?_) | refine TE.cond_true (by rfl) ?_ | refine TE.cond_false (by rfl) ?_)))
  (refine TE.ret' (by first | exact .inl rfl | exact .inr rfl) rfl tysOk (()) ?_ rfl (by rfl) ?_; all_goals (try (first | exact trivial | ((with_reducible refine AllP.go ?_); dsimp only [AllP, appP]; repeat' (first | with_reducible rfl | with_reducible exact LeD.refl | refine And.intro ?_ ?_ | (refine congrArg (Value.int _) ?_; first | omega | rfl | (simp only [Int.toNat_natCast]; omega)) | rfl | (refine congrArg Value.bool ?_; assumption) | exact LeD.refl)))))
  exact bytes_app (LeDC.refl _ _) (byte_lit rfl) rfl
set_option maxRecDepth 20000 in
theorem blWSN_c (l s : List UInt8) (hl : l.length + s.length ≤ 1000000) : Con Tryd.prog 48 [.o (.ptr 0 0), .o (.c (.string (sB s)))] (blN l) 2 3 U (fun _ => .t [.inl (.c (.int .i64 (s.length : Nat))), .inl (.c .nilIface)]) (fun _ => blG (l ++ s)) := by
  refine con_of Tryd.func48 rfl (by kernel_rfl) Tryd.ntmps48 rfl (by first | exact Nat.zero_le _ | decide) (fun _ => ⟨rfl, rfl⟩) fun w S ν => ?_
  have hz := sB_size s
  (repeat (first | (with_reducible refine AllP.go ?_; (first | exact trivial | exact fun i _ => ⟨_, rfl⟩ | ((try simp only [OS]); repeat' (first | omega | exact fun i _ => ⟨_, rfl⟩ | refine And.intro ?_ ?_)))) | (refine TE.rgo tysOk rfl (by rfl) ?_ ?_) | (with_reducible first | refine t1 ?_ | refine t2 ?_ | refine t3 ?_ | refine t4 ?_ | refine t5 ?_ | refine t6 ?_ | refine t7 ?_ | refine t8 ?_ | refine t9 ?_ | refine tA ?_ | refine tB ?_ | refine tC ?_ | refine tD rfl ?_ | refine tE ?_ | refine tF ?_ | refine tG ?_ | refine tH ?_ | refine tI ?_ | refine tJ ?_ | refine tK ?_ | refine tL ?_) | (with_reducible first | exact PanicOk.body | exact rd.panic | refine PanicOk.then' ?_ | refine PanicOk.block ?_ | refine PanicOk.jump ?_) | (refine TE.drawC (by rfl) (by rfl) (by rfl) (by rfl) ?_) | (refine TE.drawN (by rfl) (by rfl) (by rfl) ?_) | (refine TL.done (by rfl) ?_) | (refine TL.auto tysOk rfl ?_ (by rfl) ?_ ?_) | ((refine TL.one (by rfl) ?_); first | (refine StepL.mem tysOk rfl rfl rfl rfl (by rfl) ?_ (by rfl) ?_) | (refine StepL.pure tysOk rfl rfl rfl rfl (by rfl) ?_ (by rfl) ?_)) | (refine StepL.mem tysOk rfl rfl rfl rfl (by rfl) ?_ (by rfl) ?_) | refine TE.cond_true (by rfl) ?_ | refine TE.cond_false (by rfl) ?_))
  refine TE.callW (ccN_c l) rfl (by rfl) (by rfl) rfl (by rfl) (by (first | exact trivial | ((with_reducible refine AllP.go ?_); dsimp only [AllP, appP]; repeat' (first | with_reducible rfl | with_reducible exact LeD.refl | refine And.intro ?_ ?_ | (refine congrArg (Value.int _) ?_; first | omega | rfl | (simp only [Int.toNat_natCast]; omega)) | rfl | (refine congrArg Value.bool ?_; assumption) | assumption | exact LeD.refl)))) ?_
  intro _ _
  ((refine TE.run tysOk rfl (by rfl) ?_ ?_); (repeat' (first | (with_reducible refine AllP.go ?_; (first | exact trivial | exact fun i _ => ⟨_, rfl⟩ | ((try simp only [OS]); repeat' (first | omega | exact fun i _ => ⟨_, rfl⟩ | refine And.intro ?_ ?_)))) | (refine TE.rgo tysOk rfl (by rfl) ?_ ?_) | (with_reducible first | refine t1 ?_ | refine t2 ?_ | refine t3 ?_ | refine t4 ?_ | refine t5 ?_ | refine t6 ?_ | refine t7 ?_ | refine t8 ?_ | refine t9 ?_ | refine tA ?_ | refine tB ?_ | refine tC ?_ | refine tD rfl ?_ | refine tE ?_ | refine tF ?_ | refine tG ?_ | refine tH ?_ | refine tI ?_ | refine tJ ?_ | refine tK ?_ | refine tL ?_) | (with_reducible first | exact PanicOk.body | exact rd.panic | refine PanicOk.then' ?_ | refine PanicOk.block ?_ | refine PanicOk.jump ?_) | (refine TE.drawC (by rfl) (by rfl) (by rfl) (by rfl) ?_) | (refine TE.drawN (by rfl) (by rfl) (by rfl) ?_) | (refine TL.done (by rfl) ?_) | (refine TL.auto tysOk rfl ?_ (by rfl) ?_ ?_) | ((refine TL.one (by rfl) ?_); first | (refine StepL.mem tysOk rfl rfl rfl rfl (by rfl) ?_ (by rfl) ?_) | (refine StepL.pure tysOk rfl rfl rfl rfl (by rfl) ?_ (by rfl) ?_)) | (refine StepL.mem tysOk rfl rfl rfl rfl (by rfl) ?_ (by rfl) ?_) | refine TE.cond_true (by rfl) ?_ | refine TE.cond_false (by rfl) ?_ | ((refine TE.gsplit (by rfl) (by rfl) ?_ ?_ <;> intro h <;> (try simp only [NS] at h) <;> (try (exfalso; first | omega | exact h trivial | exact h | exact h rfl | contradiction))) <;> (refine TE.run tysOk rfl (by rfl) ?_ ?_)) | ((first | refine TL.gsplit (by rfl) (by rfl) ?_ ?_ | refine TE.cond_split (by rfl) ?_ ?_) <;> intro h <;> (try simp only [NS] at h) <;> (try (exfalso; first | omega | exact h trivial | exact h | exact h rfl | contradiction))))))
  rw [hz]
  (refine TE.ret' (by first | exact .inl rfl | exact .inr rfl) rfl tysOk (()) ?_ rfl (by rfl) ?_; all_goals (try (first | exact trivial | ((with_reducible refine AllP.go ?_); dsimp only [AllP, appP]; repeat' (first | with_reducible rfl | with_reducible exact LeD.refl | refine And.intro ?_ ?_ | (refine congrArg (Value.int _) ?_; first | omega | rfl | (simp only [Int.toNat_natCast]; omega)) | rfl | (refine congrArg Value.bool ?_; assumption) | exact LeD.refl)))))
  exact str_ap l s
set_option maxRecDepth 20000 in
theorem blWS_c (l s : List UInt8) (hl : l.length + s.length ≤ 1000000) : Con Tryd.prog 48 [.o (.ptr 0 0), .o (.c (.string (sB s)))] (blC l) 2 3 U (fun _ => .t [.inl (.c (.int .i64 (s.length : Nat))), .inl (.c .nilIface)]) (fun _ => blG (l ++ s)) := by
  refine con_of Tryd.func48 rfl (by kernel_rfl) Tryd.ntmps48 rfl (by first | exact Nat.zero_le _ | decide) (fun _ => ⟨rfl, rfl⟩) fun w S ν => ?_
  have hz := sB_size s
  (repeat (first | (with_reducible refine AllP.go ?_; (first | exact trivial | exact fun i _ => ⟨_, rfl⟩ | ((try simp only [OS]); repeat' (first | omega | exact fun i _ => ⟨_, rfl⟩ | refine And.intro ?_ ?_)))) | (refine TE.rgo tysOk rfl (by rfl) ?_ ?_) | (with_reducible first | refine t1 ?_ | refine t2 ?_ | refine t3 ?_ | refine t4 ?_ | refine t5 ?_ | refine t6 ?_ | refine t7 ?_ | refine t8 ?_ | refine t9 ?_ | refine tA ?_ | refine tB ?_ | refine tC ?_ | refine tD rfl ?_ | refine tE ?_ | refine tF ?_ | refine tG ?_ | refine tH ?_ | refine tI ?_ | refine tJ ?_ | refine tK ?_ | refine tL ?_) | (with_reducible first | exact PanicOk.body | exact rd.panic | refine PanicOk.then' ?_ | refine PanicOk.block ?_ | refine PanicOk.jump ?_) | (refine TE.drawC (by rfl) (by rfl) (by rfl) (by rfl) ?_) | (refine TE.drawN (by rfl) (by rfl) (by rfl) ?_) | (refine TL.done (by rfl) ?_) | (refine TL.auto tysOk rfl ?_ (by rfl) ?_ ?_) | ((refine TL.one (by rfl) ?_); first | (refine StepL.mem tysOk rfl rfl rfl rfl (by rfl) ?_ (by rfl) ?_) | (refine StepL.pure tysOk rfl rfl rfl rfl (by rfl) ?_ (by rfl) ?_)) | (refine StepL.mem tysOk rfl rfl rfl rfl (by rfl) ?_ (by rfl) ?_) | refine TE.cond_true (by rfl) ?_ | refine TE.cond_false (by rfl) ?_))
  refine TE.callW (ccU_c l) rfl (by rfl) (by rfl) rfl (by rfl) (by (first | exact trivial | ((with_reducible refine AllP.go ?_); dsimp only [AllP, appP]; repeat' (first | with_reducible rfl | with_reducible exact LeD.refl | refine And.intro ?_ ?_ | (refine congrArg (Value.int _) ?_; first | omega | rfl | (simp only [Int.toNat_natCast]; omega)) | rfl | (refine congrArg Value.bool ?_; assumption) | assumption | exact LeD.refl)))) ?_
  intro _ _
  ((refine TE.run tysOk rfl (by rfl) ?_ ?_); (repeat' (first | (with_reducible refine AllP.go ?_; (first | exact trivial | exact fun i _ => ⟨_, rfl⟩ | ((try simp only [OS]); repeat' (first | omega | exact fun i _ => ⟨_, rfl⟩ | refine And.intro ?_ ?_)))) | (refine TE.rgo tysOk rfl (by rfl) ?_ ?_) | (with_reducible first | refine t1 ?_ | refine t2 ?_ | refine t3 ?_ | refine t4 ?_ | refine t5 ?_ | refine t6 ?_ | refine t7 ?_ | refine t8 ?_ | refine t9 ?_ | refine tA ?_ | refine tB ?_ | refine tC ?_ | refine tD rfl ?_ | refine tE ?_ | refine tF ?_ | refine tG ?_ | refine tH ?_ | refine tI ?_ | refine tJ ?_ | refine tK ?_ | refine tL ?_) | (with_reducible first | exact PanicOk.body | exact rd.panic | refine PanicOk.then' ?_ | refine PanicOk.block ?_ | refine PanicOk.jump ?_) | (refine TE.drawC (by rfl) (by rfl) (by rfl) (by rfl) ?_) | (refine TE.drawN (by rfl) (by rfl) (by rfl) ?_) | (refine TL.done (by rfl) ?_) | (refine TL.auto tysOk rfl ?_ (by rfl) ?_ ?_) | ((refine TL.one (by rfl) ?_); first | (refine StepL.mem tysOk rfl rfl rfl rfl (by rfl) ?_ (by rfl) ?_) | (refine StepL.pure tysOk rfl rfl rfl rfl (by rfl) ?_ (by rfl) ?_)) | (refine StepL.mem tysOk rfl rfl rfl rfl (by rfl) ?_ (by rfl) ?_) | refine TE.cond_true (by rfl) ?_ | refine TE.cond_false (by rfl) ?_ | ((refine TE.gsplit (by rfl) (by rfl) ?_ ?_ <;> intro h <;> (try simp only [NS] at h) <;> (try (exfalso; first | omega | exact h trivial | exact h | exact h rfl | contradiction))) <;> (refine TE.run tysOk rfl (by rfl) ?_ ?_)) | ((first | refine TL.gsplit (by rfl) (by rfl) ?_ ?_ | refine TE.cond_split (by rfl) ?_ ?_) <;> intro h <;> (try simp only [NS] at h) <;> (try (exfalso; first | omega | exact h trivial | exact h | exact h rfl | contradiction))))))
  rw [hz]
  (refine TE.ret' (by first | exact .inl rfl | exact .inr rfl) rfl tysOk (()) ?_ rfl (by rfl) ?_; all_goals (try (first | exact trivial | ((with_reducible refine AllP.go ?_); dsimp only [AllP, appP]; repeat' (first | with_reducible rfl | with_reducible exact LeD.refl | refine And.intro ?_ ?_ | (refine congrArg (Value.int _) ?_; first | omega | rfl | (simp only [Int.toNat_natCast]; omega)) | rfl | (refine congrArg Value.bool ?_; assumption) | exact LeD.refl)))))
  exact str_ap l s
set_option maxRecDepth 20000 in
theorem blLenN_c (l : List UInt8) : Con Tryd.prog 46 [.o (.ptr 0 0)] (blN l) 2 2 U (fun _ => .o (.c (.int .i64 (l.length : Nat)))) (fun _ => blN l) := by
  refine con_of Tryd.func46 rfl (by kernel_rfl) Tryd.ntmps46 rfl (by first | exact Nat.zero_le _ | decide) (fun _ => ⟨rfl, rfl⟩) fun w S ν => ?_
  (repeat' (first | (with_reducible refine AllP.go ?_; (first | exact trivial | exact fun i _ => ⟨_, rfl⟩ | ((try simp only [OS]); repeat' (first | omega | exact fun i _ => ⟨_, rfl⟩ | refine And.intro ?_ ?_)))) | (refine TE.rgo tysOk rfl (by rfl) ?_ ?_) | (with_reducible first | refine t1 ?_ | refine t2 ?_ | refine t3 ?_ | refine t4 ?_ | refine t5 ?_ | refine t6 ?_ | refine t7 ?_ | refine t8 ?_ | refine t9 ?_ | refine tA ?_ | refine tB ?_ | refine tC ?_ | refine tD rfl ?_ | refine tE ?_ | refine tF ?_ | refine tG ?_ | refine tH ?_ | refine tI ?_ | refine tJ ?_ | refine tK ?_ | refine tL ?_) | (with_reducible first | exact PanicOk.body | exact rd.panic | refine PanicOk.then' ?_ | refine PanicOk.block ?_ | refine PanicOk.jump ?_) | (refine TE.drawC (by rfl) (by rfl) (by rfl) (by rfl) ?_) | (refine TE.drawN (by rfl) (by rfl) (by rfl) ?_) | (refine TL.done (by rfl) ?_) | (refine TL.auto tysOk rfl ?_ (by rfl) ?_ ?_) | ((refine TL.one (by rfl) ?_); first | (refine StepL.mem tysOk rfl rfl rfl rfl (by rfl) ?_ (by rfl) ?_) | (refine StepL.pure tysOk rfl rfl rfl rfl (by rfl) ?_ (by rfl) ?_)) | (refine StepL.mem tysOk rfl rfl rfl rfl (by rfl) ?_ (by rfl) ?_) | refine TE.cond_true (by rfl) ?_ | refine TE.cond_false (by rfl) ?_ | ((refine TE.gsplit (by rfl) (by rfl) ?_ ?_ <;> intro h <;> (try simp only [NS] at h) <;> (try (exfalso; first | omega | exact h trivial | exact h | exact h rfl | contradiction))) <;> (refine TE.run tysOk rfl (by rfl) ?_ ?_)) | ((first | refine TL.gsplit (by rfl) (by rfl) ?_ ?_ | refine TE.cond_split (by rfl) ?_ ?_) <;> intro h <;> (try simp only [NS] at h) <;> (try (exfalso; first | omega | exact h trivial | exact h | exact h rfl | contradiction)))))
  (refine TE.ret' (by first | exact .inl rfl | exact .inr rfl) rfl tysOk (()) ?_ rfl (by rfl) ?_; all_goals (try (first | exact trivial | ((with_reducible refine AllP.go ?_); dsimp only [AllP, appP]; repeat' (first | with_reducible rfl | with_reducible exact LeD.refl | refine And.intro ?_ ?_ | (refine congrArg (Value.int _) ?_; first | omega | rfl | (simp only [Int.toNat_natCast]; omega)) | rfl | (refine congrArg Value.bool ?_; assumption) | exact LeD.refl)))))
set_option maxRecDepth 20000 in
theorem blLen_c (l : List UInt8) : Con Tryd.prog 46 [.o (.ptr 0 0)] (blC l) 2 2 U (fun _ => .o (.c (.int .i64 (l.length : Nat)))) (fun _ => blC l) := by
  refine con_of Tryd.func46 rfl (by kernel_rfl) Tryd.ntmps46 rfl (by first | exact Nat.zero_le _ | decide) (fun _ => ⟨rfl, rfl⟩) fun w S ν => ?_
  (repeat' (first | (with_reducible refine AllP.go ?_; (first | exact trivial | exact fun i _ => ⟨_, rfl⟩ | ((try simp only [OS]); repeat' (first | omega | exact fun i _ => ⟨_, rfl⟩ | refine And.intro ?_ ?_)))) | (refine TE.rgo tysOk rfl (by rfl) ?_ ?_) | (with_reducible first | refine t1 ?_ | refine t2 ?_ | refine t3 ?_ | refine t4 ?_ | refine t5 ?_ | refine t6 ?_ | refine t7 ?_ | refine t8 ?_ | refine t9 ?_ | refine tA ?_ | refine tB ?_ | refine tC ?_ | refine tD rfl ?_ | refine tE ?_ | refine tF ?_ | refine tG ?_ | refine tH ?_ | refine tI ?_ | refine tJ ?_ | refine tK ?_ | refine tL ?_) | (with_reducible first | exact PanicOk.body | exact rd.panic | refine PanicOk.then' ?_ | refine PanicOk.block ?_ | refine PanicOk.jump ?_) | (refine TE.drawC (by rfl) (by rfl) (by rfl) (by rfl) ?_) | (refine TE.drawN (by rfl) (by rfl) (by rfl) ?_) | (refine TL.done (by rfl) ?_) | (refine TL.auto tysOk rfl ?_ (by rfl) ?_ ?_) | ((refine TL.one (by rfl) ?_); first | (refine StepL.mem tysOk rfl rfl rfl rfl (by rfl) ?_ (by rfl) ?_) | (refine StepL.pure tysOk rfl rfl rfl rfl (by rfl) ?_ (by rfl) ?_)) | (refine StepL.mem tysOk rfl rfl rfl rfl (by rfl) ?_ (by rfl) ?_) | refine TE.cond_true (by rfl) ?_ | refine TE.cond_false (by rfl) ?_ | ((refine TE.gsplit (by rfl) (by rfl) ?_ ?_ <;> intro h <;> (try simp only [NS] at h) <;> (try (exfalso; first | omega | exact h trivial | exact h | exact h rfl | contradiction))) <;> (refine TE.run tysOk rfl (by rfl) ?_ ?_)) | ((first | refine TL.gsplit (by rfl) (by rfl) ?_ ?_ | refine TE.cond_split (by rfl) ?_ ?_) <;> intro h <;> (try simp only [NS] at h) <;> (try (exfalso; first | omega | exact h trivial | exact h | exact h rfl | contradiction)))))
  (refine TE.ret' (by first | exact .inl rfl | exact .inr rfl) rfl tysOk (()) ?_ rfl (by rfl) ?_; all_goals (try (first | exact trivial | ((with_reducible refine AllP.go ?_); dsimp only [AllP, appP]; repeat' (first | with_reducible rfl | with_reducible exact LeD.refl | refine And.intro ?_ ?_ | (refine congrArg (Value.int _) ?_; first | omega | rfl | (simp only [Int.toNat_natCast]; omega)) | rfl | (refine congrArg Value.bool ?_; assumption) | exact LeD.refl)))))
set_option maxRecDepth 20000 in
theorem blStr_c (l : List UInt8) (hl : l ≠ []) : Con Tryd.prog 50 [.o (.ptr 0 0)] (blC l) 2 2 U (fun _ => .o (.c (.string (sB l)))) (fun _ => []) := by
  refine con_of Tryd.func50 rfl (by kernel_rfl) Tryd.ntmps50 rfl (by first | exact Nat.zero_le _ | decide) (fun _ => ⟨rfl, rfl⟩) fun w S ν => ?_
  have h0 : 0 < (bytesC l).n := List.length_pos_iff.2 hl
  (repeat' (first | (with_reducible refine AllP.go ?_; (first | exact trivial | exact fun i _ => ⟨_, rfl⟩ | ((try simp only [OS]); repeat' (first | omega | exact fun i _ => ⟨_, rfl⟩ | refine And.intro ?_ ?_)))) | (refine TE.rgo tysOk rfl (by rfl) ?_ ?_) | (with_reducible first | refine t1 ?_ | refine t2 ?_ | refine t3 ?_ | refine t4 ?_ | refine t5 ?_ | refine t6 ?_ | refine t7 ?_ | refine t8 ?_ | refine t9 ?_ | refine tA ?_ | refine tB ?_ | refine tC ?_ | refine tD rfl ?_ | refine tE ?_ | refine tF ?_ | refine tG ?_ | refine tH ?_ | refine tI ?_ | refine tJ ?_ | refine tK ?_ | refine tL ?_) | refine TE.cond_true (by rfl) ?_ | refine TE.cond_false (by rfl) ?_ | ((refine TE.gsplit (by rfl) (by rfl) ?_ ?_ <;> intro h <;> (try simp only [NS] at h) <;> (try (exfalso; first | omega | exact h trivial | exact h | exact h rfl | contradiction))) <;> (refine TE.run tysOk rfl (by rfl) ?_ ?_)) | ((first | refine TL.gsplit (by rfl) (by rfl) ?_ ?_ | refine TE.cond_split (by rfl) ?_ ?_) <;> intro h <;> (try simp only [NS] at h) <;> (try (exfalso; first | omega | exact h trivial | exact h | exact h rfl | contradiction)))))
  (refine TE.drawK (fun _ => false) (by rfl) (by rfl) (by rfl) ?_)
  repeat' (first | (with_reducible refine AllP.go ?_; (first | exact trivial | exact fun i _ => ⟨_, rfl⟩ | ((try simp only [OS]); repeat' (first | omega | exact fun i _ => ⟨_, rfl⟩ | refine And.intro ?_ ?_)))) | (with_reducible first | exact PanicOk.body | exact rd.panic | refine PanicOk.then' ?_ | refine PanicOk.block ?_ | refine PanicOk.jump ?_) | (refine TL.done (by rfl) ?_) | (refine TL.auto tysOk rfl ?_ (by rfl) ?_ ?_) | (refine StepL.mem tysOk rfl rfl rfl rfl (by rfl) ?_ (by rfl) ?_) | (refine StepL.pure tysOk rfl rfl rfl rfl (by rfl) ?_ (by rfl) ?_) | (refine TL.one (by rfl) ?_) | (refine TL.two (by rfl) ?_ ?_) | (refine TL.three (by rfl) ?_ ?_ ?_) | (refine TL.four (by rfl) ?_ ?_ ?_ ?_) | (refine StepL.law rfl rfl rfl (fun _ h => nomatch h) (by rfl) (m_sliceData rfl rfl rfl rfl rfl (by rfl) ?_) (by rfl) ?_; rotate_left; rintro _ rfl; rotate_right) | (refine StepL.law rfl rfl rfl (fun _ h => nomatch h) (by rfl) (m_unsafeString rfl rfl rfl rfl rfl (by kernel_rfl) rfl rfl (by rfl) hl) (by rfl) ?_; rintro _ rfl))
  all_goals first | exact h0 | skip
  all_goals (repeat' (first | (with_reducible refine AllP.go ?_; (first | exact trivial | exact fun i _ => ⟨_, rfl⟩ | ((try simp only [OS]); repeat' (first | omega | exact fun i _ => ⟨_, rfl⟩ | refine And.intro ?_ ?_)))) | (refine TE.rgo tysOk rfl (by rfl) ?_ ?_) | (with_reducible first | refine t1 ?_ | refine t2 ?_ | refine t3 ?_ | refine t4 ?_ | refine t5 ?_ | refine t6 ?_ | refine t7 ?_ | refine t8 ?_ | refine t9 ?_ | refine tA ?_ | refine tB ?_ | refine tC ?_ | refine tD rfl ?_ | refine tE ?_ | refine tF ?_ | refine tG ?_ | refine tH ?_ | refine tI ?_ | refine tJ ?_ | refine tK ?_ | refine tL ?_) | refine TE.cond_true (by rfl) ?_ | refine TE.cond_false (by rfl) ?_ | ((refine TE.gsplit (by rfl) (by rfl) ?_ ?_ <;> intro h <;> (try simp only [NS] at h) <;> (try (exfalso; first | omega | exact h trivial | exact h | exact h rfl | contradiction))) <;> (refine TE.run tysOk rfl (by rfl) ?_ ?_)) | ((first | refine TL.gsplit (by rfl) (by rfl) ?_ ?_ | refine TE.cond_split (by rfl) ?_ ?_) <;> intro h <;> (try simp only [NS] at h) <;> (try (exfalso; first | omega | exact h trivial | exact h | exact h rfl | contradiction)))))
  all_goals (refine TE.ret' (by first | exact .inl rfl | exact .inr rfl) rfl tysOk (()) ?_ rfl (by rfl) ?_; all_goals (try (first | exact trivial | ((with_reducible refine AllP.go ?_); dsimp only [AllP, appP]; repeat' (first | with_reducible rfl | with_reducible exact LeD.refl | refine And.intro ?_ ?_ | (refine congrArg (Value.int _) ?_; first | omega | rfl | (simp only [Int.toNat_natCast]; omega)) | rfl | (refine congrArg Value.bool ?_; assumption) | exact LeD.refl)))))
end Go.Proofs.YtmeapfckibbbbaaDoor.Am
/- The words: fields joined to a line, the program's. -/
set_option linter.unusedVariables false
namespace Go.Proofs.YtmeapfckibbbbaaDoor.Am
open Go.RowKit Lw Wo Go.Shelf
def strR' (x : Bs) (_ : Nat) : DC := .c (.string (sB x))
abbrev strsC (l : List Bs) : Ct := listC strR' [] l
theorem map_sB (xs : List Bs) : (xs.map sB).map (·.data.toList) = xs := by
  rw [List.map_map]
  exact List.map_id _
set_option maxRecDepth 20000 in
theorem join_c (xs : List Bs) (sep : Bs) (hl : xs.length ≤ 1000000) (hj : (Lib.join xs sep).length ≤ 1000000) : Con Tryd.prog 43 [.o (.ro 1 xs.length (strsC xs).cell), .o (.c (.string (sB sep)))] [] 0 0 U (fun _ => .o (.c (.string (sB (Lib.join xs sep))))) G0 := by
  refine con_below (takes := []) (fn := Tryd.f43) Tryd.func43 (by kernel_rfl) (by kernel_rfl) rfl rfl (Nat.le_refl _) (fun _ => rfl) rfl fun w S ν vs hv _ => ?_
  match vs, hv with
  | [u, v], ⟨⟨A, c, hu, h1, h2, h3, h4⟩, ⟨hv, _⟩, _⟩ =>
    subst hu hv
    cases xs with
    | nil =>
      refine Calls.mono (Any.strings_Join_none Tryd.lays156 Tryd.Builder_Extra_156 A c (sB sep) w) ?_
      rintro e w' ⟨rfl, rfl⟩
      exact ⟨(), _, rfl, trivial, fun _ _ _ => ⟨rfl, rfl⟩, Below.refl _ _⟩
    | cons x r =>
      obtain ⟨b, off, rfl, hs, hb, hc⟩ := h4 (by simp)
      have hm := map_sB (x :: r)
      have hlen : ((x :: r).map sB).length = (x :: r).length := by simp
      have hj2 : (Lib.join (((x :: r).map sB).map (·.data.toList)) (sB sep).data.toList).length ≤ 140737488355328 := by
        rw [hm]
        show (Lib.join (x :: r) sep).length ≤ _
        omega
      have hcall := Any.strings_Join Tryd.lays156 Tryd.Builder_Extra_156 b off c ((x :: r).map sB) (sB sep) w (fun j y hy => ?_) hb (by rw [hlen]; omega) (by rw [hlen]; omega) hj2
      · rw [hlen] at hcall
        refine Calls.mono hcall ?_
        rintro e w' ⟨rfl, hbl⟩
        refine ⟨(), _, rfl, trivial, fun _ _ _ => ⟨?_, rfl⟩, hbl⟩
        rw [hm]
      · have hjl : j < (x :: r).length := by
          have := (List.getElem?_eq_some_iff.1 hy).1
          simpa using this
        obtain ⟨u, u1, u2⟩ := hc j 0 hjl (by decide)
        rw [Nat.mul_one, Nat.add_zero] at u1
        rw [u1, u2.1]
        rw [List.getElem?_map, List.getElem?_eq_getElem hjl] at hy
        cases hy
        show some (Value.string (sB ((x :: r).getD j []))) = _
        rw [List.getD_eq_getElem?_getD, List.getElem?_eq_getElem hjl]
        rfl
theorem wordq {x : Fld} (h : x.2 = true) : wordOf x = quoteI x.1 := if_pos h
theorem wordb {x : Fld} (h : x.2 = false) : wordOf x = x.1 := if_neg (by rw [h]; decide)
set_option maxRecDepth 20000 in
set_option maxHeartbeats 4000000 in
theorem Join_c (m : Int) (te : TypeId) (pe : Value) (l : List Fld) (hl : l.length ≤ 1000000) : Con Tryd.prog 24 [.o (.ro 2 l.length (fdC l).cell)] (glC m te pe) 4 4 U (fun _ => .t [.inl (.c (.string (sB (joinI l).1))), .inl (.c (.int .i64 (joinI l).2))]) (fun _ => glC m te pe) := by
  refine con_of Tryd.func24 rfl (by kernel_rfl) Tryd.ntmps24 rfl (by first | exact Nat.zero_le _ | decide) (fun _ => ⟨rfl, rfl⟩) fun w S ν => ?_
  (repeat' (first | (with_reducible refine AllP.go ?_; (first | exact trivial | exact fun i _ => ⟨_, rfl⟩ | ((try simp only [OS]); repeat' (first | omega | exact fun i _ => ⟨_, rfl⟩ | refine And.intro ?_ ?_)))) | (refine TE.rgo tysOk rfl (by rfl) ?_ ?_) | (with_reducible first | refine t1 ?_ | refine t2 ?_ | refine t3 ?_ | refine t4 ?_ | refine t5 ?_ | refine t6 ?_ | refine t7 ?_ | refine t8 ?_ | refine t9 ?_ | refine tA ?_ | refine tB ?_ | refine tC ?_ | refine tD rfl ?_ | refine tE ?_ | refine tF ?_ | refine tG ?_ | refine tH ?_ | refine tI ?_ | refine tJ ?_ | refine tK ?_ | refine tL ?_) | refine TE.cond_true (by rfl) ?_ | refine TE.cond_false (by rfl) ?_ | ((refine TE.gsplit (by rfl) (by rfl) ?_ ?_ <;> intro h <;> (try simp only [NS] at h) <;> (try (exfalso; first | omega | exact h trivial | exact h | exact h rfl | contradiction))) <;> (refine TE.run tysOk rfl (by rfl) ?_ ?_)) | ((first | refine TL.gsplit (by rfl) (by rfl) ?_ ?_ | refine TE.cond_split (by rfl) ?_ ?_) <;> intro h <;> (try simp only [NS] at h) <;> (try (exfalso; first | omega | exact h trivial | exact h | exact h rfl | contradiction)))))
  · rw [show joinI l = ([], 3) from if_pos (.inl (by omega))]
    (refine TE.ret' (by first | exact .inl rfl | exact .inr rfl) rfl tysOk (()) ?_ rfl (by rfl) ?_; all_goals (try (first | exact trivial | ((with_reducible refine AllP.go ?_); dsimp only [AllP, appP]; repeat' (first | with_reducible rfl | with_reducible exact LeD.refl | refine And.intro ?_ ?_ | (refine congrArg (Value.int _) ?_; first | omega | rfl | (simp only [Int.toNat_natCast]; omega)) | rfl | (refine congrArg Value.bool ?_; assumption) | exact LeD.refl)))))
  have h64 : l.length ≤ 64 := by omega
  refine TE.nilOwn 5 9 1 (by rfl) ?_
  (refine TE.only [15, 14, 13, 5, 4, 0] (by rfl) ?_)
  refine TE.loopG (fun q : Nat => q ≤ l.length ∧ ∀ k, k < q → (l.getD k ([], false)).1.length ≤ 2000) (fun q => [(15, .o (.c (.int .i64 q))), (5, .o (.own 4)), (4, .o (.c (.int .i64 (formF (l.take q)))))]) [4] (fun q => [.own 4 9 1 (strsC ((l.take q).map wordOf))]) (fun q => l.length - q) 0 (by rfl) ⟨Nat.zero_le _, fun k hk => absurd hk (Nat.not_lt_zero _)⟩ ?_ ?_
  · (refine Ent.of rfl rfl (by rfl) ?_; (try (first | exact trivial | ((with_reducible refine AllP.go ?_); dsimp only [AllP, appP]; repeat' (first | with_reducible rfl | with_reducible exact LeD.refl | refine And.intro ?_ ?_ | (refine congrArg (Value.int _) ?_; first | omega | rfl | (simp only [Int.toNat_natCast]; omega)) | rfl | (refine congrArg Value.bool ?_; assumption) | exact LeD.refl)))))
    exact LeDC.nil rfl rfl
  rintro q ⟨g1, g2⟩
  have hsz := sB_size (l.getD q ([], false)).1
  have hnext : ∀ {f : Int}, (l.getD q ([], false)).1.length ≤ 2000 → q < l.length → ∀ k, k < q + 1 → (l.getD k ([], false)).1.length ≤ 2000 := fun {_} h1 h2 k hk => by
    rcases Nat.lt_or_ge k q with h3 | h3
    · exact g2 k h3
    · obtain rfl : k = q := by omega
      exact h1
  (repeat' (first | (with_reducible refine AllP.go ?_; (first | exact trivial | exact fun i _ => ⟨_, rfl⟩ | ((try simp only [OS]); repeat' (first | omega | exact fun i _ => ⟨_, rfl⟩ | refine And.intro ?_ ?_)))) | (refine TE.rgo tysOk rfl (by rfl) ?_ ?_) | (with_reducible first | refine t1 ?_ | refine t2 ?_ | refine t3 ?_ | refine t4 ?_ | refine t5 ?_ | refine t6 ?_ | refine t7 ?_ | refine t8 ?_ | refine t9 ?_ | refine tA ?_ | refine tB ?_ | refine tC ?_ | refine tD rfl ?_ | refine tE ?_ | refine tF ?_ | refine tG ?_ | refine tH ?_ | refine tI ?_ | refine tJ ?_ | refine tK ?_ | refine tL ?_) | refine TE.cond_true (by rfl) ?_ | refine TE.cond_false (by rfl) ?_ | ((refine TE.gsplit (by rfl) (by rfl) ?_ ?_ <;> intro h <;> (try simp only [NS] at h) <;> (try (exfalso; first | omega | exact h trivial | exact h | exact h rfl | contradiction))) <;> (refine TE.run tysOk rfl (by rfl) ?_ ?_)) | ((first | refine TL.gsplit (by rfl) (by rfl) ?_ ?_ | refine TE.cond_split (by rfl) ?_ ?_) <;> intro h <;> (try simp only [NS] at h) <;> (try (exfalso; first | omega | exact h trivial | exact h | exact h rfl | contradiction)))))
  · rw [show joinI l = ([], 3) from if_pos (.inr (long_any (q := q) (by omega) (by omega)))]
    (refine TE.ret' (by first | exact .inl rfl | exact .inr rfl) rfl tysOk (()) ?_ rfl (by rfl) ?_; all_goals (try (first | exact trivial | ((with_reducible refine AllP.go ?_); dsimp only [AllP, appP]; repeat' (first | with_reducible rfl | with_reducible exact LeD.refl | refine And.intro ?_ ?_ | (refine congrArg (Value.int _) ?_; first | omega | rfl | (simp only [Int.toNat_natCast]; omega)) | rfl | (refine congrArg Value.bool ?_; assumption) | exact LeD.refl)))))
  · have hq : q < l.length := by omega
    have h2000 : (l.getD q ([], false)).1.length ≤ 2000 := by omega
    have htk := takeF hq
    have hmn : ((l.take q).map wordOf).length = q := by rw [List.length_map, List.length_take]; omega
    have hcn : (strsC ((l.take q).map wordOf)).n = q := hmn
    have htn : (l.take q).length = q := by rw [List.length_take]; omega
    have hmap : (l.take (q + 1)).map wordOf = (l.take q).map wordOf ++ [wordOf (l.getD q ([], false))] := by rw [htk, List.map_append]; rfl
    cases hb : (l.getD q ([], false)).2
    · have hw := wordb hb
      rw [show (l.getD ((q : Nat) : Int).toNat ([], false)).2 = false from hb]
      (repeat' (first | (with_reducible refine AllP.go ?_; (first | exact trivial | exact fun i _ => ⟨_, rfl⟩ | ((try simp only [OS]); repeat' (first | omega | exact fun i _ => ⟨_, rfl⟩ | refine And.intro ?_ ?_)))) | (refine TE.rgo tysOk rfl (by rfl) ?_ ?_) | (with_reducible first | refine t1 ?_ | refine t2 ?_ | refine t3 ?_ | refine t4 ?_ | refine t5 ?_ | refine t6 ?_ | refine t7 ?_ | refine t8 ?_ | refine t9 ?_ | refine tA ?_ | refine tB ?_ | refine tC ?_ | refine tD rfl ?_ | refine tE ?_ | refine tF ?_ | refine tG ?_ | refine tH ?_ | refine tI ?_ | refine tJ ?_ | refine tK ?_ | refine tL ?_) | refine TE.cond_true (by rfl) ?_ | refine TE.cond_false (by rfl) ?_ | ((refine TE.gsplit (by rfl) (by rfl) ?_ ?_ <;> intro h <;> (try simp only [NS] at h) <;> (try (exfalso; first | omega | exact h trivial | exact h | exact h rfl | contradiction))) <;> (refine TE.run tysOk rfl (by rfl) ?_ ?_)) | ((first | refine TL.gsplit (by rfl) (by rfl) ?_ ?_ | refine TE.cond_split (by rfl) ?_ ?_) <;> intro h <;> (try simp only [NS] at h) <;> (try (exfalso; first | omega | exact h trivial | exact h | exact h rfl | contradiction)))))
      refine TE.callW (isBare_c (l.getD q ([], false)).1 (by omega)) rfl (by rfl) (by rfl) rfl (by rfl) (by (first | exact trivial | ((with_reducible refine AllP.go ?_); dsimp only [AllP, appP]; repeat' (first | with_reducible rfl | with_reducible exact LeD.refl | refine And.intro ?_ ?_ | (refine congrArg (Value.int _) ?_; first | omega | rfl | (simp only [Int.toNat_natCast]; omega)) | rfl | (refine congrArg Value.bool ?_; assumption) | assumption | exact LeD.refl)))) ?_
      intro _ _
      cases hbare : bareI (l.getD q ([], false)).1
      · have hf : formF (l.take (q + 1)) = 6 := by
          rw [htk]
          exact formF_bad (by unfold goodF; rw [hb, hbare]; rfl)
        ((refine TE.run tysOk rfl (by rfl) ?_ ?_); (repeat' (first | (with_reducible refine AllP.go ?_; (first | exact trivial | exact fun i _ => ⟨_, rfl⟩ | ((try simp only [OS]); repeat' (first | omega | exact fun i _ => ⟨_, rfl⟩ | refine And.intro ?_ ?_)))) | (refine TE.rgo tysOk rfl (by rfl) ?_ ?_) | (with_reducible first | refine t1 ?_ | refine t2 ?_ | refine t3 ?_ | refine t4 ?_ | refine t5 ?_ | refine t6 ?_ | refine t7 ?_ | refine t8 ?_ | refine t9 ?_ | refine tA ?_ | refine tB ?_ | refine tC ?_ | refine tD rfl ?_ | refine tE ?_ | refine tF ?_ | refine tG ?_ | refine tH ?_ | refine tI ?_ | refine tJ ?_ | refine tK ?_ | refine tL ?_) | refine TE.cond_true (by rfl) ?_ | refine TE.cond_false (by rfl) ?_ | ((refine TE.gsplit (by rfl) (by rfl) ?_ ?_ <;> intro h <;> (try simp only [NS] at h) <;> (try (exfalso; first | omega | exact h trivial | exact h | exact h rfl | contradiction))) <;> (refine TE.run tysOk rfl (by rfl) ?_ ?_)) | ((first | refine TL.gsplit (by rfl) (by rfl) ?_ ?_ | refine TE.cond_split (by rfl) ?_ ?_) <;> intro h <;> (try simp only [NS] at h) <;> (try (exfalso; first | omega | exact h trivial | exact h | exact h rfl | contradiction))))))
        refine TE.again' (q + 1) ⟨by omega, hnext (f := 0) h2000 hq⟩ (by omega) ?_
        rw [hf, hmap, hw]
        (refine Ent.of rfl rfl (by rfl) ?_; (try (first | exact trivial | ((with_reducible refine AllP.go ?_); dsimp only [AllP, appP]; repeat' (first | with_reducible rfl | with_reducible exact LeD.refl | refine And.intro ?_ ?_ | (refine congrArg (Value.int _) ?_; first | omega | rfl | (simp only [Int.toNat_natCast]; omega)) | rfl | (refine congrArg Value.bool ?_; assumption) | exact LeD.refl)))))
        exact listC_snoc _ rfl (nth1 rfl)
      · have hf : formF (l.take (q + 1)) = formF (l.take q) := by
          rw [htk]
          exact formF_good (by unfold goodF; rw [hbare, Bool.or_true])
        ((refine TE.run tysOk rfl (by rfl) ?_ ?_); (repeat' (first | (with_reducible refine AllP.go ?_; (first | exact trivial | exact fun i _ => ⟨_, rfl⟩ | ((try simp only [OS]); repeat' (first | omega | exact fun i _ => ⟨_, rfl⟩ | refine And.intro ?_ ?_)))) | (refine TE.rgo tysOk rfl (by rfl) ?_ ?_) | (with_reducible first | refine t1 ?_ | refine t2 ?_ | refine t3 ?_ | refine t4 ?_ | refine t5 ?_ | refine t6 ?_ | refine t7 ?_ | refine t8 ?_ | refine t9 ?_ | refine tA ?_ | refine tB ?_ | refine tC ?_ | refine tD rfl ?_ | refine tE ?_ | refine tF ?_ | refine tG ?_ | refine tH ?_ | refine tI ?_ | refine tJ ?_ | refine tK ?_ | refine tL ?_) | refine TE.cond_true (by rfl) ?_ | refine TE.cond_false (by rfl) ?_ | ((refine TE.gsplit (by rfl) (by rfl) ?_ ?_ <;> intro h <;> (try simp only [NS] at h) <;> (try (exfalso; first | omega | exact h trivial | exact h | exact h rfl | contradiction))) <;> (refine TE.run tysOk rfl (by rfl) ?_ ?_)) | ((first | refine TL.gsplit (by rfl) (by rfl) ?_ ?_ | refine TE.cond_split (by rfl) ?_ ?_) <;> intro h <;> (try simp only [NS] at h) <;> (try (exfalso; first | omega | exact h trivial | exact h | exact h rfl | contradiction))))))
        refine TE.again' (q + 1) ⟨by omega, hnext (f := 0) h2000 hq⟩ (by omega) ?_
        rw [hf, hmap, hw]
        (refine Ent.of rfl rfl (by rfl) ?_; (try (first | exact trivial | ((with_reducible refine AllP.go ?_); dsimp only [AllP, appP]; repeat' (first | with_reducible rfl | with_reducible exact LeD.refl | refine And.intro ?_ ?_ | (refine congrArg (Value.int _) ?_; first | omega | rfl | (simp only [Int.toNat_natCast]; omega)) | rfl | (refine congrArg Value.bool ?_; assumption) | exact LeD.refl)))))
        exact listC_snoc _ rfl (nth1 rfl)
    · have hw := wordq hb
      have hf : formF (l.take (q + 1)) = formF (l.take q) := by
        rw [htk]
        exact formF_good (by unfold goodF; rw [hb, Bool.true_or])
      rw [show (l.getD ((q : Nat) : Int).toNat ([], false)).2 = true from hb]
      (repeat' (first | (with_reducible refine AllP.go ?_; (first | exact trivial | exact fun i _ => ⟨_, rfl⟩ | ((try simp only [OS]); repeat' (first | omega | exact fun i _ => ⟨_, rfl⟩ | refine And.intro ?_ ?_)))) | (refine TE.rgo tysOk rfl (by rfl) ?_ ?_) | (with_reducible first | refine t1 ?_ | refine t2 ?_ | refine t3 ?_ | refine t4 ?_ | refine t5 ?_ | refine t6 ?_ | refine t7 ?_ | refine t8 ?_ | refine t9 ?_ | refine tA ?_ | refine tB ?_ | refine tC ?_ | refine tD rfl ?_ | refine tE ?_ | refine tF ?_ | refine tG ?_ | refine tH ?_ | refine tI ?_ | refine tJ ?_ | refine tK ?_ | refine tL ?_) | refine TE.cond_true (by rfl) ?_ | refine TE.cond_false (by rfl) ?_ | ((refine TE.gsplit (by rfl) (by rfl) ?_ ?_ <;> intro h <;> (try simp only [NS] at h) <;> (try (exfalso; first | omega | exact h trivial | exact h | exact h rfl | contradiction))) <;> (refine TE.run tysOk rfl (by rfl) ?_ ?_)) | ((first | refine TL.gsplit (by rfl) (by rfl) ?_ ?_ | refine TE.cond_split (by rfl) ?_ ?_) <;> intro h <;> (try simp only [NS] at h) <;> (try (exfalso; first | omega | exact h trivial | exact h | exact h rfl | contradiction)))))
      refine TE.callW (Quote_c m te pe (l.getD q ([], false)).1 (by omega)) rfl (by rfl) (by rfl) rfl (by rfl) (by (first | exact trivial | ((with_reducible refine AllP.go ?_); dsimp only [AllP, appP]; repeat' (first | with_reducible rfl | with_reducible exact LeD.refl | refine And.intro ?_ ?_ | (refine congrArg (Value.int _) ?_; first | omega | rfl | (simp only [Int.toNat_natCast]; omega)) | rfl | (refine congrArg Value.bool ?_; assumption) | assumption | exact LeD.refl)))) ?_
      intro _ _
      ((refine TE.run tysOk rfl (by rfl) ?_ ?_); (repeat' (first | (with_reducible refine AllP.go ?_; (first | exact trivial | exact fun i _ => ⟨_, rfl⟩ | ((try simp only [OS]); repeat' (first | omega | exact fun i _ => ⟨_, rfl⟩ | refine And.intro ?_ ?_)))) | (refine TE.rgo tysOk rfl (by rfl) ?_ ?_) | (with_reducible first | refine t1 ?_ | refine t2 ?_ | refine t3 ?_ | refine t4 ?_ | refine t5 ?_ | refine t6 ?_ | refine t7 ?_ | refine t8 ?_ | refine t9 ?_ | refine tA ?_ | refine tB ?_ | refine tC ?_ | refine tD rfl ?_ | refine tE ?_ | refine tF ?_ | refine tG ?_ | refine tH ?_ | refine tI ?_ | refine tJ ?_ | refine tK ?_ | refine tL ?_) | refine TE.cond_true (by rfl) ?_ | refine TE.cond_false (by rfl) ?_ | ((refine TE.gsplit (by rfl) (by rfl) ?_ ?_ <;> intro h <;> (try simp only [NS] at h) <;> (try (exfalso; first | omega | exact h trivial | exact h | exact h rfl | contradiction))) <;> (refine TE.run tysOk rfl (by rfl) ?_ ?_)) | ((first | refine TL.gsplit (by rfl) (by rfl) ?_ ?_ | refine TE.cond_split (by rfl) ?_ ?_) <;> intro h <;> (try simp only [NS] at h) <;> (try (exfalso; first | omega | exact h trivial | exact h | exact h rfl | contradiction))))))
      refine TE.again' (q + 1) ⟨by omega, hnext (f := 0) h2000 hq⟩ (by omega) ?_
      rw [hf, hmap, hw]
      (refine Ent.of rfl rfl (by rfl) ?_; (try (first | exact trivial | ((with_reducible refine AllP.go ?_); dsimp only [AllP, appP]; repeat' (first | with_reducible rfl | with_reducible exact LeD.refl | refine And.intro ?_ ?_ | (refine congrArg (Value.int _) ?_; first | omega | rfl | (simp only [Int.toNat_natCast]; omega)) | rfl | (refine congrArg Value.bool ?_; assumption) | exact LeD.refl)))))
      exact listC_snoc _ rfl (nth1 rfl)
  · obtain rfl : q = l.length := by omega
    have hsh := short_all g2
    have hjn := line_join l
    have hlen := line_len (l := l) fun f hf => by rw [List.any_eq_false] at hsh; simpa using hsh f hf
    have hszl := sB_size (lineI l)
    rw [List.take_length]
    (refine TE.freezeN 4 (by rfl) (by rfl) ?_)
    have hc := join_c (l.map wordOf) [32] (by rw [List.length_map]; omega) (by rw [← hjn]; omega)
    rw [← hjn] at hc
    refine TE.callW (hc) rfl (by rfl) (by rfl) rfl (by rfl) (by (first | exact trivial | ((with_reducible refine AllP.go ?_); dsimp only [AllP, appP]; repeat' (first | with_reducible rfl | with_reducible exact LeD.refl | refine And.intro ?_ ?_ | (refine congrArg (Value.int _) ?_; first | omega | rfl | (simp only [Int.toNat_natCast]; omega)) | rfl | (refine congrArg Value.bool ?_; assumption) | assumption | exact LeD.refl)))) ?_
    intro _ _
    cases hg : l.all goodF
    · rw [show formF l = 6 from if_neg (by rw [hg]; decide), show joinI l = ([], 6) from by unfold joinI; rw [if_neg (by rw [hsh]; simp; omega), if_pos hg]]
      ((refine TE.run tysOk rfl (by rfl) ?_ ?_); (repeat' (first | (with_reducible refine AllP.go ?_; (first | exact trivial | exact fun i _ => ⟨_, rfl⟩ | ((try simp only [OS]); repeat' (first | omega | exact fun i _ => ⟨_, rfl⟩ | refine And.intro ?_ ?_)))) | (refine TE.rgo tysOk rfl (by rfl) ?_ ?_) | (with_reducible first | refine t1 ?_ | refine t2 ?_ | refine t3 ?_ | refine t4 ?_ | refine t5 ?_ | refine t6 ?_ | refine t7 ?_ | refine t8 ?_ | refine t9 ?_ | refine tA ?_ | refine tB ?_ | refine tC ?_ | refine tD rfl ?_ | refine tE ?_ | refine tF ?_ | refine tG ?_ | refine tH ?_ | refine tI ?_ | refine tJ ?_ | refine tK ?_ | refine tL ?_) | refine TE.cond_true (by rfl) ?_ | refine TE.cond_false (by rfl) ?_ | ((refine TE.gsplit (by rfl) (by rfl) ?_ ?_ <;> intro h <;> (try simp only [NS] at h) <;> (try (exfalso; first | omega | exact h trivial | exact h | exact h rfl | contradiction))) <;> (refine TE.run tysOk rfl (by rfl) ?_ ?_)) | ((first | refine TL.gsplit (by rfl) (by rfl) ?_ ?_ | refine TE.cond_split (by rfl) ?_ ?_) <;> intro h <;> (try simp only [NS] at h) <;> (try (exfalso; first | omega | exact h trivial | exact h | exact h rfl | contradiction))))))
      (refine TE.ret' (by first | exact .inl rfl | exact .inr rfl) rfl tysOk (()) ?_ rfl (by rfl) ?_; all_goals (try (first | exact trivial | ((with_reducible refine AllP.go ?_); dsimp only [AllP, appP]; repeat' (first | with_reducible rfl | with_reducible exact LeD.refl | refine And.intro ?_ ?_ | (refine congrArg (Value.int _) ?_; first | omega | rfl | (simp only [Int.toNat_natCast]; omega)) | rfl | (refine congrArg Value.bool ?_; assumption) | exact LeD.refl)))))
    · rw [show formF l = 0 from if_pos hg]
      ((refine TE.run tysOk rfl (by rfl) ?_ ?_); (repeat' (first | (with_reducible refine AllP.go ?_; (first | exact trivial | exact fun i _ => ⟨_, rfl⟩ | ((try simp only [OS]); repeat' (first | omega | exact fun i _ => ⟨_, rfl⟩ | refine And.intro ?_ ?_)))) | (refine TE.rgo tysOk rfl (by rfl) ?_ ?_) | (with_reducible first | refine t1 ?_ | refine t2 ?_ | refine t3 ?_ | refine t4 ?_ | refine t5 ?_ | refine t6 ?_ | refine t7 ?_ | refine t8 ?_ | refine t9 ?_ | refine tA ?_ | refine tB ?_ | refine tC ?_ | refine tD rfl ?_ | refine tE ?_ | refine tF ?_ | refine tG ?_ | refine tH ?_ | refine tI ?_ | refine tJ ?_ | refine tK ?_ | refine tL ?_) | refine TE.cond_true (by rfl) ?_ | refine TE.cond_false (by rfl) ?_ | ((refine TE.gsplit (by rfl) (by rfl) ?_ ?_ <;> intro h <;> (try simp only [NS] at h) <;> (try (exfalso; first | omega | exact h trivial | exact h | exact h rfl | contradiction))) <;> (refine TE.run tysOk rfl (by rfl) ?_ ?_)) | ((first | refine TL.gsplit (by rfl) (by rfl) ?_ ?_ | refine TE.cond_split (by rfl) ?_ ?_) <;> intro h <;> (try simp only [NS] at h) <;> (try (exfalso; first | omega | exact h trivial | exact h | exact h rfl | contradiction))))))
      · rw [show joinI l = ([], 3) from by unfold joinI; rw [if_neg (by rw [hsh]; simp; omega), if_neg (by rw [hg]; decide), if_pos (by omega)]]
        (refine TE.ret' (by first | exact .inl rfl | exact .inr rfl) rfl tysOk (()) ?_ rfl (by rfl) ?_; all_goals (try (first | exact trivial | ((with_reducible refine AllP.go ?_); dsimp only [AllP, appP]; repeat' (first | with_reducible rfl | with_reducible exact LeD.refl | refine And.intro ?_ ?_ | (refine congrArg (Value.int _) ?_; first | omega | rfl | (simp only [Int.toNat_natCast]; omega)) | rfl | (refine congrArg Value.bool ?_; assumption) | exact LeD.refl)))))
      · rw [show joinI l = (lineI l, 0) from by unfold joinI; rw [if_neg (by rw [hsh]; simp; omega), if_neg (by rw [hg]; decide), if_neg (by omega)]]
        (refine TE.ret' (by first | exact .inl rfl | exact .inr rfl) rfl tysOk (()) ?_ rfl (by rfl) ?_; all_goals (try (first | exact trivial | ((with_reducible refine AllP.go ?_); dsimp only [AllP, appP]; repeat' (first | with_reducible rfl | with_reducible exact LeD.refl | refine And.intro ?_ ?_ | (refine congrArg (Value.int _) ?_; first | omega | rfl | (simp only [Int.toNat_natCast]; omega)) | rfl | (refine congrArg Value.bool ?_; assumption) | exact LeD.refl)))))
end Go.Proofs.YtmeapfckibbbbaaDoor.Am
/- The words: a list of numbers written, the program's. -/
set_option linter.unusedVariables false
namespace Go.Proofs.YtmeapfckibbbbaaDoor.Am
open Go.RowKit Lw Wo

abbrev intC (l : List Int) : Ct := listC intR 0 l
set_option maxRecDepth 20000 in
set_option maxHeartbeats 8000000 in
theorem List_c (m : Int) (te : TypeId) (pe : Value) (l : List Int) (hl : l.length ≤ 1000000) : Con Tryd.prog 27 [.o (.ro 1 l.length (intC l).cell)] (glC m te pe) 4 4 U (fun _ => .t [.inl (.c (.string (sB (listI l).1))), .inl (.c (.int .i64 (listI l).2))]) (fun _ => glC m te pe) := by
  refine con_of Tryd.func27 rfl (by kernel_rfl) Tryd.ntmps27 rfl (by first | exact Nat.zero_le _ | decide) (fun _ => ⟨rfl, rfl⟩) fun w S ν => ?_
  (repeat' (first | (with_reducible refine AllP.go ?_; (first | exact trivial | exact fun i _ => ⟨_, rfl⟩ | ((try simp only [OS]); repeat' (first | omega | exact fun i _ => ⟨_, rfl⟩ | refine And.intro ?_ ?_)))) | (refine TE.rgo tysOk rfl (by rfl) ?_ ?_) | (with_reducible first | refine t1 ?_ | refine t2 ?_ | refine t3 ?_ | refine t4 ?_ | refine t5 ?_ | refine t6 ?_ | refine t7 ?_ | refine t8 ?_ | refine t9 ?_ | refine tA ?_ | refine tB ?_ | refine tC ?_ | refine tD rfl ?_ | refine tE ?_ | refine tF ?_ | refine tG ?_ | refine tH ?_ | refine tI ?_ | refine tJ ?_ | refine tK ?_ | refine tL ?_) | refine TE.cond_true (by rfl) ?_ | refine TE.cond_false (by rfl) ?_ | ((refine TE.gsplit (by rfl) (by rfl) ?_ ?_ <;> intro h <;> (try simp only [NS] at h) <;> (try (exfalso; first | omega | exact h trivial | exact h | exact h rfl | contradiction))) <;> (refine TE.run tysOk rfl (by rfl) ?_ ?_)) | ((first | refine TL.gsplit (by rfl) (by rfl) ?_ ?_ | refine TE.cond_split (by rfl) ?_ ?_) <;> intro h <;> (try simp only [NS] at h) <;> (try (exfalso; first | omega | exact h trivial | exact h | exact h rfl | contradiction)))))
  · rw [show listI l = ([], 3) from if_pos (by omega)]
    (refine TE.ret' (by first | exact .inl rfl | exact .inr rfl) rfl tysOk (()) ?_ rfl (by rfl) ?_; all_goals (try (first | exact trivial | ((with_reducible refine AllP.go ?_); dsimp only [AllP, appP]; repeat' (first | with_reducible rfl | with_reducible exact LeD.refl | refine And.intro ?_ ?_ | (refine congrArg (Value.int _) ?_; first | omega | rfl | (simp only [Int.toNat_natCast]; omega)) | rfl | (refine congrArg Value.bool ?_; assumption) | exact LeD.refl)))))
  have hl2 : l.length ≤ 500 := by omega
  refine TE.nilBox 4 1 5 1 (by rfl) (by rfl) ?_
  (refine TE.only [6, 5, 4, 0] (by rfl) ?_)
  refine TE.loopG (fun q : Nat => q ≤ l.length ∧ ∀ k, k < q → 0 ≤ l.getD k 0 ∧ l.getD k 0 ≤ 1000000000) (fun q => [(6, .o (.c (.int .i64 q))), (4, .o (.c (.int .i64 (formI l q))))]) [] (fun _ => []) (fun q => l.length - q) 0 (by rfl) ⟨Nat.zero_le _, fun k hk => absurd hk (Nat.not_lt_zero _)⟩ ?_ ?_
  · (refine Ent.of rfl rfl (by rfl) ?_; (try (first | exact trivial | ((with_reducible refine AllP.go ?_); dsimp only [AllP, appP]; repeat' (first | with_reducible rfl | with_reducible exact LeD.refl | refine And.intro ?_ ?_ | (refine congrArg (Value.int _) ?_; first | omega | rfl | (simp only [Int.toNat_natCast]; omega)) | rfl | (refine congrArg Value.bool ?_; assumption) | exact LeD.refl)))))
  rintro q ⟨g1, g2⟩
  have hq1 : ((q : Int) - 1).toNat = q - 1 := by omega
  (repeat' (first | (with_reducible refine AllP.go ?_; (first | exact trivial | exact fun i _ => ⟨_, rfl⟩ | ((try simp only [OS]); repeat' (first | omega | exact fun i _ => ⟨_, rfl⟩ | refine And.intro ?_ ?_)))) | (refine TE.rgo tysOk rfl (by rfl) ?_ ?_) | (with_reducible first | refine t1 ?_ | refine t2 ?_ | refine t3 ?_ | refine t4 ?_ | refine t5 ?_ | refine t6 ?_ | refine t7 ?_ | refine t8 ?_ | refine t9 ?_ | refine tA ?_ | refine tB ?_ | refine tC ?_ | refine tD rfl ?_ | refine tE ?_ | refine tF ?_ | refine tG ?_ | refine tH ?_ | refine tI ?_ | refine tJ ?_ | refine tK ?_ | refine tL ?_) | refine TE.cond_true (by rfl) ?_ | refine TE.cond_false (by rfl) ?_ | ((refine TE.gsplit (by rfl) (by rfl) ?_ ?_ <;> intro h <;> (try simp only [NS] at h) <;> (try (exfalso; first | omega | exact h trivial | exact h | exact h rfl | contradiction))) <;> (refine TE.run tysOk rfl (by rfl) ?_ ?_)) | ((first | refine TL.gsplit (by rfl) (by rfl) ?_ ?_ | refine TE.cond_split (by rfl) ?_ ?_) <;> intro h <;> (try simp only [NS] at h) <;> (try (exfalso; first | omega | exact h trivial | exact h | exact h rfl | contradiction)))))
  · rw [show listI l = ([], 7) by
      unfold listI
      rw [if_neg (by omega), if_pos (allN_no (k := q) (by omega) (by omega))]]
    (refine TE.ret' (by first | exact .inl rfl | exact .inr rfl) rfl tysOk (()) ?_ rfl (by rfl) ?_; all_goals (try (first | exact trivial | ((with_reducible refine AllP.go ?_); dsimp only [AllP, appP]; repeat' (first | with_reducible rfl | with_reducible exact LeD.refl | refine And.intro ?_ ?_ | (refine congrArg (Value.int _) ?_; first | omega | rfl | (simp only [Int.toNat_natCast]; omega)) | rfl | (refine congrArg Value.bool ?_; assumption) | exact LeD.refl)))))
  · rw [show listI l = ([], 7) by
      unfold listI
      rw [if_neg (by omega), if_pos (allN_no (k := q) (by omega) (by omega))]]
    (refine TE.ret' (by first | exact .inl rfl | exact .inr rfl) rfl tysOk (()) ?_ rfl (by rfl) ?_; all_goals (try (first | exact trivial | ((with_reducible refine AllP.go ?_); dsimp only [AllP, appP]; repeat' (first | with_reducible rfl | with_reducible exact LeD.refl | refine And.intro ?_ ?_ | (refine congrArg (Value.int _) ?_; first | omega | rfl | (simp only [Int.toNat_natCast]; omega)) | rfl | (refine congrArg Value.bool ?_; assumption) | exact LeD.refl)))))
  · have hf : formI l (q + 1) = 6 := if_pos ⟨by omega, by rw [← hq1]; assumption⟩
    refine TE.again' (q + 1) ⟨by omega, fun k hk => ?_⟩ (by omega) ?_
    · rcases Nat.lt_or_ge k q with hk2 | hk2
      · exact g2 k hk2
      · obtain rfl : k = q := by omega
        exact ⟨by assumption, by assumption⟩
    · rw [hf]
      (refine Ent.of rfl rfl (by rfl) ?_; (try (first | exact trivial | ((with_reducible refine AllP.go ?_); dsimp only [AllP, appP]; repeat' (first | with_reducible rfl | with_reducible exact LeD.refl | refine And.intro ?_ ?_ | (refine congrArg (Value.int _) ?_; first | omega | rfl | (simp only [Int.toNat_natCast]; omega)) | rfl | (refine congrArg Value.bool ?_; assumption) | exact LeD.refl)))))
  · have hf : formI l (q + 1) = formI l q := if_neg (fun k => by have := k.2; rw [← hq1] at this; omega)
    refine TE.again' (q + 1) ⟨by omega, fun k hk => ?_⟩ (by omega) ?_
    · rcases Nat.lt_or_ge k q with hk2 | hk2
      · exact g2 k hk2
      · obtain rfl : k = q := by omega
        exact ⟨by assumption, by assumption⟩
    · rw [hf]
      (refine Ent.of rfl rfl (by rfl) ?_; (try (first | exact trivial | ((with_reducible refine AllP.go ?_); dsimp only [AllP, appP]; repeat' (first | with_reducible rfl | with_reducible exact LeD.refl | refine And.intro ?_ ?_ | (refine congrArg (Value.int _) ?_; first | omega | rfl | (simp only [Int.toNat_natCast]; omega)) | rfl | (refine congrArg Value.bool ?_; assumption) | exact LeD.refl)))))
  · have hf : formI l (q + 1) = formI l q := if_neg (fun k => by omega)
    refine TE.again' (q + 1) ⟨by omega, fun k hk => ?_⟩ (by omega) ?_
    · rcases Nat.lt_or_ge k q with hk2 | hk2
      · exact g2 k hk2
      · obtain rfl : k = q := by omega
        exact ⟨by assumption, by assumption⟩
    · rw [hf]
      (refine Ent.of rfl rfl (by rfl) ?_; (try (first | exact trivial | ((with_reducible refine AllP.go ?_); dsimp only [AllP, appP]; repeat' (first | with_reducible rfl | with_reducible exact LeD.refl | refine And.intro ?_ ?_ | (refine congrArg (Value.int _) ?_; first | omega | rfl | (simp only [Int.toNat_natCast]; omega)) | rfl | (refine congrArg Value.bool ?_; assumption) | exact LeD.refl)))))
  obtain rfl : q = l.length := by omega
  have hok := allN_ok g2
  have hi : listI l = if formI l l.length ≠ 0 then ([], 6) else if l = [] then ([45], 0) else (Wo.listX l, 0) := by
    unfold listI
    rw [if_neg (by omega), if_neg (by rw [hok]; decide)]
  clear h hq1 g1
  (refine TE.only [8, 5, 4, 0] (by rfl) ?_)
  rcases formI_01 l l.length with hf | hf
  rotate_left
  · rw [hf] at hi ⊢
    rw [if_pos (by decide)] at hi
    rw [hi]
    refine TE.loopG (fun _ : Unit => True) (fun _ => [(8, .o (.c (.int .i64 0)))]) [] (fun _ => []) (fun _ => 0) () (by rfl) trivial ?_ ?_
    · (refine Ent.of rfl rfl (by rfl) ?_; (try (first | exact trivial | ((with_reducible refine AllP.go ?_); dsimp only [AllP, appP]; repeat' (first | with_reducible rfl | with_reducible exact LeD.refl | refine And.intro ?_ ?_ | (refine congrArg (Value.int _) ?_; first | omega | rfl | (simp only [Int.toNat_natCast]; omega)) | rfl | (refine congrArg Value.bool ?_; assumption) | exact LeD.refl)))))
    rintro ⟨⟩ _
    (repeat' (first | (with_reducible refine AllP.go ?_; (first | exact trivial | exact fun i _ => ⟨_, rfl⟩ | ((try simp only [OS]); repeat' (first | omega | exact fun i _ => ⟨_, rfl⟩ | refine And.intro ?_ ?_)))) | (refine TE.rgo tysOk rfl (by rfl) ?_ ?_) | (with_reducible first | refine t1 ?_ | refine t2 ?_ | refine t3 ?_ | refine t4 ?_ | refine t5 ?_ | refine t6 ?_ | refine t7 ?_ | refine t8 ?_ | refine t9 ?_ | refine tA ?_ | refine tB ?_ | refine tC ?_ | refine tD rfl ?_ | refine tE ?_ | refine tF ?_ | refine tG ?_ | refine tH ?_ | refine tI ?_ | refine tJ ?_ | refine tK ?_ | refine tL ?_) | refine TE.cond_true (by rfl) ?_ | refine TE.cond_false (by rfl) ?_ | ((refine TE.gsplit (by rfl) (by rfl) ?_ ?_ <;> intro h <;> (try simp only [NS] at h) <;> (try (exfalso; first | omega | exact h trivial | exact h | exact h rfl | contradiction))) <;> (refine TE.run tysOk rfl (by rfl) ?_ ?_)) | ((first | refine TL.gsplit (by rfl) (by rfl) ?_ ?_ | refine TE.cond_split (by rfl) ?_ ?_) <;> intro h <;> (try simp only [NS] at h) <;> (try (exfalso; first | omega | exact h trivial | exact h | exact h rfl | contradiction)))))
    all_goals (refine TE.ret' (by first | exact .inl rfl | exact .inr rfl) rfl tysOk (()) ?_ rfl (by rfl) ?_; all_goals (try (first | exact trivial | ((with_reducible refine AllP.go ?_); dsimp only [AllP, appP]; repeat' (first | with_reducible rfl | with_reducible exact LeD.refl | refine And.intro ?_ ?_ | (refine congrArg (Value.int _) ?_; first | omega | rfl | (simp only [Int.toNat_natCast]; omega)) | rfl | (refine congrArg Value.bool ?_; assumption) | exact LeD.refl)))))
  rw [hf] at hi ⊢
  rw [if_neg (fun k => k rfl)] at hi
  refine TE.loop' (ι := Option (Nat × Bs)) (fun x => match x with
    | none => True
    | some p => 0 < p.1 ∧ p.1 ≤ l.length ∧ p.2 ≠ [] ∧ p.2.length ≤ 44 * p.1 ∧ p.2 ++ tailG (l.drop p.1) = Wo.listX l)
    (fun x => match x with
    | none => ⟨[(8, .o (.c (.int .i64 0))), (5, .o (.ptr 4 0)), (4, .o (.c (.int .i64 0))), (0, .o (.ro 1 l.length (intC l).cell))], .box 4 65 [.c (.pointer none), .own 5] :: .own 5 5 1 (bytesC []) :: glC m te pe, 6⟩
    | some p => ⟨[(8, .o (.c (.int .i64 p.1))), (5, .o (.ptr 4 0)), (4, .o (.c (.int .i64 0))), (0, .o (.ro 1 l.length (intC l).cell))], .box 4 65 [.ptr 4 0, .own 6] :: .own 6 5 1 (bytesC p.2) :: glC m te pe, 7⟩)
    (fun x => match x with
    | none => l.length + 1
    | some p => l.length - p.1) none trivial ?_ ?_
  · (refine Ent.of rfl rfl (by rfl) ?_; (try (first | exact trivial | ((with_reducible refine AllP.go ?_); dsimp only [AllP, appP]; repeat' (first | with_reducible rfl | with_reducible exact LeD.refl | refine And.intro ?_ ?_ | (refine congrArg (Value.int _) ?_; first | omega | rfl | (simp only [Int.toNat_natCast]; omega)) | rfl | (refine congrArg Value.bool ?_; assumption) | exact LeD.refl)))))
    exact LeDC.nil rfl rfl
  rintro (_ | ⟨i, out⟩) hpre
  · clear hpre
    by_cases hlt : 0 < l.length
    · have hr := g2 0 hlt
      obtain ⟨a, ha⟩ : ∃ a, a = l.getD 0 0 := ⟨_, rfl⟩
      rw [← ha] at hr
      (repeat (with_reducible first | refine t1 ?_ | refine t2 ?_ | refine t3 ?_ | refine t4 ?_ | refine t5 ?_ | refine t6 ?_ | refine t7 ?_ | refine t8 ?_ | refine t9 ?_ | refine tA ?_ | refine tB ?_ | refine tC ?_ | refine tD rfl ?_ | refine tE ?_ | refine tF ?_ | refine tG ?_ | refine tH ?_ | refine tI ?_ | refine tJ ?_ | refine tK ?_ | refine tL ?_))
      ((refine TE.rgo tysOk rfl (by rfl) ?_ ?_); try (with_reducible refine AllP.go ?_; (first | exact trivial | exact fun i _ => ⟨_, rfl⟩ | ((try simp only [OS]); repeat' (first | omega | exact fun i _ => ⟨_, rfl⟩ | refine And.intro ?_ ?_)))))
      ((refine TE.gsplit (by rfl) (by rfl) ?_ ?_ <;> intro h <;> (try simp only [NS] at h) <;> (try (exfalso; first | omega | exact h trivial | exact h | exact h rfl | contradiction))) <;> (refine TE.run tysOk rfl (by rfl) (by (first | exact trivial | exact fun i _ => ⟨_, rfl⟩ | ((try simp only [OS]); repeat' (first | omega | exact fun i _ => ⟨_, rfl⟩ | refine And.intro ?_ ?_)))) ?_))
      (repeat (with_reducible first | refine t1 ?_ | refine t2 ?_ | refine t3 ?_ | refine t4 ?_ | refine t5 ?_ | refine t6 ?_ | refine t7 ?_ | refine t8 ?_ | refine t9 ?_ | refine tA ?_ | refine tB ?_ | refine tC ?_ | refine tD rfl ?_ | refine tE ?_ | refine tF ?_ | refine tG ?_ | refine tH ?_ | refine tI ?_ | refine tJ ?_ | refine tK ?_ | refine tL ?_))
      (refine TE.cond_split (by rfl) ?_ ?_ <;> intro h <;> (try simp only [NS] at h) <;> (try (exfalso; first | omega | exact h trivial | exact h | exact h rfl | contradiction)))
      (repeat (with_reducible first | refine t1 ?_ | refine t2 ?_ | refine t3 ?_ | refine t4 ?_ | refine t5 ?_ | refine t6 ?_ | refine t7 ?_ | refine t8 ?_ | refine t9 ?_ | refine tA ?_ | refine tB ?_ | refine tC ?_ | refine tD rfl ?_ | refine tE ?_ | refine tF ?_ | refine tG ?_ | refine tH ?_ | refine tI ?_ | refine tJ ?_ | refine tK ?_ | refine tL ?_))
      ((refine TE.rgo tysOk rfl (by rfl) ?_ ?_); try (with_reducible refine AllP.go ?_; (first | exact trivial | exact fun i _ => ⟨_, rfl⟩ | ((try simp only [OS]); repeat' (first | omega | exact fun i _ => ⟨_, rfl⟩ | refine And.intro ?_ ?_)))))
      refine TE.done (TE.thenN ?_)
      refine TE.seqM (ι := Nat) (fun k => k < l.length ∧ (∀ j, j < k → l.getD (j + 1) 0 = a + j + 1) ∧ (k + 1 < l.length → l.getD (k + 1) 0 ≠ a + k + 1)) (fun k => ⟨[(9, .o (.c (.int .i64 a))), (8, .o (.c (.int .i64 ((k : Nat) : Int)))), (5, .o (.ptr 4 0)), (4, .o (.c (.int .i64 0))), (0, .o (.ro 1 l.length (intC l).cell))], .box 4 65 [.c (.pointer none), .own 5] :: .own 5 5 1 (bytesC []) :: glC m te pe, 6⟩) ?_ ?_
      · (refine TE.only [9, 8, 5, 4, 0] (by rfl) ?_)
        (repeat (with_reducible first | refine t1 ?_ | refine t2 ?_ | refine t3 ?_ | refine t4 ?_ | refine t5 ?_ | refine t6 ?_ | refine t7 ?_ | refine t8 ?_ | refine t9 ?_ | refine tA ?_ | refine tB ?_ | refine tC ?_ | refine tD rfl ?_ | refine tE ?_ | refine tF ?_ | refine tG ?_ | refine tH ?_ | refine tI ?_ | refine tJ ?_ | refine tK ?_ | refine tL ?_))
        refine TE.loopG (fun k : Nat => k < l.length ∧ ∀ j, j < k → l.getD (j + 1) 0 = a + j + 1) (fun k => [(8, .o (.c (.int .i64 ((k : Nat) : Int))))]) [] (fun _ => []) (fun k => l.length - k) 0 (by rfl) ⟨by omega, fun j hj => absurd hj (Nat.not_lt_zero _)⟩ ?_ ?_
        · (refine Ent.of rfl rfl (by rfl) ?_; (try (first | exact trivial | ((with_reducible refine AllP.go ?_); dsimp only [AllP, appP]; repeat' (first | with_reducible rfl | with_reducible exact LeD.refl | refine And.intro ?_ ?_ | (refine congrArg (Value.int _) ?_; first | omega | rfl | (simp only [Int.toNat_natCast]; omega)) | rfl | (refine congrArg Value.bool ?_; assumption) | exact LeD.refl)))))
        rintro k ⟨k1, k2⟩
        have hk3 : l.getD (k) 0 = a + k := by
          cases k with
          | zero => rw [ha]; simp
          | succ k => have := k2 k (Nat.lt_succ_self k); rw [this]; omega
        have hix : (((k : Nat) : Int) + 1).toNat = k + 1 := by omega
        have hr2 := g2 (k) k1
        (repeat' (first | (with_reducible refine AllP.go ?_; (first | exact trivial | exact fun i _ => ⟨_, rfl⟩ | ((try simp only [OS]); repeat' (first | omega | exact fun i _ => ⟨_, rfl⟩ | refine And.intro ?_ ?_)))) | (refine TE.rgo tysOk rfl (by rfl) ?_ ?_) | (with_reducible first | refine t1 ?_ | refine t2 ?_ | refine t3 ?_ | refine t4 ?_ | refine t5 ?_ | refine t6 ?_ | refine t7 ?_ | refine t8 ?_ | refine t9 ?_ | refine tA ?_ | refine tB ?_ | refine tC ?_ | refine tD rfl ?_ | refine tE ?_ | refine tF ?_ | refine tG ?_ | refine tH ?_ | refine tI ?_ | refine tJ ?_ | refine tK ?_ | refine tL ?_) | (with_reducible first | exact PanicOk.body | exact rd.panic | refine PanicOk.then' ?_ | refine PanicOk.block ?_ | refine PanicOk.jump ?_) | (refine TE.drawC (by rfl) (by rfl) (by rfl) (by rfl) ?_) | (refine TE.drawN (by rfl) (by rfl) (by rfl) ?_) | (refine TL.done (by rfl) ?_) | (refine TL.auto tysOk rfl ?_ (by rfl) ?_ ?_) | ((refine TL.one (by rfl) ?_); first | (refine StepL.mem tysOk rfl rfl rfl rfl (by rfl) ?_ (by rfl) ?_) | (refine StepL.pure tysOk rfl rfl rfl rfl (by rfl) ?_ (by rfl) ?_)) | (refine StepL.mem tysOk rfl rfl rfl rfl (by rfl) ?_ (by rfl) ?_) | refine TE.cond_true (by rfl) ?_ | refine TE.cond_false (by rfl) ?_ | ((refine TE.gsplit (by rfl) (by rfl) ?_ ?_ <;> intro h <;> (try simp only [NS] at h) <;> (try (exfalso; first | omega | exact h trivial | exact h | exact h rfl | contradiction))) <;> (refine TE.run tysOk rfl (by rfl) ?_ ?_)) | ((first | refine TL.gsplit (by rfl) (by rfl) ?_ ?_ | refine TE.cond_split (by rfl) ?_ ?_) <;> intro h <;> (try simp only [NS] at h) <;> (try (exfalso; first | omega | exact h trivial | exact h | exact h rfl | contradiction)))))
        · refine TE.again' (k + 1) ⟨by omega, fun j hj => ?_⟩ (by omega) ?_
          · rcases Nat.lt_or_ge j k with hj2 | hj2
            · exact k2 j hj2
            · obtain rfl : j = k := by omega
              have h : l.getD (((j : Nat) : Int) + 1).toNat 0 = l.getD (j) 0 + 1 := by assumption
              rw [hix, hk3] at h
              exact h
          · (refine Ent.of rfl rfl (by rfl) ?_; (try (first | exact trivial | ((with_reducible refine AllP.go ?_); dsimp only [AllP, appP]; repeat' (first | with_reducible rfl | with_reducible exact LeD.refl | refine And.intro ?_ ?_ | (refine congrArg (Value.int _) ?_; first | omega | rfl | (simp only [Int.toNat_natCast]; omega)) | rfl | (refine congrArg Value.bool ?_; assumption) | exact LeD.refl)))))
        · refine TE.at k ⟨k1, k2, fun _ e => ?_⟩ ?_
          · have h : ¬ l.getD (((k : Nat) : Int) + 1).toNat 0 = l.getD (k) 0 + 1 := by assumption
            rw [hix, hk3] at h
            exact h e
          · (refine Ent.of rfl rfl (by rfl) ?_; (try (first | exact trivial | ((with_reducible refine AllP.go ?_); dsimp only [AllP, appP]; repeat' (first | with_reducible rfl | with_reducible exact LeD.refl | refine And.intro ?_ ?_ | (refine congrArg (Value.int _) ?_; first | omega | rfl | (simp only [Int.toNat_natCast]; omega)) | rfl | (refine congrArg Value.bool ?_; assumption) | exact LeD.refl)))))
            all_goals exact congrArg (Value.int _) ha.symm
        · refine TE.at k ⟨k1, k2, fun e => absurd e (by omega)⟩ ?_
          (refine Ent.of rfl rfl (by rfl) ?_; (try (first | exact trivial | ((with_reducible refine AllP.go ?_); dsimp only [AllP, appP]; repeat' (first | with_reducible rfl | with_reducible exact LeD.refl | refine And.intro ?_ ?_ | (refine congrArg (Value.int _) ?_; first | omega | rfl | (simp only [Int.toNat_natCast]; omega)) | rfl | (refine congrArg Value.bool ?_; assumption) | exact LeD.refl)))))
          all_goals exact congrArg (Value.int _) ha.symm
      rintro k ⟨k1, k2, k3⟩
      have hk3 : l.getD (k) 0 = a + k := by
        cases k with
        | zero => rw [ha]; simp
        | succ k => have := k2 k (Nat.lt_succ_self k); rw [this]; omega
      have hr2 := g2 (k) k1
      have hi1 := Lib.itoa_length_le a (by omega) (by omega)
      have hi2 := Lib.itoa_length_le (a + k) (by omega) (by omega)
      (repeat' (first | (with_reducible refine AllP.go ?_; (first | exact trivial | exact fun i _ => ⟨_, rfl⟩ | ((try simp only [OS]); repeat' (first | omega | exact fun i _ => ⟨_, rfl⟩ | refine And.intro ?_ ?_)))) | (refine TE.rgo tysOk rfl (by rfl) ?_ ?_) | (with_reducible first | refine t1 ?_ | refine t2 ?_ | refine t3 ?_ | refine t4 ?_ | refine t5 ?_ | refine t6 ?_ | refine t7 ?_ | refine t8 ?_ | refine t9 ?_ | refine tA ?_ | refine tB ?_ | refine tC ?_ | refine tD rfl ?_ | refine tE ?_ | refine tF ?_ | refine tG ?_ | refine tH ?_ | refine tI ?_ | refine tJ ?_ | refine tK ?_ | refine tL ?_) | refine TE.cond_true (by rfl) ?_ | refine TE.cond_false (by rfl) ?_ | ((refine TE.gsplit (by rfl) (by rfl) ?_ ?_ <;> intro h <;> (try simp only [NS] at h) <;> (try (exfalso; first | omega | exact h trivial | exact h | exact h rfl | contradiction))) <;> (refine TE.run tysOk rfl (by rfl) ?_ ?_)) | ((first | refine TL.gsplit (by rfl) (by rfl) ?_ ?_ | refine TE.cond_split (by rfl) ?_ ?_) <;> intro h <;> (try simp only [NS] at h) <;> (try (exfalso; first | omega | exact h trivial | exact h | exact h rfl | contradiction)))))
      refine TE.callW (blLenN_c []) rfl (by rfl) (by rfl) rfl (by rfl) (by (first | exact trivial | ((with_reducible refine AllP.go ?_); dsimp only [AllP, appP]; repeat' (first | with_reducible rfl | with_reducible exact LeD.refl | refine And.intro ?_ ?_ | (refine congrArg (Value.int _) ?_; first | omega | rfl | (simp only [Int.toNat_natCast]; omega)) | rfl | (refine congrArg Value.bool ?_; assumption) | assumption | exact LeD.refl)))) ?_
      intro _ _
      ((refine TE.run tysOk rfl (by rfl) ?_ ?_); (repeat' (first | (with_reducible refine AllP.go ?_; (first | exact trivial | exact fun i _ => ⟨_, rfl⟩ | ((try simp only [OS]); repeat' (first | omega | exact fun i _ => ⟨_, rfl⟩ | refine And.intro ?_ ?_)))) | (refine TE.rgo tysOk rfl (by rfl) ?_ ?_) | (with_reducible first | refine t1 ?_ | refine t2 ?_ | refine t3 ?_ | refine t4 ?_ | refine t5 ?_ | refine t6 ?_ | refine t7 ?_ | refine t8 ?_ | refine t9 ?_ | refine tA ?_ | refine tB ?_ | refine tC ?_ | refine tD rfl ?_ | refine tE ?_ | refine tF ?_ | refine tG ?_ | refine tH ?_ | refine tI ?_ | refine tJ ?_ | refine tK ?_ | refine tL ?_) | refine TE.cond_true (by rfl) ?_ | refine TE.cond_false (by rfl) ?_ | ((refine TE.gsplit (by rfl) (by rfl) ?_ ?_ <;> intro h <;> (try simp only [NS] at h) <;> (try (exfalso; first | omega | exact h trivial | exact h | exact h rfl | contradiction))) <;> (refine TE.run tysOk rfl (by rfl) ?_ ?_)) | ((first | refine TL.gsplit (by rfl) (by rfl) ?_ ?_ | refine TE.cond_split (by rfl) ?_ ?_) <;> intro h <;> (try simp only [NS] at h) <;> (try (exfalso; first | omega | exact h trivial | exact h | exact h rfl | contradiction))))))
      refine TE.callW (itoa_c m te pe a (by omega)) rfl (by rfl) (by rfl) rfl (by rfl) (by (first | exact trivial | ((with_reducible refine AllP.go ?_); dsimp only [AllP, appP]; repeat' (first | with_reducible rfl | with_reducible exact LeD.refl | refine And.intro ?_ ?_ | (refine congrArg (Value.int _) ?_; first | omega | rfl | (simp only [Int.toNat_natCast]; omega)) | rfl | (refine congrArg Value.bool ?_; assumption) | assumption | exact LeD.refl)))) ?_
      intro _ _
      ((refine TE.run tysOk rfl (by rfl) ?_ ?_); try (with_reducible refine AllP.go ?_; (first | exact trivial | exact fun i _ => ⟨_, rfl⟩ | ((try simp only [OS]); repeat' (first | omega | exact fun i _ => ⟨_, rfl⟩ | refine And.intro ?_ ?_)))))
      refine TE.callW (blWSN_c [] (Lib.itoa a) (by simp; omega)) rfl (by rfl) (by rfl) rfl (by rfl) (by (first | exact trivial | ((with_reducible refine AllP.go ?_); dsimp only [AllP, appP]; repeat' (first | with_reducible rfl | with_reducible exact LeD.refl | refine And.intro ?_ ?_ | (refine congrArg (Value.int _) ?_; first | omega | rfl | (simp only [Int.toNat_natCast]; omega)) | rfl | (refine congrArg Value.bool ?_; assumption) | assumption | exact LeD.refl)))) ?_
      intro _ _
      rw [List.nil_append]
      ((refine TE.run tysOk rfl (by rfl) ?_ ?_); (repeat' (first | (with_reducible refine AllP.go ?_; (first | exact trivial | exact fun i _ => ⟨_, rfl⟩ | ((try simp only [OS]); repeat' (first | omega | exact fun i _ => ⟨_, rfl⟩ | refine And.intro ?_ ?_)))) | (refine TE.rgo tysOk rfl (by rfl) ?_ ?_) | (with_reducible first | refine t1 ?_ | refine t2 ?_ | refine t3 ?_ | refine t4 ?_ | refine t5 ?_ | refine t6 ?_ | refine t7 ?_ | refine t8 ?_ | refine t9 ?_ | refine tA ?_ | refine tB ?_ | refine tC ?_ | refine tD rfl ?_ | refine tE ?_ | refine tF ?_ | refine tG ?_ | refine tH ?_ | refine tI ?_ | refine tJ ?_ | refine tK ?_ | refine tL ?_) | refine TE.cond_true (by rfl) ?_ | refine TE.cond_false (by rfl) ?_ | ((refine TE.gsplit (by rfl) (by rfl) ?_ ?_ <;> intro h <;> (try simp only [NS] at h) <;> (try (exfalso; first | omega | exact h trivial | exact h | exact h rfl | contradiction))) <;> (refine TE.run tysOk rfl (by rfl) ?_ ?_)) | ((first | refine TL.gsplit (by rfl) (by rfl) ?_ ?_ | refine TE.cond_split (by rfl) ?_ ?_) <;> intro h <;> (try simp only [NS] at h) <;> (try (exfalso; first | omega | exact h trivial | exact h | exact h rfl | contradiction))))))
      · refine TE.callW (itoa_c m te pe (a + k) (by omega)) rfl (by rfl) (by rfl) rfl (by rfl) (by (first | exact trivial | ((with_reducible refine AllP.go ?_); dsimp only [AllP, appP]; repeat' (first | with_reducible rfl | with_reducible exact LeD.refl | refine And.intro ?_ ?_ | (refine congrArg (Value.int _) ?_; first | omega | rfl | (simp only [Int.toNat_natCast]; omega)) | rfl | (refine congrArg Value.bool ?_; assumption) | assumption | exact LeD.refl)))) ?_
        intro _ _
        have hz := sB_size (Lib.itoa (a + k))
        have hm1 : (ByteArray.mk #[45]).size = 1 := rfl
        have hk0 : k ≠ 0 := fun e => by subst e; rw [hk3] at h; omega
        have hrs := runS_k a hk0
        have hrl : (runS a k).length ≤ 43 := by rw [hrs]; simp; omega
        ((refine TE.run tysOk rfl (by rfl) ?_ ?_); try (with_reducible refine AllP.go ?_; (first | exact trivial | exact fun i _ => ⟨_, rfl⟩ | ((try simp only [OS]); repeat' (first | omega | exact fun i _ => ⟨_, rfl⟩ | refine And.intro ?_ ?_)))))
        rw [show (ByteArray.mk #[45]) ++ sB (Lib.itoa (a + k)) = sB (45 :: Lib.itoa (a + k)) from sB_app [45] _]
        refine TE.callW (blWS_c (Lib.itoa a) (45 :: Lib.itoa (a + k)) (by simp; omega)) rfl (by rfl) (by rfl) rfl (by rfl) (by (first | exact trivial | ((with_reducible refine AllP.go ?_); dsimp only [AllP, appP]; repeat' (first | with_reducible rfl | with_reducible exact LeD.refl | refine And.intro ?_ ?_ | (refine congrArg (Value.int _) ?_; first | omega | rfl | (simp only [Int.toNat_natCast]; omega)) | rfl | (refine congrArg Value.bool ?_; assumption) | assumption | exact LeD.refl)))) ?_
        intro _ _
        rw [show (Lib.itoa a) ++ 45 :: Lib.itoa (a + k) = (runS a k) from hrs.symm]
        ((refine TE.run tysOk rfl (by rfl) ?_ ?_); (repeat' (first | (with_reducible refine AllP.go ?_; (first | exact trivial | exact fun i _ => ⟨_, rfl⟩ | ((try simp only [OS]); repeat' (first | omega | exact fun i _ => ⟨_, rfl⟩ | refine And.intro ?_ ?_)))) | (refine TE.rgo tysOk rfl (by rfl) ?_ ?_) | (with_reducible first | refine t1 ?_ | refine t2 ?_ | refine t3 ?_ | refine t4 ?_ | refine t5 ?_ | refine t6 ?_ | refine t7 ?_ | refine t8 ?_ | refine t9 ?_ | refine tA ?_ | refine tB ?_ | refine tC ?_ | refine tD rfl ?_ | refine tE ?_ | refine tF ?_ | refine tG ?_ | refine tH ?_ | refine tI ?_ | refine tJ ?_ | refine tK ?_ | refine tL ?_) | refine TE.cond_true (by rfl) ?_ | refine TE.cond_false (by rfl) ?_ | ((refine TE.gsplit (by rfl) (by rfl) ?_ ?_ <;> intro h <;> (try simp only [NS] at h) <;> (try (exfalso; first | omega | exact h trivial | exact h | exact h rfl | contradiction))) <;> (refine TE.run tysOk rfl (by rfl) ?_ ?_)) | ((first | refine TL.gsplit (by rfl) (by rfl) ?_ ?_ | refine TE.cond_split (by rfl) ?_ ?_) <;> intro h <;> (try simp only [NS] at h) <;> (try (exfalso; first | omega | exact h trivial | exact h | exact h rfl | contradiction))))))
        refine TE.again' (some (k + 1, (runS a k))) ⟨Nat.succ_pos _, by dsimp only; omega, by rw [hrs]; simp, by dsimp only; omega, list_zero k1 ha.symm k2 k3⟩ (by dsimp only; omega) ?_
        (refine Ent.of rfl rfl (by rfl) ?_; (try (first | exact trivial | ((with_reducible refine AllP.go ?_); dsimp only [AllP, appP]; repeat' (first | with_reducible rfl | with_reducible exact LeD.refl | refine And.intro ?_ ?_ | (refine congrArg (Value.int _) ?_; first | omega | rfl | (simp only [Int.toNat_natCast]; omega)) | rfl | (refine congrArg Value.bool ?_; assumption) | exact LeD.refl)))))
      · have hk0 : k = 0 := by omega
        have hrs : runS a k = Lib.itoa a := by rw [hk0]; exact runS_0 a
        have hrl : (runS a k).length ≤ 43 := by rw [hrs]; omega
        rw [← hrs]
        refine TE.again' (some (k + 1, (runS a k))) ⟨Nat.succ_pos _, by dsimp only; omega, by rw [hrs]; exact itoa_ne a, by dsimp only; omega, list_zero k1 ha.symm k2 k3⟩ (by dsimp only; omega) ?_
        (refine Ent.of rfl rfl (by rfl) ?_; (try (first | exact trivial | ((with_reducible refine AllP.go ?_); dsimp only [AllP, appP]; repeat' (first | with_reducible rfl | with_reducible exact LeD.refl | refine And.intro ?_ ?_ | (refine congrArg (Value.int _) ?_; first | omega | rfl | (simp only [Int.toNat_natCast]; omega)) | rfl | (refine congrArg Value.bool ?_; assumption) | exact LeD.refl)))))
    · have hn : l = [] := List.length_eq_zero_iff.1 (by omega)
      rw [if_pos hn] at hi
      (repeat' (first | (with_reducible refine AllP.go ?_; (first | exact trivial | exact fun i _ => ⟨_, rfl⟩ | ((try simp only [OS]); repeat' (first | omega | exact fun i _ => ⟨_, rfl⟩ | refine And.intro ?_ ?_)))) | (refine TE.rgo tysOk rfl (by rfl) ?_ ?_) | (with_reducible first | refine t1 ?_ | refine t2 ?_ | refine t3 ?_ | refine t4 ?_ | refine t5 ?_ | refine t6 ?_ | refine t7 ?_ | refine t8 ?_ | refine t9 ?_ | refine tA ?_ | refine tB ?_ | refine tC ?_ | refine tD rfl ?_ | refine tE ?_ | refine tF ?_ | refine tG ?_ | refine tH ?_ | refine tI ?_ | refine tJ ?_ | refine tK ?_ | refine tL ?_) | refine TE.cond_true (by rfl) ?_ | refine TE.cond_false (by rfl) ?_ | ((refine TE.gsplit (by rfl) (by rfl) ?_ ?_ <;> intro h <;> (try simp only [NS] at h) <;> (try (exfalso; first | omega | exact h trivial | exact h | exact h rfl | contradiction))) <;> (refine TE.run tysOk rfl (by rfl) ?_ ?_)) | ((first | refine TL.gsplit (by rfl) (by rfl) ?_ ?_ | refine TE.cond_split (by rfl) ?_ ?_) <;> intro h <;> (try simp only [NS] at h) <;> (try (exfalso; first | omega | exact h trivial | exact h | exact h rfl | contradiction)))))
      rw [hi]
      (refine TE.ret' (by first | exact .inl rfl | exact .inr rfl) rfl tysOk (()) ?_ rfl (by rfl) ?_; all_goals (try (first | exact trivial | ((with_reducible refine AllP.go ?_); dsimp only [AllP, appP]; repeat' (first | with_reducible rfl | with_reducible exact LeD.refl | refine And.intro ?_ ?_ | (refine congrArg (Value.int _) ?_; first | omega | rfl | (simp only [Int.toNat_natCast]; omega)) | rfl | (refine congrArg Value.bool ?_; assumption) | exact LeD.refl)))))
  · obtain ⟨p1, p2, p3, p4, p5⟩ := hpre
    dsimp only at p1 p2 p3 p4 p5
    by_cases hlt : i < l.length
    · have hr := g2 i hlt
      obtain ⟨a, ha⟩ : ∃ a, a = l.getD i 0 := ⟨_, rfl⟩
      rw [← ha] at hr
      (repeat (with_reducible first | refine t1 ?_ | refine t2 ?_ | refine t3 ?_ | refine t4 ?_ | refine t5 ?_ | refine t6 ?_ | refine t7 ?_ | refine t8 ?_ | refine t9 ?_ | refine tA ?_ | refine tB ?_ | refine tC ?_ | refine tD rfl ?_ | refine tE ?_ | refine tF ?_ | refine tG ?_ | refine tH ?_ | refine tI ?_ | refine tJ ?_ | refine tK ?_ | refine tL ?_))
      ((refine TE.rgo tysOk rfl (by rfl) ?_ ?_); try (with_reducible refine AllP.go ?_; (first | exact trivial | exact fun i _ => ⟨_, rfl⟩ | ((try simp only [OS]); repeat' (first | omega | exact fun i _ => ⟨_, rfl⟩ | refine And.intro ?_ ?_)))))
      ((refine TE.gsplit (by rfl) (by rfl) ?_ ?_ <;> intro h <;> (try simp only [NS] at h) <;> (try (exfalso; first | omega | exact h trivial | exact h | exact h rfl | contradiction))) <;> (refine TE.run tysOk rfl (by rfl) (by (first | exact trivial | exact fun i _ => ⟨_, rfl⟩ | ((try simp only [OS]); repeat' (first | omega | exact fun i _ => ⟨_, rfl⟩ | refine And.intro ?_ ?_)))) ?_))
      (repeat (with_reducible first | refine t1 ?_ | refine t2 ?_ | refine t3 ?_ | refine t4 ?_ | refine t5 ?_ | refine t6 ?_ | refine t7 ?_ | refine t8 ?_ | refine t9 ?_ | refine tA ?_ | refine tB ?_ | refine tC ?_ | refine tD rfl ?_ | refine tE ?_ | refine tF ?_ | refine tG ?_ | refine tH ?_ | refine tI ?_ | refine tJ ?_ | refine tK ?_ | refine tL ?_))
      (refine TE.cond_split (by rfl) ?_ ?_ <;> intro h <;> (try simp only [NS] at h) <;> (try (exfalso; first | omega | exact h trivial | exact h | exact h rfl | contradiction)))
      (repeat (with_reducible first | refine t1 ?_ | refine t2 ?_ | refine t3 ?_ | refine t4 ?_ | refine t5 ?_ | refine t6 ?_ | refine t7 ?_ | refine t8 ?_ | refine t9 ?_ | refine tA ?_ | refine tB ?_ | refine tC ?_ | refine tD rfl ?_ | refine tE ?_ | refine tF ?_ | refine tG ?_ | refine tH ?_ | refine tI ?_ | refine tJ ?_ | refine tK ?_ | refine tL ?_))
      ((refine TE.rgo tysOk rfl (by rfl) ?_ ?_); try (with_reducible refine AllP.go ?_; (first | exact trivial | exact fun i _ => ⟨_, rfl⟩ | ((try simp only [OS]); repeat' (first | omega | exact fun i _ => ⟨_, rfl⟩ | refine And.intro ?_ ?_)))))
      refine TE.done (TE.thenN ?_)
      refine TE.seqM (ι := Nat) (fun k => i + k < l.length ∧ (∀ j, j < k → l.getD (i + j + 1) 0 = a + j + 1) ∧ (i + k + 1 < l.length → l.getD (i + k + 1) 0 ≠ a + k + 1)) (fun k => ⟨[(9, .o (.c (.int .i64 a))), (8, .o (.c (.int .i64 ((i + k : Nat) : Int)))), (5, .o (.ptr 4 0)), (4, .o (.c (.int .i64 0))), (0, .o (.ro 1 l.length (intC l).cell))], .box 4 65 [.ptr 4 0, .own 6] :: .own 6 5 1 (bytesC out) :: glC m te pe, 7⟩) ?_ ?_
      · (refine TE.only [9, 8, 5, 4, 0] (by rfl) ?_)
        (repeat (with_reducible first | refine t1 ?_ | refine t2 ?_ | refine t3 ?_ | refine t4 ?_ | refine t5 ?_ | refine t6 ?_ | refine t7 ?_ | refine t8 ?_ | refine t9 ?_ | refine tA ?_ | refine tB ?_ | refine tC ?_ | refine tD rfl ?_ | refine tE ?_ | refine tF ?_ | refine tG ?_ | refine tH ?_ | refine tI ?_ | refine tJ ?_ | refine tK ?_ | refine tL ?_))
        refine TE.loopG (fun k : Nat => i + k < l.length ∧ ∀ j, j < k → l.getD (i + j + 1) 0 = a + j + 1) (fun k => [(8, .o (.c (.int .i64 ((i + k : Nat) : Int))))]) [] (fun _ => []) (fun k => l.length - k) 0 (by rfl) ⟨by omega, fun j hj => absurd hj (Nat.not_lt_zero _)⟩ ?_ ?_
        · (refine Ent.of rfl rfl (by rfl) ?_; (try (first | exact trivial | ((with_reducible refine AllP.go ?_); dsimp only [AllP, appP]; repeat' (first | with_reducible rfl | with_reducible exact LeD.refl | refine And.intro ?_ ?_ | (refine congrArg (Value.int _) ?_; first | omega | rfl | (simp only [Int.toNat_natCast]; omega)) | rfl | (refine congrArg Value.bool ?_; assumption) | exact LeD.refl)))))
        rintro k ⟨k1, k2⟩
        have hk3 : l.getD (i + k) 0 = a + k := by
          cases k with
          | zero => rw [ha]; simp
          | succ k => have := k2 k (Nat.lt_succ_self k); rw [← Nat.add_assoc, this]; omega
        have hix : (((i + k : Nat) : Int) + 1).toNat = i + k + 1 := by omega
        have hr2 := g2 (i + k) k1
        (repeat' (first | (with_reducible refine AllP.go ?_; (first | exact trivial | exact fun i _ => ⟨_, rfl⟩ | ((try simp only [OS]); repeat' (first | omega | exact fun i _ => ⟨_, rfl⟩ | refine And.intro ?_ ?_)))) | (refine TE.rgo tysOk rfl (by rfl) ?_ ?_) | (with_reducible first | refine t1 ?_ | refine t2 ?_ | refine t3 ?_ | refine t4 ?_ | refine t5 ?_ | refine t6 ?_ | refine t7 ?_ | refine t8 ?_ | refine t9 ?_ | refine tA ?_ | refine tB ?_ | refine tC ?_ | refine tD rfl ?_ | refine tE ?_ | refine tF ?_ | refine tG ?_ | refine tH ?_ | refine tI ?_ | refine tJ ?_ | refine tK ?_ | refine tL ?_) | (with_reducible first | exact PanicOk.body | exact rd.panic | refine PanicOk.then' ?_ | refine PanicOk.block ?_ | refine PanicOk.jump ?_) | (refine TE.drawC (by rfl) (by rfl) (by rfl) (by rfl) ?_) | (refine TE.drawN (by rfl) (by rfl) (by rfl) ?_) | (refine TL.done (by rfl) ?_) | (refine TL.auto tysOk rfl ?_ (by rfl) ?_ ?_) | ((refine TL.one (by rfl) ?_); first | (refine StepL.mem tysOk rfl rfl rfl rfl (by rfl) ?_ (by rfl) ?_) | (refine StepL.pure tysOk rfl rfl rfl rfl (by rfl) ?_ (by rfl) ?_)) | (refine StepL.mem tysOk rfl rfl rfl rfl (by rfl) ?_ (by rfl) ?_) | refine TE.cond_true (by rfl) ?_ | refine TE.cond_false (by rfl) ?_ | ((refine TE.gsplit (by rfl) (by rfl) ?_ ?_ <;> intro h <;> (try simp only [NS] at h) <;> (try (exfalso; first | omega | exact h trivial | exact h | exact h rfl | contradiction))) <;> (refine TE.run tysOk rfl (by rfl) ?_ ?_)) | ((first | refine TL.gsplit (by rfl) (by rfl) ?_ ?_ | refine TE.cond_split (by rfl) ?_ ?_) <;> intro h <;> (try simp only [NS] at h) <;> (try (exfalso; first | omega | exact h trivial | exact h | exact h rfl | contradiction)))))
        · refine TE.again' (k + 1) ⟨by omega, fun j hj => ?_⟩ (by omega) ?_
          · rcases Nat.lt_or_ge j k with hj2 | hj2
            · exact k2 j hj2
            · obtain rfl : j = k := by omega
              have h : l.getD (((i + j : Nat) : Int) + 1).toNat 0 = l.getD (i + j) 0 + 1 := by assumption
              rw [hix, hk3] at h
              exact h
          · (refine Ent.of rfl rfl (by rfl) ?_; (try (first | exact trivial | ((with_reducible refine AllP.go ?_); dsimp only [AllP, appP]; repeat' (first | with_reducible rfl | with_reducible exact LeD.refl | refine And.intro ?_ ?_ | (refine congrArg (Value.int _) ?_; first | omega | rfl | (simp only [Int.toNat_natCast]; omega)) | rfl | (refine congrArg Value.bool ?_; assumption) | exact LeD.refl)))))
        · refine TE.at k ⟨k1, k2, fun _ e => ?_⟩ ?_
          · have h : ¬ l.getD (((i + k : Nat) : Int) + 1).toNat 0 = l.getD (i + k) 0 + 1 := by assumption
            rw [hix, hk3] at h
            exact h e
          · (refine Ent.of rfl rfl (by rfl) ?_; (try (first | exact trivial | ((with_reducible refine AllP.go ?_); dsimp only [AllP, appP]; repeat' (first | with_reducible rfl | with_reducible exact LeD.refl | refine And.intro ?_ ?_ | (refine congrArg (Value.int _) ?_; first | omega | rfl | (simp only [Int.toNat_natCast]; omega)) | rfl | (refine congrArg Value.bool ?_; assumption) | exact LeD.refl)))))
            all_goals exact congrArg (Value.int _) ha.symm
        · refine TE.at k ⟨k1, k2, fun e => absurd e (by omega)⟩ ?_
          (refine Ent.of rfl rfl (by rfl) ?_; (try (first | exact trivial | ((with_reducible refine AllP.go ?_); dsimp only [AllP, appP]; repeat' (first | with_reducible rfl | with_reducible exact LeD.refl | refine And.intro ?_ ?_ | (refine congrArg (Value.int _) ?_; first | omega | rfl | (simp only [Int.toNat_natCast]; omega)) | rfl | (refine congrArg Value.bool ?_; assumption) | exact LeD.refl)))))
          all_goals exact congrArg (Value.int _) ha.symm
      rintro k ⟨k1, k2, k3⟩
      have hk3 : l.getD (i + k) 0 = a + k := by
        cases k with
        | zero => rw [ha]; simp
        | succ k => have := k2 k (Nat.lt_succ_self k); rw [← Nat.add_assoc, this]; omega
      have hr2 := g2 (i + k) k1
      have hi1 := Lib.itoa_length_le a (by omega) (by omega)
      have hi2 := Lib.itoa_length_le (a + k) (by omega) (by omega)
      (repeat' (first | (with_reducible refine AllP.go ?_; (first | exact trivial | exact fun i _ => ⟨_, rfl⟩ | ((try simp only [OS]); repeat' (first | omega | exact fun i _ => ⟨_, rfl⟩ | refine And.intro ?_ ?_)))) | (refine TE.rgo tysOk rfl (by rfl) ?_ ?_) | (with_reducible first | refine t1 ?_ | refine t2 ?_ | refine t3 ?_ | refine t4 ?_ | refine t5 ?_ | refine t6 ?_ | refine t7 ?_ | refine t8 ?_ | refine t9 ?_ | refine tA ?_ | refine tB ?_ | refine tC ?_ | refine tD rfl ?_ | refine tE ?_ | refine tF ?_ | refine tG ?_ | refine tH ?_ | refine tI ?_ | refine tJ ?_ | refine tK ?_ | refine tL ?_) | refine TE.cond_true (by rfl) ?_ | refine TE.cond_false (by rfl) ?_ | ((refine TE.gsplit (by rfl) (by rfl) ?_ ?_ <;> intro h <;> (try simp only [NS] at h) <;> (try (exfalso; first | omega | exact h trivial | exact h | exact h rfl | contradiction))) <;> (refine TE.run tysOk rfl (by rfl) ?_ ?_)) | ((first | refine TL.gsplit (by rfl) (by rfl) ?_ ?_ | refine TE.cond_split (by rfl) ?_ ?_) <;> intro h <;> (try simp only [NS] at h) <;> (try (exfalso; first | omega | exact h trivial | exact h | exact h rfl | contradiction)))))
      refine TE.callW (blLen_c out) rfl (by rfl) (by rfl) rfl (by rfl) (by (first | exact trivial | ((with_reducible refine AllP.go ?_); dsimp only [AllP, appP]; repeat' (first | with_reducible rfl | with_reducible exact LeD.refl | refine And.intro ?_ ?_ | (refine congrArg (Value.int _) ?_; first | omega | rfl | (simp only [Int.toNat_natCast]; omega)) | rfl | (refine congrArg Value.bool ?_; assumption) | assumption | exact LeD.refl)))) ?_
      intro _ _
      have ho1 : 0 < out.length := List.length_pos_iff.2 p3
      ((refine TE.run tysOk rfl (by rfl) ?_ ?_); (repeat' (first | (with_reducible refine AllP.go ?_; (first | exact trivial | exact fun i _ => ⟨_, rfl⟩ | ((try simp only [OS]); repeat' (first | omega | exact fun i _ => ⟨_, rfl⟩ | refine And.intro ?_ ?_)))) | (refine TE.rgo tysOk rfl (by rfl) ?_ ?_) | (with_reducible first | refine t1 ?_ | refine t2 ?_ | refine t3 ?_ | refine t4 ?_ | refine t5 ?_ | refine t6 ?_ | refine t7 ?_ | refine t8 ?_ | refine t9 ?_ | refine tA ?_ | refine tB ?_ | refine tC ?_ | refine tD rfl ?_ | refine tE ?_ | refine tF ?_ | refine tG ?_ | refine tH ?_ | refine tI ?_ | refine tJ ?_ | refine tK ?_ | refine tL ?_) | refine TE.cond_true (by rfl) ?_ | refine TE.cond_false (by rfl) ?_ | ((refine TE.gsplit (by rfl) (by rfl) ?_ ?_ <;> intro h <;> (try simp only [NS] at h) <;> (try (exfalso; first | omega | exact h trivial | exact h | exact h rfl | contradiction))) <;> (refine TE.run tysOk rfl (by rfl) ?_ ?_)) | ((first | refine TL.gsplit (by rfl) (by rfl) ?_ ?_ | refine TE.cond_split (by rfl) ?_ ?_) <;> intro h <;> (try simp only [NS] at h) <;> (try (exfalso; first | omega | exact h trivial | exact h | exact h rfl | contradiction))))))
      refine TE.callW (blWB_c out 44 (by omega)) rfl (by rfl) (by rfl) rfl (by rfl) (by (first | exact trivial | ((with_reducible refine AllP.go ?_); dsimp only [AllP, appP]; repeat' (first | with_reducible rfl | with_reducible exact LeD.refl | refine And.intro ?_ ?_ | (refine congrArg (Value.int _) ?_; first | omega | rfl | (simp only [Int.toNat_natCast]; omega)) | rfl | (refine congrArg Value.bool ?_; assumption) | assumption | exact LeD.refl)))) ?_
      intro _ _
      ((refine TE.run tysOk rfl (by rfl) ?_ ?_); (repeat' (first | (with_reducible refine AllP.go ?_; (first | exact trivial | exact fun i _ => ⟨_, rfl⟩ | ((try simp only [OS]); repeat' (first | omega | exact fun i _ => ⟨_, rfl⟩ | refine And.intro ?_ ?_)))) | (refine TE.rgo tysOk rfl (by rfl) ?_ ?_) | (with_reducible first | refine t1 ?_ | refine t2 ?_ | refine t3 ?_ | refine t4 ?_ | refine t5 ?_ | refine t6 ?_ | refine t7 ?_ | refine t8 ?_ | refine t9 ?_ | refine tA ?_ | refine tB ?_ | refine tC ?_ | refine tD rfl ?_ | refine tE ?_ | refine tF ?_ | refine tG ?_ | refine tH ?_ | refine tI ?_ | refine tJ ?_ | refine tK ?_ | refine tL ?_) | refine TE.cond_true (by rfl) ?_ | refine TE.cond_false (by rfl) ?_ | ((refine TE.gsplit (by rfl) (by rfl) ?_ ?_ <;> intro h <;> (try simp only [NS] at h) <;> (try (exfalso; first | omega | exact h trivial | exact h | exact h rfl | contradiction))) <;> (refine TE.run tysOk rfl (by rfl) ?_ ?_)) | ((first | refine TL.gsplit (by rfl) (by rfl) ?_ ?_ | refine TE.cond_split (by rfl) ?_ ?_) <;> intro h <;> (try simp only [NS] at h) <;> (try (exfalso; first | omega | exact h trivial | exact h | exact h rfl | contradiction))))))
      refine TE.callW (itoa_c m te pe a (by omega)) rfl (by rfl) (by rfl) rfl (by rfl) (by (first | exact trivial | ((with_reducible refine AllP.go ?_); dsimp only [AllP, appP]; repeat' (first | with_reducible rfl | with_reducible exact LeD.refl | refine And.intro ?_ ?_ | (refine congrArg (Value.int _) ?_; first | omega | rfl | (simp only [Int.toNat_natCast]; omega)) | rfl | (refine congrArg Value.bool ?_; assumption) | assumption | exact LeD.refl)))) ?_
      intro _ _
      ((refine TE.run tysOk rfl (by rfl) ?_ ?_); try (with_reducible refine AllP.go ?_; (first | exact trivial | exact fun i _ => ⟨_, rfl⟩ | ((try simp only [OS]); repeat' (first | omega | exact fun i _ => ⟨_, rfl⟩ | refine And.intro ?_ ?_)))))
      refine TE.callW (blWS_c (out ++ [44]) (Lib.itoa a) (by simp; omega)) rfl (by rfl) (by rfl) rfl (by rfl) (by (first | exact trivial | ((with_reducible refine AllP.go ?_); dsimp only [AllP, appP]; repeat' (first | with_reducible rfl | with_reducible exact LeD.refl | refine And.intro ?_ ?_ | (refine congrArg (Value.int _) ?_; first | omega | rfl | (simp only [Int.toNat_natCast]; omega)) | rfl | (refine congrArg Value.bool ?_; assumption) | assumption | exact LeD.refl)))) ?_
      intro _ _
      ((refine TE.run tysOk rfl (by rfl) ?_ ?_); (repeat' (first | (with_reducible refine AllP.go ?_; (first | exact trivial | exact fun i _ => ⟨_, rfl⟩ | ((try simp only [OS]); repeat' (first | omega | exact fun i _ => ⟨_, rfl⟩ | refine And.intro ?_ ?_)))) | (refine TE.rgo tysOk rfl (by rfl) ?_ ?_) | (with_reducible first | refine t1 ?_ | refine t2 ?_ | refine t3 ?_ | refine t4 ?_ | refine t5 ?_ | refine t6 ?_ | refine t7 ?_ | refine t8 ?_ | refine t9 ?_ | refine tA ?_ | refine tB ?_ | refine tC ?_ | refine tD rfl ?_ | refine tE ?_ | refine tF ?_ | refine tG ?_ | refine tH ?_ | refine tI ?_ | refine tJ ?_ | refine tK ?_ | refine tL ?_) | refine TE.cond_true (by rfl) ?_ | refine TE.cond_false (by rfl) ?_ | ((refine TE.gsplit (by rfl) (by rfl) ?_ ?_ <;> intro h <;> (try simp only [NS] at h) <;> (try (exfalso; first | omega | exact h trivial | exact h | exact h rfl | contradiction))) <;> (refine TE.run tysOk rfl (by rfl) ?_ ?_)) | ((first | refine TL.gsplit (by rfl) (by rfl) ?_ ?_ | refine TE.cond_split (by rfl) ?_ ?_) <;> intro h <;> (try simp only [NS] at h) <;> (try (exfalso; first | omega | exact h trivial | exact h | exact h rfl | contradiction))))))
      · refine TE.callW (itoa_c m te pe (a + k) (by omega)) rfl (by rfl) (by rfl) rfl (by rfl) (by (first | exact trivial | ((with_reducible refine AllP.go ?_); dsimp only [AllP, appP]; repeat' (first | with_reducible rfl | with_reducible exact LeD.refl | refine And.intro ?_ ?_ | (refine congrArg (Value.int _) ?_; first | omega | rfl | (simp only [Int.toNat_natCast]; omega)) | rfl | (refine congrArg Value.bool ?_; assumption) | assumption | exact LeD.refl)))) ?_
        intro _ _
        have hz := sB_size (Lib.itoa (a + k))
        have hm1 : (ByteArray.mk #[45]).size = 1 := rfl
        have hk0 : k ≠ 0 := fun e => by subst e; rw [hk3] at h; omega
        have hrs := runS_k a hk0
        have hrl : (runS a k).length ≤ 43 := by rw [hrs]; simp; omega
        ((refine TE.run tysOk rfl (by rfl) ?_ ?_); try (with_reducible refine AllP.go ?_; (first | exact trivial | exact fun i _ => ⟨_, rfl⟩ | ((try simp only [OS]); repeat' (first | omega | exact fun i _ => ⟨_, rfl⟩ | refine And.intro ?_ ?_)))))
        rw [show (ByteArray.mk #[45]) ++ sB (Lib.itoa (a + k)) = sB (45 :: Lib.itoa (a + k)) from sB_app [45] _]
        refine TE.callW (blWS_c (out ++ [44] ++ Lib.itoa a) (45 :: Lib.itoa (a + k)) (by simp; omega)) rfl (by rfl) (by rfl) rfl (by rfl) (by (first | exact trivial | ((with_reducible refine AllP.go ?_); dsimp only [AllP, appP]; repeat' (first | with_reducible rfl | with_reducible exact LeD.refl | refine And.intro ?_ ?_ | (refine congrArg (Value.int _) ?_; first | omega | rfl | (simp only [Int.toNat_natCast]; omega)) | rfl | (refine congrArg Value.bool ?_; assumption) | assumption | exact LeD.refl)))) ?_
        intro _ _
        rw [show (out ++ [44] ++ Lib.itoa a) ++ 45 :: Lib.itoa (a + k) = (out ++ [44] ++ runS a k) from by rw [hrs]; simp]
        ((refine TE.run tysOk rfl (by rfl) ?_ ?_); (repeat' (first | (with_reducible refine AllP.go ?_; (first | exact trivial | exact fun i _ => ⟨_, rfl⟩ | ((try simp only [OS]); repeat' (first | omega | exact fun i _ => ⟨_, rfl⟩ | refine And.intro ?_ ?_)))) | (refine TE.rgo tysOk rfl (by rfl) ?_ ?_) | (with_reducible first | refine t1 ?_ | refine t2 ?_ | refine t3 ?_ | refine t4 ?_ | refine t5 ?_ | refine t6 ?_ | refine t7 ?_ | refine t8 ?_ | refine t9 ?_ | refine tA ?_ | refine tB ?_ | refine tC ?_ | refine tD rfl ?_ | refine tE ?_ | refine tF ?_ | refine tG ?_ | refine tH ?_ | refine tI ?_ | refine tJ ?_ | refine tK ?_ | refine tL ?_) | refine TE.cond_true (by rfl) ?_ | refine TE.cond_false (by rfl) ?_ | ((refine TE.gsplit (by rfl) (by rfl) ?_ ?_ <;> intro h <;> (try simp only [NS] at h) <;> (try (exfalso; first | omega | exact h trivial | exact h | exact h rfl | contradiction))) <;> (refine TE.run tysOk rfl (by rfl) ?_ ?_)) | ((first | refine TL.gsplit (by rfl) (by rfl) ?_ ?_ | refine TE.cond_split (by rfl) ?_ ?_) <;> intro h <;> (try simp only [NS] at h) <;> (try (exfalso; first | omega | exact h trivial | exact h | exact h rfl | contradiction))))))
        refine TE.again' (some (i + k + 1, (out ++ [44] ++ runS a k))) ⟨Nat.succ_pos _, by dsimp only; omega, by simp, by simp; omega, list_step p5 k1 ha.symm k2 k3⟩ (by dsimp only; omega) ?_
        (refine Ent.of rfl rfl (by rfl) ?_; (try (first | exact trivial | ((with_reducible refine AllP.go ?_); dsimp only [AllP, appP]; repeat' (first | with_reducible rfl | with_reducible exact LeD.refl | refine And.intro ?_ ?_ | (refine congrArg (Value.int _) ?_; first | omega | rfl | (simp only [Int.toNat_natCast]; omega)) | rfl | (refine congrArg Value.bool ?_; assumption) | exact LeD.refl)))))
      · have hk0 : k = 0 := by omega
        have hrs : runS a k = Lib.itoa a := by rw [hk0]; exact runS_0 a
        have hrl : (runS a k).length ≤ 43 := by rw [hrs]; omega
        rw [← hrs]
        refine TE.again' (some (i + k + 1, (out ++ [44] ++ runS a k))) ⟨Nat.succ_pos _, by dsimp only; omega, by simp, by simp; omega, list_step p5 k1 ha.symm k2 k3⟩ (by dsimp only; omega) ?_
        (refine Ent.of rfl rfl (by rfl) ?_; (try (first | exact trivial | ((with_reducible refine AllP.go ?_); dsimp only [AllP, appP]; repeat' (first | with_reducible rfl | with_reducible exact LeD.refl | refine And.intro ?_ ?_ | (refine congrArg (Value.int _) ?_; first | omega | rfl | (simp only [Int.toNat_natCast]; omega)) | rfl | (refine congrArg Value.bool ?_; assumption) | exact LeD.refl)))))
    · obtain rfl : i = l.length := by omega
      rw [List.drop_of_length_le (Nat.le_refl _)] at p5
      rw [if_neg (fun e => by rw [e] at p1; exact absurd p1 (Nat.lt_irrefl _))] at hi
      (repeat' (first | (with_reducible refine AllP.go ?_; (first | exact trivial | exact fun i _ => ⟨_, rfl⟩ | ((try simp only [OS]); repeat' (first | omega | exact fun i _ => ⟨_, rfl⟩ | refine And.intro ?_ ?_)))) | (refine TE.rgo tysOk rfl (by rfl) ?_ ?_) | (with_reducible first | refine t1 ?_ | refine t2 ?_ | refine t3 ?_ | refine t4 ?_ | refine t5 ?_ | refine t6 ?_ | refine t7 ?_ | refine t8 ?_ | refine t9 ?_ | refine tA ?_ | refine tB ?_ | refine tC ?_ | refine tD rfl ?_ | refine tE ?_ | refine tF ?_ | refine tG ?_ | refine tH ?_ | refine tI ?_ | refine tJ ?_ | refine tK ?_ | refine tL ?_) | refine TE.cond_true (by rfl) ?_ | refine TE.cond_false (by rfl) ?_ | ((refine TE.gsplit (by rfl) (by rfl) ?_ ?_ <;> intro h <;> (try simp only [NS] at h) <;> (try (exfalso; first | omega | exact h trivial | exact h | exact h rfl | contradiction))) <;> (refine TE.run tysOk rfl (by rfl) ?_ ?_)) | ((first | refine TL.gsplit (by rfl) (by rfl) ?_ ?_ | refine TE.cond_split (by rfl) ?_ ?_) <;> intro h <;> (try simp only [NS] at h) <;> (try (exfalso; first | omega | exact h trivial | exact h | exact h rfl | contradiction)))))
      refine TE.callW (blStr_c out p3) rfl (by rfl) (by rfl) rfl (by rfl) (by (first | exact trivial | ((with_reducible refine AllP.go ?_); dsimp only [AllP, appP]; repeat' (first | with_reducible rfl | with_reducible exact LeD.refl | refine And.intro ?_ ?_ | (refine congrArg (Value.int _) ?_; first | omega | rfl | (simp only [Int.toNat_natCast]; omega)) | rfl | (refine congrArg Value.bool ?_; assumption) | assumption | exact LeD.refl)))) ?_
      intro _ _
      ((refine TE.run tysOk rfl (by rfl) ?_ ?_); (repeat' (first | (with_reducible refine AllP.go ?_; (first | exact trivial | exact fun i _ => ⟨_, rfl⟩ | ((try simp only [OS]); repeat' (first | omega | exact fun i _ => ⟨_, rfl⟩ | refine And.intro ?_ ?_)))) | (refine TE.rgo tysOk rfl (by rfl) ?_ ?_) | (with_reducible first | refine t1 ?_ | refine t2 ?_ | refine t3 ?_ | refine t4 ?_ | refine t5 ?_ | refine t6 ?_ | refine t7 ?_ | refine t8 ?_ | refine t9 ?_ | refine tA ?_ | refine tB ?_ | refine tC ?_ | refine tD rfl ?_ | refine tE ?_ | refine tF ?_ | refine tG ?_ | refine tH ?_ | refine tI ?_ | refine tJ ?_ | refine tK ?_ | refine tL ?_) | refine TE.cond_true (by rfl) ?_ | refine TE.cond_false (by rfl) ?_ | ((refine TE.gsplit (by rfl) (by rfl) ?_ ?_ <;> intro h <;> (try simp only [NS] at h) <;> (try (exfalso; first | omega | exact h trivial | exact h | exact h rfl | contradiction))) <;> (refine TE.run tysOk rfl (by rfl) ?_ ?_)) | ((first | refine TL.gsplit (by rfl) (by rfl) ?_ ?_ | refine TE.cond_split (by rfl) ?_ ?_) <;> intro h <;> (try simp only [NS] at h) <;> (try (exfalso; first | omega | exact h trivial | exact h | exact h rfl | contradiction))))))
      rw [hi, ← p5, show tailG [] = [] from rfl, List.append_nil]
      (refine TE.ret' (by first | exact .inl rfl | exact .inr rfl) rfl tysOk (()) ?_ rfl (by rfl) ?_; all_goals (try (first | exact trivial | ((with_reducible refine AllP.go ?_); dsimp only [AllP, appP]; repeat' (first | with_reducible rfl | with_reducible exact LeD.refl | refine And.intro ?_ ?_ | (refine congrArg (Value.int _) ?_; first | omega | rfl | (simp only [Int.toNat_natCast]; omega)) | rfl | (refine congrArg Value.bool ?_; assumption) | exact LeD.refl)))))
end Go.Proofs.YtmeapfckibbbbaaDoor.Am
/- The words: lists of fields compared; whether the program is awake. -/
set_option linter.unusedVariables false
namespace Go.Proofs.YtmeapfckibbbbaaDoor.Am
open Go.RowKit Lw Wo
theorem eqFd : eqOkB Tryd.prog 43 = true := by kernel_rfl
abbrev f0 : Fld := ([], false)
theorem listF_eq {l m : List Fld} (hl : l.length = m.length) (h : ∀ k, k < l.length → l.getD k f0 = m.getD k f0) : l = m := by
  refine List.ext_getElem hl fun i h1 h2 => ?_
  have := h i h1
  rwa [List.getD_eq_getElem?_getD, List.getElem?_eq_getElem h1, List.getD_eq_getElem?_getD, List.getElem?_eq_getElem h2] at this
set_option maxRecDepth 20000 in
theorem SameF_c (l m : List Fld) (hl : l.length ≤ 1000000) (hm : m.length ≤ 1000000) : Con Tryd.prog 12 [.o (.ro 2 l.length (fdC l).cell), .o (.ro 2 m.length (fdC m).cell)] [] 0 0 U (fun _ => .o (.sb (decide (l = m)))) G0 := by
  refine con_of Tryd.func12 rfl (by kernel_rfl) Tryd.ntmps12 rfl (by first | exact Nat.zero_le _ | decide) (fun _ => ⟨rfl, rfl⟩) fun w S ν => ?_
  (repeat' (first | (with_reducible refine AllP.go ?_; (first | exact trivial | exact fun i _ => ⟨_, rfl⟩ | ((try simp only [OS]); repeat' (first | omega | exact fun i _ => ⟨_, rfl⟩ | refine And.intro ?_ ?_)))) | (refine TE.rgo tysOk rfl (by rfl) ?_ ?_) | (with_reducible first | refine t1 ?_ | refine t2 ?_ | refine t3 ?_ | refine t4 ?_ | refine t5 ?_ | refine t6 ?_ | refine t7 ?_ | refine t8 ?_ | refine t9 ?_ | refine tA ?_ | refine tB ?_ | refine tC ?_ | refine tD rfl ?_ | refine tE ?_ | refine tF ?_ | refine tG ?_ | refine tH ?_ | refine tI ?_ | refine tJ ?_ | refine tK ?_ | refine tL ?_) | (with_reducible first | exact PanicOk.body | exact rd.panic | refine PanicOk.then' ?_ | refine PanicOk.block ?_ | refine PanicOk.jump ?_) | (refine TE.drawC (by rfl) (by rfl) (by rfl) (by rfl) ?_) | (refine TE.drawN (by rfl) (by rfl) (by rfl) ?_) | (refine TL.done (by rfl) ?_) | (refine TL.auto tysOk rfl ?_ (by rfl) ?_ ?_) | ((refine TL.one (by rfl) ?_); first | (refine StepL.mem tysOk rfl rfl rfl rfl (by rfl) ?_ (by rfl) ?_) | (refine StepL.pure tysOk rfl rfl rfl rfl (by rfl) ?_ (by rfl) ?_)) | (refine StepL.mem tysOk rfl rfl rfl rfl (by rfl) ?_ (by rfl) ?_) | refine TE.cond_true (by rfl) ?_ | refine TE.cond_false (by rfl) ?_ | ((refine TE.gsplit (by rfl) (by rfl) ?_ ?_ <;> intro h <;> (try simp only [NS] at h) <;> (try (exfalso; first | omega | exact h trivial | exact h | exact h rfl | contradiction))) <;> (refine TE.run tysOk rfl (by rfl) ?_ ?_)) | ((first | refine TL.gsplit (by rfl) (by rfl) ?_ ?_ | refine TE.cond_split (by rfl) ?_ ?_) <;> intro h <;> (try simp only [NS] at h) <;> (try (exfalso; first | omega | exact h trivial | exact h | exact h rfl | contradiction)))))
  · (refine TE.ret' (by first | exact .inl rfl | exact .inr rfl) rfl tysOk (()) ?_ rfl (by rfl) ?_; all_goals (try (first | exact trivial | ((with_reducible refine AllP.go ?_); dsimp only [AllP, appP]; repeat' (first | with_reducible rfl | with_reducible exact LeD.refl | refine And.intro ?_ ?_ | (refine congrArg (Value.int _) ?_; first | omega | rfl | (simp only [Int.toNat_natCast]; omega)) | rfl | (refine congrArg Value.bool ?_; assumption) | exact LeD.refl)))))
    rw [decide_eq_false (fun e => h (by rw [e]))]
  refine TE.loopG (fun q : Nat => q ≤ l.length ∧ ∀ k, k < q → l.getD k f0 = m.getD k f0) (fun q => [(5, .o (.c (.int .i64 q)))]) [] (fun _ => []) (fun q => l.length - q) 0 (by rfl) ⟨Nat.zero_le _, fun k hk => absurd hk (Nat.not_lt_zero _)⟩ ?_ ?_
  · (refine Ent.of rfl rfl (by rfl) ?_; (try (first | exact trivial | ((with_reducible refine AllP.go ?_); dsimp only [AllP, appP]; repeat' (first | with_reducible rfl | with_reducible exact LeD.refl | refine And.intro ?_ ?_ | (refine congrArg (Value.int _) ?_; first | omega | rfl | (simp only [Int.toNat_natCast]; omega)) | rfl | (refine congrArg Value.bool ?_; assumption) | exact LeD.refl)))))
  rintro q ⟨h1, h2⟩
  (repeat' (first | (with_reducible refine AllP.go ?_; (first | exact trivial | exact fun i _ => ⟨_, rfl⟩ | ((try simp only [OS]); repeat' (first | omega | exact fun i _ => ⟨_, rfl⟩ | refine And.intro ?_ ?_)))) | (refine TE.rgo tysOk rfl (by rfl) ?_ ?_) | (with_reducible first | refine t1 ?_ | refine t2 ?_ | refine t3 ?_ | refine t4 ?_ | refine t5 ?_ | refine t6 ?_ | refine t7 ?_ | refine t8 ?_ | refine t9 ?_ | refine tA ?_ | refine tB ?_ | refine tC ?_ | refine tD rfl ?_ | refine tE ?_ | refine tF ?_ | refine tG ?_ | refine tH ?_ | refine tI ?_ | refine tJ ?_ | refine tK ?_ | refine tL ?_) | (with_reducible first | exact PanicOk.body | exact rd.panic | refine PanicOk.then' ?_ | refine PanicOk.block ?_ | refine PanicOk.jump ?_) | (refine TE.drawC (by rfl) (by rfl) (by rfl) (by rfl) ?_) | (refine TE.drawN (by rfl) (by rfl) (by rfl) ?_) | (refine TL.done (by rfl) ?_) | (refine TL.auto tysOk rfl ?_ (by rfl) ?_ ?_) | ((refine TL.one (by rfl) ?_); first | (refine StepL.mem tysOk rfl rfl rfl rfl (by rfl) ?_ (by rfl) ?_) | (refine StepL.pure tysOk rfl rfl rfl rfl (by rfl) ?_ (by rfl) ?_)) | (refine StepL.mem tysOk rfl rfl rfl rfl (by rfl) ?_ (by rfl) ?_) | refine TE.cond_true (by rfl) ?_ | refine TE.cond_false (by rfl) ?_ | ((refine TE.gsplit (by rfl) (by rfl) ?_ ?_ <;> intro h <;> (try simp only [NS] at h) <;> (try (exfalso; first | omega | exact h trivial | exact h | exact h rfl | contradiction))) <;> (refine TE.run tysOk rfl (by rfl) ?_ ?_)) | ((first | refine TL.gsplit (by rfl) (by rfl) ?_ ?_ | refine TE.cond_split (by rfl) ?_ ?_) <;> intro h <;> (try simp only [NS] at h) <;> (try (exfalso; first | omega | exact h trivial | exact h | exact h rfl | contradiction)))))
  · (refine TL.one (by rfl) ?_)
    (refine StepL.law rfl rfl rfl (fun _ h => nomatch h) rfl (m_eqS tysOk (eqFd) rfl (by first | exact .inl rfl | exact .inr rfl) rfl rfl rfl rfl) (by rfl) ?_; rintro _ rfl)
    (repeat' (first | (with_reducible refine AllP.go ?_; (first | exact trivial | exact fun i _ => ⟨_, rfl⟩ | ((try simp only [OS]); repeat' (first | omega | exact fun i _ => ⟨_, rfl⟩ | refine And.intro ?_ ?_)))) | (with_reducible first | exact PanicOk.body | exact rd.panic | refine PanicOk.then' ?_ | refine PanicOk.block ?_ | refine PanicOk.jump ?_) | (refine TL.done (by rfl) ?_) | (refine TL.auto tysOk rfl ?_ (by rfl) ?_ ?_) | (refine StepL.mem tysOk rfl rfl rfl rfl (by rfl) ?_ (by rfl) ?_) | (refine StepL.pure tysOk rfl rfl rfl rfl (by rfl) ?_ (by rfl) ?_) | (refine TL.one (by rfl) ?_) | (refine TL.two (by rfl) ?_ ?_) | (refine TL.three (by rfl) ?_ ?_ ?_) | (refine TL.four (by rfl) ?_ ?_ ?_ ?_)))
    obtain ⟨B, hB⟩ : ∃ B, B = ((decide (sB (l.getD q f0).1 = sB (m.getD q f0).1) && (decide ((l.getD q f0).2 = (m.getD q f0).2) && true)) == (BinOp.neq == BinOp.eql)) := ⟨_, rfl⟩
    have hB2 : B = !decide (l.getD q f0 = m.getD q f0) := by
      rw [hB, show (BinOp.neq == BinOp.eql) = false from rfl]
      have : (l.getD q f0 = m.getD q f0) = (sB (l.getD q f0).1 = sB (m.getD q f0).1 ∧ (l.getD q f0).2 = (m.getD q f0).2) := propext (by rw [Prod.ext_iff, sB_inj])
      simp only [this]
      by_cases c1 : sB (l.getD q f0).1 = sB (m.getD q f0).1 <;> by_cases c2 : (l.getD q f0).2 = (m.getD q f0).2 <;> simp [c1, c2]
    cases hB3 : B
    · have he : l.getD q f0 = m.getD q f0 := by rw [hB3] at hB2; simpa using hB2.symm
      (repeat' (first | (with_reducible refine AllP.go ?_; (first | exact trivial | exact fun i _ => ⟨_, rfl⟩ | ((try simp only [OS]); repeat' (first | omega | exact fun i _ => ⟨_, rfl⟩ | refine And.intro ?_ ?_)))) | (refine TE.rgo tysOk rfl (by rfl) ?_ ?_) | (with_reducible first | refine t1 ?_ | refine t2 ?_ | refine t3 ?_ | refine t4 ?_ | refine t5 ?_ | refine t6 ?_ | refine t7 ?_ | refine t8 ?_ | refine t9 ?_ | refine tA ?_ | refine tB ?_ | refine tC ?_ | refine tD rfl ?_ | refine tE ?_ | refine tF ?_ | refine tG ?_ | refine tH ?_ | refine tI ?_ | refine tJ ?_ | refine tK ?_ | refine tL ?_) | (with_reducible first | exact PanicOk.body | exact rd.panic | refine PanicOk.then' ?_ | refine PanicOk.block ?_ | refine PanicOk.jump ?_) | (refine TE.drawC (by rfl) (by rfl) (by rfl) (by rfl) ?_) | (refine TE.drawN (by rfl) (by rfl) (by rfl) ?_) | (refine TL.done (by rfl) ?_) | (refine TL.auto tysOk rfl ?_ (by rfl) ?_ ?_) | ((refine TL.one (by rfl) ?_); first | (refine StepL.mem tysOk rfl rfl rfl rfl (by rfl) ?_ (by rfl) ?_) | (refine StepL.pure tysOk rfl rfl rfl rfl (by rfl) ?_ (by rfl) ?_)) | (refine StepL.mem tysOk rfl rfl rfl rfl (by rfl) ?_ (by rfl) ?_) | refine TE.cond_true (by rfl) ?_ | refine TE.cond_false (by rfl) ?_ | ((refine TE.gsplit (by rfl) (by rfl) ?_ ?_ <;> intro h <;> (try simp only [NS] at h) <;> (try (exfalso; first | omega | exact h trivial | exact h | exact h rfl | contradiction))) <;> (refine TE.run tysOk rfl (by rfl) ?_ ?_)) | ((first | refine TL.gsplit (by rfl) (by rfl) ?_ ?_ | refine TE.cond_split (by rfl) ?_ ?_) <;> intro h <;> (try simp only [NS] at h) <;> (try (exfalso; first | omega | exact h trivial | exact h | exact h rfl | contradiction)))))
      · exact absurd h (by show ¬ _ = true; rw [show ((decide (sB (l.getD q f0).1 = sB (m.getD q f0).1) && (decide ((l.getD q f0).2 = (m.getD q f0).2) && true)) == (BinOp.neq == BinOp.eql)) = false from hB ▸ hB3]; decide)
      · refine TE.again' (q + 1) ⟨by omega, fun k hk => ?_⟩ (by omega) ?_
        · rcases Nat.lt_or_ge k q with h4 | h4
          · exact h2 k h4
          · obtain rfl : k = q := by omega
            exact he
        · (refine Ent.of rfl rfl (by rfl) ?_; (try (first | exact trivial | ((with_reducible refine AllP.go ?_); dsimp only [AllP, appP]; repeat' (first | with_reducible rfl | with_reducible exact LeD.refl | refine And.intro ?_ ?_ | (refine congrArg (Value.int _) ?_; first | omega | rfl | (simp only [Int.toNat_natCast]; omega)) | rfl | (refine congrArg Value.bool ?_; assumption) | exact LeD.refl)))))
    · have he : l.getD q f0 ≠ m.getD q f0 := by rw [hB3] at hB2; simpa using hB2.symm
      (repeat' (first | (with_reducible refine AllP.go ?_; (first | exact trivial | exact fun i _ => ⟨_, rfl⟩ | ((try simp only [OS]); repeat' (first | omega | exact fun i _ => ⟨_, rfl⟩ | refine And.intro ?_ ?_)))) | (refine TE.rgo tysOk rfl (by rfl) ?_ ?_) | (with_reducible first | refine t1 ?_ | refine t2 ?_ | refine t3 ?_ | refine t4 ?_ | refine t5 ?_ | refine t6 ?_ | refine t7 ?_ | refine t8 ?_ | refine t9 ?_ | refine tA ?_ | refine tB ?_ | refine tC ?_ | refine tD rfl ?_ | refine tE ?_ | refine tF ?_ | refine tG ?_ | refine tH ?_ | refine tI ?_ | refine tJ ?_ | refine tK ?_ | refine tL ?_) | (with_reducible first | exact PanicOk.body | exact rd.panic | refine PanicOk.then' ?_ | refine PanicOk.block ?_ | refine PanicOk.jump ?_) | (refine TE.drawC (by rfl) (by rfl) (by rfl) (by rfl) ?_) | (refine TE.drawN (by rfl) (by rfl) (by rfl) ?_) | (refine TL.done (by rfl) ?_) | (refine TL.auto tysOk rfl ?_ (by rfl) ?_ ?_) | ((refine TL.one (by rfl) ?_); first | (refine StepL.mem tysOk rfl rfl rfl rfl (by rfl) ?_ (by rfl) ?_) | (refine StepL.pure tysOk rfl rfl rfl rfl (by rfl) ?_ (by rfl) ?_)) | (refine StepL.mem tysOk rfl rfl rfl rfl (by rfl) ?_ (by rfl) ?_) | refine TE.cond_true (by rfl) ?_ | refine TE.cond_false (by rfl) ?_ | ((refine TE.gsplit (by rfl) (by rfl) ?_ ?_ <;> intro h <;> (try simp only [NS] at h) <;> (try (exfalso; first | omega | exact h trivial | exact h | exact h rfl | contradiction))) <;> (refine TE.run tysOk rfl (by rfl) ?_ ?_)) | ((first | refine TL.gsplit (by rfl) (by rfl) ?_ ?_ | refine TE.cond_split (by rfl) ?_ ?_) <;> intro h <;> (try simp only [NS] at h) <;> (try (exfalso; first | omega | exact h trivial | exact h | exact h rfl | contradiction)))))
      · (refine TE.ret' (by first | exact .inl rfl | exact .inr rfl) rfl tysOk (()) ?_ rfl (by rfl) ?_; all_goals (try (first | exact trivial | ((with_reducible refine AllP.go ?_); dsimp only [AllP, appP]; repeat' (first | with_reducible rfl | with_reducible exact LeD.refl | refine And.intro ?_ ?_ | (refine congrArg (Value.int _) ?_; first | omega | rfl | (simp only [Int.toNat_natCast]; omega)) | rfl | (refine congrArg Value.bool ?_; assumption) | exact LeD.refl)))))
        rw [decide_eq_false (fun e => he (by rw [e]))]
      · exact absurd h (by show ¬ _ = false; rw [show ((decide (sB (l.getD q f0).1 = sB (m.getD q f0).1) && (decide ((l.getD q f0).2 = (m.getD q f0).2) && true)) == (BinOp.neq == BinOp.eql)) = true from hB ▸ hB3]; decide)
  · (refine TE.ret' (by first | exact .inl rfl | exact .inr rfl) rfl tysOk (()) ?_ rfl (by rfl) ?_; all_goals (try (first | exact trivial | ((with_reducible refine AllP.go ?_); dsimp only [AllP, appP]; repeat' (first | with_reducible rfl | with_reducible exact LeD.refl | refine And.intro ?_ ?_ | (refine congrArg (Value.int _) ?_; first | omega | rfl | (simp only [Int.toNat_natCast]; omega)) | rfl | (refine congrArg Value.bool ?_; assumption) | exact LeD.refl)))))
    rw [decide_eq_true (listF_eq ‹_› fun k hk => h2 k (by omega))]
theorem show_split : splitI [103, 101, 116, 32, 47, 32, 34, 97, 32, 98, 34] = ([([103, 101, 116], false), ([47], false), ([97, 32, 98], true)], 0) := split_join (by decide)
theorem show_list : listI [1, 2, 3, 5, 8, 9] = ([49, 45, 51, 44, 53, 44, 56, 45, 57], 0) := list_parse (by decide)
theorem show_quote : unquoteI [34, 97, 92, 110, 92, 120, 48, 48, 92, 34, 34] = ([97, 10, 0, 34], 0) := by
  have h := unq_quote [97, 10, 0, 34] []
  rw [List.append_nil, show quoteI [97, 10, 0, 34] = [34, 97, 92, 110, 92, 120, 48, 48, 92, 34, 34] from by decide] at h
  unfold unquoteI
  rw [h]; rfl
set_option maxRecDepth 20000 in
set_option maxHeartbeats 4000000 in
theorem shown_c (m : Int) (te : TypeId) (pe : Value) : Con Tryd.prog 9 [] (glC m te pe) 4 4 U (fun _ => .o (.c (.bool true))) (fun _ => glC m te pe) := by
  have hs := Split_c m te pe [103, 101, 116, 32, 47, 32, 34, 97, 32, 98, 34] (by decide)
  rw [show_split] at hs
  have hi := Int_c m te pe [45, 49, 50] (-20) 20 (by decide)
  rw [show intI [45, 49, 50] (-20) 20 = (-12, 0) from by decide] at hi
  have hli := List_c m te pe [1, 2, 3, 5, 8, 9] (by decide)
  rw [show_list] at hli
  have hu := Unquote_c m te pe [34, 97, 92, 110, 92, 120, 48, 48, 92, 34, 34] (by decide)
  rw [show_quote] at hu
  have hsm := SameF_c [([103, 101, 116], false), ([47], false), ([97, 32, 98], true)] [([103, 101, 116], false), ([47], false), ([97, 32, 98], true)] (by decide) (by decide)
  rw [decide_eq_true rfl] at hsm
  have hn := Name_c [119, 101, 98, 45, 49] (by decide)
  rw [show nameI [119, 101, 98, 45, 49] = true from by decide] at hn
  refine con_of Tryd.func9 rfl (by kernel_rfl) Tryd.ntmps9 rfl (by first | exact Nat.zero_le _ | decide) (fun _ => ⟨rfl, rfl⟩) fun w S ν => ?_
  (repeat' (first | (with_reducible refine AllP.go ?_; (first | exact trivial | exact fun i _ => ⟨_, rfl⟩ | ((try simp only [OS]); repeat' (first | omega | exact fun i _ => ⟨_, rfl⟩ | refine And.intro ?_ ?_)))) | (refine TE.rgo tysOk rfl (by rfl) ?_ ?_) | (with_reducible first | refine t1 ?_ | refine t2 ?_ | refine t3 ?_ | refine t4 ?_ | refine t5 ?_ | refine t6 ?_ | refine t7 ?_ | refine t8 ?_ | refine t9 ?_ | refine tA ?_ | refine tB ?_ | refine tC ?_ | refine tD rfl ?_ | refine tE ?_ | refine tF ?_ | refine tG ?_ | refine tH ?_ | refine tI ?_ | refine tJ ?_ | refine tK ?_ | refine tL ?_) | refine TE.cond_true (by rfl) ?_ | refine TE.cond_false (by rfl) ?_ | ((refine TE.gsplit (by rfl) (by rfl) ?_ ?_ <;> intro h <;> (try simp only [NS] at h) <;> (try (exfalso; first | omega | exact h trivial | exact h | exact h rfl | contradiction))) <;> (refine TE.run tysOk rfl (by rfl) ?_ ?_)) | ((first | refine TL.gsplit (by rfl) (by rfl) ?_ ?_ | refine TE.cond_split (by rfl) ?_ ?_) <;> intro h <;> (try simp only [NS] at h) <;> (try (exfalso; first | omega | exact h trivial | exact h | exact h rfl | contradiction)))))
  refine TE.callW (hs) rfl (by rfl) (by rfl) rfl (by rfl) (by (first | exact trivial | ((with_reducible refine AllP.go ?_); dsimp only [AllP, appP]; repeat' (first | with_reducible rfl | with_reducible exact LeD.refl | refine And.intro ?_ ?_ | (refine congrArg (Value.int _) ?_; first | omega | rfl | (simp only [Int.toNat_natCast]; omega)) | rfl | (refine congrArg Value.bool ?_; assumption) | assumption | exact LeD.refl)))) ?_
  intro _ _
  ((refine TE.run tysOk rfl (by rfl) ?_ ?_); (repeat' (first | (with_reducible refine AllP.go ?_; (first | exact trivial | exact fun i _ => ⟨_, rfl⟩ | ((try simp only [OS]); repeat' (first | omega | exact fun i _ => ⟨_, rfl⟩ | refine And.intro ?_ ?_)))) | (refine TE.rgo tysOk rfl (by rfl) ?_ ?_) | (with_reducible first | refine t1 ?_ | refine t2 ?_ | refine t3 ?_ | refine t4 ?_ | refine t5 ?_ | refine t6 ?_ | refine t7 ?_ | refine t8 ?_ | refine t9 ?_ | refine tA ?_ | refine tB ?_ | refine tC ?_ | refine tD rfl ?_ | refine tE ?_ | refine tF ?_ | refine tG ?_ | refine tH ?_ | refine tI ?_ | refine tJ ?_ | refine tK ?_ | refine tL ?_) | refine TE.cond_true (by rfl) ?_ | refine TE.cond_false (by rfl) ?_ | ((refine TE.gsplit (by rfl) (by rfl) ?_ ?_ <;> intro h <;> (try simp only [NS] at h) <;> (try (exfalso; first | omega | exact h trivial | exact h | exact h rfl | contradiction))) <;> (refine TE.run tysOk rfl (by rfl) ?_ ?_)) | ((first | refine TL.gsplit (by rfl) (by rfl) ?_ ?_ | refine TE.cond_split (by rfl) ?_ ?_) <;> intro h <;> (try simp only [NS] at h) <;> (try (exfalso; first | omega | exact h trivial | exact h | exact h rfl | contradiction))))))
  refine TE.callW (hi) rfl (by rfl) (by rfl) rfl (by rfl) (by (first | exact trivial | ((with_reducible refine AllP.go ?_); dsimp only [AllP, appP]; repeat' (first | with_reducible rfl | with_reducible exact LeD.refl | refine And.intro ?_ ?_ | (refine congrArg (Value.int _) ?_; first | omega | rfl | (simp only [Int.toNat_natCast]; omega)) | rfl | (refine congrArg Value.bool ?_; assumption) | assumption | exact LeD.refl)))) ?_
  intro _ _
  ((refine TE.run tysOk rfl (by rfl) ?_ ?_); (repeat' (first | (with_reducible refine AllP.go ?_; (first | exact trivial | exact fun i _ => ⟨_, rfl⟩ | ((try simp only [OS]); repeat' (first | omega | exact fun i _ => ⟨_, rfl⟩ | refine And.intro ?_ ?_)))) | (refine TE.rgo tysOk rfl (by rfl) ?_ ?_) | (with_reducible first | refine t1 ?_ | refine t2 ?_ | refine t3 ?_ | refine t4 ?_ | refine t5 ?_ | refine t6 ?_ | refine t7 ?_ | refine t8 ?_ | refine t9 ?_ | refine tA ?_ | refine tB ?_ | refine tC ?_ | refine tD rfl ?_ | refine tE ?_ | refine tF ?_ | refine tG ?_ | refine tH ?_ | refine tI ?_ | refine tJ ?_ | refine tK ?_ | refine tL ?_) | refine TE.cond_true (by rfl) ?_ | refine TE.cond_false (by rfl) ?_ | ((refine TE.gsplit (by rfl) (by rfl) ?_ ?_ <;> intro h <;> (try simp only [NS] at h) <;> (try (exfalso; first | omega | exact h trivial | exact h | exact h rfl | contradiction))) <;> (refine TE.run tysOk rfl (by rfl) ?_ ?_)) | ((first | refine TL.gsplit (by rfl) (by rfl) ?_ ?_ | refine TE.cond_split (by rfl) ?_ ?_) <;> intro h <;> (try simp only [NS] at h) <;> (try (exfalso; first | omega | exact h trivial | exact h | exact h rfl | contradiction))))))
  (refine TE.freezeN 4 (by rfl) (by rfl) ?_)
  refine TE.callW (hli) rfl (by rfl) (by rfl) rfl (by rfl) (by (first | exact trivial | ((with_reducible refine AllP.go ?_); dsimp only [AllP, appP]; repeat' (first | with_reducible rfl | with_reducible exact LeD.refl | refine And.intro ?_ ?_ | (refine congrArg (Value.int _) ?_; first | omega | rfl | (simp only [Int.toNat_natCast]; omega)) | rfl | (refine congrArg Value.bool ?_; assumption) | exact trivial | (refine LeD.lit rfl ?_) | exact LeX.of_eq rfl | exact LeX.nil rfl | (refine LeX.lit rfl ?_) | refine nth1x ?_ | refine nth2x ?_ ?_ | refine nth3x ?_ ?_ ?_ | refine nth4x ?_ ?_ ?_ ?_ | exact LeD.refl)))) ?_
  intro _ _
  ((refine TE.run tysOk rfl (by rfl) ?_ ?_); (repeat' (first | (with_reducible refine AllP.go ?_; (first | exact trivial | exact fun i _ => ⟨_, rfl⟩ | ((try simp only [OS]); repeat' (first | omega | exact fun i _ => ⟨_, rfl⟩ | refine And.intro ?_ ?_)))) | (refine TE.rgo tysOk rfl (by rfl) ?_ ?_) | (with_reducible first | refine t1 ?_ | refine t2 ?_ | refine t3 ?_ | refine t4 ?_ | refine t5 ?_ | refine t6 ?_ | refine t7 ?_ | refine t8 ?_ | refine t9 ?_ | refine tA ?_ | refine tB ?_ | refine tC ?_ | refine tD rfl ?_ | refine tE ?_ | refine tF ?_ | refine tG ?_ | refine tH ?_ | refine tI ?_ | refine tJ ?_ | refine tK ?_ | refine tL ?_) | refine TE.cond_true (by rfl) ?_ | refine TE.cond_false (by rfl) ?_ | ((refine TE.gsplit (by rfl) (by rfl) ?_ ?_ <;> intro h <;> (try simp only [NS] at h) <;> (try (exfalso; first | omega | exact h trivial | exact h | exact h rfl | contradiction))) <;> (refine TE.run tysOk rfl (by rfl) ?_ ?_)) | ((first | refine TL.gsplit (by rfl) (by rfl) ?_ ?_ | refine TE.cond_split (by rfl) ?_ ?_) <;> intro h <;> (try simp only [NS] at h) <;> (try (exfalso; first | omega | exact h trivial | exact h | exact h rfl | contradiction))))))
  refine TE.callW (hu) rfl (by rfl) (by rfl) rfl (by rfl) (by (first | exact trivial | ((with_reducible refine AllP.go ?_); dsimp only [AllP, appP]; repeat' (first | with_reducible rfl | with_reducible exact LeD.refl | refine And.intro ?_ ?_ | (refine congrArg (Value.int _) ?_; first | omega | rfl | (simp only [Int.toNat_natCast]; omega)) | rfl | (refine congrArg Value.bool ?_; assumption) | assumption | exact LeD.refl)))) ?_
  intro _ _
  ((refine TE.run tysOk rfl (by rfl) ?_ ?_); (repeat' (first | (with_reducible refine AllP.go ?_; (first | exact trivial | exact fun i _ => ⟨_, rfl⟩ | ((try simp only [OS]); repeat' (first | omega | exact fun i _ => ⟨_, rfl⟩ | refine And.intro ?_ ?_)))) | (refine TE.rgo tysOk rfl (by rfl) ?_ ?_) | (with_reducible first | refine t1 ?_ | refine t2 ?_ | refine t3 ?_ | refine t4 ?_ | refine t5 ?_ | refine t6 ?_ | refine t7 ?_ | refine t8 ?_ | refine t9 ?_ | refine tA ?_ | refine tB ?_ | refine tC ?_ | refine tD rfl ?_ | refine tE ?_ | refine tF ?_ | refine tG ?_ | refine tH ?_ | refine tI ?_ | refine tJ ?_ | refine tK ?_ | refine tL ?_) | refine TE.cond_true (by rfl) ?_ | refine TE.cond_false (by rfl) ?_ | ((refine TE.gsplit (by rfl) (by rfl) ?_ ?_ <;> intro h <;> (try simp only [NS] at h) <;> (try (exfalso; first | omega | exact h trivial | exact h | exact h rfl | contradiction))) <;> (refine TE.run tysOk rfl (by rfl) ?_ ?_)) | ((first | refine TL.gsplit (by rfl) (by rfl) ?_ ?_ | refine TE.cond_split (by rfl) ?_ ?_) <;> intro h <;> (try simp only [NS] at h) <;> (try (exfalso; first | omega | exact h trivial | exact h | exact h rfl | contradiction))))))
  (refine TE.freezeN 5 (by rfl) (by rfl) ?_)
  refine TE.callW (hsm) rfl (by rfl) (by rfl) rfl (by rfl) (by (first | exact trivial | ((with_reducible refine AllP.go ?_); dsimp only [AllP, appP]; repeat' (first | with_reducible rfl | with_reducible exact LeD.refl | refine And.intro ?_ ?_ | (refine congrArg (Value.int _) ?_; first | omega | rfl | (simp only [Int.toNat_natCast]; omega)) | rfl | (refine congrArg Value.bool ?_; assumption) | exact trivial | (refine LeD.lit rfl ?_) | exact LeX.of_eq rfl | exact LeX.nil rfl | (refine LeX.lit rfl ?_) | refine nth1x ?_ | refine nth2x ?_ ?_ | refine nth3x ?_ ?_ ?_ | refine nth4x ?_ ?_ ?_ ?_ | exact LeD.refl)))) ?_
  intro _ _
  ((refine TE.run tysOk rfl (by rfl) ?_ ?_); (repeat' (first | (with_reducible refine AllP.go ?_; (first | exact trivial | exact fun i _ => ⟨_, rfl⟩ | ((try simp only [OS]); repeat' (first | omega | exact fun i _ => ⟨_, rfl⟩ | refine And.intro ?_ ?_)))) | (refine TE.rgo tysOk rfl (by rfl) ?_ ?_) | (with_reducible first | refine t1 ?_ | refine t2 ?_ | refine t3 ?_ | refine t4 ?_ | refine t5 ?_ | refine t6 ?_ | refine t7 ?_ | refine t8 ?_ | refine t9 ?_ | refine tA ?_ | refine tB ?_ | refine tC ?_ | refine tD rfl ?_ | refine tE ?_ | refine tF ?_ | refine tG ?_ | refine tH ?_ | refine tI ?_ | refine tJ ?_ | refine tK ?_ | refine tL ?_) | refine TE.cond_true (by rfl) ?_ | refine TE.cond_false (by rfl) ?_ | ((refine TE.gsplit (by rfl) (by rfl) ?_ ?_ <;> intro h <;> (try simp only [NS] at h) <;> (try (exfalso; first | omega | exact h trivial | exact h | exact h rfl | contradiction))) <;> (refine TE.run tysOk rfl (by rfl) ?_ ?_)) | ((first | refine TL.gsplit (by rfl) (by rfl) ?_ ?_ | refine TE.cond_split (by rfl) ?_ ?_) <;> intro h <;> (try simp only [NS] at h) <;> (try (exfalso; first | omega | exact h trivial | exact h | exact h rfl | contradiction))))))
  refine TE.callW (hn) rfl (by rfl) (by rfl) rfl (by rfl) (by (first | exact trivial | ((with_reducible refine AllP.go ?_); dsimp only [AllP, appP]; repeat' (first | with_reducible rfl | with_reducible exact LeD.refl | refine And.intro ?_ ?_ | (refine congrArg (Value.int _) ?_; first | omega | rfl | (simp only [Int.toNat_natCast]; omega)) | rfl | (refine congrArg Value.bool ?_; assumption) | assumption | exact LeD.refl)))) ?_
  intro _ _
  ((refine TE.run tysOk rfl (by rfl) ?_ ?_); (repeat' (first | (with_reducible refine AllP.go ?_; (first | exact trivial | exact fun i _ => ⟨_, rfl⟩ | ((try simp only [OS]); repeat' (first | omega | exact fun i _ => ⟨_, rfl⟩ | refine And.intro ?_ ?_)))) | (refine TE.rgo tysOk rfl (by rfl) ?_ ?_) | (with_reducible first | refine t1 ?_ | refine t2 ?_ | refine t3 ?_ | refine t4 ?_ | refine t5 ?_ | refine t6 ?_ | refine t7 ?_ | refine t8 ?_ | refine t9 ?_ | refine tA ?_ | refine tB ?_ | refine tC ?_ | refine tD rfl ?_ | refine tE ?_ | refine tF ?_ | refine tG ?_ | refine tH ?_ | refine tI ?_ | refine tJ ?_ | refine tK ?_ | refine tL ?_) | refine TE.cond_true (by rfl) ?_ | refine TE.cond_false (by rfl) ?_ | ((refine TE.gsplit (by rfl) (by rfl) ?_ ?_ <;> intro h <;> (try simp only [NS] at h) <;> (try (exfalso; first | omega | exact h trivial | exact h | exact h rfl | contradiction))) <;> (refine TE.run tysOk rfl (by rfl) ?_ ?_)) | ((first | refine TL.gsplit (by rfl) (by rfl) ?_ ?_ | refine TE.cond_split (by rfl) ?_ ?_) <;> intro h <;> (try simp only [NS] at h) <;> (try (exfalso; first | omega | exact h trivial | exact h | exact h rfl | contradiction))))))
  all_goals (refine TE.ret' (by first | exact .inl rfl | exact .inr rfl) rfl tysOk (()) ?_ rfl (by rfl) ?_; all_goals (try (first | exact trivial | ((with_reducible refine AllP.go ?_); dsimp only [AllP, appP]; repeat' (first | with_reducible rfl | with_reducible exact LeD.refl | refine And.intro ?_ ?_ | (refine congrArg (Value.int _) ?_; first | omega | rfl | (simp only [Int.toNat_natCast]; omega)) | rfl | (refine congrArg Value.bool ?_; assumption) | exact LeD.refl)))))
end Go.Proofs.YtmeapfckibbbbaaDoor.Am
/- The words: fields joined to a line, the reference's; the laws Joins and Both. -/
set_option linter.unusedVariables false
namespace Go.Proofs.YtmeapfckibbbbaaDoor.Am
open Go.RowKit Lw Wo
set_option maxRecDepth 20000 in
theorem farF_c (l : List Fld) : Con Tryd.prog 23 [.o (.ro 2 l.length (fdC l).cell)] [] 0 0 (fun b : Bool => b = false → l.length ≤ 70) (fun b => .o (.c (.bool b))) (fun _ => []) := by
  refine con_of Tryd.func23 rfl (by kernel_rfl) Tryd.ntmps23 rfl (by first | exact Nat.zero_le _ | decide) (fun _ => ⟨rfl, rfl⟩) fun w S ν => ?_
  (repeat' (first | (with_reducible refine AllP.go ?_; (first | exact trivial | exact fun i _ => ⟨_, rfl⟩ | ((try simp only [OS]); repeat' (first | omega | exact fun i _ => ⟨_, rfl⟩ | refine And.intro ?_ ?_)))) | (refine TE.rgo tysOk rfl (by rfl) ?_ ?_) | (with_reducible first | refine t1 ?_ | refine t2 ?_ | refine t3 ?_ | refine t4 ?_ | refine t5 ?_ | refine t6 ?_ | refine t7 ?_ | refine t8 ?_ | refine t9 ?_ | refine tA ?_ | refine tB ?_ | refine tC ?_ | refine tD rfl ?_ | refine tE ?_ | refine tF ?_ | refine tG ?_ | refine tH ?_ | refine tI ?_ | refine tJ ?_ | refine tK ?_ | refine tL ?_) | (with_reducible first | exact PanicOk.body | exact rd.panic | refine PanicOk.then' ?_ | refine PanicOk.block ?_ | refine PanicOk.jump ?_) | (refine TE.drawC (by rfl) (by rfl) (by rfl) (by rfl) ?_) | (refine TE.drawN (by rfl) (by rfl) (by rfl) ?_) | (refine TL.done (by rfl) ?_) | (refine TL.auto tysOk rfl ?_ (by rfl) ?_ ?_) | ((refine TL.one (by rfl) ?_); first | (refine StepL.mem tysOk rfl rfl rfl rfl (by rfl) ?_ (by rfl) ?_) | (refine StepL.pure tysOk rfl rfl rfl rfl (by rfl) ?_ (by rfl) ?_)) | (refine StepL.mem tysOk rfl rfl rfl rfl (by rfl) ?_ (by rfl) ?_) | refine TE.cond_true (by rfl) ?_ | refine TE.cond_false (by rfl) ?_ | ((refine TE.gsplit (by rfl) (by rfl) ?_ ?_ <;> intro h <;> (try simp only [NS] at h) <;> (try (exfalso; first | omega | exact h trivial | exact h | exact h rfl | contradiction))) <;> (refine TE.run tysOk rfl (by rfl) ?_ ?_)) | ((first | refine TL.gsplit (by rfl) (by rfl) ?_ ?_ | refine TE.cond_split (by rfl) ?_ ?_) <;> intro h <;> (try simp only [NS] at h) <;> (try (exfalso; first | omega | exact h trivial | exact h | exact h rfl | contradiction)))))
  · (refine TE.ret' (by first | exact .inl rfl | exact .inr rfl) rfl tysOk (true) ?_ rfl (by rfl) ?_; all_goals (try (first | exact trivial | ((with_reducible refine AllP.go ?_); dsimp only [AllP, appP]; repeat' (first | with_reducible rfl | with_reducible exact LeD.refl | refine And.intro ?_ ?_ | (refine congrArg (Value.int _) ?_; first | omega | rfl | (simp only [Int.toNat_natCast]; omega)) | rfl | (refine congrArg Value.bool ?_; assumption) | exact LeD.refl)))))
    exact fun h => nomatch h
  refine TE.loopG (fun p : Nat × Nat => p.1 ≤ l.length ∧ p.2 ≤ 2100 * p.1) (fun p => [(4, .o (.c (.int .i64 p.1))), (3, .o (.c (.int .i64 p.2)))]) [] (fun _ => []) (fun p => l.length - p.1) (0, 0) (by rfl) ⟨Nat.zero_le _, Nat.le_refl _⟩ ?_ ?_
  · (refine Ent.of rfl rfl (by rfl) ?_; (try (first | exact trivial | ((with_reducible refine AllP.go ?_); dsimp only [AllP, appP]; repeat' (first | with_reducible rfl | with_reducible exact LeD.refl | refine And.intro ?_ ?_ | (refine congrArg (Value.int _) ?_; first | omega | rfl | (simp only [Int.toNat_natCast]; omega)) | rfl | (refine congrArg Value.bool ?_; assumption) | exact LeD.refl)))))
  rintro ⟨q, n⟩ ⟨h1, h2⟩
  dsimp only at h1 h2
  have hsz := sB_size (l.getD q ([], false)).1
  (repeat' (first | (with_reducible refine AllP.go ?_; (first | exact trivial | exact fun i _ => ⟨_, rfl⟩ | ((try simp only [OS]); repeat' (first | omega | exact fun i _ => ⟨_, rfl⟩ | refine And.intro ?_ ?_)))) | (refine TE.rgo tysOk rfl (by rfl) ?_ ?_) | (with_reducible first | refine t1 ?_ | refine t2 ?_ | refine t3 ?_ | refine t4 ?_ | refine t5 ?_ | refine t6 ?_ | refine t7 ?_ | refine t8 ?_ | refine t9 ?_ | refine tA ?_ | refine tB ?_ | refine tC ?_ | refine tD rfl ?_ | refine tE ?_ | refine tF ?_ | refine tG ?_ | refine tH ?_ | refine tI ?_ | refine tJ ?_ | refine tK ?_ | refine tL ?_) | (with_reducible first | exact PanicOk.body | exact rd.panic | refine PanicOk.then' ?_ | refine PanicOk.block ?_ | refine PanicOk.jump ?_) | (refine TE.drawC (by rfl) (by rfl) (by rfl) (by rfl) ?_) | (refine TE.drawN (by rfl) (by rfl) (by rfl) ?_) | (refine TL.done (by rfl) ?_) | (refine TL.auto tysOk rfl ?_ (by rfl) ?_ ?_) | ((refine TL.one (by rfl) ?_); first | (refine StepL.mem tysOk rfl rfl rfl rfl (by rfl) ?_ (by rfl) ?_) | (refine StepL.pure tysOk rfl rfl rfl rfl (by rfl) ?_ (by rfl) ?_)) | (refine StepL.mem tysOk rfl rfl rfl rfl (by rfl) ?_ (by rfl) ?_) | refine TE.cond_true (by rfl) ?_ | refine TE.cond_false (by rfl) ?_ | ((refine TE.gsplit (by rfl) (by rfl) ?_ ?_ <;> intro h <;> (try simp only [NS] at h) <;> (try (exfalso; first | omega | exact h trivial | exact h | exact h rfl | contradiction))) <;> (refine TE.run tysOk rfl (by rfl) ?_ ?_)) | ((first | refine TL.gsplit (by rfl) (by rfl) ?_ ?_ | refine TE.cond_split (by rfl) ?_ ?_) <;> intro h <;> (try simp only [NS] at h) <;> (try (exfalso; first | omega | exact h trivial | exact h | exact h rfl | contradiction)))))
  · (refine TE.ret' (by first | exact .inl rfl | exact .inr rfl) rfl tysOk (true) ?_ rfl (by rfl) ?_; all_goals (try (first | exact trivial | ((with_reducible refine AllP.go ?_); dsimp only [AllP, appP]; repeat' (first | with_reducible rfl | with_reducible exact LeD.refl | refine And.intro ?_ ?_ | (refine congrArg (Value.int _) ?_; first | omega | rfl | (simp only [Int.toNat_natCast]; omega)) | rfl | (refine congrArg Value.bool ?_; assumption) | exact LeD.refl)))))
    exact fun h => nomatch h
  · refine TE.again' (q + 1, n + (sB (l.getD q ([], false)).1).size) ⟨by dsimp only; omega, by dsimp only; omega⟩ (by dsimp only; omega) ?_
    (refine Ent.of rfl rfl (by rfl) ?_; (try (first | exact trivial | ((with_reducible refine AllP.go ?_); dsimp only [AllP, appP]; repeat' (first | with_reducible rfl | with_reducible exact LeD.refl | refine And.intro ?_ ?_ | (refine congrArg (Value.int _) ?_; first | omega | rfl | (simp only [Int.toNat_natCast]; omega)) | rfl | (refine congrArg Value.bool ?_; assumption) | exact LeD.refl)))))
  · (refine TE.ret' (by first | exact .inl rfl | exact .inr rfl) rfl tysOk (decide (12000 < (n : Int))) ?_ rfl (by rfl) ?_; all_goals (try (first | exact trivial | ((with_reducible refine AllP.go ?_); dsimp only [AllP, appP]; repeat' (first | with_reducible rfl | with_reducible exact LeD.refl | refine And.intro ?_ ?_ | (refine congrArg (Value.int _) ?_; first | omega | rfl | (simp only [Int.toNat_natCast]; omega)) | rfl | (refine congrArg Value.bool ?_; assumption) | exact LeD.refl)))))
    exact fun _ => by omega
end Go.Proofs.YtmeapfckibbbbaaDoor.Am
