/- Texts of this claim, joined. -/
import Derived.Test.YtmeapfckibbbbaaGreatDoorPk6
import Derived.Lib.ItoaLen
import Derived.Test.YtmeapfckibbbbaaGreatDoorRows
import Derived.KernelRfl
import Derived.Handed
import Derived.HandedShaped
import Derived.Shelf.Vars
import Derived.Lib.LaidTab
import Derived.Lib.LaidU8
import Derived.Stop.LaidErr
set_option linter.unusedSimpArgs false
set_option linter.unusedVariables false
/- The words: the law Inverse, walked. -/
set_option linter.unusedVariables false
namespace Go.Proofs.YtmeapfckibbbbaaGreatDoor.Wo
theorem unquote_quote (s : Bs) : unquoteI (quoteI s) = (s, 0) := by
  have h := unq_quote s []
  rw [List.append_nil] at h
  unfold unquoteI
  rw [h, if_neg (by unfold quoteI; simp)]
theorem quote_unquote {s v : Bs} (h : unquoteI s = (v, 0)) : quoteI v = s := by
  unfold unquoteI at h
  split at h
  · cases h
  · rename_i hn
    cases h
    obtain ⟨h1, h2⟩ := unq_back (s := s) (by omega)
    have : s.drop (unqI s).2 = [] := List.drop_of_length_le (by omega)
    rw [this, List.append_nil] at h1
    exact h1.symm
theorem int_digits {n : Int} (h : -9223372036854775808 ≤ n ∧ n ≤ 9223372036854775807) : intI (Lib.itoa n) n n = (n, 0) := by
  obtain ⟨h1, h2⟩ := itoa_dec n
  unfold intI
  rw [if_neg (by rw [h1]; decide), h2, if_neg (by omega)]
theorem digits_int {s : Bs} {lo hi k : Int} (h : intI s lo hi = (k, 0)) : Lib.itoa k = s ∧ -9223372036854775808 ≤ k ∧ k ≤ 9223372036854775807 := by
  unfold intI at h
  split at h
  · cases h
  · rename_i hd
    split at h
    · cases h
    · rename_i hr
      cases h
      exact ⟨dec_itoa (by simpa using hd), by omega⟩
theorem quote_len (s : Bs) : (quoteI s).length ≤ 4 * s.length + 2 := by
  unfold quoteI
  have := escs_len s
  rw [List.length_cons, List.length_append, List.length_singleton]
  omega
theorem parse_len (s : Bs) : (parseI s).1.length ≤ 500 := by
  unfold parseI
  repeat' split
  all_goals first | exact Nat.zero_le _ | (dsimp only; omega)
theorem runG_le : ∀ (r : List Int) (a : Int), runG a r ≤ r.length
  | [], _ => Nat.le_refl _
  | b :: r, a => by
    unfold runG
    split
    · have := runG_le r b
      simp only [List.length_cons]; omega
    · exact Nat.zero_le _
theorem listX_len : ∀ (n : Nat) (l : List Int), l.length ≤ n → n ≤ 500 → (∀ a ∈ l, 0 ≤ a ∧ a ≤ 1000000000) → (listX l).length ≤ 44 * l.length
  | _, [], _, _, _ => by rw [listX]; exact Nat.le_refl _
  | 0, a :: r, h, _, _ => by simp at h
  | n + 1, a :: r, h, hn, h0 => by
    have ha := h0 a (List.mem_cons_self ..)
    have hg := runG_le r a
    simp only [List.length_cons] at h
    have h1 := Go.Lib.itoa_length_le a (by omega) (by omega)
    have h2 := Go.Lib.itoa_length_le (a + (runG a r : Nat)) (by omega) (by omega)
    have h3 : (runS a (runG a r)).length ≤ 43 := by
      unfold runS
      split
      · simp; omega
      · simp; omega
    have h4 : (tailG (r.drop (runG a r))).length ≤ 1 + 44 * r.length := by
      have hl : (r.drop (runG a r)).length ≤ r.length := by rw [List.length_drop]; omega
      cases hd : r.drop (runG a r) with
      | nil => exact Nat.zero_le _
      | cons b t =>
        rw [← hd]
        have ih := listX_len n (r.drop (runG a r)) (by omega) (by omega) fun x hx => h0 x (List.mem_cons_of_mem _ (List.mem_of_mem_drop hx))
        rw [hd] at ih hl ⊢
        show (44 :: listX (b :: t)).length ≤ _
        rw [List.length_cons]
        omega
    rw [listG_cons, List.length_append, List.length_cons]
    omega
theorem list_len (l : List Int) (h : (listI l).2 = 0) : (listI l).1.length ≤ 25000 := by
  unfold listI at h ⊢
  split at h
  · cases h
  · rename_i h1
    split at h
    · cases h
    · rename_i h2
      rw [if_neg h1, if_neg h2]
      split at h
      · cases h
      · rename_i h3
        rw [if_neg h3]
        split
        · decide
        · have := listX_len l.length l (Nat.le_refl _) (by omega) fun a ha => of_decide_eq_true (List.all_eq_true.1 (Bool.not_eq_false _ ▸ h2 : l.all okN = true) a ha)
          dsimp only
          omega
theorem join_len (l : List Fld) : (joinI l).1.length ≤ 8192 := by
  unfold joinI
  repeat' split
  all_goals first | exact Nat.zero_le _ | (dsimp only; omega)
theorem quote_ge (v : Bs) : v.length ≤ (quoteI v).length := by
  have : ∀ v : Bs, v.length ≤ (v.flatMap escI).length := by
    intro v
    induction v with
    | nil => exact Nat.le_refl _
    | cons c r ih =>
      have := (esc_len c).1
      rw [List.flatMap_cons, List.length_append, List.length_cons]
      omega
  have := this v
  unfold quoteI
  rw [List.length_cons, List.length_append]
  omega
theorem pair0 {α : Type} {x : α × Int} (h : x.2 = 0) : x = (x.1, 0) := Prod.ext rfl h
end Go.Proofs.YtmeapfckibbbbaaGreatDoor.Wo
namespace Go.Proofs.YtmeapfckibbbbaaGreatDoor.Am
open Go.RowKit Lw Wo
set_option maxRecDepth 20000 in
set_option maxHeartbeats 8000000 in
theorem Inverse_w (m : Int) (te : TypeId) (pe : Value) (s : Bs) (l : List Fld) (L : List Int) (N : Int) (hN : -9223372036854775808 ≤ N ∧ N ≤ 9223372036854775807) : Con Tryz.prog 5 [.o (.c (.string (sB s))), .o (.ro 2 l.length (fdC l).cell), .g [.ro 1 L.length (intC L).cell, .c (.int .i64 N)]] (glC m te pe) 4 4 U (fun _ => .o (.c (.bool true))) (fun _ => glC m te pe) := by
  refine con_of Tryz.func5 rfl (by kernel_rfl) Tryz.ntmps5 rfl (by first | exact Nat.zero_le _ | decide) (fun _ => ⟨rfl, rfl⟩) fun w S ν => ?_
  have hz := sB_size s
  (repeat' (first | (with_reducible refine AllP.go ?_; (first | exact trivial | exact fun i _ => ⟨_, rfl⟩ | ((try simp only [OS]); repeat' (first | omega | exact fun i _ => ⟨_, rfl⟩ | refine And.intro ?_ ?_)))) | (refine TE.rgo tysOk rfl (by rfl) ?_ ?_) | (with_reducible first | refine t1 ?_ | refine t2 ?_ | refine t3 ?_ | refine t4 ?_ | refine t5 ?_ | refine t6 ?_ | refine t7 ?_ | refine t8 ?_ | refine t9 ?_ | refine tA ?_ | refine tB ?_ | refine tC ?_ | refine tD rfl ?_ | refine tE ?_ | refine tF ?_ | refine tG ?_ | refine tH ?_ | refine tI ?_ | refine tJ ?_ | refine tK ?_ | refine tL ?_) | refine TE.cond_true (by rfl) ?_ | refine TE.cond_false (by rfl) ?_ | ((refine TE.gsplit (by rfl) (by rfl) ?_ ?_ <;> intro h <;> (try simp only [NS] at h) <;> (try (exfalso; first | omega | exact h trivial | exact h | exact h rfl | contradiction))) <;> (refine TE.run tysOk rfl (by rfl) ?_ ?_)) | ((first | refine TL.gsplit (by rfl) (by rfl) ?_ ?_ | refine TE.cond_split (by rfl) ?_ ?_) <;> intro h <;> (try simp only [NS] at h) <;> (try (exfalso; first | omega | exact h trivial | exact h | exact h rfl | contradiction)))))
  · refine TE.callW (shown_c m te pe) rfl (by rfl) (by rfl) rfl (by rfl) (by (first | exact trivial | ((with_reducible refine AllP.go ?_); dsimp only [AllP, appP]; repeat' (first | with_reducible rfl | with_reducible exact LeD.refl | refine And.intro ?_ ?_ | (refine congrArg (Value.int _) ?_; first | omega | rfl | (simp only [Int.toNat_natCast]; omega)) | rfl | (refine congrArg Value.bool ?_; assumption) | assumption | exact LeD.refl)))) ?_
    intro _ _
    ((refine TE.run tysOk rfl (by rfl) ?_ ?_); (repeat' (first | (with_reducible refine AllP.go ?_; (first | exact trivial | exact fun i _ => ⟨_, rfl⟩ | ((try simp only [OS]); repeat' (first | omega | exact fun i _ => ⟨_, rfl⟩ | refine And.intro ?_ ?_)))) | (refine TE.rgo tysOk rfl (by rfl) ?_ ?_) | (with_reducible first | refine t1 ?_ | refine t2 ?_ | refine t3 ?_ | refine t4 ?_ | refine t5 ?_ | refine t6 ?_ | refine t7 ?_ | refine t8 ?_ | refine t9 ?_ | refine tA ?_ | refine tB ?_ | refine tC ?_ | refine tD rfl ?_ | refine tE ?_ | refine tF ?_ | refine tG ?_ | refine tH ?_ | refine tI ?_ | refine tJ ?_ | refine tK ?_ | refine tL ?_) | refine TE.cond_true (by rfl) ?_ | refine TE.cond_false (by rfl) ?_ | ((refine TE.gsplit (by rfl) (by rfl) ?_ ?_ <;> intro h <;> (try simp only [NS] at h) <;> (try (exfalso; first | omega | exact h trivial | exact h | exact h rfl | contradiction))) <;> (refine TE.run tysOk rfl (by rfl) ?_ ?_)) | ((first | refine TL.gsplit (by rfl) (by rfl) ?_ ?_ | refine TE.cond_split (by rfl) ?_ ?_) <;> intro h <;> (try simp only [NS] at h) <;> (try (exfalso; first | omega | exact h trivial | exact h | exact h rfl | contradiction))))))
    (refine TE.ret' (by first | exact .inl rfl | exact .inr rfl) rfl tysOk (()) ?_ rfl (by rfl) ?_; all_goals (try (first | exact trivial | ((with_reducible refine AllP.go ?_); dsimp only [AllP, appP]; repeat' (first | with_reducible rfl | with_reducible exact LeD.refl | refine And.intro ?_ ?_ | (refine congrArg (Value.int _) ?_; first | omega | rfl | (simp only [Int.toNat_natCast]; omega)) | rfl | (refine congrArg Value.bool ?_; assumption) | exact LeD.refl)))))
  refine TE.callW (farF_c l) rfl (by rfl) (by rfl) rfl (by rfl) (by (first | exact trivial | ((with_reducible refine AllP.go ?_); dsimp only [AllP, appP]; repeat' (first | with_reducible rfl | with_reducible exact LeD.refl | refine And.intro ?_ ?_ | (refine congrArg (Value.int _) ?_; first | omega | rfl | (simp only [Int.toNat_natCast]; omega)) | rfl | (refine congrArg Value.bool ?_; assumption) | assumption | exact LeD.refl)))) ?_
  rintro b hb
  cases b
  rotate_left
  · ((refine TE.run tysOk rfl (by rfl) ?_ ?_); (repeat' (first | (with_reducible refine AllP.go ?_; (first | exact trivial | exact fun i _ => ⟨_, rfl⟩ | ((try simp only [OS]); repeat' (first | omega | exact fun i _ => ⟨_, rfl⟩ | refine And.intro ?_ ?_)))) | (refine TE.rgo tysOk rfl (by rfl) ?_ ?_) | (with_reducible first | refine t1 ?_ | refine t2 ?_ | refine t3 ?_ | refine t4 ?_ | refine t5 ?_ | refine t6 ?_ | refine t7 ?_ | refine t8 ?_ | refine t9 ?_ | refine tA ?_ | refine tB ?_ | refine tC ?_ | refine tD rfl ?_ | refine tE ?_ | refine tF ?_ | refine tG ?_ | refine tH ?_ | refine tI ?_ | refine tJ ?_ | refine tK ?_ | refine tL ?_) | refine TE.cond_true (by rfl) ?_ | refine TE.cond_false (by rfl) ?_ | ((refine TE.gsplit (by rfl) (by rfl) ?_ ?_ <;> intro h <;> (try simp only [NS] at h) <;> (try (exfalso; first | omega | exact h trivial | exact h | exact h rfl | contradiction))) <;> (refine TE.run tysOk rfl (by rfl) ?_ ?_)) | ((first | refine TL.gsplit (by rfl) (by rfl) ?_ ?_ | refine TE.cond_split (by rfl) ?_ ?_) <;> intro h <;> (try simp only [NS] at h) <;> (try (exfalso; first | omega | exact h trivial | exact h | exact h rfl | contradiction))))))
    refine TE.callW (shown_c m te pe) rfl (by rfl) (by rfl) rfl (by rfl) (by (first | exact trivial | ((with_reducible refine AllP.go ?_); dsimp only [AllP, appP]; repeat' (first | with_reducible rfl | with_reducible exact LeD.refl | refine And.intro ?_ ?_ | (refine congrArg (Value.int _) ?_; first | omega | rfl | (simp only [Int.toNat_natCast]; omega)) | rfl | (refine congrArg Value.bool ?_; assumption) | assumption | exact LeD.refl)))) ?_
    intro _ _
    ((refine TE.run tysOk rfl (by rfl) ?_ ?_); (repeat' (first | (with_reducible refine AllP.go ?_; (first | exact trivial | exact fun i _ => ⟨_, rfl⟩ | ((try simp only [OS]); repeat' (first | omega | exact fun i _ => ⟨_, rfl⟩ | refine And.intro ?_ ?_)))) | (refine TE.rgo tysOk rfl (by rfl) ?_ ?_) | (with_reducible first | refine t1 ?_ | refine t2 ?_ | refine t3 ?_ | refine t4 ?_ | refine t5 ?_ | refine t6 ?_ | refine t7 ?_ | refine t8 ?_ | refine t9 ?_ | refine tA ?_ | refine tB ?_ | refine tC ?_ | refine tD rfl ?_ | refine tE ?_ | refine tF ?_ | refine tG ?_ | refine tH ?_ | refine tI ?_ | refine tJ ?_ | refine tK ?_ | refine tL ?_) | refine TE.cond_true (by rfl) ?_ | refine TE.cond_false (by rfl) ?_ | ((refine TE.gsplit (by rfl) (by rfl) ?_ ?_ <;> intro h <;> (try simp only [NS] at h) <;> (try (exfalso; first | omega | exact h trivial | exact h | exact h rfl | contradiction))) <;> (refine TE.run tysOk rfl (by rfl) ?_ ?_)) | ((first | refine TL.gsplit (by rfl) (by rfl) ?_ ?_ | refine TE.cond_split (by rfl) ?_ ?_) <;> intro h <;> (try simp only [NS] at h) <;> (try (exfalso; first | omega | exact h trivial | exact h | exact h rfl | contradiction))))))
    (refine TE.ret' (by first | exact .inl rfl | exact .inr rfl) rfl tysOk (()) ?_ rfl (by rfl) ?_; all_goals (try (first | exact trivial | ((with_reducible refine AllP.go ?_); dsimp only [AllP, appP]; repeat' (first | with_reducible rfl | with_reducible exact LeD.refl | refine And.intro ?_ ?_ | (refine congrArg (Value.int _) ?_; first | omega | rfl | (simp only [Int.toNat_natCast]; omega)) | rfl | (refine congrArg Value.bool ?_; assumption) | exact LeD.refl)))))
  have h70 := hb rfl
  ((refine TE.run tysOk rfl (by rfl) ?_ ?_); (repeat' (first | (with_reducible refine AllP.go ?_; (first | exact trivial | exact fun i _ => ⟨_, rfl⟩ | ((try simp only [OS]); repeat' (first | omega | exact fun i _ => ⟨_, rfl⟩ | refine And.intro ?_ ?_)))) | (refine TE.rgo tysOk rfl (by rfl) ?_ ?_) | (with_reducible first | refine t1 ?_ | refine t2 ?_ | refine t3 ?_ | refine t4 ?_ | refine t5 ?_ | refine t6 ?_ | refine t7 ?_ | refine t8 ?_ | refine t9 ?_ | refine tA ?_ | refine tB ?_ | refine tC ?_ | refine tD rfl ?_ | refine tE ?_ | refine tF ?_ | refine tG ?_ | refine tH ?_ | refine tI ?_ | refine tJ ?_ | refine tK ?_ | refine tL ?_) | refine TE.cond_true (by rfl) ?_ | refine TE.cond_false (by rfl) ?_ | ((refine TE.gsplit (by rfl) (by rfl) ?_ ?_ <;> intro h <;> (try simp only [NS] at h) <;> (try (exfalso; first | omega | exact h trivial | exact h | exact h rfl | contradiction))) <;> (refine TE.run tysOk rfl (by rfl) ?_ ?_)) | ((first | refine TL.gsplit (by rfl) (by rfl) ?_ ?_ | refine TE.cond_split (by rfl) ?_ ?_) <;> intro h <;> (try simp only [NS] at h) <;> (try (exfalso; first | omega | exact h trivial | exact h | exact h rfl | contradiction))))))
  · refine TE.callW (shown_c m te pe) rfl (by rfl) (by rfl) rfl (by rfl) (by (first | exact trivial | ((with_reducible refine AllP.go ?_); dsimp only [AllP, appP]; repeat' (first | with_reducible rfl | with_reducible exact LeD.refl | refine And.intro ?_ ?_ | (refine congrArg (Value.int _) ?_; first | omega | rfl | (simp only [Int.toNat_natCast]; omega)) | rfl | (refine congrArg Value.bool ?_; assumption) | assumption | exact LeD.refl)))) ?_
    intro _ _
    ((refine TE.run tysOk rfl (by rfl) ?_ ?_); (repeat' (first | (with_reducible refine AllP.go ?_; (first | exact trivial | exact fun i _ => ⟨_, rfl⟩ | ((try simp only [OS]); repeat' (first | omega | exact fun i _ => ⟨_, rfl⟩ | refine And.intro ?_ ?_)))) | (refine TE.rgo tysOk rfl (by rfl) ?_ ?_) | (with_reducible first | refine t1 ?_ | refine t2 ?_ | refine t3 ?_ | refine t4 ?_ | refine t5 ?_ | refine t6 ?_ | refine t7 ?_ | refine t8 ?_ | refine t9 ?_ | refine tA ?_ | refine tB ?_ | refine tC ?_ | refine tD rfl ?_ | refine tE ?_ | refine tF ?_ | refine tG ?_ | refine tH ?_ | refine tI ?_ | refine tJ ?_ | refine tK ?_ | refine tL ?_) | refine TE.cond_true (by rfl) ?_ | refine TE.cond_false (by rfl) ?_ | ((refine TE.gsplit (by rfl) (by rfl) ?_ ?_ <;> intro h <;> (try simp only [NS] at h) <;> (try (exfalso; first | omega | exact h trivial | exact h | exact h rfl | contradiction))) <;> (refine TE.run tysOk rfl (by rfl) ?_ ?_)) | ((first | refine TL.gsplit (by rfl) (by rfl) ?_ ?_ | refine TE.cond_split (by rfl) ?_ ?_) <;> intro h <;> (try simp only [NS] at h) <;> (try (exfalso; first | omega | exact h trivial | exact h | exact h rfl | contradiction))))))
    (refine TE.ret' (by first | exact .inl rfl | exact .inr rfl) rfl tysOk (()) ?_ rfl (by rfl) ?_; all_goals (try (first | exact trivial | ((with_reducible refine AllP.go ?_); dsimp only [AllP, appP]; repeat' (first | with_reducible rfl | with_reducible exact LeD.refl | refine And.intro ?_ ?_ | (refine congrArg (Value.int _) ?_; first | omega | rfl | (simp only [Int.toNat_natCast]; omega)) | rfl | (refine congrArg Value.bool ?_; assumption) | exact LeD.refl)))))
  have h64 := split_len s
  refine TE.callW (Split_c m te pe s (by omega)) rfl (by rfl) (by rfl) rfl (by rfl) (by (first | exact trivial | ((with_reducible refine AllP.go ?_); dsimp only [AllP, appP]; repeat' (first | with_reducible rfl | with_reducible exact LeD.refl | refine And.intro ?_ ?_ | (refine congrArg (Value.int _) ?_; first | omega | rfl | (simp only [Int.toNat_natCast]; omega)) | rfl | (refine congrArg Value.bool ?_; assumption) | assumption | exact LeD.refl)))) ?_
  intro _ _
  ((refine TE.run tysOk rfl (by rfl) (by (first | exact trivial | exact fun i _ => ⟨_, rfl⟩ | ((try simp only [OS]); repeat' (first | omega | exact fun i _ => ⟨_, rfl⟩ | refine And.intro ?_ ?_)))) ?_); refine TE.done ?_; refine TE.thenN ?_)
  (refine TE.seqM (ι := Unit) (fun _ => True) (fun _ => ⟨[(0, .o (.c (.string (sB s)))), (1, .o (.ro 2 l.length (fdC l).cell)), (5, .o (.ptr 4 0))], .box 4 39 [.ro 1 L.length (intC L).cell, .c (.int .i64 N)] :: glC m te pe, 5⟩) ?_ fun _ _ => ?_)
  · (repeat' (first | (with_reducible refine AllP.go ?_; (first | exact trivial | exact fun i _ => ⟨_, rfl⟩ | ((try simp only [OS]); repeat' (first | omega | exact fun i _ => ⟨_, rfl⟩ | refine And.intro ?_ ?_)))) | (refine TE.rgo tysOk rfl (by rfl) ?_ ?_) | (with_reducible first | refine t1 ?_ | refine t2 ?_ | refine t3 ?_ | refine t4 ?_ | refine t5 ?_ | refine t6 ?_ | refine t7 ?_ | refine t8 ?_ | refine t9 ?_ | refine tA ?_ | refine tB ?_ | refine tC ?_ | refine tD rfl ?_ | refine tE ?_ | refine tF ?_ | refine tG ?_ | refine tH ?_ | refine tI ?_ | refine tJ ?_ | refine tK ?_ | refine tL ?_) | refine TE.cond_true (by rfl) ?_ | refine TE.cond_false (by rfl) ?_ | ((refine TE.gsplit (by rfl) (by rfl) ?_ ?_ <;> intro h <;> (try simp only [NS] at h) <;> (try (exfalso; first | omega | exact h trivial | exact h | exact h rfl | contradiction))) <;> (refine TE.run tysOk rfl (by rfl) ?_ ?_)) | ((first | refine TL.gsplit (by rfl) (by rfl) ?_ ?_ | refine TE.cond_split (by rfl) ?_ ?_) <;> intro h <;> (try simp only [NS] at h) <;> (try (exfalso; first | omega | exact h trivial | exact h | exact h rfl | contradiction)))))
    · have hj := join_split (pair0 h)
      have hc := Join_c m te pe (splitI s).1 (by omega)
      rw [hj] at hc
      refine TE.callW (hc) rfl (by rfl) (by rfl) rfl (by rfl) (by (first | exact trivial | ((with_reducible refine AllP.go ?_); dsimp only [AllP, appP]; repeat' (first | with_reducible rfl | with_reducible exact LeD.refl | refine And.intro ?_ ?_ | (refine congrArg (Value.int _) ?_; first | omega | rfl | (simp only [Int.toNat_natCast]; omega)) | rfl | (refine congrArg Value.bool ?_; assumption) | assumption | exact LeD.refl)))) ?_
      intro _ _
      ((refine TE.run tysOk rfl (by rfl) ?_ ?_); (repeat' (first | (with_reducible refine AllP.go ?_; (first | exact trivial | exact fun i _ => ⟨_, rfl⟩ | ((try simp only [OS]); repeat' (first | omega | exact fun i _ => ⟨_, rfl⟩ | refine And.intro ?_ ?_)))) | (refine TE.rgo tysOk rfl (by rfl) ?_ ?_) | (with_reducible first | refine t1 ?_ | refine t2 ?_ | refine t3 ?_ | refine t4 ?_ | refine t5 ?_ | refine t6 ?_ | refine t7 ?_ | refine t8 ?_ | refine t9 ?_ | refine tA ?_ | refine tB ?_ | refine tC ?_ | refine tD rfl ?_ | refine tE ?_ | refine tF ?_ | refine tG ?_ | refine tH ?_ | refine tI ?_ | refine tJ ?_ | refine tK ?_ | refine tL ?_) | refine TE.cond_true (by rfl) ?_ | refine TE.cond_false (by rfl) ?_ | ((refine TE.gsplit (by rfl) (by rfl) ?_ ?_ <;> intro h <;> (try simp only [NS] at h) <;> (try (exfalso; first | omega | exact h trivial | exact h | exact h rfl | contradiction))) <;> (refine TE.run tysOk rfl (by rfl) ?_ ?_)) | ((first | refine TL.gsplit (by rfl) (by rfl) ?_ ?_ | refine TE.cond_split (by rfl) ?_ ?_) <;> intro h <;> (try simp only [NS] at h) <;> (try (exfalso; first | omega | exact h trivial | exact h | exact h rfl | contradiction))))))
      all_goals (refine TE.at () trivial ?_; (refine Ent.of rfl rfl (by rfl) ?_; (try (first | exact trivial | ((with_reducible refine AllP.go ?_); dsimp only [AllP, appP]; repeat' (first | with_reducible rfl | with_reducible exact LeD.refl | refine And.intro ?_ ?_ | (refine congrArg (Value.int _) ?_; first | omega | rfl | (simp only [Int.toNat_natCast]; omega)) | rfl | (refine congrArg Value.bool ?_; assumption) | exact LeD.refl))))))
    · (refine TE.at () trivial ?_; (refine Ent.of rfl rfl (by rfl) ?_; (try (first | exact trivial | ((with_reducible refine AllP.go ?_); dsimp only [AllP, appP]; repeat' (first | with_reducible rfl | with_reducible exact LeD.refl | refine And.intro ?_ ?_ | (refine congrArg (Value.int _) ?_; first | omega | rfl | (simp only [Int.toNat_natCast]; omega)) | rfl | (refine congrArg Value.bool ?_; assumption) | exact LeD.refl))))))
  (repeat (with_reducible first | refine t1 ?_ | refine t2 ?_ | refine t3 ?_ | refine t4 ?_ | refine t5 ?_ | refine t6 ?_ | refine t7 ?_ | refine t8 ?_ | refine t9 ?_ | refine tA ?_ | refine tB ?_ | refine tC ?_ | refine tD rfl ?_ | refine tE ?_ | refine tF ?_ | refine tG ?_ | refine tH ?_ | refine tI ?_ | refine tJ ?_ | refine tK ?_ | refine tL ?_))
  ((refine TE.rgo tysOk rfl (by rfl) ?_ ?_); try (with_reducible refine AllP.go ?_; (first | exact trivial | exact fun i _ => ⟨_, rfl⟩ | ((try simp only [OS]); repeat' (first | omega | exact fun i _ => ⟨_, rfl⟩ | refine And.intro ?_ ?_)))))
  refine TE.callW (Join_c m te pe l (by omega)) rfl (by rfl) (by rfl) rfl (by rfl) (by (first | exact trivial | ((with_reducible refine AllP.go ?_); dsimp only [AllP, appP]; repeat' (first | with_reducible rfl | with_reducible exact LeD.refl | refine And.intro ?_ ?_ | (refine congrArg (Value.int _) ?_; first | omega | rfl | (simp only [Int.toNat_natCast]; omega)) | rfl | (refine congrArg Value.bool ?_; assumption) | assumption | exact LeD.refl)))) ?_
  intro _ _
  ((refine TE.run tysOk rfl (by rfl) (by (first | exact trivial | exact fun i _ => ⟨_, rfl⟩ | ((try simp only [OS]); repeat' (first | omega | exact fun i _ => ⟨_, rfl⟩ | refine And.intro ?_ ?_)))) ?_); refine TE.done ?_; refine TE.thenN ?_)
  have hjl := join_len l
  (refine TE.seqM (ι := Unit) (fun _ => True) (fun _ => ⟨[(0, .o (.c (.string (sB s)))), (1, .o (.ro 2 l.length (fdC l).cell)), (5, .o (.ptr 4 0))], .box 4 39 [.ro 1 L.length (intC L).cell, .c (.int .i64 N)] :: glC m te pe, 5⟩) ?_ fun _ _ => ?_)
  · (repeat' (first | (with_reducible refine AllP.go ?_; (first | exact trivial | exact fun i _ => ⟨_, rfl⟩ | ((try simp only [OS]); repeat' (first | omega | exact fun i _ => ⟨_, rfl⟩ | refine And.intro ?_ ?_)))) | (refine TE.rgo tysOk rfl (by rfl) ?_ ?_) | (with_reducible first | refine t1 ?_ | refine t2 ?_ | refine t3 ?_ | refine t4 ?_ | refine t5 ?_ | refine t6 ?_ | refine t7 ?_ | refine t8 ?_ | refine t9 ?_ | refine tA ?_ | refine tB ?_ | refine tC ?_ | refine tD rfl ?_ | refine tE ?_ | refine tF ?_ | refine tG ?_ | refine tH ?_ | refine tI ?_ | refine tJ ?_ | refine tK ?_ | refine tL ?_) | refine TE.cond_true (by rfl) ?_ | refine TE.cond_false (by rfl) ?_ | ((refine TE.gsplit (by rfl) (by rfl) ?_ ?_ <;> intro h <;> (try simp only [NS] at h) <;> (try (exfalso; first | omega | exact h trivial | exact h | exact h rfl | contradiction))) <;> (refine TE.run tysOk rfl (by rfl) ?_ ?_)) | ((first | refine TL.gsplit (by rfl) (by rfl) ?_ ?_ | refine TE.cond_split (by rfl) ?_ ?_) <;> intro h <;> (try simp only [NS] at h) <;> (try (exfalso; first | omega | exact h trivial | exact h | exact h rfl | contradiction)))))
    · have hj := split_join (pair0 h)
      have hc := Split_c m te pe (joinI l).1 (by omega)
      rw [hj] at hc
      refine TE.callW (hc) rfl (by rfl) (by rfl) rfl (by rfl) (by (first | exact trivial | ((with_reducible refine AllP.go ?_); dsimp only [AllP, appP]; repeat' (first | with_reducible rfl | with_reducible exact LeD.refl | refine And.intro ?_ ?_ | (refine congrArg (Value.int _) ?_; first | omega | rfl | (simp only [Int.toNat_natCast]; omega)) | rfl | (refine congrArg Value.bool ?_; assumption) | assumption | exact LeD.refl)))) ?_
      intro _ _
      have hsm := SameF_c l l (by omega) (by omega)
      rw [decide_eq_true rfl] at hsm
      ((refine TE.run tysOk rfl (by rfl) ?_ ?_); (repeat' (first | (with_reducible refine AllP.go ?_; (first | exact trivial | exact fun i _ => ⟨_, rfl⟩ | ((try simp only [OS]); repeat' (first | omega | exact fun i _ => ⟨_, rfl⟩ | refine And.intro ?_ ?_)))) | (refine TE.rgo tysOk rfl (by rfl) ?_ ?_) | (with_reducible first | refine t1 ?_ | refine t2 ?_ | refine t3 ?_ | refine t4 ?_ | refine t5 ?_ | refine t6 ?_ | refine t7 ?_ | refine t8 ?_ | refine t9 ?_ | refine tA ?_ | refine tB ?_ | refine tC ?_ | refine tD rfl ?_ | refine tE ?_ | refine tF ?_ | refine tG ?_ | refine tH ?_ | refine tI ?_ | refine tJ ?_ | refine tK ?_ | refine tL ?_) | refine TE.cond_true (by rfl) ?_ | refine TE.cond_false (by rfl) ?_ | ((refine TE.gsplit (by rfl) (by rfl) ?_ ?_ <;> intro h <;> (try simp only [NS] at h) <;> (try (exfalso; first | omega | exact h trivial | exact h | exact h rfl | contradiction))) <;> (refine TE.run tysOk rfl (by rfl) ?_ ?_)) | ((first | refine TL.gsplit (by rfl) (by rfl) ?_ ?_ | refine TE.cond_split (by rfl) ?_ ?_) <;> intro h <;> (try simp only [NS] at h) <;> (try (exfalso; first | omega | exact h trivial | exact h | exact h rfl | contradiction))))))
      refine TE.callW (hsm) rfl (by rfl) (by rfl) rfl (by rfl) (by (first | exact trivial | ((with_reducible refine AllP.go ?_); dsimp only [AllP, appP]; repeat' (first | with_reducible rfl | with_reducible exact LeD.refl | refine And.intro ?_ ?_ | (refine congrArg (Value.int _) ?_; first | omega | rfl | (simp only [Int.toNat_natCast]; omega)) | rfl | (refine congrArg Value.bool ?_; assumption) | assumption | exact LeD.refl)))) ?_
      intro _ _
      ((refine TE.run tysOk rfl (by rfl) ?_ ?_); (repeat' (first | (with_reducible refine AllP.go ?_; (first | exact trivial | exact fun i _ => ⟨_, rfl⟩ | ((try simp only [OS]); repeat' (first | omega | exact fun i _ => ⟨_, rfl⟩ | refine And.intro ?_ ?_)))) | (refine TE.rgo tysOk rfl (by rfl) ?_ ?_) | (with_reducible first | refine t1 ?_ | refine t2 ?_ | refine t3 ?_ | refine t4 ?_ | refine t5 ?_ | refine t6 ?_ | refine t7 ?_ | refine t8 ?_ | refine t9 ?_ | refine tA ?_ | refine tB ?_ | refine tC ?_ | refine tD rfl ?_ | refine tE ?_ | refine tF ?_ | refine tG ?_ | refine tH ?_ | refine tI ?_ | refine tJ ?_ | refine tK ?_ | refine tL ?_) | refine TE.cond_true (by rfl) ?_ | refine TE.cond_false (by rfl) ?_ | ((refine TE.gsplit (by rfl) (by rfl) ?_ ?_ <;> intro h <;> (try simp only [NS] at h) <;> (try (exfalso; first | omega | exact h trivial | exact h | exact h rfl | contradiction))) <;> (refine TE.run tysOk rfl (by rfl) ?_ ?_)) | ((first | refine TL.gsplit (by rfl) (by rfl) ?_ ?_ | refine TE.cond_split (by rfl) ?_ ?_) <;> intro h <;> (try simp only [NS] at h) <;> (try (exfalso; first | omega | exact h trivial | exact h | exact h rfl | contradiction))))))
      all_goals (refine TE.at () trivial ?_; (refine Ent.of rfl rfl (by rfl) ?_; (try (first | exact trivial | ((with_reducible refine AllP.go ?_); dsimp only [AllP, appP]; repeat' (first | with_reducible rfl | with_reducible exact LeD.refl | refine And.intro ?_ ?_ | (refine congrArg (Value.int _) ?_; first | omega | rfl | (simp only [Int.toNat_natCast]; omega)) | rfl | (refine congrArg Value.bool ?_; assumption) | exact LeD.refl))))))
    · (refine TE.at () trivial ?_; (refine Ent.of rfl rfl (by rfl) ?_; (try (first | exact trivial | ((with_reducible refine AllP.go ?_); dsimp only [AllP, appP]; repeat' (first | with_reducible rfl | with_reducible exact LeD.refl | refine And.intro ?_ ?_ | (refine congrArg (Value.int _) ?_; first | omega | rfl | (simp only [Int.toNat_natCast]; omega)) | rfl | (refine congrArg Value.bool ?_; assumption) | exact LeD.refl))))))
  have hql := quote_len s
  (repeat (with_reducible first | refine t1 ?_ | refine t2 ?_ | refine t3 ?_ | refine t4 ?_ | refine t5 ?_ | refine t6 ?_ | refine t7 ?_ | refine t8 ?_ | refine t9 ?_ | refine tA ?_ | refine tB ?_ | refine tC ?_ | refine tD rfl ?_ | refine tE ?_ | refine tF ?_ | refine tG ?_ | refine tH ?_ | refine tI ?_ | refine tJ ?_ | refine tK ?_ | refine tL ?_))
  ((refine TE.rgo tysOk rfl (by rfl) ?_ ?_); try (with_reducible refine AllP.go ?_; (first | exact trivial | exact fun i _ => ⟨_, rfl⟩ | ((try simp only [OS]); repeat' (first | omega | exact fun i _ => ⟨_, rfl⟩ | refine And.intro ?_ ?_)))))
  refine TE.callW (Quote_c m te pe s (by omega)) rfl (by rfl) (by rfl) rfl (by rfl) (by (first | exact trivial | ((with_reducible refine AllP.go ?_); dsimp only [AllP, appP]; repeat' (first | with_reducible rfl | with_reducible exact LeD.refl | refine And.intro ?_ ?_ | (refine congrArg (Value.int _) ?_; first | omega | rfl | (simp only [Int.toNat_natCast]; omega)) | rfl | (refine congrArg Value.bool ?_; assumption) | assumption | exact LeD.refl)))) ?_
  intro _ _
  have hu := Unquote_c m te pe (quoteI s) (by omega)
  rw [unquote_quote] at hu
  ((refine TE.run tysOk rfl (by rfl) ?_ ?_); try (with_reducible refine AllP.go ?_; (first | exact trivial | exact fun i _ => ⟨_, rfl⟩ | ((try simp only [OS]); repeat' (first | omega | exact fun i _ => ⟨_, rfl⟩ | refine And.intro ?_ ?_)))))
  refine TE.callW (hu) rfl (by rfl) (by rfl) rfl (by rfl) (by (first | exact trivial | ((with_reducible refine AllP.go ?_); dsimp only [AllP, appP]; repeat' (first | with_reducible rfl | with_reducible exact LeD.refl | refine And.intro ?_ ?_ | (refine congrArg (Value.int _) ?_; first | omega | rfl | (simp only [Int.toNat_natCast]; omega)) | rfl | (refine congrArg Value.bool ?_; assumption) | assumption | exact LeD.refl)))) ?_
  intro _ _
  ((refine TE.run tysOk rfl (by rfl) (by (first | exact trivial | exact fun i _ => ⟨_, rfl⟩ | ((try simp only [OS]); repeat' (first | omega | exact fun i _ => ⟨_, rfl⟩ | refine And.intro ?_ ?_)))) ?_); refine TE.done ?_; refine TE.thenN ?_)
  (repeat (with_reducible first | refine t1 ?_ | refine t2 ?_ | refine t3 ?_ | refine t4 ?_ | refine t5 ?_ | refine t6 ?_ | refine t7 ?_ | refine t8 ?_ | refine t9 ?_ | refine tA ?_ | refine tB ?_ | refine tC ?_ | refine tD rfl ?_ | refine tE ?_ | refine tF ?_ | refine tG ?_ | refine tH ?_ | refine tI ?_ | refine tJ ?_ | refine tK ?_ | refine tL ?_))
  ((refine TE.rgo tysOk rfl (by rfl) ?_ ?_); try (with_reducible refine AllP.go ?_; (first | exact trivial | exact fun i _ => ⟨_, rfl⟩ | ((try simp only [OS]); repeat' (first | omega | exact fun i _ => ⟨_, rfl⟩ | refine And.intro ?_ ?_)))))
  refine TE.callW (Unquote_c m te pe s (by omega)) rfl (by rfl) (by rfl) rfl (by rfl) (by (first | exact trivial | ((with_reducible refine AllP.go ?_); dsimp only [AllP, appP]; repeat' (first | with_reducible rfl | with_reducible exact LeD.refl | refine And.intro ?_ ?_ | (refine congrArg (Value.int _) ?_; first | omega | rfl | (simp only [Int.toNat_natCast]; omega)) | rfl | (refine congrArg Value.bool ?_; assumption) | assumption | exact LeD.refl)))) ?_
  intro _ _
  ((refine TE.run tysOk rfl (by rfl) (by (first | exact trivial | exact fun i _ => ⟨_, rfl⟩ | ((try simp only [OS]); repeat' (first | omega | exact fun i _ => ⟨_, rfl⟩ | refine And.intro ?_ ?_)))) ?_); refine TE.done ?_; refine TE.thenN ?_)
  (refine TE.seqM (ι := Unit) (fun _ => True) (fun _ => ⟨[(0, .o (.c (.string (sB s)))), (1, .o (.ro 2 l.length (fdC l).cell)), (5, .o (.ptr 4 0))], .box 4 39 [.ro 1 L.length (intC L).cell, .c (.int .i64 N)] :: glC m te pe, 5⟩) ?_ fun _ _ => ?_)
  · (repeat' (first | (with_reducible refine AllP.go ?_; (first | exact trivial | exact fun i _ => ⟨_, rfl⟩ | ((try simp only [OS]); repeat' (first | omega | exact fun i _ => ⟨_, rfl⟩ | refine And.intro ?_ ?_)))) | (refine TE.rgo tysOk rfl (by rfl) ?_ ?_) | (with_reducible first | refine t1 ?_ | refine t2 ?_ | refine t3 ?_ | refine t4 ?_ | refine t5 ?_ | refine t6 ?_ | refine t7 ?_ | refine t8 ?_ | refine t9 ?_ | refine tA ?_ | refine tB ?_ | refine tC ?_ | refine tD rfl ?_ | refine tE ?_ | refine tF ?_ | refine tG ?_ | refine tH ?_ | refine tI ?_ | refine tJ ?_ | refine tK ?_ | refine tL ?_) | refine TE.cond_true (by rfl) ?_ | refine TE.cond_false (by rfl) ?_ | ((refine TE.gsplit (by rfl) (by rfl) ?_ ?_ <;> intro h <;> (try simp only [NS] at h) <;> (try (exfalso; first | omega | exact h trivial | exact h | exact h rfl | contradiction))) <;> (refine TE.run tysOk rfl (by rfl) ?_ ?_)) | ((first | refine TL.gsplit (by rfl) (by rfl) ?_ ?_ | refine TE.cond_split (by rfl) ?_ ?_) <;> intro h <;> (try simp only [NS] at h) <;> (try (exfalso; first | omega | exact h trivial | exact h | exact h rfl | contradiction)))))
    · have hq := quote_unquote (pair0 h)
      have hvl := quote_ge (unquoteI s).1
      rw [hq] at hvl
      have hc := Quote_c m te pe (unquoteI s).1 (by omega)
      rw [hq] at hc
      refine TE.callW (hc) rfl (by rfl) (by rfl) rfl (by rfl) (by (first | exact trivial | ((with_reducible refine AllP.go ?_); dsimp only [AllP, appP]; repeat' (first | with_reducible rfl | with_reducible exact LeD.refl | refine And.intro ?_ ?_ | (refine congrArg (Value.int _) ?_; first | omega | rfl | (simp only [Int.toNat_natCast]; omega)) | rfl | (refine congrArg Value.bool ?_; assumption) | assumption | exact LeD.refl)))) ?_
      intro _ _
      ((refine TE.run tysOk rfl (by rfl) ?_ ?_); (repeat' (first | (with_reducible refine AllP.go ?_; (first | exact trivial | exact fun i _ => ⟨_, rfl⟩ | ((try simp only [OS]); repeat' (first | omega | exact fun i _ => ⟨_, rfl⟩ | refine And.intro ?_ ?_)))) | (refine TE.rgo tysOk rfl (by rfl) ?_ ?_) | (with_reducible first | refine t1 ?_ | refine t2 ?_ | refine t3 ?_ | refine t4 ?_ | refine t5 ?_ | refine t6 ?_ | refine t7 ?_ | refine t8 ?_ | refine t9 ?_ | refine tA ?_ | refine tB ?_ | refine tC ?_ | refine tD rfl ?_ | refine tE ?_ | refine tF ?_ | refine tG ?_ | refine tH ?_ | refine tI ?_ | refine tJ ?_ | refine tK ?_ | refine tL ?_) | refine TE.cond_true (by rfl) ?_ | refine TE.cond_false (by rfl) ?_ | ((refine TE.gsplit (by rfl) (by rfl) ?_ ?_ <;> intro h <;> (try simp only [NS] at h) <;> (try (exfalso; first | omega | exact h trivial | exact h | exact h rfl | contradiction))) <;> (refine TE.run tysOk rfl (by rfl) ?_ ?_)) | ((first | refine TL.gsplit (by rfl) (by rfl) ?_ ?_ | refine TE.cond_split (by rfl) ?_ ?_) <;> intro h <;> (try simp only [NS] at h) <;> (try (exfalso; first | omega | exact h trivial | exact h | exact h rfl | contradiction))))))
      all_goals (refine TE.at () trivial ?_; (refine Ent.of rfl rfl (by rfl) ?_; (try (first | exact trivial | ((with_reducible refine AllP.go ?_); dsimp only [AllP, appP]; repeat' (first | with_reducible rfl | with_reducible exact LeD.refl | refine And.intro ?_ ?_ | (refine congrArg (Value.int _) ?_; first | omega | rfl | (simp only [Int.toNat_natCast]; omega)) | rfl | (refine congrArg Value.bool ?_; assumption) | exact LeD.refl))))))
    · (refine TE.at () trivial ?_; (refine Ent.of rfl rfl (by rfl) ?_; (try (first | exact trivial | ((with_reducible refine AllP.go ?_); dsimp only [AllP, appP]; repeat' (first | with_reducible rfl | with_reducible exact LeD.refl | refine And.intro ?_ ?_ | (refine congrArg (Value.int _) ?_; first | omega | rfl | (simp only [Int.toNat_natCast]; omega)) | rfl | (refine congrArg Value.bool ?_; assumption) | exact LeD.refl))))))
  (repeat (with_reducible first | refine t1 ?_ | refine t2 ?_ | refine t3 ?_ | refine t4 ?_ | refine t5 ?_ | refine t6 ?_ | refine t7 ?_ | refine t8 ?_ | refine t9 ?_ | refine tA ?_ | refine tB ?_ | refine tC ?_ | refine tD rfl ?_ | refine tE ?_ | refine tF ?_ | refine tG ?_ | refine tH ?_ | refine tI ?_ | refine tJ ?_ | refine tK ?_ | refine tL ?_))
  ((refine TE.rgo tysOk rfl (by rfl) ?_ ?_); try (with_reducible refine AllP.go ?_; (first | exact trivial | exact fun i _ => ⟨_, rfl⟩ | ((try simp only [OS]); repeat' (first | omega | exact fun i _ => ⟨_, rfl⟩ | refine And.intro ?_ ?_)))))
  refine TE.callW (List_c m te pe L (by omega)) rfl (by rfl) (by rfl) rfl (by rfl) (by (first | exact trivial | ((with_reducible refine AllP.go ?_); dsimp only [AllP, appP]; repeat' (first | with_reducible rfl | with_reducible exact LeD.refl | refine And.intro ?_ ?_ | (refine congrArg (Value.int _) ?_; first | omega | rfl | (simp only [Int.toNat_natCast]; omega)) | rfl | (refine congrArg Value.bool ?_; assumption) | assumption | exact LeD.refl)))) ?_
  intro _ _
  ((refine TE.run tysOk rfl (by rfl) (by (first | exact trivial | exact fun i _ => ⟨_, rfl⟩ | ((try simp only [OS]); repeat' (first | omega | exact fun i _ => ⟨_, rfl⟩ | refine And.intro ?_ ?_)))) ?_); refine TE.done ?_; refine TE.thenN ?_)
  (refine TE.seqM (ι := Unit) (fun _ => True) (fun _ => ⟨[(0, .o (.c (.string (sB s)))), (1, .o (.ro 2 l.length (fdC l).cell)), (5, .o (.ptr 4 0))], .box 4 39 [.ro 1 L.length (intC L).cell, .c (.int .i64 N)] :: glC m te pe, 5⟩) ?_ fun _ _ => ?_)
  · (repeat' (first | (with_reducible refine AllP.go ?_; (first | exact trivial | exact fun i _ => ⟨_, rfl⟩ | ((try simp only [OS]); repeat' (first | omega | exact fun i _ => ⟨_, rfl⟩ | refine And.intro ?_ ?_)))) | (refine TE.rgo tysOk rfl (by rfl) ?_ ?_) | (with_reducible first | refine t1 ?_ | refine t2 ?_ | refine t3 ?_ | refine t4 ?_ | refine t5 ?_ | refine t6 ?_ | refine t7 ?_ | refine t8 ?_ | refine t9 ?_ | refine tA ?_ | refine tB ?_ | refine tC ?_ | refine tD rfl ?_ | refine tE ?_ | refine tF ?_ | refine tG ?_ | refine tH ?_ | refine tI ?_ | refine tJ ?_ | refine tK ?_ | refine tL ?_) | refine TE.cond_true (by rfl) ?_ | refine TE.cond_false (by rfl) ?_ | ((refine TE.gsplit (by rfl) (by rfl) ?_ ?_ <;> intro h <;> (try simp only [NS] at h) <;> (try (exfalso; first | omega | exact h trivial | exact h | exact h rfl | contradiction))) <;> (refine TE.run tysOk rfl (by rfl) ?_ ?_)) | ((first | refine TL.gsplit (by rfl) (by rfl) ?_ ?_ | refine TE.cond_split (by rfl) ?_ ?_) <;> intro h <;> (try simp only [NS] at h) <;> (try (exfalso; first | omega | exact h trivial | exact h | exact h rfl | contradiction)))))
    · have hp := parse_list (pair0 h)
      have hll := list_len L h
      have hc := ParseList_c m te pe (listI L).1 (by omega)
      rw [hp] at hc
      refine TE.callW (hc) rfl (by rfl) (by rfl) rfl (by rfl) (by (first | exact trivial | ((with_reducible refine AllP.go ?_); dsimp only [AllP, appP]; repeat' (first | with_reducible rfl | with_reducible exact LeD.refl | refine And.intro ?_ ?_ | (refine congrArg (Value.int _) ?_; first | omega | rfl | (simp only [Int.toNat_natCast]; omega)) | rfl | (refine congrArg Value.bool ?_; assumption) | assumption | exact LeD.refl)))) ?_
      intro _ _
      have hsm := lists_c L L (by omega) (by omega)
      rw [decide_eq_true rfl] at hsm
      ((refine TE.run tysOk rfl (by rfl) ?_ ?_); (repeat' (first | (with_reducible refine AllP.go ?_; (first | exact trivial | exact fun i _ => ⟨_, rfl⟩ | ((try simp only [OS]); repeat' (first | omega | exact fun i _ => ⟨_, rfl⟩ | refine And.intro ?_ ?_)))) | (refine TE.rgo tysOk rfl (by rfl) ?_ ?_) | (with_reducible first | refine t1 ?_ | refine t2 ?_ | refine t3 ?_ | refine t4 ?_ | refine t5 ?_ | refine t6 ?_ | refine t7 ?_ | refine t8 ?_ | refine t9 ?_ | refine tA ?_ | refine tB ?_ | refine tC ?_ | refine tD rfl ?_ | refine tE ?_ | refine tF ?_ | refine tG ?_ | refine tH ?_ | refine tI ?_ | refine tJ ?_ | refine tK ?_ | refine tL ?_) | refine TE.cond_true (by rfl) ?_ | refine TE.cond_false (by rfl) ?_ | ((refine TE.gsplit (by rfl) (by rfl) ?_ ?_ <;> intro h <;> (try simp only [NS] at h) <;> (try (exfalso; first | omega | exact h trivial | exact h | exact h rfl | contradiction))) <;> (refine TE.run tysOk rfl (by rfl) ?_ ?_)) | ((first | refine TL.gsplit (by rfl) (by rfl) ?_ ?_ | refine TE.cond_split (by rfl) ?_ ?_) <;> intro h <;> (try simp only [NS] at h) <;> (try (exfalso; first | omega | exact h trivial | exact h | exact h rfl | contradiction))))))
      refine TE.callW (hsm) rfl (by rfl) (by rfl) rfl (by rfl) (by (first | exact trivial | ((with_reducible refine AllP.go ?_); dsimp only [AllP, appP]; repeat' (first | with_reducible rfl | with_reducible exact LeD.refl | refine And.intro ?_ ?_ | (refine congrArg (Value.int _) ?_; first | omega | rfl | (simp only [Int.toNat_natCast]; omega)) | rfl | (refine congrArg Value.bool ?_; assumption) | assumption | exact LeD.refl)))) ?_
      intro _ _
      ((refine TE.run tysOk rfl (by rfl) ?_ ?_); (repeat' (first | (with_reducible refine AllP.go ?_; (first | exact trivial | exact fun i _ => ⟨_, rfl⟩ | ((try simp only [OS]); repeat' (first | omega | exact fun i _ => ⟨_, rfl⟩ | refine And.intro ?_ ?_)))) | (refine TE.rgo tysOk rfl (by rfl) ?_ ?_) | (with_reducible first | refine t1 ?_ | refine t2 ?_ | refine t3 ?_ | refine t4 ?_ | refine t5 ?_ | refine t6 ?_ | refine t7 ?_ | refine t8 ?_ | refine t9 ?_ | refine tA ?_ | refine tB ?_ | refine tC ?_ | refine tD rfl ?_ | refine tE ?_ | refine tF ?_ | refine tG ?_ | refine tH ?_ | refine tI ?_ | refine tJ ?_ | refine tK ?_ | refine tL ?_) | refine TE.cond_true (by rfl) ?_ | refine TE.cond_false (by rfl) ?_ | ((refine TE.gsplit (by rfl) (by rfl) ?_ ?_ <;> intro h <;> (try simp only [NS] at h) <;> (try (exfalso; first | omega | exact h trivial | exact h | exact h rfl | contradiction))) <;> (refine TE.run tysOk rfl (by rfl) ?_ ?_)) | ((first | refine TL.gsplit (by rfl) (by rfl) ?_ ?_ | refine TE.cond_split (by rfl) ?_ ?_) <;> intro h <;> (try simp only [NS] at h) <;> (try (exfalso; first | omega | exact h trivial | exact h | exact h rfl | contradiction))))))
      all_goals (refine TE.at () trivial ?_; (refine Ent.of rfl rfl (by rfl) ?_; (try (first | exact trivial | ((with_reducible refine AllP.go ?_); dsimp only [AllP, appP]; repeat' (first | with_reducible rfl | with_reducible exact LeD.refl | refine And.intro ?_ ?_ | (refine congrArg (Value.int _) ?_; first | omega | rfl | (simp only [Int.toNat_natCast]; omega)) | rfl | (refine congrArg Value.bool ?_; assumption) | exact LeD.refl))))))
    · (refine TE.at () trivial ?_; (refine Ent.of rfl rfl (by rfl) ?_; (try (first | exact trivial | ((with_reducible refine AllP.go ?_); dsimp only [AllP, appP]; repeat' (first | with_reducible rfl | with_reducible exact LeD.refl | refine And.intro ?_ ?_ | (refine congrArg (Value.int _) ?_; first | omega | rfl | (simp only [Int.toNat_natCast]; omega)) | rfl | (refine congrArg Value.bool ?_; assumption) | exact LeD.refl))))))
  have hpl := parse_len s
  (repeat (with_reducible first | refine t1 ?_ | refine t2 ?_ | refine t3 ?_ | refine t4 ?_ | refine t5 ?_ | refine t6 ?_ | refine t7 ?_ | refine t8 ?_ | refine t9 ?_ | refine tA ?_ | refine tB ?_ | refine tC ?_ | refine tD rfl ?_ | refine tE ?_ | refine tF ?_ | refine tG ?_ | refine tH ?_ | refine tI ?_ | refine tJ ?_ | refine tK ?_ | refine tL ?_))
  ((refine TE.rgo tysOk rfl (by rfl) ?_ ?_); try (with_reducible refine AllP.go ?_; (first | exact trivial | exact fun i _ => ⟨_, rfl⟩ | ((try simp only [OS]); repeat' (first | omega | exact fun i _ => ⟨_, rfl⟩ | refine And.intro ?_ ?_)))))
  refine TE.callW (ParseList_c m te pe s (by omega)) rfl (by rfl) (by rfl) rfl (by rfl) (by (first | exact trivial | ((with_reducible refine AllP.go ?_); dsimp only [AllP, appP]; repeat' (first | with_reducible rfl | with_reducible exact LeD.refl | refine And.intro ?_ ?_ | (refine congrArg (Value.int _) ?_; first | omega | rfl | (simp only [Int.toNat_natCast]; omega)) | rfl | (refine congrArg Value.bool ?_; assumption) | assumption | exact LeD.refl)))) ?_
  intro _ _
  ((refine TE.run tysOk rfl (by rfl) (by (first | exact trivial | exact fun i _ => ⟨_, rfl⟩ | ((try simp only [OS]); repeat' (first | omega | exact fun i _ => ⟨_, rfl⟩ | refine And.intro ?_ ?_)))) ?_); refine TE.done ?_; refine TE.thenN ?_)
  (refine TE.seqM (ι := Unit) (fun _ => True) (fun _ => ⟨[(0, .o (.c (.string (sB s)))), (1, .o (.ro 2 l.length (fdC l).cell)), (5, .o (.ptr 4 0))], .box 4 39 [.ro 1 L.length (intC L).cell, .c (.int .i64 N)] :: glC m te pe, 5⟩) ?_ fun _ _ => ?_)
  · (repeat' (first | (with_reducible refine AllP.go ?_; (first | exact trivial | exact fun i _ => ⟨_, rfl⟩ | ((try simp only [OS]); repeat' (first | omega | exact fun i _ => ⟨_, rfl⟩ | refine And.intro ?_ ?_)))) | (refine TE.rgo tysOk rfl (by rfl) ?_ ?_) | (with_reducible first | refine t1 ?_ | refine t2 ?_ | refine t3 ?_ | refine t4 ?_ | refine t5 ?_ | refine t6 ?_ | refine t7 ?_ | refine t8 ?_ | refine t9 ?_ | refine tA ?_ | refine tB ?_ | refine tC ?_ | refine tD rfl ?_ | refine tE ?_ | refine tF ?_ | refine tG ?_ | refine tH ?_ | refine tI ?_ | refine tJ ?_ | refine tK ?_ | refine tL ?_) | refine TE.cond_true (by rfl) ?_ | refine TE.cond_false (by rfl) ?_ | ((refine TE.gsplit (by rfl) (by rfl) ?_ ?_ <;> intro h <;> (try simp only [NS] at h) <;> (try (exfalso; first | omega | exact h trivial | exact h | exact h rfl | contradiction))) <;> (refine TE.run tysOk rfl (by rfl) ?_ ?_)) | ((first | refine TL.gsplit (by rfl) (by rfl) ?_ ?_ | refine TE.cond_split (by rfl) ?_ ?_) <;> intro h <;> (try simp only [NS] at h) <;> (try (exfalso; first | omega | exact h trivial | exact h | exact h rfl | contradiction)))))
    · have hp := list_parse (pair0 h)
      have hc := List_c m te pe (parseI s).1 (by omega)
      rw [hp] at hc
      refine TE.callW (hc) rfl (by rfl) (by rfl) rfl (by rfl) (by (first | exact trivial | ((with_reducible refine AllP.go ?_); dsimp only [AllP, appP]; repeat' (first | with_reducible rfl | with_reducible exact LeD.refl | refine And.intro ?_ ?_ | (refine congrArg (Value.int _) ?_; first | omega | rfl | (simp only [Int.toNat_natCast]; omega)) | rfl | (refine congrArg Value.bool ?_; assumption) | assumption | exact LeD.refl)))) ?_
      intro _ _
      ((refine TE.run tysOk rfl (by rfl) ?_ ?_); (repeat' (first | (with_reducible refine AllP.go ?_; (first | exact trivial | exact fun i _ => ⟨_, rfl⟩ | ((try simp only [OS]); repeat' (first | omega | exact fun i _ => ⟨_, rfl⟩ | refine And.intro ?_ ?_)))) | (refine TE.rgo tysOk rfl (by rfl) ?_ ?_) | (with_reducible first | refine t1 ?_ | refine t2 ?_ | refine t3 ?_ | refine t4 ?_ | refine t5 ?_ | refine t6 ?_ | refine t7 ?_ | refine t8 ?_ | refine t9 ?_ | refine tA ?_ | refine tB ?_ | refine tC ?_ | refine tD rfl ?_ | refine tE ?_ | refine tF ?_ | refine tG ?_ | refine tH ?_ | refine tI ?_ | refine tJ ?_ | refine tK ?_ | refine tL ?_) | refine TE.cond_true (by rfl) ?_ | refine TE.cond_false (by rfl) ?_ | ((refine TE.gsplit (by rfl) (by rfl) ?_ ?_ <;> intro h <;> (try simp only [NS] at h) <;> (try (exfalso; first | omega | exact h trivial | exact h | exact h rfl | contradiction))) <;> (refine TE.run tysOk rfl (by rfl) ?_ ?_)) | ((first | refine TL.gsplit (by rfl) (by rfl) ?_ ?_ | refine TE.cond_split (by rfl) ?_ ?_) <;> intro h <;> (try simp only [NS] at h) <;> (try (exfalso; first | omega | exact h trivial | exact h | exact h rfl | contradiction))))))
      all_goals (refine TE.at () trivial ?_; (refine Ent.of rfl rfl (by rfl) ?_; (try (first | exact trivial | ((with_reducible refine AllP.go ?_); dsimp only [AllP, appP]; repeat' (first | with_reducible rfl | with_reducible exact LeD.refl | refine And.intro ?_ ?_ | (refine congrArg (Value.int _) ?_; first | omega | rfl | (simp only [Int.toNat_natCast]; omega)) | rfl | (refine congrArg Value.bool ?_; assumption) | exact LeD.refl))))))
    · (refine TE.at () trivial ?_; (refine Ent.of rfl rfl (by rfl) ?_; (try (first | exact trivial | ((with_reducible refine AllP.go ?_); dsimp only [AllP, appP]; repeat' (first | with_reducible rfl | with_reducible exact LeD.refl | refine And.intro ?_ ?_ | (refine congrArg (Value.int _) ?_; first | omega | rfl | (simp only [Int.toNat_natCast]; omega)) | rfl | (refine congrArg Value.bool ?_; assumption) | exact LeD.refl))))))
  have hil := Lib.itoa_length_le N hN.1 hN.2
  have hid := Int_c m te pe (Lib.itoa N) N N (by omega)
  rw [int_digits hN] at hid
  (refine TE.seqM (ι := Unit) (fun _ => True) (fun _ => ⟨[(0, .o (.c (.string (sB s)))), (5, .o (.ptr 4 0)), (23, .o (.c (.int .i64 N))), (8, .o (.c (.int .i64 0)))], .box 4 39 [.ro 1 L.length (intC L).cell, .c (.int .i64 N)] :: glC m te pe, 5⟩) ?_ fun _ _ => ?_)
  · ((refine TE.drawK (fun _ => false) (by rfl) (by rfl) (by rfl) ?_); (repeat' (first | (with_reducible refine AllP.go ?_; (first | exact trivial | exact fun i _ => ⟨_, rfl⟩ | ((try simp only [OS]); repeat' (first | omega | exact fun i _ => ⟨_, rfl⟩ | refine And.intro ?_ ?_)))) | (with_reducible first | exact PanicOk.body | exact rd.panic | refine PanicOk.then' ?_ | refine PanicOk.block ?_ | refine PanicOk.jump ?_) | (refine TL.done (by rfl) ?_) | (refine TL.auto tysOk rfl ?_ (by rfl) ?_ ?_) | (refine StepL.mem tysOk rfl rfl rfl rfl (by rfl) ?_ (by rfl) ?_) | (refine StepL.pure tysOk rfl rfl rfl rfl (by rfl) ?_ (by rfl) ?_) | (refine TL.one (by rfl) ?_) | (refine TL.two (by rfl) ?_ ?_) | (refine TL.three (by rfl) ?_ ?_ ?_) | (refine TL.four (by rfl) ?_ ?_ ?_ ?_))))
    all_goals (refine StepL.callW (Dig_c m te pe N hN) rfl rfl rfl rfl rfl (by rfl) (by (first | exact trivial | ((with_reducible refine AllP.go ?_); dsimp only [AllP, appP]; repeat' (first | with_reducible rfl | with_reducible exact LeD.refl | refine And.intro ?_ ?_ | (refine congrArg (Value.int _) ?_; first | omega | rfl | (simp only [Int.toNat_natCast]; omega)) | rfl | (refine congrArg Value.bool ?_; assumption) | assumption | exact LeD.refl)))) (by rfl) (by rfl) ?_; intro _ _; (repeat' (first | (with_reducible refine AllP.go ?_; (first | exact trivial | exact fun i _ => ⟨_, rfl⟩ | ((try simp only [OS]); repeat' (first | omega | exact fun i _ => ⟨_, rfl⟩ | refine And.intro ?_ ?_)))) | (with_reducible first | exact PanicOk.body | exact rd.panic | refine PanicOk.then' ?_ | refine PanicOk.block ?_ | refine PanicOk.jump ?_) | (refine TL.done (by rfl) ?_) | (refine TL.auto tysOk rfl ?_ (by rfl) ?_ ?_) | (refine StepL.mem tysOk rfl rfl rfl rfl (by rfl) ?_ (by rfl) ?_) | (refine StepL.pure tysOk rfl rfl rfl rfl (by rfl) ?_ (by rfl) ?_) | (refine TL.one (by rfl) ?_) | (refine TL.two (by rfl) ?_ ?_) | (refine TL.three (by rfl) ?_ ?_ ?_) | (refine TL.four (by rfl) ?_ ?_ ?_ ?_))))
    all_goals (refine StepL.callW (hid) rfl rfl rfl rfl rfl (by rfl) (by (first | exact trivial | ((with_reducible refine AllP.go ?_); dsimp only [AllP, appP]; repeat' (first | with_reducible rfl | with_reducible exact LeD.refl | refine And.intro ?_ ?_ | (refine congrArg (Value.int _) ?_; first | omega | rfl | (simp only [Int.toNat_natCast]; omega)) | rfl | (refine congrArg Value.bool ?_; assumption) | assumption | exact LeD.refl)))) (by rfl) (by rfl) ?_; intro _ _; (repeat' (first | (with_reducible refine AllP.go ?_; (first | exact trivial | exact fun i _ => ⟨_, rfl⟩ | ((try simp only [OS]); repeat' (first | omega | exact fun i _ => ⟨_, rfl⟩ | refine And.intro ?_ ?_)))) | (with_reducible first | exact PanicOk.body | exact rd.panic | refine PanicOk.then' ?_ | refine PanicOk.block ?_ | refine PanicOk.jump ?_) | (refine TL.done (by rfl) ?_) | (refine TL.auto tysOk rfl ?_ (by rfl) ?_ ?_) | (refine StepL.mem tysOk rfl rfl rfl rfl (by rfl) ?_ (by rfl) ?_) | (refine StepL.pure tysOk rfl rfl rfl rfl (by rfl) ?_ (by rfl) ?_) | (refine TL.one (by rfl) ?_) | (refine TL.two (by rfl) ?_ ?_) | (refine TL.three (by rfl) ?_ ?_ ?_) | (refine TL.four (by rfl) ?_ ?_ ?_ ?_))))
    all_goals refine TE.thenN ?_
    all_goals (refine TE.at () trivial ?_; (refine Ent.of rfl rfl (by rfl) ?_; (try (first | exact trivial | ((with_reducible refine AllP.go ?_); dsimp only [AllP, appP]; repeat' (first | with_reducible rfl | with_reducible exact LeD.refl | refine And.intro ?_ ?_ | (refine congrArg (Value.int _) ?_; first | omega | rfl | (simp only [Int.toNat_natCast]; omega)) | rfl | (refine congrArg Value.bool ?_; assumption) | exact LeD.refl))))))
  (repeat' (first | (with_reducible refine AllP.go ?_; (first | exact trivial | exact fun i _ => ⟨_, rfl⟩ | ((try simp only [OS]); repeat' (first | omega | exact fun i _ => ⟨_, rfl⟩ | refine And.intro ?_ ?_)))) | (refine TE.rgo tysOk rfl (by rfl) ?_ ?_) | (with_reducible first | refine t1 ?_ | refine t2 ?_ | refine t3 ?_ | refine t4 ?_ | refine t5 ?_ | refine t6 ?_ | refine t7 ?_ | refine t8 ?_ | refine t9 ?_ | refine tA ?_ | refine tB ?_ | refine tC ?_ | refine tD rfl ?_ | refine tE ?_ | refine tF ?_ | refine tG ?_ | refine tH ?_ | refine tI ?_ | refine tJ ?_ | refine tK ?_ | refine tL ?_) | refine TE.cond_true (by rfl) ?_ | refine TE.cond_false (by rfl) ?_ | ((refine TE.gsplit (by rfl) (by rfl) ?_ ?_ <;> intro h <;> (try simp only [NS] at h) <;> (try (exfalso; first | omega | exact h trivial | exact h | exact h rfl | contradiction))) <;> (refine TE.run tysOk rfl (by rfl) ?_ ?_)) | ((first | refine TL.gsplit (by rfl) (by rfl) ?_ ?_ | refine TE.cond_split (by rfl) ?_ ?_) <;> intro h <;> (try simp only [NS] at h) <;> (try (exfalso; first | omega | exact h trivial | exact h | exact h rfl | contradiction)))))
  refine TE.callW (Int_c m te pe s (-9223372036854775808) 9223372036854775807 (by omega)) rfl (by rfl) (by rfl) rfl (by rfl) (by (first | exact trivial | ((with_reducible refine AllP.go ?_); dsimp only [AllP, appP]; repeat' (first | with_reducible rfl | with_reducible exact LeD.refl | refine And.intro ?_ ?_ | (refine congrArg (Value.int _) ?_; first | omega | rfl | (simp only [Int.toNat_natCast]; omega)) | rfl | (refine congrArg Value.bool ?_; assumption) | assumption | exact LeD.refl)))) ?_
  intro _ _
  ((refine TE.run tysOk rfl (by rfl) ?_ ?_); (repeat' (first | (with_reducible refine AllP.go ?_; (first | exact trivial | exact fun i _ => ⟨_, rfl⟩ | ((try simp only [OS]); repeat' (first | omega | exact fun i _ => ⟨_, rfl⟩ | refine And.intro ?_ ?_)))) | (refine TE.rgo tysOk rfl (by rfl) ?_ ?_) | (with_reducible first | refine t1 ?_ | refine t2 ?_ | refine t3 ?_ | refine t4 ?_ | refine t5 ?_ | refine t6 ?_ | refine t7 ?_ | refine t8 ?_ | refine t9 ?_ | refine tA ?_ | refine tB ?_ | refine tC ?_ | refine tD rfl ?_ | refine tE ?_ | refine tF ?_ | refine tG ?_ | refine tH ?_ | refine tI ?_ | refine tJ ?_ | refine tK ?_ | refine tL ?_) | refine TE.cond_true (by rfl) ?_ | refine TE.cond_false (by rfl) ?_ | ((refine TE.gsplit (by rfl) (by rfl) ?_ ?_ <;> intro h <;> (try simp only [NS] at h) <;> (try (exfalso; first | omega | exact h trivial | exact h | exact h rfl | contradiction))) <;> (refine TE.run tysOk rfl (by rfl) ?_ ?_)) | ((first | refine TL.gsplit (by rfl) (by rfl) ?_ ?_ | refine TE.cond_split (by rfl) ?_ ?_) <;> intro h <;> (try simp only [NS] at h) <;> (try (exfalso; first | omega | exact h trivial | exact h | exact h rfl | contradiction))))))
  · refine TE.callW (shown_c m te pe) rfl (by rfl) (by rfl) rfl (by rfl) (by (first | exact trivial | ((with_reducible refine AllP.go ?_); dsimp only [AllP, appP]; repeat' (first | with_reducible rfl | with_reducible exact LeD.refl | refine And.intro ?_ ?_ | (refine congrArg (Value.int _) ?_; first | omega | rfl | (simp only [Int.toNat_natCast]; omega)) | rfl | (refine congrArg Value.bool ?_; assumption) | assumption | exact LeD.refl)))) ?_
    intro _ _
    ((refine TE.run tysOk rfl (by rfl) ?_ ?_); (repeat' (first | (with_reducible refine AllP.go ?_; (first | exact trivial | exact fun i _ => ⟨_, rfl⟩ | ((try simp only [OS]); repeat' (first | omega | exact fun i _ => ⟨_, rfl⟩ | refine And.intro ?_ ?_)))) | (refine TE.rgo tysOk rfl (by rfl) ?_ ?_) | (with_reducible first | refine t1 ?_ | refine t2 ?_ | refine t3 ?_ | refine t4 ?_ | refine t5 ?_ | refine t6 ?_ | refine t7 ?_ | refine t8 ?_ | refine t9 ?_ | refine tA ?_ | refine tB ?_ | refine tC ?_ | refine tD rfl ?_ | refine tE ?_ | refine tF ?_ | refine tG ?_ | refine tH ?_ | refine tI ?_ | refine tJ ?_ | refine tK ?_ | refine tL ?_) | refine TE.cond_true (by rfl) ?_ | refine TE.cond_false (by rfl) ?_ | ((refine TE.gsplit (by rfl) (by rfl) ?_ ?_ <;> intro h <;> (try simp only [NS] at h) <;> (try (exfalso; first | omega | exact h trivial | exact h | exact h rfl | contradiction))) <;> (refine TE.run tysOk rfl (by rfl) ?_ ?_)) | ((first | refine TL.gsplit (by rfl) (by rfl) ?_ ?_ | refine TE.cond_split (by rfl) ?_ ?_) <;> intro h <;> (try simp only [NS] at h) <;> (try (exfalso; first | omega | exact h trivial | exact h | exact h rfl | contradiction))))))
    all_goals (refine TE.ret' (by first | exact .inl rfl | exact .inr rfl) rfl tysOk (()) ?_ rfl (by rfl) ?_; all_goals (try (first | exact trivial | ((with_reducible refine AllP.go ?_); dsimp only [AllP, appP]; repeat' (first | with_reducible rfl | with_reducible exact LeD.refl | refine And.intro ?_ ?_ | (refine congrArg (Value.int _) ?_; first | omega | rfl | (simp only [Int.toNat_natCast]; omega)) | rfl | (refine congrArg Value.bool ?_; assumption) | exact LeD.refl)))))
  · have h : (intI s (-9223372036854775808) 9223372036854775807).2 = 0 := by assumption
    obtain ⟨k1, k2⟩ := digits_int (pair0 h)
    have hd := Dig_c m te pe (intI s (-9223372036854775808) 9223372036854775807).1 k2
    rw [k1] at hd
    refine TE.callW (hd) rfl (by rfl) (by rfl) rfl (by rfl) (by (first | exact trivial | ((with_reducible refine AllP.go ?_); dsimp only [AllP, appP]; repeat' (first | with_reducible rfl | with_reducible exact LeD.refl | refine And.intro ?_ ?_ | (refine congrArg (Value.int _) ?_; first | omega | rfl | (simp only [Int.toNat_natCast]; omega)) | rfl | (refine congrArg Value.bool ?_; assumption) | assumption | exact LeD.refl)))) ?_
    intro _ _
    ((refine TE.run tysOk rfl (by rfl) ?_ ?_); (repeat' (first | (with_reducible refine AllP.go ?_; (first | exact trivial | exact fun i _ => ⟨_, rfl⟩ | ((try simp only [OS]); repeat' (first | omega | exact fun i _ => ⟨_, rfl⟩ | refine And.intro ?_ ?_)))) | (refine TE.rgo tysOk rfl (by rfl) ?_ ?_) | (with_reducible first | refine t1 ?_ | refine t2 ?_ | refine t3 ?_ | refine t4 ?_ | refine t5 ?_ | refine t6 ?_ | refine t7 ?_ | refine t8 ?_ | refine t9 ?_ | refine tA ?_ | refine tB ?_ | refine tC ?_ | refine tD rfl ?_ | refine tE ?_ | refine tF ?_ | refine tG ?_ | refine tH ?_ | refine tI ?_ | refine tJ ?_ | refine tK ?_ | refine tL ?_) | refine TE.cond_true (by rfl) ?_ | refine TE.cond_false (by rfl) ?_ | ((refine TE.gsplit (by rfl) (by rfl) ?_ ?_ <;> intro h <;> (try simp only [NS] at h) <;> (try (exfalso; first | omega | exact h trivial | exact h | exact h rfl | contradiction))) <;> (refine TE.run tysOk rfl (by rfl) ?_ ?_)) | ((first | refine TL.gsplit (by rfl) (by rfl) ?_ ?_ | refine TE.cond_split (by rfl) ?_ ?_) <;> intro h <;> (try simp only [NS] at h) <;> (try (exfalso; first | omega | exact h trivial | exact h | exact h rfl | contradiction))))))
    refine TE.callW (shown_c m te pe) rfl (by rfl) (by rfl) rfl (by rfl) (by (first | exact trivial | ((with_reducible refine AllP.go ?_); dsimp only [AllP, appP]; repeat' (first | with_reducible rfl | with_reducible exact LeD.refl | refine And.intro ?_ ?_ | (refine congrArg (Value.int _) ?_; first | omega | rfl | (simp only [Int.toNat_natCast]; omega)) | rfl | (refine congrArg Value.bool ?_; assumption) | assumption | exact LeD.refl)))) ?_
    intro _ _
    ((refine TE.run tysOk rfl (by rfl) ?_ ?_); (repeat' (first | (with_reducible refine AllP.go ?_; (first | exact trivial | exact fun i _ => ⟨_, rfl⟩ | ((try simp only [OS]); repeat' (first | omega | exact fun i _ => ⟨_, rfl⟩ | refine And.intro ?_ ?_)))) | (refine TE.rgo tysOk rfl (by rfl) ?_ ?_) | (with_reducible first | refine t1 ?_ | refine t2 ?_ | refine t3 ?_ | refine t4 ?_ | refine t5 ?_ | refine t6 ?_ | refine t7 ?_ | refine t8 ?_ | refine t9 ?_ | refine tA ?_ | refine tB ?_ | refine tC ?_ | refine tD rfl ?_ | refine tE ?_ | refine tF ?_ | refine tG ?_ | refine tH ?_ | refine tI ?_ | refine tJ ?_ | refine tK ?_ | refine tL ?_) | refine TE.cond_true (by rfl) ?_ | refine TE.cond_false (by rfl) ?_ | ((refine TE.gsplit (by rfl) (by rfl) ?_ ?_ <;> intro h <;> (try simp only [NS] at h) <;> (try (exfalso; first | omega | exact h trivial | exact h | exact h rfl | contradiction))) <;> (refine TE.run tysOk rfl (by rfl) ?_ ?_)) | ((first | refine TL.gsplit (by rfl) (by rfl) ?_ ?_ | refine TE.cond_split (by rfl) ?_ ?_) <;> intro h <;> (try simp only [NS] at h) <;> (try (exfalso; first | omega | exact h trivial | exact h | exact h rfl | contradiction))))))
    all_goals (refine TE.ret' (by first | exact .inl rfl | exact .inr rfl) rfl tysOk (()) ?_ rfl (by rfl) ?_; all_goals (try (first | exact trivial | ((with_reducible refine AllP.go ?_); dsimp only [AllP, appP]; repeat' (first | with_reducible rfl | with_reducible exact LeD.refl | refine And.intro ?_ ?_ | (refine congrArg (Value.int _) ?_; first | omega | rfl | (simp only [Int.toNat_natCast]; omega)) | rfl | (refine congrArg Value.bool ?_; assumption) | exact LeD.refl)))))
end Go.Proofs.YtmeapfckibbbbaaGreatDoor.Am
/- The words' arguments, opened; the laid variables, read; the wrap. -/
set_option linter.unusedVariables false
namespace Go
variable {H : Type} {enc : TypeId × Value → H}
theorem returnsInHanded_of_change_and_shaped {a : Assume} {C : Checked} {os : Os} {f : FuncId} {fn : Func} {s : ChangeSpec} {conds : List PathCond} {apart fresh handsOn again : Bool} {X : World → Array Value → Prop}
    (hX : ∀ (w w' : World) (args : Array Value), w.heap = w'.heap → X w args → X w' args)
    (own : ownKnob C.prog.godebug = none) (started : os.Started) (noInit : C.prog.inits.idxOf? f = none) (hfn : C.prog.funcs[f]? = some fn)
    (witness : ∃ (w : World) (tape : Tape) (i : Input), w.os = os ∧ (w.forCall tape i).Shaped C.prog ∧ i.vars = [] ∧ Input.okWide C.prog (w.forCall tape i) .any w.heap.size f i ∧
      ((s.pre enc C.prog fn conds apart (w.forCall tape i).memory i.args ∧ X (w.forCall tape i).memory i.args) ∧ sizedMet enc C.prog fn (OpenSpec.ofChange s) apart (w.forCall tape i).memory i.args) ∧ a.holds C.prog (lone (Frame.enter C.prog f i.args .normal) [] (w.forCall tape i)))
    (contract : ∀ (W : World) (base : Nat) (args : Array Value) (ds gs : List (DataW H)) (before : List MemPlace),
      (∀ (j : Nat) t v, fn.params[j]? = some t → args[j]? = some v → Value.okWide C.prog W .any base t v) →
      DataW.Whole enc C.prog fn.params.toList s.vars apart W args.toList ds gs before → X W args → W.ShapedOpen C.prog →
      Calls C.prog f args W fun e W' => ∃ v, e = .returned v ∧ s.post enc C.prog fn apart fresh handsOn again W args v W') :
    ReturnsInHanded a C os f .any (fun w args => (s.pre enc C.prog fn conds apart w args ∧ X w args) ∧ sizedMet enc C.prog fn (OpenSpec.ofChange s) apart w args) (s.post enc C.prog fn apart fresh handsOn again) := by
  refine returnsInHanded_of_calls own started noInit witness ?_
  intro w tape i _ hsh _ hok hpre hholds
  obtain ⟨_, _, _, fn', hfn', _, _, _, _, hval⟩ := hok
  have e : fn' = fn := Option.some.inj (hfn'.symm.trans hfn)
  subst e
  obtain ⟨⟨⟨ds, gs, before, hw, hc⟩, hx⟩, hz⟩ := hpre
  have hw' := DataW.Whole.of_heap (w' := w.forCall tape i) (by rfl) hw
  refine (contract (w.forCall tape i) w.heap.size i.args ds gs before hval hw' (hX _ _ _ (by rfl) hx) hsh).mono fun e W' ⟨v, he, hp⟩ => ?_
  subst he
  exact ChangeSpec.post_blind hp
end Go
namespace Go.Proofs.YtmeapfckibbbbaaGreatDoor.Am
open Go.RowKit Lw Wo Go.ChangeShapes Go.WideShapes Go.Deep
theorem not_st {P : Program} {t : TypeId} {d : TypeDesc} (h : P.underlying t = some d) (hd : ∀ fs, d ≠ .struct fs) : ∀ fs, P.underlying t ≠ some (.struct fs) := fun fs e => hd fs (Option.some.inj (h.symm.trans e))
theorem not_ar {P : Program} {t : TypeId} {d : TypeDesc} (h : P.underlying t = some d) (hd : ∀ n e, d ≠ .array n e) : ∀ n e, P.underlying t ≠ some (.array n e) := fun n e' e => hd n e' (Option.some.inj (h.symm.trans e))
theorem ao_str : AOpen Tryz.prog 9 (fun s => .o (.c (.string s))) strG :=
  AOpen.one (DOpen.str (by kernel_rfl) (by kernel_rfl)) (not_st (d := .string) (by kernel_rfl) fun _ h => by cases h) (not_ar (d := .string) (by kernel_rfl) fun _ _ h => by cases h)
theorem do_fd : DOpen Tryz.prog 47 2 fdR (fun _ => True) := by
  have h0 := DOpen.struct (P := Tryz.prog) (t := 47) (by kernel_rfl) (by decide) Tryz.underlying47 (DFields.cons rfl (DOpen.str (by kernel_rfl) (by kernel_rfl)) (DFields.cons rfl (DOpen.bool (by kernel_rfl) (by kernel_rfl)) DFields.nil))
  refine h0.map (fun x => ((x.1.data.toList, x.2.1) : Fld)) (fun x j hj => ?_) fun x g => trivial
  match j, hj with
  | 0, _ => rfl
  | 1, _ => rfl
theorem do_fds : DOpen Tryz.prog 34 1 (slR 2 fdR ([], false)) (listG fun _ => True) := DOpen.slice (e := 47) do_fd _ (by kernel_rfl) (by kernel_rfl)
theorem ao_fds : AOpen Tryz.prog 34 (fun l : List Fld => .o (.ro 2 l.length (fdC l).cell)) (listG fun _ => True) :=
  AOpen.one do_fds (not_st (d := .slice 47) (by kernel_rfl) fun _ h => by cases h) (not_ar (d := .slice 47) (by kernel_rfl) fun _ _ h => by cases h)
theorem do_ints : DOpen Tryz.prog 22 1 (slR 1 intR 0) (listG intG) := DOpen.slice (e := 3) (DOpen.i64 (by kernel_rfl) (by kernel_rfl)) 0 (by kernel_rfl) (by kernel_rfl)
def numR (x : List Int × Int) (j : Nat) : DC := match j with
  | 0 => .sl 1 x.1.length (listC intR 0 x.1).cell
  | _ => .c (.int .i64 x.2)
theorem do_num : DOpen Tryz.prog 39 2 numR (fun x => intG x.2) := by
  have h0 := DOpen.struct (P := Tryz.prog) (t := 39) (by kernel_rfl) (by decide) Tryz.underlying39 (DFields.cons rfl do_ints (DFields.cons rfl (DOpen.i64 (by kernel_rfl) (by kernel_rfl)) DFields.nil))
  refine h0.map (fun x => (x.1, x.2.1)) (fun x j hj => ?_) fun x g => g.2.1
  match j, hj with
  | 0, _ => rfl
  | 1, _ => rfl
theorem ao_num : AOpen Tryz.prog 39 (fun x : List Int × Int => .g [.ro 1 x.1.length (listC intR 0 x.1).cell, .c (.int .i64 x.2)]) (fun x => intG x.2) :=
  AOpen.agg do_num (.inl ⟨_, Tryz.underlying39⟩)
section
variable {H : Type} {enc : TypeId × Value → H} {P : Program} {w : World} {base : Nat} {sp : Nat → Bool} {held : Bool}
theorem array_len {fuel : Nat} {t e : TypeId} {n : Nat} {cs : List Value} {x : DataW H × List MemPlace} (ht : P.underlying t = some (.array n e)) (h : DataW.trod enc P w base sp held fuel t cs = some x) : cs.length = P.cellsOf t := by
  cases fuel with
  | zero => simp [DataW.trod] at h
  | succ fuel =>
    simp only [DataW.trod, ht] at h
    split at h
    · assumption
    · cases h
end
def escPair (i : Nat) : DataW Unit := .agg ([(escL.getD (2 * i) 0 : Int), (escL.getD (2 * i + 1) 0 : Int)].map fun z => .lit (.int .u8 z))
theorem esc_cells {W : World} (h : Lib.VarReads Tryz.prog W "limewash/words.escapes" Rows.laid_limewash_words_escapes) : (Chunk.stat 0 0 10 escD).holds W (· < W.heap.size) (fun _ => undef) := by
  obtain ⟨g, t, cs, fuel, p, hg, hty, hvar, hd⟩ := h
  obtain rfl := Option.some.inj ((show Tryz.prog.globalNamed "limewash/words.escapes" = some 0 by kernel_rfl).symm.trans hg)
  obtain rfl := Option.some.inj ((show (Tryz.prog.globals[0]?).map (·.type) = some 100 by kernel_rfl).symm.trans hty)
  have hce : Tryz.prog.cellsOf 99 = 2 := by kernel_rfl
  have hct : Tryz.prog.cellsOf 100 = 10 := by kernel_rfl
  have hc1 : Tryz.prog.cellsOf 5 = 1 := by kernel_rfl
  have hu8 : Tryz.prog.underlying 5 = some (.int .u8) := by kernel_rfl
  have hlen : cs.size = 10 := by
    have := array_len Tryz.underlying100 hd
    rw [hct] at this
    simpa using this
  have key : ∀ i, i < 5 → (cs.toList.drop (i * 2)).take 2 = [(escL.getD (2 * i) 0 : Int), (escL.getD (2 * i + 1) 0 : Int)].map fun z => Value.int .u8 z := by
    intro i hi
    obtain ⟨fuel', d, q, hdi, he⟩ := Lib.array_elem Tryz.underlying100 hd i hi
    rw [hce] at he
    have hdp : d = escPair i := by
      match i, hi, hdi with
      | 0, _, hdi => cases hdi; rfl
      | 1, _, hdi => cases hdi; rfl
      | 2, _, hdi => cases hdi; rfl
      | 3, _, hdi => cases hdi; rfl
      | 4, _, hdi => cases hdi; rfl
    rw [hdp] at he
    exact Lib.ints_of_struct Tryz.underlying99 (fun j f hj => by
      match j, hj with
      | 0, hj => simp at hj; subst hj; exact ⟨hu8, rfl, hc1⟩
      | 1, hj => simp at hj; subst hj; exact ⟨hu8, rfl, hc1⟩
      | j + 2, hj => simp at hj) (by rw [hce]; rfl) he
  refine stat_of_var 0 hvar (by kernel_rfl) hlen fun j u hj hu => ?_
  have hk := congrArg (·[j % 2]?) (key (j / 2) (by omega))
  simp only [List.getElem?_take, List.getElem?_drop] at hk
  rw [if_pos (by omega), show j / 2 * 2 + j % 2 = j by omega, Array.getElem?_toList, hu] at hk
  refine ⟨?_, ?_⟩
  · rcases Nat.mod_two_eq_zero_or_one j with h2 | h2
    · rw [h2] at hk
      have h3 : 2 * (j / 2) = j := by omega
      rw [h3] at hk
      exact Option.some.inj hk
    · rw [h2] at hk
      have h3 : 2 * (j / 2) + 1 = j := by omega
      rw [h3] at hk
      exact Option.some.inj hk
  · rfl
theorem pow_cells {W : World} (h : Lib.TabIs Tryz.prog W "internal/strconv.uint64pow10" .u64 Lib.pow10Tab) : (Chunk.stat 3 4 20 powD).holds W (· < W.heap.size) (fun _ => undef) := by
  refine stat_of_var 3 h (by kernel_rfl) (by rfl) fun j u hj hu => ⟨?_, rfl⟩
  have hl : Lib.pow10Tab.length = 20 := rfl
  simp only [List.getElem?_toArray, List.getElem?_map] at hu
  rw [List.getElem?_eq_getElem (by omega)] at hu
  simp only [Option.map_some, Option.some.injEq] at hu
  rw [← hu, List.getD_eq_getElem?_getD, List.getElem?_eq_getElem (by omega)]
  rfl
theorem starE : ("*errors.errorString" : String) = "*" ++ "errors.errorString" := by decide
theorem row_err (u : TypeId) (h : Tryz.prog.typeName? 3 u = some "*errors.errorString") : u = 141 :=
  typeName_ptr_named (nm := "errors.errorString") (by rw [← starE]; kernel_rfl) (by kernel_rfl) (by decide) u (by rw [← starE]; exact h)
abbrev glLaid : List (String × DataW Unit) := [("math/bits.deBruijn32tab", Rows.laid_math_bits_deBruijn32tab), ("math/bits.deBruijn64tab", Rows.laid_math_bits_deBruijn64tab), ("internal/strconv.uint64pow10", Rows.laid_internal_strconv_uint64pow10), ("unicode/utf8.acceptRanges", Rows.laid_unicode_utf8_acceptRanges), ("strconv.ErrRange", Rows.laid_strconv_ErrRange), ("strconv.ErrSyntax", Rows.laid_strconv_ErrSyntax), ("limewash/words.escapes", Rows.laid_limewash_words_escapes), ("unicode/utf8.first", Rows.laid_unicode_utf8_first)]
/-- What the words' package reads of laid variables is as it was laid. -/
theorem glC_of {W : World} (h : laidMet Tryz.prog glLaid W) (hs : W.ShapedOpen Tryz.prog) : ∃ m te pe, ∀ c ∈ glC m te pe, c.holds W (· < W.heap.size) (fun _ => undef) := by
  have hp := Lib.tabIs_of_head (k := .u64) (zs := Lib.pow10Tab) (name := "internal/strconv.uint64pow10") (g := 4) (t := 136) (e := 111) (n := 20) (by kernel_rfl) (by kernel_rfl) Tryz.underlying136 Tryz.underlying111 (by kernel_rfl) (by kernel_rfl) h.tail.tail
  have he := esc_cells (Lib.laidMet.reads h (by simp [glLaid]))
  obtain ⟨a, s, hv, _, _, _⟩ := laid_sentinel (P := Tryz.prog) (n := "strconv.ErrRange") (g := 3) (ti := 54) (tp := 141) (te := 143) (ts := 9) h.tail.tail.tail.tail (by kernel_rfl) (by kernel_rfl) Tryz.underlying54 row_err (by kernel_rfl) Tryz.underlying143 rfl rfl (by kernel_rfl) (by kernel_rfl) (by kernel_rfl)
  obtain ⟨m, hm⟩ := Proofs.cell_of_shapedOpen_int (g := 1) (t := 3) (zero := #[.int .i64 0]) (k := .i64) hs (Nat.le_of_ble_eq_true (by kernel_rfl)) (by kernel_rfl) rfl (by kernel_rfl) (by kernel_rfl) (by kernel_rfl)
  refine ⟨m, 141, .pointer (some a), fun c hc => ?_⟩
  rcases List.mem_cons.1 hc with rfl | hc
  · exact he
  rcases List.mem_cons.1 hc with rfl | hc
  · obtain ⟨cs, h1, h2, _⟩ := hs.1 1 #[.int .i64 0] 3 (Nat.le_of_ble_eq_true (by kernel_rfl)) (by kernel_rfl)
    have hlt : 1 < W.heap.size := (Array.getElem?_eq_some_iff.1 h1).1
    refine ⟨hlt, hlt, fun j hj => ?_, cs, _, _, h1, h2⟩
    obtain rfl : j = 0 := by omega
    exact ⟨_, hm, rfl, rfl⟩
  rcases List.mem_cons.1 hc with rfl | hc
  · exact stat_of_var 2 hv (by kernel_rfl) (by rfl) fun j u hj hu => by
      obtain rfl : j = 0 := by omega
      cases hu
      exact ⟨rfl, rfl⟩
  · obtain rfl := List.mem_singleton.1 hc
    exact pow_cells hp
end Go.Proofs.YtmeapfckibbbbaaGreatDoor.Am
