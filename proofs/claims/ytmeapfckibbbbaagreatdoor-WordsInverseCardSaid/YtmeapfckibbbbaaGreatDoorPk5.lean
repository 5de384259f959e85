/- Texts of this claim, joined. -/
import Derived.Test.YtmeapfckibbbbaaGreatDoorPk4
import Derived.Shelf.Strings.OnBuilder
set_option linter.unusedSimpArgs false
set_option linter.unusedVariables false
/- The words: escapes read, the program's. -/
set_option linter.unusedVariables false
namespace Go.Proofs.YtmeapfckibbbbaaGreatDoor.Am
open Go.RowKit Lw Wo
theorem byt_at {a : UInt8} {q : Nat} (hq : q < 5) (h : a.toNat = escL.getD (2 * q + 1) 0) : ∃ c : UInt8, bytI a = some c ∧ c.toNat = escL.getD (2 * q) 0 := by
  rcases q with _ | _ | _ | _ | _ | q
  all_goals first
    | (unfold bytI; rw [h]; exact ⟨_, rfl, rfl⟩)
    | omega
theorem byt_no {a : UInt8} (h : ∀ j, j < 5 → a.toNat ≠ escL.getD (2 * j + 1) 0) : bytI a = none := by
  unfold bytI
  rw [if_neg (show a.toNat ≠ 34 from h 0 (by decide)), if_neg (show a.toNat ≠ 92 from h 1 (by decide)), if_neg (show a.toNat ≠ 110 from h 2 (by decide)), if_neg (show a.toNat ≠ 114 from h 3 (by decide)), if_neg (show a.toNat ≠ 116 from h 4 (by decide))]
theorem orv {x y : Nat} (hx : x < 16) (hy : y < 16) : ((((x : Int) * 2 ^ Int.toNat 4).toNat ||| (y : Int).toNat : Nat) : Int) % 256 = ((UInt8.ofNat (16 * x + y)).toNat : Nat) := by
  have key : ∀ a b : Fin 16, ((((a.1 : Int) * 2 ^ Int.toNat 4).toNat ||| (b.1 : Int).toNat : Nat) : Int) % 256 = ((UInt8.ofNat (16 * a.1 + b.1)).toNat : Nat) := by decide +kernel
  exact key ⟨x, hx⟩ ⟨y, hy⟩
theorem ixh (c : UInt8) : ∃ z : Int, Lib.indexByte hexL c = z ∧ (idxH c = none ∧ z = -1 ∨ ∃ x : Nat, x < 16 ∧ idxH c = some x ∧ z = x) := by
  have key : ∀ c : UInt8, Lib.indexByte hexL c = (match idxH c with | some x => (x : Int) | none => -1) := by
    refine fin_all ?_
    decide +kernel
  refine ⟨_, key c, ?_⟩
  cases h : idxH c with
  | none => exact .inl ⟨rfl, rfl⟩
  | some x => exact .inr ⟨x, (hex_idx c x h).1, rfl, rfl⟩
set_option maxRecDepth 20000 in
theorem ixh_c (c : UInt8) (z : Int) (h : Lib.indexByte hexL c = z) : Con Tryz.prog 86 [.o (.c (.string (sB hexL))), .o (.c (.int .u8 c.toNat))] [] 0 0 U (fun _ => .o (.c (.int .i64 z))) G0 := h ▸ ixb_c hexL c
set_option maxRecDepth 20000 in
set_option maxHeartbeats 4000000 in
theorem unesc_c (m : Int) (te : TypeId) (pe : Value) (l : Bs) (hl : l.length ≤ 1000000) : Con Tryz.prog 60 [.o (.c (.string (sB l)))] (glC m te pe) 4 4 U (fun _ => .t [.inl (.c (.int .u8 (unescI l).1.toNat)), .inl (.c (.int .i64 ((unescI l).2 : Nat)))]) (fun _ => glC m te pe) := by
  match l, hl with
  | [], hl =>
    refine con_of Tryz.func60 rfl (by kernel_rfl) Tryz.ntmps60 rfl (by first | exact Nat.zero_le _ | decide) (fun _ => ⟨rfl, rfl⟩) fun w S ν => ?_
    (repeat' (first | (with_reducible refine AllP.go ?_; (first | exact trivial | exact fun i _ => ⟨_, rfl⟩ | ((try simp only [OS]); repeat' (first | omega | exact fun i _ => ⟨_, rfl⟩ | refine And.intro ?_ ?_)))) | (refine TE.rgo tysOk rfl (by rfl) ?_ ?_) | (with_reducible first | refine t1 ?_ | refine t2 ?_ | refine t3 ?_ | refine t4 ?_ | refine t5 ?_ | refine t6 ?_ | refine t7 ?_ | refine t8 ?_ | refine t9 ?_ | refine tA ?_ | refine tB ?_ | refine tC ?_ | refine tD rfl ?_ | refine tE ?_ | refine tF ?_ | refine tG ?_ | refine tH ?_ | refine tI ?_ | refine tJ ?_ | refine tK ?_ | refine tL ?_) | (with_reducible first | exact PanicOk.body | exact rd.panic | refine PanicOk.then' ?_ | refine PanicOk.block ?_ | refine PanicOk.jump ?_) | (refine TE.drawC (by rfl) (by rfl) (by rfl) (by rfl) ?_) | (refine TE.drawN (by rfl) (by rfl) (by rfl) ?_) | (refine TL.done (by rfl) ?_) | (refine TL.auto tysOk rfl ?_ (by rfl) ?_ ?_) | ((refine TL.one (by rfl) ?_); first | (refine StepL.mem tysOk rfl rfl rfl rfl (by rfl) ?_ (by rfl) ?_) | (refine StepL.pure tysOk rfl rfl rfl rfl (by rfl) ?_ (by rfl) ?_)) | (refine StepL.mem tysOk rfl rfl rfl rfl (by rfl) ?_ (by rfl) ?_) | refine TE.cond_true (by rfl) ?_ | refine TE.cond_false (by rfl) ?_ | ((refine TE.gsplit (by rfl) (by rfl) ?_ ?_ <;> intro h <;> (try simp only [NS] at h) <;> (try (exfalso; first | omega | exact h trivial | exact h | exact h rfl | contradiction))) <;> (refine TE.run tysOk rfl (by rfl) ?_ ?_)) | ((first | refine TL.gsplit (by rfl) (by rfl) ?_ ?_ | refine TE.cond_split (by rfl) ?_ ?_) <;> intro h <;> (try simp only [NS] at h) <;> (try (exfalso; first | omega | exact h trivial | exact h | exact h rfl | contradiction)))))
    (refine TE.ret' (by first | exact .inl rfl | exact .inr rfl) rfl tysOk (()) ?_ rfl (by rfl) ?_; all_goals (try (first | exact trivial | ((with_reducible refine AllP.go ?_); dsimp only [AllP, appP]; repeat' (first | with_reducible rfl | with_reducible exact LeD.refl | refine And.intro ?_ ?_ | (refine congrArg (Value.int _) ?_; first | omega | rfl | (simp only [Int.toNat_natCast]; omega)) | rfl | (refine congrArg Value.bool ?_; assumption) | exact LeD.refl)))))
  | a :: r, hl =>
  refine con_of Tryz.func60 rfl (by kernel_rfl) Tryz.ntmps60 rfl (by first | exact Nat.zero_le _ | decide) (fun _ => ⟨rfl, rfl⟩) fun w S ν => ?_
  have hz : (sB (a :: r)).size = r.length + 1 := sB_size _
  have hz2 : r.length + 1 ≤ 1000000 := hl
  (repeat (with_reducible first | refine t1 ?_ | refine t2 ?_ | refine t3 ?_ | refine t4 ?_ | refine t5 ?_ | refine t6 ?_ | refine t7 ?_ | refine t8 ?_ | refine t9 ?_ | refine tA ?_ | refine tB ?_ | refine tC ?_ | refine tD rfl ?_ | refine tE ?_ | refine tF ?_ | refine tG ?_ | refine tH ?_ | refine tI ?_ | refine tJ ?_ | refine tK ?_ | refine tL ?_))
  ((refine TE.rgo tysOk rfl (by rfl) ?_ ?_); try (with_reducible refine AllP.go ?_; (first | exact trivial | exact fun i _ => ⟨_, rfl⟩ | ((try simp only [OS]); repeat' (first | omega | exact fun i _ => ⟨_, rfl⟩ | refine And.intro ?_ ?_)))))
  (repeat (with_reducible first | refine t1 ?_ | refine t2 ?_ | refine t3 ?_ | refine t4 ?_ | refine t5 ?_ | refine t6 ?_ | refine t7 ?_ | refine t8 ?_ | refine t9 ?_ | refine tA ?_ | refine tB ?_ | refine tC ?_ | refine tD rfl ?_ | refine tE ?_ | refine tF ?_ | refine tG ?_ | refine tH ?_ | refine tI ?_ | refine tJ ?_ | refine tK ?_ | refine tL ?_))
  ((refine TE.rgo tysOk rfl (by rfl) ?_ ?_); try (with_reducible refine AllP.go ?_; (first | exact trivial | exact fun i _ => ⟨_, rfl⟩ | ((try simp only [OS]); repeat' (first | omega | exact fun i _ => ⟨_, rfl⟩ | refine And.intro ?_ ?_)))))
  (repeat (with_reducible first | refine t1 ?_ | refine t2 ?_ | refine t3 ?_ | refine t4 ?_ | refine t5 ?_ | refine t6 ?_ | refine t7 ?_ | refine t8 ?_ | refine t9 ?_ | refine tA ?_ | refine tB ?_ | refine tC ?_ | refine tD rfl ?_ | refine tE ?_ | refine tF ?_ | refine tG ?_ | refine tH ?_ | refine tI ?_ | refine tJ ?_ | refine tK ?_ | refine tL ?_))
  (refine TE.cond_split (by rfl) ?_ ?_ <;> intro h <;> (try simp only [NS] at h) <;> (try (exfalso; first | omega | exact h trivial | exact h | exact h rfl | contradiction)))
  (repeat (with_reducible first | refine t1 ?_ | refine t2 ?_ | refine t3 ?_ | refine t4 ?_ | refine t5 ?_ | refine t6 ?_ | refine t7 ?_ | refine t8 ?_ | refine t9 ?_ | refine tA ?_ | refine tB ?_ | refine tC ?_ | refine tD rfl ?_ | refine tE ?_ | refine tF ?_ | refine tG ?_ | refine tH ?_ | refine tI ?_ | refine tJ ?_ | refine tK ?_ | refine tL ?_))
  refine TE.region ?_
  (refine TE.step rfl rfl rfl (fun _ h => nomatch h) (m_statLoad tysOk rfl rfl (by rfl) (by rfl)) ?_; rintro _ rfl)
  ((refine TE.run tysOk rfl (by rfl) ?_ ?_); try (with_reducible refine AllP.go ?_; (first | exact trivial | exact fun i _ => ⟨_, rfl⟩ | ((try simp only [OS]); repeat' (first | omega | exact fun i _ => ⟨_, rfl⟩ | refine And.intro ?_ ?_)))))
  (repeat (with_reducible first | refine t1 ?_ | refine t2 ?_ | refine t3 ?_ | refine t4 ?_ | refine t5 ?_ | refine t6 ?_ | refine t7 ?_ | refine t8 ?_ | refine t9 ?_ | refine tA ?_ | refine tB ?_ | refine tC ?_ | refine tD rfl ?_ | refine tE ?_ | refine tF ?_ | refine tG ?_ | refine tH ?_ | refine tI ?_ | refine tJ ?_ | refine tK ?_ | refine tL ?_))
  refine TE.loopG (fun q : Nat => q ≤ 5 ∧ ∀ j, j < q → a.toNat ≠ escL.getD (2 * j + 1) 0) (fun q => [(12, .o (.c (.int .i64 q)))]) [] (fun _ => []) (fun q => 5 - q) 0 (by rfl) ⟨Nat.zero_le _, fun _ h => absurd h (Nat.not_lt_zero _)⟩ ?_ ?_
  · (refine Ent.of rfl rfl (by rfl) ?_; (try (first | exact trivial | ((with_reducible refine AllP.go ?_); dsimp only [AllP, appP]; repeat' (first | with_reducible rfl | with_reducible exact LeD.refl | refine And.intro ?_ ?_ | (refine congrArg (Value.int _) ?_; first | omega | rfl | (simp only [Int.toNat_natCast]; omega)) | rfl | (refine congrArg Value.bool ?_; assumption) | exact LeD.refl)))))
  rintro q ⟨hq, hqa⟩
  (repeat (with_reducible first | refine t1 ?_ | refine t2 ?_ | refine t3 ?_ | refine t4 ?_ | refine t5 ?_ | refine t6 ?_ | refine t7 ?_ | refine t8 ?_ | refine t9 ?_ | refine tA ?_ | refine tB ?_ | refine tC ?_ | refine tD rfl ?_ | refine tE ?_ | refine tF ?_ | refine tG ?_ | refine tH ?_ | refine tI ?_ | refine tJ ?_ | refine tK ?_ | refine tL ?_))
  ((refine TE.rgo tysOk rfl (by rfl) ?_ ?_); try (with_reducible refine AllP.go ?_; (first | exact trivial | exact fun i _ => ⟨_, rfl⟩ | ((try simp only [OS]); repeat' (first | omega | exact fun i _ => ⟨_, rfl⟩ | refine And.intro ?_ ?_)))))
  (repeat (with_reducible first | refine t1 ?_ | refine t2 ?_ | refine t3 ?_ | refine t4 ?_ | refine t5 ?_ | refine t6 ?_ | refine t7 ?_ | refine t8 ?_ | refine t9 ?_ | refine tA ?_ | refine tB ?_ | refine tC ?_ | refine tD rfl ?_ | refine tE ?_ | refine tF ?_ | refine tG ?_ | refine tH ?_ | refine tI ?_ | refine tJ ?_ | refine tK ?_ | refine tL ?_))
  (refine TE.cond_split (by rfl) ?_ ?_ <;> intro h <;> (try simp only [NS] at h) <;> (try (exfalso; first | omega | exact h trivial | exact h | exact h rfl | contradiction)))
  · rcases q with _ | _ | _ | _ | _ | q
    all_goals try (exfalso; omega)
    all_goals (repeat (with_reducible first | refine t1 ?_ | refine t2 ?_ | refine t3 ?_ | refine t4 ?_ | refine t5 ?_ | refine t6 ?_ | refine t7 ?_ | refine t8 ?_ | refine t9 ?_ | refine tA ?_ | refine tB ?_ | refine tC ?_ | refine tD rfl ?_ | refine tE ?_ | refine tF ?_ | refine tG ?_ | refine tH ?_ | refine tI ?_ | refine tJ ?_ | refine tK ?_ | refine tL ?_))
    all_goals refine TE.region ?_
    all_goals (refine TE.step rfl rfl rfl (fun _ h => nomatch h) (m_aggIdx tysOk rfl (Tryz.underlying100) rfl rfl rfl rfl (by rfl) ?_) ?_; rotate_left; rintro _ rfl; rotate_right)
    all_goals try (first | exact trivial | exact fun i _ => ⟨_, rfl⟩ | ((try simp only [OS]); repeat' (first | omega | exact fun i _ => ⟨_, rfl⟩ | refine And.intro ?_ ?_)))
    all_goals ((refine TE.run tysOk rfl (by rfl) ?_ ?_); try (with_reducible refine AllP.go ?_; (first | exact trivial | exact fun i _ => ⟨_, rfl⟩ | ((try simp only [OS]); repeat' (first | omega | exact fun i _ => ⟨_, rfl⟩ | refine And.intro ?_ ?_)))))
    all_goals (repeat (with_reducible first | refine t1 ?_ | refine t2 ?_ | refine t3 ?_ | refine t4 ?_ | refine t5 ?_ | refine t6 ?_ | refine t7 ?_ | refine t8 ?_ | refine t9 ?_ | refine tA ?_ | refine tB ?_ | refine tC ?_ | refine tD rfl ?_ | refine tE ?_ | refine tF ?_ | refine tG ?_ | refine tH ?_ | refine tI ?_ | refine tJ ?_ | refine tK ?_ | refine tL ?_))
    all_goals ((refine TE.drawN (by rfl) (by rfl) (by rfl) ?_); repeat' (first | (with_reducible refine AllP.go ?_; (first | exact trivial | exact fun i _ => ⟨_, rfl⟩ | ((try simp only [OS]); repeat' (first | omega | exact fun i _ => ⟨_, rfl⟩ | refine And.intro ?_ ?_)))) | (with_reducible first | exact PanicOk.body | exact rd.panic | refine PanicOk.then' ?_ | refine PanicOk.block ?_ | refine PanicOk.jump ?_) | (refine TL.done (by rfl) ?_) | (refine TL.auto tysOk rfl ?_ (by rfl) ?_ ?_) | ((refine TL.one (by rfl) ?_); first | (refine StepL.mem tysOk rfl rfl rfl rfl (by rfl) ?_ (by rfl) ?_) | (refine StepL.pure tysOk rfl rfl rfl rfl (by rfl) ?_ (by rfl) ?_)) | (refine StepL.mem tysOk rfl rfl rfl rfl (by rfl) ?_ (by rfl) ?_) | ((first | refine TL.gsplit (by rfl) (by rfl) ?_ ?_ | refine TE.cond_split (by rfl) ?_ ?_) <;> intro h <;> (try simp only [NS] at h) <;> (try (exfalso; first | omega | exact h trivial | exact h | exact h rfl | contradiction)))))
    all_goals (repeat (with_reducible first | refine t1 ?_ | refine t2 ?_ | refine t3 ?_ | refine t4 ?_ | refine t5 ?_ | refine t6 ?_ | refine t7 ?_ | refine t8 ?_ | refine t9 ?_ | refine tA ?_ | refine tB ?_ | refine tC ?_ | refine tD rfl ?_ | refine tE ?_ | refine tF ?_ | refine tG ?_ | refine tH ?_ | refine tI ?_ | refine tJ ?_ | refine tK ?_ | refine tL ?_))
    · (repeat' (first | (with_reducible refine AllP.go ?_; (first | exact trivial | exact fun i _ => ⟨_, rfl⟩ | ((try simp only [OS]); repeat' (first | omega | exact fun i _ => ⟨_, rfl⟩ | refine And.intro ?_ ?_)))) | (refine TE.rgo tysOk rfl (by rfl) ?_ ?_) | (with_reducible first | refine t1 ?_ | refine t2 ?_ | refine t3 ?_ | refine t4 ?_ | refine t5 ?_ | refine t6 ?_ | refine t7 ?_ | refine t8 ?_ | refine t9 ?_ | refine tA ?_ | refine tB ?_ | refine tC ?_ | refine tD rfl ?_ | refine tE ?_ | refine tF ?_ | refine tG ?_ | refine tH ?_ | refine tI ?_ | refine tJ ?_ | refine tK ?_ | refine tL ?_) | (with_reducible first | exact PanicOk.body | exact rd.panic | refine PanicOk.then' ?_ | refine PanicOk.block ?_ | refine PanicOk.jump ?_) | (refine TE.drawC (by rfl) (by rfl) (by rfl) (by rfl) ?_) | (refine TE.drawN (by rfl) (by rfl) (by rfl) ?_) | (refine TL.done (by rfl) ?_) | (refine TL.auto tysOk rfl ?_ (by rfl) ?_ ?_) | ((refine TL.one (by rfl) ?_); first | (refine StepL.mem tysOk rfl rfl rfl rfl (by rfl) ?_ (by rfl) ?_) | (refine StepL.pure tysOk rfl rfl rfl rfl (by rfl) ?_ (by rfl) ?_)) | (refine StepL.mem tysOk rfl rfl rfl rfl (by rfl) ?_ (by rfl) ?_) | refine TE.cond_true (by rfl) ?_ | refine TE.cond_false (by rfl) ?_ | ((refine TE.gsplit (by rfl) (by rfl) ?_ ?_ <;> intro h <;> (try simp only [NS] at h) <;> (try (exfalso; first | omega | exact h trivial | exact h | exact h rfl | contradiction))) <;> (refine TE.run tysOk rfl (by rfl) ?_ ?_)) | ((first | refine TL.gsplit (by rfl) (by rfl) ?_ ?_ | refine TE.cond_split (by rfl) ?_ ?_) <;> intro h <;> (try simp only [NS] at h) <;> (try (exfalso; first | omega | exact h trivial | exact h | exact h rfl | contradiction)))))
      obtain ⟨c1, hc1, hc2⟩ := byt_at (a := a) (q := 0) (by decide) h.symm
      have hr : unescI (a :: r) = (c1, 1) := by unfold unescI; dsimp only; rw [hc1]
      rw [show (unescI (a :: r)).1.toNat = escL.getD (2 * 0) 0 by rw [hr]; exact hc2, show (unescI (a :: r)).2 = 1 by rw [hr]]
      (refine TE.ret' (by first | exact .inl rfl | exact .inr rfl) rfl tysOk (()) ?_ rfl (by rfl) ?_; all_goals (try (first | exact trivial | ((with_reducible refine AllP.go ?_); dsimp only [AllP, appP]; repeat' (first | with_reducible rfl | with_reducible exact LeD.refl | refine And.intro ?_ ?_ | (refine congrArg (Value.int _) ?_; first | omega | rfl | (simp only [Int.toNat_natCast]; omega)) | rfl | (refine congrArg Value.bool ?_; assumption) | exact LeD.refl)))))
    · (repeat' (first | (with_reducible refine AllP.go ?_; (first | exact trivial | exact fun i _ => ⟨_, rfl⟩ | ((try simp only [OS]); repeat' (first | omega | exact fun i _ => ⟨_, rfl⟩ | refine And.intro ?_ ?_)))) | (refine TE.rgo tysOk rfl (by rfl) ?_ ?_) | (with_reducible first | refine t1 ?_ | refine t2 ?_ | refine t3 ?_ | refine t4 ?_ | refine t5 ?_ | refine t6 ?_ | refine t7 ?_ | refine t8 ?_ | refine t9 ?_ | refine tA ?_ | refine tB ?_ | refine tC ?_ | refine tD rfl ?_ | refine tE ?_ | refine tF ?_ | refine tG ?_ | refine tH ?_ | refine tI ?_ | refine tJ ?_ | refine tK ?_ | refine tL ?_) | (with_reducible first | exact PanicOk.body | exact rd.panic | refine PanicOk.then' ?_ | refine PanicOk.block ?_ | refine PanicOk.jump ?_) | (refine TE.drawC (by rfl) (by rfl) (by rfl) (by rfl) ?_) | (refine TE.drawN (by rfl) (by rfl) (by rfl) ?_) | (refine TL.done (by rfl) ?_) | (refine TL.auto tysOk rfl ?_ (by rfl) ?_ ?_) | ((refine TL.one (by rfl) ?_); first | (refine StepL.mem tysOk rfl rfl rfl rfl (by rfl) ?_ (by rfl) ?_) | (refine StepL.pure tysOk rfl rfl rfl rfl (by rfl) ?_ (by rfl) ?_)) | (refine StepL.mem tysOk rfl rfl rfl rfl (by rfl) ?_ (by rfl) ?_) | refine TE.cond_true (by rfl) ?_ | refine TE.cond_false (by rfl) ?_ | ((refine TE.gsplit (by rfl) (by rfl) ?_ ?_ <;> intro h <;> (try simp only [NS] at h) <;> (try (exfalso; first | omega | exact h trivial | exact h | exact h rfl | contradiction))) <;> (refine TE.run tysOk rfl (by rfl) ?_ ?_)) | ((first | refine TL.gsplit (by rfl) (by rfl) ?_ ?_ | refine TE.cond_split (by rfl) ?_ ?_) <;> intro h <;> (try simp only [NS] at h) <;> (try (exfalso; first | omega | exact h trivial | exact h | exact h rfl | contradiction)))))
      refine TE.again' 1 ⟨by decide, fun j hj => ?_⟩ (by decide) ?_
      · by_cases hj2 : j = 0
        · subst hj2
          exact fun hh => h hh.symm
        · exact hqa j (by omega)
      · (refine Ent.of rfl rfl (by rfl) ?_; (try (first | exact trivial | ((with_reducible refine AllP.go ?_); dsimp only [AllP, appP]; repeat' (first | with_reducible rfl | with_reducible exact LeD.refl | refine And.intro ?_ ?_ | (refine congrArg (Value.int _) ?_; first | omega | rfl | (simp only [Int.toNat_natCast]; omega)) | rfl | (refine congrArg Value.bool ?_; assumption) | exact LeD.refl)))))
    · (repeat' (first | (with_reducible refine AllP.go ?_; (first | exact trivial | exact fun i _ => ⟨_, rfl⟩ | ((try simp only [OS]); repeat' (first | omega | exact fun i _ => ⟨_, rfl⟩ | refine And.intro ?_ ?_)))) | (refine TE.rgo tysOk rfl (by rfl) ?_ ?_) | (with_reducible first | refine t1 ?_ | refine t2 ?_ | refine t3 ?_ | refine t4 ?_ | refine t5 ?_ | refine t6 ?_ | refine t7 ?_ | refine t8 ?_ | refine t9 ?_ | refine tA ?_ | refine tB ?_ | refine tC ?_ | refine tD rfl ?_ | refine tE ?_ | refine tF ?_ | refine tG ?_ | refine tH ?_ | refine tI ?_ | refine tJ ?_ | refine tK ?_ | refine tL ?_) | (with_reducible first | exact PanicOk.body | exact rd.panic | refine PanicOk.then' ?_ | refine PanicOk.block ?_ | refine PanicOk.jump ?_) | (refine TE.drawC (by rfl) (by rfl) (by rfl) (by rfl) ?_) | (refine TE.drawN (by rfl) (by rfl) (by rfl) ?_) | (refine TL.done (by rfl) ?_) | (refine TL.auto tysOk rfl ?_ (by rfl) ?_ ?_) | ((refine TL.one (by rfl) ?_); first | (refine StepL.mem tysOk rfl rfl rfl rfl (by rfl) ?_ (by rfl) ?_) | (refine StepL.pure tysOk rfl rfl rfl rfl (by rfl) ?_ (by rfl) ?_)) | (refine StepL.mem tysOk rfl rfl rfl rfl (by rfl) ?_ (by rfl) ?_) | refine TE.cond_true (by rfl) ?_ | refine TE.cond_false (by rfl) ?_ | ((refine TE.gsplit (by rfl) (by rfl) ?_ ?_ <;> intro h <;> (try simp only [NS] at h) <;> (try (exfalso; first | omega | exact h trivial | exact h | exact h rfl | contradiction))) <;> (refine TE.run tysOk rfl (by rfl) ?_ ?_)) | ((first | refine TL.gsplit (by rfl) (by rfl) ?_ ?_ | refine TE.cond_split (by rfl) ?_ ?_) <;> intro h <;> (try simp only [NS] at h) <;> (try (exfalso; first | omega | exact h trivial | exact h | exact h rfl | contradiction)))))
      obtain ⟨c1, hc1, hc2⟩ := byt_at (a := a) (q := 1) (by decide) h.symm
      have hr : unescI (a :: r) = (c1, 1) := by unfold unescI; dsimp only; rw [hc1]
      rw [show (unescI (a :: r)).1.toNat = escL.getD (2 * 1) 0 by rw [hr]; exact hc2, show (unescI (a :: r)).2 = 1 by rw [hr]]
      (refine TE.ret' (by first | exact .inl rfl | exact .inr rfl) rfl tysOk (()) ?_ rfl (by rfl) ?_; all_goals (try (first | exact trivial | ((with_reducible refine AllP.go ?_); dsimp only [AllP, appP]; repeat' (first | with_reducible rfl | with_reducible exact LeD.refl | refine And.intro ?_ ?_ | (refine congrArg (Value.int _) ?_; first | omega | rfl | (simp only [Int.toNat_natCast]; omega)) | rfl | (refine congrArg Value.bool ?_; assumption) | exact LeD.refl)))))
    · (repeat' (first | (with_reducible refine AllP.go ?_; (first | exact trivial | exact fun i _ => ⟨_, rfl⟩ | ((try simp only [OS]); repeat' (first | omega | exact fun i _ => ⟨_, rfl⟩ | refine And.intro ?_ ?_)))) | (refine TE.rgo tysOk rfl (by rfl) ?_ ?_) | (with_reducible first | refine t1 ?_ | refine t2 ?_ | refine t3 ?_ | refine t4 ?_ | refine t5 ?_ | refine t6 ?_ | refine t7 ?_ | refine t8 ?_ | refine t9 ?_ | refine tA ?_ | refine tB ?_ | refine tC ?_ | refine tD rfl ?_ | refine tE ?_ | refine tF ?_ | refine tG ?_ | refine tH ?_ | refine tI ?_ | refine tJ ?_ | refine tK ?_ | refine tL ?_) | (with_reducible first | exact PanicOk.body | exact rd.panic | refine PanicOk.then' ?_ | refine PanicOk.block ?_ | refine PanicOk.jump ?_) | (refine TE.drawC (by rfl) (by rfl) (by rfl) (by rfl) ?_) | (refine TE.drawN (by rfl) (by rfl) (by rfl) ?_) | (refine TL.done (by rfl) ?_) | (refine TL.auto tysOk rfl ?_ (by rfl) ?_ ?_) | ((refine TL.one (by rfl) ?_); first | (refine StepL.mem tysOk rfl rfl rfl rfl (by rfl) ?_ (by rfl) ?_) | (refine StepL.pure tysOk rfl rfl rfl rfl (by rfl) ?_ (by rfl) ?_)) | (refine StepL.mem tysOk rfl rfl rfl rfl (by rfl) ?_ (by rfl) ?_) | refine TE.cond_true (by rfl) ?_ | refine TE.cond_false (by rfl) ?_ | ((refine TE.gsplit (by rfl) (by rfl) ?_ ?_ <;> intro h <;> (try simp only [NS] at h) <;> (try (exfalso; first | omega | exact h trivial | exact h | exact h rfl | contradiction))) <;> (refine TE.run tysOk rfl (by rfl) ?_ ?_)) | ((first | refine TL.gsplit (by rfl) (by rfl) ?_ ?_ | refine TE.cond_split (by rfl) ?_ ?_) <;> intro h <;> (try simp only [NS] at h) <;> (try (exfalso; first | omega | exact h trivial | exact h | exact h rfl | contradiction)))))
      refine TE.again' 2 ⟨by decide, fun j hj => ?_⟩ (by decide) ?_
      · by_cases hj2 : j = 1
        · subst hj2
          exact fun hh => h hh.symm
        · exact hqa j (by omega)
      · (refine Ent.of rfl rfl (by rfl) ?_; (try (first | exact trivial | ((with_reducible refine AllP.go ?_); dsimp only [AllP, appP]; repeat' (first | with_reducible rfl | with_reducible exact LeD.refl | refine And.intro ?_ ?_ | (refine congrArg (Value.int _) ?_; first | omega | rfl | (simp only [Int.toNat_natCast]; omega)) | rfl | (refine congrArg Value.bool ?_; assumption) | exact LeD.refl)))))
    · (repeat' (first | (with_reducible refine AllP.go ?_; (first | exact trivial | exact fun i _ => ⟨_, rfl⟩ | ((try simp only [OS]); repeat' (first | omega | exact fun i _ => ⟨_, rfl⟩ | refine And.intro ?_ ?_)))) | (refine TE.rgo tysOk rfl (by rfl) ?_ ?_) | (with_reducible first | refine t1 ?_ | refine t2 ?_ | refine t3 ?_ | refine t4 ?_ | refine t5 ?_ | refine t6 ?_ | refine t7 ?_ | refine t8 ?_ | refine t9 ?_ | refine tA ?_ | refine tB ?_ | refine tC ?_ | refine tD rfl ?_ | refine tE ?_ | refine tF ?_ | refine tG ?_ | refine tH ?_ | refine tI ?_ | refine tJ ?_ | refine tK ?_ | refine tL ?_) | (with_reducible first | exact PanicOk.body | exact rd.panic | refine PanicOk.then' ?_ | refine PanicOk.block ?_ | refine PanicOk.jump ?_) | (refine TE.drawC (by rfl) (by rfl) (by rfl) (by rfl) ?_) | (refine TE.drawN (by rfl) (by rfl) (by rfl) ?_) | (refine TL.done (by rfl) ?_) | (refine TL.auto tysOk rfl ?_ (by rfl) ?_ ?_) | ((refine TL.one (by rfl) ?_); first | (refine StepL.mem tysOk rfl rfl rfl rfl (by rfl) ?_ (by rfl) ?_) | (refine StepL.pure tysOk rfl rfl rfl rfl (by rfl) ?_ (by rfl) ?_)) | (refine StepL.mem tysOk rfl rfl rfl rfl (by rfl) ?_ (by rfl) ?_) | refine TE.cond_true (by rfl) ?_ | refine TE.cond_false (by rfl) ?_ | ((refine TE.gsplit (by rfl) (by rfl) ?_ ?_ <;> intro h <;> (try simp only [NS] at h) <;> (try (exfalso; first | omega | exact h trivial | exact h | exact h rfl | contradiction))) <;> (refine TE.run tysOk rfl (by rfl) ?_ ?_)) | ((first | refine TL.gsplit (by rfl) (by rfl) ?_ ?_ | refine TE.cond_split (by rfl) ?_ ?_) <;> intro h <;> (try simp only [NS] at h) <;> (try (exfalso; first | omega | exact h trivial | exact h | exact h rfl | contradiction)))))
      obtain ⟨c1, hc1, hc2⟩ := byt_at (a := a) (q := 2) (by decide) h.symm
      have hr : unescI (a :: r) = (c1, 1) := by unfold unescI; dsimp only; rw [hc1]
      rw [show (unescI (a :: r)).1.toNat = escL.getD (2 * 2) 0 by rw [hr]; exact hc2, show (unescI (a :: r)).2 = 1 by rw [hr]]
      (refine TE.ret' (by first | exact .inl rfl | exact .inr rfl) rfl tysOk (()) ?_ rfl (by rfl) ?_; all_goals (try (first | exact trivial | ((with_reducible refine AllP.go ?_); dsimp only [AllP, appP]; repeat' (first | with_reducible rfl | with_reducible exact LeD.refl | refine And.intro ?_ ?_ | (refine congrArg (Value.int _) ?_; first | omega | rfl | (simp only [Int.toNat_natCast]; omega)) | rfl | (refine congrArg Value.bool ?_; assumption) | exact LeD.refl)))))
    · (repeat' (first | (with_reducible refine AllP.go ?_; (first | exact trivial | exact fun i _ => ⟨_, rfl⟩ | ((try simp only [OS]); repeat' (first | omega | exact fun i _ => ⟨_, rfl⟩ | refine And.intro ?_ ?_)))) | (refine TE.rgo tysOk rfl (by rfl) ?_ ?_) | (with_reducible first | refine t1 ?_ | refine t2 ?_ | refine t3 ?_ | refine t4 ?_ | refine t5 ?_ | refine t6 ?_ | refine t7 ?_ | refine t8 ?_ | refine t9 ?_ | refine tA ?_ | refine tB ?_ | refine tC ?_ | refine tD rfl ?_ | refine tE ?_ | refine tF ?_ | refine tG ?_ | refine tH ?_ | refine tI ?_ | refine tJ ?_ | refine tK ?_ | refine tL ?_) | (with_reducible first | exact PanicOk.body | exact rd.panic | refine PanicOk.then' ?_ | refine PanicOk.block ?_ | refine PanicOk.jump ?_) | (refine TE.drawC (by rfl) (by rfl) (by rfl) (by rfl) ?_) | (refine TE.drawN (by rfl) (by rfl) (by rfl) ?_) | (refine TL.done (by rfl) ?_) | (refine TL.auto tysOk rfl ?_ (by rfl) ?_ ?_) | ((refine TL.one (by rfl) ?_); first | (refine StepL.mem tysOk rfl rfl rfl rfl (by rfl) ?_ (by rfl) ?_) | (refine StepL.pure tysOk rfl rfl rfl rfl (by rfl) ?_ (by rfl) ?_)) | (refine StepL.mem tysOk rfl rfl rfl rfl (by rfl) ?_ (by rfl) ?_) | refine TE.cond_true (by rfl) ?_ | refine TE.cond_false (by rfl) ?_ | ((refine TE.gsplit (by rfl) (by rfl) ?_ ?_ <;> intro h <;> (try simp only [NS] at h) <;> (try (exfalso; first | omega | exact h trivial | exact h | exact h rfl | contradiction))) <;> (refine TE.run tysOk rfl (by rfl) ?_ ?_)) | ((first | refine TL.gsplit (by rfl) (by rfl) ?_ ?_ | refine TE.cond_split (by rfl) ?_ ?_) <;> intro h <;> (try simp only [NS] at h) <;> (try (exfalso; first | omega | exact h trivial | exact h | exact h rfl | contradiction)))))
      refine TE.again' 3 ⟨by decide, fun j hj => ?_⟩ (by decide) ?_
      · by_cases hj2 : j = 2
        · subst hj2
          exact fun hh => h hh.symm
        · exact hqa j (by omega)
      · (refine Ent.of rfl rfl (by rfl) ?_; (try (first | exact trivial | ((with_reducible refine AllP.go ?_); dsimp only [AllP, appP]; repeat' (first | with_reducible rfl | with_reducible exact LeD.refl | refine And.intro ?_ ?_ | (refine congrArg (Value.int _) ?_; first | omega | rfl | (simp only [Int.toNat_natCast]; omega)) | rfl | (refine congrArg Value.bool ?_; assumption) | exact LeD.refl)))))
    · (repeat' (first | (with_reducible refine AllP.go ?_; (first | exact trivial | exact fun i _ => ⟨_, rfl⟩ | ((try simp only [OS]); repeat' (first | omega | exact fun i _ => ⟨_, rfl⟩ | refine And.intro ?_ ?_)))) | (refine TE.rgo tysOk rfl (by rfl) ?_ ?_) | (with_reducible first | refine t1 ?_ | refine t2 ?_ | refine t3 ?_ | refine t4 ?_ | refine t5 ?_ | refine t6 ?_ | refine t7 ?_ | refine t8 ?_ | refine t9 ?_ | refine tA ?_ | refine tB ?_ | refine tC ?_ | refine tD rfl ?_ | refine tE ?_ | refine tF ?_ | refine tG ?_ | refine tH ?_ | refine tI ?_ | refine tJ ?_ | refine tK ?_ | refine tL ?_) | (with_reducible first | exact PanicOk.body | exact rd.panic | refine PanicOk.then' ?_ | refine PanicOk.block ?_ | refine PanicOk.jump ?_) | (refine TE.drawC (by rfl) (by rfl) (by rfl) (by rfl) ?_) | (refine TE.drawN (by rfl) (by rfl) (by rfl) ?_) | (refine TL.done (by rfl) ?_) | (refine TL.auto tysOk rfl ?_ (by rfl) ?_ ?_) | ((refine TL.one (by rfl) ?_); first | (refine StepL.mem tysOk rfl rfl rfl rfl (by rfl) ?_ (by rfl) ?_) | (refine StepL.pure tysOk rfl rfl rfl rfl (by rfl) ?_ (by rfl) ?_)) | (refine StepL.mem tysOk rfl rfl rfl rfl (by rfl) ?_ (by rfl) ?_) | refine TE.cond_true (by rfl) ?_ | refine TE.cond_false (by rfl) ?_ | ((refine TE.gsplit (by rfl) (by rfl) ?_ ?_ <;> intro h <;> (try simp only [NS] at h) <;> (try (exfalso; first | omega | exact h trivial | exact h | exact h rfl | contradiction))) <;> (refine TE.run tysOk rfl (by rfl) ?_ ?_)) | ((first | refine TL.gsplit (by rfl) (by rfl) ?_ ?_ | refine TE.cond_split (by rfl) ?_ ?_) <;> intro h <;> (try simp only [NS] at h) <;> (try (exfalso; first | omega | exact h trivial | exact h | exact h rfl | contradiction)))))
      obtain ⟨c1, hc1, hc2⟩ := byt_at (a := a) (q := 3) (by decide) h.symm
      have hr : unescI (a :: r) = (c1, 1) := by unfold unescI; dsimp only; rw [hc1]
      rw [show (unescI (a :: r)).1.toNat = escL.getD (2 * 3) 0 by rw [hr]; exact hc2, show (unescI (a :: r)).2 = 1 by rw [hr]]
      (refine TE.ret' (by first | exact .inl rfl | exact .inr rfl) rfl tysOk (()) ?_ rfl (by rfl) ?_; all_goals (try (first | exact trivial | ((with_reducible refine AllP.go ?_); dsimp only [AllP, appP]; repeat' (first | with_reducible rfl | with_reducible exact LeD.refl | refine And.intro ?_ ?_ | (refine congrArg (Value.int _) ?_; first | omega | rfl | (simp only [Int.toNat_natCast]; omega)) | rfl | (refine congrArg Value.bool ?_; assumption) | exact LeD.refl)))))
    · (repeat' (first | (with_reducible refine AllP.go ?_; (first | exact trivial | exact fun i _ => ⟨_, rfl⟩ | ((try simp only [OS]); repeat' (first | omega | exact fun i _ => ⟨_, rfl⟩ | refine And.intro ?_ ?_)))) | (refine TE.rgo tysOk rfl (by rfl) ?_ ?_) | (with_reducible first | refine t1 ?_ | refine t2 ?_ | refine t3 ?_ | refine t4 ?_ | refine t5 ?_ | refine t6 ?_ | refine t7 ?_ | refine t8 ?_ | refine t9 ?_ | refine tA ?_ | refine tB ?_ | refine tC ?_ | refine tD rfl ?_ | refine tE ?_ | refine tF ?_ | refine tG ?_ | refine tH ?_ | refine tI ?_ | refine tJ ?_ | refine tK ?_ | refine tL ?_) | (with_reducible first | exact PanicOk.body | exact rd.panic | refine PanicOk.then' ?_ | refine PanicOk.block ?_ | refine PanicOk.jump ?_) | (refine TE.drawC (by rfl) (by rfl) (by rfl) (by rfl) ?_) | (refine TE.drawN (by rfl) (by rfl) (by rfl) ?_) | (refine TL.done (by rfl) ?_) | (refine TL.auto tysOk rfl ?_ (by rfl) ?_ ?_) | ((refine TL.one (by rfl) ?_); first | (refine StepL.mem tysOk rfl rfl rfl rfl (by rfl) ?_ (by rfl) ?_) | (refine StepL.pure tysOk rfl rfl rfl rfl (by rfl) ?_ (by rfl) ?_)) | (refine StepL.mem tysOk rfl rfl rfl rfl (by rfl) ?_ (by rfl) ?_) | refine TE.cond_true (by rfl) ?_ | refine TE.cond_false (by rfl) ?_ | ((refine TE.gsplit (by rfl) (by rfl) ?_ ?_ <;> intro h <;> (try simp only [NS] at h) <;> (try (exfalso; first | omega | exact h trivial | exact h | exact h rfl | contradiction))) <;> (refine TE.run tysOk rfl (by rfl) ?_ ?_)) | ((first | refine TL.gsplit (by rfl) (by rfl) ?_ ?_ | refine TE.cond_split (by rfl) ?_ ?_) <;> intro h <;> (try simp only [NS] at h) <;> (try (exfalso; first | omega | exact h trivial | exact h | exact h rfl | contradiction)))))
      refine TE.again' 4 ⟨by decide, fun j hj => ?_⟩ (by decide) ?_
      · by_cases hj2 : j = 3
        · subst hj2
          exact fun hh => h hh.symm
        · exact hqa j (by omega)
      · (refine Ent.of rfl rfl (by rfl) ?_; (try (first | exact trivial | ((with_reducible refine AllP.go ?_); dsimp only [AllP, appP]; repeat' (first | with_reducible rfl | with_reducible exact LeD.refl | refine And.intro ?_ ?_ | (refine congrArg (Value.int _) ?_; first | omega | rfl | (simp only [Int.toNat_natCast]; omega)) | rfl | (refine congrArg Value.bool ?_; assumption) | exact LeD.refl)))))
    · (repeat' (first | (with_reducible refine AllP.go ?_; (first | exact trivial | exact fun i _ => ⟨_, rfl⟩ | ((try simp only [OS]); repeat' (first | omega | exact fun i _ => ⟨_, rfl⟩ | refine And.intro ?_ ?_)))) | (refine TE.rgo tysOk rfl (by rfl) ?_ ?_) | (with_reducible first | refine t1 ?_ | refine t2 ?_ | refine t3 ?_ | refine t4 ?_ | refine t5 ?_ | refine t6 ?_ | refine t7 ?_ | refine t8 ?_ | refine t9 ?_ | refine tA ?_ | refine tB ?_ | refine tC ?_ | refine tD rfl ?_ | refine tE ?_ | refine tF ?_ | refine tG ?_ | refine tH ?_ | refine tI ?_ | refine tJ ?_ | refine tK ?_ | refine tL ?_) | (with_reducible first | exact PanicOk.body | exact rd.panic | refine PanicOk.then' ?_ | refine PanicOk.block ?_ | refine PanicOk.jump ?_) | (refine TE.drawC (by rfl) (by rfl) (by rfl) (by rfl) ?_) | (refine TE.drawN (by rfl) (by rfl) (by rfl) ?_) | (refine TL.done (by rfl) ?_) | (refine TL.auto tysOk rfl ?_ (by rfl) ?_ ?_) | ((refine TL.one (by rfl) ?_); first | (refine StepL.mem tysOk rfl rfl rfl rfl (by rfl) ?_ (by rfl) ?_) | (refine StepL.pure tysOk rfl rfl rfl rfl (by rfl) ?_ (by rfl) ?_)) | (refine StepL.mem tysOk rfl rfl rfl rfl (by rfl) ?_ (by rfl) ?_) | refine TE.cond_true (by rfl) ?_ | refine TE.cond_false (by rfl) ?_ | ((refine TE.gsplit (by rfl) (by rfl) ?_ ?_ <;> intro h <;> (try simp only [NS] at h) <;> (try (exfalso; first | omega | exact h trivial | exact h | exact h rfl | contradiction))) <;> (refine TE.run tysOk rfl (by rfl) ?_ ?_)) | ((first | refine TL.gsplit (by rfl) (by rfl) ?_ ?_ | refine TE.cond_split (by rfl) ?_ ?_) <;> intro h <;> (try simp only [NS] at h) <;> (try (exfalso; first | omega | exact h trivial | exact h | exact h rfl | contradiction)))))
      obtain ⟨c1, hc1, hc2⟩ := byt_at (a := a) (q := 4) (by decide) h.symm
      have hr : unescI (a :: r) = (c1, 1) := by unfold unescI; dsimp only; rw [hc1]
      rw [show (unescI (a :: r)).1.toNat = escL.getD (2 * 4) 0 by rw [hr]; exact hc2, show (unescI (a :: r)).2 = 1 by rw [hr]]
      (refine TE.ret' (by first | exact .inl rfl | exact .inr rfl) rfl tysOk (()) ?_ rfl (by rfl) ?_; all_goals (try (first | exact trivial | ((with_reducible refine AllP.go ?_); dsimp only [AllP, appP]; repeat' (first | with_reducible rfl | with_reducible exact LeD.refl | refine And.intro ?_ ?_ | (refine congrArg (Value.int _) ?_; first | omega | rfl | (simp only [Int.toNat_natCast]; omega)) | rfl | (refine congrArg Value.bool ?_; assumption) | exact LeD.refl)))))
    · (repeat' (first | (with_reducible refine AllP.go ?_; (first | exact trivial | exact fun i _ => ⟨_, rfl⟩ | ((try simp only [OS]); repeat' (first | omega | exact fun i _ => ⟨_, rfl⟩ | refine And.intro ?_ ?_)))) | (refine TE.rgo tysOk rfl (by rfl) ?_ ?_) | (with_reducible first | refine t1 ?_ | refine t2 ?_ | refine t3 ?_ | refine t4 ?_ | refine t5 ?_ | refine t6 ?_ | refine t7 ?_ | refine t8 ?_ | refine t9 ?_ | refine tA ?_ | refine tB ?_ | refine tC ?_ | refine tD rfl ?_ | refine tE ?_ | refine tF ?_ | refine tG ?_ | refine tH ?_ | refine tI ?_ | refine tJ ?_ | refine tK ?_ | refine tL ?_) | (with_reducible first | exact PanicOk.body | exact rd.panic | refine PanicOk.then' ?_ | refine PanicOk.block ?_ | refine PanicOk.jump ?_) | (refine TE.drawC (by rfl) (by rfl) (by rfl) (by rfl) ?_) | (refine TE.drawN (by rfl) (by rfl) (by rfl) ?_) | (refine TL.done (by rfl) ?_) | (refine TL.auto tysOk rfl ?_ (by rfl) ?_ ?_) | ((refine TL.one (by rfl) ?_); first | (refine StepL.mem tysOk rfl rfl rfl rfl (by rfl) ?_ (by rfl) ?_) | (refine StepL.pure tysOk rfl rfl rfl rfl (by rfl) ?_ (by rfl) ?_)) | (refine StepL.mem tysOk rfl rfl rfl rfl (by rfl) ?_ (by rfl) ?_) | refine TE.cond_true (by rfl) ?_ | refine TE.cond_false (by rfl) ?_ | ((refine TE.gsplit (by rfl) (by rfl) ?_ ?_ <;> intro h <;> (try simp only [NS] at h) <;> (try (exfalso; first | omega | exact h trivial | exact h | exact h rfl | contradiction))) <;> (refine TE.run tysOk rfl (by rfl) ?_ ?_)) | ((first | refine TL.gsplit (by rfl) (by rfl) ?_ ?_ | refine TE.cond_split (by rfl) ?_ ?_) <;> intro h <;> (try simp only [NS] at h) <;> (try (exfalso; first | omega | exact h trivial | exact h | exact h rfl | contradiction)))))
      refine TE.again' 5 ⟨by decide, fun j hj => ?_⟩ (by decide) ?_
      · by_cases hj2 : j = 4
        · subst hj2
          exact fun hh => h hh.symm
        · exact hqa j (by omega)
      · (refine Ent.of rfl rfl (by rfl) ?_; (try (first | exact trivial | ((with_reducible refine AllP.go ?_); dsimp only [AllP, appP]; repeat' (first | with_reducible rfl | with_reducible exact LeD.refl | refine And.intro ?_ ?_ | (refine congrArg (Value.int _) ?_; first | omega | rfl | (simp only [Int.toNat_natCast]; omega)) | rfl | (refine congrArg Value.bool ?_; assumption) | exact LeD.refl)))))
  · have hn := byt_no (a := a) (fun j hj => hqa j (by omega))
    (repeat (with_reducible first | refine t1 ?_ | refine t2 ?_ | refine t3 ?_ | refine t4 ?_ | refine t5 ?_ | refine t6 ?_ | refine t7 ?_ | refine t8 ?_ | refine t9 ?_ | refine tA ?_ | refine tB ?_ | refine tC ?_ | refine tD rfl ?_ | refine tE ?_ | refine tF ?_ | refine tG ?_ | refine tH ?_ | refine tI ?_ | refine tJ ?_ | refine tK ?_ | refine tL ?_))
    match r, hz, hz2, hl with
    | [], hz, hz2, hl =>
      have hr : unescI [a] = (0, 0) := by unfold unescI; dsimp only; rw [hn]; dsimp only; split <;> rfl
      rw [hr]
      have hz : (sB [a]).size = 1 := hz
      (repeat' (first | (with_reducible refine AllP.go ?_; (first | exact trivial | exact fun i _ => ⟨_, rfl⟩ | ((try simp only [OS]); repeat' (first | omega | exact fun i _ => ⟨_, rfl⟩ | refine And.intro ?_ ?_)))) | (refine TE.rgo tysOk rfl (by rfl) ?_ ?_) | (with_reducible first | refine t1 ?_ | refine t2 ?_ | refine t3 ?_ | refine t4 ?_ | refine t5 ?_ | refine t6 ?_ | refine t7 ?_ | refine t8 ?_ | refine t9 ?_ | refine tA ?_ | refine tB ?_ | refine tC ?_ | refine tD rfl ?_ | refine tE ?_ | refine tF ?_ | refine tG ?_ | refine tH ?_ | refine tI ?_ | refine tJ ?_ | refine tK ?_ | refine tL ?_) | (with_reducible first | exact PanicOk.body | exact rd.panic | refine PanicOk.then' ?_ | refine PanicOk.block ?_ | refine PanicOk.jump ?_) | (refine TE.drawC (by rfl) (by rfl) (by rfl) (by rfl) ?_) | (refine TE.drawN (by rfl) (by rfl) (by rfl) ?_) | (refine TL.done (by rfl) ?_) | (refine TL.auto tysOk rfl ?_ (by rfl) ?_ ?_) | ((refine TL.one (by rfl) ?_); first | (refine StepL.mem tysOk rfl rfl rfl rfl (by rfl) ?_ (by rfl) ?_) | (refine StepL.pure tysOk rfl rfl rfl rfl (by rfl) ?_ (by rfl) ?_)) | (refine StepL.mem tysOk rfl rfl rfl rfl (by rfl) ?_ (by rfl) ?_) | refine TE.cond_true (by rfl) ?_ | refine TE.cond_false (by rfl) ?_ | ((refine TE.gsplit (by rfl) (by rfl) ?_ ?_ <;> intro h <;> (try simp only [NS] at h) <;> (try (exfalso; first | omega | exact h trivial | exact h | exact h rfl | contradiction))) <;> (refine TE.run tysOk rfl (by rfl) ?_ ?_)) | ((first | refine TL.gsplit (by rfl) (by rfl) ?_ ?_ | refine TE.cond_split (by rfl) ?_ ?_) <;> intro h <;> (try simp only [NS] at h) <;> (try (exfalso; first | omega | exact h trivial | exact h | exact h rfl | contradiction)))))
      all_goals (refine TE.ret' (by first | exact .inl rfl | exact .inr rfl) rfl tysOk (()) ?_ rfl (by rfl) ?_; all_goals (try (first | exact trivial | ((with_reducible refine AllP.go ?_); dsimp only [AllP, appP]; repeat' (first | with_reducible rfl | with_reducible exact LeD.refl | refine And.intro ?_ ?_ | (refine congrArg (Value.int _) ?_; first | omega | rfl | (simp only [Int.toNat_natCast]; omega)) | rfl | (refine congrArg Value.bool ?_; assumption) | exact LeD.refl)))))
    | [b1], hz, hz2, hl =>
      have hr : unescI [a, b1] = (0, 0) := by unfold unescI; dsimp only; rw [hn]; dsimp only; split <;> rfl
      rw [hr]
      have hz : (sB [a, b1]).size = 2 := hz
      (repeat' (first | (with_reducible refine AllP.go ?_; (first | exact trivial | exact fun i _ => ⟨_, rfl⟩ | ((try simp only [OS]); repeat' (first | omega | exact fun i _ => ⟨_, rfl⟩ | refine And.intro ?_ ?_)))) | (refine TE.rgo tysOk rfl (by rfl) ?_ ?_) | (with_reducible first | refine t1 ?_ | refine t2 ?_ | refine t3 ?_ | refine t4 ?_ | refine t5 ?_ | refine t6 ?_ | refine t7 ?_ | refine t8 ?_ | refine t9 ?_ | refine tA ?_ | refine tB ?_ | refine tC ?_ | refine tD rfl ?_ | refine tE ?_ | refine tF ?_ | refine tG ?_ | refine tH ?_ | refine tI ?_ | refine tJ ?_ | refine tK ?_ | refine tL ?_) | (with_reducible first | exact PanicOk.body | exact rd.panic | refine PanicOk.then' ?_ | refine PanicOk.block ?_ | refine PanicOk.jump ?_) | (refine TE.drawC (by rfl) (by rfl) (by rfl) (by rfl) ?_) | (refine TE.drawN (by rfl) (by rfl) (by rfl) ?_) | (refine TL.done (by rfl) ?_) | (refine TL.auto tysOk rfl ?_ (by rfl) ?_ ?_) | ((refine TL.one (by rfl) ?_); first | (refine StepL.mem tysOk rfl rfl rfl rfl (by rfl) ?_ (by rfl) ?_) | (refine StepL.pure tysOk rfl rfl rfl rfl (by rfl) ?_ (by rfl) ?_)) | (refine StepL.mem tysOk rfl rfl rfl rfl (by rfl) ?_ (by rfl) ?_) | refine TE.cond_true (by rfl) ?_ | refine TE.cond_false (by rfl) ?_ | ((refine TE.gsplit (by rfl) (by rfl) ?_ ?_ <;> intro h <;> (try simp only [NS] at h) <;> (try (exfalso; first | omega | exact h trivial | exact h | exact h rfl | contradiction))) <;> (refine TE.run tysOk rfl (by rfl) ?_ ?_)) | ((first | refine TL.gsplit (by rfl) (by rfl) ?_ ?_ | refine TE.cond_split (by rfl) ?_ ?_) <;> intro h <;> (try simp only [NS] at h) <;> (try (exfalso; first | omega | exact h trivial | exact h | exact h rfl | contradiction)))))
      all_goals (refine TE.ret' (by first | exact .inl rfl | exact .inr rfl) rfl tysOk (()) ?_ rfl (by rfl) ?_; all_goals (try (first | exact trivial | ((with_reducible refine AllP.go ?_); dsimp only [AllP, appP]; repeat' (first | with_reducible rfl | with_reducible exact LeD.refl | refine And.intro ?_ ?_ | (refine congrArg (Value.int _) ?_; first | omega | rfl | (simp only [Int.toNat_natCast]; omega)) | rfl | (refine congrArg Value.bool ?_; assumption) | exact LeD.refl)))))
    | b1 :: b2 :: r, hz, hz2, hl =>
      have hz : (sB (a :: b1 :: b2 :: r)).size = r.length + 3 := hz
      (repeat' (first | (with_reducible refine AllP.go ?_; (first | exact trivial | exact fun i _ => ⟨_, rfl⟩ | ((try simp only [OS]); repeat' (first | omega | exact fun i _ => ⟨_, rfl⟩ | refine And.intro ?_ ?_)))) | (refine TE.rgo tysOk rfl (by rfl) ?_ ?_) | (with_reducible first | refine t1 ?_ | refine t2 ?_ | refine t3 ?_ | refine t4 ?_ | refine t5 ?_ | refine t6 ?_ | refine t7 ?_ | refine t8 ?_ | refine t9 ?_ | refine tA ?_ | refine tB ?_ | refine tC ?_ | refine tD rfl ?_ | refine tE ?_ | refine tF ?_ | refine tG ?_ | refine tH ?_ | refine tI ?_ | refine tJ ?_ | refine tK ?_ | refine tL ?_) | refine TE.cond_true (by rfl) ?_ | refine TE.cond_false (by rfl) ?_ | ((refine TE.gsplit (by rfl) (by rfl) ?_ ?_ <;> intro h <;> (try simp only [NS] at h) <;> (try (exfalso; first | omega | exact h trivial | exact h | exact h rfl | contradiction))) <;> (refine TE.run tysOk rfl (by rfl) ?_ ?_)) | ((first | refine TL.gsplit (by rfl) (by rfl) ?_ ?_ | refine TE.cond_split (by rfl) ?_ ?_) <;> intro h <;> (try simp only [NS] at h) <;> (try (exfalso; first | omega | exact h trivial | exact h | exact h rfl | contradiction)))))
      · have hr : unescI (a :: b1 :: b2 :: r) = (0, 0) := by
          unfold unescI; dsimp only; rw [hn]; dsimp only; rw [if_pos (show a.toNat ≠ 120 from fun e => h (congrArg Nat.cast e))]
        rw [hr]
        (refine TE.ret' (by first | exact .inl rfl | exact .inr rfl) rfl tysOk (()) ?_ rfl (by rfl) ?_; all_goals (try (first | exact trivial | ((with_reducible refine AllP.go ?_); dsimp only [AllP, appP]; repeat' (first | with_reducible rfl | with_reducible exact LeD.refl | refine And.intro ?_ ?_ | (refine congrArg (Value.int _) ?_; first | omega | rfl | (simp only [Int.toNat_natCast]; omega)) | rfl | (refine congrArg Value.bool ?_; assumption) | exact LeD.refl)))))
      · obtain rfl : a = 120 := UInt8.toNat_inj.1 (by rename_i hh; exact Int.ofNat.inj hh)
        obtain ⟨z1, hz1, hx1⟩ := ixh b1
        obtain ⟨z2, hz2, hx2⟩ := ixh b2
        have hb1 : -1 ≤ z1 ∧ z1 ≤ 15 := by rcases hx1 with ⟨_, e⟩ | ⟨x, e1, _, e2⟩ <;> omega
        have hb2 : -1 ≤ z2 ∧ z2 ≤ 15 := by rcases hx2 with ⟨_, e⟩ | ⟨x, e1, _, e2⟩ <;> omega
        ((refine TE.drawK (fun _ => false) (by rfl) (by rfl) (by rfl) ?_); (repeat' (first | (with_reducible refine AllP.go ?_; (first | exact trivial | exact fun i _ => ⟨_, rfl⟩ | ((try simp only [OS]); repeat' (first | omega | exact fun i _ => ⟨_, rfl⟩ | refine And.intro ?_ ?_)))) | (with_reducible first | exact PanicOk.body | exact rd.panic | refine PanicOk.then' ?_ | refine PanicOk.block ?_ | refine PanicOk.jump ?_) | (refine TL.done (by rfl) ?_) | (refine TL.auto tysOk rfl ?_ (by rfl) ?_ ?_) | (refine StepL.mem tysOk rfl rfl rfl rfl (by rfl) ?_ (by rfl) ?_) | (refine StepL.pure tysOk rfl rfl rfl rfl (by rfl) ?_ (by rfl) ?_) | (refine TL.one (by rfl) ?_) | (refine TL.two (by rfl) ?_ ?_) | (refine TL.three (by rfl) ?_ ?_ ?_) | (refine TL.four (by rfl) ?_ ?_ ?_ ?_))))
        refine StepL.callW (ixh_c b1 z1 hz1) rfl rfl rfl rfl rfl (by rfl) (by (first | exact trivial | ((with_reducible refine AllP.go ?_); dsimp only [AllP, appP]; repeat' (first | with_reducible rfl | with_reducible exact LeD.refl | refine And.intro ?_ ?_ | (refine congrArg (Value.int _) ?_; first | omega | rfl | (simp only [Int.toNat_natCast]; omega)) | rfl | (refine congrArg Value.bool ?_; assumption) | assumption | exact LeD.refl)))) (by rfl) (by rfl) ?_
        intro _ _
        (repeat' (first | (with_reducible refine AllP.go ?_; (first | exact trivial | exact fun i _ => ⟨_, rfl⟩ | ((try simp only [OS]); repeat' (first | omega | exact fun i _ => ⟨_, rfl⟩ | refine And.intro ?_ ?_)))) | (with_reducible first | exact PanicOk.body | exact rd.panic | refine PanicOk.then' ?_ | refine PanicOk.block ?_ | refine PanicOk.jump ?_) | (refine TL.done (by rfl) ?_) | (refine TL.auto tysOk rfl ?_ (by rfl) ?_ ?_) | (refine StepL.mem tysOk rfl rfl rfl rfl (by rfl) ?_ (by rfl) ?_) | (refine StepL.pure tysOk rfl rfl rfl rfl (by rfl) ?_ (by rfl) ?_) | (refine TL.one (by rfl) ?_) | (refine TL.two (by rfl) ?_ ?_) | (refine TL.three (by rfl) ?_ ?_ ?_) | (refine TL.four (by rfl) ?_ ?_ ?_ ?_)))
        refine StepL.callW (ixh_c b2 z2 hz2) rfl rfl rfl rfl rfl (by rfl) (by (first | exact trivial | ((with_reducible refine AllP.go ?_); dsimp only [AllP, appP]; repeat' (first | with_reducible rfl | with_reducible exact LeD.refl | refine And.intro ?_ ?_ | (refine congrArg (Value.int _) ?_; first | omega | rfl | (simp only [Int.toNat_natCast]; omega)) | rfl | (refine congrArg Value.bool ?_; assumption) | assumption | exact LeD.refl)))) (by rfl) (by rfl) ?_
        intro _ _
        (repeat' (first | (with_reducible refine AllP.go ?_; (first | exact trivial | exact fun i _ => ⟨_, rfl⟩ | ((try simp only [OS]); repeat' (first | omega | exact fun i _ => ⟨_, rfl⟩ | refine And.intro ?_ ?_)))) | (with_reducible first | exact PanicOk.body | exact rd.panic | refine PanicOk.then' ?_ | refine PanicOk.block ?_ | refine PanicOk.jump ?_) | (refine TL.done (by rfl) ?_) | (refine TL.auto tysOk rfl ?_ (by rfl) ?_ ?_) | (refine StepL.mem tysOk rfl rfl rfl rfl (by rfl) ?_ (by rfl) ?_) | (refine StepL.pure tysOk rfl rfl rfl rfl (by rfl) ?_ (by rfl) ?_) | (refine TL.one (by rfl) ?_) | (refine TL.two (by rfl) ?_ ?_) | (refine TL.three (by rfl) ?_ ?_ ?_) | (refine TL.four (by rfl) ?_ ?_ ?_ ?_)))
        have hr : unescI (120 :: b1 :: b2 :: r) = match idxH b1, idxH b2 with | some x, some y => (if plainC (UInt8.ofNat (16 * x + y)) = true ∨ ltrI (UInt8.ofNat (16 * x + y)) ≠ 0 then (0, 0) else (UInt8.ofNat (16 * x + y), 3)) | _, _ => (0, 0) := unesc_x ..
        (repeat' (first | (with_reducible refine AllP.go ?_; (first | exact trivial | exact fun i _ => ⟨_, rfl⟩ | ((try simp only [OS]); repeat' (first | omega | exact fun i _ => ⟨_, rfl⟩ | refine And.intro ?_ ?_)))) | (refine TE.rgo tysOk rfl (by rfl) ?_ ?_) | (with_reducible first | refine t1 ?_ | refine t2 ?_ | refine t3 ?_ | refine t4 ?_ | refine t5 ?_ | refine t6 ?_ | refine t7 ?_ | refine t8 ?_ | refine t9 ?_ | refine tA ?_ | refine tB ?_ | refine tC ?_ | refine tD rfl ?_ | refine tE ?_ | refine tF ?_ | refine tG ?_ | refine tH ?_ | refine tI ?_ | refine tJ ?_ | refine tK ?_ | refine tL ?_) | refine TE.cond_true (by rfl) ?_ | refine TE.cond_false (by rfl) ?_ | ((refine TE.gsplit (by rfl) (by rfl) ?_ ?_ <;> intro h <;> (try simp only [NS] at h) <;> (try (exfalso; first | omega | exact h trivial | exact h | exact h rfl | contradiction))) <;> (refine TE.run tysOk rfl (by rfl) ?_ ?_)) | ((first | refine TL.gsplit (by rfl) (by rfl) ?_ ?_ | refine TE.cond_split (by rfl) ?_ ?_) <;> intro h <;> (try simp only [NS] at h) <;> (try (exfalso; first | omega | exact h trivial | exact h | exact h rfl | contradiction)))))
        · rw [show unescI (120 :: b1 :: b2 :: r) = (0, 0) by rw [hr, (hx1.resolve_right fun ⟨x, k1, _, k2⟩ => by omega).1]]
          (refine TE.ret' (by first | exact .inl rfl | exact .inr rfl) rfl tysOk (()) ?_ rfl (by rfl) ?_; all_goals (try (first | exact trivial | ((with_reducible refine AllP.go ?_); dsimp only [AllP, appP]; repeat' (first | with_reducible rfl | with_reducible exact LeD.refl | refine And.intro ?_ ?_ | (refine congrArg (Value.int _) ?_; first | omega | rfl | (simp only [Int.toNat_natCast]; omega)) | rfl | (refine congrArg Value.bool ?_; assumption) | exact LeD.refl)))))
        · obtain ⟨x, k1, k2, k3⟩ := hx1.resolve_left (fun k => by omega)
          rw [show unescI (120 :: b1 :: b2 :: r) = (0, 0) by rw [hr, (hx2.resolve_right fun ⟨x, k1, _, k2⟩ => by omega).1, k2]]
          (refine TE.ret' (by first | exact .inl rfl | exact .inr rfl) rfl tysOk (()) ?_ rfl (by rfl) ?_; all_goals (try (first | exact trivial | ((with_reducible refine AllP.go ?_); dsimp only [AllP, appP]; repeat' (first | with_reducible rfl | with_reducible exact LeD.refl | refine And.intro ?_ ?_ | (refine congrArg (Value.int _) ?_; first | omega | rfl | (simp only [Int.toNat_natCast]; omega)) | rfl | (refine congrArg Value.bool ?_; assumption) | exact LeD.refl)))))
        · obtain ⟨x, k1, k2, rfl⟩ := hx1.resolve_left (fun k => by omega)
          obtain ⟨y, k4, k5, rfl⟩ := hx2.resolve_left (fun k => by omega)
          rw [k2, k5] at hr
          dsimp only at hr
          (refine TE.step rfl rfl rfl (fun _ h => nomatch h) (m_shlI rfl rfl rfl (by decide) ?_) ?_; rotate_left; rintro _ rfl; rotate_right)
          · show -9223372036854775808 ≤ (x : Int) * 16 ∧ (x : Int) * 16 ≤ 9223372036854775807
            omega
          (refine TE.step rfl rfl rfl (fun _ h => nomatch h) (m_pure tysOk rfl ?_) ?_; rotate_left; rintro _ rfl; rotate_right; (with_reducible refine AllP.go ?_; (first | exact trivial | exact fun i _ => ⟨_, rfl⟩ | ((try simp only [OS]); repeat' (first | omega | exact fun i _ => ⟨_, rfl⟩ | refine And.intro ?_ ?_)))))
          (refine TE.step rfl rfl rfl (fun _ h => nomatch h) (m_orI rfl rfl rfl ?_ ?_) ?_; rotate_left 2; rintro _ rfl; rotate_right 2)
          · show 0 ≤ (x : Int) * 16 ∧ (x : Int) * 16 < 9223372036854775808
            omega
          · omega
          ((refine TE.run tysOk rfl (by rfl) ?_ ?_); try (with_reducible refine AllP.go ?_; (first | exact trivial | exact fun i _ => ⟨_, rfl⟩ | ((try simp only [OS]); repeat' (first | omega | exact fun i _ => ⟨_, rfl⟩ | refine And.intro ?_ ?_)))))
          (repeat (with_reducible first | refine t1 ?_ | refine t2 ?_ | refine t3 ?_ | refine t4 ?_ | refine t5 ?_ | refine t6 ?_ | refine t7 ?_ | refine t8 ?_ | refine t9 ?_ | refine tA ?_ | refine tB ?_ | refine tC ?_ | refine tD rfl ?_ | refine tE ?_ | refine tF ?_ | refine tG ?_ | refine tH ?_ | refine tI ?_ | refine tJ ?_ | refine tK ?_ | refine tL ?_))
          rw [orv k1 k4]
          generalize UInt8.ofNat (16 * x + y) = c0 at *
          (repeat' (first | (with_reducible refine AllP.go ?_; (first | exact trivial | exact fun i _ => ⟨_, rfl⟩ | ((try simp only [OS]); repeat' (first | omega | exact fun i _ => ⟨_, rfl⟩ | refine And.intro ?_ ?_)))) | (refine TE.rgo tysOk rfl (by rfl) ?_ ?_) | (with_reducible first | refine t1 ?_ | refine t2 ?_ | refine t3 ?_ | refine t4 ?_ | refine t5 ?_ | refine t6 ?_ | refine t7 ?_ | refine t8 ?_ | refine t9 ?_ | refine tA ?_ | refine tB ?_ | refine tC ?_ | refine tD rfl ?_ | refine tE ?_ | refine tF ?_ | refine tG ?_ | refine tH ?_ | refine tI ?_ | refine tJ ?_ | refine tK ?_ | refine tL ?_) | refine TE.cond_true (by rfl) ?_ | refine TE.cond_false (by rfl) ?_ | ((refine TE.gsplit (by rfl) (by rfl) ?_ ?_ <;> intro h <;> (try simp only [NS] at h) <;> (try (exfalso; first | omega | exact h trivial | exact h | exact h rfl | contradiction))) <;> (refine TE.run tysOk rfl (by rfl) ?_ ?_)) | ((first | refine TL.gsplit (by rfl) (by rfl) ?_ ?_ | refine TE.cond_split (by rfl) ?_ ?_) <;> intro h <;> (try simp only [NS] at h) <;> (try (exfalso; first | omega | exact h trivial | exact h | exact h rfl | contradiction)))))
          refine TE.callW (plain_c c0) rfl (by rfl) (by rfl) rfl (by rfl) (by (first | exact trivial | ((with_reducible refine AllP.go ?_); dsimp only [AllP, appP]; repeat' (first | with_reducible rfl | with_reducible exact LeD.refl | refine And.intro ?_ ?_ | (refine congrArg (Value.int _) ?_; first | omega | rfl | (simp only [Int.toNat_natCast]; omega)) | rfl | (refine congrArg Value.bool ?_; assumption) | assumption | exact LeD.refl)))) ?_
          intro _ _
          ((refine TE.run tysOk rfl (by rfl) ?_ ?_); (repeat' (first | (with_reducible refine AllP.go ?_; (first | exact trivial | exact fun i _ => ⟨_, rfl⟩ | ((try simp only [OS]); repeat' (first | omega | exact fun i _ => ⟨_, rfl⟩ | refine And.intro ?_ ?_)))) | (refine TE.rgo tysOk rfl (by rfl) ?_ ?_) | (with_reducible first | refine t1 ?_ | refine t2 ?_ | refine t3 ?_ | refine t4 ?_ | refine t5 ?_ | refine t6 ?_ | refine t7 ?_ | refine t8 ?_ | refine t9 ?_ | refine tA ?_ | refine tB ?_ | refine tC ?_ | refine tD rfl ?_ | refine tE ?_ | refine tF ?_ | refine tG ?_ | refine tH ?_ | refine tI ?_ | refine tJ ?_ | refine tK ?_ | refine tL ?_) | refine TE.cond_true (by rfl) ?_ | refine TE.cond_false (by rfl) ?_ | ((refine TE.gsplit (by rfl) (by rfl) ?_ ?_ <;> intro h <;> (try simp only [NS] at h) <;> (try (exfalso; first | omega | exact h trivial | exact h | exact h rfl | contradiction))) <;> (refine TE.run tysOk rfl (by rfl) ?_ ?_)) | ((first | refine TL.gsplit (by rfl) (by rfl) ?_ ?_ | refine TE.cond_split (by rfl) ?_ ?_) <;> intro h <;> (try simp only [NS] at h) <;> (try (exfalso; first | omega | exact h trivial | exact h | exact h rfl | contradiction))))))
          · rw [show unescI (120 :: b1 :: b2 :: r) = (0, 0) by rw [hr, if_pos (.inl (decide_eq_true (by assumption)))]]
            (refine TE.ret' (by first | exact .inl rfl | exact .inr rfl) rfl tysOk (()) ?_ rfl (by rfl) ?_; all_goals (try (first | exact trivial | ((with_reducible refine AllP.go ?_); dsimp only [AllP, appP]; repeat' (first | with_reducible rfl | with_reducible exact LeD.refl | refine And.intro ?_ ?_ | (refine congrArg (Value.int _) ?_; first | omega | rfl | (simp only [Int.toNat_natCast]; omega)) | rfl | (refine congrArg Value.bool ?_; assumption) | exact LeD.refl)))))
          · refine TE.callW (ltr_c m te pe c0) rfl (by rfl) (by rfl) rfl (by rfl) (by (first | exact trivial | ((with_reducible refine AllP.go ?_); dsimp only [AllP, appP]; repeat' (first | with_reducible rfl | with_reducible exact LeD.refl | refine And.intro ?_ ?_ | (refine congrArg (Value.int _) ?_; first | omega | rfl | (simp only [Int.toNat_natCast]; omega)) | rfl | (refine congrArg Value.bool ?_; assumption) | assumption | exact LeD.refl)))) ?_
            intro _ _
            ((refine TE.run tysOk rfl (by rfl) ?_ ?_); (repeat' (first | (with_reducible refine AllP.go ?_; (first | exact trivial | exact fun i _ => ⟨_, rfl⟩ | ((try simp only [OS]); repeat' (first | omega | exact fun i _ => ⟨_, rfl⟩ | refine And.intro ?_ ?_)))) | (refine TE.rgo tysOk rfl (by rfl) ?_ ?_) | (with_reducible first | refine t1 ?_ | refine t2 ?_ | refine t3 ?_ | refine t4 ?_ | refine t5 ?_ | refine t6 ?_ | refine t7 ?_ | refine t8 ?_ | refine t9 ?_ | refine tA ?_ | refine tB ?_ | refine tC ?_ | refine tD rfl ?_ | refine tE ?_ | refine tF ?_ | refine tG ?_ | refine tH ?_ | refine tI ?_ | refine tJ ?_ | refine tK ?_ | refine tL ?_) | refine TE.cond_true (by rfl) ?_ | refine TE.cond_false (by rfl) ?_ | ((refine TE.gsplit (by rfl) (by rfl) ?_ ?_ <;> intro h <;> (try simp only [NS] at h) <;> (try (exfalso; first | omega | exact h trivial | exact h | exact h rfl | contradiction))) <;> (refine TE.run tysOk rfl (by rfl) ?_ ?_)) | ((first | refine TL.gsplit (by rfl) (by rfl) ?_ ?_ | refine TE.cond_split (by rfl) ?_ ?_) <;> intro h <;> (try simp only [NS] at h) <;> (try (exfalso; first | omega | exact h trivial | exact h | exact h rfl | contradiction))))))
            · rw [show unescI (120 :: b1 :: b2 :: r) = (0, 0) by rw [hr, if_pos (.inr (fun e => by rw [e] at h; exact h rfl))]]
              (refine TE.ret' (by first | exact .inl rfl | exact .inr rfl) rfl tysOk (()) ?_ rfl (by rfl) ?_; all_goals (try (first | exact trivial | ((with_reducible refine AllP.go ?_); dsimp only [AllP, appP]; repeat' (first | with_reducible rfl | with_reducible exact LeD.refl | refine And.intro ?_ ?_ | (refine congrArg (Value.int _) ?_; first | omega | rfl | (simp only [Int.toNat_natCast]; omega)) | rfl | (refine congrArg Value.bool ?_; assumption) | exact LeD.refl)))))
            · rw [show unescI (120 :: b1 :: b2 :: r) = (c0, 3) by rw [hr, if_neg (fun e => e.elim (fun e => by have := of_decide_eq_true e; contradiction) (fun e => e (UInt8.toNat_inj.1 (Int.ofNat.inj h))))]]
              (refine TE.ret' (by first | exact .inl rfl | exact .inr rfl) rfl tysOk (()) ?_ rfl (by rfl) ?_; all_goals (try (first | exact trivial | ((with_reducible refine AllP.go ?_); dsimp only [AllP, appP]; repeat' (first | with_reducible rfl | with_reducible exact LeD.refl | refine And.intro ?_ ?_ | (refine congrArg (Value.int _) ?_; first | omega | rfl | (simp only [Int.toNat_natCast]; omega)) | rfl | (refine congrArg Value.bool ?_; assumption) | exact LeD.refl)))))
end Go.Proofs.YtmeapfckibbbbaaGreatDoor.Am
/- The words: what stands between quotes read, the program's. -/
set_option linter.unusedVariables false
namespace Go.Proofs.YtmeapfckibbbbaaGreatDoor.Am
open Go.RowKit Lw Wo
theorem unesc_3 (s : Bs) : (unescI s).2 ≤ 3 := by
  unfold unescI
  repeat' split
  all_goals simp
set_option maxRecDepth 20000 in
set_option maxHeartbeats 4000000 in
theorem unq_c (m : Int) (te : TypeId) (pe : Value) (l : Bs) (hl : l.length ≤ 1000000) : Con Tryz.prog 39 [.o (.c (.string (sB l)))] (glC m te pe) 4 4 U (fun _ => .t [.inl (.c (.string (sB (unqI l).1))), .inl (.c (.int .i64 ((unqI l).2 : Nat)))]) (fun _ => glC m te pe) := by
  refine con_of Tryz.func39 rfl (by kernel_rfl) Tryz.ntmps39 rfl (by first | exact Nat.zero_le _ | decide) (fun _ => ⟨rfl, rfl⟩) fun w S ν => ?_
  have hz : (sB l).size = l.length := sB_size _
  (repeat' (first | (with_reducible refine AllP.go ?_; (first | exact trivial | exact fun i _ => ⟨_, rfl⟩ | ((try simp only [OS]); repeat' (first | omega | exact fun i _ => ⟨_, rfl⟩ | refine And.intro ?_ ?_)))) | (refine TE.rgo tysOk rfl (by rfl) ?_ ?_) | (with_reducible first | refine t1 ?_ | refine t2 ?_ | refine t3 ?_ | refine t4 ?_ | refine t5 ?_ | refine t6 ?_ | refine t7 ?_ | refine t8 ?_ | refine t9 ?_ | refine tA ?_ | refine tB ?_ | refine tC ?_ | refine tD rfl ?_ | refine tE ?_ | refine tF ?_ | refine tG ?_ | refine tH ?_ | refine tI ?_ | refine tJ ?_ | refine tK ?_ | refine tL ?_) | refine TE.cond_true (by rfl) ?_ | refine TE.cond_false (by rfl) ?_ | ((refine TE.gsplit (by rfl) (by rfl) ?_ ?_ <;> intro h <;> (try simp only [NS] at h) <;> (try (exfalso; first | omega | exact h trivial | exact h | exact h rfl | contradiction))) <;> (refine TE.run tysOk rfl (by rfl) ?_ ?_)) | ((first | refine TL.gsplit (by rfl) (by rfl) ?_ ?_ | refine TE.cond_split (by rfl) ?_ ?_) <;> intro h <;> (try simp only [NS] at h) <;> (try (exfalso; first | omega | exact h trivial | exact h | exact h rfl | contradiction)))))
  · have : l = [] := List.length_eq_zero_iff.1 (by omega)
    subst this
    (refine TE.ret' (by first | exact .inl rfl | exact .inr rfl) rfl tysOk (()) ?_ rfl (by rfl) ?_; all_goals (try (first | exact trivial | ((with_reducible refine AllP.go ?_); dsimp only [AllP, appP]; repeat' (first | with_reducible rfl | with_reducible exact LeD.refl | refine And.intro ?_ ?_ | (refine congrArg (Value.int _) ?_; first | omega | rfl | (simp only [Int.toNat_natCast]; omega)) | rfl | (refine congrArg Value.bool ?_; assumption) | exact LeD.refl)))))
  · rw [show unqI l = ([], 0) by
      match l with
      | [] => rfl
      | a :: r => exact if_neg (fun e => h (congrArg Nat.cast e))]
    (refine TE.ret' (by first | exact .inl rfl | exact .inr rfl) rfl tysOk (()) ?_ rfl (by rfl) ?_; all_goals (try (first | exact trivial | ((with_reducible refine AllP.go ?_); dsimp only [AllP, appP]; repeat' (first | with_reducible rfl | with_reducible exact LeD.refl | refine And.intro ?_ ?_ | (refine congrArg (Value.int _) ?_; first | omega | rfl | (simp only [Int.toNat_natCast]; omega)) | rfl | (refine congrArg Value.bool ?_; assumption) | exact LeD.refl)))))
  have h1 : unqI l = finQ [] 1 (unqG (l.drop 1)) := by
    match l with
    | [] => exact absurd rfl (by assumption)
    | a :: r => exact if_pos (Int.ofNat.inj h)
  refine TE.nilOwn 4 5 1 (by rfl) ?_
  (refine TE.only [5, 4, 3, 2, 0] (by rfl) ?_)
  refine TE.loopG (fun p : Nat × Bs => 1 ≤ p.1 ∧ p.1 ≤ l.length ∧ p.2.length ≤ p.1 ∧ finQ p.2 p.1 (unqG (l.drop p.1)) = unqI l) (fun p => [(5, .o (.c (.int .i64 p.1))), (4, .o (.own 4))]) [4] (fun p => [.own 4 5 1 (bytesC p.2)]) (fun p => l.length - p.1) (1, []) (by rfl) ⟨Nat.le_refl _, by omega, Nat.zero_le _, h1.symm⟩ ?_ ?_
  · (refine Ent.of rfl rfl (by rfl) ?_; (try (first | exact trivial | ((with_reducible refine AllP.go ?_); dsimp only [AllP, appP]; repeat' (first | with_reducible rfl | with_reducible exact LeD.refl | refine And.intro ?_ ?_ | (refine congrArg (Value.int _) ?_; first | omega | rfl | (simp only [Int.toNat_natCast]; omega)) | rfl | (refine congrArg Value.bool ?_; assumption) | exact LeD.refl)))))
    exact LeDC.nil rfl rfl
  rintro ⟨i, out⟩ ⟨g1, g2, g3, g4⟩
  dsimp only at g1 g2 g3 g4
  have hu3 := unesc_3 (l.drop (i + 1))
  have hle := dec_le (l.drop i)
  rw [List.length_drop] at hle
  have hx : Value.string ((sB l).extract ((i : Int) + 1).toNat ((sB l).size : Int).toNat) = Value.string (sB (l.drop (i + 1))) := by
    rw [sB_ext, List.take_of_length_le (by rw [List.length_drop, hz]; omega)]
    rfl
  (repeat' (first | (with_reducible refine AllP.go ?_; (first | exact trivial | exact fun i _ => ⟨_, rfl⟩ | ((try simp only [OS]); repeat' (first | omega | exact fun i _ => ⟨_, rfl⟩ | refine And.intro ?_ ?_)))) | (refine TE.rgo tysOk rfl (by rfl) ?_ ?_) | (with_reducible first | refine t1 ?_ | refine t2 ?_ | refine t3 ?_ | refine t4 ?_ | refine t5 ?_ | refine t6 ?_ | refine t7 ?_ | refine t8 ?_ | refine t9 ?_ | refine tA ?_ | refine tB ?_ | refine tC ?_ | refine tD rfl ?_ | refine tE ?_ | refine tF ?_ | refine tG ?_ | refine tH ?_ | refine tI ?_ | refine tJ ?_ | refine tK ?_ | refine tL ?_) | refine TE.cond_true (by rfl) ?_ | refine TE.cond_false (by rfl) ?_ | ((refine TE.gsplit (by rfl) (by rfl) ?_ ?_ <;> intro h <;> (try simp only [NS] at h) <;> (try (exfalso; first | omega | exact h trivial | exact h | exact h rfl | contradiction))) <;> (refine TE.run tysOk rfl (by rfl) ?_ ?_)) | ((first | refine TL.gsplit (by rfl) (by rfl) ?_ ?_ | refine TE.cond_split (by rfl) ?_ ?_) <;> intro h <;> (try simp only [NS] at h) <;> (try (exfalso; first | omega | exact h trivial | exact h | exact h rfl | contradiction)))))
  · have g5 : unqI l = (out, i + 1) := by
      rw [← g4, unqG_q (by omega) (by omega)]
      show (out ++ [], i + 1) = _
      rw [List.append_nil]
    rw [g5]
    (refine TE.ret' (by first | exact .inl rfl | exact .inr rfl) rfl tysOk (()) ?_ rfl (by rfl) ?_; all_goals (try (first | exact trivial | ((with_reducible refine AllP.go ?_); dsimp only [AllP, appP]; repeat' (first | with_reducible rfl | with_reducible exact LeD.refl | refine And.intro ?_ ?_ | (refine congrArg (Value.int _) ?_; first | omega | rfl | (simp only [Int.toNat_natCast]; omega)) | rfl | (refine congrArg Value.bool ?_; assumption) | exact LeD.refl)))))
    exact congrArg Value.string (cb_str out)
  · have hdr : decI1 (l.drop i) = if (unescI (l.drop (i + 1))).2 = 0 then (0, 0) else ((unescI (l.drop (i + 1))).1, (unescI (l.drop (i + 1))).2 + 1) := by
      rw [drop_at (by omega), show l.getD i 0 = 92 from UInt8.toNat_inj.1 (by show _ = 92; omega)]
      exact dec_bs _
    refine TE.callW (unesc_c m te pe (l.drop (i + 1)) (by rw [List.length_drop]; omega)) rfl (by rfl) (by rfl) rfl (by rfl) (by (first | exact trivial | ((with_reducible refine AllP.go ?_); dsimp only [AllP, appP]; repeat' (first | with_reducible rfl | with_reducible exact LeD.refl | refine And.intro ?_ ?_ | (refine congrArg (Value.int _) ?_; first | omega | rfl | (simp only [Int.toNat_natCast]; omega)) | rfl | (refine congrArg Value.bool ?_; assumption) | assumption | exact LeD.refl)))) ?_
    intro _ _
    ((refine TE.run tysOk rfl (by rfl) ?_ ?_); (repeat' (first | (with_reducible refine AllP.go ?_; (first | exact trivial | exact fun i _ => ⟨_, rfl⟩ | ((try simp only [OS]); repeat' (first | omega | exact fun i _ => ⟨_, rfl⟩ | refine And.intro ?_ ?_)))) | (refine TE.rgo tysOk rfl (by rfl) ?_ ?_) | (with_reducible first | refine t1 ?_ | refine t2 ?_ | refine t3 ?_ | refine t4 ?_ | refine t5 ?_ | refine t6 ?_ | refine t7 ?_ | refine t8 ?_ | refine t9 ?_ | refine tA ?_ | refine tB ?_ | refine tC ?_ | refine tD rfl ?_ | refine tE ?_ | refine tF ?_ | refine tG ?_ | refine tH ?_ | refine tI ?_ | refine tJ ?_ | refine tK ?_ | refine tL ?_) | refine TE.cond_true (by rfl) ?_ | refine TE.cond_false (by rfl) ?_ | ((refine TE.gsplit (by rfl) (by rfl) ?_ ?_ <;> intro h <;> (try simp only [NS] at h) <;> (try (exfalso; first | omega | exact h trivial | exact h | exact h rfl | contradiction))) <;> (refine TE.run tysOk rfl (by rfl) ?_ ?_)) | ((first | refine TL.gsplit (by rfl) (by rfl) ?_ ?_ | refine TE.cond_split (by rfl) ?_ ?_) <;> intro h <;> (try simp only [NS] at h) <;> (try (exfalso; first | omega | exact h trivial | exact h | exact h rfl | contradiction))))))
    · have g5 : unqI l = ([], 0) := by
        rw [← g4, unqG_no (by omega) (by omega) (by rw [hdr, if_pos (by omega)])]
        rfl
      rw [g5]
      (refine TE.ret' (by first | exact .inl rfl | exact .inr rfl) rfl tysOk (()) ?_ rfl (by rfl) ?_; all_goals (try (first | exact trivial | ((with_reducible refine AllP.go ?_); dsimp only [AllP, appP]; repeat' (first | with_reducible rfl | with_reducible exact LeD.refl | refine And.intro ?_ ?_ | (refine congrArg (Value.int _) ?_; first | omega | rfl | (simp only [Int.toNat_natCast]; omega)) | rfl | (refine congrArg Value.bool ?_; assumption) | exact LeD.refl)))))
    · rw [if_neg (by omega)] at hdr
      rw [hdr] at hle
      dsimp only at hle
      refine TE.again' (i + ((unescI (l.drop (i + 1))).2 + 1), out ++ [(unescI (l.drop (i + 1))).1]) ⟨by dsimp only; omega, by dsimp only; omega, by simp; omega, ?_⟩ (by dsimp only; omega) ?_
      · rw [← g4, unqG_yes (by omega) (by omega) (by rw [hdr]; exact Nat.succ_ne_zero _) out, hdr]
      · (refine Ent.of rfl rfl (by rfl) ?_; (try (first | exact trivial | ((with_reducible refine AllP.go ?_); dsimp only [AllP, appP]; repeat' (first | with_reducible rfl | with_reducible exact LeD.refl | refine And.intro ?_ ?_ | (refine congrArg (Value.int _) ?_; first | omega | rfl | (simp only [Int.toNat_natCast]; omega)) | rfl | (refine congrArg Value.bool ?_; assumption) | exact LeD.refl)))))
        exact bytes_app (LeDC.refl _ _) (byte_lit rfl) rfl
  · have hdr : decI1 (l.drop i) = if plainC (l.getD i 0) = true then (l.getD i 0, 1) else (0, 0) := by
      rw [drop_at (by omega)]
      exact if_neg (by omega)
    refine TE.callW (plain_c (l.getD i 0)) rfl (by rfl) (by rfl) rfl (by rfl) (by (first | exact trivial | ((with_reducible refine AllP.go ?_); dsimp only [AllP, appP]; repeat' (first | with_reducible rfl | with_reducible exact LeD.refl | refine And.intro ?_ ?_ | (refine congrArg (Value.int _) ?_; first | omega | rfl | (simp only [Int.toNat_natCast]; omega)) | rfl | (refine congrArg Value.bool ?_; assumption) | assumption | exact LeD.refl)))) ?_
    intro _ _
    ((refine TE.run tysOk rfl (by rfl) ?_ ?_); (repeat' (first | (with_reducible refine AllP.go ?_; (first | exact trivial | exact fun i _ => ⟨_, rfl⟩ | ((try simp only [OS]); repeat' (first | omega | exact fun i _ => ⟨_, rfl⟩ | refine And.intro ?_ ?_)))) | (refine TE.rgo tysOk rfl (by rfl) ?_ ?_) | (with_reducible first | refine t1 ?_ | refine t2 ?_ | refine t3 ?_ | refine t4 ?_ | refine t5 ?_ | refine t6 ?_ | refine t7 ?_ | refine t8 ?_ | refine t9 ?_ | refine tA ?_ | refine tB ?_ | refine tC ?_ | refine tD rfl ?_ | refine tE ?_ | refine tF ?_ | refine tG ?_ | refine tH ?_ | refine tI ?_ | refine tJ ?_ | refine tK ?_ | refine tL ?_) | refine TE.cond_true (by rfl) ?_ | refine TE.cond_false (by rfl) ?_ | ((refine TE.gsplit (by rfl) (by rfl) ?_ ?_ <;> intro h <;> (try simp only [NS] at h) <;> (try (exfalso; first | omega | exact h trivial | exact h | exact h rfl | contradiction))) <;> (refine TE.run tysOk rfl (by rfl) ?_ ?_)) | ((first | refine TL.gsplit (by rfl) (by rfl) ?_ ?_ | refine TE.cond_split (by rfl) ?_ ?_) <;> intro h <;> (try simp only [NS] at h) <;> (try (exfalso; first | omega | exact h trivial | exact h | exact h rfl | contradiction))))))
    · rw [if_pos (decide_eq_true (by assumption))] at hdr
      refine TE.again' (i + 1, out ++ [l.getD i 0]) ⟨by dsimp only; omega, by dsimp only; omega, by simp; omega, ?_⟩ (by dsimp only; omega) ?_
      · rw [← g4, unqG_yes (by omega) (by omega) (by rw [hdr]; exact Nat.succ_ne_zero _) out, hdr]
      · (refine Ent.of rfl rfl (by rfl) ?_; (try (first | exact trivial | ((with_reducible refine AllP.go ?_); dsimp only [AllP, appP]; repeat' (first | with_reducible rfl | with_reducible exact LeD.refl | refine And.intro ?_ ?_ | (refine congrArg (Value.int _) ?_; first | omega | rfl | (simp only [Int.toNat_natCast]; omega)) | rfl | (refine congrArg Value.bool ?_; assumption) | exact LeD.refl)))))
        exact bytes_app (LeDC.refl _ _) (byte_lit rfl) rfl
    · rw [if_neg (fun e => by have := of_decide_eq_true e; contradiction)] at hdr
      have g5 : unqI l = ([], 0) := by
        rw [← g4, unqG_no (by omega) (by omega) (by rw [hdr])]
        rfl
      rw [g5]
      (refine TE.ret' (by first | exact .inl rfl | exact .inr rfl) rfl tysOk (()) ?_ rfl (by rfl) ?_; all_goals (try (first | exact trivial | ((with_reducible refine AllP.go ?_); dsimp only [AllP, appP]; repeat' (first | with_reducible rfl | with_reducible exact LeD.refl | refine And.intro ?_ ?_ | (refine congrArg (Value.int _) ?_; first | omega | rfl | (simp only [Int.toNat_natCast]; omega)) | rfl | (refine congrArg Value.bool ?_; assumption) | exact LeD.refl)))))
  · obtain rfl : i = l.length := by omega
    have g5 : unqI l = ([], 0) := by
      rw [← g4, List.drop_length, unqG_nil]
      rfl
    rw [g5]
    (refine TE.ret' (by first | exact .inl rfl | exact .inr rfl) rfl tysOk (()) ?_ rfl (by rfl) ?_; all_goals (try (first | exact trivial | ((with_reducible refine AllP.go ?_); dsimp only [AllP, appP]; repeat' (first | with_reducible rfl | with_reducible exact LeD.refl | refine And.intro ?_ ?_ | (refine congrArg (Value.int _) ?_; first | omega | rfl | (simp only [Int.toNat_natCast]; omega)) | rfl | (refine congrArg Value.bool ?_; assumption) | exact LeD.refl)))))
end Go.Proofs.YtmeapfckibbbbaaGreatDoor.Am
/- The words: Unquote, the program's. -/
set_option linter.unusedVariables false
namespace Go.Proofs.YtmeapfckibbbbaaGreatDoor.Wo
/-- A whole quoted word, or the fault 6. -/
def unquoteI (l : Bs) : Bs × Int := if (unqI l).2 = 0 ∨ (unqI l).2 < l.length then ([], 6) else ((unqI l).1, 0)
end Go.Proofs.YtmeapfckibbbbaaGreatDoor.Wo
namespace Go.Proofs.YtmeapfckibbbbaaGreatDoor.Am
open Go.RowKit Lw Wo
set_option maxRecDepth 20000 in
theorem Unquote_c (m : Int) (te : TypeId) (pe : Value) (l : Bs) (hl : l.length ≤ 1000000) : Con Tryz.prog 13 [.o (.c (.string (sB l)))] (glC m te pe) 4 4 U (fun _ => .t [.inl (.c (.string (sB (unquoteI l).1))), .inl (.c (.int .i64 (unquoteI l).2))]) (fun _ => glC m te pe) := by
  refine con_of Tryz.func13 rfl (by kernel_rfl) Tryz.ntmps13 rfl (by first | exact Nat.zero_le _ | decide) (fun _ => ⟨rfl, rfl⟩) fun w S ν => ?_
  have hz : (sB l).size = l.length := sB_size _
  (repeat' (first | (with_reducible refine AllP.go ?_; (first | exact trivial | exact fun i _ => ⟨_, rfl⟩ | ((try simp only [OS]); repeat' (first | omega | exact fun i _ => ⟨_, rfl⟩ | refine And.intro ?_ ?_)))) | (refine TE.rgo tysOk rfl (by rfl) ?_ ?_) | (with_reducible first | refine t1 ?_ | refine t2 ?_ | refine t3 ?_ | refine t4 ?_ | refine t5 ?_ | refine t6 ?_ | refine t7 ?_ | refine t8 ?_ | refine t9 ?_ | refine tA ?_ | refine tB ?_ | refine tC ?_ | refine tD rfl ?_ | refine tE ?_ | refine tF ?_ | refine tG ?_ | refine tH ?_ | refine tI ?_ | refine tJ ?_ | refine tK ?_ | refine tL ?_) | refine TE.cond_true (by rfl) ?_ | refine TE.cond_false (by rfl) ?_ | ((refine TE.gsplit (by rfl) (by rfl) ?_ ?_ <;> intro h <;> (try simp only [NS] at h) <;> (try (exfalso; first | omega | exact h trivial | exact h | exact h rfl | contradiction))) <;> (refine TE.run tysOk rfl (by rfl) ?_ ?_)) | ((first | refine TL.gsplit (by rfl) (by rfl) ?_ ?_ | refine TE.cond_split (by rfl) ?_ ?_) <;> intro h <;> (try simp only [NS] at h) <;> (try (exfalso; first | omega | exact h trivial | exact h | exact h rfl | contradiction)))))
  refine TE.callW (unq_c m te pe l hl) rfl (by rfl) (by rfl) rfl (by rfl) (by (first | exact trivial | ((with_reducible refine AllP.go ?_); dsimp only [AllP, appP]; repeat' (first | with_reducible rfl | with_reducible exact LeD.refl | refine And.intro ?_ ?_ | (refine congrArg (Value.int _) ?_; first | omega | rfl | (simp only [Int.toNat_natCast]; omega)) | rfl | (refine congrArg Value.bool ?_; assumption) | assumption | exact LeD.refl)))) ?_
  intro _ _
  ((refine TE.run tysOk rfl (by rfl) ?_ ?_); (repeat' (first | (with_reducible refine AllP.go ?_; (first | exact trivial | exact fun i _ => ⟨_, rfl⟩ | ((try simp only [OS]); repeat' (first | omega | exact fun i _ => ⟨_, rfl⟩ | refine And.intro ?_ ?_)))) | (refine TE.rgo tysOk rfl (by rfl) ?_ ?_) | (with_reducible first | refine t1 ?_ | refine t2 ?_ | refine t3 ?_ | refine t4 ?_ | refine t5 ?_ | refine t6 ?_ | refine t7 ?_ | refine t8 ?_ | refine t9 ?_ | refine tA ?_ | refine tB ?_ | refine tC ?_ | refine tD rfl ?_ | refine tE ?_ | refine tF ?_ | refine tG ?_ | refine tH ?_ | refine tI ?_ | refine tJ ?_ | refine tK ?_ | refine tL ?_) | refine TE.cond_true (by rfl) ?_ | refine TE.cond_false (by rfl) ?_ | ((refine TE.gsplit (by rfl) (by rfl) ?_ ?_ <;> intro h <;> (try simp only [NS] at h) <;> (try (exfalso; first | omega | exact h trivial | exact h | exact h rfl | contradiction))) <;> (refine TE.run tysOk rfl (by rfl) ?_ ?_)) | ((first | refine TL.gsplit (by rfl) (by rfl) ?_ ?_ | refine TE.cond_split (by rfl) ?_ ?_) <;> intro h <;> (try simp only [NS] at h) <;> (try (exfalso; first | omega | exact h trivial | exact h | exact h rfl | contradiction))))))
  · rw [show unquoteI l = ([], 6) from if_pos (.inl (by omega))]
    (refine TE.ret' (by first | exact .inl rfl | exact .inr rfl) rfl tysOk (()) ?_ rfl (by rfl) ?_; all_goals (try (first | exact trivial | ((with_reducible refine AllP.go ?_); dsimp only [AllP, appP]; repeat' (first | with_reducible rfl | with_reducible exact LeD.refl | refine And.intro ?_ ?_ | (refine congrArg (Value.int _) ?_; first | omega | rfl | (simp only [Int.toNat_natCast]; omega)) | rfl | (refine congrArg Value.bool ?_; assumption) | exact LeD.refl)))))
  · rw [show unquoteI l = ([], 6) from if_pos (.inr (by omega))]
    (refine TE.ret' (by first | exact .inl rfl | exact .inr rfl) rfl tysOk (()) ?_ rfl (by rfl) ?_; all_goals (try (first | exact trivial | ((with_reducible refine AllP.go ?_); dsimp only [AllP, appP]; repeat' (first | with_reducible rfl | with_reducible exact LeD.refl | refine And.intro ?_ ?_ | (refine congrArg (Value.int _) ?_; first | omega | rfl | (simp only [Int.toNat_natCast]; omega)) | rfl | (refine congrArg Value.bool ?_; assumption) | exact LeD.refl)))))
  · rw [show unquoteI l = ((unqI l).1, 0) from if_neg (by omega)]
    (refine TE.ret' (by first | exact .inl rfl | exact .inr rfl) rfl tysOk (()) ?_ rfl (by rfl) ?_; all_goals (try (first | exact trivial | ((with_reducible refine AllP.go ?_); dsimp only [AllP, appP]; repeat' (first | with_reducible rfl | with_reducible exact LeD.refl | refine And.intro ?_ ?_ | (refine congrArg (Value.int _) ?_; first | omega | rfl | (simp only [Int.toNat_natCast]; omega)) | rfl | (refine congrArg Value.bool ?_; assumption) | exact LeD.refl)))))
end Go.Proofs.YtmeapfckibbbbaaGreatDoor.Am
/- The words: quoting and bare words, the reference's. -/
set_option linter.unusedVariables false
namespace Go.Proofs.YtmeapfckibbbbaaGreatDoor.Am
open Go.RowKit Lw Wo
end Go.Proofs.YtmeapfckibbbbaaGreatDoor.Am
/- The words: what stands between quotes read, the reference's. -/
set_option linter.unusedVariables false
namespace Go.Proofs.YtmeapfckibbbbaaGreatDoor.Wo
end Go.Proofs.YtmeapfckibbbbaaGreatDoor.Wo
namespace Go.Proofs.YtmeapfckibbbbaaGreatDoor.Am
open Go.RowKit Lw Wo
end Go.Proofs.YtmeapfckibbbbaaGreatDoor.Am
/- The words: Unquote, the reference's. -/
set_option linter.unusedVariables false
namespace Go.Proofs.YtmeapfckibbbbaaGreatDoor.Wo
theorem unqG_le : ∀ (n : Nat) (s : Bs), s.length ≤ n → ∀ x, unqG s = some x → x.2 ≤ s.length
  | _, [], _, x, h => by rw [unqG_nil] at h; cases h
  | 0, _ :: _, hn, _, _ => absurd hn (Nat.not_succ_le_zero _)
  | n + 1, a :: r, hn, x, h => by
    rw [unqG] at h
    split at h
    · cases h; simp
    · split at h
      · cases h
      · rename_i hd
        cases hg : unqG ((a :: r).drop (decI1 (a :: r)).2) with
        | none => rw [hg] at h; cases h
        | some y =>
          rw [hg] at h
          cases h
          have hl := dec_le (a :: r)
          have := unqG_le n _ (by rw [List.length_drop]; omega) y hg
          rw [List.length_drop] at this
          dsimp only
          omega
theorem unqI_le (l : Bs) : (unqI l).2 ≤ l.length := by
  match l with
  | [] => exact Nat.zero_le _
  | a :: r =>
    unfold unqI
    dsimp only
    split
    · cases h : unqG r with
      | none => exact Nat.zero_le _
      | some x =>
        have := unqG_le _ r (Nat.le_refl _) x h
        show 1 + x.2 ≤ r.length + 1
        omega
    · exact Nat.zero_le _
end Go.Proofs.YtmeapfckibbbbaaGreatDoor.Wo
namespace Go.Proofs.YtmeapfckibbbbaaGreatDoor.Am
open Go.RowKit Lw Wo
end Go.Proofs.YtmeapfckibbbbaaGreatDoor.Am
/- The words: the laws Names and Quotes, walked (shown is an assumption here; it wants Split and List). -/
set_option linter.unusedVariables false
namespace Go.Proofs.YtmeapfckibbbbaaGreatDoor.Am
open Go.RowKit Lw Wo
end Go.Proofs.YtmeapfckibbbbaaGreatDoor.Am
/- The words: the fields of a line, the reference's. -/
set_option linter.unusedVariables false
namespace Go.Proofs.YtmeapfckibbbbaaGreatDoor.Am
open Go.RowKit Lw Wo
def fdR (x : Fld) (j : Nat) : DC := match j with
  | 0 => .c (.string (sB x.1))
  | _ => .c (.bool x.2)
abbrev fdC (l : List Fld) : Ct := listC fdR ([], false) l
end Go.Proofs.YtmeapfckibbbbaaGreatDoor.Am
/- The words: the fields of a line, the program's. -/
set_option linter.unusedVariables false
namespace Go.Proofs.YtmeapfckibbbbaaGreatDoor.Am
open Go.RowKit Lw Wo
set_option maxRecDepth 20000 in
theorem fields_c (l : Bs) : Con Tryz.prog 40 [.o (.c (.string (sB l)))] [] 0 1 U (fun _ => .o (.clo 61 [(0, 0)])) (fun _ => [.box 0 9 [.c (.string (sB l))]]) := by
  refine con_of Tryz.func40 rfl (by kernel_rfl) Tryz.ntmps40 rfl (by first | exact Nat.zero_le _ | decide) (fun _ => ⟨rfl, rfl⟩) fun w S ν => ?_
  (repeat' (first | (with_reducible refine AllP.go ?_; (first | exact trivial | exact fun i _ => ⟨_, rfl⟩ | ((try simp only [OS]); repeat' (first | omega | exact fun i _ => ⟨_, rfl⟩ | refine And.intro ?_ ?_)))) | (refine TE.rgo tysOk rfl (by rfl) ?_ ?_) | (with_reducible first | refine t1 ?_ | refine t2 ?_ | refine t3 ?_ | refine t4 ?_ | refine t5 ?_ | refine t6 ?_ | refine t7 ?_ | refine t8 ?_ | refine t9 ?_ | refine tA ?_ | refine tB ?_ | refine tC ?_ | refine tD rfl ?_ | refine tE ?_ | refine tF ?_ | refine tG ?_ | refine tH ?_ | refine tI ?_ | refine tJ ?_ | refine tK ?_ | refine tL ?_) | (with_reducible first | exact PanicOk.body | exact rd.panic | refine PanicOk.then' ?_ | refine PanicOk.block ?_ | refine PanicOk.jump ?_) | (refine TE.drawC (by rfl) (by rfl) (by rfl) (by rfl) ?_) | (refine TE.drawN (by rfl) (by rfl) (by rfl) ?_) | (refine TL.done (by rfl) ?_) | (refine TL.auto tysOk rfl ?_ (by rfl) ?_ ?_) | ((refine TL.one (by rfl) ?_); first | (refine StepL.mem tysOk rfl rfl rfl rfl (by rfl) ?_ (by rfl) ?_) | (refine StepL.pure tysOk rfl rfl rfl rfl (by rfl) ?_ (by rfl) ?_)) | (refine StepL.mem tysOk rfl rfl rfl rfl (by rfl) ?_ (by rfl) ?_) | refine TE.cond_true (by rfl) ?_ | refine TE.cond_false (by rfl) ?_ | ((refine TE.gsplit (by rfl) (by rfl) ?_ ?_ <;> intro h <;> (try simp only [NS] at h) <;> (try (exfalso; first | omega | exact h trivial | exact h | exact h rfl | contradiction))) <;> (refine TE.run tysOk rfl (by rfl) ?_ ?_)) | ((first | refine TL.gsplit (by rfl) (by rfl) ?_ ?_ | refine TE.cond_split (by rfl) ?_ ?_) <;> intro h <;> (try simp only [NS] at h) <;> (try (exfalso; first | omega | exact h trivial | exact h | exact h rfl | contradiction)))))
  (refine TE.ret' (by first | exact .inl rfl | exact .inr rfl) rfl tysOk (()) ?_ rfl (by rfl) ?_; all_goals (try (first | exact trivial | ((with_reducible refine AllP.go ?_); dsimp only [AllP, appP]; repeat' (first | with_reducible rfl | with_reducible exact LeD.refl | refine And.intro ?_ ?_ | (refine congrArg (Value.int _) ?_; first | omega | rfl | (simp only [Int.toNat_natCast]; omega)) | rfl | (refine congrArg Value.bool ?_; assumption) | exact LeD.refl)))))
set_option maxRecDepth 20000 in
set_option maxHeartbeats 8000000 in
theorem Split_c (m : Int) (te : TypeId) (pe : Value) (l : Bs) (hl : l.length ≤ 1000000) : Con Tryz.prog 14 [.o (.c (.string (sB l)))] (glC m te pe) 4 4 U (fun _ => .t [.inl (.ro 2 (splitI l).1.length (fdC (splitI l).1).cell), .inl (.c (.int .i64 (splitI l).2))]) (fun _ => glC m te pe) := by
  refine con_of Tryz.func14 rfl (by kernel_rfl) Tryz.ntmps14 rfl (by first | exact Nat.zero_le _ | decide) (fun _ => ⟨rfl, rfl⟩) fun w S ν => ?_
  have hz : (sB l).size = l.length := sB_size _
  (repeat' (first | (with_reducible refine AllP.go ?_; (first | exact trivial | exact fun i _ => ⟨_, rfl⟩ | ((try simp only [OS]); repeat' (first | omega | exact fun i _ => ⟨_, rfl⟩ | refine And.intro ?_ ?_)))) | (refine TE.rgo tysOk rfl (by rfl) ?_ ?_) | (with_reducible first | refine t1 ?_ | refine t2 ?_ | refine t3 ?_ | refine t4 ?_ | refine t5 ?_ | refine t6 ?_ | refine t7 ?_ | refine t8 ?_ | refine t9 ?_ | refine tA ?_ | refine tB ?_ | refine tC ?_ | refine tD rfl ?_ | refine tE ?_ | refine tF ?_ | refine tG ?_ | refine tH ?_ | refine tI ?_ | refine tJ ?_ | refine tK ?_ | refine tL ?_) | refine TE.cond_true (by rfl) ?_ | refine TE.cond_false (by rfl) ?_ | ((refine TE.gsplit (by rfl) (by rfl) ?_ ?_ <;> intro h <;> (try simp only [NS] at h) <;> (try (exfalso; first | omega | exact h trivial | exact h | exact h rfl | contradiction))) <;> (refine TE.run tysOk rfl (by rfl) ?_ ?_)) | ((first | refine TL.gsplit (by rfl) (by rfl) ?_ ?_ | refine TE.cond_split (by rfl) ?_ ?_) <;> intro h <;> (try simp only [NS] at h) <;> (try (exfalso; first | omega | exact h trivial | exact h | exact h rfl | contradiction)))))
  · rw [show splitI l = ([], 3) from if_pos (by omega)]
    (refine TE.ret' (by first | exact .inl rfl | exact .inr rfl) rfl tysOk (()) ?_ rfl (by rfl) ?_; all_goals (try (first | exact trivial | ((with_reducible refine AllP.go ?_); dsimp only [AllP, appP]; repeat' (first | with_reducible rfl | with_reducible exact LeD.refl | refine And.intro ?_ ?_ | (refine congrArg (Value.int _) ?_; first | omega | rfl | (simp only [Int.toNat_natCast]; omega)) | rfl | (refine congrArg Value.bool ?_; assumption) | exact LeD.refl)))))
  · have hl0 : l = [] := List.length_eq_zero_iff.1 (by omega)
    rw [show splitI l = ([], 0) by unfold splitI; rw [if_neg (by omega), if_pos hl0]]
    (refine TE.ret' (by first | exact .inl rfl | exact .inr rfl) rfl tysOk (()) ?_ rfl (by rfl) ?_; all_goals (try (first | exact trivial | ((with_reducible refine AllP.go ?_); dsimp only [AllP, appP]; repeat' (first | with_reducible rfl | with_reducible exact LeD.refl | refine And.intro ?_ ?_ | (refine congrArg (Value.int _) ?_; first | omega | rfl | (simp only [Int.toNat_natCast]; omega)) | rfl | (refine congrArg Value.bool ?_; assumption) | exact LeD.refl)))))
  have hl0 : l ≠ [] := fun e => by subst e; exact h hz
  have hs : splitI l = match fieldsI l with | none => ([], 6) | some fs => if fs.any longF = true ∨ 64 < fs.length then ([], 3) else (fs, 0) := by
    unfold splitI; rw [if_neg (by omega), if_neg hl0]; rfl
  refine TE.callW (fields_c l) rfl (by rfl) (by rfl) rfl (by rfl) (by (first | exact trivial | ((with_reducible refine AllP.go ?_); dsimp only [AllP, appP]; repeat' (first | with_reducible rfl | with_reducible exact LeD.refl | refine And.intro ?_ ?_ | (refine congrArg (Value.int _) ?_; first | omega | rfl | (simp only [Int.toNat_natCast]; omega)) | rfl | (refine congrArg Value.bool ?_; assumption) | assumption | exact LeD.refl)))) ?_
  intro _ _
  ((refine TE.run tysOk rfl (by rfl) (by (first | exact trivial | exact fun i _ => ⟨_, rfl⟩ | ((try simp only [OS]); repeat' (first | omega | exact fun i _ => ⟨_, rfl⟩ | refine And.intro ?_ ?_)))) ?_); refine TE.done ?_; refine TE.thenN ?_)
  refine TE.block ?_
  refine TE.nilBox 6 0 47 2 (by rfl) (by rfl) ?_
  (refine TE.range rfl (by rfl) (by rfl) (by kernel_rfl) (by rfl) (by rfl) rfl ?_)
  intro l' a1 w0 B0 S0 ν0 L
  have hle := unqI_le
  refine TE.scope2' (α := Nat × List Fld) (β := (Nat × List Fld) × (Fld × Nat)) 1 0 (fun x => match x with
    | .inl p => p.1 ≤ l.length ∧ p.2.length ≤ p.1 ∧ (fieldsI (l.drop p.1)).map (p.2 ++ ·) = fieldsI l
    | .inr p => p.1.1 ≤ l.length ∧ p.1.2.length ≤ p.1.1 ∧ (fieldsI (l.drop p.1.1)).map (p.1.2 ++ ·) = fieldsI l ∧ fieldI (l.drop p.1.1) = some p.2 ∧ p.1.1 + p.2.2 ≤ l.length)
    (fun x => match x with
    | .inl p => ⟨[(0, .o (.c (.func (.yield l') #[] #[]))), (3, .o (.c (.string (sB (l.drop p.1))))), (4, .o (.ptr 10 0))], .own 11 47 2 (fdC p.2) :: .box 10 47 [.any, .any] :: .box 8 9 [.c (.string (sB l))] :: .box 7 4 [.sb (p.2.any longF)] :: .box 6 34 [.own 11] :: .box 5 24 [.c (.int .i64 0)] :: .box 4 34 [.c (.slice none 0 0)] :: glC m te pe, 12⟩
    | .inr p => ⟨[(0, .o (.c (.func (.yield l') #[] #[]))), (3, .o (.c (.string (sB (l.drop p.1.1))))), (4, .o (.ptr 10 0)), (5, .o (.c (.int .i64 (p.2.2 : Nat))))], .own 11 47 2 (fdC p.1.2) :: .box 10 47 [.c (.string (sB p.2.1.1)), .c (.bool p.2.1.2)] :: .box 8 9 [.c (.string (sB l))] :: .box 7 4 [.sb (p.1.2.any longF)] :: .box 6 34 [.own 11] :: .box 5 24 [.c (.int .i64 0)] :: .box 4 34 [.c (.slice none 0 0)] :: glC m te pe, 12⟩)
    (fun x => match x with
    | .inl p => 2 * (l.length - p.1) + 1
    | .inr p => 2 * (l.length - p.1.1)) (by rfl) (by rfl) ?_ ?_ ?_
  · intro hf
    (refine TE.seq ?_; (refine TE.rgo tysOk rfl (by rfl) (by (first | exact trivial | exact fun i _ => ⟨_, rfl⟩ | ((try simp only [OS]); repeat' (first | omega | exact fun i _ => ⟨_, rfl⟩ | refine And.intro ?_ ?_)))) ?_); refine TE.done ?_; refine TE.thenN ?_)
    (refine TE.seq ?_; (refine TE.rgo tysOk rfl (by rfl) (by (first | exact trivial | exact fun i _ => ⟨_, rfl⟩ | ((try simp only [OS]); repeat' (first | omega | exact fun i _ => ⟨_, rfl⟩ | refine And.intro ?_ ?_)))) ?_); refine TE.done ?_; refine TE.thenN ?_)
    (refine TE.seq ?_; (refine TE.rgo tysOk rfl (by rfl) (by (first | exact trivial | exact fun i _ => ⟨_, rfl⟩ | ((try simp only [OS]); repeat' (first | omega | exact fun i _ => ⟨_, rfl⟩ | refine And.intro ?_ ?_)))) ?_); refine TE.done ?_; refine TE.thenN ?_)
    refine TE.seq (TE.label (TE.thenN ?_))
    refine TE.ent' ?_ (hf (0, []) ⟨Nat.zero_le _, Nat.le_refl _, by simp⟩)
    (refine Ent.of rfl rfl (by rfl) ?_; (try (first | exact trivial | ((with_reducible refine AllP.go ?_); dsimp only [AllP, appP]; repeat' (first | with_reducible rfl | with_reducible exact LeD.refl | refine And.intro ?_ ?_ | (refine congrArg (Value.int _) ?_; first | omega | rfl | (simp only [Int.toNat_natCast]; omega)) | rfl | (refine congrArg Value.bool ?_; assumption) | exact LeD.refl)))))
    exact LeDC.nil rfl rfl
  · rintro ⟨i, out⟩ ⟨g1, g2, g3⟩ hf
    dsimp only at g1 g2 g3
    have hdl : (l.drop i).length = l.length - i := List.length_drop ..
    have hul := hle (l.drop i)
    have hwl : (wordI (l.drop i)).length ≤ (l.drop i).length := (List.takeWhile_sublist _).length_le
    have hfq : (unqI (l.drop i)).2 ≠ 0 → fieldI (l.drop i) = some (((unqI (l.drop i)).1, true), (unqI (l.drop i)).2) := fun e => if_pos e
    have hfb : (unqI (l.drop i)).2 = 0 → bareI (wordI (l.drop i)) = true → fieldI (l.drop i) = some ((wordI (l.drop i), false), (wordI (l.drop i)).length) := fun e k => by
      unfold fieldI
      rw [if_neg (fun q => q e), if_pos k]
    have hfn : (unqI (l.drop i)).2 = 0 → ¬ bareI (wordI (l.drop i)) = true → splitI l = ([], 6) := fun e k => by
      rw [hs, fields_none (by unfold fieldI; rw [if_neg (fun q => q e), if_neg k]) g3]
    have hc1 := cut_c m te pe (l.drop i) [32] (by rw [hdl]; omega)
    rw [cut_sp] at hc1
    (repeat (with_reducible first | refine t1 ?_ | refine t2 ?_ | refine t3 ?_ | refine t4 ?_ | refine t5 ?_ | refine t6 ?_ | refine t7 ?_ | refine t8 ?_ | refine t9 ?_ | refine tA ?_ | refine tB ?_ | refine tC ?_ | refine tD rfl ?_ | refine tE ?_ | refine tF ?_ | refine tG ?_ | refine tH ?_ | refine tI ?_ | refine tJ ?_ | refine tK ?_ | refine tL ?_))
    ((refine TE.rgo tysOk rfl (by rfl) ?_ ?_); try (with_reducible refine AllP.go ?_; (first | exact trivial | exact fun i _ => ⟨_, rfl⟩ | ((try simp only [OS]); repeat' (first | omega | exact fun i _ => ⟨_, rfl⟩ | refine And.intro ?_ ?_)))))
    refine TE.callW (unq_c m te pe (l.drop i) (by rw [hdl]; omega)) rfl (by rfl) (by rfl) rfl (by rfl) (by (first | exact trivial | ((with_reducible refine AllP.go ?_); dsimp only [AllP, appP]; repeat' (first | with_reducible rfl | with_reducible exact LeD.refl | refine And.intro ?_ ?_ | (refine congrArg (Value.int _) ?_; first | omega | rfl | (simp only [Int.toNat_natCast]; omega)) | rfl | (refine congrArg Value.bool ?_; assumption) | assumption | exact LeD.refl)))) ?_
    intro _ _
    generalize unqI (l.drop i) = u at *
    obtain ⟨ta, n0⟩ := u
    dsimp only at hul hfq hfb hfn
    ((refine TE.run tysOk rfl (by rfl) ?_ ?_); (repeat' (first | (with_reducible refine AllP.go ?_; (first | exact trivial | exact fun i _ => ⟨_, rfl⟩ | ((try simp only [OS]); repeat' (first | omega | exact fun i _ => ⟨_, rfl⟩ | refine And.intro ?_ ?_)))) | (refine TE.rgo tysOk rfl (by rfl) ?_ ?_) | (with_reducible first | refine t1 ?_ | refine t2 ?_ | refine t3 ?_ | refine t4 ?_ | refine t5 ?_ | refine t6 ?_ | refine t7 ?_ | refine t8 ?_ | refine t9 ?_ | refine tA ?_ | refine tB ?_ | refine tC ?_ | refine tD rfl ?_ | refine tE ?_ | refine tF ?_ | refine tG ?_ | refine tH ?_ | refine tI ?_ | refine tJ ?_ | refine tK ?_ | refine tL ?_) | refine TE.cond_true (by rfl) ?_ | refine TE.cond_false (by rfl) ?_ | ((refine TE.gsplit (by rfl) (by rfl) ?_ ?_ <;> intro h <;> (try simp only [NS] at h) <;> (try (exfalso; first | omega | exact h trivial | exact h | exact h rfl | contradiction))) <;> (refine TE.run tysOk rfl (by rfl) ?_ ?_)) | ((first | refine TL.gsplit (by rfl) (by rfl) ?_ ?_ | refine TE.cond_split (by rfl) ?_ ?_) <;> intro h <;> (try simp only [NS] at h) <;> (try (exfalso; first | omega | exact h trivial | exact h | exact h rfl | contradiction))))))
    · (with_reducible first | refine TE.jfN ?_ | refine TE.jfR ?_ | refine TE.jfE ?_ | refine TE.jfG ?_)
      refine TE.at (.inr ((i, out), ((ta, true), n0))) ⟨rfl, ⟨g1, g2, g3, hfq (by omega), by dsimp only; omega⟩, by dsimp only; omega⟩ ?_
      (refine Ent.of rfl rfl (by rfl) ?_; (try (first | exact trivial | ((with_reducible refine AllP.go ?_); dsimp only [AllP, appP]; repeat' (first | with_reducible rfl | with_reducible exact LeD.refl | refine And.intro ?_ ?_ | (refine congrArg (Value.int _) ?_; first | omega | rfl | (simp only [Int.toNat_natCast]; omega)) | rfl | (refine congrArg Value.bool ?_; assumption) | exact LeD.refl)))))
    · generalize wordI (l.drop i) = tb at *
      refine TE.callW (hc1) rfl (by rfl) (by rfl) rfl (by rfl) (by (first | exact trivial | ((with_reducible refine AllP.go ?_); dsimp only [AllP, appP]; repeat' (first | with_reducible rfl | with_reducible exact LeD.refl | refine And.intro ?_ ?_ | (refine congrArg (Value.int _) ?_; first | omega | rfl | (simp only [Int.toNat_natCast]; omega)) | rfl | (refine congrArg Value.bool ?_; assumption) | assumption | exact LeD.refl)))) ?_
      intro _ _
      ((refine TE.run tysOk rfl (by rfl) ?_ ?_); (repeat' (first | (with_reducible refine AllP.go ?_; (first | exact trivial | exact fun i _ => ⟨_, rfl⟩ | ((try simp only [OS]); repeat' (first | omega | exact fun i _ => ⟨_, rfl⟩ | refine And.intro ?_ ?_)))) | (refine TE.rgo tysOk rfl (by rfl) ?_ ?_) | (with_reducible first | refine t1 ?_ | refine t2 ?_ | refine t3 ?_ | refine t4 ?_ | refine t5 ?_ | refine t6 ?_ | refine t7 ?_ | refine t8 ?_ | refine t9 ?_ | refine tA ?_ | refine tB ?_ | refine tC ?_ | refine tD rfl ?_ | refine tE ?_ | refine tF ?_ | refine tG ?_ | refine tH ?_ | refine tI ?_ | refine tJ ?_ | refine tK ?_ | refine tL ?_) | refine TE.cond_true (by rfl) ?_ | refine TE.cond_false (by rfl) ?_ | ((refine TE.gsplit (by rfl) (by rfl) ?_ ?_ <;> intro h <;> (try simp only [NS] at h) <;> (try (exfalso; first | omega | exact h trivial | exact h | exact h rfl | contradiction))) <;> (refine TE.run tysOk rfl (by rfl) ?_ ?_)) | ((first | refine TL.gsplit (by rfl) (by rfl) ?_ ?_ | refine TE.cond_split (by rfl) ?_ ?_) <;> intro h <;> (try simp only [NS] at h) <;> (try (exfalso; first | omega | exact h trivial | exact h | exact h rfl | contradiction))))))
      refine TE.callW (isBare_c tb (by omega)) rfl (by rfl) (by rfl) rfl (by rfl) (by (first | exact trivial | ((with_reducible refine AllP.go ?_); dsimp only [AllP, appP]; repeat' (first | with_reducible rfl | with_reducible exact LeD.refl | refine And.intro ?_ ?_ | (refine congrArg (Value.int _) ?_; first | omega | rfl | (simp only [Int.toNat_natCast]; omega)) | rfl | (refine congrArg Value.bool ?_; assumption) | assumption | exact LeD.refl)))) ?_
      intro _ _
      by_cases hb : bareI tb = true
      · rw [hb]
        ((refine TE.run tysOk rfl (by rfl) (by (first | exact trivial | exact fun i _ => ⟨_, rfl⟩ | ((try simp only [OS]); repeat' (first | omega | exact fun i _ => ⟨_, rfl⟩ | refine And.intro ?_ ?_)))) ?_); refine TE.done ?_; refine TE.thenN ?_)
        (refine TE.cond_split (by rfl) ?_ ?_ <;> intro h <;> (try simp only [NS] at h) <;> (try (exfalso; first | omega | exact h trivial | exact h | exact h rfl | contradiction)))
        refine TE.skip (TE.thenN (TE.seq (TE.label (TE.thenN ?_))))
        refine TE.ent' ?_ (hf ((i, out), ((tb, false), tb.length)) ⟨g1, g2, g3, hfb (by omega) hb, by dsimp only; omega⟩ (by dsimp only; omega))
        have hz1 := sB_size tb
        (refine Ent.of rfl rfl (by rfl) ?_; (try (first | exact trivial | ((with_reducible refine AllP.go ?_); dsimp only [AllP, appP]; repeat' (first | with_reducible rfl | with_reducible exact LeD.refl | refine And.intro ?_ ?_ | (refine congrArg (Value.int _) ?_; first | omega | rfl | (simp only [Int.toNat_natCast]; omega)) | rfl | (refine congrArg Value.bool ?_; assumption) | exact LeD.refl)))))
      · have h6 := hfn (by omega) hb
        rw [Bool.not_eq_true] at hb
        rw [hb]
        ((refine TE.run tysOk rfl (by rfl) ?_ ?_); (repeat' (first | (with_reducible refine AllP.go ?_; (first | exact trivial | exact fun i _ => ⟨_, rfl⟩ | ((try simp only [OS]); repeat' (first | omega | exact fun i _ => ⟨_, rfl⟩ | refine And.intro ?_ ?_)))) | (refine TE.rgo tysOk rfl (by rfl) ?_ ?_) | (with_reducible first | refine t1 ?_ | refine t2 ?_ | refine t3 ?_ | refine t4 ?_ | refine t5 ?_ | refine t6 ?_ | refine t7 ?_ | refine t8 ?_ | refine t9 ?_ | refine tA ?_ | refine tB ?_ | refine tC ?_ | refine tD rfl ?_ | refine tE ?_ | refine tF ?_ | refine tG ?_ | refine tH ?_ | refine tI ?_ | refine tJ ?_ | refine tK ?_ | refine tL ?_) | refine TE.cond_true (by rfl) ?_ | refine TE.cond_false (by rfl) ?_ | ((refine TE.gsplit (by rfl) (by rfl) ?_ ?_ <;> intro h <;> (try simp only [NS] at h) <;> (try (exfalso; first | omega | exact h trivial | exact h | exact h rfl | contradiction))) <;> (refine TE.run tysOk rfl (by rfl) ?_ ?_)) | ((first | refine TL.gsplit (by rfl) (by rfl) ?_ ?_ | refine TE.cond_split (by rfl) ?_ ?_) <;> intro h <;> (try simp only [NS] at h) <;> (try (exfalso; first | omega | exact h trivial | exact h | exact h rfl | contradiction))))))
        (refine TE.yield L rfl (by rfl) (by rfl) rfl rfl (by rfl) (by rfl) (by rfl) rfl (by rfl) ?_)
        intro Qr w1 B1 S1 ν1 rd
        (repeat (first | (with_reducible refine AllP.go ?_; (first | exact trivial | exact fun i _ => ⟨_, rfl⟩ | ((try simp only [OS]); repeat' (first | omega | exact fun i _ => ⟨_, rfl⟩ | refine And.intro ?_ ?_)))) | (refine TE.rgo tysOk rfl (by rfl) ?_ ?_) | (with_reducible first | refine t1 ?_ | refine t2 ?_ | refine t3 ?_ | refine t4 ?_ | refine t5 ?_ | refine t6 ?_ | refine t7 ?_ | refine t8 ?_ | refine t9 ?_ | refine tA ?_ | refine tB ?_ | refine tC ?_ | refine tD rfl ?_ | refine tE ?_ | refine tF ?_ | refine tG ?_ | refine tH ?_ | refine tI ?_ | refine tJ ?_ | refine tK ?_ | refine tL ?_) | (with_reducible first | exact PanicOk.body | exact rd.panic | refine PanicOk.then' ?_ | refine PanicOk.block ?_ | refine PanicOk.jump ?_) | (refine TE.drawC (by rfl) (by rfl) (by rfl) (by rfl) ?_) | (refine TE.drawN (by rfl) (by rfl) (by rfl) ?_) | (refine TL.done (by rfl) ?_) | (refine TL.auto tysOk rfl ?_ (by rfl) ?_ ?_) | ((refine TL.one (by rfl) ?_); first | (refine StepL.mem tysOk rfl rfl rfl rfl (by rfl) ?_ (by rfl) ?_) | (refine StepL.pure tysOk rfl rfl rfl rfl (by rfl) ?_ (by rfl) ?_)) | (refine StepL.mem tysOk rfl rfl rfl rfl (by rfl) ?_ (by rfl) ?_) | refine TE.cond_true (by rfl) ?_ | refine TE.cond_false (by rfl) ?_))
        refine rd.begin ?_
        clear rd
        intro w1 B1 S1 ν1 rd
        (repeat' (first | (with_reducible refine AllP.go ?_; (first | exact trivial | exact fun i _ => ⟨_, rfl⟩ | ((try simp only [OS]); repeat' (first | omega | exact fun i _ => ⟨_, rfl⟩ | refine And.intro ?_ ?_)))) | (refine TE.rgo tysOk rfl (by rfl) ?_ ?_) | (with_reducible first | refine t1 ?_ | refine t2 ?_ | refine t3 ?_ | refine t4 ?_ | refine t5 ?_ | refine t6 ?_ | refine t7 ?_ | refine t8 ?_ | refine t9 ?_ | refine tA ?_ | refine tB ?_ | refine tC ?_ | refine tD rfl ?_ | refine tE ?_ | refine tF ?_ | refine tG ?_ | refine tH ?_ | refine tI ?_ | refine tJ ?_ | refine tK ?_ | refine tL ?_) | refine TE.cond_true (by rfl) ?_ | refine TE.cond_false (by rfl) ?_ | ((refine TE.gsplit (by rfl) (by rfl) ?_ ?_ <;> intro h <;> (try simp only [NS] at h) <;> (try (exfalso; first | omega | exact h trivial | exact h | exact h rfl | contradiction))) <;> (refine TE.run tysOk rfl (by rfl) ?_ ?_)) | ((first | refine TL.gsplit (by rfl) (by rfl) ?_ ?_ | refine TE.cond_split (by rfl) ?_ ?_) <;> intro h <;> (try simp only [NS] at h) <;> (try (exfalso; first | omega | exact h trivial | exact h | exact h rfl | contradiction)))))
        refine rd.ret ?_
        intro w2 B2 S2 ν2 L2
        (repeat' (first | (with_reducible refine AllP.go ?_; (first | exact trivial | exact fun i _ => ⟨_, rfl⟩ | ((try simp only [OS]); repeat' (first | omega | exact fun i _ => ⟨_, rfl⟩ | refine And.intro ?_ ?_)))) | (refine TE.rgo tysOk rfl (by rfl) ?_ ?_) | (with_reducible first | refine t1 ?_ | refine t2 ?_ | refine t3 ?_ | refine t4 ?_ | refine t5 ?_ | refine t6 ?_ | refine t7 ?_ | refine t8 ?_ | refine t9 ?_ | refine tA ?_ | refine tB ?_ | refine tC ?_ | refine tD rfl ?_ | refine tE ?_ | refine tF ?_ | refine tG ?_ | refine tH ?_ | refine tI ?_ | refine tJ ?_ | refine tK ?_ | refine tL ?_) | refine TE.cond_true (by rfl) ?_ | refine TE.cond_false (by rfl) ?_ | ((refine TE.gsplit (by rfl) (by rfl) ?_ ?_ <;> intro h <;> (try simp only [NS] at h) <;> (try (exfalso; first | omega | exact h trivial | exact h | exact h rfl | contradiction))) <;> (refine TE.run tysOk rfl (by rfl) ?_ ?_)) | ((first | refine TL.gsplit (by rfl) (by rfl) ?_ ?_ | refine TE.cond_split (by rfl) ?_ ?_) <;> intro h <;> (try simp only [NS] at h) <;> (try (exfalso; first | omega | exact h trivial | exact h | exact h rfl | contradiction)))))
        (with_reducible first | refine TE.jfN ?_ | refine TE.jfR ?_ | refine TE.jfE ?_ | refine TE.jfG ?_)
        refine TE.iterStop L2 (by first | exact .inl rfl | exact .inr rfl) (by rfl) ?_
        (repeat' (first | (with_reducible refine AllP.go ?_; (first | exact trivial | exact fun i _ => ⟨_, rfl⟩ | ((try simp only [OS]); repeat' (first | omega | exact fun i _ => ⟨_, rfl⟩ | refine And.intro ?_ ?_)))) | (refine TE.rgo tysOk rfl (by rfl) ?_ ?_) | (with_reducible first | refine t1 ?_ | refine t2 ?_ | refine t3 ?_ | refine t4 ?_ | refine t5 ?_ | refine t6 ?_ | refine t7 ?_ | refine t8 ?_ | refine t9 ?_ | refine tA ?_ | refine tB ?_ | refine tC ?_ | refine tD rfl ?_ | refine tE ?_ | refine tF ?_ | refine tG ?_ | refine tH ?_ | refine tI ?_ | refine tJ ?_ | refine tK ?_ | refine tL ?_) | refine TE.cond_true (by rfl) ?_ | refine TE.cond_false (by rfl) ?_ | ((refine TE.gsplit (by rfl) (by rfl) ?_ ?_ <;> intro h <;> (try simp only [NS] at h) <;> (try (exfalso; first | omega | exact h trivial | exact h | exact h rfl | contradiction))) <;> (refine TE.run tysOk rfl (by rfl) ?_ ?_)) | ((first | refine TL.gsplit (by rfl) (by rfl) ?_ ?_ | refine TE.cond_split (by rfl) ?_ ?_) <;> intro h <;> (try simp only [NS] at h) <;> (try (exfalso; first | omega | exact h trivial | exact h | exact h rfl | contradiction)))))
        rw [h6]
        (refine TE.ret' (by first | exact .inl rfl | exact .inr rfl) rfl tysOk (()) ?_ rfl (by rfl) ?_; all_goals (try (first | exact trivial | ((with_reducible refine AllP.go ?_); dsimp only [AllP, appP]; repeat' (first | with_reducible rfl | with_reducible exact LeD.refl | refine And.intro ?_ ?_ | (refine congrArg (Value.int _) ?_; first | omega | rfl | (simp only [Int.toNat_natCast]; omega)) | rfl | (refine congrArg Value.bool ?_; assumption) | exact LeD.refl)))))
  · rintro ⟨⟨i, out⟩, ⟨f, n⟩⟩ ⟨g1, g2, g3, g4, g5⟩
    dsimp only at g1 g2 g3 g4 g5 ⊢
    have hdl : (sB (l.drop i)).size = l.length - i := by rw [sB_size, List.length_drop]
    have he : (sB (l.drop i)).extract ((n : Nat) : Int).toNat ((sB (l.drop i)).size : Int).toNat = sB (l.drop (i + n)) := by
      rw [sB_ext, hdl, List.drop_drop, List.take_of_length_le (by rw [List.length_drop]; omega)]
      rfl
    have hz2 : (sB (l.drop (i + n))).size = l.length - (i + n) := by rw [sB_size, List.length_drop]
    have he2 : (sB (l.drop (i + n))).extract ((1 : Int)).toNat ((sB (l.drop (i + n))).size : Int).toNat = sB (l.drop (i + n + 1)) := by
      rw [sB_ext, hz2, List.drop_drop, List.take_of_length_le (by rw [List.length_drop]; omega)]
      rfl
    have hgd : (l.drop (i + n)).getD (Int.toNat 0) 0 = l.getD (i + n) 0 := getD_drop l (i + n) 0
    have hsz := sB_size f.1
    have b6 : i + n < l.length → (l.getD (i + n) 0).toNat ≠ 32 → splitI l = ([], 6) := fun h1 h2 => by rw [hs, fields_bad g4 g3 h1 h2]
    have b3 : l.length ≤ i + n → ((out ++ [f]).any longF = true ∨ 64 < (out ++ [f]).length) → splitI l = ([], 3) := fun h1 h2 => by rw [hs, fields_end g4 g3 h1]; exact if_pos h2
    have b0 : l.length ≤ i + n → ¬ ((out ++ [f]).any longF = true ∨ 64 < (out ++ [f]).length) → splitI l = (out ++ [f], 0) := fun h1 h2 => by rw [hs, fields_end g4 g3 h1]; exact if_neg h2
    have hL1 : out.any longF = true → true = (out ++ [f]).any longF := fun e => by
      rw [List.any_append, e]; rfl
    have hL2 : out.any longF = false → decide (2000 < ((sB f.1).size : Int)) = (out ++ [f]).any longF := fun e => by
      rw [List.any_append, e]
      show _ = (false || (decide (2000 < f.1.length) || false))
      rw [Bool.false_or, Bool.or_false]
      exact decide_eq_decide.2 ⟨fun e => by omega, fun e => by omega⟩
    have hol : (out ++ [f]).length = out.length + 1 := by simp
    (repeat (with_reducible first | refine t1 ?_ | refine t2 ?_ | refine t3 ?_ | refine t4 ?_ | refine t5 ?_ | refine t6 ?_ | refine t7 ?_ | refine t8 ?_ | refine t9 ?_ | refine tA ?_ | refine tB ?_ | refine tC ?_ | refine tD rfl ?_ | refine tE ?_ | refine tF ?_ | refine tG ?_ | refine tH ?_ | refine tI ?_ | refine tJ ?_ | refine tK ?_ | refine tL ?_))
    ((refine TE.rgo tysOk rfl (by rfl) ?_ ?_); try (with_reducible refine AllP.go ?_; (first | exact trivial | exact fun i _ => ⟨_, rfl⟩ | ((try simp only [OS]); repeat' (first | omega | exact fun i _ => ⟨_, rfl⟩ | refine And.intro ?_ ?_)))))
    refine TE.done (TE.thenN ?_)
    rw [he]
    (repeat' (first | (with_reducible refine AllP.go ?_; (first | exact trivial | exact fun i _ => ⟨_, rfl⟩ | ((try simp only [OS]); repeat' (first | omega | exact fun i _ => ⟨_, rfl⟩ | refine And.intro ?_ ?_)))) | (refine TE.rgo tysOk rfl (by rfl) ?_ ?_) | (with_reducible first | refine t1 ?_ | refine t2 ?_ | refine t3 ?_ | refine t4 ?_ | refine t5 ?_ | refine t6 ?_ | refine t7 ?_ | refine t8 ?_ | refine t9 ?_ | refine tA ?_ | refine tB ?_ | refine tC ?_ | refine tD rfl ?_ | refine tE ?_ | refine tF ?_ | refine tG ?_ | refine tH ?_ | refine tI ?_ | refine tJ ?_ | refine tK ?_ | refine tL ?_) | refine TE.cond_true (by rfl) ?_ | refine TE.cond_false (by rfl) ?_ | ((refine TE.gsplit (by rfl) (by rfl) ?_ ?_ <;> intro h <;> (try simp only [NS] at h) <;> (try (exfalso; first | omega | exact h trivial | exact h | exact h rfl | contradiction))) <;> (refine TE.run tysOk rfl (by rfl) ?_ ?_)) | ((first | refine TL.gsplit (by rfl) (by rfl) ?_ ?_ | refine TE.cond_split (by rfl) ?_ ?_) <;> intro h <;> (try simp only [NS] at h) <;> (try (exfalso; first | omega | exact h trivial | exact h | exact h rfl | contradiction)))))
    · (refine TE.yield L rfl (by rfl) (by rfl) rfl rfl (by rfl) (by rfl) (by rfl) rfl (by rfl) ?_)
      intro Qr w1 B1 S1 ν1 rd
      (repeat (first | (with_reducible refine AllP.go ?_; (first | exact trivial | exact fun i _ => ⟨_, rfl⟩ | ((try simp only [OS]); repeat' (first | omega | exact fun i _ => ⟨_, rfl⟩ | refine And.intro ?_ ?_)))) | (refine TE.rgo tysOk rfl (by rfl) ?_ ?_) | (with_reducible first | refine t1 ?_ | refine t2 ?_ | refine t3 ?_ | refine t4 ?_ | refine t5 ?_ | refine t6 ?_ | refine t7 ?_ | refine t8 ?_ | refine t9 ?_ | refine tA ?_ | refine tB ?_ | refine tC ?_ | refine tD rfl ?_ | refine tE ?_ | refine tF ?_ | refine tG ?_ | refine tH ?_ | refine tI ?_ | refine tJ ?_ | refine tK ?_ | refine tL ?_) | (with_reducible first | exact PanicOk.body | exact rd.panic | refine PanicOk.then' ?_ | refine PanicOk.block ?_ | refine PanicOk.jump ?_) | (refine TE.drawC (by rfl) (by rfl) (by rfl) (by rfl) ?_) | (refine TE.drawN (by rfl) (by rfl) (by rfl) ?_) | (refine TL.done (by rfl) ?_) | (refine TL.auto tysOk rfl ?_ (by rfl) ?_ ?_) | ((refine TL.one (by rfl) ?_); first | (refine StepL.mem tysOk rfl rfl rfl rfl (by rfl) ?_ (by rfl) ?_) | (refine StepL.pure tysOk rfl rfl rfl rfl (by rfl) ?_ (by rfl) ?_)) | (refine StepL.mem tysOk rfl rfl rfl rfl (by rfl) ?_ (by rfl) ?_) | refine TE.cond_true (by rfl) ?_ | refine TE.cond_false (by rfl) ?_))
      refine rd.begin ?_
      clear rd
      intro w1 B1 S1 ν1 rd
      (repeat' (first | (with_reducible refine AllP.go ?_; (first | exact trivial | exact fun i _ => ⟨_, rfl⟩ | ((try simp only [OS]); repeat' (first | omega | exact fun i _ => ⟨_, rfl⟩ | refine And.intro ?_ ?_)))) | (refine TE.rgo tysOk rfl (by rfl) ?_ ?_) | (with_reducible first | refine t1 ?_ | refine t2 ?_ | refine t3 ?_ | refine t4 ?_ | refine t5 ?_ | refine t6 ?_ | refine t7 ?_ | refine t8 ?_ | refine t9 ?_ | refine tA ?_ | refine tB ?_ | refine tC ?_ | refine tD rfl ?_ | refine tE ?_ | refine tF ?_ | refine tG ?_ | refine tH ?_ | refine tI ?_ | refine tJ ?_ | refine tK ?_ | refine tL ?_) | refine TE.cond_true (by rfl) ?_ | refine TE.cond_false (by rfl) ?_ | ((refine TE.gsplit (by rfl) (by rfl) ?_ ?_ <;> intro h <;> (try simp only [NS] at h) <;> (try (exfalso; first | omega | exact h trivial | exact h | exact h rfl | contradiction))) <;> (refine TE.run tysOk rfl (by rfl) ?_ ?_)) | ((first | refine TL.gsplit (by rfl) (by rfl) ?_ ?_ | refine TE.cond_split (by rfl) ?_ ?_) <;> intro h <;> (try simp only [NS] at h) <;> (try (exfalso; first | omega | exact h trivial | exact h | exact h rfl | contradiction)))))
      refine rd.ret ?_
      intro w2 B2 S2 ν2 L2
      (repeat' (first | (with_reducible refine AllP.go ?_; (first | exact trivial | exact fun i _ => ⟨_, rfl⟩ | ((try simp only [OS]); repeat' (first | omega | exact fun i _ => ⟨_, rfl⟩ | refine And.intro ?_ ?_)))) | (refine TE.rgo tysOk rfl (by rfl) ?_ ?_) | (with_reducible first | refine t1 ?_ | refine t2 ?_ | refine t3 ?_ | refine t4 ?_ | refine t5 ?_ | refine t6 ?_ | refine t7 ?_ | refine t8 ?_ | refine t9 ?_ | refine tA ?_ | refine tB ?_ | refine tC ?_ | refine tD rfl ?_ | refine tE ?_ | refine tF ?_ | refine tG ?_ | refine tH ?_ | refine tI ?_ | refine tJ ?_ | refine tK ?_ | refine tL ?_) | refine TE.cond_true (by rfl) ?_ | refine TE.cond_false (by rfl) ?_ | ((refine TE.gsplit (by rfl) (by rfl) ?_ ?_ <;> intro h <;> (try simp only [NS] at h) <;> (try (exfalso; first | omega | exact h trivial | exact h | exact h rfl | contradiction))) <;> (refine TE.run tysOk rfl (by rfl) ?_ ?_)) | ((first | refine TL.gsplit (by rfl) (by rfl) ?_ ?_ | refine TE.cond_split (by rfl) ?_ ?_) <;> intro h <;> (try simp only [NS] at h) <;> (try (exfalso; first | omega | exact h trivial | exact h | exact h rfl | contradiction)))))
      (with_reducible first | refine TE.jfN ?_ | refine TE.jfR ?_ | refine TE.jfE ?_ | refine TE.jfG ?_)
      refine TE.iterStop L2 (by first | exact .inl rfl | exact .inr rfl) (by rfl) ?_
      (repeat' (first | (with_reducible refine AllP.go ?_; (first | exact trivial | exact fun i _ => ⟨_, rfl⟩ | ((try simp only [OS]); repeat' (first | omega | exact fun i _ => ⟨_, rfl⟩ | refine And.intro ?_ ?_)))) | (refine TE.rgo tysOk rfl (by rfl) ?_ ?_) | (with_reducible first | refine t1 ?_ | refine t2 ?_ | refine t3 ?_ | refine t4 ?_ | refine t5 ?_ | refine t6 ?_ | refine t7 ?_ | refine t8 ?_ | refine t9 ?_ | refine tA ?_ | refine tB ?_ | refine tC ?_ | refine tD rfl ?_ | refine tE ?_ | refine tF ?_ | refine tG ?_ | refine tH ?_ | refine tI ?_ | refine tJ ?_ | refine tK ?_ | refine tL ?_) | refine TE.cond_true (by rfl) ?_ | refine TE.cond_false (by rfl) ?_ | ((refine TE.gsplit (by rfl) (by rfl) ?_ ?_ <;> intro h <;> (try simp only [NS] at h) <;> (try (exfalso; first | omega | exact h trivial | exact h | exact h rfl | contradiction))) <;> (refine TE.run tysOk rfl (by rfl) ?_ ?_)) | ((first | refine TL.gsplit (by rfl) (by rfl) ?_ ?_ | refine TE.cond_split (by rfl) ?_ ?_) <;> intro h <;> (try simp only [NS] at h) <;> (try (exfalso; first | omega | exact h trivial | exact h | exact h rfl | contradiction)))))
      rw [b6 (by omega) (fun e => h (by show (((l.drop (i + n)).getD (Int.toNat 0) 0).toNat : Int) = 32; rw [hgd]; exact congrArg Nat.cast e))]
      (refine TE.ret' (by first | exact .inl rfl | exact .inr rfl) rfl tysOk (()) ?_ rfl (by rfl) ?_; all_goals (try (first | exact trivial | ((with_reducible refine AllP.go ?_); dsimp only [AllP, appP]; repeat' (first | with_reducible rfl | with_reducible exact LeD.refl | refine And.intro ?_ ?_ | (refine congrArg (Value.int _) ?_; first | omega | rfl | (simp only [Int.toNat_natCast]; omega)) | rfl | (refine congrArg Value.bool ?_; assumption) | exact LeD.refl)))))
    all_goals (refine TE.only [48, 47, 5, 4, 3, 0] (by rfl) ?_)
    all_goals (refine TE.yield L rfl (by rfl) (by rfl) rfl rfl (by rfl) (by rfl) (by rfl) rfl (by rfl) ?_)
    all_goals intro Qr w1 B1 S1 ν1 rd
    all_goals (repeat (first | (with_reducible refine AllP.go ?_; (first | exact trivial | exact fun i _ => ⟨_, rfl⟩ | ((try simp only [OS]); repeat' (first | omega | exact fun i _ => ⟨_, rfl⟩ | refine And.intro ?_ ?_)))) | (refine TE.rgo tysOk rfl (by rfl) ?_ ?_) | (with_reducible first | refine t1 ?_ | refine t2 ?_ | refine t3 ?_ | refine t4 ?_ | refine t5 ?_ | refine t6 ?_ | refine t7 ?_ | refine t8 ?_ | refine t9 ?_ | refine tA ?_ | refine tB ?_ | refine tC ?_ | refine tD rfl ?_ | refine tE ?_ | refine tF ?_ | refine tG ?_ | refine tH ?_ | refine tI ?_ | refine tJ ?_ | refine tK ?_ | refine tL ?_) | (with_reducible first | exact PanicOk.body | exact rd.panic | refine PanicOk.then' ?_ | refine PanicOk.block ?_ | refine PanicOk.jump ?_) | (refine TE.drawC (by rfl) (by rfl) (by rfl) (by rfl) ?_) | (refine TE.drawN (by rfl) (by rfl) (by rfl) ?_) | (refine TL.done (by rfl) ?_) | (refine TL.auto tysOk rfl ?_ (by rfl) ?_ ?_) | ((refine TL.one (by rfl) ?_); first | (refine StepL.mem tysOk rfl rfl rfl rfl (by rfl) ?_ (by rfl) ?_) | (refine StepL.pure tysOk rfl rfl rfl rfl (by rfl) ?_ (by rfl) ?_)) | (refine StepL.mem tysOk rfl rfl rfl rfl (by rfl) ?_ (by rfl) ?_) | refine TE.cond_true (by rfl) ?_ | refine TE.cond_false (by rfl) ?_))
    all_goals refine rd.begin ?_
    all_goals clear rd
    all_goals intro w1 B1 S1 ν1 rd
    all_goals (repeat' (first | (with_reducible refine AllP.go ?_; (first | exact trivial | exact fun i _ => ⟨_, rfl⟩ | ((try simp only [OS]); repeat' (first | omega | exact fun i _ => ⟨_, rfl⟩ | refine And.intro ?_ ?_)))) | (refine TE.rgo tysOk rfl (by rfl) ?_ ?_) | (with_reducible first | refine t1 ?_ | refine t2 ?_ | refine t3 ?_ | refine t4 ?_ | refine t5 ?_ | refine t6 ?_ | refine t7 ?_ | refine t8 ?_ | refine t9 ?_ | refine tA ?_ | refine tB ?_ | refine tC ?_ | refine tD rfl ?_ | refine tE ?_ | refine tF ?_ | refine tG ?_ | refine tH ?_ | refine tI ?_ | refine tJ ?_ | refine tK ?_ | refine tL ?_) | refine TE.cond_true (by rfl) ?_ | refine TE.cond_false (by rfl) ?_ | ((refine TE.gsplit (by rfl) (by rfl) ?_ ?_ <;> intro h <;> (try simp only [NS] at h) <;> (try (exfalso; first | omega | exact h trivial | exact h | exact h rfl | contradiction))) <;> (refine TE.run tysOk rfl (by rfl) ?_ ?_)) | ((first | refine TL.gsplit (by rfl) (by rfl) ?_ ?_ | refine TE.cond_split (by rfl) ?_ ?_) <;> intro h <;> (try simp only [NS] at h) <;> (try (exfalso; first | omega | exact h trivial | exact h | exact h rfl | contradiction)))))
    all_goals refine rd.normal ?_
    all_goals ((refine TE.run tysOk rfl (by rfl) ?_ ?_); (repeat' (first | (with_reducible refine AllP.go ?_; (first | exact trivial | exact fun i _ => ⟨_, rfl⟩ | ((try simp only [OS]); repeat' (first | omega | exact fun i _ => ⟨_, rfl⟩ | refine And.intro ?_ ?_)))) | (refine TE.rgo tysOk rfl (by rfl) ?_ ?_) | (with_reducible first | refine t1 ?_ | refine t2 ?_ | refine t3 ?_ | refine t4 ?_ | refine t5 ?_ | refine t6 ?_ | refine t7 ?_ | refine t8 ?_ | refine t9 ?_ | refine tA ?_ | refine tB ?_ | refine tC ?_ | refine tD rfl ?_ | refine tE ?_ | refine tF ?_ | refine tG ?_ | refine tH ?_ | refine tI ?_ | refine tJ ?_ | refine tK ?_ | refine tL ?_) | refine TE.cond_true (by rfl) ?_ | refine TE.cond_false (by rfl) ?_ | ((refine TE.gsplit (by rfl) (by rfl) ?_ ?_ <;> intro h <;> (try simp only [NS] at h) <;> (try (exfalso; first | omega | exact h trivial | exact h | exact h rfl | contradiction))) <;> (refine TE.run tysOk rfl (by rfl) ?_ ?_)) | ((first | refine TL.gsplit (by rfl) (by rfl) ?_ ?_ | refine TE.cond_split (by rfl) ?_ ?_) <;> intro h <;> (try simp only [NS] at h) <;> (try (exfalso; first | omega | exact h trivial | exact h | exact h rfl | contradiction))))))
    all_goals (with_reducible first | refine TE.jfN ?_ | refine TE.jfR ?_ | refine TE.jfE ?_ | refine TE.jfG ?_)
    · have hL := hL1 (by assumption)
      have h : (((l.drop (i + n)).getD (Int.toNat 0) 0).toNat : Int) = 32 := by assumption
      rw [hgd] at h
      refine TE.at (.inl (i + n + 1, out ++ [f])) ⟨rfl, ⟨by dsimp only; omega, by dsimp only; omega, fields_more g4 g3 (by omega) (Int.ofNat.inj h)⟩, by dsimp only; omega⟩ ?_
      (refine Ent.of rfl rfl (by rfl) ?_; (try (first | exact trivial | ((with_reducible refine AllP.go ?_); dsimp only [AllP, appP]; repeat' (first | with_reducible rfl | with_reducible exact LeD.refl | refine And.intro ?_ ?_ | (refine congrArg (Value.int _) ?_; first | omega | rfl | (simp only [Int.toNat_natCast]; omega)) | rfl | (refine congrArg Value.bool ?_; assumption) | exact LeD.refl)))))
      · exact congrArg Value.string he2
      · exact listC_snocX (f := fdR) _ rfl (nth2x (LeX.of_eq rfl) (LeX.of_eq rfl))
    · have hL := hL2 (by assumption)
      have h : (((l.drop (i + n)).getD (Int.toNat 0) 0).toNat : Int) = 32 := by assumption
      rw [hgd] at h
      refine TE.at (.inl (i + n + 1, out ++ [f])) ⟨rfl, ⟨by dsimp only; omega, by dsimp only; omega, fields_more g4 g3 (by omega) (Int.ofNat.inj h)⟩, by dsimp only; omega⟩ ?_
      (refine Ent.of rfl rfl (by rfl) ?_; (try (first | exact trivial | ((with_reducible refine AllP.go ?_); dsimp only [AllP, appP]; repeat' (first | with_reducible rfl | with_reducible exact LeD.refl | refine And.intro ?_ ?_ | (refine congrArg (Value.int _) ?_; first | omega | rfl | (simp only [Int.toNat_natCast]; omega)) | rfl | (refine congrArg Value.bool ?_; assumption) | exact LeD.refl)))))
      · exact congrArg Value.string he2
      · exact listC_snocX (f := fdR) _ rfl (nth2x (LeX.of_eq rfl) (LeX.of_eq rfl))
      · exact hL
    · refine TE.iterEnd L (by first | exact .inl rfl | exact .inr rfl) (by rfl) ?_
      (repeat' (first | (with_reducible refine AllP.go ?_; (first | exact trivial | exact fun i _ => ⟨_, rfl⟩ | ((try simp only [OS]); repeat' (first | omega | exact fun i _ => ⟨_, rfl⟩ | refine And.intro ?_ ?_)))) | (refine TE.rgo tysOk rfl (by rfl) ?_ ?_) | (with_reducible first | refine t1 ?_ | refine t2 ?_ | refine t3 ?_ | refine t4 ?_ | refine t5 ?_ | refine t6 ?_ | refine t7 ?_ | refine t8 ?_ | refine t9 ?_ | refine tA ?_ | refine tB ?_ | refine tC ?_ | refine tD rfl ?_ | refine tE ?_ | refine tF ?_ | refine tG ?_ | refine tH ?_ | refine tI ?_ | refine tJ ?_ | refine tK ?_ | refine tL ?_) | refine TE.cond_true (by rfl) ?_ | refine TE.cond_false (by rfl) ?_ | ((refine TE.gsplit (by rfl) (by rfl) ?_ ?_ <;> intro h <;> (try simp only [NS] at h) <;> (try (exfalso; first | omega | exact h trivial | exact h | exact h rfl | contradiction))) <;> (refine TE.run tysOk rfl (by rfl) ?_ ?_)) | ((first | refine TL.gsplit (by rfl) (by rfl) ?_ ?_ | refine TE.cond_split (by rfl) ?_ ?_) <;> intro h <;> (try simp only [NS] at h) <;> (try (exfalso; first | omega | exact h trivial | exact h | exact h rfl | contradiction)))))
      rw [b3 (by omega) (.inl (hL1 (by assumption)).symm)]
      (refine TE.ret' (by first | exact .inl rfl | exact .inr rfl) rfl tysOk (()) ?_ rfl (by rfl) ?_; all_goals (try (first | exact trivial | ((with_reducible refine AllP.go ?_); dsimp only [AllP, appP]; repeat' (first | with_reducible rfl | with_reducible exact LeD.refl | refine And.intro ?_ ?_ | (refine congrArg (Value.int _) ?_; first | omega | rfl | (simp only [Int.toNat_natCast]; omega)) | rfl | (refine congrArg Value.bool ?_; assumption) | exact LeD.refl)))))
    · have hap : (appC (fdC out) (litC [[DC.c (Value.string (sB f.1)), DC.c (Value.bool f.2)]])).n = out.length + 1 := rfl
      refine TE.iterEnd L (by first | exact .inl rfl | exact .inr rfl) (by rfl) ?_
      (repeat' (first | (with_reducible refine AllP.go ?_; (first | exact trivial | exact fun i _ => ⟨_, rfl⟩ | ((try simp only [OS]); repeat' (first | omega | exact fun i _ => ⟨_, rfl⟩ | refine And.intro ?_ ?_)))) | (refine TE.rgo tysOk rfl (by rfl) ?_ ?_) | (with_reducible first | refine t1 ?_ | refine t2 ?_ | refine t3 ?_ | refine t4 ?_ | refine t5 ?_ | refine t6 ?_ | refine t7 ?_ | refine t8 ?_ | refine t9 ?_ | refine tA ?_ | refine tB ?_ | refine tC ?_ | refine tD rfl ?_ | refine tE ?_ | refine tF ?_ | refine tG ?_ | refine tH ?_ | refine tI ?_ | refine tJ ?_ | refine tK ?_ | refine tL ?_) | refine TE.cond_true (by rfl) ?_ | refine TE.cond_false (by rfl) ?_ | ((refine TE.gsplit (by rfl) (by rfl) ?_ ?_ <;> intro h <;> (try simp only [NS] at h) <;> (try (exfalso; first | omega | exact h trivial | exact h | exact h rfl | contradiction))) <;> (refine TE.run tysOk rfl (by rfl) ?_ ?_)) | ((first | refine TL.gsplit (by rfl) (by rfl) ?_ ?_ | refine TE.cond_split (by rfl) ?_ ?_) <;> intro h <;> (try simp only [NS] at h) <;> (try (exfalso; first | omega | exact h trivial | exact h | exact h rfl | contradiction)))))
      · rw [b3 (by omega) (.inl ((hL2 (by assumption)).symm.trans (decide_eq_true h)))]
        (refine TE.ret' (by first | exact .inl rfl | exact .inr rfl) rfl tysOk (()) ?_ rfl (by rfl) ?_; all_goals (try (first | exact trivial | ((with_reducible refine AllP.go ?_); dsimp only [AllP, appP]; repeat' (first | with_reducible rfl | with_reducible exact LeD.refl | refine And.intro ?_ ?_ | (refine congrArg (Value.int _) ?_; first | omega | rfl | (simp only [Int.toNat_natCast]; omega)) | rfl | (refine congrArg Value.bool ?_; assumption) | exact LeD.refl)))))
      · rw [b3 (by omega) (.inr (by omega))]
        (refine TE.ret' (by first | exact .inl rfl | exact .inr rfl) rfl tysOk (()) ?_ rfl (by rfl) ?_; all_goals (try (first | exact trivial | ((with_reducible refine AllP.go ?_); dsimp only [AllP, appP]; repeat' (first | with_reducible rfl | with_reducible exact LeD.refl | refine And.intro ?_ ?_ | (refine congrArg (Value.int _) ?_; first | omega | rfl | (simp only [Int.toNat_natCast]; omega)) | rfl | (refine congrArg Value.bool ?_; assumption) | exact LeD.refl)))))
      · (refine TE.freezeN 14 (by rfl) (by rfl) ?_)
        rw [b0 (by omega) (fun e => e.elim (fun e => by rw [← hL2 (by assumption)] at e; have := of_decide_eq_true e; omega) (fun e => by omega))]
        (refine TE.ret' (by first | exact .inl rfl | exact .inr rfl) rfl tysOk (()) ?_ rfl (by rfl) ?_; all_goals (try (first | exact trivial | ((with_reducible refine AllP.go ?_); dsimp only [AllP, appP]; repeat' (first | with_reducible rfl | with_reducible exact LeD.refl | refine And.intro ?_ ?_ | (refine congrArg (Value.int _) ?_; first | omega | rfl | (simp only [Int.toNat_natCast]; omega)) | rfl | (refine congrArg Value.bool ?_; assumption) | exact LeD.refl)))))
        exact listC_snocX (f := fdR) _ rfl (nth2x (LeX.of_eq rfl) (LeX.of_eq rfl))
end Go.Proofs.YtmeapfckibbbbaaGreatDoor.Am
/- The words: a strings.Builder and what is written on it. -/
set_option linter.unusedVariables false
namespace Go.Proofs.YtmeapfckibbbbaaGreatDoor.Am
open Go.RowKit Lw Go.Shelf
section
variable {P : Program}
/-- A function that leaves the world as it was, the chunks that it takes among it. -/
theorem con_id {ι : Type} {f : FuncId} {args : List AV} {takes : List Chunk} {m : Nat} {pre : ι → Prop} {res : ι → AV} {fn : Func} (hf : P.funcs[f]? = some fn) (hn : (fn.name == "runtime.NumGoroutine") = false) (hb : fn.body.isNone = false) (wfT : allB (Chunk.ltB m) takes = true) (wf : ∀ x, (res x).ltB m = true)
    (h : ∀ w S ν vs, All2 (AV.rel w S ν) args vs → (∀ c ∈ takes, c.holds w S ν) → Calls P f vs.toArray w fun e w' => ∃ x u, e = .returned u ∧ pre x ∧ (res x).rel w S ν u ∧ w' = w) : Con P f args takes m m pre res (fun _ => takes) := by
  refine ⟨⟨fn, hf, hn, hb⟩, wfT, Nat.le_refl _, fun x => ⟨wf x, wfT⟩, fun w S ν vs ha ht hnd hbk hS => Calls.mono (h w S ν vs ha ht) ?_⟩
  rintro e w' ⟨x, u, he, hp, hr, rfl⟩
  exact ⟨x, S, ν, u, he, hp, hr, Fr.refl _ _, fun _ _ => rfl, fun _ h => h, fun b hb => ⟨hS b hb, .inl hb⟩, ht, hnd, fun b hb => ⟨(hbk b hb).1, (hbk b hb).2, .inl hb⟩⟩
end
/-- A builder that nothing was written on, one that was written on. -/
abbrev blN (l : List UInt8) : List Chunk := [.box 0 51 [.c (.pointer none), .own 1], .own 1 5 1 (bytesC l)]
abbrev blC (l : List UInt8) : List Chunk := [.box 0 51 [.ptr 0 0, .own 1], .own 1 5 1 (bytesC l)]
abbrev blG (l : List UInt8) : List Chunk := [.box 0 51 [.ptr 0 0, .own 2], .own 2 5 1 (bytesC l)]
set_option maxRecDepth 20000 in
theorem ccU_c (l : List UInt8) : Con Tryz.prog 47 [.o (.ptr 0 0)] (blC l) 2 2 U (fun _ => .t []) (fun _ => blC l) := by
  refine con_id (fn := Tryz.f47) Tryz.func47 (by kernel_rfl) (by kernel_rfl) rfl (fun _ => rfl) fun w S ν vs hv ht => ?_
  obtain ⟨b, us, h1, h2, h3⟩ := ht _ (List.mem_cons_self ..)
  cases vs with
  | nil => exact hv.elim
  | cons v vs =>
    cases vs with
    | cons _ _ => exact hv.2.elim
    | nil =>
      obtain ⟨⟨b', k1, k2⟩, _⟩ := hv
      rw [h1] at k1
      cases k1
      cases us with
      | nil => exact h3.elim
      | cons u us =>
        obtain ⟨⟨b2, g1, g2⟩, _⟩ := h3
        rw [h1] at g1
        cases g1
        dsimp only at k2 g2
        subst k2
        have c0 : w.cell? ⟨b, 0, none⟩ = some (.pointer (some ⟨b, 0, none⟩)) := by rw [Lib.cell_of_heap h2, g2]; rfl
        refine Calls.mono (Any.Builder_copyCheck_used (ρ := Tryz.lays156_ren) { Tryz.lays156 with } Tryz.Builder_Extra_156.toX72 b w c0) ?_
        rintro e w' ⟨rfl, rfl⟩
        exact ⟨(), _, rfl, trivial, ⟨[], rfl, trivial⟩, rfl⟩
set_option maxRecDepth 20000 in
theorem ccN_c (l : List UInt8) : Con Tryz.prog 47 [.o (.ptr 0 0)] (blN l) 2 2 U (fun _ => .t []) (fun _ => blC l) := by
  refine ⟨⟨Tryz.f47, Tryz.func47, by kernel_rfl, by kernel_rfl⟩, rfl, Nat.le_refl _, fun x => ⟨rfl, rfl⟩, fun w S ν vs hv ht hnd hbk hS => ?_⟩
  obtain ⟨b, us, h1, h2, h3⟩ := ht _ (List.mem_cons_self ..)
  have ho := ht _ (List.mem_cons_of_mem _ (List.mem_cons_self ..))
  cases vs with
  | nil => exact hv.elim
  | cons v vs =>
    cases vs with
    | cons _ _ => exact hv.2.elim
    | nil =>
      obtain ⟨⟨b', k1, k2⟩, _⟩ := hv
      rw [h1] at k1
      cases k1
      match us, h3, h2 with
      | [u0, u1], ⟨g0, g1, _⟩, h2 =>
        obtain ⟨g0, _⟩ := g0
        subst g0
        dsimp only at k2
        subst k2
        have c0 : w.cell? ⟨b, 0, none⟩ = some (.pointer none) := by rw [Lib.cell_of_heap h2]; rfl
        have hsh : w.shape? b = some (51, 2) := by simp [World.shape?, h2]
        have hfz : w.frozen? ⟨b, 0, none⟩ = false := Lib.frozen_of_heap h2 0
        have hbk0 : b ∈ blks ν (blN l) := mem_blks.2 ⟨_, List.mem_cons_self .., by simp [Chunk.blk, h1]⟩
        have hne : ∀ k, (Chunk.own 1 5 1 (bytesC l)).blk ν = some k → k ≠ b := by
          intro k hk e
          subst e
          simp only [blks, blN, List.filterMap_cons, List.filterMap_nil, hk] at hnd
          have e0 : (Chunk.box 0 51 [.c (.pointer none), .own 1]).blk ν = some k := by simp [Chunk.blk, h1]
          rw [e0] at hnd
          simp at hnd
        have gr : Gr w (w.setCell ⟨b, 0, none⟩ (.pointer (some ⟨b, 0, none⟩))) S S := ⟨by simp [World.setCell], fun k hs _ => Below.heap_setCell w ⟨b, 0, none⟩ _ k fun e => (hbk b hbk0).2 (by have e : k = b := e; rw [← e]; exact hs), fun _ h => h⟩
        have eb : ∀ {A B : List A1}, blks ν [.box 0 51 A, .own 1 5 1 (bytesC l)] = blks ν [.box 0 51 B, .own 1 5 1 (bytesC l)] := rfl
        refine Calls.mono (Any.Builder_copyCheck_fresh (ρ := Tryz.lays156_ren) { Tryz.lays156 with } Tryz.Builder_Extra_156.toX72 b w c0 hsh hfz) ?_
        rintro e w' ⟨rfl, rfl⟩
        refine ⟨(), S, ν, _, rfl, trivial, ⟨[], rfl, trivial⟩, ⟨rfl, rfl, rfl, by simp [World.setCell], fun k hk hn => Below.heap_setCell w ⟨b, 0, none⟩ _ k fun e => hn (by have e : k = b := e; rw [e]; exact hbk0)⟩, fun _ _ => rfl, fun _ h => h, fun k hk => ⟨by have := hS k hk; simpa [World.setCell] using this, .inl hk⟩, ?_, ?_, ?_⟩
        · intro c hc
          rcases List.mem_cons.1 hc with rfl | hc
          · exact ⟨b, [.pointer (some ⟨b, 0, none⟩), u1], h1, heap_setCell_same h2, ⟨b, h1, rfl⟩, A1.mono (m := 2) gr (fun _ _ => rfl) (show 1 < 2 by decide) g1, trivial⟩
          · rw [List.mem_singleton.1 hc]
            exact Chunk.mono (m := 2) gr (fun _ _ => rfl) (show 1 < 2 by decide) (fun k hk => Below.heap_setCell w ⟨b, 0, none⟩ _ k (hne k hk)) ho
        · exact hnd
        · intro k hk
          have := hbk k hk
          exact ⟨by simpa [World.setCell] using this.1, this.2, .inl hk⟩
section
variable {P : Program} {st : AS} {o : Oper} {K : Nat → Bool}
/-- unsafe.SliceData of a slice of the call's own that is not empty. -/
theorem m_sliceData {c : Call} {x : Operand} {t id E sz : Nat} {ct : Ct} (ho : o.op = .call c) (hc : c.callee = .builtin .unsafeSliceData) (hx : c.args.toList = [x]) (ht : c.argTypes.toList = [t]) (hv : aop st x = some (.o (.own id))) (hf : findOwn (fun _ => true) st.hp id = some (E, sz, ct)) (hn : 0 < ct.n) : StepTo P K o st (· = st.put o.dst (.o (.optr id sz 0 0))) := by
  intro X S ν a w Q K' hd sat hk
  obtain ⟨xs, h1, _⟩ := sat.hp _ (findOwn_ok hf).1
  obtain ⟨⟨h2, _⟩, h3⟩ := aop_ok sat hv
  obtain ⟨g, cap, e1, e2⟩ : ∃ g cap, ν id = .slice (some ⟨g, 0, none⟩) ct.n cap ∧ ct.n ≤ cap := by
    rcases h1.2 with ⟨_, hz⟩ | ⟨g, cap, cur, e1, _, _, e4, _⟩
    · omega
    · exact ⟨g, cap, e1, e4⟩
  obtain ⟨cs, ex⟩ := exec_builtin (a := a) ho hc hx (show c.argTypes = #[t] by rw [← Array.toList_inj]; exact ht)
  refine wp_value (w' := w) (u := .pointer (some ⟨g, 0, none⟩)) ?_ (hk _ S ν _ _ rfl (sat.put hd (v := .o (.optr id sz 0 0)) ⟨g, ct.n, cap, e1, by simp⟩ h3) ⟨Nat.le_refl _, fun _ h => h, fun ch hc hk => ⟨by rw [(AS.put_hp _ _ _).1]; exact hc, rfl⟩, fun _ _ => rfl⟩)
  rw [ex]
  have hr := Lib.run_unsafeSliceData_row (P := P) (w := w) #[t] o.type ⟨g, 0, none⟩ ct.n cap (by omega)
  simp only [builtin, List.map_cons, List.map_nil, Sem.run_bind, h2, e1]
  rw [hr]
  rfl
/-- unsafe.String of all bytes of a slice of the call's own: the slice is given up. -/
theorem m_unsafeString {c : Call} {p x : Operand} {pt it id E : Nat} {l : List UInt8} {rest : List Chunk} (ho : o.op = .call c) (hc : c.callee = .builtin .unsafeString) (hx : c.args.toList = [p, x]) (ht : c.argTypes.toList = [pt, it]) (hp : P.underlying pt = some (.pointer E)) (hE : P.cellsOf E = 1) (hv : aop st p = some (.o (.optr id 1 0 0))) (hl : aop st x = some (.o (.c (.int .i64 (l.length : Nat))))) (hf : takeOwn (fun i => !K i) st.hp id = some (E, 1, bytesC l, rest)) (hn : l ≠ []) : StepTo P K o st (· = (AS.mk st.env rest st.nid).put o.dst (.o (.c (.string (sB l))))) := by
  intro X S ν a w Q K' hd sat hk
  obtain ⟨hperm, hK⟩ := takeOwn_perm hf
  have hmem : Chunk.own id E 1 (bytesC l) ∈ st.hp := hperm.symm.subset (List.mem_cons_self ..)
  obtain ⟨xs, h1, h1b⟩ := sat.hp _ hmem
  have hn0 : 0 < l.length := List.length_pos_iff.2 hn
  have hbn : (bytesC l).n = l.length := rfl
  rw [hbn] at h1 h1b
  obtain ⟨g, cap, cur, e1, e3, e4, e5, e6, e7⟩ : ∃ g cap cur, ν id = .slice (some ⟨g, 0, none⟩) l.length cap ∧ w.heap[g]? = some (.cells cur E (0, 0)) ∧ l.length ≤ cap ∧ cap ≤ maxLen ∧ cur.size = cap * 1 ∧ cur.toList.take (l.length * 1) = xs := by
    rcases h1.2 with ⟨_, hz⟩ | ⟨g, cap, cur, e1, _, e3, e4, e5, e6, e7⟩
    · omega
    · exact ⟨g, cap, cur, e1, e3, e4, e5, e6, e7⟩
  have hblk : (Chunk.own id E 1 (bytesC l)).blk ν = some g := by simp [Chunk.blk, e1, Value.ownBlock]
  obtain ⟨⟨g', n', cp', k1, k2⟩, _⟩ := aop_ok sat hv
  rw [e1] at k1
  cases k1
  have hl2 : a.eval x = .int .i64 (l.length : Nat) := (aop_ok sat hl).1.1
  obtain ⟨cs, ex⟩ := exec_builtin (a := a) ho hc hx (show c.argTypes = #[pt, it] by rw [← Array.toList_inj]; exact ht)
  have hcell : ∀ j x, l[j]? = some x → w.cell? ((⟨g, 0, none⟩ : Addr).add j) = some (.int .u8 x.toNat) := fun j x hj => by
    have hjl : j < l.length := (List.getElem?_eq_some_iff.1 hj).1
    obtain ⟨u, u1, u2⟩ := h1b j 0 hjl (by decide)
    have hadd : (⟨g, 0, none⟩ : Addr).add j = ⟨g, j, none⟩ := (Lib.add_plain g 0 j).trans (by rw [Nat.zero_add])
    rw [hadd, Lib.cell_of_heap e3]
    have : xs[j]? = cur[j]? := by
      rw [← e7, List.getElem?_take, if_pos (by omega)]
      simp
    rw [Nat.mul_one, Nat.add_zero, this] at u1
    rw [u1, u2.1]
    show some (Value.int .u8 ((l.getD j 0).toNat : Int)) = _
    rw [List.getD_eq_getElem?_getD, hj, Option.getD_some]
  have hrun := Lib.run_unsafeString_row (P := P) w pt it o.type E hp hE g cur.size (by simp [World.shape?, e3]) l hn (by omega) (by unfold maxLen at e5; omega) hcell
  have hw' : (w.freeze ⟨g, 0, none⟩ l.length).heap.size = w.heap.size ∧ ∀ k, k ≠ g → (w.freeze ⟨g, 0, none⟩ l.length).heap[k]? = w.heap[k]? := by
    unfold World.freeze
    rw [if_neg (by omega)]
    refine ⟨by simp, fun k hk => ?_⟩
    simp only [Array.getElem?_modify]
    rw [if_neg (fun e => hk e.symm)]
  have hos : (w.freeze ⟨g, 0, none⟩ l.length).os = w.os ∧ (w.freeze ⟨g, 0, none⟩ l.length).tape = w.tape ∧ (w.freeze ⟨g, 0, none⟩ l.length).output = w.output := by
    unfold World.freeze
    rw [if_neg (by omega)]
    exact ⟨rfl, rfl, rfl⟩
  have hgb : g ∈ blks ν st.hp := mem_blks.2 ⟨_, hmem, hblk⟩
  obtain ⟨s1, s2⟩ := swap_kp (takes := [.own id E 1 (bytesC l)]) (gives := []) (rest := rest) (nid := st.nid) (ν' := ν) (S' := S) (K := K) (w' := w.freeze ⟨g, 0, none⟩ l.length) (o := o) (av := .o (.c (.string (sB l)))) (u := .string (sB l)) hd sat hperm
    (fun ch hc => by rw [List.mem_singleton.1 hc]; show K id = false; simpa using hK) ⟨hos.1, hos.2.1, hos.2.2, by rw [hw'.1]; exact Nat.le_refl _, fun k hk hn => hw'.2 k fun e => hn (mem_blks.2 ⟨_, List.mem_singleton.2 rfl, by rw [e]; exact hblk⟩)⟩ (fun _ _ => rfl) (fun _ h => h)
    (fun b hb => ⟨by rw [hw'.1]; exact (sat.imm b hb).1, .inl hb⟩) (fun c hc => nomatch hc) List.nodup_nil (fun b hb => nomatch hb) (fun c hc => nomatch hc) (Nat.le_refl _) ⟨rfl, rfl⟩ trivial
  refine wp_value (w' := w.freeze ⟨g, 0, none⟩ l.length) (u := .string (sB l)) ?_ (hk _ S ν _ _ rfl s1 s2)
  rw [ex]
  have k2' : a.eval p = .pointer (some ⟨g, 0, none⟩) := by rw [k2]
  simp only [builtin, List.map_cons, List.map_nil, Sem.run_bind, k2', hl2]
  rw [hrun]
  rfl
end
theorem str_ap (l s : List UInt8) : LeDC 1 (appC (bytesC l) (strC (sB s))) (bytesC (l ++ s)) := bytes_app (LeDC.refl _ _) (LeDC.refl _ _) rfl
set_option maxRecDepth 20000 in
theorem blWB_c (l : List UInt8) (c : UInt8) (hl : l.length ≤ 1000000) : Con Tryz.prog 22 [.o (.ptr 0 0), .o (.c (.int .u8 c.toNat))] (blC l) 2 3 U (fun _ => .o (.c .nilIface)) (fun _ => blG (l ++ [c])) := by
  refine con_of Tryz.func22 rfl (by kernel_rfl) Tryz.ntmps22 rfl (by first | exact Nat.zero_le _ | decide) (fun _ => ⟨rfl, rfl⟩) fun w S ν => ?_
  (repeat (first | (with_reducible refine AllP.go ?_; (first | exact trivial | exact fun i _ => ⟨_, rfl⟩ | ((try simp only [OS]); repeat' (first | omega | exact fun i _ => ⟨_, rfl⟩ | refine And.intro ?_ ?_)))) | (refine TE.rgo tysOk rfl (by rfl) ?_ ?_) | (with_reducible first | refine t1 ?_ | refine t2 ?_ | refine t3 ?_ | refine t4 ?_ | refine t5 ?_ | refine t6 ?_ | refine t7 ?_ | refine t8 ?_ | refine t9 ?_ | refine tA ?_ | refine tB ?_ | refine tC ?_ | refine tD rfl ?_ | refine tE ?_ | refine tF ?_ | refine tG ?_ | refine tH ?_ | refine tI ?_ | refine tJ ?_ | refine tK ?_ | refine tL ?_) | (with_reducible first | exact PanicOk.body | exact rd.panic | refine PanicOk.then' ?_ | refine PanicOk.block ?_ | refine PanicOk.jump ?_) | (refine TE.drawC (by rfl) (by rfl) (by rfl) (by rfl) ?_) | (refine TE.drawN (by rfl) (by rfl) (by rfl) ?_) | (refine TL.done (by rfl) ?_) | (refine TL.auto tysOk rfl ?_ (by rfl) ?_ ?_) | ((refine TL.one (by rfl) ?_); first | (refine StepL.mem tysOk rfl rfl rfl rfl (by rfl) ?_ (by rfl) ?_) | (refine StepL.pure tysOk rfl rfl rfl rfl (by rfl) ?_ (by rfl) ?_)) | (refine StepL.mem tysOk rfl rfl rfl rfl (by rfl) ?_ (by rfl) ?_) | refine TE.cond_true (by rfl) ?_ | refine TE.cond_false (by rfl) ?_))
  refine TE.callW (ccU_c l) rfl (by rfl) (by rfl) rfl (by rfl) (by (first | exact trivial | ((with_reducible refine AllP.go ?_); dsimp only [AllP, appP]; repeat' (first | with_reducible rfl | with_reducible exact LeD.refl | refine And.intro ?_ ?_ | (refine congrArg (Value.int _) ?_; first | omega | rfl | (simp only [Int.toNat_natCast]; omega)) | rfl | (refine congrArg Value.bool ?_; assumption) | assumption | exact LeD.refl)))) ?_
  intro _ _
  ((refine TE.run tysOk rfl (by rfl) ?_ ?_); (repeat (first | (with_reducible refine AllP.go ?_; (first | exact trivial | exact fun i _ => ⟨_, rfl⟩ | ((try simp only [OS]); repeat' (first | omega | exact fun i _ => ⟨_, rfl⟩ | refine And.intro ?_ ?_)))) | (refine TE.rgo tysOk rfl (by rfl) ?_ ?_) | (with_reducible first | refine t1 ?_ | refine t2 ?_ | refine t3 ?_ | refine t4 ?_ | refine t5 ?_ | refine t6 ?_ | refine t7 ?_ | refine t8 ?_ | refine t9 ?_ | refine tA ?_ | refine tB ?_ | refine tC ?_ | refine tD rfl ?_ | refine tE ?_ | refine tF ?_ | refine tG ?_ | refine tH ?_ | refine tI ?_ | refine tJ ?_ | refine tK ?_ | refine tL ?_) | (with_reducible first | exact PanicOk.body | exact rd.panic | refine PanicOk.then' ?_ | refine PanicOk.block ?_ | refine PanicOk.jump ?_) | (refine TE.drawC (by rfl) (by rfl) (by rfl) (by rfl) ?_) | (refine TE.drawN (by rfl) (by rfl) (by rfl) ?_) | (refine TL.done (by rfl) ?_) | (refine TL.auto tysOk rfl ?_ (by rfl) ?_ ?_) | ((refine TL.one (by rfl) ?_); first | (refine StepL.mem tysOk rfl rfl rfl rfl (by rfl) ?_ (by rfl) ?_) | (refine StepL.pure tysOk rfl rfl rfl rfl (by rfl) ?_ (by rfl) ?_)) | (refine StepL.mem tysOk rfl rfl rfl rfl (by rfl) ?_ (by rfl) ?_) | refine TE.cond_true (by rfl) ?_ | refine TE.cond_false (by rfl) ?_)))
  (refine TE.ret' (by first | exact .inl rfl | exact .inr rfl) rfl tysOk (()) ?_ rfl (by rfl) ?_; all_goals (try (first | exact trivial | ((with_reducible refine AllP.go ?_); dsimp only [AllP, appP]; repeat' (first | with_reducible rfl | with_reducible exact LeD.refl | refine And.intro ?_ ?_ | (refine congrArg (Value.int _) ?_; first | omega | rfl | (simp only [Int.toNat_natCast]; omega)) | rfl | (refine congrArg Value.bool ?_; assumption) | exact LeD.refl)))))
  exact bytes_app (LeDC.refl _ _) (byte_lit rfl) rfl
set_option maxRecDepth 20000 in
theorem blWSN_c (l s : List UInt8) (hl : l.length + s.length ≤ 1000000) : Con Tryz.prog 23 [.o (.ptr 0 0), .o (.c (.string (sB s)))] (blN l) 2 3 U (fun _ => .t [.inl (.c (.int .i64 (s.length : Nat))), .inl (.c .nilIface)]) (fun _ => blG (l ++ s)) := by
  refine con_of Tryz.func23 rfl (by kernel_rfl) Tryz.ntmps23 rfl (by first | exact Nat.zero_le _ | decide) (fun _ => ⟨rfl, rfl⟩) fun w S ν => ?_
  have hz := sB_size s
  (repeat (first | (with_reducible refine AllP.go ?_; (first | exact trivial | exact fun i _ => ⟨_, rfl⟩ | ((try simp only [OS]); repeat' (first | omega | exact fun i _ => ⟨_, rfl⟩ | refine And.intro ?_ ?_)))) | (refine TE.rgo tysOk rfl (by rfl) ?_ ?_) | (with_reducible first | refine t1 ?_ | refine t2 ?_ | refine t3 ?_ | refine t4 ?_ | refine t5 ?_ | refine t6 ?_ | refine t7 ?_ | refine t8 ?_ | refine t9 ?_ | refine tA ?_ | refine tB ?_ | refine tC ?_ | refine tD rfl ?_ | refine tE ?_ | refine tF ?_ | refine tG ?_ | refine tH ?_ | refine tI ?_ | refine tJ ?_ | refine tK ?_ | refine tL ?_) | (with_reducible first | exact PanicOk.body | exact rd.panic | refine PanicOk.then' ?_ | refine PanicOk.block ?_ | refine PanicOk.jump ?_) | (refine TE.drawC (by rfl) (by rfl) (by rfl) (by rfl) ?_) | (refine TE.drawN (by rfl) (by rfl) (by rfl) ?_) | (refine TL.done (by rfl) ?_) | (refine TL.auto tysOk rfl ?_ (by rfl) ?_ ?_) | ((refine TL.one (by rfl) ?_); first | (refine StepL.mem tysOk rfl rfl rfl rfl (by rfl) ?_ (by rfl) ?_) | (refine StepL.pure tysOk rfl rfl rfl rfl (by rfl) ?_ (by rfl) ?_)) | (refine StepL.mem tysOk rfl rfl rfl rfl (by rfl) ?_ (by rfl) ?_) | refine TE.cond_true (by rfl) ?_ | refine TE.cond_false (by rfl) ?_))
  refine TE.callW (ccN_c l) rfl (by rfl) (by rfl) rfl (by rfl) (by (first | exact trivial | ((with_reducible refine AllP.go ?_); dsimp only [AllP, appP]; repeat' (first | with_reducible rfl | with_reducible exact LeD.refl | refine And.intro ?_ ?_ | (refine congrArg (Value.int _) ?_; first | omega | rfl | (simp only [Int.toNat_natCast]; omega)) | rfl | (refine congrArg Value.bool ?_; assumption) | assumption | exact LeD.refl)))) ?_
  intro _ _
  ((refine TE.run tysOk rfl (by rfl) ?_ ?_); (repeat' (first | (with_reducible refine AllP.go ?_; (first | exact trivial | exact fun i _ => ⟨_, rfl⟩ | ((try simp only [OS]); repeat' (first | omega | exact fun i _ => ⟨_, rfl⟩ | refine And.intro ?_ ?_)))) | (refine TE.rgo tysOk rfl (by rfl) ?_ ?_) | (with_reducible first | refine t1 ?_ | refine t2 ?_ | refine t3 ?_ | refine t4 ?_ | refine t5 ?_ | refine t6 ?_ | refine t7 ?_ | refine t8 ?_ | refine t9 ?_ | refine tA ?_ | refine tB ?_ | refine tC ?_ | refine tD rfl ?_ | refine tE ?_ | refine tF ?_ | refine tG ?_ | refine tH ?_ | refine tI ?_ | refine tJ ?_ | refine tK ?_ | refine tL ?_) | (with_reducible first | exact PanicOk.body | exact rd.panic | refine PanicOk.then' ?_ | refine PanicOk.block ?_ | refine PanicOk.jump ?_) | (refine TE.drawC (by rfl) (by rfl) (by rfl) (by rfl) ?_) | (refine TE.drawN (by rfl) (by rfl) (by rfl) ?_) | (refine TL.done (by rfl) ?_) | (refine TL.auto tysOk rfl ?_ (by rfl) ?_ ?_) | ((refine TL.one (by rfl) ?_); first | (refine StepL.mem tysOk rfl rfl rfl rfl (by rfl) ?_ (by rfl) ?_) | (refine StepL.pure tysOk rfl rfl rfl rfl (by rfl) ?_ (by rfl) ?_)) | (refine StepL.mem tysOk rfl rfl rfl rfl (by rfl) ?_ (by rfl) ?_) | refine TE.cond_true (by rfl) ?_ | refine TE.cond_false (by rfl) ?_ | ((refine TE.gsplit (by rfl) (by rfl) ?_ ?_ <;> intro h <;> (try simp only [NS] at h) <;> (try (exfalso; first | omega | exact h trivial | exact h | exact h rfl | contradiction))) <;> (refine TE.run tysOk rfl (by rfl) ?_ ?_)) | ((first | refine TL.gsplit (by rfl) (by rfl) ?_ ?_ | refine TE.cond_split (by rfl) ?_ ?_) <;> intro h <;> (try simp only [NS] at h) <;> (try (exfalso; first | omega | exact h trivial | exact h | exact h rfl | contradiction))))))
  rw [hz]
  (refine TE.ret' (by first | exact .inl rfl | exact .inr rfl) rfl tysOk (()) ?_ rfl (by rfl) ?_; all_goals (try (first | exact trivial | ((with_reducible refine AllP.go ?_); dsimp only [AllP, appP]; repeat' (first | with_reducible rfl | with_reducible exact LeD.refl | refine And.intro ?_ ?_ | (refine congrArg (Value.int _) ?_; first | omega | rfl | (simp only [Int.toNat_natCast]; omega)) | rfl | (refine congrArg Value.bool ?_; assumption) | exact LeD.refl)))))
  exact str_ap l s
set_option maxRecDepth 20000 in
theorem blWS_c (l s : List UInt8) (hl : l.length + s.length ≤ 1000000) : Con Tryz.prog 23 [.o (.ptr 0 0), .o (.c (.string (sB s)))] (blC l) 2 3 U (fun _ => .t [.inl (.c (.int .i64 (s.length : Nat))), .inl (.c .nilIface)]) (fun _ => blG (l ++ s)) := by
  refine con_of Tryz.func23 rfl (by kernel_rfl) Tryz.ntmps23 rfl (by first | exact Nat.zero_le _ | decide) (fun _ => ⟨rfl, rfl⟩) fun w S ν => ?_
  have hz := sB_size s
  (repeat (first | (with_reducible refine AllP.go ?_; (first | exact trivial | exact fun i _ => ⟨_, rfl⟩ | ((try simp only [OS]); repeat' (first | omega | exact fun i _ => ⟨_, rfl⟩ | refine And.intro ?_ ?_)))) | (refine TE.rgo tysOk rfl (by rfl) ?_ ?_) | (with_reducible first | refine t1 ?_ | refine t2 ?_ | refine t3 ?_ | refine t4 ?_ | refine t5 ?_ | refine t6 ?_ | refine t7 ?_ | refine t8 ?_ | refine t9 ?_ | refine tA ?_ | refine tB ?_ | refine tC ?_ | refine tD rfl ?_ | refine tE ?_ | refine tF ?_ | refine tG ?_ | refine tH ?_ | refine tI ?_ | refine tJ ?_ | refine tK ?_ | refine tL ?_) | (with_reducible first | exact PanicOk.body | exact rd.panic | refine PanicOk.then' ?_ | refine PanicOk.block ?_ | refine PanicOk.jump ?_) | (refine TE.drawC (by rfl) (by rfl) (by rfl) (by rfl) ?_) | (refine TE.drawN (by rfl) (by rfl) (by rfl) ?_) | (refine TL.done (by rfl) ?_) | (refine TL.auto tysOk rfl ?_ (by rfl) ?_ ?_) | ((refine TL.one (by rfl) ?_); first | (refine StepL.mem tysOk rfl rfl rfl rfl (by rfl) ?_ (by rfl) ?_) | (refine StepL.pure tysOk rfl rfl rfl rfl (by rfl) ?_ (by rfl) ?_)) | (refine StepL.mem tysOk rfl rfl rfl rfl (by rfl) ?_ (by rfl) ?_) | refine TE.cond_true (by rfl) ?_ | refine TE.cond_false (by rfl) ?_))
  refine TE.callW (ccU_c l) rfl (by rfl) (by rfl) rfl (by rfl) (by (first | exact trivial | ((with_reducible refine AllP.go ?_); dsimp only [AllP, appP]; repeat' (first | with_reducible rfl | with_reducible exact LeD.refl | refine And.intro ?_ ?_ | (refine congrArg (Value.int _) ?_; first | omega | rfl | (simp only [Int.toNat_natCast]; omega)) | rfl | (refine congrArg Value.bool ?_; assumption) | assumption | exact LeD.refl)))) ?_
  intro _ _
  ((refine TE.run tysOk rfl (by rfl) ?_ ?_); (repeat' (first | (with_reducible refine AllP.go ?_; (first | exact trivial | exact fun i _ => ⟨_, rfl⟩ | ((try simp only [OS]); repeat' (first | omega | exact fun i _ => ⟨_, rfl⟩ | refine And.intro ?_ ?_)))) | (refine TE.rgo tysOk rfl (by rfl) ?_ ?_) | (with_reducible first | refine t1 ?_ | refine t2 ?_ | refine t3 ?_ | refine t4 ?_ | refine t5 ?_ | refine t6 ?_ | refine t7 ?_ | refine t8 ?_ | refine t9 ?_ | refine tA ?_ | refine tB ?_ | refine tC ?_ | refine tD rfl ?_ | refine tE ?_ | refine tF ?_ | refine tG ?_ | refine tH ?_ | refine tI ?_ | refine tJ ?_ | refine tK ?_ | refine tL ?_) | (with_reducible first | exact PanicOk.body | exact rd.panic | refine PanicOk.then' ?_ | refine PanicOk.block ?_ | refine PanicOk.jump ?_) | (refine TE.drawC (by rfl) (by rfl) (by rfl) (by rfl) ?_) | (refine TE.drawN (by rfl) (by rfl) (by rfl) ?_) | (refine TL.done (by rfl) ?_) | (refine TL.auto tysOk rfl ?_ (by rfl) ?_ ?_) | ((refine TL.one (by rfl) ?_); first | (refine StepL.mem tysOk rfl rfl rfl rfl (by rfl) ?_ (by rfl) ?_) | (refine StepL.pure tysOk rfl rfl rfl rfl (by rfl) ?_ (by rfl) ?_)) | (refine StepL.mem tysOk rfl rfl rfl rfl (by rfl) ?_ (by rfl) ?_) | refine TE.cond_true (by rfl) ?_ | refine TE.cond_false (by rfl) ?_ | ((refine TE.gsplit (by rfl) (by rfl) ?_ ?_ <;> intro h <;> (try simp only [NS] at h) <;> (try (exfalso; first | omega | exact h trivial | exact h | exact h rfl | contradiction))) <;> (refine TE.run tysOk rfl (by rfl) ?_ ?_)) | ((first | refine TL.gsplit (by rfl) (by rfl) ?_ ?_ | refine TE.cond_split (by rfl) ?_ ?_) <;> intro h <;> (try simp only [NS] at h) <;> (try (exfalso; first | omega | exact h trivial | exact h | exact h rfl | contradiction))))))
  rw [hz]
  (refine TE.ret' (by first | exact .inl rfl | exact .inr rfl) rfl tysOk (()) ?_ rfl (by rfl) ?_; all_goals (try (first | exact trivial | ((with_reducible refine AllP.go ?_); dsimp only [AllP, appP]; repeat' (first | with_reducible rfl | with_reducible exact LeD.refl | refine And.intro ?_ ?_ | (refine congrArg (Value.int _) ?_; first | omega | rfl | (simp only [Int.toNat_natCast]; omega)) | rfl | (refine congrArg Value.bool ?_; assumption) | exact LeD.refl)))))
  exact str_ap l s
set_option maxRecDepth 20000 in
theorem blLenN_c (l : List UInt8) : Con Tryz.prog 21 [.o (.ptr 0 0)] (blN l) 2 2 U (fun _ => .o (.c (.int .i64 (l.length : Nat)))) (fun _ => blN l) := by
  refine con_of Tryz.func21 rfl (by kernel_rfl) Tryz.ntmps21 rfl (by first | exact Nat.zero_le _ | decide) (fun _ => ⟨rfl, rfl⟩) fun w S ν => ?_
  (repeat' (first | (with_reducible refine AllP.go ?_; (first | exact trivial | exact fun i _ => ⟨_, rfl⟩ | ((try simp only [OS]); repeat' (first | omega | exact fun i _ => ⟨_, rfl⟩ | refine And.intro ?_ ?_)))) | (refine TE.rgo tysOk rfl (by rfl) ?_ ?_) | (with_reducible first | refine t1 ?_ | refine t2 ?_ | refine t3 ?_ | refine t4 ?_ | refine t5 ?_ | refine t6 ?_ | refine t7 ?_ | refine t8 ?_ | refine t9 ?_ | refine tA ?_ | refine tB ?_ | refine tC ?_ | refine tD rfl ?_ | refine tE ?_ | refine tF ?_ | refine tG ?_ | refine tH ?_ | refine tI ?_ | refine tJ ?_ | refine tK ?_ | refine tL ?_) | (with_reducible first | exact PanicOk.body | exact rd.panic | refine PanicOk.then' ?_ | refine PanicOk.block ?_ | refine PanicOk.jump ?_) | (refine TE.drawC (by rfl) (by rfl) (by rfl) (by rfl) ?_) | (refine TE.drawN (by rfl) (by rfl) (by rfl) ?_) | (refine TL.done (by rfl) ?_) | (refine TL.auto tysOk rfl ?_ (by rfl) ?_ ?_) | ((refine TL.one (by rfl) ?_); first | (refine StepL.mem tysOk rfl rfl rfl rfl (by rfl) ?_ (by rfl) ?_) | (refine StepL.pure tysOk rfl rfl rfl rfl (by rfl) ?_ (by rfl) ?_)) | (refine StepL.mem tysOk rfl rfl rfl rfl (by rfl) ?_ (by rfl) ?_) | refine TE.cond_true (by rfl) ?_ | refine TE.cond_false (by rfl) ?_ | ((refine TE.gsplit (by rfl) (by rfl) ?_ ?_ <;> intro h <;> (try simp only [NS] at h) <;> (try (exfalso; first | omega | exact h trivial | exact h | exact h rfl | contradiction))) <;> (refine TE.run tysOk rfl (by rfl) ?_ ?_)) | ((first | refine TL.gsplit (by rfl) (by rfl) ?_ ?_ | refine TE.cond_split (by rfl) ?_ ?_) <;> intro h <;> (try simp only [NS] at h) <;> (try (exfalso; first | omega | exact h trivial | exact h | exact h rfl | contradiction)))))
  (refine TE.ret' (by first | exact .inl rfl | exact .inr rfl) rfl tysOk (()) ?_ rfl (by rfl) ?_; all_goals (try (first | exact trivial | ((with_reducible refine AllP.go ?_); dsimp only [AllP, appP]; repeat' (first | with_reducible rfl | with_reducible exact LeD.refl | refine And.intro ?_ ?_ | (refine congrArg (Value.int _) ?_; first | omega | rfl | (simp only [Int.toNat_natCast]; omega)) | rfl | (refine congrArg Value.bool ?_; assumption) | exact LeD.refl)))))
set_option maxRecDepth 20000 in
theorem blLen_c (l : List UInt8) : Con Tryz.prog 21 [.o (.ptr 0 0)] (blC l) 2 2 U (fun _ => .o (.c (.int .i64 (l.length : Nat)))) (fun _ => blC l) := by
  refine con_of Tryz.func21 rfl (by kernel_rfl) Tryz.ntmps21 rfl (by first | exact Nat.zero_le _ | decide) (fun _ => ⟨rfl, rfl⟩) fun w S ν => ?_
  (repeat' (first | (with_reducible refine AllP.go ?_; (first | exact trivial | exact fun i _ => ⟨_, rfl⟩ | ((try simp only [OS]); repeat' (first | omega | exact fun i _ => ⟨_, rfl⟩ | refine And.intro ?_ ?_)))) | (refine TE.rgo tysOk rfl (by rfl) ?_ ?_) | (with_reducible first | refine t1 ?_ | refine t2 ?_ | refine t3 ?_ | refine t4 ?_ | refine t5 ?_ | refine t6 ?_ | refine t7 ?_ | refine t8 ?_ | refine t9 ?_ | refine tA ?_ | refine tB ?_ | refine tC ?_ | refine tD rfl ?_ | refine tE ?_ | refine tF ?_ | refine tG ?_ | refine tH ?_ | refine tI ?_ | refine tJ ?_ | refine tK ?_ | refine tL ?_) | (with_reducible first | exact PanicOk.body | exact rd.panic | refine PanicOk.then' ?_ | refine PanicOk.block ?_ | refine PanicOk.jump ?_) | (refine TE.drawC (by rfl) (by rfl) (by rfl) (by rfl) ?_) | (refine TE.drawN (by rfl) (by rfl) (by rfl) ?_) | (refine TL.done (by rfl) ?_) | (refine TL.auto tysOk rfl ?_ (by rfl) ?_ ?_) | ((refine TL.one (by rfl) ?_); first | (refine StepL.mem tysOk rfl rfl rfl rfl (by rfl) ?_ (by rfl) ?_) | (refine StepL.pure tysOk rfl rfl rfl rfl (by rfl) ?_ (by rfl) ?_)) | (refine StepL.mem tysOk rfl rfl rfl rfl (by rfl) ?_ (by rfl) ?_) | refine TE.cond_true (by rfl) ?_ | refine TE.cond_false (by rfl) ?_ | ((refine TE.gsplit (by rfl) (by rfl) ?_ ?_ <;> intro h <;> (try simp only [NS] at h) <;> (try (exfalso; first | omega | exact h trivial | exact h | exact h rfl | contradiction))) <;> (refine TE.run tysOk rfl (by rfl) ?_ ?_)) | ((first | refine TL.gsplit (by rfl) (by rfl) ?_ ?_ | refine TE.cond_split (by rfl) ?_ ?_) <;> intro h <;> (try simp only [NS] at h) <;> (try (exfalso; first | omega | exact h trivial | exact h | exact h rfl | contradiction)))))
  (refine TE.ret' (by first | exact .inl rfl | exact .inr rfl) rfl tysOk (()) ?_ rfl (by rfl) ?_; all_goals (try (first | exact trivial | ((with_reducible refine AllP.go ?_); dsimp only [AllP, appP]; repeat' (first | with_reducible rfl | with_reducible exact LeD.refl | refine And.intro ?_ ?_ | (refine congrArg (Value.int _) ?_; first | omega | rfl | (simp only [Int.toNat_natCast]; omega)) | rfl | (refine congrArg Value.bool ?_; assumption) | exact LeD.refl)))))
set_option maxRecDepth 20000 in
theorem blStr_c (l : List UInt8) (hl : l ≠ []) : Con Tryz.prog 25 [.o (.ptr 0 0)] (blC l) 2 2 U (fun _ => .o (.c (.string (sB l)))) (fun _ => []) := by
  refine con_of Tryz.func25 rfl (by kernel_rfl) Tryz.ntmps25 rfl (by first | exact Nat.zero_le _ | decide) (fun _ => ⟨rfl, rfl⟩) fun w S ν => ?_
  have h0 : 0 < (bytesC l).n := List.length_pos_iff.2 hl
  (repeat' (first | (with_reducible refine AllP.go ?_; (first | exact trivial | exact fun i _ => ⟨_, rfl⟩ | ((try simp only [OS]); repeat' (first | omega | exact fun i _ => ⟨_, rfl⟩ | refine And.intro ?_ ?_)))) | (refine TE.rgo tysOk rfl (by rfl) ?_ ?_) | (with_reducible first | refine t1 ?_ | refine t2 ?_ | refine t3 ?_ | refine t4 ?_ | refine t5 ?_ | refine t6 ?_ | refine t7 ?_ | refine t8 ?_ | refine t9 ?_ | refine tA ?_ | refine tB ?_ | refine tC ?_ | refine tD rfl ?_ | refine tE ?_ | refine tF ?_ | refine tG ?_ | refine tH ?_ | refine tI ?_ | refine tJ ?_ | refine tK ?_ | refine tL ?_) | refine TE.cond_true (by rfl) ?_ | refine TE.cond_false (by rfl) ?_ | ((refine TE.gsplit (by rfl) (by rfl) ?_ ?_ <;> intro h <;> (try simp only [NS] at h) <;> (try (exfalso; first | omega | exact h trivial | exact h | exact h rfl | contradiction))) <;> (refine TE.run tysOk rfl (by rfl) ?_ ?_)) | ((first | refine TL.gsplit (by rfl) (by rfl) ?_ ?_ | refine TE.cond_split (by rfl) ?_ ?_) <;> intro h <;> (try simp only [NS] at h) <;> (try (exfalso; first | omega | exact h trivial | exact h | exact h rfl | contradiction)))))
  (refine TE.drawK (fun _ => false) (by rfl) (by rfl) (by rfl) ?_)
  repeat' (first | (with_reducible refine AllP.go ?_; (first | exact trivial | exact fun i _ => ⟨_, rfl⟩ | ((try simp only [OS]); repeat' (first | omega | exact fun i _ => ⟨_, rfl⟩ | refine And.intro ?_ ?_)))) | (with_reducible first | exact PanicOk.body | exact rd.panic | refine PanicOk.then' ?_ | refine PanicOk.block ?_ | refine PanicOk.jump ?_) | (refine TL.done (by rfl) ?_) | (refine TL.auto tysOk rfl ?_ (by rfl) ?_ ?_) | (refine StepL.mem tysOk rfl rfl rfl rfl (by rfl) ?_ (by rfl) ?_) | (refine StepL.pure tysOk rfl rfl rfl rfl (by rfl) ?_ (by rfl) ?_) | (refine TL.one (by rfl) ?_) | (refine TL.two (by rfl) ?_ ?_) | (refine TL.three (by rfl) ?_ ?_ ?_) | (refine TL.four (by rfl) ?_ ?_ ?_ ?_) | (refine StepL.law rfl rfl rfl (fun _ h => nomatch h) (by rfl) (m_sliceData rfl rfl rfl rfl rfl (by rfl) ?_) (by rfl) ?_; rotate_left; rintro _ rfl; rotate_right) | (refine StepL.law rfl rfl rfl (fun _ h => nomatch h) (by rfl) (m_unsafeString rfl rfl rfl rfl rfl (by kernel_rfl) rfl rfl (by rfl) hl) (by rfl) ?_; rintro _ rfl))
  all_goals first | exact h0 | skip
  all_goals (repeat' (first | (with_reducible refine AllP.go ?_; (first | exact trivial | exact fun i _ => ⟨_, rfl⟩ | ((try simp only [OS]); repeat' (first | omega | exact fun i _ => ⟨_, rfl⟩ | refine And.intro ?_ ?_)))) | (refine TE.rgo tysOk rfl (by rfl) ?_ ?_) | (with_reducible first | refine t1 ?_ | refine t2 ?_ | refine t3 ?_ | refine t4 ?_ | refine t5 ?_ | refine t6 ?_ | refine t7 ?_ | refine t8 ?_ | refine t9 ?_ | refine tA ?_ | refine tB ?_ | refine tC ?_ | refine tD rfl ?_ | refine tE ?_ | refine tF ?_ | refine tG ?_ | refine tH ?_ | refine tI ?_ | refine tJ ?_ | refine tK ?_ | refine tL ?_) | refine TE.cond_true (by rfl) ?_ | refine TE.cond_false (by rfl) ?_ | ((refine TE.gsplit (by rfl) (by rfl) ?_ ?_ <;> intro h <;> (try simp only [NS] at h) <;> (try (exfalso; first | omega | exact h trivial | exact h | exact h rfl | contradiction))) <;> (refine TE.run tysOk rfl (by rfl) ?_ ?_)) | ((first | refine TL.gsplit (by rfl) (by rfl) ?_ ?_ | refine TE.cond_split (by rfl) ?_ ?_) <;> intro h <;> (try simp only [NS] at h) <;> (try (exfalso; first | omega | exact h trivial | exact h | exact h rfl | contradiction)))))
  all_goals (refine TE.ret' (by first | exact .inl rfl | exact .inr rfl) rfl tysOk (()) ?_ rfl (by rfl) ?_; all_goals (try (first | exact trivial | ((with_reducible refine AllP.go ?_); dsimp only [AllP, appP]; repeat' (first | with_reducible rfl | with_reducible exact LeD.refl | refine And.intro ?_ ?_ | (refine congrArg (Value.int _) ?_; first | omega | rfl | (simp only [Int.toNat_natCast]; omega)) | rfl | (refine congrArg Value.bool ?_; assumption) | exact LeD.refl)))))
end Go.Proofs.YtmeapfckibbbbaaGreatDoor.Am
/- The words: fields joined to a line, the program's. -/
set_option linter.unusedVariables false
namespace Go.Proofs.YtmeapfckibbbbaaGreatDoor.Am
open Go.RowKit Lw Wo Go.Shelf
def strR' (x : Bs) (_ : Nat) : DC := .c (.string (sB x))
abbrev strsC (l : List Bs) : Ct := listC strR' [] l
theorem map_sB (xs : List Bs) : (xs.map sB).map (·.data.toList) = xs := by
  rw [List.map_map]
  exact List.map_id _
set_option maxRecDepth 20000 in
theorem join_c (xs : List Bs) (sep : Bs) (hl : xs.length ≤ 1000000) (hj : (Lib.join xs sep).length ≤ 1000000) : Con Tryz.prog 43 [.o (.ro 1 xs.length (strsC xs).cell), .o (.c (.string (sB sep)))] [] 0 0 U (fun _ => .o (.c (.string (sB (Lib.join xs sep))))) G0 := by
  refine con_below (takes := []) (fn := Tryz.f43) Tryz.func43 (by kernel_rfl) (by kernel_rfl) rfl rfl (Nat.le_refl _) (fun _ => rfl) rfl fun w S ν vs hv _ => ?_
  match vs, hv with
  | [u, v], ⟨⟨A, c, hu, h1, h2, h3, h4⟩, ⟨hv, _⟩, _⟩ =>
    subst hu hv
    cases xs with
    | nil =>
      refine Calls.mono (Any.strings_Join_none Tryz.lays156 Tryz.Builder_Extra_156 A c (sB sep) w) ?_
      rintro e w' ⟨rfl, rfl⟩
      exact ⟨(), _, rfl, trivial, fun _ _ _ => ⟨rfl, rfl⟩, Below.refl _ _⟩
    | cons x r =>
      obtain ⟨b, off, rfl, hs, hb, hc⟩ := h4 (by simp)
      have hm := map_sB (x :: r)
      have hlen : ((x :: r).map sB).length = (x :: r).length := by simp
      have hj2 : (Lib.join (((x :: r).map sB).map (·.data.toList)) (sB sep).data.toList).length ≤ 140737488355328 := by
        rw [hm]
        show (Lib.join (x :: r) sep).length ≤ _
        omega
      have hcall := Any.strings_Join Tryz.lays156 Tryz.Builder_Extra_156 b off c ((x :: r).map sB) (sB sep) w (fun j y hy => ?_) hb (by rw [hlen]; omega) (by rw [hlen]; omega) hj2
      · rw [hlen] at hcall
        refine Calls.mono hcall ?_
        rintro e w' ⟨rfl, hbl⟩
        refine ⟨(), _, rfl, trivial, fun _ _ _ => ⟨?_, rfl⟩, hbl⟩
        rw [hm]
      · have hjl : j < (x :: r).length := by
          have := (List.getElem?_eq_some_iff.1 hy).1
          simpa using this
        obtain ⟨u, u1, u2⟩ := hc j 0 hjl (by decide)
        rw [Nat.mul_one, Nat.add_zero] at u1
        rw [u1, u2.1]
        rw [List.getElem?_map, List.getElem?_eq_getElem hjl] at hy
        cases hy
        show some (Value.string (sB ((x :: r).getD j []))) = _
        rw [List.getD_eq_getElem?_getD, List.getElem?_eq_getElem hjl]
        rfl
theorem wordq {x : Fld} (h : x.2 = true) : wordOf x = quoteI x.1 := if_pos h
theorem wordb {x : Fld} (h : x.2 = false) : wordOf x = x.1 := if_neg (by rw [h]; decide)
set_option maxRecDepth 20000 in
set_option maxHeartbeats 4000000 in
theorem Join_c (m : Int) (te : TypeId) (pe : Value) (l : List Fld) (hl : l.length ≤ 1000000) : Con Tryz.prog 17 [.o (.ro 2 l.length (fdC l).cell)] (glC m te pe) 4 4 U (fun _ => .t [.inl (.c (.string (sB (joinI l).1))), .inl (.c (.int .i64 (joinI l).2))]) (fun _ => glC m te pe) := by
  refine con_of Tryz.func17 rfl (by kernel_rfl) Tryz.ntmps17 rfl (by first | exact Nat.zero_le _ | decide) (fun _ => ⟨rfl, rfl⟩) fun w S ν => ?_
  (repeat' (first | (with_reducible refine AllP.go ?_; (first | exact trivial | exact fun i _ => ⟨_, rfl⟩ | ((try simp only [OS]); repeat' (first | omega | exact fun i _ => ⟨_, rfl⟩ | refine And.intro ?_ ?_)))) | (refine TE.rgo tysOk rfl (by rfl) ?_ ?_) | (with_reducible first | refine t1 ?_ | refine t2 ?_ | refine t3 ?_ | refine t4 ?_ | refine t5 ?_ | refine t6 ?_ | refine t7 ?_ | refine t8 ?_ | refine t9 ?_ | refine tA ?_ | refine tB ?_ | refine tC ?_ | refine tD rfl ?_ | refine tE ?_ | refine tF ?_ | refine tG ?_ | refine tH ?_ | refine tI ?_ | refine tJ ?_ | refine tK ?_ | refine tL ?_) | refine TE.cond_true (by rfl) ?_ | refine TE.cond_false (by rfl) ?_ | ((refine TE.gsplit (by rfl) (by rfl) ?_ ?_ <;> intro h <;> (try simp only [NS] at h) <;> (try (exfalso; first | omega | exact h trivial | exact h | exact h rfl | contradiction))) <;> (refine TE.run tysOk rfl (by rfl) ?_ ?_)) | ((first | refine TL.gsplit (by rfl) (by rfl) ?_ ?_ | refine TE.cond_split (by rfl) ?_ ?_) <;> intro h <;> (try simp only [NS] at h) <;> (try (exfalso; first | omega | exact h trivial | exact h | exact h rfl | contradiction)))))
  · rw [show joinI l = ([], 3) from if_pos (.inl (by omega))]
    (refine TE.ret' (by first | exact .inl rfl | exact .inr rfl) rfl tysOk (()) ?_ rfl (by rfl) ?_; all_goals (try (first | exact trivial | ((with_reducible refine AllP.go ?_); dsimp only [AllP, appP]; repeat' (first | with_reducible rfl | with_reducible exact LeD.refl | refine And.intro ?_ ?_ | (refine congrArg (Value.int _) ?_; first | omega | rfl | (simp only [Int.toNat_natCast]; omega)) | rfl | (refine congrArg Value.bool ?_; assumption) | exact LeD.refl)))))
  have h64 : l.length ≤ 64 := by omega
  refine TE.nilOwn 5 9 1 (by rfl) ?_
  (refine TE.only [15, 14, 13, 5, 4, 0] (by rfl) ?_)
  refine TE.loopG (fun q : Nat => q ≤ l.length ∧ ∀ k, k < q → (l.getD k ([], false)).1.length ≤ 2000) (fun q => [(15, .o (.c (.int .i64 q))), (5, .o (.own 4)), (4, .o (.c (.int .i64 (formF (l.take q)))))]) [4] (fun q => [.own 4 9 1 (strsC ((l.take q).map wordOf))]) (fun q => l.length - q) 0 (by rfl) ⟨Nat.zero_le _, fun k hk => absurd hk (Nat.not_lt_zero _)⟩ ?_ ?_
  · (refine Ent.of rfl rfl (by rfl) ?_; (try (first | exact trivial | ((with_reducible refine AllP.go ?_); dsimp only [AllP, appP]; repeat' (first | with_reducible rfl | with_reducible exact LeD.refl | refine And.intro ?_ ?_ | (refine congrArg (Value.int _) ?_; first | omega | rfl | (simp only [Int.toNat_natCast]; omega)) | rfl | (refine congrArg Value.bool ?_; assumption) | exact LeD.refl)))))
    exact LeDC.nil rfl rfl
  rintro q ⟨g1, g2⟩
  have hsz := sB_size (l.getD q ([], false)).1
  have hnext : ∀ {f : Int}, (l.getD q ([], false)).1.length ≤ 2000 → q < l.length → ∀ k, k < q + 1 → (l.getD k ([], false)).1.length ≤ 2000 := fun {_} h1 h2 k hk => by
    rcases Nat.lt_or_ge k q with h3 | h3
    · exact g2 k h3
    · obtain rfl : k = q := by omega
      exact h1
  (repeat' (first | (with_reducible refine AllP.go ?_; (first | exact trivial | exact fun i _ => ⟨_, rfl⟩ | ((try simp only [OS]); repeat' (first | omega | exact fun i _ => ⟨_, rfl⟩ | refine And.intro ?_ ?_)))) | (refine TE.rgo tysOk rfl (by rfl) ?_ ?_) | (with_reducible first | refine t1 ?_ | refine t2 ?_ | refine t3 ?_ | refine t4 ?_ | refine t5 ?_ | refine t6 ?_ | refine t7 ?_ | refine t8 ?_ | refine t9 ?_ | refine tA ?_ | refine tB ?_ | refine tC ?_ | refine tD rfl ?_ | refine tE ?_ | refine tF ?_ | refine tG ?_ | refine tH ?_ | refine tI ?_ | refine tJ ?_ | refine tK ?_ | refine tL ?_) | refine TE.cond_true (by rfl) ?_ | refine TE.cond_false (by rfl) ?_ | ((refine TE.gsplit (by rfl) (by rfl) ?_ ?_ <;> intro h <;> (try simp only [NS] at h) <;> (try (exfalso; first | omega | exact h trivial | exact h | exact h rfl | contradiction))) <;> (refine TE.run tysOk rfl (by rfl) ?_ ?_)) | ((first | refine TL.gsplit (by rfl) (by rfl) ?_ ?_ | refine TE.cond_split (by rfl) ?_ ?_) <;> intro h <;> (try simp only [NS] at h) <;> (try (exfalso; first | omega | exact h trivial | exact h | exact h rfl | contradiction)))))
  · rw [show joinI l = ([], 3) from if_pos (.inr (long_any (q := q) (by omega) (by omega)))]
    (refine TE.ret' (by first | exact .inl rfl | exact .inr rfl) rfl tysOk (()) ?_ rfl (by rfl) ?_; all_goals (try (first | exact trivial | ((with_reducible refine AllP.go ?_); dsimp only [AllP, appP]; repeat' (first | with_reducible rfl | with_reducible exact LeD.refl | refine And.intro ?_ ?_ | (refine congrArg (Value.int _) ?_; first | omega | rfl | (simp only [Int.toNat_natCast]; omega)) | rfl | (refine congrArg Value.bool ?_; assumption) | exact LeD.refl)))))
  · have hq : q < l.length := by omega
    have h2000 : (l.getD q ([], false)).1.length ≤ 2000 := by omega
    have htk := takeF hq
    have hmn : ((l.take q).map wordOf).length = q := by rw [List.length_map, List.length_take]; omega
    have hcn : (strsC ((l.take q).map wordOf)).n = q := hmn
    have htn : (l.take q).length = q := by rw [List.length_take]; omega
    have hmap : (l.take (q + 1)).map wordOf = (l.take q).map wordOf ++ [wordOf (l.getD q ([], false))] := by rw [htk, List.map_append]; rfl
    cases hb : (l.getD q ([], false)).2
    · have hw := wordb hb
      rw [show (l.getD ((q : Nat) : Int).toNat ([], false)).2 = false from hb]
      (repeat' (first | (with_reducible refine AllP.go ?_; (first | exact trivial | exact fun i _ => ⟨_, rfl⟩ | ((try simp only [OS]); repeat' (first | omega | exact fun i _ => ⟨_, rfl⟩ | refine And.intro ?_ ?_)))) | (refine TE.rgo tysOk rfl (by rfl) ?_ ?_) | (with_reducible first | refine t1 ?_ | refine t2 ?_ | refine t3 ?_ | refine t4 ?_ | refine t5 ?_ | refine t6 ?_ | refine t7 ?_ | refine t8 ?_ | refine t9 ?_ | refine tA ?_ | refine tB ?_ | refine tC ?_ | refine tD rfl ?_ | refine tE ?_ | refine tF ?_ | refine tG ?_ | refine tH ?_ | refine tI ?_ | refine tJ ?_ | refine tK ?_ | refine tL ?_) | refine TE.cond_true (by rfl) ?_ | refine TE.cond_false (by rfl) ?_ | ((refine TE.gsplit (by rfl) (by rfl) ?_ ?_ <;> intro h <;> (try simp only [NS] at h) <;> (try (exfalso; first | omega | exact h trivial | exact h | exact h rfl | contradiction))) <;> (refine TE.run tysOk rfl (by rfl) ?_ ?_)) | ((first | refine TL.gsplit (by rfl) (by rfl) ?_ ?_ | refine TE.cond_split (by rfl) ?_ ?_) <;> intro h <;> (try simp only [NS] at h) <;> (try (exfalso; first | omega | exact h trivial | exact h | exact h rfl | contradiction)))))
      refine TE.callW (isBare_c (l.getD q ([], false)).1 (by omega)) rfl (by rfl) (by rfl) rfl (by rfl) (by (first | exact trivial | ((with_reducible refine AllP.go ?_); dsimp only [AllP, appP]; repeat' (first | with_reducible rfl | with_reducible exact LeD.refl | refine And.intro ?_ ?_ | (refine congrArg (Value.int _) ?_; first | omega | rfl | (simp only [Int.toNat_natCast]; omega)) | rfl | (refine congrArg Value.bool ?_; assumption) | assumption | exact LeD.refl)))) ?_
      intro _ _
      cases hbare : bareI (l.getD q ([], false)).1
      · have hf : formF (l.take (q + 1)) = 6 := by
          rw [htk]
          exact formF_bad (by unfold goodF; rw [hb, hbare]; rfl)
        ((refine TE.run tysOk rfl (by rfl) ?_ ?_); (repeat' (first | (with_reducible refine AllP.go ?_; (first | exact trivial | exact fun i _ => ⟨_, rfl⟩ | ((try simp only [OS]); repeat' (first | omega | exact fun i _ => ⟨_, rfl⟩ | refine And.intro ?_ ?_)))) | (refine TE.rgo tysOk rfl (by rfl) ?_ ?_) | (with_reducible first | refine t1 ?_ | refine t2 ?_ | refine t3 ?_ | refine t4 ?_ | refine t5 ?_ | refine t6 ?_ | refine t7 ?_ | refine t8 ?_ | refine t9 ?_ | refine tA ?_ | refine tB ?_ | refine tC ?_ | refine tD rfl ?_ | refine tE ?_ | refine tF ?_ | refine tG ?_ | refine tH ?_ | refine tI ?_ | refine tJ ?_ | refine tK ?_ | refine tL ?_) | refine TE.cond_true (by rfl) ?_ | refine TE.cond_false (by rfl) ?_ | ((refine TE.gsplit (by rfl) (by rfl) ?_ ?_ <;> intro h <;> (try simp only [NS] at h) <;> (try (exfalso; first | omega | exact h trivial | exact h | exact h rfl | contradiction))) <;> (refine TE.run tysOk rfl (by rfl) ?_ ?_)) | ((first | refine TL.gsplit (by rfl) (by rfl) ?_ ?_ | refine TE.cond_split (by rfl) ?_ ?_) <;> intro h <;> (try simp only [NS] at h) <;> (try (exfalso; first | omega | exact h trivial | exact h | exact h rfl | contradiction))))))
        refine TE.again' (q + 1) ⟨by omega, hnext (f := 0) h2000 hq⟩ (by omega) ?_
        rw [hf, hmap, hw]
        (refine Ent.of rfl rfl (by rfl) ?_; (try (first | exact trivial | ((with_reducible refine AllP.go ?_); dsimp only [AllP, appP]; repeat' (first | with_reducible rfl | with_reducible exact LeD.refl | refine And.intro ?_ ?_ | (refine congrArg (Value.int _) ?_; first | omega | rfl | (simp only [Int.toNat_natCast]; omega)) | rfl | (refine congrArg Value.bool ?_; assumption) | exact LeD.refl)))))
        exact listC_snoc _ rfl (nth1 rfl)
      · have hf : formF (l.take (q + 1)) = formF (l.take q) := by
          rw [htk]
          exact formF_good (by unfold goodF; rw [hbare, Bool.or_true])
        ((refine TE.run tysOk rfl (by rfl) ?_ ?_); (repeat' (first | (with_reducible refine AllP.go ?_; (first | exact trivial | exact fun i _ => ⟨_, rfl⟩ | ((try simp only [OS]); repeat' (first | omega | exact fun i _ => ⟨_, rfl⟩ | refine And.intro ?_ ?_)))) | (refine TE.rgo tysOk rfl (by rfl) ?_ ?_) | (with_reducible first | refine t1 ?_ | refine t2 ?_ | refine t3 ?_ | refine t4 ?_ | refine t5 ?_ | refine t6 ?_ | refine t7 ?_ | refine t8 ?_ | refine t9 ?_ | refine tA ?_ | refine tB ?_ | refine tC ?_ | refine tD rfl ?_ | refine tE ?_ | refine tF ?_ | refine tG ?_ | refine tH ?_ | refine tI ?_ | refine tJ ?_ | refine tK ?_ | refine tL ?_) | refine TE.cond_true (by rfl) ?_ | refine TE.cond_false (by rfl) ?_ | ((refine TE.gsplit (by rfl) (by rfl) ?_ ?_ <;> intro h <;> (try simp only [NS] at h) <;> (try (exfalso; first | omega | exact h trivial | exact h | exact h rfl | contradiction))) <;> (refine TE.run tysOk rfl (by rfl) ?_ ?_)) | ((first | refine TL.gsplit (by rfl) (by rfl) ?_ ?_ | refine TE.cond_split (by rfl) ?_ ?_) <;> intro h <;> (try simp only [NS] at h) <;> (try (exfalso; first | omega | exact h trivial | exact h | exact h rfl | contradiction))))))
        refine TE.again' (q + 1) ⟨by omega, hnext (f := 0) h2000 hq⟩ (by omega) ?_
        rw [hf, hmap, hw]
        (refine Ent.of rfl rfl (by rfl) ?_; (try (first | exact trivial | ((with_reducible refine AllP.go ?_); dsimp only [AllP, appP]; repeat' (first | with_reducible rfl | with_reducible exact LeD.refl | refine And.intro ?_ ?_ | (refine congrArg (Value.int _) ?_; first | omega | rfl | (simp only [Int.toNat_natCast]; omega)) | rfl | (refine congrArg Value.bool ?_; assumption) | exact LeD.refl)))))
        exact listC_snoc _ rfl (nth1 rfl)
    · have hw := wordq hb
      have hf : formF (l.take (q + 1)) = formF (l.take q) := by
        rw [htk]
        exact formF_good (by unfold goodF; rw [hb, Bool.true_or])
      rw [show (l.getD ((q : Nat) : Int).toNat ([], false)).2 = true from hb]
      (repeat' (first | (with_reducible refine AllP.go ?_; (first | exact trivial | exact fun i _ => ⟨_, rfl⟩ | ((try simp only [OS]); repeat' (first | omega | exact fun i _ => ⟨_, rfl⟩ | refine And.intro ?_ ?_)))) | (refine TE.rgo tysOk rfl (by rfl) ?_ ?_) | (with_reducible first | refine t1 ?_ | refine t2 ?_ | refine t3 ?_ | refine t4 ?_ | refine t5 ?_ | refine t6 ?_ | refine t7 ?_ | refine t8 ?_ | refine t9 ?_ | refine tA ?_ | refine tB ?_ | refine tC ?_ | refine tD rfl ?_ | refine tE ?_ | refine tF ?_ | refine tG ?_ | refine tH ?_ | refine tI ?_ | refine tJ ?_ | refine tK ?_ | refine tL ?_) | refine TE.cond_true (by rfl) ?_ | refine TE.cond_false (by rfl) ?_ | ((refine TE.gsplit (by rfl) (by rfl) ?_ ?_ <;> intro h <;> (try simp only [NS] at h) <;> (try (exfalso; first | omega | exact h trivial | exact h | exact h rfl | contradiction))) <;> (refine TE.run tysOk rfl (by rfl) ?_ ?_)) | ((first | refine TL.gsplit (by rfl) (by rfl) ?_ ?_ | refine TE.cond_split (by rfl) ?_ ?_) <;> intro h <;> (try simp only [NS] at h) <;> (try (exfalso; first | omega | exact h trivial | exact h | exact h rfl | contradiction)))))
      refine TE.callW (Quote_c m te pe (l.getD q ([], false)).1 (by omega)) rfl (by rfl) (by rfl) rfl (by rfl) (by (first | exact trivial | ((with_reducible refine AllP.go ?_); dsimp only [AllP, appP]; repeat' (first | with_reducible rfl | with_reducible exact LeD.refl | refine And.intro ?_ ?_ | (refine congrArg (Value.int _) ?_; first | omega | rfl | (simp only [Int.toNat_natCast]; omega)) | rfl | (refine congrArg Value.bool ?_; assumption) | assumption | exact LeD.refl)))) ?_
      intro _ _
      ((refine TE.run tysOk rfl (by rfl) ?_ ?_); (repeat' (first | (with_reducible refine AllP.go ?_; (first | exact trivial | exact fun i _ => ⟨_, rfl⟩ | ((try simp only [OS]); repeat' (first | omega | exact fun i _ => ⟨_, rfl⟩ | refine And.intro ?_ ?_)))) | (refine TE.rgo tysOk rfl (by rfl) ?_ ?_) | (with_reducible first | refine t1 ?_ | refine t2 ?_ | refine t3 ?_ | refine t4 ?_ | refine t5 ?_ | refine t6 ?_ | refine t7 ?_ | refine t8 ?_ | refine t9 ?_ | refine tA ?_ | refine tB ?_ | refine tC ?_ | refine tD rfl ?_ | refine tE ?_ | refine tF ?_ | refine tG ?_ | refine tH ?_ | refine tI ?_ | refine tJ ?_ | refine tK ?_ | refine tL ?_) | refine TE.cond_true (by rfl) ?_ | refine TE.cond_false (by rfl) ?_ | ((refine TE.gsplit (by rfl) (by rfl) ?_ ?_ <;> intro h <;> (try simp only [NS] at h) <;> (try (exfalso; first | omega | exact h trivial | exact h | exact h rfl | contradiction))) <;> (refine TE.run tysOk rfl (by rfl) ?_ ?_)) | ((first | refine TL.gsplit (by rfl) (by rfl) ?_ ?_ | refine TE.cond_split (by rfl) ?_ ?_) <;> intro h <;> (try simp only [NS] at h) <;> (try (exfalso; first | omega | exact h trivial | exact h | exact h rfl | contradiction))))))
      refine TE.again' (q + 1) ⟨by omega, hnext (f := 0) h2000 hq⟩ (by omega) ?_
      rw [hf, hmap, hw]
      (refine Ent.of rfl rfl (by rfl) ?_; (try (first | exact trivial | ((with_reducible refine AllP.go ?_); dsimp only [AllP, appP]; repeat' (first | with_reducible rfl | with_reducible exact LeD.refl | refine And.intro ?_ ?_ | (refine congrArg (Value.int _) ?_; first | omega | rfl | (simp only [Int.toNat_natCast]; omega)) | rfl | (refine congrArg Value.bool ?_; assumption) | exact LeD.refl)))))
      exact listC_snoc _ rfl (nth1 rfl)
  · obtain rfl : q = l.length := by omega
    have hsh := short_all g2
    have hjn := line_join l
    have hlen := line_len (l := l) fun f hf => by rw [List.any_eq_false] at hsh; simpa using hsh f hf
    have hszl := sB_size (lineI l)
    rw [List.take_length]
    (refine TE.freezeN 4 (by rfl) (by rfl) ?_)
    have hc := join_c (l.map wordOf) [32] (by rw [List.length_map]; omega) (by rw [← hjn]; omega)
    rw [← hjn] at hc
    refine TE.callW (hc) rfl (by rfl) (by rfl) rfl (by rfl) (by (first | exact trivial | ((with_reducible refine AllP.go ?_); dsimp only [AllP, appP]; repeat' (first | with_reducible rfl | with_reducible exact LeD.refl | refine And.intro ?_ ?_ | (refine congrArg (Value.int _) ?_; first | omega | rfl | (simp only [Int.toNat_natCast]; omega)) | rfl | (refine congrArg Value.bool ?_; assumption) | assumption | exact LeD.refl)))) ?_
    intro _ _
    cases hg : l.all goodF
    · rw [show formF l = 6 from if_neg (by rw [hg]; decide), show joinI l = ([], 6) from by unfold joinI; rw [if_neg (by rw [hsh]; simp; omega), if_pos hg]]
      ((refine TE.run tysOk rfl (by rfl) ?_ ?_); (repeat' (first | (with_reducible refine AllP.go ?_; (first | exact trivial | exact fun i _ => ⟨_, rfl⟩ | ((try simp only [OS]); repeat' (first | omega | exact fun i _ => ⟨_, rfl⟩ | refine And.intro ?_ ?_)))) | (refine TE.rgo tysOk rfl (by rfl) ?_ ?_) | (with_reducible first | refine t1 ?_ | refine t2 ?_ | refine t3 ?_ | refine t4 ?_ | refine t5 ?_ | refine t6 ?_ | refine t7 ?_ | refine t8 ?_ | refine t9 ?_ | refine tA ?_ | refine tB ?_ | refine tC ?_ | refine tD rfl ?_ | refine tE ?_ | refine tF ?_ | refine tG ?_ | refine tH ?_ | refine tI ?_ | refine tJ ?_ | refine tK ?_ | refine tL ?_) | refine TE.cond_true (by rfl) ?_ | refine TE.cond_false (by rfl) ?_ | ((refine TE.gsplit (by rfl) (by rfl) ?_ ?_ <;> intro h <;> (try simp only [NS] at h) <;> (try (exfalso; first | omega | exact h trivial | exact h | exact h rfl | contradiction))) <;> (refine TE.run tysOk rfl (by rfl) ?_ ?_)) | ((first | refine TL.gsplit (by rfl) (by rfl) ?_ ?_ | refine TE.cond_split (by rfl) ?_ ?_) <;> intro h <;> (try simp only [NS] at h) <;> (try (exfalso; first | omega | exact h trivial | exact h | exact h rfl | contradiction))))))
      (refine TE.ret' (by first | exact .inl rfl | exact .inr rfl) rfl tysOk (()) ?_ rfl (by rfl) ?_; all_goals (try (first | exact trivial | ((with_reducible refine AllP.go ?_); dsimp only [AllP, appP]; repeat' (first | with_reducible rfl | with_reducible exact LeD.refl | refine And.intro ?_ ?_ | (refine congrArg (Value.int _) ?_; first | omega | rfl | (simp only [Int.toNat_natCast]; omega)) | rfl | (refine congrArg Value.bool ?_; assumption) | exact LeD.refl)))))
    · rw [show formF l = 0 from if_pos hg]
      ((refine TE.run tysOk rfl (by rfl) ?_ ?_); (repeat' (first | (with_reducible refine AllP.go ?_; (first | exact trivial | exact fun i _ => ⟨_, rfl⟩ | ((try simp only [OS]); repeat' (first | omega | exact fun i _ => ⟨_, rfl⟩ | refine And.intro ?_ ?_)))) | (refine TE.rgo tysOk rfl (by rfl) ?_ ?_) | (with_reducible first | refine t1 ?_ | refine t2 ?_ | refine t3 ?_ | refine t4 ?_ | refine t5 ?_ | refine t6 ?_ | refine t7 ?_ | refine t8 ?_ | refine t9 ?_ | refine tA ?_ | refine tB ?_ | refine tC ?_ | refine tD rfl ?_ | refine tE ?_ | refine tF ?_ | refine tG ?_ | refine tH ?_ | refine tI ?_ | refine tJ ?_ | refine tK ?_ | refine tL ?_) | refine TE.cond_true (by rfl) ?_ | refine TE.cond_false (by rfl) ?_ | ((refine TE.gsplit (by rfl) (by rfl) ?_ ?_ <;> intro h <;> (try simp only [NS] at h) <;> (try (exfalso; first | omega | exact h trivial | exact h | exact h rfl | contradiction))) <;> (refine TE.run tysOk rfl (by rfl) ?_ ?_)) | ((first | refine TL.gsplit (by rfl) (by rfl) ?_ ?_ | refine TE.cond_split (by rfl) ?_ ?_) <;> intro h <;> (try simp only [NS] at h) <;> (try (exfalso; first | omega | exact h trivial | exact h | exact h rfl | contradiction))))))
      · rw [show joinI l = ([], 3) from by unfold joinI; rw [if_neg (by rw [hsh]; simp; omega), if_neg (by rw [hg]; decide), if_pos (by omega)]]
        (refine TE.ret' (by first | exact .inl rfl | exact .inr rfl) rfl tysOk (()) ?_ rfl (by rfl) ?_; all_goals (try (first | exact trivial | ((with_reducible refine AllP.go ?_); dsimp only [AllP, appP]; repeat' (first | with_reducible rfl | with_reducible exact LeD.refl | refine And.intro ?_ ?_ | (refine congrArg (Value.int _) ?_; first | omega | rfl | (simp only [Int.toNat_natCast]; omega)) | rfl | (refine congrArg Value.bool ?_; assumption) | exact LeD.refl)))))
      · rw [show joinI l = (lineI l, 0) from by unfold joinI; rw [if_neg (by rw [hsh]; simp; omega), if_neg (by rw [hg]; decide), if_neg (by omega)]]
        (refine TE.ret' (by first | exact .inl rfl | exact .inr rfl) rfl tysOk (()) ?_ rfl (by rfl) ?_; all_goals (try (first | exact trivial | ((with_reducible refine AllP.go ?_); dsimp only [AllP, appP]; repeat' (first | with_reducible rfl | with_reducible exact LeD.refl | refine And.intro ?_ ?_ | (refine congrArg (Value.int _) ?_; first | omega | rfl | (simp only [Int.toNat_natCast]; omega)) | rfl | (refine congrArg Value.bool ?_; assumption) | exact LeD.refl)))))
end Go.Proofs.YtmeapfckibbbbaaGreatDoor.Am
