/- The records' arguments, opened. -/
import Derived.Test.YtlbgepgpihklfaaAmBr
import Derived.Test.YtlbgepgpihklfaaArB
import Derived.KernelRfl
namespace Go.Proofs.Ytlbgepgpihklfaa.Am
open Go.RowKit Lw
open Rec (RcT)
theorem not_st {P : Program} {t : TypeId} {d : TypeDesc} (h : P.underlying t = some d) (hd : ∀ fs, d ≠ .struct fs) : ∀ fs, P.underlying t ≠ some (.struct fs) := fun fs e => hd fs (Option.some.inj (h.symm.trans e))
theorem not_ar {P : Program} {t : TypeId} {d : TypeDesc} (h : P.underlying t = some d) (hd : ∀ n e, d ≠ .array n e) : ∀ n e, P.underlying t ≠ some (.array n e) := fun n e' e => hd n e' (Option.some.inj (h.symm.trans e))
theorem ao_str : AOpen Try.prog 9 (fun s => .o (.c (.string s))) strG :=
  AOpen.one (DOpen.str (by kernel_rfl) (by kernel_rfl)) (not_st (d := .string) (by kernel_rfl) fun _ h => by cases h) (not_ar (d := .string) (by kernel_rfl) fun _ _ h => by cases h)
theorem do_u8s : DOpen Try.prog 23 1 (slR 1 byteR 0) (listG Any) := DOpen.slice (e := 5) (DOpen.u8 (by kernel_rfl) (by kernel_rfl)) 0 (by kernel_rfl) (by kernel_rfl)
theorem ao_u8s : AOpen Try.prog 23 (fun l : List UInt8 => .o (.ro 1 l.length (bytesC l).cell)) (listG Any) :=
  AOpen.one do_u8s (not_st (d := .slice 5) (by kernel_rfl) fun _ h => by cases h) (not_ar (d := .slice 5) (by kernel_rfl) fun _ _ h => by cases h)
def rcGood (x : RcT) : Prop := x.2.1.size ≤ maxLen ∧ x.2.2.length ≤ maxLen
theorem do_rc : DOpen Try.prog 49 3 rcR rcGood := by
  have h0 := DOpen.struct (P := Try.prog) (t := 49) (by kernel_rfl) (by decide) Try.underlying49 (DFields.cons rfl (DOpen.u64 (by kernel_rfl) (by kernel_rfl)) (DFields.cons rfl (DOpen.str (by kernel_rfl) (by kernel_rfl)) (DFields.cons rfl (DOpen.slice (e := 50) (DOpen.u32 (by kernel_rfl) (by kernel_rfl)) (0 : UInt32) (by kernel_rfl) (by kernel_rfl)) DFields.nil)))
  refine h0.map (fun x => ((x.1, x.2.1, x.2.2.1) : RcT)) (fun x j hj => ?_) fun x g => (show rcGood _ from ⟨g.2.1, g.2.2.1.1⟩)
  match j, hj with
  | 0, _ => rfl
  | 1, _ => rfl
  | 2, _ => rfl
theorem do_rcs : DOpen Try.prog 22 1 (slR 3 rcR (0, ⟨#[]⟩, [])) (listG rcGood) := DOpen.slice (e := 49) do_rc _ (by kernel_rfl) (by kernel_rfl)
theorem ao_rcs : AOpen Try.prog 22 (fun l : List RcT => .o (.ro 3 l.length (rcC l).cell)) (listG rcGood) :=
  AOpen.one do_rcs (not_st (d := .slice 49) (by kernel_rfl) fun _ h => by cases h) (not_ar (d := .slice 49) (by kernel_rfl) fun _ _ h => by cases h)
theorem good_at {xs : List RcT} (h : listG rcGood xs) (i : Nat) : (xs.getD i (0, ⟨#[]⟩, [])).2.1.size ≤ 9223372036854775807 ∧ (xs.getD i (0, ⟨#[]⟩, [])).2.2.length ≤ 9223372036854775807 := by
  by_cases hi : i < xs.length
  · rw [List.getD_eq_getElem?_getD, List.getElem?_eq_getElem hi]
    exact h.2 _ (List.getElem_mem hi)
  · rw [List.getD_eq_getElem?_getD, List.getElem?_eq_none (by omega)]
    exact ⟨Nat.zero_le _, Nat.zero_le _⟩
def bhR (x : List RcT × List UInt8) (j : Nat) : DC := match j with
  | 0 => .sl 3 x.1.length (rcC x.1).cell
  | _ => .sl 1 x.2.length (bytesC x.2).cell
theorem do_bh : DOpen Try.prog 25 2 bhR (fun x => listG rcGood x.1 ∧ listG Any x.2) := by
  have h0 := DOpen.struct (P := Try.prog) (t := 25) (by kernel_rfl) (by decide) Try.underlying25 (DFields.cons rfl do_rcs (DFields.cons rfl do_u8s DFields.nil))
  refine h0.map (fun x => (x.1, x.2.1)) (fun x j hj => ?_) fun x g => ⟨g.1, g.2.1⟩
  match j, hj with
  | 0, _ => rfl
  | 1, _ => rfl
theorem ao_bh : AOpen Try.prog 25 (fun x : List RcT × List UInt8 => .g [.ro 3 x.1.length (rcC x.1).cell, .ro 1 x.2.length (bytesC x.2).cell]) (fun x => listG rcGood x.1 ∧ listG Any x.2) :=
  AOpen.agg do_bh (.inl ⟨_, Try.underlying25⟩)
theorem ao_u16 : AOpen Try.prog 26 (fun x : UInt16 => .o (.c (.int .u16 x.toNat))) Any :=
  AOpen.one (DOpen.u16 (by kernel_rfl) (by kernel_rfl)) (not_st (d := .int .u16) (by kernel_rfl) fun _ h => by cases h) (not_ar (d := .int .u16) (by kernel_rfl) fun _ _ h => by cases h)
end Go.Proofs.Ytlbgepgpihklfaa.Am
