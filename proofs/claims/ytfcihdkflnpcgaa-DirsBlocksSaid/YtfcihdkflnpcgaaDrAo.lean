/- The directories' arguments, opened. -/
import Derived.Test.YtfcihdkflnpcgaaAmBr
import Derived.Test.YtfcihdkflnpcgaaDrA
import Derived.KernelRfl
set_option linter.unusedSimpArgs false
set_option linter.unusedVariables false
namespace Go.Proofs.Ytfcihdkflnpcgaa.Am
open Go.RowKit Lw Dr
theorem not_st {P : Program} {t : TypeId} {d : TypeDesc} (h : P.underlying t = some d) (hd : ∀ fs, d ≠ .struct fs) : ∀ fs, P.underlying t ≠ some (.struct fs) := fun fs e => hd fs (Option.some.inj (h.symm.trans e))
theorem not_ar {P : Program} {t : TypeId} {d : TypeDesc} (h : P.underlying t = some d) (hd : ∀ n e, d ≠ .array n e) : ∀ n e, P.underlying t ≠ some (.array n e) := fun n e' e => hd n e' (Option.some.inj (h.symm.trans e))
theorem ao_str : AOpen Try.prog 9 (fun s => .o (.c (.string s))) strG :=
  AOpen.one (DOpen.str (by kernel_rfl) (by kernel_rfl)) (not_st (d := .string) (by kernel_rfl) fun _ h => by cases h) (not_ar (d := .string) (by kernel_rfl) fun _ _ h => by cases h)
theorem do_u8s : DOpen Try.prog 41 1 (slR 1 byteR 0) (listG Any) := DOpen.slice (e := 5) (DOpen.u8 (by kernel_rfl) (by kernel_rfl)) 0 (by kernel_rfl) (by kernel_rfl)
theorem ao_u8s : AOpen Try.prog 41 (fun l : List UInt8 => .o (.ro 1 l.length (bytesC l).cell)) (listG Any) :=
  AOpen.one do_u8s (not_st (d := .slice 5) (by kernel_rfl) fun _ h => by cases h) (not_ar (d := .slice 5) (by kernel_rfl) fun _ _ h => by cases h)
def deGood (x : De) : Prop := x.1.size ≤ maxLen
theorem do_de : DOpen Try.prog 31 3 deR deGood := by
  have h0 := DOpen.struct (P := Try.prog) (t := 31) (by kernel_rfl) (by decide) Try.underlying31 (DFields.cons rfl (DOpen.str (by kernel_rfl) (by kernel_rfl)) (DFields.cons rfl (DOpen.bool (by kernel_rfl) (by kernel_rfl)) (DFields.cons rfl (DOpen.i64 (by kernel_rfl) (by kernel_rfl)) DFields.nil)))
  refine h0.map (fun x => ((x.1, x.2.1, x.2.2.1) : De)) (fun x j hj => ?_) fun x g => (show deGood _ from g.1)
  match j, hj with
  | 0, _ => rfl
  | 1, _ => rfl
  | 2, _ => rfl
theorem do_des : DOpen Try.prog 22 1 (slR 3 deR d0) (listG deGood) := DOpen.slice (e := 31) do_de _ (by kernel_rfl) (by kernel_rfl)
theorem ao_des : AOpen Try.prog 22 (fun l : List De => .o (.ro 3 l.length (deC l).cell)) (listG deGood) :=
  AOpen.one do_des (not_st (d := .slice 31) (by kernel_rfl) fun _ h => by cases h) (not_ar (d := .slice 31) (by kernel_rfl) fun _ _ h => by cases h)
theorem ao_de : AOpen Try.prog 31 (fun x : De => .g (deA x)) deGood :=
  AOpen.agg do_de (.inl ⟨_, Try.underlying31⟩)
theorem do_bls : DOpen Try.prog 43 1 (slR 1 (slR 1 byteR 0) []) (listG (listG Any)) := DOpen.slice (e := 41) do_u8s _ (by kernel_rfl) (by kernel_rfl)
theorem ao_bls : AOpen Try.prog 43 (fun l : List (List UInt8) => .o (.ro 1 l.length (listC (slR 1 byteR 0) [] l).cell)) (listG (listG Any)) :=
  AOpen.one do_bls (not_st (d := .slice 41) (by kernel_rfl) fun _ h => by cases h) (not_ar (d := .slice 41) (by kernel_rfl) fun _ _ h => by cases h)
theorem good_de {xs : List De} (h : listG deGood xs) (i : Nat) : (xs.getD i d0).1.size ≤ 9223372036854775807 := by
  by_cases hi : i < xs.length
  · exact h.2 _ (getD_mem hi)
  · rw [List.getD_eq_getElem?_getD, List.getElem?_eq_none (by omega)]
    exact Nat.zero_le _
theorem good_bl {b : List (List UInt8)} (h : listG (listG Any) b) : b.length ≤ 9223372036854775807 ∧ ∀ q, (b.getD q []).length ≤ 9223372036854775807 := by
  refine ⟨h.1, fun q => ?_⟩
  by_cases hq : q < b.length
  · rw [List.getD_eq_getElem?_getD, List.getElem?_eq_getElem hq]
    exact (h.2 _ (List.getElem_mem hq)).1
  · rw [List.getD_eq_getElem?_getD, List.getElem?_eq_none (by omega)]
    exact Nat.zero_le _
end Go.Proofs.Ytfcihdkflnpcgaa.Am
