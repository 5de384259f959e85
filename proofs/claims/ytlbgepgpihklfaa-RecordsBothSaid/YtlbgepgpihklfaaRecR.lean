/- Walks of the program's reader of records: take, value, short, count. -/
import Derived.Test.YtlbgepgpihklfaaRecE2
namespace Go.Proofs.Ytlbgepgpihklfaa.Rec
open Go.RowKit Lw

/-- Only block br and new blocks have changed. -/
structure Only (br : Nat) (w w' : World) : Prop where
  os : w'.os = w.os
  tape : w'.tape = w.tape
  output : w'.output = w.output
  size : w.heap.size ≤ w'.heap.size
  block : ∀ k, k < w.heap.size → k ≠ br → w'.heap[k]? = w.heap[k]?
theorem Only.refl (br : Nat) (w : World) : Only br w w := ⟨rfl, rfl, rfl, Nat.le_refl _, fun _ _ _ => rfl⟩
theorem Only.trans {br : Nat} {a b c : World} (h : Only br a b) (h' : Only br b c) : Only br a c :=
  ⟨h'.os.trans h.os, h'.tape.trans h.tape, h'.output.trans h.output, Nat.le_trans h.size h'.size, fun k hk hn => (h'.block k (by have := h.size; omega) hn).trans (h.block k hk hn)⟩
theorem Only.below {br : Nat} {w w' : World} (h : Below w.heap.size w w') : Only br w w' := ⟨h.os, h.tape, h.output, h.size, fun k hk _ => h.block k hk⟩
theorem Only.setCell (br : Nat) (w : World) (o : Nat) (u : Value) : Only br w (w.setCell ⟨br, o, none⟩ u) :=
  ⟨rfl, rfl, rfl, by simp [World.setCell], fun _ _ hn => Below.heap_setCell _ _ _ _ hn⟩
theorem Only.toBelow {br B : Nat} {w w' : World} (h : Only br w w') (hB : B ≤ br) (hw : B ≤ w.heap.size) : Below B w w' := ⟨h.os, h.tape, h.output, h.size, fun k hk => h.block k (by omega) (by omega)⟩
theorem Only.keep {br : Nat} {S : Nat → Prop} {w w' : World} (h : Only br w w') (hS : ¬ S br) : Keep S w w' :=
  ⟨h.size, fun b o hs hb => World.cell?_of_block (h.block b hb (fun e => hS (e ▸ hs)))⟩

/-- The reader at block br. -/
def Rd (w : World) (br : Nat) (A : Option Addr) (n c at_ : Nat) (e : Int) : Prop :=
  w.heap[br]? = some (.cells #[.slice A n c, .int .i64 at_, .int .i64 e] 63 (0, 0))
theorem rd_cells {w : World} {br n c at_ : Nat} {A : Option Addr} {e : Int} (h : Rd w br A n c at_ e) :
    w.cell? ⟨br, 0, none⟩ = some (.slice A n c) ∧ w.cell? ⟨br, 1, none⟩ = some (.int .i64 at_) ∧ w.cell? ⟨br, 2, none⟩ = some (.int .i64 e) ∧ w.frozen? ⟨br, 1, none⟩ = false ∧ w.frozen? ⟨br, 2, none⟩ = false := by
  refine ⟨?_, ?_, ?_, ?_, ?_⟩ <;> (unfold Rd at h; simp [World.cell?, World.frozen?, h])
theorem rd_set1 {w : World} {br n c at_ : Nat} {A : Option Addr} {e : Int} (h : Rd w br A n c at_ e) (m : Nat) : Rd (w.setCell ⟨br, 1, none⟩ (.int .i64 m)) br A n c m e := heap_setCell_same w br 1 _ _ _ h
theorem rd_set2 {w : World} {br n c at_ : Nat} {A : Option Addr} {e : Int} (h : Rd w br A n c at_ e) (m : Int) : Rd (w.setCell ⟨br, 2, none⟩ (.int .i64 m)) br A n c at_ m := heap_setCell_same w br 2 _ _ _ h

set_option maxRecDepth 20000 in
set_option maxHeartbeats 2000000 in
theorem take_err (br n c at_ m : Nat) (A : Option Addr) (e : Int) (w : World) (h : Rd w br A n c at_ e) (he : e ≠ 0) :
    Calls Try.prog 44 #[.pointer (some ⟨br, 0, none⟩), .int .i64 m] w fun e' w' => e' = .returned (.slice none 0 0) ∧ Dr w w' := by
  obtain ⟨h0, h1, h2, h3, h4⟩ := rd_cells h
  have e1 : (e == 0) = false := by rw [beq_eq_false_iff_ne]; exact he
  have e2 : (e != 0) = true := by rw [bne_iff_ne]; exact he
  clear he h
  go_enter Try.func44, Try.ntmps44
  go_wp2_with fail
  go_quiet (fail)
  go_wp2_with fail
  go_ret
  exact ⟨rfl, _, rfl⟩

set_option maxRecDepth 20000 in
set_option maxHeartbeats 2000000 in
theorem take_more (br n c at_ m : Nat) (A : Option Addr) (w : World) (h : Rd w br A n c at_ 0) (hat : at_ ≤ n) (hn : n ≤ 1000000) (hm : n - at_ < m) (hm' : m ≤ 1000000) :
    Calls Try.prog 44 #[.pointer (some ⟨br, 0, none⟩), .int .i64 m] w fun e' w' => e' = .returned (.slice none 0 0) ∧ Rd w' br A n c at_ 10 ∧ Only br w w' := by
  obtain ⟨h0, h1, h2, h3, h4⟩ := rd_cells h
  have Hr := Lib.hid h
  have s1 : IntKind.i64.wrap ((n : Int) - (at_ : Int)) = (n : Int) - (at_ : Int) := IntWalk.i64_in _ (by omega)
  have s2 : decide ((n : Int) - (at_ : Int) < (m : Int)) = true := by simp; omega
  clear h
  go_enter Try.func44, Try.ntmps44
  go_wp2_with fail
  go_quiet (fail)
  go_wp2_with fail
  go_ret
  have hd : Rd (w.drewN nq) br A n c at_ 0 := Hr.out
  exact ⟨rfl, rd_set2 hd 10, (Only.below ⟨rfl, rfl, rfl, Nat.le_refl _, fun _ _ => rfl⟩ : Only br w (w.drewN nq)).trans (Only.setCell br _ 2 _)⟩

set_option maxRecDepth 20000 in
set_option maxHeartbeats 2000000 in
theorem take_ok (br n c at_ m : Nat) (A : Option Addr) (bs : Bs) (S : Nat → Prop) (w : World) (h : Rd w br A n c at_ 0) (hS : ¬ S br) (hs : u8.Sl w S A n bs) (hat : at_ + m ≤ n) (hn : n ≤ 1000000) (hnc : n ≤ c) (hc : c ≤ 9223372036854775807) :
    Calls Try.prog 44 #[.pointer (some ⟨br, 0, none⟩), .int .i64 m] w fun e' w' => ∃ A' c', e' = .returned (.slice A' m c') ∧ m ≤ c' ∧ c' ≤ 9223372036854775807 ∧ u8.Sl w' S A' m ((bs.drop at_).take m) ∧ Rd w' br A n c (at_ + m) 0 ∧ Only br w w' := by
  have Hs := Lib.hid hs
  clear hs
  obtain ⟨h0, h1, h2, h3, h4⟩ := rd_cells h
  have Hr := Lib.hid h
  have s1 : IntKind.i64.wrap ((n : Int) - (at_ : Int)) = (n : Int) - (at_ : Int) := IntWalk.i64_in _ (by omega)
  have s2 : decide ((n : Int) - (at_ : Int) < (m : Int)) = false := by simp; omega
  clear h
  go_enter Try.func44, Try.ntmps44
  go_wp2_with fail
  go_quiet (fail)
  go_wp2_with fail
  have hd : Rd (w.drewN nq) br A n c at_ 0 := Hr.out
  have hd1 := rd_set1 hd (at_ + m)
  have ho : Only br w ((w.drewN nq).setCell ⟨br, 1, none⟩ (.int .i64 (at_ + m : Nat))) := (Only.below ⟨rfl, rfl, rfl, Nat.le_refl _, fun _ _ => rfl⟩ : Only br w (w.drewN nq)).trans (Only.setCell br _ 1 _)
  obtain ⟨k0, k1, k2, k3, k4⟩ := rd_cells hd1
  have Hd1 := Lib.hid hd1
  have Ho := Lib.hid ho
  have es : (Value.int .i64 ((at_ : Int) + (m : Int))) = .int .i64 ((at_ + m : Nat) : Int) := by simp
  rw [es]
  generalize (w.drewN nq).setCell ⟨br, 1, none⟩ (.int .i64 (at_ + m : Nat)) = W at *
  clear hd hd1 ho es h0 h1 h2 h3 h4
  go_quiet (fail)
  go_wp2_with fail
  · go_ret
    have hm0 : m = 0 := by omega
    have hH := Hd1.out
    have hA : u8.Sl (W.drewN nq) S A m ((bs.drop at_).take m) := by rw [hm0]; exact El.Sl.nil _ _ _
    refine ⟨A, 0, rfl, by omega, by omega, hA, ?_, Ho.out.trans (Only.below ⟨rfl, rfl, rfl, Nat.le_refl _, fun _ _ => rfl⟩)⟩
    have hca : c = at_ := by omega
    rw [hca] at hH
    exact hH
  · go_ret
    have hcut := (Hs.out.cut hat).keep (Ho.out.keep hS)
    simp only [show u8.size = 1 from rfl, Nat.mul_one] at hcut
    exact ⟨_, _, rfl, by omega, by omega, hcut, Hd1.out, Ho.out.trans (Only.below ⟨rfl, rfl, rfl, Nat.le_refl _, fun _ _ => rfl⟩)⟩

/-- The number of bytes, the lowest first. -/
def leVal : Bs → Nat
  | [] => 0
  | b :: l => b.toNat + 256 * leVal l

theorem leVal_lt (l : Bs) : leVal l < 256 ^ l.length := by
  induction l with
  | nil => simp [leVal]
  | cons b l ih =>
    have := b.toNat_lt
    rw [leVal, List.length_cons, Nat.pow_succ]; omega
theorem leVal_append (l m : Bs) : leVal (l ++ m) = leVal l + 256 ^ l.length * leVal m := by
  induction l with
  | nil => simp [leVal]
  | cons b l ih => rw [List.cons_append, leVal, ih, leVal, List.length_cons, Nat.pow_succ]; grind
theorem leVal_snoc (l : Bs) (k : Nat) (h : k < l.length) : leVal (l.take (k + 1)) = leVal (l.take k) + l[k].toNat * 256 ^ k := by
  rw [List.take_succ_eq_append_getElem h, leVal_append, List.length_take, Nat.min_eq_left (by omega)]
  simp [leVal, Nat.mul_comm]

theorem or_shift (z b k : Nat) (hz : z < 256 ^ k) (hb : b < 256) (hk : k < 8) : bits .or .u64 (z : Int) (IntKind.u64.wrap (IntKind.u64.wrap (b : Int) * 2 ^ (8 * k))) = ((z + b * 256 ^ k : Nat) : Int) := by
  have e : (256 : Nat) ^ k = 2 ^ (8 * k) := by rw [show (256 : Nat) = 2 ^ 8 by decide, ← Nat.pow_mul]
  have hp : 256 ^ (k + 1) ≤ 256 ^ 8 := Nat.pow_le_pow_right (by decide) (by omega)
  have h64 : (256 : Nat) ^ 8 = 18446744073709551616 := by decide
  have hm : b * 256 ^ k < 256 ^ (k + 1) := by rw [Nat.pow_succ, Nat.mul_comm]; exact Nat.mul_lt_mul_of_pos_left hb (Nat.pow_pos (by decide))
  have w1 : IntKind.u64.wrap (b : Int) = (b : Int) := by rw [IntKind.wrap_u64]; omega
  have w2 : (b : Int) * 2 ^ (8 * k) = ((b * 256 ^ k : Nat) : Int) := by rw [e]; simp
  have w3 : IntKind.u64.wrap ((b * 256 ^ k : Nat) : Int) = ((b * 256 ^ k : Nat) : Int) := by rw [IntKind.wrap_u64]; omega
  have hz' : z < 256 ^ (k + 1) := by rw [Nat.pow_succ]; omega
  rw [w1, w2, w3, u64_or_nat _ _ (by omega) (by omega)]
  congr 1
  rw [Nat.or_comm, e, ← Nat.shiftLeft_eq, ← Nat.shiftLeft_add_eq_or_of_lt (by rw [← e]; exact hz), Nat.add_comm]

set_option maxRecDepth 20000 in
set_option maxHeartbeats 2000000 in
theorem value_any (A : Option Addr) (n c : Nat) (bs : Bs) (w : World) (S : Nat → Prop) (h : u8.Sl w S A n bs) (hn : n ≤ 8) :
    Calls Try.prog 43 #[.slice A n c] w fun e w' => e = .returned (.int .u64 (leVal bs)) ∧ w' = w := by
  have hnb := h.1
  have H := Lib.hid h
  have Hnb := Lib.hid hnb
  clear h hnb
  go_enter Try.func43, Try.ntmps43
  go_wp2
  go_loop [3, 4, 5, 8] (fun z _ _ i => ∃ k : Nat, k ≤ n ∧ i = .int .i64 k ∧ z = .int .u64 (leVal (bs.take k))) (fun _ _ _ i => n - (intOf i).toNat)
  case atStart => exact ⟨0, by omega, rfl, rfl⟩
  case round =>
    obtain ⟨k, hk, rfl, rfl⟩ := hrel
    by_cases hlt : k < n
    · have hkb : k < bs.length := by rw [← Hnb.out]; exact hlt
      obtain ⟨b, off, rfl, hbS, hbl, hcell⟩ := El.Sl.one_at H.out hkb
      have s1 : IntKind.i64.wrap (8 * (k : Int)) = 8 * (k : Int) := IntWalk.i64_in _ (by omega)
      have s2 : (0 : Int) ≤ 8 * (k : Int) := by omega
      have s3 : 8 * (k : Int) ≤ 64 := by omega
      have s4 : (8 * (k : Int)).toNat = 8 * k := by omega
      have hzl := leVal_lt (bs.take k)
      have hzl : leVal (bs.take k) < 256 ^ k := by rwa [List.length_take, Nat.min_eq_left (by omega)] at hzl
      have Hor := Lib.hid (or_shift _ _ k hzl bs[k].toNat_lt (by omega))
      have Hsn := Lib.hid (leVal_snoc bs k hkb)
      generalize leVal (bs.take k) = z at *
      clear hzl
      go_wp2
      go_round
      case rel => exact ⟨k + 1, by omega, by go_num, by rw [Hor.out, Hsn.out]⟩
      case measure => simp [intOf]; omega
    · go_wp2
      go_ret
      refine ⟨?_, rfl⟩
      rw [List.take_of_length_le (by have := Hnb.out; omega)]; rfl
end Go.Proofs.Ytlbgepgpihklfaa.Rec
