/- Walks of the program's parse of a form: kinds, the closure, IndexFunc, parse. -/
import Derived.Test.YtlbgepgpihklfaaRecW3
namespace Go.Proofs.Ytlbgepgpihklfaa.Rec
open Go.RowKit Lw

abbrev fnV (f : Nat) : Value := .func (.func f) #[] #[]
/-- The kinds: letter, width, put, get. -/
def kindsL : List (Nat × Nat × Nat × Nat) := [(98, 1, 33, 34), (119, 2, 33, 34), (100, 4, 33, 34), (113, 8, 33, 34),
  (118, 0, 35, 36), (115, 0, 37, 38), (108, 0, 39, 40)]
def kindC (k : Nat × Nat × Nat × Nat) : List Value := [.int .u8 k.1, .int .i64 k.2.1, fnV k.2.2.1, fnV k.2.2.2]
def kindsC : List Value := kindsL.flatMap kindC

theorem kindsC_at (k : Nat) (hk : k < 7) : ∃ q, kindsL[k]? = some q ∧ kindsC[k * 4]? = some (.int .u8 q.1) ∧ kindsC[k * 4 + 1]? = some (.int .i64 q.2.1) ∧ kindsC[k * 4 + 2]? = some (fnV q.2.2.1) ∧ kindsC[k * 4 + 3]? = some (fnV q.2.2.2) := by
  match k, hk with
  | 0, _ => exact ⟨_, rfl, rfl, rfl, rfl, rfl⟩
  | 1, _ => exact ⟨_, rfl, rfl, rfl, rfl, rfl⟩
  | 2, _ => exact ⟨_, rfl, rfl, rfl, rfl, rfl⟩
  | 3, _ => exact ⟨_, rfl, rfl, rfl, rfl, rfl⟩
  | 4, _ => exact ⟨_, rfl, rfl, rfl, rfl, rfl⟩
  | 5, _ => exact ⟨_, rfl, rfl, rfl, rfl, rfl⟩
  | 6, _ => exact ⟨_, rfl, rfl, rfl, rfl, rfl⟩

set_option maxRecDepth 20000 in
set_option maxHeartbeats 1000000 in
theorem kinds_any (w : World) : Calls Try.prog 25 #[] w fun e w' => e = .returned (.slice (some ⟨w.heap.size, 0, none⟩) 7 7) ∧ w' = w.alloc (.cells kindsC.toArray 60) := by
  go_enter Try.func25, Try.ntmps25
  go_wp2
  go_ret
  exact ⟨rfl, rfl⟩

set_option maxRecDepth 20000 in
set_option maxHeartbeats 1000000 in
theorem clo_any (q : Nat × Nat × Nat × Nat) (pb ib i : Nat) (s : ByteArray) (w : World) (hp : w.cell? ⟨pb, 0, none⟩ = some (.string s)) (hi : w.cell? ⟨ib, 0, none⟩ = some (.int .i64 i)) (h : i < s.size) (hs : s.size ≤ 1000) :
    Calls Try.prog 27 #[.agg #[.int .u8 q.1, .int .i64 q.2.1, fnV q.2.2.1, fnV q.2.2.2], .pointer (some ⟨pb, 0, none⟩), .pointer (some ⟨ib, 0, none⟩)] w fun e w' => e = .returned (.bool (decide (q.1 = s[i].toNat))) ∧ Below w.heap.size w w' := by
  have hb : ((q.1 : Int) == (s[i].toNat : Int)) = decide (q.1 = s[i].toNat) := by
    rw [Bool.eq_iff_iff]; simp; omega
  have Hb := Lib.hid hb
  have h1 : (i : Int) < (s.size : Int) := by omega
  have e1 : ∀ o, (w.alloc o).cell? ⟨pb, 0, none⟩ = some (.string s) := fun o => (World.cell?_alloc_lt w o _ (World.block_lt_of_cell? w _ hp)).trans hp
  have e2 : ∀ o, (w.alloc o).cell? ⟨ib, 0, none⟩ = some (.int .i64 i) := fun o => (World.cell?_alloc_lt w o _ (World.block_lt_of_cell? w _ hi)).trans hi
  clear hb
  go_enter Try.func27, Try.ntmps27
  go_wp2
  go_quiet (fail)
  go_wp2
  go_ret
  have hb : Below w.heap.size w ((w.alloc (.cells #[.int .u8 q.1, .int .i64 q.2.1, fnV q.2.2.1, fnV q.2.2.2] 60)).drewN nq) := ((Below.refl _ _).alloc (Nat.le_refl _) _).trans ⟨rfl, rfl, rfl, Nat.le_refl _, fun _ _ => rfl⟩
  first | exact ⟨rfl, hb⟩ | exact ⟨congrArg (fun b => Ending.returned (Value.bool b)) Hb.out, hb⟩

/-- The place of a kind with a letter, from k on. -/
def kfind : List (Nat × Nat × Nat × Nat) → Nat → Nat → Int
  | [], _, _ => -1
  | q :: l, c, k => if q.1 = c then k else kfind l c (k + 1)

set_option maxRecDepth 20000 in
set_option maxHeartbeats 2000000 in
theorem index_any (kb pb ib i : Nat) (s : ByteArray) (w : World) (hk : w.heap[kb]? = some (.cells kindsC.toArray 60 (0, 0))) (hp : w.cell? ⟨pb, 0, none⟩ = some (.string s)) (hi : w.cell? ⟨ib, 0, none⟩ = some (.int .i64 i)) (h : i < s.size) (hs : s.size ≤ 1000) :
    Calls Try.prog 26 #[.slice (some ⟨kb, 0, none⟩) 7 7, .func (.func 27) #[] #[.pointer (some ⟨pb, 0, none⟩), .pointer (some ⟨ib, 0, none⟩)]] w fun e w' => e = .returned (.int .i64 (kfind kindsL s[i].toNat 0)) ∧ Below w.heap.size w w' := by
  have hkl := lt_of_block hk
  have hpl := World.block_lt_of_cell? w _ hp
  have hil := World.block_lt_of_cell? w _ hi
  generalize hc : s[i].toNat = c
  have Hc := Lib.hid hc
  have Hk := Lib.hid hk
  have Hp := Lib.hid hp
  have Hi := Lib.hid hi
  clear hc hk hp hi
  go_enter Try.func26, Try.ntmps26
  go_wp2
  go_loopw [5, 8] (fun _ j wr => ∃ k : Nat, k ≤ 7 ∧ j = .int .i64 k ∧ Below w.heap.size w wr ∧ kfind kindsL c 0 = kfind (kindsL.drop k) c k) (fun _ j _ => 7 - (intOf j).toNat)
  case atStart => exact ⟨0, by omega, rfl, Below.refl _ _, rfl⟩
  case round =>
    obtain ⟨k, hk7, rfl, hb, hf⟩ := hrel
    have Hf := Lib.hid hf
    have hz := hb.size
    clear hf
    by_cases hlt : k < 7
    · obtain ⟨q, hq, h0, h1, h2, h3⟩ := kindsC_at k hlt
      have hd : kindsL.drop k = q :: kindsL.drop (k + 1) := by
        have hkl : k < kindsL.length := hlt
        rw [List.drop_eq_getElem_cons hkl]
        congr 1
        rw [List.getElem?_eq_getElem hkl] at hq
        exact Option.some.inj hq
      have c0 := (hb.cell (p := ⟨kb, k * 4, none⟩) hkl).trans (row_at Hk.out h0)
      have c1 := (hb.cell (p := ⟨kb, k * 4 + 1, none⟩) hkl).trans (row_at Hk.out h1)
      have c2 := (hb.cell (p := ⟨kb, k * 4 + 2, none⟩) hkl).trans (row_at Hk.out h2)
      have c3 := (hb.cell (p := ⟨kb, k * 4 + 3, none⟩) hkl).trans (row_at Hk.out h3)
      have Hd := Lib.hid hd
      have Hclo := Lib.hid (fun W (b : Below w.heap.size w W) => clo_any q pb ib i s W ((b.cell (p := ⟨pb, 0, none⟩) hpl).trans Hp.out) ((b.cell (p := ⟨ib, 0, none⟩) hil).trans Hi.out) h hs)
      clear hd hq h0 h1 h2 h3
      by_cases hqc : q.1 = c
      · have hqd : decide (q.1 = s[i].toNat) = true := by rw [Hc.out]; simpa using hqc
        have Hqc := Lib.hid hqc
        clear hqc
        go_wp2_with (go_at_call 27; go_must (refine (Hclo.out _ hb).mono ?_); rintro e w1 ⟨rfl, hb1⟩; rw [hqd])
        go_ret
        refine ⟨?_, hb.trans (hb1.mono hz)⟩
        rw [Hf.out, Hd.out, kfind, if_pos Hqc.out]; rfl
      · have hqd : decide (q.1 = s[i].toNat) = false := by rw [Hc.out]; simpa using hqc
        have Hqc := Lib.hid hqc
        clear hqc
        go_wp2_with (go_at_call 27; go_must (refine (Hclo.out _ hb).mono ?_); rintro e w1 ⟨rfl, hb1⟩; rw [hqd])
        go_roundw
        case rel => exact ⟨k + 1, by omega, by go_num, hb.trans (hb1.mono hz), by rw [Hf.out, Hd.out, kfind, if_neg Hqc.out]⟩
        case measure => simp [intOf]; omega
    · have hk7' : k = 7 := by omega
      have Hk7 := Lib.hid hk7'
      clear hk7'
      go_wp2_with fail
      go_ret
      refine ⟨?_, hb⟩
      rw [Hf.out, Hk7.out]; rfl

def kOf (c : Nat) : Option (Nat × Nat × Nat × Nat) := kindsL.find? fun q => q.1 == c
theorem kfind_some (c : Nat) (h : okKind c = true) : ∃ (k : Nat) (q : Nat × Nat × Nat × Nat), kfind kindsL c 0 = k ∧ k < 7 ∧ kindsL[k]? = some q ∧ kOf c = some q ∧ q.1 = c := by
  simp only [okKind, decide_eq_true_eq] at h
  rcases h with rfl | rfl | rfl | rfl | rfl | rfl | rfl
  · exact ⟨0, _, rfl, by omega, rfl, rfl, rfl⟩
  · exact ⟨1, _, rfl, by omega, rfl, rfl, rfl⟩
  · exact ⟨2, _, rfl, by omega, rfl, rfl, rfl⟩
  · exact ⟨3, _, rfl, by omega, rfl, rfl, rfl⟩
  · exact ⟨4, _, rfl, by omega, rfl, rfl, rfl⟩
  · exact ⟨5, _, rfl, by omega, rfl, rfl, rfl⟩
  · exact ⟨6, _, rfl, by omega, rfl, rfl, rfl⟩
theorem kfind_none (c : Nat) (h : okKind c = false) : kfind kindsL c 0 = -1 := by
  simp only [okKind, decide_eq_false_iff_not, not_or] at h
  obtain ⟨h1, h2, h3, h4, h5, h6, h7⟩ := h
  simp only [kindsL, kfind]
  rw [if_neg (Ne.symm h1), if_neg (Ne.symm h2), if_neg (Ne.symm h3), if_neg (Ne.symm h4), if_neg (Ne.symm h5), if_neg (Ne.symm h6), if_neg (Ne.symm h7)]

end Go.Proofs.Ytlbgepgpihklfaa.Rec
