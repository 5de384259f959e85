/- Walk: shown. -/
import Derived.Test.YtlbgepgpihklfaaRecF
namespace Go.Proofs.Ytlbgepgpihklfaa.Rec
open Go.RowKit Lw

theorem ownsRow_u8 {w : World} {base e n : Nat} {v : Value} {bs : Bs} (h : w.ownsRow base e 1 v n (bytesV bs)) (hn : n = bs.length) : ∃ A c, v = .slice A n c ∧ n ≤ c ∧ c ≤ 9223372036854775807 ∧ u8.Sl w (fun _ => True) A n bs := by
  obtain ⟨A, c, rfl, h1, h2, _, _, h3⟩ := ownsRow_src h
  refine ⟨A, c, rfl, h1, by unfold maxLen at h2; omega, hn, fun hp => ?_⟩
  obtain ⟨b, off, rfl, hb, _, hc⟩ := h3 hp
  refine ⟨b, off, rfl, trivial, hb, fun i hi => ⟨[.int .u8 bs[i].toNat], rfl, fun j u hu => ?_⟩⟩
  have hj : j = 0 := by
    have := (List.getElem?_eq_some_iff.1 hu).1
    simpa using this
  subst hj
  have := hc i (.int .u8 bs[i].toNat) (by simp [bytesV, hi])
  rw [show i * u8.size = i from Nat.mul_one i]
  simp at hu
  rw [Nat.add_zero, this, hu]

theorem u8_lit {w : World} {g e : Nat} {fr : Nat × Nat} (bs : Bs) (h : w.heap[g]? = some (.cells (bytesV bs).toArray e fr)) (S : Nat → Prop) (hS : S g) : u8.Sl w S (some ⟨g, 0, none⟩) bs.length bs := by
  refine ⟨rfl, fun _ => ⟨g, 0, rfl, hS, lt_of_block h, fun i hi => ⟨[.int .u8 bs[i].toNat], rfl, fun j u hu => ?_⟩⟩⟩
  have hj : j = 0 := by
    have := (List.getElem?_eq_some_iff.1 hu).1
    simpa using this
  subst hj
  rw [show i * u8.size = i from Nat.mul_one i, Nat.zero_add, Nat.add_zero]
  exact row_at h (by simp at hu; simp [bytesV, hi, hu])

theorem u32_lit {w : World} {g e : Nat} {fr : Nat × Nat} (ls : List UInt32) (h : w.heap[g]? = some (.cells (ls.map fun x => Value.int .u32 x.toNat).toArray e fr)) (S : Nat → Prop) (hS : S g) : u32.Sl w S (some ⟨g, 0, none⟩) ls.length ls := by
  refine ⟨rfl, fun _ => ⟨g, 0, rfl, hS, lt_of_block h, fun i hi => ⟨[.int .u32 ls[i].toNat], rfl, fun j u hu => ?_⟩⟩⟩
  have hj : j = 0 := by
    have := (List.getElem?_eq_some_iff.1 hu).1
    simpa using this
  subst hj
  rw [show i * u32.size = i from Nat.mul_one i, Nat.zero_add, Nat.add_zero]
  exact row_at h (by simp at hu; simp [hi, hu])

theorem rc_relI {w : World} {S : Nat → Prop} {x : RcT} {A : Option Addr} {n c : Nat} (h1 : n ≤ c) (h2 : c ≤ maxLen) (h : u32.Sl w S A n x.2.2) : rc.rel w S [.int .u64 x.1.toNat, .string x.2.1, .slice A n c] x :=
  ⟨[.int .u64 x.1.toNat], [.string x.2.1, .slice A n c], rfl, rfl, [.string x.2.1], [.slice A n c], rfl, rfl, A, n, c, rfl, h1, h2, h⟩

theorem rc_lit1 {w : World} {g e : Nat} {fr : Nat × Nat} {x : RcT} {us : List Value} (h : w.heap[g]? = some (.cells us.toArray e fr)) (S : Nat → Prop) (hS : S g) (hr : rc.rel w S us x) : rc.Sl w S (some ⟨g, 0, none⟩) 1 [x] := by
  refine ⟨rfl, fun _ => ⟨g, 0, rfl, hS, lt_of_block h, fun i hi => ?_⟩⟩
  obtain rfl : i = 0 := by simpa using hi
  exact ⟨us, hr, fun j u hu => row_at h (by simpa using hu)⟩
theorem rc_lit2 {w : World} {g e : Nat} {fr : Nat × Nat} {x y : RcT} {us ts : List Value} (h : w.heap[g]? = some (.cells (us ++ ts).toArray e fr)) (S : Nat → Prop) (hS : S g) (hr : rc.rel w S us x) (hr2 : rc.rel w S ts y) : rc.Sl w S (some ⟨g, 0, none⟩) 2 [x, y] := by
  have hl : us.length = 3 := rc.len hr
  refine ⟨rfl, fun _ => ⟨g, 0, rfl, hS, lt_of_block h, fun i hi => ?_⟩⟩
  match i, hi with
  | 0, _ => exact ⟨us, hr, fun j u hu => row_at h (by
      have : j < us.length := (List.getElem?_eq_some_iff.1 hu).1
      rw [List.getElem?_append_left (by simpa using this)]; simpa using hu)⟩
  | 1, _ => exact ⟨ts, hr2, fun j u hu => row_at h (by
      have e1 : 0 + 1 * rc.size + j = us.length + j := by rw [hl]; simp [show rc.size = 3 from rfl]
      rw [e1, List.getElem?_append_right (by omega)]; simpa using hu)⟩

/-- What Encode leaves, by its result. -/
theorem bytesErr_out {w w' : World} {r : Int × Bs} {e : Ending} (h : BytesErr w r e w') {bs : Bs} (hr : r = (0, bs)) : ∃ A c, e = .returned (.tuple #[.slice A bs.length c, .int .i64 0]) ∧ bs.length ≤ c ∧ c ≤ 9223372036854775807 ∧ u8.Sl w' (fun _ => True) A bs.length bs ∧ Below w.heap.size w w' := by
  subst hr
  obtain ⟨v, rfl, ho, hb⟩ := h
  obtain ⟨A, c, rfl, h1, h2, h3⟩ := ownsRow_u8 ho rfl
  exact ⟨A, c, rfl, h1, h2, h3, hb⟩

theorem flatten_get {α : Type} {vss : List (List α)} {m : Nat} (hl : ∀ us ∈ vss, us.length = m) (i : Nat) (hi : i < vss.length) (j : Nat) (u : α) (hu : vss[i][j]? = some u) : vss.flatten[i * m + j]? = some u := by
  induction vss generalizing i with
  | nil => simp at hi
  | cons us vss ih =>
    have h0 : us.length = m := hl us (by simp)
    match i with
    | 0 =>
      have hu' : us[j]? = some u := hu
      have : j < us.length := (List.getElem?_eq_some_iff.1 hu').1
      rw [List.flatten_cons, List.getElem?_append_left (by simpa using this)]; simpa using hu'
    | i + 1 =>
      rw [List.flatten_cons, List.getElem?_append_right (by rw [h0, Nat.add_mul]; omega)]
      have := ih (fun us hus => hl us (by simp [hus])) i (by simpa using hi) (by simpa using hu)
      rw [← this]; congr 1; rw [h0, Nat.add_mul]; omega

theorem own_sl {α : Type} {E : El α} {w : World} {S : Nat → Prop} {base e : Nat} {v : Value} {vss : List (List Value)} {xs : List α} (h : w.ownsRow base e E.size v xs.length vss.flatten) (hl : vss.length = xs.length)
    (hr : ∀ (i : Nat) (h : i < vss.length) (h' : i < xs.length), E.rel w S vss[i] xs[i]) : ∃ A c, v = .slice A xs.length c ∧ xs.length ≤ c ∧ c ≤ 9223372036854775807 ∧ E.Sl w (fun _ => True) A xs.length xs := by
  obtain ⟨A, c, rfl, h1, h2, _, _, h3⟩ := ownsRow_src h
  refine ⟨A, c, rfl, h1, by unfold maxLen at h2; omega, rfl, fun hp => ?_⟩
  obtain ⟨b, off, rfl, hb, _, hc⟩ := h3 hp
  refine ⟨b, off, rfl, trivial, hb, fun i hi => ⟨vss[i], E.mono (Keep.refl _ _) (fun _ _ _ => trivial) (hr i (by omega) hi), fun j u hu => ?_⟩⟩
  have hm : ∀ us ∈ vss, us.length = E.size := by
    intro us hus
    obtain ⟨q, hq, rfl⟩ := List.getElem_of_mem hus
    exact E.len (hr q hq (by omega))
  rw [Nat.add_assoc]
  exact hc _ _ (flatten_get hm i (by omega) j u hu)

/-- What Decode leaves, by its result. -/
theorem decPost_out {w w' : World} {r : Int × List RcT × Nat} {e : Ending} (h : DecPost w r e w') : ∃ A c, e = .returned (.tuple #[.slice A r.2.1.length c, .int .i64 r.2.2, .int .i64 r.1]) ∧ r.2.1.length ≤ c ∧ c ≤ 9223372036854775807 ∧ rc.Sl w' (fun _ => True) A r.2.1.length r.2.1 ∧ Below w.heap.size w w' := by
  obtain ⟨v, vss, rfl, ho, hb⟩ := h
  obtain ⟨A, c, rfl, h1, h2, h3⟩ := own_sl (E := rc) ho.1 ho.2.1 ho.2.2
  exact ⟨A, c, rfl, h1, h2, h3, hb⟩

set_option maxRecDepth 20000 in
set_option maxHeartbeats 8000000 in
theorem shown_any (w : World) : Calls Try.prog 9 #[] w fun e w' => e = .returned (.bool true) ∧ Below w.heap.size w w' := by
  go_enter Try.func9, Try.ntmps9
  go_wp2_with fail
  have x1 : rc.Sl (w.alloc (.cells #[.int .u64 7, .string ⟨#[]⟩, .slice none 0 0, .int .u64 258, .string ⟨#[]⟩, .slice none 0 0] 49)) (· < (w.alloc (.cells #[.int .u64 7, .string ⟨#[]⟩, .slice none 0 0, .int .u64 258, .string ⟨#[]⟩, .slice none 0 0] 49)).heap.size) (some ⟨w.heap.size, 0, none⟩) 2 [(7, ⟨#[]⟩, []), (258, ⟨#[]⟩, [])] :=
    rc_lit2 (us := [.int .u64 7, .string ⟨#[]⟩, .slice none 0 0]) (ts := [.int .u64 258, .string ⟨#[]⟩, .slice none 0 0]) (heap_alloc_new _ _) _ (by simp) (rc_relI (x := (7, ⟨#[]⟩, [])) (Nat.le_refl _) (Nat.zero_le _) (El.Sl.nil _ _ _)) (rc_relI (x := (258, ⟨#[]⟩, [])) (Nat.le_refl _) (Nat.zero_le _) (El.Sl.nil _ _ _))
  go_fit (encode_any _ _ _ 2 _ _ x1 (by omega) (by intro x hx; simp at hx; rcases hx with rfl | rfl <;> decide))
  clear x1
  intro e w1 h1
  obtain ⟨Aa, ca, rfl, ha1, ha2, ha3, hb1⟩ := bytesErr_out h1 (show _ = (0, [7, 2, 1]) by decide +kernel)
  clear h1
  have HB1 := Lib.hid (((Below.refl w.heap.size w).alloc (Nat.le_refl _) (.cells #[.int .u64 7, .string ⟨#[]⟩, .slice none 0 0, .int .u64 258, .string ⟨#[]⟩, .slice none 0 0] 49)).trans (hb1.mono (by simp)))
  have HA1 := Lib.hid ha3
  clear hb1 ha3
  go_wp2_with fail
  have x2 : rc.Sl (w1.alloc (.cells #[.int .u64 300, .string ⟨#[]⟩, .slice none 0 0] 49)) (· < (w1.alloc (.cells #[.int .u64 300, .string ⟨#[]⟩, .slice none 0 0] 49)).heap.size) (some ⟨w1.heap.size, 0, none⟩) 1 [(300, ⟨#[]⟩, [])] :=
    rc_lit1 (us := [.int .u64 300, .string ⟨#[]⟩, .slice none 0 0]) (heap_alloc_new _ _) _ (by simp) (rc_relI (x := (300, ⟨#[]⟩, [])) (Nat.le_refl _) (Nat.zero_le _) (El.Sl.nil _ _ _))
  go_fit (encode_any _ _ _ 1 _ _ x2 (by omega) (by intro x hx; simp at hx; rcases hx with rfl; decide))
  clear x2
  intro e w2 h1
  obtain ⟨A2, c2, rfl, a21, a22, a23, hb2⟩ := bytesErr_out h1 (show _ = (0, [172, 2]) by decide +kernel)
  clear h1
  have HB2 := Lib.hid (HB1.out.trans (((Below.refl w1.heap.size w1).alloc (Nat.le_refl _) (.cells #[.int .u64 300, .string ⟨#[]⟩, .slice none 0 0] 49)).trans (hb2.mono (by simp)) |>.mono HB1.out.size))
  have HA2 := Lib.hid a23
  have HA1 := Lib.hid ((HA1.out.alloc (.cells #[.int .u64 300, .string ⟨#[]⟩, .slice none 0 0] 49)).below hb2)
  clear hb2 a23
  go_wp2_with fail
  have x3 : rc.Sl (w2.alloc (.cells #[.int .u64 0, .string ⟨#[97, 98]⟩, .slice none 0 0] 49)) (· < (w2.alloc (.cells #[.int .u64 0, .string ⟨#[97, 98]⟩, .slice none 0 0] 49)).heap.size) (some ⟨w2.heap.size, 0, none⟩) 1 [(0, ⟨#[97, 98]⟩, [])] :=
    rc_lit1 (us := [.int .u64 0, .string ⟨#[97, 98]⟩, .slice none 0 0]) (heap_alloc_new _ _) _ (by simp) (rc_relI (x := (0, ⟨#[97, 98]⟩, [])) (Nat.le_refl _) (Nat.zero_le _) (El.Sl.nil _ _ _))
  go_fit (encode_any _ _ _ 1 _ _ x3 (by omega) (by intro x hx; simp at hx; rcases hx with rfl; decide))
  clear x3
  intro e w3 h1
  obtain ⟨A3, c3, rfl, a31, a32, a33, hb3⟩ := bytesErr_out h1 (show _ = (0, [2, 97, 98]) by decide +kernel)
  clear h1
  have HB3 := Lib.hid (HB2.out.trans (((Below.refl w2.heap.size w2).alloc (Nat.le_refl _) (.cells #[.int .u64 0, .string ⟨#[97, 98]⟩, .slice none 0 0] 49)).trans (hb3.mono (by simp)) |>.mono HB2.out.size))
  have HA3 := Lib.hid a33
  have HA1 := Lib.hid ((HA1.out.alloc (.cells #[.int .u64 0, .string ⟨#[97, 98]⟩, .slice none 0 0] 49)).below hb3)
  have HA2 := Lib.hid ((HA2.out.alloc (.cells #[.int .u64 0, .string ⟨#[97, 98]⟩, .slice none 0 0] 49)).below hb3)
  clear hb3 a33
  go_wp2_with fail
  have hl4 : u32.Sl ((w3.alloc (.cells #[.int .u32 1, .int .u32 2] 50)).alloc (.cells #[.int .u64 0, .string ⟨#[]⟩, .slice (some ⟨w3.heap.size, 0, none⟩) 2 2] 49)) (· < ((w3.alloc (.cells #[.int .u32 1, .int .u32 2] 50)).alloc (.cells #[.int .u64 0, .string ⟨#[]⟩, .slice (some ⟨w3.heap.size, 0, none⟩) 2 2] 49)).heap.size) (some ⟨w3.heap.size, 0, none⟩) 2 [1, 2] :=
    u32_lit [1, 2] ((Below.heap_alloc _ _ _ (by simp)).trans (heap_alloc_new w3 _)) _ (by simp; omega)
  have x4 : rc.Sl ((w3.alloc (.cells #[.int .u32 1, .int .u32 2] 50)).alloc (.cells #[.int .u64 0, .string ⟨#[]⟩, .slice (some ⟨w3.heap.size, 0, none⟩) 2 2] 49)) (· < ((w3.alloc (.cells #[.int .u32 1, .int .u32 2] 50)).alloc (.cells #[.int .u64 0, .string ⟨#[]⟩, .slice (some ⟨w3.heap.size, 0, none⟩) 2 2] 49)).heap.size) (some ⟨w3.heap.size + 1, 0, none⟩) 1 [(0, ⟨#[]⟩, [1, 2])] :=
    rc_lit1 (us := [.int .u64 0, .string ⟨#[]⟩, .slice (some ⟨w3.heap.size, 0, none⟩) 2 2]) (by have := heap_alloc_new (w3.alloc (.cells #[.int .u32 1, .int .u32 2] 50)) (.cells #[.int .u64 0, .string ⟨#[]⟩, .slice (some ⟨w3.heap.size, 0, none⟩) 2 2] 49); rw [show (w3.alloc (.cells #[.int .u32 1, .int .u32 2] 50)).heap.size = w3.heap.size + 1 by simp] at this; exact this) _ (by simp) (rc_relI (x := (0, ⟨#[]⟩, [1, 2])) (Nat.le_refl _) (by unfold maxLen; omega) hl4)
  go_fit (encode_any _ _ _ 1 _ _ x4 (by omega) (by intro x hx; simp at hx; rcases hx with rfl; decide))
  clear x4 hl4
  intro e w4 h1
  obtain ⟨A4, c4, rfl, a41, a42, a43, hb4⟩ := bytesErr_out h1 (show _ = (0, [2, 1, 0, 0, 0, 2, 0, 0, 0]) by decide +kernel)
  clear h1
  have hb34 : Below w3.heap.size w3 w4 := (((Below.refl w3.heap.size w3).alloc (Nat.le_refl _) (.cells #[.int .u32 1, .int .u32 2] 50)).alloc (by simp) (.cells #[.int .u64 0, .string ⟨#[]⟩, .slice (some ⟨w3.heap.size, 0, none⟩) 2 2] 49)).trans (hb4.mono (by simp; omega))
  have HB4 := Lib.hid (HB3.out.trans (hb34.mono HB3.out.size))
  have HA4 := Lib.hid a43
  have HA1 := Lib.hid (HA1.out.below hb34)
  have HA2 := Lib.hid (HA2.out.below hb34)
  have HA3 := Lib.hid (HA3.out.below hb34)
  clear hb4 a43 hb34
  go_wp2_with fail
  have x5 : u8.Sl (w4.alloc (.cells #[.int .u8 172, .int .u8 2, .int .u8 5] 5)) (· < (w4.alloc (.cells #[.int .u8 172, .int .u8 2, .int .u8 5] 5)).heap.size) (some ⟨w4.heap.size, 0, none⟩) 3 [172, 2, 5] :=
    u8_lit [172, 2, 5] (heap_alloc_new _ _) _ (by simp)
  go_fit (decode_any _ _ _ 3 _ _ x5 (by omega) (by omega) (by omega) (by intro q hq hm; refine getOK_nl q hq ?_; intro e; rw [e] at hm; revert hm; decide))
  clear x5
  intro e w5 h1
  obtain ⟨A5, c5, rfl, a51, a52, a53, hb5⟩ := decPost_out h1
  clear h1
  have hdec : decI (⟨#[118]⟩ : ByteArray).data.toList [172, 2, 5] = (0, [(300, ⟨#[]⟩, [])], 2) := by kernel_rfl
  rw [hdec] at a51 a53
  rw [hdec]
  clear hdec
  obtain ⟨b5, o5, rfl, hbl5, hat5⟩ := a53.at_ (k := 0) (by simp)
  have hc5 := (rc_at hat5).1
  have hb45 : Below w4.heap.size w4 w5 := ((Below.refl w4.heap.size w4).alloc (Nat.le_refl _) (.cells #[.int .u8 172, .int .u8 2, .int .u8 5] 5)).trans (hb5.mono (by simp))
  have HB5 := Lib.hid (HB4.out.trans (hb45.mono HB4.out.size))
  have HA1 := Lib.hid (HA1.out.below hb45)
  have HA2 := Lib.hid (HA2.out.below hb45)
  have HA3 := Lib.hid (HA3.out.below hb45)
  have HA4 := Lib.hid (HA4.out.below hb45)
  have Hat5 := Lib.hid hat5
  clear hb45 hb5 a53 hat5
  have hc5' : w5.cell? ⟨b5, o5, none⟩ = some (.int .u64 300) := by simpa using hc5
  clear hc5
  go_wp2_with fail
  go_fit (lsame_any Aa (some ⟨w5.heap.size, 0, none⟩) 3 3 ca 3 [7, 2, 1] [7, 2, 1] (w5.alloc (.cells #[.int .u8 7, .int .u8 2, .int .u8 1] 5)) (fun _ => True) (fun _ => True) (HA1.out.alloc _) (u8_lit [7, 2, 1] (heap_alloc_new _ _) _ trivial) (by omega) (by omega))
  rintro e v1 ⟨rfl, hdr⟩
  have hb1 : Below w5.heap.size w5 v1 := by
    obtain ⟨m, rfl⟩ := hdr
    exact ((Below.refl _ _).alloc (Nat.le_refl _) _).trans ⟨rfl, rfl, rfl, Nat.le_refl _, fun _ _ => rfl⟩
  rw [show (([7, 2, 1] : Bs) == [7, 2, 1]) = true from rfl]
  have HB1' := Lib.hid (HB5.out.trans (hb1.mono HB5.out.size))
  have hcell1 : v1.cell? ⟨b5, o5, none⟩ = some (.int .u64 300) := (hb1.cell (p := ⟨b5, o5, none⟩) hbl5).trans hc5'
  have hlt1 : b5 < v1.heap.size := by have := hb1.size; omega
  have HA2 := Lib.hid (HA2.out.below hb1)
  have HA3 := Lib.hid (HA3.out.below hb1)
  have HA4 := Lib.hid (HA4.out.below hb1)
  clear hdr hb1 hc5' hbl5
  go_wp2_with fail
  go_fit (lsame_any A2 (some ⟨v1.heap.size, 0, none⟩) 2 2 c2 2 [172, 2] [172, 2] (v1.alloc (.cells #[.int .u8 172, .int .u8 2] 5)) (fun _ => True) (fun _ => True) (HA2.out.alloc _) (u8_lit [172, 2] (heap_alloc_new _ _) _ trivial) (by omega) (by omega))
  rintro e v2 ⟨rfl, hdr⟩
  have hb2 : Below v1.heap.size v1 v2 := by
    obtain ⟨m, rfl⟩ := hdr
    exact ((Below.refl _ _).alloc (Nat.le_refl _) _).trans ⟨rfl, rfl, rfl, Nat.le_refl _, fun _ _ => rfl⟩
  rw [show (([172, 2] : Bs) == [172, 2]) = true from rfl]
  have HB2' := Lib.hid (HB1'.out.trans (hb2.mono HB1'.out.size))
  have hcell2 : v2.cell? ⟨b5, o5, none⟩ = some (.int .u64 300) := (hb2.cell (p := ⟨b5, o5, none⟩) hlt1).trans hcell1
  have hlt2 : b5 < v2.heap.size := by have := hb2.size; omega
  have HA3 := Lib.hid (HA3.out.below hb2)
  have HA4 := Lib.hid (HA4.out.below hb2)
  clear hdr hb2 hcell1 hlt1
  go_wp2_with fail
  go_fit (lsame_any A3 (some ⟨v2.heap.size, 0, none⟩) 3 3 c3 3 [2, 97, 98] [2, 97, 98] (v2.alloc (.cells #[.int .u8 2, .int .u8 97, .int .u8 98] 5)) (fun _ => True) (fun _ => True) (HA3.out.alloc _) (u8_lit [2, 97, 98] (heap_alloc_new _ _) _ trivial) (by omega) (by omega))
  rintro e v3 ⟨rfl, hdr⟩
  have hb3 : Below v2.heap.size v2 v3 := by
    obtain ⟨m, rfl⟩ := hdr
    exact ((Below.refl _ _).alloc (Nat.le_refl _) _).trans ⟨rfl, rfl, rfl, Nat.le_refl _, fun _ _ => rfl⟩
  rw [show (([2, 97, 98] : Bs) == [2, 97, 98]) = true from rfl]
  have HB3' := Lib.hid (HB2'.out.trans (hb3.mono HB2'.out.size))
  have hcell3 : v3.cell? ⟨b5, o5, none⟩ = some (.int .u64 300) := (hb3.cell (p := ⟨b5, o5, none⟩) hlt2).trans hcell2
  have hlt3 : b5 < v3.heap.size := by have := hb3.size; omega
  have HA4 := Lib.hid (HA4.out.below hb3)
  clear hdr hb3 hcell2 hlt2
  go_wp2_with fail
  go_fit (lsame_any A4 (some ⟨v3.heap.size, 0, none⟩) 9 9 c4 9 [2, 1, 0, 0, 0, 2, 0, 0, 0] [2, 1, 0, 0, 0, 2, 0, 0, 0] (v3.alloc (.cells #[.int .u8 2, .int .u8 1, .int .u8 0, .int .u8 0, .int .u8 0, .int .u8 2, .int .u8 0, .int .u8 0, .int .u8 0] 5)) (fun _ => True) (fun _ => True) (HA4.out.alloc _) (u8_lit [2, 1, 0, 0, 0, 2, 0, 0, 0] (heap_alloc_new _ _) _ trivial) (by omega) (by omega))
  rintro e v4 ⟨rfl, hdr⟩
  have hb4 : Below v3.heap.size v3 v4 := by
    obtain ⟨m, rfl⟩ := hdr
    exact ((Below.refl _ _).alloc (Nat.le_refl _) _).trans ⟨rfl, rfl, rfl, Nat.le_refl _, fun _ _ => rfl⟩
  rw [show (([2, 1, 0, 0, 0, 2, 0, 0, 0] : Bs) == [2, 1, 0, 0, 0, 2, 0, 0, 0]) = true from rfl]
  have HB4' := Lib.hid (HB3'.out.trans (hb4.mono HB3'.out.size))
  have hcell4 : v4.cell? ⟨b5, o5, none⟩ = some (.int .u64 300) := (hb4.cell (p := ⟨b5, o5, none⟩) hlt3).trans hcell3
  have hlt4 : b5 < v4.heap.size := by have := hb4.size; omega
  clear hdr hb4 hcell3 hlt3
  go_wp2_with fail
  go_ret
  exact ⟨rfl, HB4'.out⟩
end Go.Proofs.Ytlbgepgpihklfaa.Rec
