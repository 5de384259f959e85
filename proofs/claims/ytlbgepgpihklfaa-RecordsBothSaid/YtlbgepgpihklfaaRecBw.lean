/- The walk of the statement's function RecordsBoth. -/
import Derived.Test.YtlbgepgpihklfaaRecBr
namespace Go.Proofs.Ytlbgepgpihklfaa.Rec
open Go.RowKit Lw

theorem wpList_apps_w {P : Program} {ops : Array Oper} {Q : Exit → Act → World → Prop} {a : Act} {rest : List Oper} {o : Oper} {w w0 : World} (hw : Region.wanted o (yielded ops a.tmps) = true) (s x : Operand) (t e : TypeId) (size bytes : Nat)
    (ho : o.op = .call { callee := .builtin .append, args := #[s, x], argTypes := #[t, t] }) (T : SlTy P t e size bytes) (base n : Nat) (v : Value) (xs : List Value)
    (A : Option Addr) (m c : Nat) (news : List Value)
    (hs : a.eval s = v) (hx : a.eval x = .slice A m c) (hA : A = none → c = 0) (hown : w.ownsRow base e size v n xs) (hb : Below base w0 w) (hB : base ≤ w.heap.size)
    (hl : news.length = m * size) (hnews : 0 < m → ∃ b off, A = some ⟨b, off, none⟩ ∧ ∀ j u, news[j]? = some u → w.cell? ⟨b, off + j, none⟩ = some u) (h1 : ∀ u ∈ news, u.oneCell' = true) (hmc : m ≤ c)
    (hn : (n + m) * bytes ≤ 140737488355328) (hn' : n + m ≤ 9223372036854775807)
    (h : ∀ v' w', Appd base e size w0 w w' v v' (n + m) (xs ++ news) → wpList P ops Q rest (a.put o.dst v') w') :
    wpList P ops Q (o :: rest) a w :=
  wpList_step fun K hK => by rw [if_pos hw]; exact wp_apps s x t e size bytes ho T base n v xs A m c news hs hx hA hown hb hB hl hnews h1 hmc hn hn' fun v' w1 h2 => hK _ _ (h v' w1 h2)
theorem ownsRow_u8' {w : World} {base e n : Nat} {v : Value} {bs : Bs} (h : w.ownsRow base e 1 v n (bytesV bs)) (hn : n = bs.length) : ∃ A c, v = .slice A n c ∧ n ≤ c ∧ c ≤ 9223372036854775807 ∧ u8.Sl w (fun _ => True) A n bs ∧ (A = none → c = 0) := by
  obtain ⟨A, c, rfl, h1, h2, h3⟩ := ownsRow_u8 h hn
  obtain ⟨A', c', e, _, _, h5, _⟩ := ownsRow_src h
  cases e
  exact ⟨A, c, rfl, h1, h2, h3, h5⟩
theorem bl_drewN {B : Nat} {w w' : World} (h : Below B w w') (n : Nat) : Below B w (w'.drewN n) := h.trans ⟨rfl, rfl, rfl, Nat.le_refl _, fun _ _ => rfl⟩

set_option maxRecDepth 20000 in
set_option maxHeartbeats 8000000 in
theorem both_any (s t : ByteArray) (A1 A2 : Option Addr) (n1 c1 n2 c2 : Nat) (l m : List RcT) (w : World) (h1 : rc.Sl w (· < w.heap.size) A1 n1 l) (h2 : rc.Sl w (· < w.heap.size) A2 n2 m)
    (g1 : n1 ≤ c1) (k1 : c1 ≤ 9223372036854775807) (g2 : n2 ≤ c2) (k2 : c2 ≤ 9223372036854775807) (q1 : A1 = none → c1 = 0) (q2 : A2 = none → c2 = 0) :
    Calls Try.prog 5 #[.string s, .string t, .agg #[.slice A1 n1 c1, .slice A2 n2 c2]] w fun e w' => e = .returned (.bool true) ∧ Below w.heap.size w w' := by
  by_cases a1 : 32 < s.size
  · go_enter Try.func5, Try.ntmps5
    go_wp2_with fail
    go_fit (shown_any _)
    rintro e w1 ⟨rfl, hb⟩
    go_wp2_with fail
    go_ret
    exact ⟨rfl, ((Below.refl _ _).alloc (Nat.le_refl _) _).trans (hb.mono (by simp))⟩
  · by_cases a2 : 32 < t.size
    · go_enter Try.func5, Try.ntmps5
      go_wp2_with fail
      go_fit (shown_any _)
      rintro e w1 ⟨rfl, hb⟩
      go_wp2_with fail
      go_ret
      exact ⟨rfl, ((Below.refl _ _).alloc (Nat.le_refl _) _).trans (hb.mono (by simp))⟩
    · have H1 := Lib.hid h1
      have H2 := Lib.hid h2
      clear h1 h2
      go_enter Try.func5, Try.ntmps5
      go_wp2_with fail
      obtain ⟨KB, hKB⟩ : ∃ KB : Obj, KB = .cells #[.slice A1 n1 c1, .slice A2 n2 c2] 39 := ⟨_, rfl⟩
      have z0 : (w.alloc KB).cell? ⟨w.heap.size, 0, none⟩ = some (.slice A1 n1 c1) := by rw [hKB]; exact cell_alloc_new (i := 0) rfl
      have z1 : (w.alloc KB).cell? ⟨w.heap.size, 1, none⟩ = some (.slice A2 n2 c2) := by rw [hKB]; exact cell_alloc_new (i := 1) rfl
      have hW : Below w.heap.size w (w.alloc KB) := (Below.refl _ _).alloc (Nat.le_refl _) _
      have hsz : (w.alloc KB).heap.size = w.heap.size + 1 := by simp
      rw [← hKB]
      generalize w.alloc KB = W at *
      clear hKB
      have H1 := Lib.hid (H1.out.mono (Keep.all hW (Nat.le_refl _)) (S' := (· < w.heap.size)) (fun _ h _ => h))
      have H2 := Lib.hid (H2.out.mono (Keep.all hW (Nat.le_refl _)) (S' := (· < w.heap.size)) (fun _ h _ => h))
      have HB := Lib.hid hW
      clear hW
      go_fit (far_any A1 n1 c1 l W _ H1.out (by omega))
      rintro e w1 ⟨rfl, hdr⟩
      obtain ⟨d1, rfl⟩ := hdr
      by_cases a3 : farI l = true
      · rw [a3]
        go_wp2_with fail
        go_fit (shown_any _)
        rintro e w1 ⟨rfl, hb⟩
        go_wp2_with fail
        go_ret
        exact ⟨rfl, (bl_drewN HB.out _).trans (hb.mono (by simp; omega))⟩
      · rw [Bool.not_eq_true] at a3
        rw [a3]
        go_wp2_with fail
        go_fit (far_any A2 n2 c2 m _ _ (H2.out.drewN _) (by omega))
        rintro e w1 ⟨rfl, hdr⟩
        obtain ⟨d2, rfl⟩ := hdr
        by_cases a4 : farI m = true
        · rw [a4]
          go_wp2_with fail
          go_fit (shown_any _)
          rintro e w1 ⟨rfl, hb⟩
          go_wp2_with fail
          go_ret
          exact ⟨rfl, (bl_drewN HB.out _).trans (hb.mono (by simp; omega))⟩
        · rw [Bool.not_eq_true] at a4
          rw [a4]
          have L1 := Lib.hid (farI_len a3)
          have L2 := Lib.hid (farI_len a4)
          clear a3 a4
          have hn1 : n1 ≤ 70 := by have := L1.out.1; have := H1.out.1; omega
          have hn2 : n2 ≤ 70 := by have := L2.out.1; have := H2.out.1; omega
          go_wp2_with fail
          have z0 : (W.drewN (d1 + d2)).cell? ⟨w.heap.size, 0, none⟩ = some (.slice A1 n1 c1) := z0
          have z1 : (W.drewN (d1 + d2)).cell? ⟨w.heap.size, 1, none⟩ = some (.slice A2 n2 c2) := z1
          have H1 := Lib.hid (H1.out.drewN (d1 + d2))
          have H2 := Lib.hid (H2.out.drewN (d1 + d2))
          have HB := Lib.hid (bl_drewN HB.out (d1 + d2))
          have hsz : (W.drewN (d1 + d2)).heap.size = w.heap.size + 1 := hsz
          generalize W.drewN (d1 + d2) = W at *
          go_fit (encode_any s A1 n1 c1 l _ (H1.out.mono (Keep.refl _ _) (by intro b h _; omega)) (by omega) (fun x hx => by have := (L1.out.2 x hx).1; omega))
          rintro e w1 ⟨v1, rfl, ho1, hb1⟩
          obtain ⟨B1, e1, rfl, hle1, hme1, hs1, hq1⟩ := ownsRow_u8' ho1 rfl
          have QB1 := Lib.hid hq1
          clear hq1
          have hsz1 := hb1.size
          have HB := Lib.hid (HB.out.trans (hb1.mono (by omega)))
          have z0 := (hb1.cell (p := ⟨w.heap.size, 0, none⟩) (by simp; omega)).trans z0
          have z1 := (hb1.cell (p := ⟨w.heap.size, 1, none⟩) (by simp; omega)).trans z1
          have H1 := Lib.hid (H1.out.below hb1)
          have H2 := Lib.hid (H2.out.below hb1)
          have HS1 := Lib.hid hs1
          clear ho1 hb1 hs1
          generalize hr1 : encI s.data.toList l = r1 at HS1 hle1 ⊢
          have R1 := Lib.hid hr1
          clear hr1
          go_wp2_with fail
          go_fit (encode_any t A2 n2 c2 m _ (H2.out.mono (Keep.refl _ _) (by intro b h _; omega)) (by omega) (fun x hx => by have := (L2.out.2 x hx).1; omega))
          rintro e w2 ⟨v2, rfl, ho2, hb2⟩
          obtain ⟨B2, e2, rfl, hle2, hme2, hs2, hq2⟩ := ownsRow_u8' ho2 rfl
          have QB2 := Lib.hid hq2
          clear hq2
          have hsz2 := hb2.size
          have HB := Lib.hid (HB.out.trans (hb2.mono (by omega)))
          have z0 := (hb2.cell (p := ⟨w.heap.size, 0, none⟩) (by simp; omega)).trans z0
          have z1 := (hb2.cell (p := ⟨w.heap.size, 1, none⟩) (by simp; omega)).trans z1
          have H1 := Lib.hid (H1.out.below hb2)
          have H2 := Lib.hid (H2.out.below hb2)
          have HS1 := Lib.hid (HS1.out.below hb2)
          have HS2 := Lib.hid hs2
          clear ho2 hb2 hs2
          generalize hr2 : encI t.data.toList m = r2 at HS2 hle2 ⊢
          have R2 := Lib.hid hr2
          clear hr2
          obtain ⟨V1, hv1, hvr1, hvc1⟩ := sl_rows H1.out
          obtain ⟨V2, hv2, hvr2, hvc2⟩ := sl_rows H2.out
          go_wp2_with fail
          have hst : s.size + t.size ≤ 9223372036854775807 := by omega
          have hcat : ∀ w, (Op.stringOp .add s t).run Try.prog w = .ok (.string (s ++ t)) w := fun w => run_string_add_sum w s t hst
          have z0' : (w2.alloc (.cells #[] 49)).drew.cell? ⟨w.heap.size, 0, none⟩ = some (.slice A1 n1 c1) := (World.cell?_alloc_lt w2 _ ⟨w.heap.size, 0, none⟩ (by show w.heap.size < _; omega)).trans z0
          have z1' : (w2.alloc (.cells #[] 49)).drew.cell? ⟨w.heap.size, 1, none⟩ = some (.slice A2 n2 c2) := (World.cell?_alloc_lt w2 _ ⟨w.heap.size, 1, none⟩ (by show w.heap.size < _; omega)).trans z1
          have s1 : (w2.alloc (.cells #[] 49)).drew.ownsRow w2.heap.size 49 3 (.slice (some ⟨w2.heap.size, 0, none⟩) 0 0) 0 [] := (lit0_owns (Nat.le_refl _)).drew
          have s2 : Below w2.heap.size w2 (w2.alloc (.cells #[] 49)).drew := ((Below.refl _ _).alloc (Nat.le_refl _) _).drew
          have s3 : 0 < n1 → ∃ b off, A1 = some ⟨b, off, none⟩ ∧ ∀ j u, V1.flatten[j]? = some u → (w2.alloc (.cells #[] 49)).drew.cell? ⟨b, off + j, none⟩ = some u := by
            intro hp
            obtain ⟨b, off, rfl, hb, hb', hc⟩ := hvc1 hp
            exact ⟨b, off, rfl, fun j u hu => (World.cell?_alloc_lt w2 _ ⟨b, off + j, none⟩ hb').trans (hc j u hu)⟩
          have s4 : V1.flatten.length = n1 * 3 := by rw [flatten_len (rows_len hv1 hvr1), hv1, H1.out.1]; rfl
          have S1 := Lib.hid s1; have S2 := Lib.hid s2; have S3 := Lib.hid s3; have S4 := Lib.hid s4
          have S5 := Lib.hid (rows_one hv1 hvr1)
          have Q1 := Lib.hid q1; have Q2 := Lib.hid q2
          have S6 := Lib.hid (rows_one hv2 hvr2)
          have S7 := Lib.hid (show V2.flatten.length = n2 * 3 by rw [flatten_len (rows_len hv2 hvr2), hv2, H2.out.1]; rfl)
          have S8 := Lib.hid hvc2
          have S9 := Lib.hid (fun w' (k : Below w2.heap.size w2 w') => rel_at (Keep.all k (Nat.le_refl _)) (S' := (· < w'.heap.size)) (fun b h _ => by have := k.size; show b < _; have : b < w.heap.size := h; omega) hv1 hvr1 hv2 hvr2)
          have N1 := Lib.hid (show n1 = l.length from H1.out.1); have N2 := Lib.hid (show n2 = m.length from H2.out.1)
          have HV := Lib.hid (show (V1 ++ V2).length = (l ++ m).length by rw [List.length_append, List.length_append, hv1, hv2])
          clear s1 s2 s3 s4 q1 q2 hvc1 hvr1 hvc2 hvr2 hv1 hv2
          have happ2 : ∀ w3 (k : Below w2.heap.size w2 w3), 0 < n2 → ∃ b off, A2 = some ⟨b, off, none⟩ ∧ ∀ j u, V2.flatten[j]? = some u → w3.cell? ⟨b, off + j, none⟩ = some u := by
            intro w3 k hp
            obtain ⟨b, off, rfl, hb, hb', hc⟩ := S8.out hp
            exact ⟨b, off, rfl, fun j u hu => (k.cell (p := ⟨b, off + j, none⟩) hb').trans (hc j u hu)⟩
          have HA2 := Lib.hid happ2
          have happ3 : ∀ w4 v, w4.ownsRow w2.heap.size 49 3 v (0 + n1 + n2) ([] ++ V1.flatten ++ V2.flatten) → Below w2.heap.size w2 w4 → ∃ A c, v = .slice A (n1 + n2) c ∧ rc.Sl w4 (· < w4.heap.size) A (n1 + n2) (l ++ m) := by
            intro w4 v ho k
            have e : n1 + n2 = (l ++ m).length := by rw [List.length_append, ← N1.out, ← N2.out]
            rw [Nat.zero_add, e] at ho
            rw [e]
            rw [List.nil_append, ← List.flatten_append] at ho
            obtain ⟨A, c, rfl, _, _, h⟩ := own_sl (E := rc) (vss := V1 ++ V2) ho HV.out (S9.out w4 k)
            exact ⟨A, c, rfl, h.mono (Keep.refl _ _) (fun b _ h => h)⟩
          have HA3 := Lib.hid happ3
          clear happ2 happ3
          have HLM := Lib.hid (show ∀ x ∈ l ++ m, x.2.1.size ≤ 9223372036854775807 by intro x hx; rcases List.mem_append.1 hx with h | h; exact Nat.le_trans (L1.out.2 x h).1 (by decide); exact Nat.le_trans (L2.out.2 x h).1 (by decide))
          go_region_held3 (fun w' => w'.cell? ⟨w.heap.size, 0, none⟩ = some (.slice A1 n1 c1) ∧ w'.cell? ⟨w.heap.size, 1, none⟩ = some (.slice A2 n2 c2)) (first | exact ⟨z0, z1⟩ | exact ⟨z0', z1'⟩ | exact ⟨z03, z13⟩ | exact ⟨z04, z14⟩ | exact ⟨z05, z15⟩)
            (first | (go_at_call 10; go_must (go_fit (encode_any (s ++ t) A4 (n1 + n2) c4 (l ++ m) w4 HSL.out (by omega) HLM.out)); go_must (rintro e w5 ⟨v5, rfl, ho5, hb5⟩); go_must (obtain ⟨B5, e5, rfl, hle5, hme5, hs5⟩ := ownsRow_u8 ho5 rfl); have HP5 := Lib.hid (HP4.out.trans (hb5.mono HP4.out.size)); have HS5 := Lib.hid hs5; have z05 := (HP5.out.cell (p := ⟨w.heap.size, 0, none⟩) (by show w.heap.size < _; omega)).trans z0; have z15 := (HP5.out.cell (p := ⟨w.heap.size, 1, none⟩) (by show w.heap.size < _; omega)).trans z1; clear ho5 hb5 hs5)
                   | (refine step_apps (by rfl) _ _ 22 49 3 48 (by rfl) tyR w2.heap.size 0 _ [] A1 n1 c1 V1.flatten (by rfl) (by rfl) Q1.out S1.out S2.out (by simp) S4.out S3.out S5.out g1 (by omega) (by omega) ?_; intro v' w3 ha; obtain ⟨A3, c3, rfl, _, _, _, _, _⟩ := ownsRow_src ha.own; have hz3 := ha.below.size; have z03 := (ha.below.cell (p := ⟨w.heap.size, 0, none⟩) (by show w.heap.size < _; omega)).trans z0; have z13 := (ha.below.cell (p := ⟨w.heap.size, 1, none⟩) (by show w.heap.size < _; omega)).trans z1; have HP := Lib.hid ha; clear ha)
                   | (refine step_apps (by rfl) _ _ 22 49 3 48 (by rfl) tyR w2.heap.size (0 + n1) _ ([] ++ V1.flatten) A2 n2 c2 V2.flatten (by rfl) (by rfl) Q2.out HP.out.own HP.out.below hz3 S7.out (HA2.out _ HP.out.below) S6.out g2 (by omega) (by omega) ?_; intro v' w4 ha; obtain ⟨A4, c4, rfl, hsl⟩ := HA3.out _ _ ha.own ha.below; have hz4 := ha.below.size; have z04 := (ha.below.cell (p := ⟨w.heap.size, 0, none⟩) (by show w.heap.size < _; omega)).trans z0; have z14 := (ha.below.cell (p := ⟨w.heap.size, 1, none⟩) (by show w.heap.size < _; omega)).trans z1; have HP4 := Lib.hid ha.below; have HSL := Lib.hid hsl; clear ha hsl)
                   | fail "none")
          have HB := Lib.hid (HB.out.trans (HP5.out.mono HB.out.size))
          have HS1 := Lib.hid (HS1.out.below HP5.out)
          have HS2 := Lib.hid (HS2.out.below HP5.out)
          have hcd : (s ++ t).data.toList = s.data.toList ++ t.data.toList := by simp
          rw [hcd] at hle5 HS5
          generalize hr3 : encI (s.data.toList ++ t.data.toList) (l ++ m) = r3 at hle5 HS5 ⊢
          have R3 := Lib.hid hr3
          clear hr3 hcd HA2 HA3 HP HP4 HSL HLM hcat z0 z1 z0' z1' z03 z13 z04 z14 z05 z15 S1 S2 S3 S4 S5 S6 S7 S8 S9
          by_cases b1 : r1.1 = 0
          · have b1' : (r1.1 != 0) = false := by rw [b1]; rfl
            by_cases b2 : r2.1 = 0
            · have b2' : (r2.1 != 0) = false := by rw [b2]; rfl
              have E := Lib.hid (enc_both (s := s.data.toList) (t := t.data.toList) (l := l) (m := m) (a := r1.2) (b := r2.2) (by have : s.data.toList.length = s.size := rfl; omega) (by have : t.data.toList.length = t.size := rfl; omega) (by rw [R1.out, ← b1]) (by rw [R2.out, ← b2]))
              have hl1 : r1.2.length ≤ 4000 := (encI_ok (l := l) (by rw [R1.out, ← b1])).2.2.2
              have hl2 : r2.2.length ≤ 4000 := (encI_ok (l := m) (by rw [R2.out, ← b2])).2.2.2
              by_cases b3 : 4000 < r1.2.length + r2.2.length
              · have e3 : (r3.1 == 3) = true := by rw [← R3.out, E.out, if_pos b3]; rfl
                have b3' : (4000 : Int) < (r1.2.length : Int) + (r2.2.length : Int) := by omega
                go_wp2_with fail
                go_fit (shown_any _)
                rintro e w6 ⟨rfl, hb⟩
                go_wp2_with fail
                go_ret
                exact ⟨rfl, HB.out.trans (hb.mono HB.out.size)⟩
              · have e3 : (r3.1 == 0) = true := by rw [← R3.out, E.out, if_neg b3]; rfl
                have b3' : (r1.2.length : Int) + (r2.2.length : Int) ≤ 4000 := by omega
                have E3 := Lib.hid (show r3.2 = r1.2 ++ r2.2 by rw [← R3.out, E.out, if_neg b3])
                have J1 := Lib.hid HS1.out
                have J5 := Lib.hid HS5.out
                have hb6 : Below w5.heap.size w5 (w5.alloc (.cells #[] 5)) := (Below.refl _ _).alloc (Nat.le_refl _) _
                have HB6 := Lib.hid hb6
                have N6 := Lib.hid (bytes_rows (HS1.out.below hb6))
                have N7 := Lib.hid (fun w6 (k : Below w5.heap.size w5 w6) => bytes_rows (HS2.out.below k))
                have N8 := Lib.hid (bytesV_length r1.2)
                have N9 := Lib.hid (bytesV_length r2.2)
                clear hb6
                go_wp2_with (first | (refine wpList_apps_w (by simp [Region.wanted, go_sem, e3]) _ _ 23 5 1 1 (by rfl) tyB w5.heap.size 0 _ [] B1 r1.2.length e1 (bytesV r1.2) (by rfl) (by rfl) QB1.out (lit0_owns (Nat.le_refl _)) HB6.out (by simp) (by rw [N8.out, Nat.mul_one]) N6.out (bytesV_one _) hle1 (by omega) (by omega) ?_; intro v' w6 ha; rw [Nat.zero_add, List.nil_append] at ha; obtain ⟨A6, c6, rfl, _, _, _, _, _⟩ := ownsRow_src ha.own; have hz6 := ha.below.size; have HQ := Lib.hid ha; clear ha) | (refine wpList_apps_w (by simp [Region.wanted, go_sem, e3]) _ _ 23 5 1 1 (by rfl) tyB w5.heap.size r1.2.length _ (bytesV r1.2) B2 r2.2.length e2 (bytesV r2.2) (by rfl) (by rfl) QB2.out HQ.out.own HQ.out.below (by simpa using hz6) (by rw [N9.out, Nat.mul_one]) (N7.out _ HQ.out.below) (bytesV_one _) hle2 (by omega) (by omega) ?_; intro v' w7 ha; obtain ⟨A7, c7, rfl, hm7, _, hsl7⟩ := ownsRow_u8 (bs := r1.2 ++ r2.2) (by have := ha.own; rw [← bytesV_append] at this; exact this) (by rw [List.length_append]); have hz7 := ha.below.size; have HB7 := Lib.hid ha.below; have HS7 := Lib.hid hsl7; clear ha hsl7))
                have HS5' := Lib.hid (J5.out.below HB7.out)
                go_fit (lsame_any B5 A7 r3.2.length (r1.2.length + r2.2.length) e5 c7 r3.2 (r1.2 ++ r2.2) w7 (fun _ => True) (fun _ => True) HS5'.out HS7.out (by omega) (by omega))
                rintro e w8 ⟨rfl, hdr⟩
                obtain ⟨d3, rfl⟩ := hdr
                rw [show (r3.2 == r1.2 ++ r2.2) = true by rw [E3.out]; simp]
                go_wp2_with fail
                go_fit (shown_any _)
                rintro e w9 ⟨rfl, hb⟩
                go_wp2_with fail
                go_ret
                exact ⟨rfl, HB.out.trans ((bl_drewN (HB7.out.mono HB.out.size) d3).trans (hb.mono (by have := HB.out.size; simp; omega)))⟩
            · have b2' : (r2.1 != 0) = true := by rw [bne_iff_ne]; exact b2
              clear b1 b2
              go_wp2_with fail
              go_fit (shown_any _)
              rintro e w6 ⟨rfl, hb⟩
              go_wp2_with fail
              go_ret
              exact ⟨rfl, HB.out.trans (hb.mono HB.out.size)⟩
          · have b1' : (r1.1 != 0) = true := by rw [bne_iff_ne]; exact b1
            clear b1
            go_wp2_with fail
            go_fit (shown_any _)
            rintro e w6 ⟨rfl, hb⟩
            go_wp2_with fail
            go_ret
            exact ⟨rfl, HB.out.trans (hb.mono HB.out.size)⟩
end Go.Proofs.Ytlbgepgpihklfaa.Rec
