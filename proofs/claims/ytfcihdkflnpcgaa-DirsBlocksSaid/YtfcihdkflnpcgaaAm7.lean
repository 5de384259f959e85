/- The abstract machine: one law for all operations that leave the world as it is. No program is named. -/
import Derived.Test.YtfcihdkflnpcgaaAm6
namespace Go.Proofs.Ytfcihdkflnpcgaa.Am
open Go.RowKit Lw

section
variable {P : Program} {T : Tys} {Kf : Nat → Bool} {X : Cx} {S : Nat → Prop} {ν : Nat → Value} {st : AS} {a : Act} {w : World} {o : Oper} {av : AV} {ps : List Prop}

theorem y_ret {f : Sem Value} {v : Value} (h1 : av.rel w S ν v) (h2 : av.lt st.nid) (he : execOp a.eval o = (do pure (.value (← f)))) (h3 : ∀ w', f.run P w' = .ok v w') : Yl P Kf S ν st a w o av :=
  yl_pure h1 h2 fun w' => by rw [he, Sem.run_bind, h3 w']; simp

theorem o1_some {r : Option (A1 × List Prop)} {ps : List Prop} (h : o1 r = some (av, ps)) : ∃ x, r = some (x, ps) ∧ av = .o x := by
  unfold o1 at h
  split at h
  · cases h; exact ⟨_, rfl, rfl⟩
  · cases h

theorem isBool_ok (hT : T.Ok P) {t : TypeId} (h : isBool (tlook T t) = true) : P.underlying t = some .bool := by
  unfold isBool at h
  split at h
  · rename_i zi z1 z2 z3 z4 ht
    obtain ⟨hti, hid⟩ := hT.get ht
    obtain ⟨d, hu, hd, _⟩ := hti.und
    have hd : d = .bool := hd
    subst hd
    have hid : zi = t := hid
    subst hid
    exact hu
  · cases h

set_option maxHeartbeats 1000000 in
theorem apure0_ok (hT : T.Ok P) (h : apure0 T Kf o st = some (av, ps)) (hps : ∀ p ∈ ps, p) (sat : Sat X S ν st a w) : Yl P Kf S ν st a w o av := by
  unfold apure0 at h
  split at h
  · -- move
    rename_i x ho
    split at h
    · rename_i v hv; cases h; exact y_move sat (.inl ho) hv
    · cases h
  · rename_i x ho
    split at h
    · rename_i v hv; cases h; exact y_move sat (.inr ho) hv
    · cases h
  · -- pick
    rename_i c x y ho
    split at h
    · rename_i hc
      split at h
      · rename_i v hv; cases h; exact y_pick sat (b := true) ho hc hv
      · cases h
    · rename_i hc
      split at h
      · rename_i v hv; cases h; exact y_pick sat (b := false) ho hc hv
      · cases h
    · cases h
  · -- nilCheck
    rename_i x ho
    split at h
    · rename_i id off hx
      cases h
      obtain ⟨h1, h2⟩ := aop_ok sat hx
      refine yl_pure h1 h2 fun w' => ?_
      obtain ⟨b, _, h3⟩ := h1
      unfold execOp
      rw [ho]
      simp only [h3, Sem.run_pure]
    · cases h
  · -- binOp
    rename_i op t x y yt ho
    split at h
    · rename_i u v hx hy
      obtain ⟨r, hr, rfl⟩ := o1_some h
      obtain ⟨z, h1, h2, h3⟩ := abin_ok (xo := x) (yo := y) t (isBool_ok hT) hr hps (aop_ok sat hx).1 (aop_ok sat hy).1
      refine y_ret (v := z) h1 (h2 _) ?_ h3
      unfold execOp; rw [ho]
    · cases h
  · -- not
    rename_i t x ho
    split at h
    · rename_i b hx
      cases h
      have h1 : a.eval x = .bool b := (aop_ok sat hx).1.1
      refine y_ret (f := Op.unary .not (a.eval x)) (v := .bool (!b)) ⟨rfl, rfl⟩ trivial ?_ fun w' => by rw [h1]; simp [Op.unary]
      unfold execOp; rw [ho]
    · rename_i b hx
      cases h
      have h1 : a.eval x = .bool b := (aop_ok sat hx).1
      refine y_ret (f := Op.unary .not (a.eval x)) (v := .bool (!b)) rfl trivial ?_ fun w' => by rw [h1]; simp [Op.unary]
      unfold execOp; rw [ho]
    · cases h
  · -- neg
    rename_i t x ho
    split at h
    · rename_i k n hx
      rcases e : arith k (0 - n) with ⟨m, qs⟩
      rw [e] at h
      cases h
      have h1 : a.eval x = .int k n := (aop_ok sat hx).1.1
      refine y_ret (f := Op.unary .neg (a.eval x)) (v := .int k m) ⟨rfl, rfl⟩ trivial ?_ fun w' => by rw [h1]; simp only [Op.unary, Op.intArith, Sem.run_pure, arith_wrap' e hps]
      unfold execOp; rw [ho]
    · cases h
  · -- convert
    rename_i src dst x ho
    split at h
    · rename_i tsrc zi k z1 z2 z3 z4 k' n hsrc ht hx
      rcases e : arith k n with ⟨m, qs⟩
      rw [e] at h
      cases h
      have h1 : a.eval x = .int k' n := (aop_ok sat hx).1.1
      obtain ⟨ds, hus, _⟩ := (hT.get hsrc).1.und
      rw [(hT.get hsrc).2] at hus
      refine y_ret (f := convert src dst (a.eval x)) (v := .int k m) ⟨rfl, rfl⟩ trivial ?_ fun w' => by
        rw [h1]
        simp only [convert, Sem.run_bind, run_underlying hus w', run_underlying (und_int hT ht) w', Result.andThen_ok, Conv.intToInt, Sem.run_pure, arith_wrap' e hps]
      unfold execOp; rw [ho]
    · cases h
  · -- fieldAddr
    rename_i s x f ho
    split at h
    · rename_i zi fs z1 z2 z3 z4 id off ht hx
      split at h
      · rename_i ft fo fz hf
        cases h
        obtain ⟨h1, h2⟩ := aop_ok sat hx
        obtain ⟨b, h3, h4⟩ := ptr_off (fo := fo) h1
        refine y_ret (f := Instr.fieldAt s (a.eval x) f) h4 h2 ?_ fun w' => by rw [h3]; exact run_fieldAt hT ht hf b off w'
        unfold execOp; rw [ho]
      · cases h
    · rename_i zi fs z1 z2 z3 z4 sz cell k off ht hx
      split at h
      · rename_i ft fo fz hf
        cases h
        obtain ⟨⟨b, q, h3, h5, h6, h7⟩, h2⟩ := aop_ok sat hx
        refine y_ret (f := Instr.fieldAt s (a.eval x) f) (v := .pointer (some ⟨b, q + (off + fo), none⟩)) ⟨b, q, rfl, h5, h6, h7⟩ h2 ?_ fun w' => by rw [h3, ← Nat.add_assoc]; exact run_fieldAt hT ht hf b (q + off) w'
        unfold execOp; rw [ho]
      · cases h
    · rename_i zi fs z1 z2 z3 z4 id sz k off ht hx
      split at h
      · rename_i ft fo fz hf
        cases h
        obtain ⟨⟨g, n, cp, h3, h4⟩, h2⟩ := aop_ok sat hx
        refine y_ret (f := Instr.fieldAt s (a.eval x) f) (v := .pointer (some ⟨g, k * sz + (off + fo), none⟩)) ⟨g, n, cp, h3, rfl⟩ h2 ?_ fun w' => by rw [h4, ← Nat.add_assoc]; exact run_fieldAt hT ht hf g (k * sz + off) w'
        unfold execOp; rw [ho]
      · cases h
    · cases h
  · -- field
    rename_i s x f ho
    split at h
    · rename_i zi fs z1 z2 z3 z4 as ht hx
      split at h
      · rename_i ft fo fz hf
        split at h
        · rename_i t hti
          split at h
          · rename_i v hv
            cases h
            obtain ⟨⟨us, h1, h3⟩, h2⟩ := aop_ok sat hx
            obtain ⟨u, h4, h5, h6⟩ := run_field (w := w) hT ht hf hti hv h3 h2
            refine y_ret (f := Instr.field s (a.eval x) f) h4 h5 ?_ fun w' => by rw [h1]; exact h6 w'
            unfold execOp; rw [ho]
          · cases h
        · cases h
      · cases h
    · cases h
  · -- indexAddr
    rename_i t x i ho
    split at h
    · rename_i zi e z1 z2 z3 z4 sz n cell ik k ht hx hi
      split at h
      · rename_i te he
        split at h
        · rename_i hsz
          cases h
          have hk : 0 ≤ k ∧ k < n := hps _ (by simp)
          have hsz := Nat.eq_of_beq_eq_true hsz
          subst hsz
          obtain ⟨⟨A, c, h3, h4, h5, h6, h7⟩, _⟩ := aop_ok sat hx
          obtain ⟨b, off, rfl, h8, h9, h10⟩ := h7 (by omega)
          have h11 : a.eval i = .int ik k := (aop_ok sat hi).1.1
          refine y_ret (f := Instr.indexAt t (a.eval x) (a.eval i)) (v := .pointer (some ⟨b, off + k.toNat * te.size + 0, none⟩)) ⟨b, off + k.toNat * te.size, rfl, h8, h9, fun j hj => h10 k.toNat j (by omega) hj⟩ trivial ?_ fun w' => by
            rw [h3, h11]; exact run_indexAt_slice hT (und_slice hT ht) he hk w'
          unfold execOp; rw [ho]
        · cases h
      · cases h
    · rename_i zi e z1 z2 z3 z4 id ik k ht hx hi
      split at h
      · rename_i te E sz ct he hown
        split at h
        · rename_i hsz
          cases h
          have hk : 0 ≤ k ∧ k < ct.n := hps _ (by simp)
          have hsz := Nat.eq_of_beq_eq_true hsz
          subst hsz
          obtain ⟨⟨h3, _⟩, h4⟩ := aop_ok sat hx
          obtain ⟨g, cp, hv, _⟩ := own_of sat hown (i := k.toNat) (by omega) (hT.get he).1.pos
          have h11 : a.eval i = .int ik k := (aop_ok sat hi).1.1
          refine y_ret (f := Instr.indexAt t (a.eval x) (a.eval i)) (v := .pointer (some ⟨g, k.toNat * te.size + 0, none⟩)) ⟨g, ct.n, cp, hv, rfl⟩ h4 ?_ fun w' => by
            rw [h3, h11, hv]
            have := run_indexAt_slice (P := P) hT (und_slice hT ht) he (b := g) (o := 0) (c := cp) (ik := ik) hk w'
            rw [Nat.zero_add] at this; exact this
          unfold execOp; rw [ho]
        · cases h
      · cases h
    · cases h
  · -- index
    rename_i t x i ho
    split at h
    · rename_i zi z1 z2 z3 z4 s ik k ht hx hi
      cases h
      have hk : 0 ≤ k ∧ k < s.size := hps _ (by simp)
      have h3 : a.eval x = .string s := (aop_ok sat hx).1.1
      have h4 : a.eval i = .int ik k := (aop_ok sat hi).1.1
      refine y_ret (f := Instr.index t (a.eval x) (a.eval i)) (v := .int .u8 ((s.data.toList.getD k.toNat 0).toNat : Int)) ⟨rfl, rfl⟩ trivial ?_ fun w' => by
        rw [h3, h4]; exact run_index_str (und_str hT ht) hk w'
      unfold execOp; rw [ho]
    · cases h
  · -- slice
    rename_i t x lo hi mx ho
    split at h
    · rename_i zi z1 z2 z3 z4 s ht hx
      split at h
      · rename_i l hh hl hhi
        cases h
        have hk : 0 ≤ l ∧ l ≤ hh ∧ hh ≤ s.size := hps _ (by simp)
        have h3 : a.eval x = .string s := (aop_ok sat hx).1.1
        refine y_ret (f := Instr.sliceAt t (a.eval x) (lo.map a.eval) (hi.map a.eval) none) (v := .string (s.extract l.toNat hh.toNat)) ⟨rfl, rfl⟩ trivial ?_ fun w' => by
          rw [h3]
          have hb := run_sliceBounds_plain (P := P) (a := a) (b := false) (n := s.size) (c := s.size) (optInt_ok sat hl) (optInt_ok sat hhi) hk (Nat.le_refl _) w'
          simp only [Instr.sliceAt, Sem.run_bind, run_underlying (und_str hT ht) w', Result.andThen_ok, Instr.slice, hb, Option.isSome_none, Bool.false_eq_true, if_false, Sem.run_pure]
        unfold execOp; rw [ho]; rfl
      · cases h
    · rename_i zi e z1 z2 z3 z4 sz n cell ht hx
      split at h
      · rename_i te l hh he hl hhi
        split at h
        · rename_i hsz
          cases h
          rw [roCut_eq hl]
          have hk : 0 ≤ l ∧ l ≤ hh ∧ hh ≤ n := hps _ (by simp)
          have hsz := Nat.eq_of_beq_eq_true hsz
          subst hsz
          have hx1 := (aop_ok sat hx).1
          obtain ⟨A, c, h3, h4, _⟩ := id hx1
          have hx1 : (DC.sl te.size n cell).rel w S (a.eval x) := hx1
          rw [h3] at hx1
          have hcut := ro_cut (l := l.toNat) (h := hh.toNat) (m := c) hx1 (by omega) (by omega) (hT.get he).1.pos
          refine y_ret (f := Instr.sliceAt t (a.eval x) (lo.map a.eval) (hi.map a.eval) none) hcut trivial ?_ fun w' => by
            rw [h3]
            have hb := run_sliceBounds_plain (P := P) (a := a) (b := true) (n := n) (c := c) (optInt_ok sat hl) (optInt_ok sat hhi) hk h4 w'
            simp only [Instr.sliceAt, Sem.run_bind, run_underlying (und_slice hT ht) w', Result.andThen_ok, Instr.slice, hb, run_sizeOf' hT he w', Sem.run_pure]
          unfold execOp; rw [ho]; rfl
        · rename_i m hsz
          split at h
          · rename_i km mv hix hm
            cases h
            rw [roCut_eq hl]
            have hk : 0 ≤ l ∧ l ≤ hh ∧ hh ≤ mv ∧ mv ≤ n := hps _ (by simp)
            have hsz := Nat.eq_of_beq_eq_true hsz
            subst hsz
            have hx1 := (aop_ok sat hx).1
            obtain ⟨A, c, h3, h4, _⟩ := id hx1
            have hx1 : (DC.sl te.size n cell).rel w S (a.eval x) := hx1
            rw [h3] at hx1
            have hcut := ro_cut (l := l.toNat) (h := hh.toNat) (m := mv.toNat) hx1 (by omega) (by omega) (hT.get he).1.pos
            have hm1 : a.eval m = .int km mv := (aop_ok sat hm).1.1
            rcases optInt_ok sat hhi with ⟨e1, _⟩ | ⟨y, ky, e1, e2⟩
            · cases e1
            · cases e1
              refine y_ret (f := Instr.sliceAt t (a.eval x) (lo.map a.eval) ((some hix).map a.eval) ((some m).map a.eval)) hcut trivial ?_ fun w' => by
                rw [h3]
                have hb := run_sliceBounds_max (P := P) (a := a) (b := true) (n := n) (c := c) (optInt_ok sat hl) e2 hm1 hk h4 w'
                simp only [Instr.sliceAt, Sem.run_bind, run_underlying (und_slice hT ht) w', Result.andThen_ok, Instr.slice, Option.map_some, hb, run_sizeOf' hT he w', Sem.run_pure]
              unfold execOp; rw [ho]
          · cases h
        · cases h
      · cases h
    · cases h
  · -- load
    rename_i t x ho
    split at h
    · rename_i ti id off ht hx
      split at h
      · rename_i Tb cells hb
        split at h
        · rename_i v hv
          cases h
          obtain ⟨b, us, h1, _, h2, h3, h4, h5⟩ := box_of sat hb (aop_ok sat hx).1
          exact y_load hT sat ho h1 h5 (load_box hT ht hv h2 h3 h4)
        · cases h
      · cases h
    · rename_i ti sz cell k off ht hx
      split at h
      · rename_i v hv
        cases h
        obtain ⟨b, q, h1, h2, h3, h4⟩ := (aop_ok sat hx).1
        obtain ⟨u, h5, h6, h7⟩ := load_row (ν := ν) hT ht hv h4
        exact y_load hT sat ho h1 (fun w' hw' => hw'.2 b (.inl h2)) ⟨u, h5, h6 _, h7⟩
      · cases h
    · rename_i ti id sz k off ht hx
      split at h
      · rename_i E sz' ct hown
        split at h
        · rename_i v hsz hv
          cases h
          have hk : k < ct.n := hps _ (by simp)
          have hsz := Nat.eq_of_beq_eq_true hsz
          subst hsz
          obtain ⟨g, n, cp, h1, h2⟩ := (aop_ok sat hx).1
          have hpos : 0 < sz := by
            unfold row1 at hv
            split at hv
            · rename_i hle _; have := Nat.le_of_ble_eq_true hle; have := (hT.get ht).1.pos; omega
            · rename_i hle _; have := Nat.le_of_ble_eq_true hle; have := (hT.get ht).1.pos; omega
            · cases hv
          obtain ⟨g', cp', h3, h4, h5⟩ := own_of sat hown hk hpos
          rw [h1] at h3
          cases h3
          obtain ⟨u, h6, h7, h8⟩ := load_row (ν := ν) hT ht hv h4
          exact y_load hT sat ho h2 h5 ⟨u, h6, h7 _, h8⟩
        · cases h
      · cases h
    · cases h
  · -- extract
    rename_i x i ho
    split at h
    · rename_i xs hx
      obtain ⟨⟨us, h1, h2⟩, h3⟩ := aop_ok sat hx
      split at h
      · rename_i y hy
        cases h
        obtain ⟨u, h4, h5⟩ := h2.get hy
        refine y_ret (f := Instr.extract (a.eval x) i) h5 (h3 _ (List.mem_of_getElem? hy)) ?_ fun w' => by rw [h1]; simp [Instr.extract, h4]
        unfold execOp; rw [ho]
      · rename_i y hy
        cases h
        obtain ⟨u, h4, h5⟩ := h2.get hy
        refine y_ret (f := Instr.extract (a.eval x) i) h5 (h3 _ (List.mem_of_getElem? hy)) ?_ fun w' => by rw [h1]; simp [Instr.extract, h4]
        unfold execOp; rw [ho]
      · cases h
    · cases h
  · -- build
    rename_i t parts ho
    split at h
    · rename_i zi fs z1 z2 z z4 ht
      split at h
      · rename_i zs qs hz hq
        split at h
        · rename_i r hr
          cases h
          obtain ⟨us, h1, h2, h3⟩ := run_build' (w := w) hT ht hz hr (partsOf_ok sat hq)
          refine y_ret (f := Instr.build t (parts.map fun (i, x) => (i, a.eval x))) (v := .agg us.toArray) ⟨us, rfl, h1⟩ h2 ?_ fun w' => by
            have := h3 w'
            rw [← List.map_toArray] at this
            simpa using this
          unfold execOp; rw [ho]
        · cases h
      · cases h
    · cases h
  · -- makeFunc
    rename_i f first caps ho
    split at h
    · rename_i r hf hc
      cases h
      obtain ⟨h1, h2⟩ := capsOf_ok sat hc
      refine y_ret (f := Instr.makeFunc (.func f) (first.map a.eval) (caps.map a.eval)) (v := .func (.func f) #[] ((caps.toList.map a.eval).toArray)) ⟨_, rfl, h1⟩ h2 ?_ fun w' => by
        have e1 : first = #[] := by rw [← Array.toList_inj]; exact hf
        have e2 : caps.map a.eval = (caps.toList.map a.eval).toArray := by rw [← Array.toList_inj]; simp
        subst e1
        simp only [Instr.makeFunc, e2, Sem.run_pure, List.map_toArray, List.map_nil]
      unfold execOp; rw [ho]
    · cases h
  · -- call of a builtin
    rename_i c ho
    split at h
    · rename_i x t hc hx ht
      split at h
      · rename_i s zi z1 z2 z3 z4 hxs hts
        cases h
        have h1 : a.eval x = .string s := (aop_ok sat hxs).1.1
        exact yl_len sat ho hc hx ht rfl fun w' => by rw [h1]; exact run_len_str (und_str hT hts) s _ w'
      · rename_i sz n cell zi e z1 z2 z3 z4 hxs hts
        cases h
        obtain ⟨A, c', h1, _⟩ := (aop_ok sat hxs).1
        exact yl_len sat ho hc hx ht rfl fun w' => by rw [h1]; exact run_len_slice (und_slice hT hts) A n c' _ w'
      · rename_i id zi e z1 z2 z3 z4 hxs hts
        split at h
        · rename_i E sz ct hown
          cases h
          obtain ⟨A, c', h1, _⟩ := own_val sat hown
          have h2 : a.eval x = ν id := (aop_ok sat hxs).1.1
          exact yl_len sat ho hc hx ht rfl fun w' => by rw [h2, h1]; exact run_len_slice (und_slice hT hts) A ct.n c' _ w'
        · cases h
      · rename_i A n c' zi e z1 z2 z3 z4 hxs hts
        cases h
        have h1 : a.eval x = .slice A n c' := (aop_ok sat hxs).1.1
        exact yl_len sat ho hc hx ht rfl fun w' => by rw [h1]; exact run_len_slice (und_slice hT hts) A n c' _ w'
      · cases h
    · rename_i ts x y hc hx
      split at h
      · rename_i k m k' n hxs hys
        cases h
        have h1 : a.eval x = .int k m := (aop_ok sat hxs).1.1
        have h2 : a.eval y = .int k' n := (aop_ok sat hys).1.1
        obtain ⟨cs, e⟩ := exec_builtin (a := a) ho hc hx rfl
        refine yl_pure (v := .int k (min m n)) ⟨rfl, rfl⟩ trivial fun w' => ?_
        rw [e]
        simp only [builtin, List.map_cons, List.map_nil, h1, h2, Builtin.min_, List.foldlM_cons, List.foldlM_nil, Builtin.min2, Sem.run_bind, Sem.run_pure, Result.andThen_ok]
        congr 2
        rw [Int.min_def]
        split <;> split <;> first | rfl | (congr 1; omega)
      · cases h
    · rename_i ts x y hc hx
      split at h
      · rename_i k m k' n hxs hys
        cases h
        have h1 : a.eval x = .int k m := (aop_ok sat hxs).1.1
        have h2 : a.eval y = .int k' n := (aop_ok sat hys).1.1
        obtain ⟨cs, e⟩ := exec_builtin (a := a) ho hc hx rfl
        refine yl_pure (v := .int k (max m n)) ⟨rfl, rfl⟩ trivial fun w' => ?_
        rw [e]
        simp only [builtin, List.map_cons, List.map_nil, h1, h2, Builtin.max_, List.foldlM_cons, List.foldlM_nil, Builtin.max2, Sem.run_bind, Sem.run_pure, Result.andThen_ok]
        congr 2
        rw [Int.max_def]
        split <;> split <;> first | rfl | (congr 1; omega)
      · cases h
    · cases h
  · cases h
end
end Go.Proofs.Ytfcihdkflnpcgaa.Am
