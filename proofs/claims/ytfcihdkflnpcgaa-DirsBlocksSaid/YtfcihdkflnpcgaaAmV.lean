/- The abstract machine: ranges over strings. No program is named. -/
import Derived.Test.YtfcihdkflnpcgaaAmW
import GoSem.Core.Utf8
import Derived.Laws.NewFold
namespace Go.Proofs.Ytfcihdkflnpcgaa.Am
open Go.RowKit Lw
section
variable {F : Fence} {P : Program} {T : Tys} {X : Cx} {S : Nat → Prop} {ν : Nat → Value} {st : AS} {a : Act} {w : World} {o : Oper} {K : Nat → Bool} {Q : Exit → Act → World → Prop}

/-- A new object. -/
theorem m_obj {u : Value} {ob : Obj} {x : A1} (hu : ∀ w : World, u = u) (mk : Nat → Value) (hmk : (∀ b, mk b = .pointer (some ⟨b, 0, none⟩)) ∧ x = .ptr st.nid 0 ∧ isMapO ob = false ∨ (∀ b, mk b = .map (some b)) ∧ x = .own st.nid)
    (hrun : ∀ (a : Act) (w : World) S ν X, Sat X S ν st a w → (execOp a.eval o).run P w = .ok (.value (mk w.heap.size)) (w.alloc ob)) :
    StepTo P K o st (· = st.new st.hp (fun i => .obj i ob) o.dst x) := by
  intro X S ν a w Q K' hd sat hk
  have hbk : objBlk (mk w.heap.size) = some w.heap.size := by rcases hmk with ⟨h, _⟩ | ⟨h, _⟩ <;> rw [h] <;> rfl
  refine wp_value (w' := w.alloc ob) (u := mk w.heap.size) (hrun a w S ν X sat) (step_new (takes := []) (rest := st.hp) (mk := fun i => .obj i ob) (v := mk w.heap.size) hd sat (.refl _) (fun ch hc => by cases hc) (fr_alloc _ _ _) ?_ ?_ ?_ (x := x) ?_ ?_ hk)
  · refine ⟨w.heap.size, ?_, heap_alloc_new w _, ?_⟩
    · rw [upd_same]
      rcases hmk with ⟨h, _⟩ | ⟨h, _⟩
      · exact .inl (h _)
      · exact .inr (h _)
    · rw [upd_same]
      rcases hmk with ⟨h, _, hm⟩ | ⟨h, _⟩
      · exact fun hm' => by rw [hm] at hm'; cases hm'
      · exact fun _ => h _
  · intro b hb
    simp only [Chunk.blk, upd_same] at hb
    rw [hbk] at hb
    cases hb
    exact ⟨by simp, fun hs => by have := (sat.imm _ hs).1; omega, .inr (Nat.le_refl _)⟩
  · exact Nat.lt_succ_self _
  · rcases hmk with ⟨h, rfl, _⟩ | ⟨h, rfl⟩
    · exact ⟨w.heap.size, by rw [upd_same]; exact h _, h _⟩
    · exact ⟨(upd_same _ _ _).symm, by rw [upd_same, h]; rfl⟩
  · rcases hmk with ⟨h, rfl, _⟩ | ⟨h, rfl⟩ <;> exact Nat.lt_succ_self _

theorem putObj_other (w : World) {b k : Nat} {ob : Obj} (h : k ≠ b) : (w.putObj b ob).heap[k]? = w.heap[k]? := by
  simp [World.putObj, Array.getElem?_setIfInBounds_ne (Ne.symm h)]
theorem putObj_same (w : World) {b : Nat} {ob : Obj} (h : b < w.heap.size) : (w.putObj b ob).heap[b]? = some ob := by
  simp [World.putObj, h]
/-- An object is turned. -/
theorem obj_step {id : Nat} {ob ob' : Obj} {rest : List Chunk} {av : AV} {u : Value} (hd : ∀ d, o.dst = some d → d < X.N) (sat : Sat X S ν st a w) (htk : takeObj (fun i => !K i) st.hp id = some (ob, rest)) (hio : isMapO ob' = isMapO ob) (hv : ∀ w', av.rel w' S ν u) (hl : av.lt st.nid) :
    ∃ b, (ν id = .pointer (some ⟨b, 0, none⟩) ∨ ν id = .map (some b)) ∧ (isMapO ob = true → ν id = .map (some b)) ∧ w.heap[b]? = some ob ∧ Sat X S ν ((AS.mk st.env (.obj id ob' :: rest) st.nid).put o.dst av) (a.put o.dst u) (w.putObj b ob') ∧ Kp K S S ν ν st ((AS.mk st.env (.obj id ob' :: rest) st.nid).put o.dst av) w (w.putObj b ob') := by
  obtain ⟨hp, hK⟩ := takeObj_perm htk
  have hm : Chunk.obj id ob ∈ st.hp := hp.symm.subset (List.mem_cons_self ..)
  obtain ⟨b, h1, h2, h9⟩ := sat.hp _ hm
  have hbk : objBlk (ν id) = some b := by rcases h1 with h | h <;> rw [h] <;> rfl
  have hblk : blks ν [Chunk.obj id ob] = [b] := by simp [blks, Chunk.blk, hbk]
  have hbs := sat.blk b (mem_blks.2 ⟨_, hm, hbk⟩)
  have hb : b < w.heap.size := hbs.1
  refine ⟨b, h1, h9, h2, swap_kp (w' := w.putObj b ob') (av := av) (u := u) (takes := [.obj id ob]) (gives := [.obj id ob']) (rest := rest) (nid := st.nid) (ν' := ν) (S' := S) (K := K) hd sat hp
    (fun ch hc => by rw [List.mem_singleton.1 hc]; show K id = false; simpa using hK) ⟨rfl, rfl, rfl, by simp [World.putObj], fun k hk hn => putObj_other _ fun e => hn (by rw [hblk, e]; simp)⟩ (fun _ _ => rfl) (fun _ h => h)
    (fun k hs => ⟨by simp only [World.putObj, Array.size_setIfInBounds]; exact (sat.imm k hs).1, .inl hs⟩)
    (fun ch hc => by
      rw [List.mem_singleton.1 hc]
      exact ⟨b, h1, putObj_same w hb, fun h => h9 (by rw [← hio]; exact h)⟩)
    (by simp [blks, Chunk.blk, hbk]) (fun k hk => by
      have : k = b := by simpa [blks, Chunk.blk, hbk] using hk
      subst this
      exact ⟨by simp only [World.putObj, Array.size_setIfInBounds]; exact hbs.1, hbs.2.1, .inl (by rw [hblk]; simp)⟩)
    (fun ch hc => by rw [List.mem_singleton.1 hc]; exact sat.hlt (Chunk.obj id ob) hm) (Nat.le_refl _) (hv _) hl⟩
/-- A range over a string begins. -/
theorem m_rangeS (hT : T.Ok P) {t : TypeId} {x : Operand} {s : ByteArray} {zi z1 z2 : Nat} {z3 : List Value} {z4 : Bool} (ho : o.op = .range t x) (ht : tlook T t = some ⟨zi, .str, z1, z2, z3, z4⟩) (hx : aop st x = some (.o (.c (.string s)))) :
    StepTo P K o st (· = st.new st.hp (fun i => .obj i (.stringIter s 0)) o.dst (.ptr st.nid 0)) := by
  refine m_obj (u := .bool true) (fun _ => rfl) (fun b => .pointer (some ⟨b, 0, none⟩)) (.inl ⟨fun _ => rfl, rfl, rfl⟩) fun a w S ν X sat => ?_
  have hx1 : a.eval x = .string s := (aop_ok sat hx).1.1
  unfold execOp
  rw [ho]
  simp [Instr.range, run_underlying (und_str hT ht), hx1, run_newObj_alloc]
/-- The next rune of a string. -/
theorem m_nextS {x : Operand} {s : ByteArray} {id pos : Nat} {rest : List Chunk} {b : Bool} (hb : b = true) (ho : o.op = .next x b) (hx : aop st x = some (.o (.ptr id 0))) (htk : takeObj (fun i => !K i) st.hp id = some (.stringIter s pos, rest)) :
    StepTo P K o st (fun st' => (pos < s.size ∧ st' = (AS.mk st.env (.obj id (.stringIter s (pos + (Utf8.decode s pos).2)) :: rest) st.nid).put o.dst (.t [.inl (.c (.bool true)), .inl (.c (.int .i64 pos)), .inl (.c (.int .i32 (Utf8.decode s pos).1))])) ∨
      (s.size ≤ pos ∧ st' = st.put o.dst (.t [.inl (.c (.bool false))]))) := by
  intro X S ν a w Q K' hd sat hk
  subst hb
  obtain ⟨b, e1, e2⟩ := (aop_ok sat hx).1
  by_cases h : pos < s.size
  · obtain ⟨b', k1, _, k2, k3, k4⟩ := obj_step (K := K) (ob' := .stringIter s (pos + (Utf8.decode s pos).2)) (av := .t [.inl (.c (.bool true)), .inl (.c (.int .i64 pos)), .inl (.c (.int .i32 (Utf8.decode s pos).1))]) (u := .tuple #[.bool true, goInt pos, .int .i32 (Utf8.decode s pos).1]) hd sat htk rfl
      (fun _ => ⟨[_, _, _], rfl, ⟨rfl, rfl⟩, ⟨rfl, rfl⟩, ⟨rfl, rfl⟩, trivial⟩) (fun z hz => by
        rcases List.mem_cons.1 hz with rfl | hz
        · exact trivial
        · rcases List.mem_cons.1 hz with rfl | hz
          · exact trivial
          · rw [List.mem_singleton.1 hz]; exact trivial)
    have hbb : b' = b := by
      rcases k1 with k1 | k1
      · rw [e1] at k1; cases k1; rfl
      · rw [e1] at k1; cases k1
    subst hbb
    refine wp_value (w' := w.putObj b' (.stringIter s (pos + (Utf8.decode s pos).2))) ?_ (hk _ S ν _ _ (.inl ⟨h, rfl⟩) k3 k4)
    unfold execOp
    rw [ho]
    have hg : (getObj b').run P w = .ok (.stringIter s pos) w := by unfold getObj; simp [Sem.run, k2]
    have hs : (setObj b' (.stringIter s (pos + (Utf8.decode s pos).2))).run P w = .ok () (w.putObj b' (.stringIter s (pos + (Utf8.decode s pos).2))) := by unfold setObj; simp [Sem.run, k2, World.putObj]
    simp [Instr.next, e2, hg, hs, h]
  · obtain ⟨hp, _⟩ := takeObj_perm htk
    obtain ⟨b', k1, k2, _⟩ := sat.hp _ (hp.symm.subset (List.mem_cons_self ..))
    have hbb : b' = b := by
      rcases k1 with k1 | k1
      · rw [e1] at k1; cases k1; rfl
      · rw [e1] at k1; cases k1
    subst hbb
    refine wp_value (w' := w) (u := .tuple #[.bool false]) ?_ (hk _ S ν _ _ (.inr ⟨by omega, rfl⟩) (sat.put hd ⟨[_], rfl, ⟨rfl, rfl⟩, trivial⟩ (fun z hz => by rw [List.mem_singleton.1 hz]; exact trivial)) ⟨Nat.le_refl _, fun _ h => h, fun ch hc hk => ⟨by rw [(AS.put_hp _ _ _).1]; exact hc, rfl⟩, fun _ _ => rfl⟩)
    unfold execOp
    rw [ho]
    have hg : (getObj b').run P w = .ok (.stringIter s pos) w := by unfold getObj; simp [Sem.run, k2]
    simp [Instr.next, e2, hg, h]
end
theorem decode_low {s : ByteArray} {pos : Nat} (h : pos < s.size) (hb : (s.data.toList.getD pos 0).toNat < 128) : Utf8.decode s pos = ((s.data.toList.getD pos 0).toNat, 1) := by
  have hg : s.get! pos = s.data.toList.getD pos 0 := by
    have hl : pos < s.data.toList.length := h
    rw [List.getD_eq_getElem?_getD, List.getElem?_eq_getElem hl]
    show s.data[pos]! = _
    rw [getElem!_pos s.data pos h]; rfl
  unfold Utf8.decode
  simp only [Nat.add_zero, hg]
  rw [if_pos hb]
theorem decode_high {s : ByteArray} {pos : Nat} (h : pos < s.size) (hb : 128 ≤ (s.data.toList.getD pos 0).toNat) : 128 ≤ (Utf8.decode s pos).1 ∧ (Utf8.decode s pos).1 ≤ 1114111 ∧ 1 ≤ (Utf8.decode s pos).2 := by
  have hg : s.get! pos = s.data.toList.getD pos 0 := by
    have hl : pos < s.data.toList.length := h
    rw [List.getD_eq_getElem?_getD, List.getElem?_eq_getElem hl]
    show s.data[pos]! = _
    rw [getElem!_pos s.data pos h]; rfl
  unfold Utf8.decode
  simp only [Nat.add_zero, hg]
  generalize (s.data.toList.getD pos 0).toNat = b0 at *
  rw [if_neg (by omega)]
  have m1 : ∀ k, (s.get! (pos + k)).toNat % 64 < 64 := fun k => Nat.mod_lt _ (by decide)
  have := m1 1
  have := m1 2
  have := m1 3
  generalize (s.get! (pos + 1)).toNat % 64 = c1 at *
  generalize (s.get! (pos + 2)).toNat % 64 = c2 at *
  generalize (s.get! (pos + 3)).toNat % 64 = c3 at *
  split
  · split
    · exact ⟨by assumption, by have := Nat.mod_lt b0 (show 0 < 32 by decide); omega, Nat.le_of_ble_eq_true rfl⟩
    · exact ⟨by decide, by decide, by decide⟩
  · split
    · split
      · rename_i h; simp only [Bool.and_eq_true, decide_eq_true_eq] at h
        have := Nat.mod_lt b0 (show 0 < 16 by decide)
        exact ⟨by dsimp only; omega, by dsimp only; omega, Nat.le_of_ble_eq_true rfl⟩
      · exact ⟨by decide, by decide, by decide⟩
    · split
      · split
        · rename_i h
          simp only [Bool.and_eq_true, decide_eq_true_eq, Utf8.valid, Bool.or_eq_true] at h
          exact ⟨by dsimp only; omega, by dsimp only; omega, Nat.le_of_ble_eq_true rfl⟩
        · exact ⟨by decide, by decide, by decide⟩
      · exact ⟨by decide, by decide, by decide⟩
end Go.Proofs.Ytfcihdkflnpcgaa.Am
