/- The abstract machine: operations that make or write memory do what the machine says. No program is named. -/
import Derived.Test.YtfcihdkflnpcgaaAm8
namespace Go.Proofs.Ytfcihdkflnpcgaa.Am
open Go.RowKit Lw

/-- The chunks of K and the blocks of S are as they were. -/
structure Kp (K : Nat → Bool) (S S' : Nat → Prop) (ν ν' : Nat → Value) (st st' : AS) (w w' : World) : Prop where
  size : w.heap.size ≤ w'.heap.size
  sub : ∀ b, S b → S' b
  hp : ∀ ch ∈ st.hp, K ch.id = true → ch ∈ st'.hp ∧ ch.blk ν' = ch.blk ν
  blk : ∀ b, (S b ∨ ∃ ch ∈ st.hp, K ch.id = true ∧ ch.blk ν = some b) → w'.heap[b]? = w.heap[b]?

/-- From a state that st describes the operation comes to a state that one of R describes. -/
def StepTo (P : Program) (K : Nat → Bool) (o : Oper) (st : AS) (R : AS → Prop) : Prop :=
  ∀ (X : Cx) (S : Nat → Prop) (ν : Nat → Value) (a : Act) (w : World) (Q : Exit → Act → World → Prop) (K' : Act → World → Prop), (∀ d, o.dst = some d → d < X.N) → Sat X S ν st a w →
    (∀ st' S' ν' a' w', R st' → Sat X S' ν' st' a' w' → Kp K S S' ν ν' st st' w w' → K' a' w') → o.wp P a w K' Q

section
variable {P : Program} {T : Tys} {K : Nat → Bool} {X : Cx} {S S' : Nat → Prop} {ν ν' : Nat → Value} {st : AS} {a : Act} {w w' : World} {o : Oper} {av : AV} {ps : List Prop}

theorem AS.put_hp (st : AS) (d : Option Tmp) (v : AV) : (st.put d v).hp = st.hp ∧ (st.put d v).nid = st.nid := by cases d <;> exact ⟨rfl, rfl⟩

theorem swap_kp {takes gives rest : List Chunk} {nid : Nat} (hd : ∀ d, o.dst = some d → d < X.N) (sat : Sat X S ν st a w) (hp : st.hp.Perm (takes ++ rest)) (hK : ∀ ch ∈ takes, K ch.id = false) (hf : Fr (fun b => b ∈ blks ν takes) w w') (hν : ∀ id, id < st.nid → ν' id = ν id)
    (hS : ∀ b, S b → S' b) (hS' : ∀ b, S' b → b < w'.heap.size ∧ (S b ∨ w.heap.size ≤ b ∨ b ∈ blks ν takes))
    (hg : ∀ ch ∈ gives, ch.holds w' S' ν') (hgn : (blks ν' gives).Nodup) (hgb : ∀ b ∈ blks ν' gives, b < w'.heap.size ∧ ¬ S' b ∧ (b ∈ blks ν takes ∨ w.heap.size ≤ b))
    (hgl : ∀ ch ∈ gives, ch.lt nid) (hn : st.nid ≤ nid) {u : Value} (hv : av.rel w' S' ν' u) (hl : av.lt nid) :
    Sat X S' ν' ((AS.mk st.env (gives ++ rest) nid).put o.dst av) (a.put o.dst u) w' ∧ Kp K S S' ν ν' st ((AS.mk st.env (gives ++ rest) nid).put o.dst av) w w' := by
  refine ⟨(sat.swap hp hf hν hS hS' hg hgn hgb hgl hn).put hd hv hl, hf.size, hS, fun ch hc hk => ?_, fun b hb => ?_⟩
  · rw [(AS.put_hp _ _ _).1]
    have : ch ∈ takes ++ rest := hp.subset hc
    rcases List.mem_append.1 this with h | h
    · rw [hK ch h] at hk; cases hk
    · exact ⟨List.mem_append_right _ h, Chunk.blk_eq hν (sat.hlt ch hc)⟩
  · have hmt : ∀ b ∈ blks ν takes, b ∈ blks ν st.hp := fun b hb => by
      obtain ⟨ch, hc, e⟩ := mem_blks.1 hb
      exact mem_blks.2 ⟨ch, hp.symm.subset (List.mem_append_left _ hc), e⟩
    have hnd : (blks ν takes ++ blks ν rest).Nodup := by
      have := (blks_perm (ν := ν) hp).nodup_iff.1 sat.nd
      rw [blks_append] at this; exact this
    have hlt : b < w.heap.size ∧ b ∉ blks ν takes := by
      rcases hb with hb | ⟨ch, hc, hk, hb⟩
      · exact ⟨(sat.imm b hb).1, fun hm => (sat.blk b (hmt b hm)).2.1 hb⟩
      · refine ⟨(sat.blk b (mem_blks.2 ⟨ch, hc, hb⟩)).1, fun hm => ?_⟩
        have : ch ∈ takes ++ rest := hp.subset hc
        rcases List.mem_append.1 this with h | h
        · rw [hK ch h] at hk; cases hk
        · exact (List.nodup_append.1 hnd).2.2 b hm b (mem_blks.2 ⟨ch, h, hb⟩) rfl
    exact hf.block b hlt.1 hlt.2

def upd (ν : Nat → Value) (i : Nat) (v : Value) : Nat → Value := fun j => if j = i then v else ν j
theorem upd_same (ν : Nat → Value) (i : Nat) (v : Value) : upd ν i v i = v := by simp [upd]
theorem upd_lt {ν : Nat → Value} {i : Nat} {v : Value} : ∀ j, j < i → upd ν i v j = ν j := fun j hj => by simp [upd, Nat.ne_of_lt hj]

theorem fr_alloc (B : Nat → Prop) (w : World) (ob : Obj) : Fr B w (w.alloc ob) := ⟨rfl, rfl, rfl, by simp, fun k hk _ => Below.heap_alloc w ob k hk⟩
theorem fr_below {B : Nat → Prop} {w w' : World} (h : Below w.heap.size w w') : Fr B w w' := ⟨h.os, h.tape, h.output, h.size, fun k hk _ => h.block k hk⟩

/-- One new chunk; perhaps one chunk is used up. -/
theorem step_new {takes rest : List Chunk} {mk : Nat → Chunk} {v : Value} (hd : ∀ d, o.dst = some d → d < X.N) (sat : Sat X S ν st a w) (hp : st.hp.Perm (takes ++ rest)) (hK : ∀ ch ∈ takes, K ch.id = false) (hf : Fr (fun b => b ∈ blks ν takes) w w')
    (hg : (mk st.nid).holds w' S (upd ν st.nid v)) (hgb : ∀ b, (mk st.nid).blk (upd ν st.nid v) = some b → b < w'.heap.size ∧ ¬ S b ∧ (b ∈ blks ν takes ∨ w.heap.size ≤ b))
    (hgl : (mk st.nid).lt (st.nid + 1)) {x : A1} (hv : x.rel w' S (upd ν st.nid v) v) (hl : x.lt (st.nid + 1))
    {K' : Act → World → Prop} (hk : ∀ st' S' ν' a' w', st' = st.new rest mk o.dst x → Sat X S' ν' st' a' w' → Kp K S S' ν ν' st st' w w' → K' a' w') : K' (a.put o.dst v) w' := by
  obtain ⟨h1, h2⟩ := swap_kp (gives := [mk st.nid]) (nid := st.nid + 1) (av := .o x) hd sat hp hK hf upd_lt (fun _ h => h) (fun b hb => ⟨Nat.lt_of_lt_of_le (sat.imm b hb).1 hf.size, .inl hb⟩)
    (fun ch hc => by rw [List.mem_singleton.1 hc]; exact hg)
    (by
      unfold blks
      rw [List.filterMap_cons]
      split
      · exact List.nodup_nil
      · simp)
    (fun b hb => by
      obtain ⟨ch, hc, e⟩ := mem_blks.1 hb
      rw [List.mem_singleton.1 hc] at e
      exact hgb b e)
    (fun ch hc => by rw [List.mem_singleton.1 hc]; exact hgl) (Nat.le_succ _) hv hl
  exact hk _ _ _ _ _ rfl h1 h2

theorem All2.lt_of {m : Nat} {as : List A1} (h : ∀ x ∈ as, x.lt m) : ∀ x ∈ as, x.lt (m + 1) := fun x hx => A1.lt_mono (Nat.le_succ m) (h x hx)

theorem box_step {Tb : TypeId} {cells : List A1} {us : List Value} {ob : Obj} (hob : ob = .cells us.toArray Tb) (hd : ∀ d, o.dst = some d → d < X.N) (sat : Sat X S ν st a w) (hr : All2 (A1.rel w S ν) cells us) (hl : ∀ x ∈ cells, x.lt st.nid)
    {K' : Act → World → Prop} (hk : ∀ st' S' ν' a' w', st' = st.new st.hp (fun i => .box i Tb cells) o.dst (.ptr st.nid 0) → Sat X S' ν' st' a' w' → Kp K S S' ν ν' st st' w w' → K' a' w') :
    K' (a.put o.dst (.pointer (some ⟨w.heap.size, 0, none⟩))) (w.alloc ob) := by
  subst hob
  have gr : Gr w (w.alloc (.cells us.toArray Tb)) S S := ⟨by simp, fun b _ hb => Below.heap_alloc w _ b hb, fun _ h => h⟩
  refine step_new (takes := []) (rest := st.hp) (mk := fun i => .box i Tb cells) (v := .pointer (some ⟨w.heap.size, 0, none⟩)) hd sat (.refl _) (fun ch hc => by cases hc) (fr_alloc _ _ _) ?_ ?_ ?_ (x := .ptr st.nid 0) ?_ ?_ hk
  · exact ⟨w.heap.size, us, upd_same _ _ _, heap_alloc_new w _, hr.imp fun x u hx => A1.mono gr upd_lt (hl x hx)⟩
  · intro b hb
    simp only [Chunk.blk, upd_same] at hb
    cases hb
    exact ⟨by simp, fun hs => by have := (sat.imm _ hs).1; omega, .inr (Nat.le_refl _)⟩
  · exact ⟨Nat.lt_succ_self _, fun x hx => A1.lt_mono (Nat.le_succ _) (hl x hx)⟩
  · exact ⟨w.heap.size, upd_same _ _ _, rfl⟩
  · exact Nat.lt_succ_self _

theorem one_cells {u : Value} (h : u.oneCell' = true) : u.cells = #[u] := by cases u <;> first | rfl | cases h

theorem wp_value {u : Value} {K' : Act → World → Prop} {Q : Exit → Act → World → Prop} (hr : (execOp a.eval o).run P w = .ok (.value u) w') (h : K' (a.put o.dst u) w') : o.wp P a w K' Q := by
  unfold Oper.wp
  rw [hr]
  exact h
theorem wp_skip' {K' : Act → World → Prop} {Q : Exit → Act → World → Prop} (hd : o.dst = none) (hr : (execOp a.eval o).run P w = .ok .skip w') (h : K' a w') : o.wp P a w K' Q := by
  unfold Oper.wp
  rw [hr, Oper.upon_skip, hd]
  exact h

theorem m_alloc (hT : T.Ok P) {e : TypeId} {ti : TI} (ho : o.op = .alloc e) (ht : tlook T e = some ti) {cs : List A1} (hc : cellsC ti.zero = some cs) :
    StepTo P K o st (· = st.new st.hp (fun i => .box i e cs) o.dst (.ptr st.nid 0)) := by
  intro X S ν a w Q K' hd sat hk
  obtain ⟨hti, hid⟩ := hT.get ht
  obtain ⟨i, z, e1, e2, e3, e4, e5, _⟩ := hti.info
  rw [hid] at e1
  obtain ⟨c1, c2⟩ := cellsC_ok (w := w) (S := S) (ν := ν) hc
  refine wp_value (w' := w.alloc (.cells z.cells e)) (u := .pointer (some ⟨w.heap.size, 0, none⟩)) ?_ (box_step (us := ti.zero) (by rw [← e5]) hd sat c1 (c2 _) hk)
  unfold execOp
  rw [ho]
  simp [Instr.alloc, zeroValue, typeInfo, e1, e4, newVar, newRow]

theorem m_box {e : TypeId} {x : Operand} (ho : o.op = .box e x) {cells : List A1} (hx : (∃ v, aop st x = some (.o v) ∧ cells = [v]) ∨ aop st x = some (.g cells)) :
    StepTo P K o st (· = st.new st.hp (fun i => .box i e cells) o.dst (.ptr st.nid 0)) := by
  intro X S ν a w Q K' hd sat hk
  have : ∃ us, (a.eval x).cells = us.toArray ∧ All2 (A1.rel w S ν) cells us ∧ ∀ y ∈ cells, y.lt st.nid := by
    rcases hx with ⟨v, hx, rfl⟩ | hx
    · obtain ⟨h1, h2⟩ := aop_ok sat hx
      have h1 : v.rel w S ν (a.eval x) := h1
      exact ⟨[a.eval x], by rw [one_cells (A1.one h1)], ⟨h1, trivial⟩, fun y hy => by rw [List.mem_singleton.1 hy]; exact h2⟩
    · obtain ⟨⟨us, h1, h3⟩, h2⟩ := aop_ok sat hx
      exact ⟨us, by rw [h1]; rfl, h3, h2⟩
  obtain ⟨us, h1, h2, h3⟩ := this
  refine wp_value (w' := w.alloc (.cells us.toArray e)) (u := .pointer (some ⟨w.heap.size, 0, none⟩)) ?_ (box_step rfl hd sat h2 h3 hk)
  unfold execOp
  rw [ho]
  simp [Instr.box, newVar, newRow, h1]

/-- A new slice of the call's own. -/
theorem own_step {E sz n : Nat} {ct : Ct} {takes rest : List Chunk} {v : Value} {xs : List Value} (hd : ∀ d, o.dst = some d → d < X.N) (sat : Sat X S ν st a w) (hp : st.hp.Perm (takes ++ rest)) (hK : ∀ ch ∈ takes, K ch.id = false) (hf : Fr (fun b => b ∈ blks ν takes) w w')
    (hown : w'.ownsRow 0 E sz v n xs) (hn : n = ct.n) (hb : ∀ b, v.ownBlock = some b → b ∈ blks ν takes ∨ w.heap.size ≤ b) (hc : ∀ i j, i < ct.n → j < sz → ∃ u, xs[i * sz + j]? = some u ∧ (ct.cell i j).rel w' S u)
    {K' : Act → World → Prop} (hk : ∀ st' S' ν' a' w', st' = st.new rest (fun i => .own i E sz ct) o.dst (.own st.nid) → Sat X S' ν' st' a' w' → Kp K S S' ν ν' st st' w w' → K' a' w') : K' (a.put o.dst v) w' := by
  subst hn
  obtain ⟨A, c, hv, _, _, _, _, hlt⟩ := ownsRow_src hown
  refine step_new (mk := fun i => .own i E sz ct) (v := v) hd sat hp hK hf ⟨xs, by rw [upd_same]; exact hown, hc⟩ (fun b hb' => ?_) (Nat.lt_succ_self _) (x := .own st.nid) ⟨(upd_same _ _ _).symm, by rw [upd_same, hv]; rfl⟩ (Nat.lt_succ_self _) hk
  simp only [Chunk.blk, upd_same] at hb'
  have h1 := (hown.lt b hb').1
  have h2 := (hown.lt b hb').2
  refine ⟨h2, fun hs => ?_, hb b hb'⟩
  rcases hb b hb' with h3 | h3
  · obtain ⟨ch, hc', e⟩ := mem_blks.1 h3
    exact (sat.blk b (mem_blks.2 ⟨ch, hp.symm.subset (List.mem_append_left _ hc'), e⟩)).2.1 hs
  · have := (sat.imm b hs).1; omega
end
end Go.Proofs.Ytfcihdkflnpcgaa.Am
