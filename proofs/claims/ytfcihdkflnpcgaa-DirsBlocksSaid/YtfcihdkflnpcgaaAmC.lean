/- The abstract machine: append, make, conversions of bytes; the law for all operations that make or write memory. No program is named. -/
import Derived.Test.YtfcihdkflnpcgaaAmB
namespace Go.Proofs.Ytfcihdkflnpcgaa.Am
open Go.RowKit Lw

section
variable {P : Program} {T : Tys} {K : Nat → Bool} {X : Cx} {S S' : Nat → Prop} {ν ν' : Nat → Value} {st : AS} {a : Act} {w w' : World} {o : Oper} {av : AV} {ps : List Prop}

/-- A slice value reads as the rows of a content. -/
def Src (w : World) (S : Nat → Prop) (sz : Nat) (ct : Ct) (v : Value) : Prop :=
  ∃ (A : Option Addr) (c : Nat) (news : List Value), v = .slice A ct.n c ∧ ct.n ≤ c ∧ c ≤ maxLen ∧ (A = none → c = 0) ∧ news.length = ct.n * sz ∧ (∀ u ∈ news, u.oneCell' = true) ∧
    (0 < ct.n → ∃ b off, A = some ⟨b, off, none⟩ ∧ b < w.heap.size ∧ ∀ j u, news[j]? = some u → w.cell? ⟨b, off + j, none⟩ = some u) ∧
    ∀ i j, i < ct.n → j < sz → ∃ u, news[i * sz + j]? = some u ∧ (ct.cell i j).rel w S u

theorem rows_one {sz n : Nat} {cell : Nat → Nat → DC} {xs : List Value} (hl : xs.length = n * sz) (h : ∀ i j, i < n → j < sz → ∃ u, xs[i * sz + j]? = some u ∧ (cell i j).rel w S u) : ∀ u ∈ xs, u.oneCell' = true := by
  intro u hu
  obtain ⟨k, hk, e⟩ := List.mem_iff_getElem.1 hu
  have hsz : 0 < sz := by
    rcases Nat.eq_zero_or_pos sz with h0 | h0
    · subst h0; rw [hl] at hk; simp at hk
    · exact h0
  have hi : k / sz < n := by rw [Nat.div_lt_iff_lt_mul hsz, ← hl]; exact hk
  obtain ⟨u', e', r⟩ := h (k / sz) (k % sz) hi (Nat.mod_lt _ hsz)
  rw [Nat.mul_comm, Nat.div_add_mod] at e'
  rw [List.getElem?_eq_getElem hk, e] at e'
  cases e'
  exact DC.one r

theorem src_ro {sz n : Nat} {cell : Nat → Nat → DC} {v : Value} (hsz : 0 < sz) (h : (DC.sl sz n cell).rel w S v) : Src w S sz ⟨n, cell⟩ v := by
  obtain ⟨A, c, rfl, h1, h2, h3, h4⟩ := h
  rcases Nat.eq_zero_or_pos n with h0 | h0
  · subst h0
    exact ⟨A, c, [], rfl, h1, h2, h3, by simp, (fun u hu => nomatch hu), (fun h => absurd h (Nat.lt_irrefl 0)), (fun i j hi => absurd hi (Nat.not_lt_zero i))⟩
  · obtain ⟨b, off, rfl, hs, hb, hc⟩ := h4 h0
    have hch : ∀ k : Fin (n * sz), ∃ u, w.cell? ⟨b, off + k.1, none⟩ = some u ∧ (cell (k.1 / sz) (k.1 % sz)).rel w S u := by
      intro k
      have hi : k.1 / sz < n := by rw [Nat.div_lt_iff_lt_mul hsz]; exact k.2
      obtain ⟨u, e, r⟩ := hc (k.1 / sz) (k.1 % sz) hi (Nat.mod_lt _ hsz)
      rw [Nat.add_assoc, Nat.mul_comm, Nat.div_add_mod] at e
      exact ⟨u, e, r⟩
    obtain ⟨f, hf⟩ := Classical.axiomOfChoice hch
    have hget : ∀ k (hk : k < n * sz), (List.ofFn f)[k]? = some (f ⟨k, hk⟩) := fun k hk => by simp [hk]
    have hrows : ∀ i j, i < n → j < sz → ∃ u, (List.ofFn f)[i * sz + j]? = some u ∧ (cell i j).rel w S u := fun i j hi hj => by
      have hk : i * sz + j < n * sz := by
        have : (i + 1) * sz ≤ n * sz := Nat.mul_le_mul_right _ hi
        rw [Nat.add_mul, Nat.one_mul] at this; omega
      refine ⟨_, hget _ hk, ?_⟩
      have := (hf ⟨i * sz + j, hk⟩).2
      have e1 : (i * sz + j) / sz = i := by rw [Nat.mul_comm, Nat.mul_add_div hsz, Nat.div_eq_of_lt hj, Nat.add_zero]
      have e2 : (i * sz + j) % sz = j := by rw [Nat.mul_comm, Nat.mul_add_mod, Nat.mod_eq_of_lt hj]
      simpa [e1, e2] using this
    refine ⟨some ⟨b, off, none⟩, c, List.ofFn f, rfl, h1, h2, (fun h => by cases h), by simp, rows_one (by simp) hrows, fun _ => ⟨b, off, rfl, hb, fun j u hu => ?_⟩, hrows⟩
    have hk : j < n * sz := by have := (List.getElem?_eq_some_iff.1 hu).1; simpa using this
    rw [hget j hk] at hu
    cases hu
    exact (hf ⟨j, hk⟩).1

theorem src_own {E sz : Nat} {ct : Ct} {v : Value} {xs : List Value} (h : w.ownsRow 0 E sz v ct.n xs) (hr : ∀ i j, i < ct.n → j < sz → ∃ u, xs[i * sz + j]? = some u ∧ (ct.cell i j).rel w S u) : Src w S sz ct v := by
  obtain ⟨A, c, rfl, h1, h2, h3, h4, h5⟩ := ownsRow_src h
  exact ⟨A, c, xs, rfl, h1, h2, h3, h4, rows_one h4 hr, fun hn => let ⟨b, off, e, hb, _, hc⟩ := h5 hn; ⟨b, off, e, hb, hc⟩, hr⟩

theorem srcOf_ok (sat : Sat X S ν st a w) {hp : List Chunk} (hsub : ∀ ch ∈ hp, ch ∈ st.hp) {sz : Nat} (hsz : 0 < sz) {x : Operand} {v : AV} {src : Ct} (hx : aop st x = some v) (h : srcOf hp sz v = some src) : Src w S sz src (a.eval x) := by
  obtain ⟨h1, h2⟩ := aop_ok sat hx
  unfold srcOf at h
  split at h
  · split at h
    · rename_i hown
      split at h
      · rename_i hs
        cases h
        have hs := Nat.eq_of_beq_eq_true hs
        subst hs
        obtain ⟨xs, o1, o2⟩ := sat.hp _ (hsub _ (findOwn_ok hown).1)
        rw [show a.eval x = ν _ from h1.1]
        exact src_own o1 o2
      · cases h
    · cases h
  · split at h
    · rename_i hs
      cases h
      have hs := Nat.eq_of_beq_eq_true hs
      subst hs
      exact src_ro hsz h1
    · cases h
  · cases h
    rw [show a.eval x = .slice none 0 0 from h1.1]
    exact ⟨none, 0, [], rfl, Nat.le_refl _, Nat.zero_le _, fun _ => rfl, by simp [nilC], fun u hu => (nomatch hu), fun h => by simp [nilC] at h, fun i j hi => by simp [nilC] at hi⟩
  · cases h

theorem slTy (hT : T.Ok P) {t e : TypeId} {te : TI} (ht : P.underlying t = some (.slice e)) (he : tlook T e = some te) : SlTy P t e te.size te.bytes := by
  obtain ⟨hti, hid⟩ := hT.get he
  obtain ⟨i, z, e1, e2, e3, e4, e5, _, e6, _⟩ := hti.info
  rw [hid] at e1
  exact ⟨ht, ⟨i, z, e1, e4, e2, e3, by rw [← Array.length_toList, e5, e6]⟩, hti.pos⟩

/-- What an append leaves. -/
theorem app_step {E sz n m : Nat} {ct src : Ct} {takes rest : List Chunk} {v v' : Value} {xs news : List Value} (hd : ∀ d, o.dst = some d → d < X.N) (sat : Sat X S ν st a w) (hp : st.hp.Perm (takes ++ rest)) (hK : ∀ ch ∈ takes, K ch.id = false)
    (hb : ∀ k, v.ownBlock = some k ↔ k ∈ blks ν takes) (hn : n = ct.n) (hm : m = src.n) (hx : xs.length = n * sz) (hc : ∀ i j, i < ct.n → j < sz → ∃ u, xs[i * sz + j]? = some u ∧ (ct.cell i j).rel w S u)
    (hs : ∀ i j, i < src.n → j < sz → ∃ u, news[i * sz + j]? = some u ∧ (src.cell i j).rel w S u) (ha : Appd 0 E sz w w w' v v' (n + m) (xs ++ news))
    {K' : Act → World → Prop} (hk : ∀ st' S' ν' a' w', st' = st.new rest (fun i => .own i E sz (appC ct src)) o.dst (.own st.nid) → Sat X S' ν' st' a' w' → Kp K S S' ν ν' st st' w w' → K' a' w') : K' (a.put o.dst v') w' := by
  subst hn; subst hm
  have hf : Fr (fun b => b ∈ blks ν takes) w w' := ⟨ha.grown.os, ha.grown.tape, ha.grown.output, ha.grown.size, fun k hk hn => ha.grown.block k hk fun e => hn ((hb k).1 e.symm)⟩
  have gr : Gr w w' S S := ⟨hf.size, fun b hs hb' => hf.block b hb' fun hm => by
    obtain ⟨ch, hc', e⟩ := mem_blks.1 hm
    exact (sat.blk b (mem_blks.2 ⟨ch, hp.symm.subset (List.mem_append_left _ hc'), e⟩)).2.1 hs, fun _ h => h⟩
  refine own_step hd sat hp hK hf ha.own rfl (fun b hb' => ?_) (fun i j hi hj => ?_) hk
  · rcases ha.blk with h | h
    · exact .inl ((hb b).1 (h ▸ hb'))
    · exact .inr (h b hb')
  · simp only [appC] at hi ⊢
    by_cases h1 : i < ct.n
    · obtain ⟨u, e, r⟩ := hc i j h1 hj
      have hlt := (List.getElem?_eq_some_iff.1 e).1
      exact ⟨u, by rw [List.getElem?_append_left hlt]; exact e, by rw [if_pos h1]; exact DC.mono gr r⟩
    · obtain ⟨u, e, r⟩ := hs (i - ct.n) j (by omega) hj
      refine ⟨u, ?_, by rw [if_neg h1]; exact DC.mono gr r⟩
      have e2 : i * sz + j = ct.n * sz + ((i - ct.n) * sz + j) := by rw [← Nat.add_assoc, ← Nat.add_mul]; congr 2; omega
      rw [List.getElem?_append_right (by omega), hx, e2, Nat.add_sub_cancel_left]; exact e

theorem call_args {c : Call} {s x : Operand} {t u : TypeId} (ho : o.op = .call c) (hc : c.callee = .builtin .append) (hx : c.args.toList = [s, x]) (ht : c.argTypes.toList = [t, u]) : o.op = .call { callee := .builtin .append, args := #[s, x], argTypes := #[t, u] } := by
  have h1 : c.args = #[s, x] := by rw [← Array.toList_inj]; exact hx
  have h2 : c.argTypes = #[t, u] := by rw [← Array.toList_inj]; exact ht
  obtain ⟨c1, c2, c3⟩ := c
  simp only at hc h1 h2
  subst hc; subst h1; subst h2
  exact ho

/-- The destination of an append. -/
def Dest (K : Nat → Bool) (sz E : Nat) (st : AS) (v : AV) (ct : Ct) (rest : List Chunk) : Prop :=
  (∃ id, v = .o (.own id) ∧ takeOwn (fun i => !K i) st.hp id = some (E, sz, ct, rest)) ∨ (v = .o (.c (.slice none 0 0)) ∧ ct = nilC ∧ rest = st.hp)

theorem dest_ok (sat : Sat X S ν st a w) {sz E : Nat} {x : Operand} {v : AV} {ct : Ct} {rest : List Chunk} (hx : aop st x = some v) (h : Dest K sz E st v ct rest) :
    ∃ takes xs, st.hp.Perm (takes ++ rest) ∧ (∀ ch ∈ takes, K ch.id = false) ∧ (∀ k, (a.eval x).ownBlock = some k ↔ k ∈ blks ν takes) ∧ w.ownsRow 0 E sz (a.eval x) ct.n xs ∧ (∀ i j, i < ct.n → j < sz → ∃ u, xs[i * sz + j]? = some u ∧ (ct.cell i j).rel w S u) ∧ ∀ ch ∈ rest, ch ∈ st.hp := by
  obtain ⟨h1, _⟩ := aop_ok sat hx
  rcases h with ⟨id, rfl, htk⟩ | ⟨rfl, rfl, rfl⟩
  · obtain ⟨hp, hK⟩ := takeOwn_perm htk
    obtain ⟨xs, o1, o2⟩ := sat.hp _ (hp.symm.subset (List.mem_cons_self ..))
    have e : a.eval x = ν id := h1.1
    rw [e]
    refine ⟨[.own id E sz ct], xs, hp, fun ch hc => by rw [List.mem_singleton.1 hc]; show K id = false; simpa using hK, fun k => ?_, o1, o2, fun ch hc => hp.symm.subset (List.mem_cons_of_mem _ hc)⟩
    unfold blks
    rw [List.filterMap_cons]
    cases hq : (ν id).ownBlock with
    | none => simp [Chunk.blk, hq]
    | some b => simp [Chunk.blk, hq]; exact eq_comm
  · rw [show a.eval x = .slice none 0 0 from h1.1]
    exact ⟨[], [], .refl _, fun ch hc => (nomatch hc), fun k => by simp [blks, Value.ownBlock], World.ownsRow_nil _ _ _ _, fun i j hi => by simp [nilC] at hi, fun ch hc => hc⟩

theorem m_append (hT : T.Ok P) {c : Call} {s x : Operand} {t e : Nat} {te : TI} {vd vs : AV} {ct src : Ct} {rest : List Chunk} (ho : o.op = .call c) (hc : c.callee = .builtin .append) (hx : c.args.toList = [s, x]) (ht : c.argTypes.toList = [t, t])
    (hu : P.underlying t = some (.slice e)) (he : tlook T e = some te) (hs : aop st s = some vd) (hd1 : Dest K te.size e st vd ct rest) (hv : aop st x = some vs) (hsrc : srcOf rest te.size vs = some src) (hby : 1 ≤ te.bytes) (hlim : (ct.n + src.n) * te.bytes ≤ 140737488355328) :
    StepTo P K o st (· = st.new rest (fun i => .own i e te.size (appC ct src)) o.dst (.own st.nid)) := by
  intro X S ν a w Q K' hd sat hk
  obtain ⟨takes, xs, d1, d2, d3, d4, d5, d6⟩ := dest_ok sat hs hd1
  have hsz := (hT.get he).1.pos
  obtain ⟨A, c', news, e1, e2, e3, e4, e5, e6, e7, e8⟩ := srcOf_ok sat d6 hsz hv hsrc
  have hle : ct.n + src.n ≤ (ct.n + src.n) * te.bytes := Nat.le_mul_of_pos_right _ hby
  exact wp_apps (w0 := w) s x t e te.size te.bytes (call_args ho hc hx ht) (slTy hT hu he) 0 ct.n (a.eval s) xs A src.n c' news rfl e1 e4 d4 (Below.refl _ _) (Nat.zero_le _) e5 (fun h => let ⟨b, off, h1, _, h2⟩ := e7 h; ⟨b, off, h1, h2⟩) e6 e2 hlim (by omega)
    fun v' w' ha => app_step hd sat d1 d2 d3 rfl rfl d4.1 d5 e8 ha hk

theorem strC_rows (s : ByteArray) : ∀ i j, i < (strC s).n → j < 1 → ∃ u, (bytesV s.data.toList)[i * 1 + j]? = some u ∧ ((strC s).cell i j).rel w S u := by
  intro i j hi hj
  have hi' : i < s.data.toList.length := hi
  obtain rfl : j = 0 := by omega
  refine ⟨.int .u8 (s.data.toList[i]).toNat, by rw [Nat.mul_one, Nat.add_zero, bytesV, List.getElem?_map, List.getElem?_eq_getElem hi']; rfl, ?_⟩
  have : s.data.toList.getD i 0 = s.data.toList[i] := by rw [List.getD_eq_getElem?_getD, List.getElem?_eq_getElem hi']; rfl
  show _ = _ ∧ _
  rw [this]; exact ⟨rfl, rfl⟩

theorem m_appstr (hT : T.Ok P) {c : Call} {s x : Operand} {t u e zi : Nat} {z4 : Bool} {vd : AV} {ct : Ct} {str : ByteArray} {rest : List Chunk} (ho : o.op = .call c) (hc : c.callee = .builtin .append) (hx : c.args.toList = [s, x]) (ht : c.argTypes.toList = [t, u])
    (hu : P.underlying t = some (.slice e)) (hus : P.underlying u = some .string) (he : tlook T e = some ⟨zi, .int .u8, 1, 1, [.int .u8 0], z4⟩) (hs : aop st s = some vd) (hd1 : Dest K 1 e st vd ct rest) (hv : aop st x = some (.o (.c (.string str)))) (hlim : ct.n + str.size ≤ 140737488355328) :
    StepTo P K o st (· = st.new rest (fun i => .own i e 1 (appC ct (strC str))) o.dst (.own st.nid)) := by
  intro X S ν a w Q K' hd sat hk
  obtain ⟨takes, xs, d1, d2, d3, d4, d5, d6⟩ := dest_ok sat hs hd1
  have hx1 : a.eval x = .string str := (aop_ok sat hv).1.1
  have hz0 : ∀ i, P.info? e = some i → i.zero = some (.int .u8 0) := by
    intro i hi
    obtain ⟨i', z, f1, f2, f3, f4, f5, f6, f7, f8, f9⟩ := (hT.get he).1.info
    rw [(hT.get he).2, hi] at f1
    cases f1
    rw [f4]
    have f5 : z.cells.toList = [.int .u8 0] := f5
    have hag : z4 = false := by
      cases z4
      · rfl
      · obtain ⟨dd, g1, g2, g3⟩ := (hT.get he).1.und
        have g2 : dd = .int .u8 := g2
        subst g2
        cases g3
    have f8 := f8 hag
    rw [one_cells f8] at f5
    simpa using f5
  exact wp_appstr (w0 := w) s x t u e (call_args ho hc hx ht) (slTy hT hu he) hus hz0 0 ct.n (a.eval s) xs str rfl hx1 d4 (Below.refl _ _) (Nat.zero_le _) hlim
    fun v' w' ha => app_step (src := strC str) hd sat d1 d2 d3 rfl rfl d4.1 d5 (strC_rows str) ha hk

theorem fr_grown {B : Nat → Prop} {w w' : World} (h : w.grownBy w' none) : Fr B w w' := ⟨h.os, h.tape, h.output, h.size, fun k hk _ => h.block k hk (by simp)⟩

theorem m_make0 (hT : T.Ok P) {t e : Nat} {te : TI} {k : IntKind} {c : Operand} {n : Int} (ho : o.op = .makeSlice t (.const (.int k 0)) c) (hu : P.underlying t = some (.slice e)) (he : tlook T e = some te) {k' : IntKind} (hc : aop st c = some (.o (.c (.int k' n)))) (hn : 0 ≤ n ∧ te.bytes * n ≤ 281474976710656 ∧ n ≤ 9223372036854775807) :
    StepTo P K o st (· = st.new st.hp (fun i => .own i e te.size nilC) o.dst (.own st.nid)) := by
  intro X S ν a w Q K' hd sat hk
  obtain ⟨hn0, hn1, hn2⟩ := hn
  obtain ⟨n, rfl⟩ := Int.eq_ofNat_of_zero_le hn0
  obtain ⟨i, z, e1, e2, e3, e4, e5, _, e6, _⟩ := (hT.get he).1.info
  rw [(hT.get he).2] at e1
  have hn3 : te.bytes * n ≤ 281474976710656 := by
    have : ((te.bytes * n : Nat) : Int) ≤ 281474976710656 := by rw [Int.natCast_mul]; exact hn1
    omega
  obtain ⟨w', r1, r2, r3⟩ := run_make_own (P := P) w 0 t e i z te.size hu e1 e4 e2 k k' n (by rw [e3]; exact hn3) (by unfold maxLen; omega) (Nat.zero_le _)
  have hc1 : a.eval c = .int k' n := (aop_ok sat hc).1.1
  refine wp_value (w' := w') ?_ (own_step (takes := []) (rest := st.hp) (ct := nilC) hd sat (.refl _) (fun ch hc => (nomatch hc)) (fr_grown r3) r2 rfl (fun b hb => .inr (by cases hb; exact Nat.le_refl _)) (fun i j hi => by simp [nilC] at hi) hk)
  unfold execOp
  rw [ho]
  have hz : a.eval (.const (.int k 0)) = .int k 0 := rfl
  simp only [hz, hc1, Sem.run_bind, r1, Result.andThen_ok, Sem.run_pure]

theorem m_make (hT : T.Ok P) {t e : Nat} {te : TI} {k k' : IntKind} {l c : Operand} {m n : Int} (ho : o.op = .makeSlice t l c) (hu : P.underlying t = some (.slice e)) (he : tlook T e = some te) (hl : aop st l = some (.o (.c (.int k m)))) (hc : aop st c = some (.o (.c (.int k' n)))) (hmn : m = n) (hn : 0 ≤ n ∧ te.bytes * n ≤ 281474976710656 ∧ n ≤ 9223372036854775807) :
    StepTo P K o st (· = st.new st.hp (fun i => .own i e te.size (zeroC n.toNat te.zero)) o.dst (.own st.nid)) := by
  intro X S ν a w Q K' hd sat hk
  subst hmn
  obtain ⟨hn0, hn1, hn2⟩ := hn
  obtain ⟨n, rfl⟩ := Int.eq_ofNat_of_zero_le hn0
  obtain ⟨i, z, e1, e2, e3, e4, e5, e7, e6, _⟩ := (hT.get he).1.info
  rw [(hT.get he).2] at e1
  have hn3 : te.bytes * n ≤ 281474976710656 := by
    have : ((te.bytes * n : Nat) : Int) ≤ 281474976710656 := by rw [Int.natCast_mul]; exact hn1
    omega
  obtain ⟨w', r1, r2, r3⟩ := run_make_full (P := P) w 0 t e i z te.size hu e1 e4 e2 k k' n (by rw [e3]; exact hn3) (by unfold maxLen; omega) (Nat.zero_le _)
  have hc1 : a.eval c = .int k' n := (aop_ok sat hc).1.1
  have hl1 : a.eval l = .int k n := (aop_ok sat hl).1.1
  have hzs : z.cells.size = te.size := by rw [← Array.length_toList, e5, e6]
  refine wp_value (w' := w') ?_ (own_step (takes := []) (rest := st.hp) (ct := zeroC n te.zero) hd sat (.refl _) (fun ch hc => (nomatch hc)) (fr_grown r3) r2 rfl (fun b hb => .inr (by cases hb; exact Nat.le_refl _)) (fun i j hi hj => ?_) hk)
  · unfold execOp
    rw [ho]
    simp only [hl1, hc1, Sem.run_bind, r1, Result.andThen_ok, Sem.run_pure]
  · have hi : i < n := hi
    have hlt : i * te.size + j < n * te.size := by
      have : (i + 1) * te.size ≤ n * te.size := Nat.mul_le_mul_right _ hi
      rw [Nat.add_mul, Nat.one_mul] at this; omega
    have e8 : (i * te.size + j) % te.size = j := by rw [Nat.mul_comm, Nat.mul_add_mod, Nat.mod_eq_of_lt hj]
    have hzl : j < te.zero.length := by rw [e6]; exact hj
    have hall : All2 (DC.rel w' S) (te.zero.map DC.c) te.zero := by
      have : ∀ (l : List Value), (∀ v ∈ l, v.oneCell' = true) → All2 (DC.rel w' S) (l.map DC.c) l := by
        intro l; induction l with
        | nil => intro _; exact trivial
        | cons v l ih => intro h; exact ⟨⟨rfl, h v (List.mem_cons_self ..)⟩, ih fun u hu => h u (List.mem_cons_of_mem _ hu)⟩
      exact this _ e7
    obtain ⟨u, u1, u2⟩ := nthD_ok hall (j := j) (by simpa using hzl)
    refine ⟨u, ?_, u2⟩
    have hz2 : z.cells[j]! = u := by
      have : z.cells[j]? = some u := by rw [← Array.getElem?_toList, e5]; exact u1
      rw [getElem!_def, this]
    simp [madeCells, hlt, hzs, e8, hz2]

theorem m_str_bytes (hT : T.Ok P) {src dst e zi z1 z2 : Nat} {z3 : List Value} {z4 : Bool} {x : Operand} {s : ByteArray} (ho : o.op = .convert src dst x) (hs : P.underlying src = some .string) (hdt : P.underlying dst = some (.slice e)) (he : tlook T e = some ⟨zi, .int .u8, z1, z2, z3, z4⟩)
    (hx : aop st x = some (.o (.c (.string s)))) (hlim : s.size ≤ 140737488355328) : StepTo P K o st (· = st.put o.dst (.o (.ro 1 s.size (fun i _ => .c (.int .u8 (s.data.toList.getD i 0).toNat))))) := by
  intro X S ν a w Q K' hd sat hk
  have hx1 : a.eval x = .string s := (aop_ok sat hx).1.1
  have hr := Lib.run_convert_string_bytes (P := P) w src dst e s hs hdt (und_int hT he)
  have hf : Fr (fun b => b ∈ blks ν []) w (Lib.bytesWorld w e s) := ⟨rfl, rfl, rfl, by rw [Lib.bytesWorld_size]; omega, fun k hk _ => Lib.bytesWorld_at_old w e s k hk⟩
  obtain ⟨s1, s2⟩ := swap_kp (S' := fun b => S b ∨ b = w.heap.size) (ν' := ν) (takes := []) (gives := []) (rest := st.hp) (nid := st.nid) (K := K) (w' := Lib.bytesWorld w e s) (o := o) (av := .o (.ro 1 s.size (fun i _ => .c (.int .u8 (s.data.toList.getD i 0).toNat)))) (u := .slice (some ⟨w.heap.size, 0, none⟩) s.size (grownCap w s.size 0 e)) hd sat (.refl _) (fun ch hc => (nomatch hc)) hf (fun _ _ => rfl)
    (fun b h => .inl h) (fun b hb => by
      rw [Lib.bytesWorld_size]
      rcases hb with hb | rfl
      · exact ⟨by have := (sat.imm b hb).1; omega, .inl hb⟩
      · exact ⟨by omega, .inr (.inl (Nat.le_refl _))⟩)
    (fun ch hc => (nomatch hc)) (by simp [blks]) (fun b hb => by simp [blks] at hb) (fun ch hc => (nomatch hc)) (Nat.le_refl _)
    (by
      refine ⟨some ⟨w.heap.size, 0, none⟩, _, rfl, grownCap_ge w s.size 0 e, grownCap_le_maxLen w s.size 0 e (by unfold maxLen; omega), (fun h => by cases h), fun _ => ⟨w.heap.size, 0, rfl, .inr rfl, by rw [Lib.bytesWorld_size]; omega, fun i j hi hj => ?_⟩⟩
      obtain rfl : j = 0 := by omega
      refine ⟨_, ?_, rfl, rfl⟩
      have := Lib.bytesWorld_cell w e s i hi
      simpa using this) trivial
  refine wp_value (w' := Lib.bytesWorld w e s) ?_ (hk _ _ _ _ _ rfl s1 s2)
  unfold execOp
  rw [ho]
  simp only [hx1, Sem.run_bind, hr, Result.andThen_ok, Sem.run_pure]

theorem ctBytes_get {n : Nat} {cell : Nat → Nat → DC} {i : Nat} (hi : i < n) : (ctBytes n cell)[i]? = some (dcByte (cell i 0)) := by
  simp [ctBytes, hi]
theorem m_bytes_str (hT : T.Ok P) {src dst e zi z1 z2 : Nat} {z3 : List Value} {z4 : Bool} {x : Operand} {v : AV} {ct : Ct} (ho : o.op = .convert src dst x) (hs : P.underlying src = some (.slice e)) (hdt : P.underlying dst = some .string) (he : tlook T e = some ⟨zi, .int .u8, z1, z2, z3, z4⟩)
    (hx : aop st x = some v) (hsrc : srcOf st.hp 1 v = some ct) (hb : ∀ i, i < ct.n → ∃ b : UInt8, ct.cell i 0 = .c (.int .u8 b.toNat)) : StepTo P K o st (· = st.put o.dst (.o (.c (.string ⟨(ctBytes ct.n ct.cell).toArray⟩)))) := by
  intro X S ν a w Q K' hd sat hk
  obtain ⟨A, c, news, e1, e2, e3, e4, e5, e6, e7, e8⟩ := srcOf_ok sat (fun _ h => h) (by decide) hx hsrc
  have hlen : (ctBytes ct.n ct.cell).length = ct.n := by simp [ctBytes]
  have hrun : (convert src dst (a.eval x)).run P w = .ok (.string ⟨(ctBytes ct.n ct.cell).toArray⟩) w := by
    rw [e1]
    refine conv_str (S := fun _ => True) hs (und_int hT he) hdt ⟨hlen.symm, fun hn => ?_⟩
    obtain ⟨b, off, rfl, hlt, hc⟩ := e7 hn
    refine ⟨b, off, rfl, trivial, hlt, fun i hi => ?_⟩
    have hi' : i < ct.n := by rw [← hlen]; exact hi
    obtain ⟨u, u1, u2⟩ := e8 i 0 hi' (by decide)
    obtain ⟨bb, hbb⟩ := hb i hi'
    have hg : (ctBytes ct.n ct.cell)[i] = bb := by
      have := ctBytes_get (cell := ct.cell) hi'
      rw [hbb, List.getElem?_eq_getElem hi] at this
      have := Option.some.inj this
      rw [this]
      simp [dcByte]
    rw [hbb] at u2
    refine ⟨[u], by rw [hg]; exact congrArg (fun z => [z]) u2.1, fun j v hv => ?_⟩
    have hj : j = 0 := by
      have := (List.getElem?_eq_some_iff.1 hv).1
      simpa using this
    subst hj
    cases hv
    have := hc (i * 1 + 0) u u1
    simpa [u8, El.one] using this
  have hsat : Sat X S ν (st.put o.dst (.o (.c (.string ⟨(ctBytes ct.n ct.cell).toArray⟩)))) (a.put o.dst (.string ⟨(ctBytes ct.n ct.cell).toArray⟩)) w := sat.put hd ⟨rfl, rfl⟩ trivial
  refine wp_value (w' := w) ?_ (hk _ S ν _ w rfl hsat ⟨Nat.le_refl _, fun _ h => h, fun ch hc _ => ⟨by rw [(AS.put_hp _ _ _).1]; exact hc, rfl⟩, fun _ _ => rfl⟩)
  unfold execOp
  rw [ho]
  simp only [Sem.run_bind, hrun, Result.andThen_ok, Sem.run_pure]
end
end Go.Proofs.Ytfcihdkflnpcgaa.Am
