/- The abstract machine: parts of slices of the call's own, written in place. No program is named. -/
import Derived.Test.YtfcihdkflnpcgaaAmD
import Derived.Lib.AppendZerosOnto
import Derived.Lib.AppendZeros
import Derived.Laws.CopyRow
namespace Go.Proofs.Ytfcihdkflnpcgaa.Am
open Go.RowKit Lw
section
variable {P : Program} {T : Tys} {X : Cx} {S : Nat → Prop} {ν : Nat → Value} {st : AS} {a : Act} {w w' : World} {o : Oper} {av : AV} {ps : List Prop} {K Kf : Nat → Bool}
attribute [local irreducible] maxLen

/-- Rows from p on are those of src. -/
def setRngC (ct : Ct) (p : Nat) (src : Ct) : Ct := ⟨max ct.n (p + src.n), fun i j => if p ≤ i ∧ i < p + src.n then src.cell (i - p) j else ct.cell i j⟩
def anyC (n : Nat) : Ct := ⟨n, fun _ _ => .any⟩
def partC (c : Ct) (p n : Nat) : Ct := ⟨n, fun i j => c.cell (p + i) j⟩
def headC (c : Ct) (n : Nat) : Ct := ⟨n, c.cell⟩
theorem setRngC_n (c : Ct) (p : Nat) (s : Ct) : (setRngC c p s).n = max c.n (p + s.n) := rfl
theorem anyC_n (n : Nat) : (anyC n).n = n := rfl
theorem partC_n (c : Ct) (p n : Nat) : (partC c p n).n = n := rfl
theorem headC_n (c : Ct) (n : Nat) : (headC c n).n = n := rfl

theorem splice_get {α : Type} {l vs : List α} {o : Nat} (h : o + vs.length ≤ l.length) (k : Nat) : (l.take o ++ vs ++ l.drop (o + vs.length))[k]? = if o ≤ k ∧ k < o + vs.length then vs[k - o]? else l[k]? := by
  have h1 : (l.take o).length = o := by rw [List.length_take]; omega
  by_cases c1 : k < o
  · rw [if_neg (by omega), List.append_assoc, List.getElem?_append_left (by omega), List.getElem?_take, if_pos c1]
  · by_cases c2 : k < o + vs.length
    · rw [if_pos (by omega), List.append_assoc, List.getElem?_append_right (by omega), h1, List.getElem?_append_left (by omega)]
    · rw [if_neg (by omega), List.getElem?_append_right (by rw [List.length_append]; omega), List.length_append, h1, List.getElem?_drop]
      congr 1; omega
theorem splice_length {α : Type} {l vs : List α} {o : Nat} (h : o + vs.length ≤ l.length) : (l.take o ++ vs ++ l.drop (o + vs.length)).length = l.length := by
  simp only [List.length_append, List.length_take, List.length_drop]; omega

theorem own_at {E sz n N c g : Nat} {v : Value} {xs : List Value} (h : w.ownsRow 0 E sz v n xs) (hv : v = .slice (some ⟨g, 0, none⟩) N c) : N = n ∧ ∃ cur : Array Value, w.heap[g]? = some (.cells cur E (0, 0)) ∧ n ≤ c ∧ c ≤ maxLen ∧ cur.size = c * sz ∧ cur.toList.take (n * sz) = xs ∧ xs.length = n * sz := by
  subst hv
  obtain ⟨hl, hor⟩ := h
  rcases hor with ⟨e, _⟩ | ⟨g', cap', cur, e, _, hg, hnc, hcm, hcs, htake⟩
  · cases e
  injection e with e4 e2 e3
  injection e4 with e4
  injection e4 with e4
  subst e4; subst e3
  exact ⟨e2, cur, hg, hnc, hcm, hcs, htake, hl⟩

def viewA (id j : Nat) : A1 → A1
  | .vw i sz off n k => match Nat.beq i id with
    | true => .vw j sz off n k
    | false => .vw i sz off n k
  | .optr i sz k off => match Nat.beq i id with
    | true => .optr j sz k off
    | false => .optr i sz k off
  | a => a
def viewL (id j : Nat) : List A1 → List A1
  | [] => []
  | a :: as => viewA id j a :: viewL id j as
def viewV (id j : Nat) : AV → AV
  | .o a => .o (viewA id j a)
  | .g as => .g (viewL id j as)
  | v => v
def viewE (id j : Nat) : Env → Env
  | [] => []
  | (t, v) :: e => (t, viewV id j v) :: viewE id j e
theorem viewA_rel {id j g N M C : Nat} (h1 : ν id = .slice (some ⟨g, 0, none⟩) N C) (h2 : ν j = .slice (some ⟨g, 0, none⟩) M C) {a : A1} {u : Value} (h : a.rel w S ν u) : (viewA id j a).rel w S ν u := by
  unfold viewA
  split
  · split
    · rename_i hi
      have hi := Nat.eq_of_beq_eq_true hi
      subst hi
      obtain ⟨g', N', q, o, e1, e2, e3, e4, e5⟩ := h
      rw [h1] at e1
      cases e1
      exact ⟨g, M, C, o, h2, e2, e3, e4, e5⟩
    · exact h
  · split
    · rename_i hi
      have hi := Nat.eq_of_beq_eq_true hi
      subst hi
      obtain ⟨g', N', q, e1, e2⟩ := h
      rw [h1] at e1
      cases e1
      exact ⟨g, M, C, h2, e2⟩
    · exact h
  · exact h
theorem viewA_lt {id j m : Nat} (hj : j < m) {a : A1} (h : a.lt m) : (viewA id j a).lt m := by
  unfold viewA
  split
  · split
    · exact hj
    · exact h
  · split
    · exact hj
    · exact h
  · exact h
theorem viewL_rel {id j g N M C : Nat} (h1 : ν id = .slice (some ⟨g, 0, none⟩) N C) (h2 : ν j = .slice (some ⟨g, 0, none⟩) M C) : ∀ {as : List A1} {us : List Value}, All2 (A1.rel w S ν) as us → All2 (A1.rel w S ν) (viewL id j as) us
  | [], [], _ => trivial
  | _ :: _, _ :: _, ⟨a1, a2⟩ => ⟨viewA_rel h1 h2 a1, viewL_rel h1 h2 a2⟩
  | [], _ :: _, h => h.elim
  | _ :: _, [], h => h.elim
theorem viewL_lt {id j m : Nat} (hj : j < m) : ∀ {as : List A1}, (∀ a ∈ as, a.lt m) → ∀ a ∈ viewL id j as, a.lt m
  | _ :: _, h, x, hx => by
    rcases List.mem_cons.1 hx with rfl | hx
    · exact viewA_lt hj (h _ (List.mem_cons_self ..))
    · exact viewL_lt hj (fun a ha => h a (List.mem_cons_of_mem _ ha)) x hx
theorem viewV_rel {id j g N M C : Nat} (h1 : ν id = .slice (some ⟨g, 0, none⟩) N C) (h2 : ν j = .slice (some ⟨g, 0, none⟩) M C) {v : AV} {u : Value} (h : v.rel w S ν u) : (viewV id j v).rel w S ν u := by
  cases v with
  | o a => exact viewA_rel (w := w) (S := S) h1 h2 h
  | g as => obtain ⟨us, e, r⟩ := h; exact ⟨us, e, viewL_rel h1 h2 r⟩
  | t xs => exact h
theorem viewV_lt {id j m : Nat} (hj : j < m) {v : AV} (h : v.lt m) : (viewV id j v).lt m := by
  cases v with
  | o a => exact viewA_lt hj h
  | g as => exact viewL_lt hj h
  | t xs => exact h
theorem viewE_mem {id j : Nat} : ∀ {e : Env} {p : Nat × AV}, p ∈ viewE id j e → ∃ v, (p.1, v) ∈ e ∧ p.2 = viewV id j v
  | (t, v) :: e, p, h => by
    rcases List.mem_cons.1 h with rfl | h
    · exact ⟨v, List.mem_cons_self .., rfl⟩
    · obtain ⟨v, h1, h2⟩ := viewE_mem h
      exact ⟨v, List.mem_cons_of_mem _ h1, h2⟩
theorem Sat.reenv {e e' : Env} {hp : List Chunk} {n : Nat} (h : Sat X S ν ⟨e, hp, n⟩ a w) (he : ∀ p ∈ e', ∃ v, (p.1, v) ∈ e ∧ (∀ u, v.rel w S ν u → p.2.rel w S ν u) ∧ (v.lt n → p.2.lt n)) : Sat X S ν ⟨e', hp, n⟩ a w :=
  ⟨h.defers, h.size, fun p hp => let ⟨v, h1, h2, _⟩ := he p hp; ⟨(h.env _ h1).1, h2 _ (h.env _ h1).2⟩, h.hp, h.nd, h.blk, h.imm, h.imm0, h.frame, fun p hp => let ⟨_, h1, _, h3⟩ := he p hp; h3 (h.elt _ h1), h.hlt, h.fix, h.ge⟩

/-- Rows are written into a slice of the call's own. -/
theorem write_step {id E sz g N C p : Nat} {ct src : Ct} {rest : List Chunk} {vs : List Value} {u : Value} {x : A1} (hd : ∀ d, o.dst = some d → d < X.N) (sat : Sat X S ν st a w) (htk : takeOwn (fun i => !K i) st.hp id = some (E, sz, ct, rest))
    (hν : ν id = .slice (some ⟨g, 0, none⟩) N C) (hlen : vs.length = src.n * sz) (hp1 : p ≤ ct.n) (hin : p + src.n ≤ C) (hrows : ∀ i j, i < src.n → j < sz → ∃ u, vs[i * sz + j]? = some u ∧ (src.cell i j).rel w S u) (hl : x.lt (st.nid + 1)) (hv : ∀ w' ν', ν' st.nid = .slice (some ⟨g, 0, none⟩) (max ct.n (p + src.n)) C → x.rel w' S ν' u) :
    ∃ cur : Array Value, w.heap[g]? = some (.cells cur E (0, 0)) ∧ p * sz + vs.length ≤ cur.size ∧ (∀ v ∈ vs, v.oneCell' = true) ∧ ∀ {K' : Act → World → Prop}, (∀ st' S' ν' a' w', st' = (AS.mk (viewE id st.nid st.env) (.own st.nid E sz (setRngC ct p src) :: rest) (st.nid + 1)).put o.dst (.o x) → Sat X S' ν' st' a' w' → Kp K S S' ν ν' st st' w w' → K' a' w') →
      K' (a.put o.dst u) (w.setRow g (cur.toList.take (p * sz) ++ vs ++ cur.toList.drop (p * sz + vs.length)).toArray) := by
  obtain ⟨hp, hK⟩ := takeOwn_perm htk
  have hm : Chunk.own id E sz ct ∈ st.hp := hp.symm.subset (List.mem_cons_self ..)
  obtain ⟨xs, h1, h2⟩ := sat.hp _ hm
  have hlt := sat.hlt _ hm
  obtain ⟨hN, cur, hg, hnc, hcm, hcs, htake, hxl⟩ := own_at h1 hν
  have hb0 : p * sz + src.n * sz ≤ C * sz := by rw [← Nat.add_mul]; exact Nat.mul_le_mul_right _ hin
  have hb1 : ct.n * sz ≤ C * sz := Nat.mul_le_mul_right _ hnc
  have hone : ∀ v ∈ vs, v.oneCell' = true := rows_one hlen hrows
  refine ⟨cur, hg, by omega, hone, fun {K'} hk => ?_⟩
  have hbk : (Chunk.own id E sz ct).blk ν = some g := by simp [Chunk.blk, hν, Value.ownBlock]
  have hblk : blks ν [Chunk.own id E sz ct] = [g] := by simp [blks, hbk]
  have hbs := sat.blk g (mem_blks.2 ⟨_, hm, hbk⟩)
  have hroom : p * sz + vs.length ≤ cur.toList.length := by rw [Array.length_toList (xs := cur)]; omega
  obtain ⟨L, hL⟩ : ∃ L, L = cur.toList.take (p * sz) ++ vs ++ cur.toList.drop (p * sz + vs.length) := ⟨_, rfl⟩
  have hLl : L.length = cur.size := by rw [hL, splice_length hroom, Array.length_toList]
  have hLg : ∀ k, L[k]? = if p * sz ≤ k ∧ k < p * sz + vs.length then vs[k - p * sz]? else cur.toList[k]? := fun k => by rw [hL]; exact splice_get hroom k
  rw [← hL]
  have gr : Gr w (w.setRow g L.toArray) S S := ⟨by rw [size_setRow]; exact Nat.le_refl _, fun k hs _ => setRow_other _ _ _ _ fun e => hbs.2.1 (by rw [← e]; exact hs), fun _ h => h⟩
  obtain ⟨M, hM⟩ : ∃ M, M = max ct.n (p + src.n) := ⟨_, rfl⟩
  obtain ⟨ν', hν'⟩ : ∃ ν', ν' = upd ν st.nid (.slice (some ⟨g, 0, none⟩) M C) := ⟨_, rfl⟩
  have hνs : ν' st.nid = .slice (some ⟨g, 0, none⟩) M C := by rw [hν']; exact upd_same _ _ _
  have hνl : ∀ i, i < st.nid → ν' i = ν i := fun i hi => by rw [hν']; exact upd_lt i hi
  have hMn : M * sz ≤ C * sz := Nat.mul_le_mul_right _ (by omega)
  have hper := hp
  have hK' : ∀ ch ∈ [Chunk.own id E sz ct], K ch.id = false := fun ch hc => by rw [List.mem_singleton.1 hc]; show K id = false; simpa using hK
  have hfr : Fr (fun b => b ∈ blks ν [Chunk.own id E sz ct]) w (w.setRow g L.toArray) := ⟨rfl, rfl, rfl, by rw [size_setRow]; exact Nat.le_refl _, fun k hk hn => setRow_other _ _ _ _ fun e => hn (by rw [hblk, e]; simp)⟩
  have hS' : ∀ k, S k → k < (w.setRow g L.toArray).heap.size ∧ (S k ∨ w.heap.size ≤ k ∨ k ∈ blks ν [Chunk.own id E sz ct]) := fun k hs => ⟨by rw [size_setRow]; exact (sat.imm k hs).1, .inl hs⟩
  have hgv : ∀ ch ∈ [Chunk.own st.nid E sz (setRngC ct p src)], ch.holds (w.setRow g L.toArray) S ν' := fun ch hc => by
    rw [List.mem_singleton.1 hc]
    refine ⟨L.take (M * sz), ⟨?_, .inr ⟨g, C, L.toArray, by rw [hνs, hM]; rfl, Nat.zero_le _, setRow_heap w g cur _ E (0, 0) hg, by show max ct.n (p + src.n) ≤ C; omega, hcm, ?_, by rw [hM]; rfl⟩⟩, fun i j hi hj => ?_⟩
    · rw [List.length_take, hLl, hcs]; show _ = max ct.n (p + src.n) * sz; rw [← hM]; omega
    · rw [List.size_toArray, hLl, hcs]
    · have hi : i < max ct.n (p + src.n) := hi
      rw [← hM] at hi
      have hb1 : (i + 1) * sz ≤ M * sz := Nat.mul_le_mul_right _ hi
      rw [Nat.add_mul, Nat.one_mul] at hb1
      rw [List.getElem?_take, if_pos (by omega), hLg]
      simp only [setRngC]
      by_cases hc1 : p ≤ i ∧ i < p + src.n
      · have hm1 : p * sz ≤ i * sz := Nat.mul_le_mul_right _ hc1.1
        have hm2 : (i + 1) * sz ≤ (p + src.n) * sz := Nat.mul_le_mul_right _ hc1.2
        rw [Nat.add_mul, Nat.add_mul, Nat.one_mul] at hm2
        rw [if_pos (c := p ≤ i ∧ i < p + src.n) hc1, if_pos (by omega)]
        obtain ⟨u, u1, u2⟩ := hrows (i - p) j (by omega) hj
        refine ⟨u, ?_, DC.mono gr u2⟩
        rw [← u1]; congr 1; rw [Nat.sub_mul]; omega
      · rw [if_neg (c := p ≤ i ∧ i < p + src.n) hc1, if_neg ?_]
        · have hi2 : i < ct.n := by omega
          have hb2 : (i + 1) * sz ≤ ct.n * sz := Nat.mul_le_mul_right _ hi2
          rw [Nat.add_mul, Nat.one_mul] at hb2
          obtain ⟨u, u1, u2⟩ := h2 i j hi2 hj
          refine ⟨u, ?_, DC.mono gr u2⟩
          rw [← htake, List.getElem?_take, if_pos (by omega)] at u1; exact u1
        · rintro ⟨c2, c3⟩
          apply hc1
          constructor
          · rcases Nat.lt_or_ge i p with c | c
            · have : (i + 1) * sz ≤ p * sz := Nat.mul_le_mul_right _ c
              rw [Nat.add_mul, Nat.one_mul] at this; omega
            · exact c
          · rcases Nat.lt_or_ge i (p + src.n) with c | c
            · exact c
            · have : (p + src.n) * sz ≤ i * sz := Nat.mul_le_mul_right _ c
              rw [Nat.add_mul] at this; omega
  have hgb : ∀ b ∈ blks ν' [Chunk.own st.nid E sz (setRngC ct p src)], b < (w.setRow g L.toArray).heap.size ∧ ¬ S b ∧ (b ∈ blks ν [Chunk.own id E sz ct] ∨ w.heap.size ≤ b) := fun k hk => by
    have : k = g := by simpa [blks, Chunk.blk, hνs, Value.ownBlock] using hk
    subst this
    exact ⟨by rw [size_setRow]; exact hbs.1, hbs.2.1, .inl (by rw [hblk]; simp)⟩
  have hgn : (blks ν' [Chunk.own st.nid E sz (setRngC ct p src)]).Nodup := by simp [blks, Chunk.blk, hνs, Value.ownBlock]
  have hgl : ∀ ch ∈ [Chunk.own st.nid E sz (setRngC ct p src)], ch.lt (st.nid + 1) := fun ch hc => by rw [List.mem_singleton.1 hc]; exact Nat.lt_succ_self _
  have s1 := sat.swap (nid := st.nid + 1) hper hfr hνl (fun _ h => h) hS' hgv hgn hgb hgl (Nat.le_succ _)
  obtain ⟨_, s2⟩ := swap_kp (o := o) (av := .o (.sb true)) (u := .bool true) (nid := st.nid + 1) (K := K) hd sat hper hK' hfr hνl (fun _ h => h) hS' hgv hgn hgb hgl (Nat.le_succ _) rfl trivial
  have hν0 : ν' id = .slice (some ⟨g, 0, none⟩) N C := by rw [hνl id hlt]; exact hν
  have s3 := s1.reenv (e' := viewE id st.nid st.env) fun p hp => by
    obtain ⟨v, h1, h2⟩ := viewE_mem hp
    exact ⟨v, h1, fun u hu => by rw [h2]; exact viewV_rel hν0 hνs hu, fun hl => by rw [h2]; exact viewV_lt (Nat.lt_succ_self _) hl⟩
  refine hk _ S ν' _ _ rfl (s3.put hd (hv _ _ (by rw [hνs, hM])) hl) ⟨s2.size, s2.sub, fun ch hc hkk => ?_, s2.blk⟩
  have := s2.hp ch hc hkk
  rw [(AS.put_hp _ _ _).1] at this ⊢
  exact this

theorem src_vw {id E sz off n k : Nat} {ct : Ct} {v : Value} {xs : List Value} (h : w.ownsRow 0 E sz (ν id) ct.n xs) (hr : ∀ i j, i < ct.n → j < sz → ∃ u, xs[i * sz + j]? = some u ∧ (ct.cell i j).rel w S u) (hv : (A1.vw id sz off n k).rel w S ν v) (hin : off + n ≤ ct.n) : Src w S sz ⟨n, fun i j => ct.cell (off + i) j⟩ v := by
  obtain ⟨g, N, q, o, e1, rfl, h1, h2, h3⟩ := hv
  rw [e1] at h
  obtain ⟨hl, hor⟩ := h
  rcases hor with ⟨e, _⟩ | ⟨g', cap', cur, e, _, hg, hnc, hcm, hcs, htake⟩
  · cases e
  injection e with e4 e2 e3
  injection e4 with e4
  injection e4 with e4
  subst e4; subst e3
  have e2 : N = ct.n := e2
  subst e2
  have hb1 : off * sz + n * sz ≤ ct.n * sz := by rw [← Nat.add_mul]; exact Nat.mul_le_mul_right _ (by omega)
  have hnl : ((xs.drop (off * sz)).take (n * sz)).length = n * sz := by rw [List.length_take, List.length_drop]; omega
  have hget : ∀ j u, ((xs.drop (off * sz)).take (n * sz))[j]? = some u → xs[off * sz + j]? = some u := fun j u hu => by
    rw [List.getElem?_take] at hu
    split at hu
    · rwa [List.getElem?_drop] at hu
    · cases hu
  have hcell : ∀ j u, xs[j]? = some u → w.cell? ⟨g, j, none⟩ = some u := fun j u hu => by
    have hg' : w.heap[g]? = some (.cells cur.toList.toArray E (0, 0)) := by simpa using hg
    have hj := (List.getElem?_eq_some_iff.1 hu).1
    rw [← htake, List.getElem?_take, if_pos (by omega)] at hu
    exact row_at hg' hu
  have hrr : ∀ i j, i < n → j < sz → ∃ u, ((xs.drop (off * sz)).take (n * sz))[i * sz + j]? = some u ∧ (ct.cell (off + i) j).rel w S u := fun i j hi hj => by
    obtain ⟨u, u1, u2⟩ := hr (off + i) j (by omega) hj
    have hb2 : (i + 1) * sz ≤ n * sz := Nat.mul_le_mul_right _ hi
    rw [Nat.add_mul, Nat.one_mul] at hb2
    refine ⟨u, ?_, u2⟩
    rw [List.getElem?_take, if_pos (by omega), List.getElem?_drop, ← u1]
    congr 1
    rw [Nat.add_mul]; omega
  refine ⟨some ⟨g, o, none⟩, k, (xs.drop (off * sz)).take (n * sz), rfl, h1, (by have := hcm; omega), (fun e => nomatch e), hnl, rows_one hnl hrr, (fun hn => ⟨g, o, rfl, ?_, fun j u hu => ?_⟩), hrr⟩
  · exact (Array.getElem?_eq_some_iff.1 hg).1
  · rw [h3 (by have hn : 0 < n := hn; omega)]
    exact hcell _ _ (hget j u hu)

/-- A part of a slice of the call's own as the destination of a write: where it lies. -/
theorem vw_at {id sz off n k : Nat} {u : Value} (h : (A1.vw id sz off n k).rel w S ν u) : ∃ g N q o, ν id = .slice (some ⟨g, 0, none⟩) N q ∧ u = .slice (some ⟨g, o, none⟩) n k ∧ n ≤ k ∧ off + k = q ∧ (0 < k → o = off * sz) := h

theorem Src.cut {sz k : Nat} {ct : Ct} {v : Value} (h : Src w S sz ct v) (hk : k ≤ ct.n) : ∃ (A : Option Addr) (c : Nat) (news : List Value), v = .slice A ct.n c ∧ (A = none → k = 0) ∧ news.length = k * sz ∧ (∀ b, A = some b → ∀ j u, news[j]? = some u → w.cell? (b.add j) = some u) ∧ ∀ i j, i < k → j < sz → ∃ u, news[i * sz + j]? = some u ∧ (ct.cell i j).rel w S u := by
  obtain ⟨A, c, news, e1, e2, e3, e4, e5, e6, e7, e8⟩ := h
  have hb : k * sz ≤ ct.n * sz := Nat.mul_le_mul_right _ hk
  have hget : ∀ j u, (news.take (k * sz))[j]? = some u → news[j]? = some u ∧ j < k * sz := fun j u hu => by
    rw [List.getElem?_take] at hu
    split at hu
    · exact ⟨hu, by assumption⟩
    · cases hu
  refine ⟨A, c, news.take (k * sz), e1, fun hA => by have := e4 hA; omega, by rw [List.length_take]; omega, fun b hA j u hu => ?_, fun i j hi hj => ?_⟩
  · obtain ⟨h1, h2⟩ := hget j u hu
    have hn : 0 < ct.n := by
      rcases Nat.eq_zero_or_pos k with hz | hz
      · subst hz; omega
      · omega
    obtain ⟨b', off, f1, f2, f3⟩ := e7 hn
    rw [hA] at f1
    cases f1
    have := f3 j u h1
    rwa [show (⟨b', off, none⟩ : Addr).add j = ⟨b', off + j, none⟩ from add_none' ..]
  · have hb2 : (i + 1) * sz ≤ k * sz := Nat.mul_le_mul_right _ hi
    rw [Nat.add_mul, Nat.one_mul] at hb2
    obtain ⟨u, u1, u2⟩ := e8 i j (by omega) hj
    exact ⟨u, by rw [List.getElem?_take, if_pos (by omega)]; exact u1, u2⟩

theorem run_first {size k n c : Nat} {A : Option Addr} {news : List Value} (hA : A = none → k = 0) (hl : news.length = k * size) (h : ∀ b, A = some b → ∀ j u, news[j]? = some u → w.cell? (b.add j) = some u) : (Builtin.firstCells size k (.slice A n c)).run P w = .ok news.toArray w := by
  cases A with
  | none =>
    obtain rfl := hA rfl
    have : news = [] := List.eq_nil_of_length_eq_zero (by omega)
    subst this
    exact run_firstCells_none ..
  | some b => exact run_firstCells_some (P := P) w size k b n c news hl (h b rfl)

theorem sizeOf_run (hT : T.Ok P) {e : TypeId} {te : TI} (he : tlook T e = some te) (w : World) : (sizeOf e).run P w = .ok te.size w := run_sizeOf' hT he w

/-- What a value reads as. -/
def SrcOk (st : AS) (sz : Nat) (v : AV) (src : Ct) : Prop := ∀ (X : Cx) (S : Nat → Prop) (ν : Nat → Value) (a : Act) (w : World) (x : Operand), Sat X S ν st a w → aop st x = some v → Src w S sz src (a.eval x)
def srcX (hp : List Chunk) (sz : Nat) (v : AV) : Option (Ct × List Prop) :=
  match v with
  | .o (.vw id sz' off n _) => match findOwn (fun _ => true) hp id with
    | some (_, sz'', ct) => match Nat.beq sz sz', Nat.beq sz sz'' with
      | true, true => some (partC ct off n, [off + n ≤ ct.n])
      | _, _ => none
    | none => none
  | v => match srcOf hp sz v with
    | some ct => some (ct, [])
    | none => none
theorem srcX_ok {sz : Nat} (hsz : 0 < sz) {v : AV} {src : Ct} (h : srcX st.hp sz v = some (src, ps)) (hps : ∀ p ∈ ps, p) : SrcOk st sz v src := by
  intro X S ν a w x sat hx
  unfold srcX at h
  split at h
  · split at h
    · rename_i hown
      split at h
      · rename_i hs hs2
        cases h
        have hs := Nat.eq_of_beq_eq_true hs
        have hs2 := Nat.eq_of_beq_eq_true hs2
        subst hs; subst hs2
        obtain ⟨xs, o1, o2⟩ := sat.hp _ (findOwn_ok hown).1
        exact src_vw o1 o2 (aop_ok sat hx).1 (hps _ (List.mem_cons_self ..))
      · cases h
    · cases h
  · split at h
    · rename_i hsrc
      cases h
      exact srcOf_ok sat (fun _ h => h) hsz hx hsrc
    · cases h

/-- The first k rows of a value of length m. -/
def CutOk (st : AS) (sz : Nat) (v : AV) (m k : Nat) (src : Ct) : Prop := ∀ (X : Cx) (S : Nat → Prop) (ν : Nat → Value) (a : Act) (w : World) (x : Operand), Sat X S ν st a w → aop st x = some v →
  ∃ (A : Option Addr) (c : Nat) (news : List Value), a.eval x = .slice A m c ∧ (A = none → k = 0) ∧ news.length = k * sz ∧ (∀ b, A = some b → ∀ j u, news[j]? = some u → w.cell? (b.add j) = some u) ∧ ∀ i j, i < k → j < sz → ∃ u, news[i * sz + j]? = some u ∧ (src.cell i j).rel w S u
def cutX (hp : List Chunk) (sz : Nat) (v : AV) (n : Nat) : Option (Nat × Ct × List Prop) :=
  match v with
  | .o (.vw id sz' off m _) => match findOwn (fun _ => true) hp id with
    | some (_, sz'', ct) => match Nat.beq sz sz', Nat.beq sz sz'' with
      | true, true => some (m, partC ct off (min m n), [off + min m n ≤ ct.n])
      | _, _ => none
    | none => none
  | v => match srcOf hp sz v with
    | some ct => some (ct.n, headC ct (min ct.n n), [])
    | none => none
theorem src_vw' {id E sz off n k q : Nat} {ct : Ct} {v : Value} {xs : List Value} (h : w.ownsRow 0 E sz (ν id) ct.n xs) (hr : ∀ i j, i < ct.n → j < sz → ∃ u, xs[i * sz + j]? = some u ∧ (ct.cell i j).rel w S u) (hv : (A1.vw id sz off n k).rel w S ν v) (hq : q ≤ n) (hin : off + q ≤ ct.n) :
    ∃ (A : Option Addr) (c : Nat) (news : List Value), v = .slice A n c ∧ (A = none → q = 0) ∧ news.length = q * sz ∧ (∀ b, A = some b → ∀ j u, news[j]? = some u → w.cell? (b.add j) = some u) ∧ ∀ i j, i < q → j < sz → ∃ u, news[i * sz + j]? = some u ∧ (ct.cell (off + i) j).rel w S u := by
  obtain ⟨g, N, C, o, e1, rfl, h1, h2, h3⟩ := hv
  have hv' : (A1.vw id sz off q k).rel w S ν (.slice (some ⟨g, o, none⟩) q k) := ⟨g, N, C, o, e1, rfl, by omega, h2, h3⟩
  obtain ⟨A, c, news, f1, f2, f3, f4, f5⟩ := (src_vw h hr hv' hin).cut (k := q) (Nat.le_refl _)
  cases f1
  exact ⟨_, _, news, rfl, f2, f3, f4, f5⟩
theorem cutX_ok {sz n m : Nat} (hsz : 0 < sz) {v : AV} {src : Ct} (h : cutX st.hp sz v n = some (m, src, ps)) (hps : ∀ p ∈ ps, p) : CutOk st sz v m (min m n) src ∧ src.n = min m n := by
  unfold cutX at h
  split at h
  · split at h
    · rename_i hown
      split at h
      · rename_i hs hs2
        cases h
        refine ⟨?_, rfl⟩
        intro X S ν a w x sat hx
        have hs := Nat.eq_of_beq_eq_true hs
        have hs2 := Nat.eq_of_beq_eq_true hs2
        subst hs; subst hs2
        obtain ⟨xs, o1, o2⟩ := sat.hp _ (findOwn_ok hown).1
        exact src_vw' o1 o2 (aop_ok sat hx).1 (Nat.min_le_left ..) (hps _ (List.mem_cons_self ..))
      · cases h
    · cases h
  · split at h
    · rename_i hsrc
      cases h
      refine ⟨?_, rfl⟩
      intro X S ν a w x sat hx
      obtain ⟨A, c, news, f1, f2, f3, f4, f5⟩ := (srcOf_ok sat (fun _ h => h) hsz hx hsrc).cut (k := min _ n) (Nat.min_le_left ..)
      exact ⟨A, c, news, f1, f2, f3, f4, f5⟩
    · cases h

/-- A copy. -/
theorem m_copy (hT : T.Ok P) {c : Call} {d s : Operand} {t t' e : Nat} {te : TI} {id sz off n k E : Nat} {vs : AV} {m : Nat} {ct src : Ct} {rest : List Chunk} (ho : o.op = .call c) (hc : c.callee = .builtin .copy) (hx : c.args.toList = [d, s]) (ht : c.argTypes.toList = [t, t'])
    (hu : P.underlying t = some (.slice e)) (he : tlook T e = some te) (hd1 : aop st d = some (.o (.vw id sz off n k))) (hsz : sz = te.size) (htk : takeOwn (fun i => !K i) st.hp id = some (E, sz, ct, rest)) (hs : aop st s = some vs) (hsrc : CutOk st sz vs m (min m n) src) (hsn : src.n = min m n) (hoff : off ≤ ct.n) :
    StepTo P K o st (· = (AS.mk (viewE id st.nid st.env) (.own st.nid E sz (setRngC ct off src) :: rest) (st.nid + 1)).put o.dst (.o (.c (.int .i64 (min m n : Nat))))) := by
  intro X S ν a w Q K' hd sat hk
  obtain ⟨hd2, hd3⟩ := aop_ok sat hd1
  obtain ⟨g, N, C, oo, v1, v2, v3, v4, v5⟩ := vw_at (w := w) (S := S) hd2
  have hpos := (hT.get he).1.pos
  obtain ⟨A, c', news, e1, e2, e3, e4, e5⟩ := hsrc X S ν a w s sat hs
  rw [← hsn] at e5
  obtain ⟨cur, w1, w2, w4, w5⟩ := write_step (K := K) (src := src) (p := off) (vs := news) (x := .c (.int .i64 (min m n : Nat))) (u := .int .i64 (min m n : Nat)) hd sat htk v1 (by rw [hsn]; exact e3) hoff (by rw [hsn]; omega) e5 trivial (fun _ _ _ => ⟨rfl, rfl⟩)
  obtain ⟨cs, ex⟩ := exec_builtin (a := a) ho hc hx (show c.argTypes = #[t, t'] by rw [← Array.toList_inj]; exact ht)
  refine wp_value (w' := w.setRow g (cur.toList.take (off * sz) ++ news ++ cur.toList.drop (off * sz + news.length)).toArray) (u := .int .i64 (min m n : Nat)) ?_ (w5 hk)
  rw [ex]
  simp only [builtin, List.map_cons, List.map_nil, Sem.run_bind, v2, e1]
  have hst : (storeCells (⟨g, oo, none⟩ : Addr) news 0).run P w = .ok () (w.setRow g (cur.toList.take (off * sz) ++ news ++ cur.toList.drop (off * sz + news.length)).toArray) := by
    rcases Nat.eq_zero_or_pos k with hz | hz
    · have hmin : min m n = 0 := by omega
      have : news = [] := List.eq_nil_of_length_eq_zero (by rw [e3, hmin]; simp)
      subst this
      simp only [storeCells, List.append_nil, List.length_nil, Nat.add_zero, List.take_append_drop, Array.toArray_toList]
      rw [setRow_self w g cur E (0, 0) w1]
      rfl
    · rw [v5 hz]
      have := run_storeCells_at P g (off * sz) E news 0 cur w w1 (by simpa using w2) w4
      simpa using this
  have hff := run_first (P := P) (size := te.size) (n := m) (c := c') e2 (by rw [e3, hsz]) e4
  have hsl := sizeOf_run hT he w
  have hff' : (Builtin.firstCells te.size (m.min n) (.slice A m c')).run P w = .ok news.toArray w := hff
  simp [Builtin.copy_, run_underlying hu, Builtin.lenOf, hsl, hff', hst]
  rfl

/-- An append to a part that has room: in place. -/
theorem m_appIn (hT : T.Ok P) {c : Call} {d s : Operand} {t e : Nat} {te : TI} {id sz off n k E : Nat} {vs : AV} {ct src : Ct} {rest : List Chunk} (ho : o.op = .call c) (hc : c.callee = .builtin .append) (hx : c.args.toList = [d, s]) (ht : c.argTypes.toList = [t, t])
    (hu : P.underlying t = some (.slice e)) (he : tlook T e = some te) (hd1 : aop st d = some (.o (.vw id sz off n k))) (hsz : sz = te.size) (htk : takeOwn (fun i => !K i) st.hp id = some (E, sz, ct, rest)) (hs : aop st s = some vs) (hsrc : SrcOk st sz vs src) (hroom : n + src.n ≤ k) (hoff : off + n ≤ ct.n) :
    StepTo P K o st (· = (AS.mk (viewE id st.nid st.env) (.own st.nid E sz (setRngC ct (off + n) src) :: rest) (st.nid + 1)).put o.dst (.o (.vw st.nid sz off (n + src.n) k))) := by
  intro X S ν a w Q K' hd sat hk
  obtain ⟨hd2, hd3⟩ := aop_ok sat hd1
  obtain ⟨g, N, C, oo, v1, v2, v3, v4, v5⟩ := vw_at (w := w) (S := S) hd2
  have hpos := (hT.get he).1.pos
  obtain ⟨A, c', news, e1, e2, e3, e4, e5⟩ := (hsrc X S ν a w s sat hs).cut (k := src.n) (Nat.le_refl _)
  obtain ⟨cur, w1, w2, w4, w5⟩ := write_step (K := K) (src := src) (p := off + n) (vs := news) (x := .vw st.nid sz off (n + src.n) k) (u := .slice (some ⟨g, oo, none⟩) (n + src.n) k) hd sat htk v1 e3 hoff (by omega) e5 (Nat.lt_succ_self _) (fun _ ν' h => ⟨g, _, C, oo, h, rfl, hroom, v4, v5⟩)
  obtain ⟨cs, ex⟩ := exec_builtin (a := a) ho hc hx (show c.argTypes = #[t, t] by rw [← Array.toList_inj]; exact ht)
  refine wp_value (w' := w.setRow g (cur.toList.take ((off + n) * sz) ++ news ++ cur.toList.drop ((off + n) * sz + news.length)).toArray) (u := .slice (some ⟨g, oo, none⟩) (n + src.n) k) ?_ (w5 hk)
  rw [ex]
  simp only [builtin, List.map_cons, List.map_nil, Sem.run_bind, v2, e1]
  have hst : (storeCells ((⟨g, oo, none⟩ : Addr).add (n * te.size)) news 0).run P w = .ok () (w.setRow g (cur.toList.take ((off + n) * sz) ++ news ++ cur.toList.drop ((off + n) * sz + news.length)).toArray) := by
    rcases Nat.eq_zero_or_pos k with hz | hz
    · have hmin : src.n = 0 := by omega
      have : news = [] := List.eq_nil_of_length_eq_zero (by rw [e3, hmin]; simp)
      subst this
      simp only [storeCells, List.append_nil, List.length_nil, Nat.add_zero, List.take_append_drop, Array.toArray_toList]
      rw [setRow_self w g cur E (0, 0) w1]
      rfl
    · have := run_storeCells_at P g ((off + n) * sz) E news 0 cur w w1 (by simpa using w2) w4
      rw [v5 hz, ← hsz, show (⟨g, off * sz, none⟩ : Addr).add (n * sz) = ⟨g, (off + n) * sz, none⟩ by rw [Nat.add_mul, add_none']]
      simpa using this
  have hff := run_first (P := P) (size := te.size) (n := src.n) (c := c') e2 (by rw [e3, hsz]) e4
  have hsl := sizeOf_run hT he w
  simp [Builtin.append_, run_underlying hu, Builtin.lenOf, hsl, hroom, hff, hst]

/-- An append to a slice of the call's own, or to nil. -/
theorem m_appendX (hT : T.Ok P) {c : Call} {s x : Operand} {t e : Nat} {te : TI} {vd vs : AV} {ct src : Ct} {rest : List Chunk} (ho : o.op = .call c) (hc : c.callee = .builtin .append) (hx : c.args.toList = [s, x]) (ht : c.argTypes.toList = [t, t])
    (hu : P.underlying t = some (.slice e)) (he : tlook T e = some te) (hs : aop st s = some vd) (hd1 : Dest K te.size e st vd ct rest) (hv : aop st x = some vs) (hsrc : SrcOk st te.size vs src) (hby : 1 ≤ te.bytes) (hlim : (ct.n + src.n) * te.bytes ≤ 140737488355328) :
    StepTo P K o st (· = st.new rest (fun i => .own i e te.size (appC ct src)) o.dst (.own st.nid)) := by
  intro X S ν a w Q K' hd sat hk
  obtain ⟨takes, xs, d1, d2, d3, d4, d5, d6⟩ := dest_ok sat hs hd1
  have hsz := (hT.get he).1.pos
  obtain ⟨A, c', news, e1, e2, e3, e4, e5, e6, e7, e8⟩ := hsrc X S ν a w x sat hv
  have hle : ct.n + src.n ≤ (ct.n + src.n) * te.bytes := Nat.le_mul_of_pos_right _ hby
  exact wp_apps (w0 := w) s x t e te.size te.bytes (call_args ho hc hx ht) (slTy hT hu he) 0 ct.n (a.eval s) xs A src.n c' news rfl e1 e4 d4 (Below.refl _ _) (Nat.zero_le _) e5 (fun h => let ⟨b, off, h1, _, h2⟩ := e7 h; ⟨b, off, h1, h2⟩) e6 e2 hlim (by unfold maxLen at e3; omega)
    fun v' w' ha => app_step hd sat d1 d2 d3 rfl rfl d4.1 d5 e8 ha hk

theorem setL_z {zero : List Value} {k i j : Nat} (hz : 0 < zero.length) (hi : i < k) (hj : j < zero.length) : (Builtin.zeroCells zero.toArray k).toList[i * zero.length + j]? = zero[j]? := by
  have h1 : (i + 1) * zero.length ≤ k * zero.length := Nat.mul_le_mul_right _ hi
  rw [Nat.add_mul, Nat.one_mul] at h1
  have h2 : (i * zero.length + j) % zero.length = j := by
    rw [Nat.add_comm, Nat.add_mul_mod_self_right, Nat.mod_eq_of_lt hj]
  unfold Builtin.zeroCells
  rw [Array.getElem?_toList, Array.getElem?_map, List.size_toArray, Array.getElem?_range, if_pos (by omega)]
  simp only [Option.map_some, h2]
  rw [List.getElem?_eq_getElem hj]
  simp [hj]
theorem zero_rows {zero : List Value} {sz k : Nat} (hz : zero.length = sz) (hpos : 0 < sz) (h1 : ∀ v ∈ zero, v.oneCell' = true) : (Builtin.zeroCells zero.toArray k).toList.length = k * sz ∧ ∀ i j, i < (zeroC k zero).n → j < sz → ∃ u, (Builtin.zeroCells zero.toArray k).toList[i * sz + j]? = some u ∧ ((zeroC k zero).cell i j).rel w S u := by
  subst hz
  refine ⟨by simp [Builtin.zeroCells], fun i j hi hj => ?_⟩
  refine ⟨zero[j], by rw [setL_z (k := k) hpos hi hj, List.getElem?_eq_getElem hj], ?_⟩
  have : ∀ {l : List Value} {j : Nat} (hj : j < l.length), nthD (l.map DC.c) j = .c l[j] := by
    intro l
    induction l with
    | nil => intro j hj; exact absurd hj (Nat.not_lt_zero _)
    | cons v l ih =>
      intro j hj
      cases j with
      | zero => rfl
      | succ j => exact ih (Nat.lt_of_succ_lt_succ hj)
  show (nthD (zero.map DC.c) j).rel w S _
  rw [this hj]
  exact ⟨rfl, h1 _ (List.getElem_mem hj)⟩

/-- A part is cleared. -/
theorem m_clear (hT : T.Ok P) {c : Call} {d : Operand} {t e : Nat} {te : TI} {id sz off n k E : Nat} {ct : Ct} {rest : List Chunk} (ho : o.op = .call c) (hdst : o.dst = none) (hc : c.callee = .builtin .clear) (hx : c.args.toList = [d]) (ht : c.argTypes.toList = [t])
    (hu : P.underlying t = some (.slice e)) (he : tlook T e = some te) (hd1 : aop st d = some (.o (.vw id sz off n k))) (hsz : sz = te.size) (htk : takeOwn (fun i => !K i) st.hp id = some (E, sz, ct, rest)) (hoff : off ≤ ct.n) :
    StepTo P K o st (· = ⟨viewE id st.nid st.env, .own st.nid E sz (setRngC ct off (zeroC n te.zero)) :: rest, st.nid + 1⟩) := by
  intro X S ν a w Q K' hd sat hk
  obtain ⟨hd2, hd3⟩ := aop_ok sat hd1
  obtain ⟨g, N, C, oo, v1, v2, v3, v4, v5⟩ := vw_at (w := w) (S := S) hd2
  have hpos := (hT.get he).1.pos
  obtain ⟨i, z, e1, e2, e3, e4, e5, e7, e6, _⟩ := (hT.get he).1.info
  rw [(hT.get he).2] at e1
  obtain ⟨r1, r2⟩ := zero_rows (w := w) (S := S) (k := n) (zero := te.zero) (sz := sz) (by rw [hsz, e6]) (by omega) e7
  obtain ⟨cur, w1, w2, w4, w5⟩ := write_step (K := K) (src := zeroC n te.zero) (p := off) (x := .sb true) (u := .bool true) hd sat htk v1 (by rw [r1]; rfl) hoff (by show off + n ≤ _; omega) r2 trivial (fun _ _ _ => rfl)
  obtain ⟨cs, ex⟩ := exec_builtin (a := a) ho hc hx (show c.argTypes = #[t] by rw [← Array.toList_inj]; exact ht)
  rw [hdst] at w5
  have hst : (Builtin.clear_ #[t] o.type #[.slice (some ⟨g, oo, none⟩) n k]).run P w = .ok (.tuple #[]) (w.setRow g (cur.toList.take (off * sz) ++ (Builtin.zeroCells te.zero.toArray n).toList ++ cur.toList.drop (off * sz + (Builtin.zeroCells te.zero.toArray n).toList.length)).toArray) := by
    have hz5 : z.cells = te.zero.toArray := by rw [← Array.toList_inj, e5]
    rcases Nat.eq_zero_or_pos n with hz | hz
    · subst hz
      have : (Builtin.zeroCells te.zero.toArray 0).toList = [] := by simp [Builtin.zeroCells]
      rw [this]
      simp only [List.append_nil, List.length_nil, Nat.add_zero, List.take_append_drop, Array.toArray_toList]
      rw [setRow_self w g cur E (0, 0) w1]
      simp [Builtin.clear_, run_underlying hu]
    · obtain ⟨n, rfl⟩ : ∃ m, n = m + 1 := ⟨n - 1, by omega⟩
      have := run_storeCells_at P g (off * sz) E (Builtin.zeroCells te.zero.toArray (n + 1)).toList 0 cur w w1 (by simpa using w2) w4
      rw [v5 (by omega)]
      have hst : (storeCells (⟨g, off * sz, none⟩ : Addr) (Builtin.zeroCells te.zero.toArray (n + 1)).toList 0).run P w = .ok () (w.setRow g (cur.toList.take (off * sz) ++ (Builtin.zeroCells te.zero.toArray (n + 1)).toList ++ cur.toList.drop (off * sz + (Builtin.zeroCells te.zero.toArray (n + 1)).toList.length)).toArray) := by simpa using this
      simp [Builtin.clear_, run_underlying hu, zeroValue, typeInfo, e1, e4, hz5, hst]
  have hdst' : ∀ (u : Value), a.put o.dst u = a := fun u => by rw [hdst]; rfl
  unfold Oper.wp
  rw [ex]
  simp only [builtin, List.map_cons, List.map_nil, Sem.run_bind, v2, hst, Result.andThen_ok, Sem.run_pure]
  have := w5 hk
  simpa [Oper.upon, hdst, Act.put, AS.put] using this

/-- A new row that an append has made. -/
theorem grow_step (hT : T.Ok P) {e m old : Nat} {te : TI} {i : TypeInfo} {z : Value} {ys : List Value} {C : Ct} (he : tlook T e = some te) (e1 : P.info? e = some i) (e4 : i.zero = some z) (hd : ∀ d, o.dst = some d → d < X.N) (sat : Sat X S ν st a w) (hC : C.n = m) (hl : ys.length = m * te.size) (hm : m ≤ maxLen)
    (hr : ∀ i j, i < C.n → j < te.size → ∃ u, ys[i * te.size + j]? = some u ∧ (C.cell i j).rel w S u)
    {K' : Act → World → Prop} (hk : ∀ st' S' ν' a' w', st' = st.new st.hp (fun i => .own i e te.size C) o.dst (.own st.nid) → Sat X S' ν' st' a' w' → Kp K S S' ν ν' st st' w w' → K' a' w') :
    K' (a.put o.dst (.slice (some ⟨w.heap.size, 0, none⟩) m (grownCap w m old e))) (w.drew.alloc (.cells (ys.toArray ++ Builtin.zeroCells z.cells (grownCap w m old e - m)) e)) := by
  obtain ⟨i', z', f1, f2, f3, f4, f5, f7, f6, _⟩ := (hT.get he).1.info
  rw [(hT.get he).2, e1] at f1
  cases f1
  rw [e4] at f4
  cases f4
  have hzs : z.cells.size = te.size := by rw [← Array.length_toList, f5, f6]
  have hge := grownCap_ge w m old e
  have hcm : grownCap w m old e ≤ maxLen := grownCap_le_maxLen w m old e hm
  have gr : Gr w (w.drew.alloc (.cells (ys.toArray ++ Builtin.zeroCells z.cells (grownCap w m old e - m)) e)) S S := ⟨by simp, fun k hs hb => heap_alloc_old w.drew _ hb, fun _ h => h⟩
  refine own_step (w' := w.drew.alloc (.cells (ys.toArray ++ Builtin.zeroCells z.cells (grownCap w m old e - m)) e)) (takes := []) (rest := st.hp) (ct := C) (xs := ys) hd sat (.refl _) (fun ch hc => (nomatch hc)) ⟨rfl, rfl, rfl, by simp, fun k hk _ => heap_alloc_old w.drew _ hk⟩ ⟨hl, .inr ⟨w.heap.size, _, _, rfl, Nat.zero_le _, heap_alloc_new w.drew _, hge, hcm, ?_, ?_⟩⟩ hC.symm (fun b hb => .inr (by cases hb; exact Nat.le_refl _)) (fun i j hi hj => ?_) hk
  · simp only [Array.size_append, List.size_toArray, size_zeroCells, hzs, hl, ← Nat.add_mul]
    congr 1
    omega
  · simp only [Array.toList_append]
    rw [← hl]
    exact List.take_left
  · obtain ⟨u, u1, u2⟩ := hr i j hi hj
    exact ⟨u, u1, DC.mono gr u2⟩

/-- An append of zeros to a nil slice. -/
theorem m_zeros (hT : T.Ok P) {c : Call} {d s : Operand} {t tn e : Nat} {te : TI} {k kn : IntKind} {n : Int} (ho : o.op = .call c) (hc : c.callee = .builtin .append) (hx : c.args.toList = [d, s]) (ht : c.argTypes.toList = [t, tn])
    (hu : P.underlying t = some (.slice e)) (htn : P.underlying tn = some (.int kn)) (he : tlook T e = some te) (hd1 : aop st d = some (.o (.c (.slice none 0 0)))) (hs : aop st s = some (.o (.c (.int k n)))) (hn : 0 < n ∧ n * te.bytes ≤ 140737488355328 ∧ n ≤ 140737488355328) :
    StepTo P K o st (· = st.new st.hp (fun i => .own i e te.size (zeroC n.toNat te.zero)) o.dst (.own st.nid)) := by
  intro X S ν a w Q K' hd sat hk
  obtain ⟨hn0, hn1, hn2⟩ := hn
  obtain ⟨n, rfl⟩ := Int.eq_ofNat_of_zero_le (Int.le_of_lt hn0)
  have hn1 : n * te.bytes ≤ 140737488355328 := by
    have : ((n * te.bytes : Nat) : Int) ≤ 140737488355328 := by rw [Int.natCast_mul]; exact hn1
    omega
  have hn2 : n ≤ 140737488355328 := by omega
  have hn0 : 0 < n := by omega
  obtain ⟨i, z, e1, e2, e3, e4, e5, e7, e6, _⟩ := (hT.get he).1.info
  rw [(hT.get he).2] at e1
  have hpos := (hT.get he).1.pos
  have hd2 : a.eval d = .slice none 0 0 := (aop_ok sat hd1).1.1
  have hs2 : a.eval s = .int k n := (aop_ok sat hs).1.1
  have hr := Lib.run_append_nil_zeros (P := P) w t tn o.type e i z k kn hu htn e1 e4 n hn0 (by rw [e2]; exact hpos) (by omega) (by rw [e3]; omega)
  obtain ⟨r1, r2⟩ := zero_rows (w := w) (S := S) (k := n) (zero := te.zero) (sz := te.size) e6 hpos e7
  have hz5 : z.cells = te.zero.toArray := by rw [← Array.toList_inj, e5]
  obtain ⟨cs, ex⟩ := exec_builtin (a := a) ho hc hx (show c.argTypes = #[t, tn] by rw [← Array.toList_inj]; exact ht)
  have hg := grow_step (K := K) (K' := K') (old := 0) (C := zeroC n te.zero) (m := n) hT he e1 e4 hd sat rfl r1 (by unfold maxLen; omega) r2 hk
  refine wp_value ?_ hg
  rw [ex]
  simp only [builtin, List.map_cons, List.map_nil, Sem.run_bind, hd2, hs2, hr, Result.andThen_ok, Sem.run_pure, Array.toArray_toList, hz5]

/-- The rows of a part. -/
theorem vw_rows {id E sz off n k : Nat} {ct : Ct} {v : Value} (sat : Sat X S ν st a w) (hm : Chunk.own id E sz ct ∈ st.hp) (hsz : 0 < sz) (hv : (A1.vw id sz off n k).rel w S ν v) (hin : off + n ≤ ct.n) : ∃ (A : Option Addr) (news : List Value), v = .slice A n k ∧ (A = none → n = 0) ∧ news.length = n * sz ∧ (∀ b, A = some b → ∀ j u, news[j]? = some u → w.cell? (b.add j) = some u) ∧ ∀ i j, i < n → j < sz → ∃ u, news[i * sz + j]? = some u ∧ (ct.cell (off + i) j).rel w S u := by
  obtain ⟨xs, o1, o2⟩ := sat.hp _ hm
  obtain ⟨g, N, C, oo, v1, v2, v3, v4, v5⟩ := vw_at (w := w) (S := S) hv
  obtain ⟨A, c, news, e1, e2, e3, e4, e5⟩ := (src_vw o1 o2 hv hin).cut (k := n) (Nat.le_refl _)
  rw [v2] at e1
  cases e1
  exact ⟨_, news, v2, e2, e3, e4, e5⟩

/-- An append of zeros to a part that has no room for them. -/
theorem m_growZeros (hT : T.Ok P) {c : Call} {d s : Operand} {t tn e : Nat} {te : TI} {kq kn : IntKind} {q : Int} {id sz off n k E : Nat} {ct : Ct} (ho : o.op = .call c) (hc : c.callee = .builtin .append) (hx : c.args.toList = [d, s]) (ht : c.argTypes.toList = [t, tn])
    (hu : P.underlying t = some (.slice e)) (htn : P.underlying tn = some (.int kn)) (he : tlook T e = some te) (hd1 : aop st d = some (.o (.vw id sz off n k))) (hsz : sz = te.size) (hf : findOwn (fun _ => true) st.hp id = some (E, sz, ct)) (hs : aop st s = some (.o (.c (.int kq q))))
    (hin : off + n ≤ ct.n) (hn : (k : Int) < n + q ∧ 0 < q ∧ (n + q) * te.bytes ≤ 140737488355328 ∧ n + q ≤ 140737488355328) :
    StepTo P K o st (· = st.new st.hp (fun i => .own i e te.size (appC (partC ct off n) (zeroC q.toNat te.zero))) o.dst (.own st.nid)) := by
  intro X S ν a w Q K' hd sat hk
  subst hsz
  obtain ⟨hn0, hn1, hn2, hn3⟩ := hn
  obtain ⟨q, rfl⟩ := Int.eq_ofNat_of_zero_le (Int.le_of_lt hn1)
  have hn2 : (n + q) * te.bytes ≤ 140737488355328 := by
    have : (((n + q) * te.bytes : Nat) : Int) ≤ 140737488355328 := by rw [Int.natCast_mul, Int.natCast_add]; exact hn2
    omega
  obtain ⟨i, z, e1, e2, e3, e4, e5, e7, e6, _⟩ := (hT.get he).1.info
  rw [(hT.get he).2] at e1
  have hpos := (hT.get he).1.pos
  obtain ⟨hd2, hd3⟩ := aop_ok sat hd1
  obtain ⟨A, olds, o1, o2, o3, o4, o5⟩ := vw_rows sat (findOwn_ok hf).1 hpos hd2 hin
  have hs2 : a.eval s = .int kq q := (aop_ok sat hs).1.1
  have hcap : Builtin.nextslicecap (n + q) k * i.bytes ≤ 281474976710656 := by rw [e3]; exact growslice_fits (by omega) hn2
  have hqb : q * i.bytes ≤ 281474976710656 := by
    have : q * te.bytes ≤ (n + q) * te.bytes := Nat.mul_le_mul_right _ (by omega)
    rw [e3]; omega
  have hr := Lib.run_append_grow_zeros (P := P) w t tn o.type e i z kq kn hu htn e1 e4 A n k olds (by rw [e2]; exact run_first (w := w.drew) o2 o3 (by simpa using o4)) q (by omega) (by rw [e2]; exact hpos) (by omega) (by omega) hqb hcap
  obtain ⟨r1, r2⟩ := zero_rows (w := w) (S := S) (k := q) (zero := te.zero) (sz := te.size) e6 hpos e7
  have hz5 : z.cells = te.zero.toArray := by rw [← Array.toList_inj, e5]
  obtain ⟨cs, ex⟩ := exec_builtin (a := a) ho hc hx (show c.argTypes = #[t, tn] by rw [← Array.toList_inj]; exact ht)
  have hg := grow_step (K := K) (K' := K') (old := k) (C := appC (partC ct off n) (zeroC q te.zero)) (m := n + q) (ys := olds ++ (Builtin.zeroCells te.zero.toArray q).toList) hT he e1 e4 hd sat rfl (by rw [List.length_append, o3, r1, Nat.add_mul]) (by unfold maxLen; omega) (fun i j hi hj => by
    have hi : i < n + _ := hi
    show ∃ u, _ ∧ (if i < n then (partC ct off n).cell i j else _).rel w S u
    by_cases h1 : i < n
    · obtain ⟨u, e, r⟩ := o5 i j h1 hj
      have hlt := (List.getElem?_eq_some_iff.1 e).1
      exact ⟨u, by rw [List.getElem?_append_left hlt]; exact e, by rw [if_pos h1]; exact r⟩
    · obtain ⟨u, e, r⟩ := r2 (i - n) j (by show i - n < q; have : i < n + q := hi; omega) hj
      refine ⟨u, ?_, by rw [if_neg h1]; exact r⟩
      have e2 : i * te.size + j = n * te.size + ((i - n) * te.size + j) := by rw [← Nat.add_assoc, ← Nat.add_mul]; congr 2; omega
      rw [List.getElem?_append_right (by omega), o3, e2, Nat.add_sub_cancel_left]; exact e) hk
  refine wp_value ?_ hg
  rw [ex]
  simp only [builtin, List.map_cons, List.map_nil, Sem.run_bind, o1, hs2, hr, Result.andThen_ok, Sem.run_pure, hz5]
  congr 4
  simp

/-- An append to a part that has no room for it. -/
theorem m_growApp (hT : T.Ok P) {c : Call} {d s : Operand} {t e : Nat} {te : TI} {id sz off n k E : Nat} {vs : AV} {ct src : Ct} (ho : o.op = .call c) (hc : c.callee = .builtin .append) (hx : c.args.toList = [d, s]) (ht : c.argTypes.toList = [t, t])
    (hu : P.underlying t = some (.slice e)) (he : tlook T e = some te) (hd1 : aop st d = some (.o (.vw id sz off n k))) (hsz : sz = te.size) (hf : findOwn (fun _ => true) st.hp id = some (E, sz, ct)) (hs : aop st s = some vs) (hsrc : SrcOk st sz vs src) (hin : off + n ≤ ct.n)
    (hn : k < n + src.n ∧ (n + src.n) * te.bytes ≤ 140737488355328 ∧ n + src.n ≤ 140737488355328) :
    StepTo P K o st (· = st.new st.hp (fun i => .own i e te.size (appC (partC ct off n) src)) o.dst (.own st.nid)) := by
  intro X S ν a w Q K' hd sat hk
  subst hsz
  obtain ⟨hn0, hn2, hn3⟩ := hn
  obtain ⟨i, z, e1, e2, e3, e4, e5, e7, e6, _⟩ := (hT.get he).1.info
  rw [(hT.get he).2] at e1
  have hpos := (hT.get he).1.pos
  obtain ⟨hd2, hd3⟩ := aop_ok sat hd1
  obtain ⟨g, N, C, oo, v1, v2, v3, v4, v5⟩ := vw_at (w := w) (S := S) hd2
  obtain ⟨A, olds, o1, o2, o3, o4, o5⟩ := vw_rows sat (findOwn_ok hf).1 hpos hd2 hin
  obtain ⟨A', c', news, f1, f2, f3, f4, f5⟩ := (hsrc X S ν a w s sat hs).cut (k := src.n) (Nat.le_refl _)
  have hcap : Builtin.nextslicecap (n + src.n) k * i.bytes ≤ 281474976710656 := by rw [e3]; exact growslice_fits (by omega) hn2
  obtain ⟨b, hb⟩ : ∃ b, A' = some b := by
    cases A' with
    | none => have := f2 rfl; omega
    | some b => exact ⟨b, rfl⟩
  rw [v2] at o1
  cases o1
  subst hb
  have hr := run_append_grow (P := P) w t o.type e i z hu e1 e4 ⟨g, oo, none⟩ n k olds (by rw [e2]; exact o3) (o4 _ rfl) b src.n c' news (by rw [e2]; exact f3) (f4 _ rfl) (by omega) (by omega) hcap
  obtain ⟨cs, ex⟩ := exec_builtin (a := a) ho hc hx (show c.argTypes = #[t, t] by rw [← Array.toList_inj]; exact ht)
  have hg := grow_step (K := K) (K' := K') (old := k) (C := appC (partC ct off n) src) (m := n + src.n) (ys := olds ++ news) hT he e1 e4 hd sat rfl (by rw [List.length_append, o3, f3, Nat.add_mul]) (by unfold maxLen; omega) (fun i j hi hj => by
    have hi : i < n + _ := hi
    show ∃ u, _ ∧ (if i < n then (partC ct off n).cell i j else _).rel w S u
    by_cases h1 : i < n
    · obtain ⟨u, e, r⟩ := o5 i j h1 hj
      have hlt := (List.getElem?_eq_some_iff.1 e).1
      exact ⟨u, by rw [List.getElem?_append_left hlt]; exact e, by rw [if_pos h1]; exact r⟩
    · obtain ⟨u, e, r⟩ := f5 (i - n) j (by have : i < n + src.n := hi; omega) hj
      refine ⟨u, ?_, by rw [if_neg h1]; exact r⟩
      have e2 : i * te.size + j = n * te.size + ((i - n) * te.size + j) := by rw [← Nat.add_assoc, ← Nat.add_mul]; congr 2; omega
      rw [List.getElem?_append_right (by omega), o3, e2, Nat.add_sub_cancel_left]; exact e) hk
  refine wp_value ?_ hg
  rw [ex]
  simp only [builtin, List.map_cons, List.map_nil, Sem.run_bind, v2, f1, hr, Result.andThen_ok, Sem.run_pure]
  congr 4
  simp
end
end Go.Proofs.Ytfcihdkflnpcgaa.Am
