/- The abstract machine: the model's own entry for slices.overlaps. No program is named. -/
import Derived.Test.YtfcihdkflnpcgaaAmZ
import Derived.Lib.Overlaps
namespace Go.Proofs.Ytfcihdkflnpcgaa.Am
open Go.RowKit Lw
theorem bytes_app {a b : Ct} {x y z : List UInt8} (h : LeDC 1 a (bytesC x)) (k : LeDC 1 b (bytesC y)) (e : z = x ++ y) : LeDC 1 (appC a b) (bytesC z) := by
  subst e; exact (LeDC.app h k).trans (listC_app x y)
theorem byte_lit {z : Int} {b : UInt8} (h : z = b.toNat) : LeDC 1 (litC [[.c (.int .u8 z)]]) (bytesC [b]) := listC_one b (byte_nth h)
theorem str_lit (s : ByteArray) : LeDC 1 (strC s) (bytesC s.data.toList) := LeDC.of_eq (strC_eq s)
theorem LeD.zero {sz n n' : Nat} {c c' : Nat → Nat → DC} (h : n = 0) (h' : n' = 0) : LeD sz n c n' c' := by subst h h'; exact ⟨rfl, fun i j hi => absurd hi (Nat.not_lt_zero _)⟩
section
variable {P : Program} {T : Tys} {st : AS} {o : Oper} {K : Nat → Bool}
/-- One operation of a drawn region by a law of its own. -/
theorem StepL.law {F : Fence} {X : Cx} {Q : Exit → Act → World → Prop} {R' : AS → Prop} {i fuel : Nat} {l : List Oper} {lb lb' : List Bool} {o : Oper} {N : Nat} (hN : X.N = N) (hi : nthO l i = some o) (hd : dstOk N o = true) (hnd : ∀ c, o.op ≠ .defer c) (hg : aguard l st o = some true) (h : StepTo P K o st R') (hb : normB (setB lb i) some = some lb') (hk : ∀ s, R' s → TL F P X l Q K fuel lb' s) : StepL F P X l Q K fuel lb st i :=
  fun hh => by
    subst hN
    refine ⟨o, by rw [← Array.getElem?_toList, ← nthO_eq]; exact hi, hd, hnd, by simpa using hg, R', h, fun s hs => ?_⟩
    rw [normB_eq] at hb
    cases hb
    have := hk s hs ⟨hh.1, by rw [setB_len, hh.2]⟩
    rw [setB_arr]; exact this
/-- Two chunks lie apart. -/
theorem overlaps_apart (hT : T.Ok P) {f : FuncId} {fn : Func} {c : Call} {x y : Operand} {tS tR e : TypeId} {te : TI} {id1 id2 E1 E2 sz1 sz2 sz off n k : Nat} {ct1 ct2 : Ct} (ho : o.op = .call c) (hc : c.callee = .value (.func f)) (hx : c.args.toList = [x, y])
    (hf : P.funcs[f]? = some fn) (hname : (fn.name == "runtime.NumGoroutine") = false) (hb : fn.body.isNone = true) (hn : Extern.findNext fn = none) (he : Extern.find fn = some (Extern.SlicesOverlaps.overlaps #[tS, tS] #[tR]))
    (hu : P.underlying tS = some (.slice e)) (hte : tlook T e = some te) (h1 : aop st x = some (.o (.own id1))) (h2 : aop st y = some (.o (.vw id2 sz off n k))) (f1 : findOwn (fun _ => true) st.hp id1 = some (E1, sz1, ct1)) (f2 : findOwn (fun _ => true) st.hp id2 = some (E2, sz2, ct2))
    (hne : id1 ≠ id2) (hp1 : 0 < ct1.n) (hp2 : 0 < ct2.n) (hs2 : 0 < sz2) : StepTo P K o st (· = st.put o.dst (.o (.c (.bool false)))) := by
  intro X S ν a w Q K' hd sat hk
  obtain ⟨⟨x1, _⟩, _⟩ := aop_ok sat h1
  obtain ⟨g2, N2, C2, o2, v1, v2, v3, v4, v5⟩ := vw_at (w := w) (S := S) (aop_ok sat h2).1
  have m1 := (findOwn_ok f1).1
  have m2 := (findOwn_ok f2).1
  obtain ⟨xs1, o11, _⟩ := sat.hp _ m1
  obtain ⟨xs2, o21, _⟩ := sat.hp _ m2
  have hv1 : ∃ g1 C1, ν id1 = .slice (some ⟨g1, 0, none⟩) ct1.n C1 := by
    rcases o11.2 with ⟨_, e⟩ | ⟨g, cap, cur, e, _⟩
    · omega
    · exact ⟨g, cap, e⟩
  obtain ⟨g1, C1, hv1⟩ := hv1
  obtain ⟨_, cur1, hg1, c11, c12, c13, _⟩ := own_at o11 hv1
  obtain ⟨_, cur2, hg2, c21, c22, c23, _⟩ := own_at o21 v1
  have hg : g1 ≠ g2 := by
    intro e
    subst e
    have b1 : (Chunk.own id1 E1 sz1 ct1).blk ν = some g1 := by simp [Chunk.blk, hv1, Value.ownBlock]
    have b2 : (Chunk.own id2 E2 sz2 ct2).blk ν = some g1 := by simp [Chunk.blk, v1, Value.ownBlock]
    have : ∀ {l : List Chunk}, (blks ν l).Nodup → Chunk.own id1 E1 sz1 ct1 ∈ l → Chunk.own id2 E2 sz2 ct2 ∈ l → False := by
      intro l
      induction l with
      | nil => intro _ h; cases h
      | cons c l ih =>
        intro hnd k1 k2
        have hsub : (blks ν l).Nodup := hnd.sublist (blks_sub (List.sublist_cons_self ..))
        have hin : ∀ c', c' ∈ l → c'.blk ν = some g1 → c.blk ν ≠ some g1 := by
          intro c' hc' hb' hcb
          simp only [blks, List.filterMap_cons, hcb] at hnd
          exact (List.nodup_cons.1 hnd).1 (List.mem_filterMap.2 ⟨c', hc', hb'⟩)
        rcases List.mem_cons.1 k1 with e1 | k1 <;> rcases List.mem_cons.1 k2 with e2 | k2
        · rw [← e1] at e2; cases e2; exact hne rfl
        · exact hin _ k2 b2 (e1 ▸ b1)
        · exact hin _ k1 b1 (e2 ▸ b2)
        · exact ih hsub k1 k2
    exact this sat.nd m1 m2
  have hsh1 : w.shape? g1 = some (E1, cur1.size) := by simp [World.shape?, hg1]
  have hsh2 : w.shape? g2 = some (E2, cur2.size) := by simp [World.shape?, hg2]
  have hk2 : cur2.size ≠ 0 := by
    rw [c23]
    have : 1 * 1 ≤ C2 * sz2 := Nat.mul_le_mul (by omega) hs2
    omega
  have hrun := Lib.run_overlaps_apart (P := P) w tS tR e hu te.size (run_sizeOf' hT hte) ⟨g1, 0, none⟩ ⟨g2, o2, none⟩ ct1.n C1 n k hg E1 E2 cur1.size cur2.size hsh1 hsh2 hk2 (by simp [World.frozen?, hg1]) (by simp [World.frozen?, hg1])
  have hx' : c.args = #[x, y] := by rw [← Array.toList_inj]; exact hx
  refine wp_value (w' := w) (u := .bool false) ?_ (hk _ S ν _ _ rfl (sat.put hd ⟨rfl, rfl⟩ trivial) ⟨Nat.le_refl _, fun _ h => h, fun ch hc hk => ⟨by rw [(AS.put_hp _ _ _).1]; exact hc, rfl⟩, fun _ _ => rfl⟩)
  unfold execOp
  rw [ho]
  have := run_callFunc_extern hf hname hb hn he #[.slice (some ⟨g1, 0, none⟩) ct1.n C1, .slice (some ⟨g2, o2, none⟩) n k] w
  rw [hrun] at this
  have ev : a.eval (.func f) = .func (.func f) #[] #[] := rfl
  have x2 : a.eval x = .slice (some ⟨g1, 0, none⟩) ct1.n C1 := by rw [x1]; exact hv1
  simp only [resolve, hc, hx', ev, Deferred.ofValue, Sem.run_bind, Sem.run_pure, Result.andThen_ok, invoke, List.map_toArray, List.map_cons, List.map_nil, x2, v2]
  exact this
end
end Go.Proofs.Ytfcihdkflnpcgaa.Am
