/- Walk of the program's Decode of records, out of the contracts of the kinds' readers. -/
import Derived.Test.YtlbgepgpihklfaaRecR4
namespace Go.Proofs.Ytlbgepgpihklfaa.Rec
open Go.RowKit Lw

/-- The contract of a kind's reader. -/
def GetOK (q : Nat × Nat × Nat × Nat) : Prop :=
  ∀ (br n c at_ : Nat) (A : Option Addr) (bs : Bs) (S : Nat → Prop) (w : World), Rd w br A n c at_ 0 → ¬ S br → u8.Sl w S A n bs → at_ ≤ n → n ≤ 1000000 → n ≤ c → c ≤ 9223372036854775807 →
    Calls Try.prog q.2.2.2 #[.pointer (some ⟨br, 0, none⟩), .agg #[.int .u8 q.1, .int .i64 q.2.1, fnV q.2.2.1, fnV q.2.2.2]] w (GetPost w br A n c at_ (oneD q.1 (bs.drop at_)))

theorem getOK_nl (q : Nat × Nat × Nat × Nat) (hq : q ∈ kindsL) (h : q.1 ≠ 108) : GetOK q := by
  simp only [kindsL, List.mem_cons, List.not_mem_nil, or_false] at hq
  rcases hq with rfl | rfl | rfl | rfl | rfl | rfl | rfl
  · intro br n c at_ A bs S w h1 h2 h3 h4 h5 h6 h7; exact rnumber_any 98 1 _ _ br n c at_ A bs S w h1 h2 h3 h4 h5 h6 h7 rfl (by omega)
  · intro br n c at_ A bs S w h1 h2 h3 h4 h5 h6 h7; exact rnumber_any 119 2 _ _ br n c at_ A bs S w h1 h2 h3 h4 h5 h6 h7 rfl (by omega)
  · intro br n c at_ A bs S w h1 h2 h3 h4 h5 h6 h7; exact rnumber_any 100 4 _ _ br n c at_ A bs S w h1 h2 h3 h4 h5 h6 h7 rfl (by omega)
  · intro br n c at_ A bs S w h1 h2 h3 h4 h5 h6 h7; exact rnumber_any 113 8 _ _ br n c at_ A bs S w h1 h2 h3 h4 h5 h6 h7 rfl (by omega)
  · intro br n c at_ A bs S w h1 h2 h3 h4 h5 h6 h7; exact rgroups_any 118 0 _ _ br n c at_ A bs S w h1 h2 h3 h4 h5 h6 h7
  · intro br n c at_ A bs S w h1 h2 h3 h4 h5 h6 h7; exact rstr_any 115 0 _ _ br n c at_ A bs S w h1 h2 h3 h4 h5 h6 h7
  · exact absurd rfl h

theorem get_enters (q : Nat × Nat × Nat × Nat) (hq : q ∈ kindsL) (args : Array Value) (w : World) : (callFunc q.2.2.2 args).run Try.prog w = .ok (.enter q.2.2.2 args) w := by
  simp only [kindsL, List.mem_cons, List.not_mem_nil, or_false] at hq
  rcases hq with rfl | rfl | rfl | rfl | rfl | rfl | rfl
  · exact callFunc_body Try.func34 (by kernel_rfl) (by kernel_rfl) args w
  · exact callFunc_body Try.func34 (by kernel_rfl) (by kernel_rfl) args w
  · exact callFunc_body Try.func34 (by kernel_rfl) (by kernel_rfl) args w
  · exact callFunc_body Try.func34 (by kernel_rfl) (by kernel_rfl) args w
  · exact callFunc_body Try.func36 (by kernel_rfl) (by kernel_rfl) args w
  · exact callFunc_body Try.func38 (by kernel_rfl) (by kernel_rfl) args w
  · exact callFunc_body Try.func40 (by kernel_rfl) (by kernel_rfl) args w

/-- The values of a form, read from bytes; out: those before; at: the bytes before. -/
def decL : Bs → Bs → List RcT → Nat → Int × List RcT × Nat
  | [], _, out, at_ => if 4000 < at_ then (3, [], 0) else (0, out, at_)
  | k :: s, bs, out, at_ => if (oneD k.toNat (bs.drop at_)).1 ≠ 0 then ((oneD k.toNat (bs.drop at_)).1, [], 0) else decL s bs (out ++ [(oneD k.toNat (bs.drop at_)).2.1]) (at_ + (oneD k.toNat (bs.drop at_)).2.2)
def decI (s bs : Bs) : Int × List RcT × Nat := if formI s ≠ 0 then (formI s, [], 0) else decL s bs [] 0

theorem tyR : SlTy Try.prog 22 49 3 48 := .mk' (z := .agg #[.int .u64 0, .string ⟨#[]⟩, .slice none 0 0]) (by kernel_rfl) (by kernel_rfl) rfl (by decide)

/-- An own slice of values: each one's list lies in blocks from base on, none of X, none the slice's own. -/
def OwnS (base : Nat) (X : Nat → Prop) (v : Value) (b : Nat) : Prop := base ≤ b ∧ ¬ X b ∧ some b ≠ v.ownBlock
def OwnRc (w : World) (base : Nat) (X : Nat → Prop) (v : Value) (vss : List (List Value)) (xs : List RcT) : Prop :=
  w.ownsRow base 49 3 v xs.length vss.flatten ∧ vss.length = xs.length ∧ ∀ (i : Nat) (h : i < vss.length) (h' : i < xs.length), rc.rel w (OwnS base X v) vss[i] xs[i]
theorem OwnRc.nil (w : World) (base : Nat) (X : Nat → Prop) : OwnRc w base X (.slice none 0 0) [] [] := ⟨World.ownsRow_nil _ _ _ _, rfl, fun i h => absurd h (by simp)⟩
theorem OwnRc.below {w w' : World} {base : Nat} {X : Nat → Prop} {v : Value} {vss : List (List Value)} {xs : List RcT} (h : OwnRc w base X v vss xs) (k : Below w.heap.size w w') : OwnRc w' base X v vss xs :=
  ⟨ownsRow_below h.1 k (Nat.le_refl _), h.2.1, fun i a b => rc.mono (Keep.all k (Nat.le_refl _)) (fun _ h _ => h) (h.2.2 i a b)⟩
theorem OwnRc.only {w w' : World} {base br T : Nat} {X : Nat → Prop} {v : Value} {vss : List (List Value)} {xs : List RcT} {c : Array Value} {fr : Nat × Nat} (h : OwnRc w base X v vss xs) (k : Only br w w') (hX : X br) (hbr : w.heap[br]? = some (.cells c T fr)) (hT : T ≠ 49) : OwnRc w' base X v vss xs := by
  refine ⟨?_, h.2.1, fun i a b => rc.mono (k.keep (fun hs => hs.2.1 hX)) (fun _ h _ => h) (h.2.2 i a b)⟩
  have hne := own_ne h.1 hbr hT
  refine ⟨h.1.1, ?_⟩
  rcases h.1.2 with hn | ⟨g, cap, cur, rfl, hb, hgg, rest⟩
  · exact .inl hn
  · refine .inr ⟨g, cap, cur, rfl, hb, ?_, rest⟩
    rw [k.block g (Array.getElem?_eq_some_iff.1 hgg).1 (fun e => hne (by rw [e]; rfl))]
    exact hgg
theorem OwnRc.app {w w0 w1 : World} {base : Nat} {X : Nat → Prop} {v v' : Value} {vss : List (List Value)} {xs : List RcT} {us : List Value} {x : RcT} {m : Nat} {zs : List Value} (h : OwnRc w base X v vss xs) (ha : Appd base 49 3 w0 w w1 v v' m zs) (hm : m = xs.length + 1) (hz : zs = vss.flatten ++ us) (hr : rc.rel w (OwnS base X v) us x) :
    OwnRc w1 base X v' (vss ++ [us]) (xs ++ [x]) := by
  have hk : Keep (OwnS base X v) w w1 := Keep.grown ha.grown fun b hb => hb.2.2
  have hS : ∀ b, OwnS base X v b → b < w.heap.size → OwnS base X v' b := by
    intro b hb hlt
    refine ⟨hb.1, hb.2.1, fun e => ?_⟩
    rcases ha.blk with e1 | e1
    · exact hb.2.2 (by rw [← e1]; exact e)
    · have := e1 b e.symm; omega
  refine ⟨?_, by simp [h.2.1], fun i a b => ?_⟩
  · have := ha.own
    rw [hm, hz] at this
    simpa using this
  · by_cases hi : i < vss.length
    · rw [List.getElem_append_left hi, List.getElem_append_left (by rw [← h.2.1]; exact hi)]
      exact rc.mono hk hS (h.2.2 i hi _)
    · have hi' : i = vss.length := by simp at a; omega
      subst hi'
      have e1 : (vss ++ [us])[vss.length] = us := by simp
      have e2 : (xs ++ [x])[vss.length]'b = x := by simp [h.2.1]
      rw [e1, e2]
      exact rc.mono hk hS hr

/-- What Decode leaves. -/
def DecPost (w : World) (r : Int × List RcT × Nat) (e : Ending) (w' : World) : Prop :=
  ∃ v vss, e = .returned (.tuple #[v, .int .i64 r.2.2, .int .i64 r.1]) ∧ OwnRc w' w.heap.size (fun _ => False) v vss r.2.1 ∧ Below w.heap.size w w'
theorem decPost_err {w w' : World} {r : Int × List RcT × Nat} {n : Int} (hr : r = (n, [], 0)) (hb : Below w.heap.size w w') : DecPost w r (.returned (.tuple #[.slice none 0 0, .int .i64 0, .int .i64 n])) w' := by
  subst hr; exact ⟨_, [], rfl, OwnRc.nil _ _ _, hb⟩

set_option maxRecDepth 20000 in
set_option maxHeartbeats 8000000 in
theorem decode_any (s : ByteArray) (A : Option Addr) (n c : Nat) (bs : Bs) (w : World) (hx : u8.Sl w (· < w.heap.size) A n bs) (hn : n ≤ 100000) (hnc : n ≤ c) (hc : c ≤ 9223372036854775807) (hg : ∀ q ∈ kindsL, UInt8.ofNat q.1 ∈ s.data.toList → GetOK q) :
    Calls Try.prog 11 #[.string s, .slice A n c] w (DecPost w (decI s.data.toList bs)) := by
  have hss : s.data.toList.length = s.size := rfl
  by_cases hf : formI s.data.toList = 0
  · have hall : s.data.toList.all (fun c => okKind c.toNat) = true := by
      unfold formI at hf
      by_cases h1 : 64 < s.data.toList.length
      · rw [if_pos h1] at hf; cases hf
      · rw [if_neg h1] at hf
        by_cases h2 : s.data.toList.all (fun c => okKind c.toNat) = true
        · exact h2
        · rw [if_neg h2] at hf; cases hf
    have h64 : s.size ≤ 64 := by
      unfold formI at hf
      by_cases h1 : 64 < s.data.toList.length
      · rw [if_pos h1] at hf; cases hf
      · omega
    have hdec : decI s.data.toList bs = decL s.data.toList bs [] 0 := by
      unfold decI; rw [if_neg (by rw [hf]; decide)]
    have Hf := Lib.hid hf
    have Hall := Lib.hid hall
    have Hdec := Lib.hid hdec
    have Hss := Lib.hid hss
    have Hx := Lib.hid hx
    have Hg := Lib.hid hg
    clear hf hall hdec hss hx hg
    go_enter Try.func11, Try.ntmps11
    have hf0 := Hf.out
    go_wp2_with (go_at_call 20; go_must (refine (parse_any _ _).mono ?_); rintro e w1 ⟨v, rfl, hb, ho⟩; have hown := ho Hf.out; clear ho; obtain ⟨Ak, ck, rfl, hnk, hck, hAk, hlk, hcellk⟩ := ownsRow_src hown)
    have hz1 := hb.size
    have Hhb := Lib.hid hb
    have Hown := Lib.hid hown
    clear hb hown hf0 hcellk
    obtain ⟨W1, hW1⟩ : ∃ W1, W1 = w1.alloc (.cells #[.slice A n c, .int .i64 0, .int .i64 0] 63) := ⟨_, rfl⟩
    have hW : Below w1.heap.size w1 W1 := by rw [hW1]; exact (Below.refl _ _).alloc (Nat.le_refl _) _
    have hrd0 : Rd W1 w1.heap.size A n c 0 0 := by rw [hW1]; exact heap_alloc_new _ _
    have hown1 := ownsRow_below Hown.out hW (Nat.le_refl _)
    have hzw : W1.heap.size = w1.heap.size + 1 := by rw [hW1]; simp
    rw [← hW1]
    clear hW1
    go_loopw [4, 10, 24] (fun l _ i wr => ∃ (k a : Nat) (outs : List RcT) (vss : List (List Value)), k ≤ s.size ∧ i = .int .i64 k ∧ a ≤ n ∧ outs.length = k ∧ decI s.data.toList bs = decL (s.data.toList.drop k) bs outs a ∧ Rd wr w1.heap.size A n c a 0 ∧ OwnRc wr w.heap.size (· = w1.heap.size) l vss outs ∧ Below w.heap.size w wr ∧ wr.ownsRow w.heap.size 60 4 (.slice Ak s.size ck) s.size (formC s.data.toList)) (fun _ _ i _ => s.size - (intOf i).toNat)
    case atStart => exact ⟨0, 0, [], [], by omega, rfl, by omega, rfl, Hdec.out, hrd0, OwnRc.nil _ _ _, Hhb.out.trans (hW.mono hz1), hown1⟩
    case round =>
      obtain ⟨k, a, outs, vss, hk, rfl, han, hol, hdec, hrd, hrc, hb, hown⟩ := hrel
      have Hdec2 := Lib.hid hdec
      have Hrd := Lib.hid hrd
      have Hrc := Lib.hid hrc
      have Hb := Lib.hid hb
      have Hown2 := Lib.hid hown
      have Hol := Lib.hid hol
      have hz2 := hb.size
      have hbr := lt_of_block hrd
      clear hdec hrd hrd0 hown1 hW hrc hol
      by_cases hlt : k < s.size
      · have hks : k < s.data.toList.length := hlt
        obtain ⟨q, hqm, hqc, f0, f1, f2, f3⟩ := formC_at s.data.toList Hall.out k hks
        obtain ⟨g, rfl, hg1, hg2, hgc⟩ := ownsRow_at hown (by omega)
        have c0 := hgc _ _ f0; have c1 := hgc _ _ f1; have c2 := hgc _ _ f2; have c3 := hgc _ _ f3
        have hgok : GetOK q := Hg.out q hqm (by rw [hqc]; simp)
        have Hqm := Lib.hid hqm
        have Hqc := Lib.hid hqc
        have hcall := fun W (bW : Below wr.heap.size wr W) => hgok w1.heap.size n c a A bs (· < w.heap.size) W ((bW.block _ hbr).trans Hrd.out) (by omega) ((Hx.out.below hb).below bW) han (by omega) hnc hc
        have Hcall := Lib.hid hcall
        clear hown hgc f0 f1 f2 f3 hqm hqc hb hgok hcall
        have hcf := get_enters q Hqm.out
        go_wp2_with fail
        have hW2 : Below wr.heap.size wr (wr.alloc (.cells (kindC q).toArray 60)) := (Below.refl _ _).alloc (Nat.le_refl _) _
        change Calls _ _ _ (wr.alloc (.cells (kindC q).toArray 60)) _
        generalize wr.alloc (.cells (kindC q).toArray 60) = W2 at *
        have HW2 := Lib.hid hW2
        go_fit (Hcall.out W2 hW2)
        rintro e w5 ⟨⟨x, A1, nl, cl, rfl, hxok⟩, hro⟩
        have hrc5 := ((Hrc.out.below HW2.out).only hro.1 rfl ((HW2.out.block _ hbr).trans Hrd.out) (by decide))
        have hb5 : Below w.heap.size w w5 := Hb.out.trans ((HW2.out.mono hz2).trans (hro.1.toBelow (by omega) (by have := HW2.out.size; omega)))
        have hz5 := hb5.size
        have hk5 : w5.ownsRow w.heap.size 60 4 (.slice (some ⟨g, 0, none⟩) s.size ck) s.size (formC s.data.toList) := by
          have h1 := ownsRow_below Hown2.out HW2.out (Nat.le_refl _)
          have hne := own_ne h1 ((HW2.out.block _ hbr).trans Hrd.out) (by decide)
          refine ⟨h1.1, ?_⟩
          rcases h1.2 with hn | ⟨g', cap, cur, hv, hbg, hgg, rest⟩
          · exact .inl hn
          · refine .inr ⟨g', cap, cur, hv, hbg, ?_, rest⟩
            rw [hro.1.block g' (Array.getElem?_eq_some_iff.1 hgg).1 (fun e => hne (by rw [hv, e]; rfl))]
            exact hgg
        have Hk5 := Lib.hid hk5
        have Hro := Lib.hid hro
        have Hxok := Lib.hid hxok
        have Hrc5 := Lib.hid hrc5
        have hown5 := hrc5.1
        clear hro hxok hrc5 hk5 c0 c1 c2 c3 hW2
        have hol5 : outs.length < 64 := by have := Hol.out; omega
        by_cases he : (oneD q.1 (bs.drop a)).1 = 0
        · have hrd5 := (Hro.out.2.1 he)
          have Hrd5 := Lib.hid hrd5
          have hbr5 := lt_of_block hrd5.1
          have He := Lib.hid he
          obtain ⟨k0, k1, k2, k3, k4⟩ := rd_cells hrd5.1
          clear hrd5 he
          go_wp2_with (at_builtin; go_must (refine wpList_app1 (by rfl) _ _ 22 49 3 48 (by rfl) tyR w.heap.size _ _ _ [_, _, _] (by rfl) (by rfl) hown5 hb5 (by omega) rfl (by simp [Value.oneCell']) (by omega) (by omega) ?_); intro v' w7 ha; have hrd7 := Lib.hid ((ha.grown.block _ hbr5 (Ne.symm (own_ne hown5 Hrd5.out.1 (by decide)))).trans Hrd5.out.1); obtain ⟨m0, m1, m2, m3, m4⟩ := rd_cells hrd7.out; have Ha := Lib.hid ha; clear ha k0 k1 k2 k3 k4)
          go_roundw
          case rel =>
            have hx' := Hxok.out He.out
            have hrel : rc.rel w5 (OwnS w.heap.size (· = w1.heap.size) u4) [.int .u64 x.1.toNat, .string x.2.1, .slice A1 nl cl] x := by
              refine ⟨[.int .u64 x.1.toNat], [.string x.2.1, .slice A1 nl cl], rfl, rfl, [.string x.2.1], [.slice A1 nl cl], rfl, rfl, A1, nl, cl, rfl, hx'.2.1, hx'.2.2.1, ?_⟩
              refine hx'.2.2.2.mono (Keep.refl _ _) fun b hb hlt => ⟨?_, ?_, ?_⟩
              · have := HW2.out.size; omega
              · have := HW2.out.size; intro e; omega
              · intro e
                have h1 := (Hrc.out.1.lt b e.symm).2
                have := HW2.out.size; omega
            refine ⟨k + 1, a + (oneD q.1 (bs.drop a)).2.2, outs ++ [x], vss ++ [[.int .u64 x.1.toNat, .string x.2.1, .slice A1 nl cl]], by omega, by go_num, Hrd5.out.2, by simp [Hol.out], ?_, hrd7.out, ?_, Ha.out.below, ?_⟩
            · rw [Hdec2.out, List.drop_eq_getElem_cons hks, decL, ← Hqc.out, if_neg (by simp [He.out]), ← hx'.1]
            · exact OwnRc.app Hrc5.out Ha.out rfl rfl hrel
            · have hk5 := Hk5.out
              have hne := own_ne hk5 Hrd5.out.1 (by decide)
              refine ⟨hk5.1, ?_⟩
              rcases hk5.2 with hn | ⟨g', cap, cur, hv, hbg, hgg, rest⟩
              · exact .inl hn
              · refine .inr ⟨g', cap, cur, hv, hbg, ?_, rest⟩
                rw [Ha.out.grown.block g' (Array.getElem?_eq_some_iff.1 hgg).1 (Ne.symm (own_ne hown5 hgg (by decide)))]
                exact hgg
          case measure => simp [intOf]; omega
        · obtain ⟨a1, hrd5⟩ := (Hro.out.2.2 he)
          have Hrd5 := Lib.hid hrd5
          have hbr5 := lt_of_block hrd5
          have He := Lib.hid he
          have hne : ((oneD q.1 (bs.drop a)).1 != 0) = true := by rw [bne_iff_ne]; exact he
          obtain ⟨k0, k1, k2, k3, k4⟩ := rd_cells hrd5
          clear hrd5 he
          go_wp2_with (at_builtin; go_must (refine wpList_app1 (by rfl) _ _ 22 49 3 48 (by rfl) tyR w.heap.size _ _ _ [_, _, _] (by rfl) (by rfl) hown5 hb5 (by omega) rfl (by simp [Value.oneCell']) (by omega) (by omega) ?_); intro v' w7 ha; have hrd7 := Lib.hid ((ha.grown.block _ hbr5 (Ne.symm (own_ne hown5 Hrd5.out (by decide)))).trans Hrd5.out); obtain ⟨m0, m1, m2, m3, m4⟩ := rd_cells hrd7.out; have hb7 := ha.below; clear ha k0 k1 k2 k3 k4)
          go_quiet (fail)
          go_wp2_with fail
          go_ret3
          exact decPost_err (by rw [Hdec2.out, List.drop_eq_getElem_cons hks, decL, ← Hqc.out, if_pos He.out]) (hb7.trans ⟨rfl, rfl, rfl, Nat.le_refl _, fun _ _ => rfl⟩)
      · have hks : k = s.size := by omega
        have hend : decI s.data.toList bs = if 4000 < a then (3, [], 0) else (0, outs, a) := by
          rw [Hdec2.out, List.drop_eq_nil_of_le (show s.data.toList.length ≤ k by rw [Hss.out]; omega)]
          rfl
        have Hend := Lib.hid hend
        obtain ⟨k0, k1, k2, k3, k4⟩ := rd_cells Hrd.out
        clear hend hks hown hb
        by_cases h4 : 4000 < a
        · have h4' : (4000 : Int) < (a : Int) := by omega
          have H4 := Lib.hid h4
          clear h4
          go_wp2_with fail
          go_ret3
          exact decPost_err (by rw [Hend.out, if_pos H4.out]) Hb.out
        · have h4' : (a : Int) ≤ 4000 := by omega
          have H4 := Lib.hid h4
          clear h4
          go_wp2_with fail
          go_quiet (fail)
          go_wp2_with fail
          go_ret3
          rw [Hend.out, if_neg H4.out]
          have hD : Below wr.heap.size wr (wr.drewN nq) := ⟨rfl, rfl, rfl, Nat.le_refl _, fun _ _ => rfl⟩
          refine ⟨_, vss, rfl, ?_, Hb.out.trans (hD.mono hz2)⟩
          have h := Hrc.out.below hD
          exact ⟨h.1, h.2.1, fun i a b => rc.mono (Keep.refl _ _) (fun b hb _ => ⟨hb.1, id, hb.2.2⟩) (h.2.2 i a b)⟩
  · have Hf := Lib.hid hf
    clear hf
    go_enter Try.func11, Try.ntmps11
    have hne : (formI s.data.toList != 0) = true := by rw [bne_iff_ne]; exact Hf.out
    go_wp2_with (go_at_call 20; go_must (refine (parse_any _ _).mono ?_); rintro e w1 ⟨v, rfl, hb, ho⟩; clear ho)
    go_ret3
    exact decPost_err (by unfold decI; rw [if_pos Hf.out]) hb
end Go.Proofs.Ytlbgepgpihklfaa.Rec
