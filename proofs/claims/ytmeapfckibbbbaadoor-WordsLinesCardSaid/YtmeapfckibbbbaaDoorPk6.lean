/- Texts of this claim, joined. -/
import Derived.Test.YtmeapfckibbbbaaDoorPk5
import Derived.Test.YtmeapfckibbbbaaDoorRows
import Derived.KernelRfl
import Derived.Handed
import Derived.HandedShaped
import Derived.Shelf.Vars
import Derived.Lib.LaidTab
import Derived.Lib.LaidU8
import Derived.Stop.LaidErr
set_option linter.unusedSimpArgs false
set_option linter.unusedVariables false
/- The words' arguments, opened; the laid variables, read; the wrap. -/
set_option linter.unusedVariables false
namespace Go
variable {H : Type} {enc : TypeId × Value → H}
theorem returnsInHanded_of_change_and_shaped {a : Assume} {C : Checked} {os : Os} {f : FuncId} {fn : Func} {s : ChangeSpec} {conds : List PathCond} {apart fresh handsOn again : Bool} {X : World → Array Value → Prop}
    (hX : ∀ (w w' : World) (args : Array Value), w.heap = w'.heap → X w args → X w' args)
    (own : ownKnob C.prog.godebug = none) (started : os.Started) (noInit : C.prog.inits.idxOf? f = none) (hfn : C.prog.funcs[f]? = some fn)
    (witness : ∃ (w : World) (tape : Tape) (i : Input), w.os = os ∧ (w.forCall tape i).Shaped C.prog ∧ i.vars = [] ∧ Input.okWide C.prog (w.forCall tape i) .any w.heap.size f i ∧
      ((s.pre enc C.prog fn conds apart (w.forCall tape i).memory i.args ∧ X (w.forCall tape i).memory i.args) ∧ sizedMet enc C.prog fn (OpenSpec.ofChange s) apart (w.forCall tape i).memory i.args) ∧ a.holds C.prog (lone (Frame.enter C.prog f i.args .normal) [] (w.forCall tape i)))
    (contract : ∀ (W : World) (base : Nat) (args : Array Value) (ds gs : List (DataW H)) (before : List MemPlace),
      (∀ (j : Nat) t v, fn.params[j]? = some t → args[j]? = some v → Value.okWide C.prog W .any base t v) →
      DataW.Whole enc C.prog fn.params.toList s.vars apart W args.toList ds gs before → X W args → W.ShapedOpen C.prog →
      Calls C.prog f args W fun e W' => ∃ v, e = .returned v ∧ s.post enc C.prog fn apart fresh handsOn again W args v W') :
    ReturnsInHanded a C os f .any (fun w args => (s.pre enc C.prog fn conds apart w args ∧ X w args) ∧ sizedMet enc C.prog fn (OpenSpec.ofChange s) apart w args) (s.post enc C.prog fn apart fresh handsOn again) := by
  refine returnsInHanded_of_calls own started noInit witness ?_
  intro w tape i _ hsh _ hok hpre hholds
  obtain ⟨_, _, _, fn', hfn', _, _, _, _, hval⟩ := hok
  have e : fn' = fn := Option.some.inj (hfn'.symm.trans hfn)
  subst e
  obtain ⟨⟨⟨ds, gs, before, hw, hc⟩, hx⟩, hz⟩ := hpre
  have hw' := DataW.Whole.of_heap (w' := w.forCall tape i) (by rfl) hw
  refine (contract (w.forCall tape i) w.heap.size i.args ds gs before hval hw' (hX _ _ _ (by rfl) hx) hsh).mono fun e W' ⟨v, he, hp⟩ => ?_
  subst he
  exact ChangeSpec.post_blind hp
end Go
namespace Go.Proofs.YtmeapfckibbbbaaDoor.Am
open Go.RowKit Lw Wo Go.ChangeShapes Go.WideShapes Go.Deep
theorem not_st {P : Program} {t : TypeId} {d : TypeDesc} (h : P.underlying t = some d) (hd : ∀ fs, d ≠ .struct fs) : ∀ fs, P.underlying t ≠ some (.struct fs) := fun fs e => hd fs (Option.some.inj (h.symm.trans e))
theorem not_ar {P : Program} {t : TypeId} {d : TypeDesc} (h : P.underlying t = some d) (hd : ∀ n e, d ≠ .array n e) : ∀ n e, P.underlying t ≠ some (.array n e) := fun n e' e => hd n e' (Option.some.inj (h.symm.trans e))
theorem ao_str : AOpen Tryd.prog 9 (fun s => .o (.c (.string s))) strG :=
  AOpen.one (DOpen.str (by kernel_rfl) (by kernel_rfl)) (not_st (d := .string) (by kernel_rfl) fun _ h => by cases h) (not_ar (d := .string) (by kernel_rfl) fun _ _ h => by cases h)
theorem ao_bool : AOpen Tryd.prog 4 (fun b : Bool => .o (.c (.bool b))) Any :=
  AOpen.one (DOpen.bool (by kernel_rfl) (by kernel_rfl)) (not_st (d := .bool) (by kernel_rfl) fun _ h => by cases h) (not_ar (d := .bool) (by kernel_rfl) fun _ _ h => by cases h)
section
variable {H : Type} {enc : TypeId × Value → H} {P : Program} {w : World} {base : Nat} {sp : Nat → Bool} {held : Bool}
theorem array_len {fuel : Nat} {t e : TypeId} {n : Nat} {cs : List Value} {x : DataW H × List MemPlace} (ht : P.underlying t = some (.array n e)) (h : DataW.trod enc P w base sp held fuel t cs = some x) : cs.length = P.cellsOf t := by
  cases fuel with
  | zero => simp [DataW.trod] at h
  | succ fuel =>
    simp only [DataW.trod, ht] at h
    split at h
    · assumption
    · cases h
end
def escPair (i : Nat) : DataW Unit := .agg ([(escL.getD (2 * i) 0 : Int), (escL.getD (2 * i + 1) 0 : Int)].map fun z => .lit (.int .u8 z))
theorem esc_cells {W : World} (h : Lib.VarReads Tryd.prog W "limewash/words.escapes" Rows.laid_limewash_words_escapes) : (Chunk.stat 0 0 10 escD).holds W (· < W.heap.size) (fun _ => undef) := by
  obtain ⟨g, t, cs, fuel, p, hg, hty, hvar, hd⟩ := h
  obtain rfl := Option.some.inj ((show Tryd.prog.globalNamed "limewash/words.escapes" = some 0 by kernel_rfl).symm.trans hg)
  obtain rfl := Option.some.inj ((show (Tryd.prog.globals[0]?).map (·.type) = some 86 by kernel_rfl).symm.trans hty)
  have hce : Tryd.prog.cellsOf 85 = 2 := by kernel_rfl
  have hct : Tryd.prog.cellsOf 86 = 10 := by kernel_rfl
  have hc1 : Tryd.prog.cellsOf 5 = 1 := by kernel_rfl
  have hu8 : Tryd.prog.underlying 5 = some (.int .u8) := by kernel_rfl
  have hlen : cs.size = 10 := by
    have := array_len Tryd.underlying86 hd
    rw [hct] at this
    simpa using this
  have key : ∀ i, i < 5 → (cs.toList.drop (i * 2)).take 2 = [(escL.getD (2 * i) 0 : Int), (escL.getD (2 * i + 1) 0 : Int)].map fun z => Value.int .u8 z := by
    intro i hi
    obtain ⟨fuel', d, q, hdi, he⟩ := Lib.array_elem Tryd.underlying86 hd i hi
    rw [hce] at he
    have hdp : d = escPair i := by
      match i, hi, hdi with
      | 0, _, hdi => cases hdi; rfl
      | 1, _, hdi => cases hdi; rfl
      | 2, _, hdi => cases hdi; rfl
      | 3, _, hdi => cases hdi; rfl
      | 4, _, hdi => cases hdi; rfl
    rw [hdp] at he
    exact Lib.ints_of_struct Tryd.underlying85 (fun j f hj => by
      match j, hj with
      | 0, hj => simp at hj; subst hj; exact ⟨hu8, rfl, hc1⟩
      | 1, hj => simp at hj; subst hj; exact ⟨hu8, rfl, hc1⟩
      | j + 2, hj => simp at hj) (by rw [hce]; rfl) he
  refine stat_of_var 0 hvar (by kernel_rfl) hlen fun j u hj hu => ?_
  have hk := congrArg (·[j % 2]?) (key (j / 2) (by omega))
  simp only [List.getElem?_take, List.getElem?_drop] at hk
  rw [if_pos (by omega), show j / 2 * 2 + j % 2 = j by omega, Array.getElem?_toList, hu] at hk
  refine ⟨?_, ?_⟩
  · rcases Nat.mod_two_eq_zero_or_one j with h2 | h2
    · rw [h2] at hk
      have h3 : 2 * (j / 2) = j := by omega
      rw [h3] at hk
      exact Option.some.inj hk
    · rw [h2] at hk
      have h3 : 2 * (j / 2) + 1 = j := by omega
      rw [h3] at hk
      exact Option.some.inj hk
  · rfl
theorem pow_cells {W : World} (h : Lib.TabIs Tryd.prog W "internal/strconv.uint64pow10" .u64 Lib.pow10Tab) : (Chunk.stat 3 3 20 powD).holds W (· < W.heap.size) (fun _ => undef) := by
  refine stat_of_var 3 h (by kernel_rfl) (by rfl) fun j u hj hu => ⟨?_, rfl⟩
  have hl : Lib.pow10Tab.length = 20 := rfl
  simp only [List.getElem?_toArray, List.getElem?_map] at hu
  rw [List.getElem?_eq_getElem (by omega)] at hu
  simp only [Option.map_some, Option.some.injEq] at hu
  rw [← hu, List.getD_eq_getElem?_getD, List.getElem?_eq_getElem (by omega)]
  rfl
theorem starE : ("*errors.errorString" : String) = "*" ++ "errors.errorString" := by decide
theorem row_err (u : TypeId) (h : Tryd.prog.typeName? 3 u = some "*errors.errorString") : u = 124 :=
  typeName_ptr_named (nm := "errors.errorString") (by rw [← starE]; kernel_rfl) (by kernel_rfl) (by decide) u (by rw [← starE]; exact h)
abbrev glLaid : List (String × DataW Unit) := [("math/bits.deBruijn32tab", Rows.laid_math_bits_deBruijn32tab), ("math/bits.deBruijn64tab", Rows.laid_math_bits_deBruijn64tab), ("internal/strconv.uint64pow10", Rows.laid_internal_strconv_uint64pow10), ("unicode/utf8.acceptRanges", Rows.laid_unicode_utf8_acceptRanges), ("strconv.ErrRange", Rows.laid_strconv_ErrRange), ("strconv.ErrSyntax", Rows.laid_strconv_ErrSyntax), ("limewash/words.escapes", Rows.laid_limewash_words_escapes), ("unicode/utf8.first", Rows.laid_unicode_utf8_first)]
/-- What the words' package reads of laid variables is as it was laid. -/
theorem glC_of {W : World} (h : laidMet Tryd.prog glLaid W) (hs : W.ShapedOpen Tryd.prog) : ∃ m te pe, ∀ c ∈ glC m te pe, c.holds W (· < W.heap.size) (fun _ => undef) := by
  have hp := Lib.tabIs_of_head (k := .u64) (zs := Lib.pow10Tab) (name := "internal/strconv.uint64pow10") (g := 3) (t := 117) (e := 92) (n := 20) (by kernel_rfl) (by kernel_rfl) Tryd.underlying117 Tryd.underlying92 (by kernel_rfl) (by kernel_rfl) h.tail.tail
  have he := esc_cells (Lib.laidMet.reads h (by simp [glLaid]))
  obtain ⟨a, s, hv, _, _, _⟩ := laid_sentinel (P := Tryd.prog) (n := "strconv.ErrRange") (g := 2) (ti := 50) (tp := 124) (te := 126) (ts := 9) h.tail.tail.tail.tail (by kernel_rfl) (by kernel_rfl) Tryd.underlying50 row_err (by kernel_rfl) Tryd.underlying126 rfl rfl (by kernel_rfl) (by kernel_rfl) (by kernel_rfl)
  obtain ⟨m, hm⟩ := Proofs.cell_of_shapedOpen_int (g := 4) (t := 3) (zero := #[.int .i64 0]) (k := .i64) hs (Nat.le_of_ble_eq_true (by kernel_rfl)) (by kernel_rfl) rfl (by kernel_rfl) (by kernel_rfl) (by kernel_rfl)
  refine ⟨m, 124, .pointer (some a), fun c hc => ?_⟩
  rcases List.mem_cons.1 hc with rfl | hc
  · exact he
  rcases List.mem_cons.1 hc with rfl | hc
  · obtain ⟨cs, h1, h2, _⟩ := hs.1 4 #[.int .i64 0] 3 (Nat.le_of_ble_eq_true (by kernel_rfl)) (by kernel_rfl)
    have hlt : 4 < W.heap.size := (Array.getElem?_eq_some_iff.1 h1).1
    refine ⟨hlt, hlt, fun j hj => ?_, cs, _, _, h1, h2⟩
    obtain rfl : j = 0 := by omega
    exact ⟨_, hm, rfl, rfl⟩
  rcases List.mem_cons.1 hc with rfl | hc
  · exact stat_of_var 2 hv (by kernel_rfl) (by rfl) fun j u hj hu => by
      obtain rfl : j = 0 := by omega
      cases hu
      exact ⟨rfl, rfl⟩
  · obtain rfl := List.mem_singleton.1 hc
    exact pow_cells hp
end Go.Proofs.YtmeapfckibbbbaaDoor.Am
