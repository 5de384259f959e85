/- The abstract machine: maps whose keys are strings. No program is named. -/
import Derived.Test.YtfcihdkflnpcgaaAmV
import Derived.MapKept
namespace Go.Proofs.Ytfcihdkflnpcgaa.Am
open Go.RowKit Lw
section
variable {F : Fence} {P : Program} {T : Tys} {X : Cx} {S : Nat → Prop} {ν : Nat → Value} {st : AS} {a : Act} {w : World} {o : Oper} {K : Nat → Bool} {Q : Exit → Act → World → Prop}
/-- The keys of a map's entries. -/
def KeysM (es : Array MapEntry) (ns : List ByteArray) : Prop := es.toList.map (·.key) = ns.map Value.string
def inK (ns : List ByteArray) (s : ByteArray) : Bool := ns.any fun y => decide (y = s)
theorem inK_iff {ns : List ByteArray} {s : ByteArray} : inK ns s = true ↔ s ∈ ns := by simp [inK]
def putK (ns : List ByteArray) (s : ByteArray) : List ByteArray := if inK ns s then ns else ns ++ [s]
theorem KeysM.size {es : Array MapEntry} {ns : List ByteArray} (h : KeysM es ns) : es.size = ns.length := by
  have := congrArg List.length h
  simpa using this
theorem m_makeMap {t : TypeId} (ho : o.op = .makeMap t none) : StepTo P K o st (· = st.new st.hp (fun i => .obj i (.map #[] 0)) o.dst (.own st.nid)) := by
  refine m_obj (u := .bool true) (fun _ => rfl) (fun b => .map (some b)) (.inr ⟨fun _ => rfl, rfl⟩) fun a w S ν X sat => ?_
  unfold execOp
  rw [ho]
  simp [Instr.makeMap, run_newObj_alloc]
theorem m_mapLen {c : Call} {t kt et : TypeId} {x : Operand} {id cl : Nat} {es : Array MapEntry} {ns : List ByteArray} {rest : List Chunk} (ho : o.op = .call c) (hc : c.callee = .builtin .len) (hx : c.args.toList = [x]) (ht : c.argTypes.toList = [t]) (hu : P.underlying t = some (.map kt et))
    (hx1 : aop st x = some (.o (.own id))) (htk : takeObj (fun _ => true) st.hp id = some (.map es cl, rest)) (hks : KeysM es ns) : StepTo P K o st (· = st.put o.dst (.o (.c (.int .i64 (ns.length : Nat))))) := by
  intro X S ν a w Q K' hd sat hk
  obtain ⟨e1, e2⟩ := (aop_ok sat hx1).1
  obtain ⟨hp, _⟩ := takeObj_perm htk
  obtain ⟨b, k1, k2, k3⟩ := sat.hp _ (hp.symm.subset (List.mem_cons_self ..))
  have hm : ν id = .map (some b) := k3 rfl
  obtain ⟨cs, ex⟩ := exec_builtin (a := a) ho hc hx (show c.argTypes = #[t] by rw [← Array.toList_inj]; exact ht)
  refine wp_value (w' := w) (u := .int .i64 (ns.length : Nat)) ?_ (hk _ S ν _ _ rfl (sat.put hd ⟨rfl, rfl⟩ trivial) ⟨Nat.le_refl _, fun _ h => h, fun ch hc hk => ⟨by rw [(AS.put_hp _ _ _).1]; exact hc, rfl⟩, fun _ _ => rfl⟩)
  rw [ex]
  have hg : (getObj b).run P w = .ok (.map es cl) w := Go.MapKept.run_getObj_map k2
  rw [← hks.size]
  simp [builtin, Builtin.len_, e1, hm, run_underlying hu, hg, goInt]
theorem m_mapUp {t kt et : TypeId} {x k v : Operand} {id cl : Nat} {es : Array MapEntry} {ns : List ByteArray} {s : ByteArray} {rest : List Chunk} (ho : o.op = .mapUpdate t x k v) (hdst : o.dst = none) (hu : P.underlying t = some (.map kt et)) (hkt : P.underlying kt = some .string)
    (hx : aop st x = some (.o (.own id))) (hkey : aop st k = some (.o (.c (.string s)))) (htk : takeObj (fun i => !K i) st.hp id = some (.map es cl, rest)) (hks : KeysM es ns) :
    StepTo P K o st (fun st' => ∃ es' cl', KeysM es' (putK ns s) ∧ st' = ⟨st.env, .obj id (.map es' cl') :: rest, st.nid⟩) := by
  intro X S ν a w Q K' hd sat hk
  obtain ⟨e1, e2⟩ := (aop_ok sat hx).1
  have hk1 : a.eval k = .string s := (aop_ok sat hkey).1.1
  have hall : ∀ y ∈ es.toList, Go.MapKept.IsKey .string y.key := fun y hy => by
    have : y.key ∈ es.toList.map (·.key) := List.mem_map_of_mem hy
    rw [hks] at this
    obtain ⟨z, _, e⟩ := List.mem_map.1 this
    rw [← e]; exact trivial
  have hrun : ∃ es' cl', KeysM es' (putK ns s) ∧ ∀ b, w.heap[b]? = some (.map es cl) → (Instr.mapUpdate t (.map (some b)) (.string s) (a.eval v)).run P w = .ok () (w.putObj b (.map es' cl')) := by
    rcases Go.MapKept.findNow_spec (d := .string) (k := .string s) trivial es.toList 0 hall with ⟨h1, h2⟩ | ⟨j, e0, h1, h2, h3⟩
    · have hns : s ∉ ns := fun hm => by
        have : Value.string s ∈ es.toList.map (·.key) := by rw [hks]; exact List.mem_map_of_mem hm
        obtain ⟨y, hy, e⟩ := List.mem_map.1 this
        exact h2 y hy e
      refine ⟨es.push ⟨.string s, a.eval v, cl⟩, cl + 1, ?_, fun b hb => ?_⟩
      · unfold KeysM putK
        rw [if_neg (fun h => hns (inK_iff.1 h)), Array.toList_push, List.map_append, hks, List.map_append]; rfl
      · simp [Instr.mapUpdate, run_underlying hu, Go.MapKept.run_getObj_map hb, Go.MapKept.run_checkKey (d := .string) (k := .string s) hkt trivial, Go.MapKept.run_findKey hkt h1, Go.MapKept.run_setObj_map _ hb, Result.andThen, World.putObj]
    · have hj : es[j]? = some e0 := by simpa using h2
      have hns : s ∈ ns := by
        have : e0.key ∈ es.toList.map (·.key) := List.mem_map_of_mem (List.mem_of_getElem? h2)
        rw [hks, h3] at this
        obtain ⟨z, hz, e⟩ := List.mem_map.1 this
        cases e; exact hz
      refine ⟨es.modify j (fun e' => { e' with key := .string s, val := a.eval v }), cl, ?_, fun b hb => ?_⟩
      · unfold KeysM putK
        rw [if_pos (inK_iff.2 hns), ← hks, Array.toList_modify]
        refine List.ext_getElem? fun i => ?_
        simp only [List.getElem?_map, List.getElem?_modify]
        by_cases e : j = i
        · subst e
          simp [h2, h3]
        · cases es.toList[i]? <;> simp [e]
      · rw [Nat.zero_add] at h1
        have hsb : Instr.sameBits 10000 (.string s) (.string s) = true := Go.MapKept.sameBits_self (d := .string) (k := .string s) trivial _
        have hst : (Instr.keyThatStays (.string s) (.string s)).run P w = .ok (.string s) w := by unfold Instr.keyThatStays; rw [if_pos hsb]; rfl
        simp [Instr.mapUpdate, run_underlying hu, Go.MapKept.run_getObj_map hb, Go.MapKept.run_checkKey (d := .string) (k := .string s) hkt trivial, Go.MapKept.run_findKey hkt h1, hj, h3, hst, Go.MapKept.run_setObj_map _ hb, Result.andThen, World.putObj]
  obtain ⟨es', cl', hk', hr⟩ := hrun
  obtain ⟨b, _, h1, h2, h3, h4⟩ := obj_step (K := K) (ob' := .map es' cl') (av := .o (.sb true)) (u := .bool true) hd sat htk rfl (fun _ => rfl) trivial
  have hm : ν id = .map (some b) := h1 rfl
  refine wp_skip' (w' := w.putObj b (.map es' cl')) hdst ?_ ?_
  · unfold execOp
    rw [ho]
    have := hr b h2
    simp [e1, hm, hk1, this]
  · rw [hdst] at h3 h4
    exact hk _ S ν _ _ ⟨es', cl', hk', rfl⟩ h3 h4
end
/-- All keys put. -/
def keysN (l : List ByteArray) : List ByteArray := l.foldl putK []
theorem mem_putK {ns : List ByteArray} {s x : ByteArray} : x ∈ putK ns s ↔ x ∈ ns ∨ x = s := by
  unfold putK
  split
  · rename_i h
    constructor
    · exact .inl
    · rintro (h1 | rfl)
      · exact h1
      · exact inK_iff.1 h
  · simp
theorem putK_len (ns : List ByteArray) (s : ByteArray) : (putK ns s).length = ns.length + if inK ns s then 0 else 1 := by
  unfold putK
  split
  · rfl
  · simp
theorem keysN_snoc (l : List ByteArray) (s : ByteArray) : keysN (l ++ [s]) = putK (keysN l) s := by simp [keysN]
theorem keysN_law (l : List ByteArray) : (∀ x, x ∈ keysN l ↔ x ∈ l) ∧ (keysN l).length ≤ l.length ∧ ((keysN l).length = l.length ↔ l.Nodup) := by
  rw [← List.reverse_reverse l]
  generalize l.reverse = r
  induction r with
  | nil => simp [keysN]
  | cons y r ih =>
    obtain ⟨h1, h2, h3⟩ := ih
    rw [List.reverse_cons, keysN_snoc]
    refine ⟨fun x => ?_, ?_, ?_⟩
    · rw [mem_putK, h1]; simp
    · rw [putK_len, List.length_append]; split <;> simp only [List.length_cons, List.length_nil] <;> omega
    · rw [putK_len, List.length_append, List.nodup_append]
      by_cases hy : y ∈ keysN r.reverse
      · rw [if_pos (inK_iff.2 hy)]
        have hy2 := (h1 y).1 hy
        constructor
        · intro h; simp only [List.length_cons, List.length_nil] at h; omega
        · intro h; exact absurd rfl (h.2.2 y hy2 y (by simp))
      · rw [if_neg (fun h => hy (inK_iff.1 h))]
        have hy2 : y ∉ r.reverse := fun h => hy ((h1 y).2 h)
        simp only [List.length_cons, List.length_nil]
        constructor
        · intro h
          refine ⟨h3.1 (by omega), by simp, fun a ha b hb e => ?_⟩
          rw [List.mem_singleton.1 hb] at e
          exact hy2 (e ▸ ha)
        · intro h; have := h3.2 h.1; omega
end Go.Proofs.Ytfcihdkflnpcgaa.Am
