/- Walk of the program's Encode and Size of records. -/
import Derived.Test.YtlbgepgpihklfaaRecP2
import Derived.StillTailTactics
import Derived.Laws.EntriesVeiled
namespace Go.Proofs.Ytlbgepgpihklfaa.Rec
open Go.RowKit Lw

def rc : El RcT := u64.prod (str.prod u32.slice)
theorem rc_at {w : World} {S : Nat → Prop} {b o : Nat} {x : RcT} (h : rc.At w S b o x) : w.cell? ⟨b, o, none⟩ = some (.int .u64 x.1.toNat) ∧ w.cell? ⟨b, o + 1, none⟩ = some (.string x.2.1) ∧ ∃ A n c, w.cell? ⟨b, o + 2, none⟩ = some (.slice A n c) ∧ n ≤ c ∧ c ≤ maxLen ∧ u32.Sl w S A n x.2.2 := by
  obtain ⟨h1, h2⟩ := h.of_prod
  obtain ⟨h2, h3⟩ := h2.of_prod
  exact ⟨h1.of_one, h2.of_one, h3.of_slice⟩

theorem kOf_ok (c : Nat) (h : okKind c = true) : ∃ q, kOf c = some q ∧ q ∈ kindsL ∧ q.1 = c := by
  obtain ⟨k, q, _, _, h3, h4, h5⟩ := kfind_some c h
  exact ⟨q, h4, List.mem_of_getElem? h3, h5⟩

theorem formC_at (s : Bs) (hs : s.all (fun c => okKind c.toNat) = true) (k : Nat) (hk : k < s.length) :
    ∃ q, q ∈ kindsL ∧ q.1 = s[k].toNat ∧ (formC s)[k * 4]? = some (.int .u8 q.1) ∧ (formC s)[k * 4 + 1]? = some (.int .i64 q.2.1) ∧ (formC s)[k * 4 + 2]? = some (fnV q.2.2.1) ∧ (formC s)[k * 4 + 3]? = some (fnV q.2.2.2) := by
  induction s generalizing k with
  | nil => simp at hk
  | cons c s ih =>
    rw [List.all_cons, Bool.and_eq_true] at hs
    obtain ⟨q, h1, h2, h3⟩ := kOf_ok _ hs.1
    have e : formC (c :: s) = kindC q ++ formC s := by simp [formC, h1]
    rw [e]
    match k with
    | 0 => exact ⟨q, h2, h3, rfl, rfl, rfl, rfl⟩
    | k + 1 =>
      obtain ⟨p, a1, a2, a3, a4, a5, a6⟩ := ih hs.2 k (by simpa using hk)
      have sh : ∀ j, (kindC q ++ formC s)[(k + 1) * 4 + j]? = (formC s)[k * 4 + j]? := by
        intro j
        rw [List.getElem?_append_right (by simp [kindC]; omega)]
        congr 1
        simp [kindC]; omega
      exact ⟨p, a1, a2, by have := sh 0; simp only [Nat.add_zero] at this; rw [this]; exact a3, by rw [sh 1]; exact a4, by rw [sh 2]; exact a5, by rw [sh 3]; exact a6⟩

theorem valI_len (k : Nat) (x : RcT) : (valI k x).2.length ≤ 410 := by
  unfold valI
  have h1 := grpI_len x.1.toNat
  have h2 := grpI_len x.2.1.size
  have h3 := grpI_len x.2.2.length
  have h4 := listI_len x.2.2
  have h5 : x.2.1.data.toList.length = x.2.1.size := rfl
  split
  · simp
  · split
    · simp
    · split
      · simp
      · split
        · simp; omega
        · split
          · simp only [List.length_append]; omega
          · split
            · simp only [List.length_append]; omega
            · simp only [lowI_len]; unfold widthN; split <;> (try split) <;> (try split) <;> (try split) <;> omega

theorem put_any (q : Nat × Nat × Nat × Nat) (hq : q ∈ kindsL) (x : RcT) (A : Option Addr) (n c base bw T : Nat) (v : Value) (xs : Bs) (w : World) (hx : RcV w (· < base) A n c x) (hw : Wr w base bw T v xs) (hB : base ≤ w.heap.size) (hT : T ≠ 5) (hl : xs.length ≤ 90000) (hsz : x.2.1.size ≤ 9223372036854775807) :
    Calls Try.prog q.2.2.1 #[.pointer (some ⟨bw, 0, none⟩), .agg #[.int .u8 q.1, .int .i64 q.2.1, fnV q.2.2.1, fnV q.2.2.2], rcAgg x A n c] w (WrPost w base bw T v xs (valI q.1 x)) := by
  simp only [kindsL, List.mem_cons, List.not_mem_nil, or_false] at hq
  rcases hq with rfl | rfl | rfl | rfl | rfl | rfl | rfl
  · exact wnumber_any 98 1 _ _ x A n c base bw T v xs w hx hw hB hT hl rfl (by omega)
  · exact wnumber_any 119 2 _ _ x A n c base bw T v xs w hx hw hB hT hl rfl (by omega)
  · exact wnumber_any 100 4 _ _ x A n c base bw T v xs w hx hw hB hT hl rfl (by omega)
  · exact wnumber_any 113 8 _ _ x A n c base bw T v xs w hx hw hB hT hl rfl (by omega)
  · exact wgroups_any 118 0 _ _ x A n c base bw T v xs w hx hw hB hT hl
  · exact wstr_any 115 0 _ _ x A n c base bw T v xs w hx hw hB hT hl hsz
  · exact wlist_any 108 0 _ _ x A n c base bw T v xs w hx hw hB hT hl

theorem put_enters (q : Nat × Nat × Nat × Nat) (hq : q ∈ kindsL) (args : Array Value) (w : World) : (callFunc q.2.2.1 args).run Try.prog w = .ok (.enter q.2.2.1 args) w := by
  simp only [kindsL, List.mem_cons, List.not_mem_nil, or_false] at hq
  rcases hq with rfl | rfl | rfl | rfl | rfl | rfl | rfl
  · exact callFunc_body Try.func33 (by kernel_rfl) (by kernel_rfl) args w
  · exact callFunc_body Try.func33 (by kernel_rfl) (by kernel_rfl) args w
  · exact callFunc_body Try.func33 (by kernel_rfl) (by kernel_rfl) args w
  · exact callFunc_body Try.func33 (by kernel_rfl) (by kernel_rfl) args w
  · exact callFunc_body Try.func35 (by kernel_rfl) (by kernel_rfl) args w
  · exact callFunc_body Try.func37 (by kernel_rfl) (by kernel_rfl) args w
  · exact callFunc_body Try.func39 (by kernel_rfl) (by kernel_rfl) args w

theorem encL_step (s : Bs) (l : List RcT) (k : Nat) (hs : k < s.length) (hl : k < l.length) (out : Bs) :
    encL (s.drop k) (l.drop k) out = if (valI s[k].toNat l[k]).1 = 0 then encL (s.drop (k + 1)) (l.drop (k + 1)) (out ++ (valI s[k].toNat l[k]).2) else ((valI s[k].toNat l[k]).1, []) := by
  rw [List.drop_eq_getElem_cons hs, List.drop_eq_getElem_cons hl]; rfl

/-- What a function that returns bytes and an error leaves. -/
def BytesErr (w : World) (r : Int × Bs) (e : Ending) (w' : World) : Prop :=
  ∃ v, e = .returned (.tuple #[v, .int .i64 r.1]) ∧ w'.ownsRow w.heap.size 5 1 v r.2.length (bytesV r.2) ∧ Below w.heap.size w w'
theorem bytesErr_err {w w' : World} {r : Int × Bs} {n : Int} (hr : r = (n, [])) (hb : Below w.heap.size w w') : BytesErr w r (.returned (.tuple #[.slice none 0 0, .int .i64 n])) w' := by
  subst hr; exact ⟨_, rfl, World.ownsRow_nil _ _ _ _, hb⟩

end Go.Proofs.Ytlbgepgpihklfaa.Rec
