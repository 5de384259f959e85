/- The abstract machine: what must hold that one state says less than another is reckoned out. No program is named. -/
import Derived.Test.YtfcihdkflnpcgaaAmL
namespace Go.Proofs.Ytfcihdkflnpcgaa.Am
open Go.RowKit Lw

def leCaps (g : Nat → Nat) : List (Nat × Nat) → List (Nat × Nat) → Bool
  | [], [] => true
  | (i, o) :: r, (j, o') :: r' => match Nat.beq i (g j), Nat.beq o o' with
    | true, true => leCaps g r r'
    | _, _ => false
  | _, _ => false
def leA1 (g : Nat → Nat) : A1 → A1 → Option (List Prop)
  | .c u, .c v => some [u = v]
  | .sb b, .sb c => some [b = c]
  | .sb b, .c v => some [.bool b = v]
  | .c v, .sb b => some [v = .bool b]
  | .own i, .own j => match Nat.beq i (g j) with
    | true => some []
    | false => none
  | .ptr i o, .ptr j o' => match Nat.beq i (g j), Nat.beq o o' with
    | true, true => some []
    | _, _ => none
  | .ro sz n c, .ro sz' n' c' => match Nat.beq sz sz' with
    | true => some [LeD sz n c n' c']
    | false => none
  | .c v, .ro _ n _ => some [v = .slice none 0 0, n = 0]
  | .clo f caps, .clo f' caps' => match Nat.beq f f', leCaps g caps caps' with
    | true, true => some []
    | _, _ => none
  | .optr i sz k o, .optr j sz' k' o' => match Nat.beq i (g j), Nat.beq o o' with
    | true, true => some [sz = sz', k = k']
    | _, _ => none
  | .vw i sz off n c, .vw j sz' off' n' c' => match Nat.beq i (g j) with
    | true => some [sz = sz', off = off', n = n', c = c']
    | _ => none
  | .eptr sz cell k off, .eptr sz' cell' k' off' => some [A1.eptr sz cell k off = A1.eptr sz' cell' k' off']
  | _, .any => some []
  | _, _ => none
def leL (g : Nat → Nat) : List A1 → List A1 → Option (List Prop)
  | [], [] => some []
  | a :: as, b :: bs => match leA1 g a b, leL g as bs with
    | some p, some q => some (appP p q)
    | _, _ => none
  | _, _ => none
def leS (g : Nat → Nat) : List (Sum A1 (List A1)) → List (Sum A1 (List A1)) → Option (List Prop)
  | [], [] => some []
  | .inl a :: as, .inl b :: bs => match leA1 g a b, leS g as bs with
    | some p, some q => some (appP p q)
    | _, _ => none
  | .inr a :: as, .inr b :: bs => match leL g a b, leS g as bs with
    | some p, some q => some (appP p q)
    | _, _ => none
  | _, _ => none
def leV (g : Nat → Nat) : AV → AV → Option (List Prop)
  | .o a, .o b => leA1 g a b
  | .g as, .g bs => leL g as bs
  | .t as, .t bs => leS g as bs
  | _, _ => none
def leVs (g : Nat → Nat) : List AV → List AV → Option (List Prop)
  | [], [] => some []
  | a :: as, b :: bs => match leV g a b, leVs g as bs with
    | some p, some q => some (appP p q)
    | _, _ => none
  | _, _ => none
def leE (g : Nat → Nat) (e : Env) : Env → Option (List Prop)
  | [] => some []
  | (t, v) :: r => match look e t with
    | some u => match leV g u v, leE g e r with
      | some p, some q => some (appP p q)
      | _, _ => none
    | none => none
def takeC : List Chunk → Nat → Option (Chunk × List Chunk)
  | [], _ => none
  | c :: r, id => match Nat.beq c.id id with
    | true => some (c, r)
    | false => match takeC r id with
      | some (d, r') => some (d, c :: r')
      | none => none
def leC1 (g : Nat → Nat) : Chunk → Chunk → Option (List Prop)
  | .box _ T cs, .box _ T' cs' => match Nat.beq T T' with
    | true => leL g cs cs'
    | false => none
  | .own _ E sz ct, .own _ E' sz' ct' => match Nat.beq E E', Nat.beq sz sz' with
    | true, true => some [LeD sz ct.n ct.cell ct'.n ct'.cell]
    | _, _ => none
  | .obj _ ob, .obj _ ob' => some [ob = ob']
  | .nest _ E ct j, .nest _ E' ct' j' => match Nat.beq E E', Nat.beq j (g j') with
    | true, true => some [LeD 1 ct.n ct.cell ct'.n ct'.cell]
    | _, _ => none
  | _, _ => none
/-- The chunks tk (their names turned) are among hp; what is left of hp. -/
def takeP (g : Nat → Nat) : List Chunk → List Chunk → Option (List Chunk × List Prop)
  | hp, [] => some (hp, [])
  | hp, c' :: r => match takeC hp (g c'.id) with
    | some (c, rest) => match leC1 g c c', takeP g rest r with
      | some p, some (left, q) => some (left, appP p q)
      | _, _ => none
    | none => none

section
variable {g : Nat → Nat} {ps : List Prop}
theorem appP_split {p q : List Prop} (h : ∀ x ∈ appP p q, x) : (∀ x ∈ p, x) ∧ ∀ x ∈ q, x := ⟨fun x hx => h x (mem_appP.2 (.inl hx)), fun x hx => h x (mem_appP.2 (.inr hx))⟩
theorem leCaps_ok : ∀ {c c' : List (Nat × Nat)}, leCaps g c c' = true → c = c'.map fun p => (g p.1, p.2)
  | [], [], _ => rfl
  | (i, o) :: r, (j, o') :: r', h => by
    simp only [leCaps] at h
    split at h
    · rename_i h1 h2
      rw [List.map_cons, ← leCaps_ok h, Nat.eq_of_beq_eq_true h1, Nat.eq_of_beq_eq_true h2]
    · cases h
  | [], _ :: _, h => nomatch h
  | _ :: _, [], h => nomatch h
theorem leA1_ok {a b : A1} (h : leA1 g a b = some ps) (hp : ∀ p ∈ ps, p) : LeA a (b.ren g) := by
  unfold leA1 at h
  split at h
  · cases h; exact LeA.cc (hp _ (List.mem_cons_self ..))
  · cases h; exact LeA.sb (hp _ (List.mem_cons_self ..))
  · rename_i b' v
    cases h
    have e := hp _ (List.mem_cons_self ..)
    subst e
    exact LeA.bool b'
  · rename_i v b'
    cases h
    have e := hp _ (List.mem_cons_self ..)
    subst e
    exact LeA.unbool rfl
  · split at h
    · rename_i h1; cases h; exact LeA.rown (Nat.eq_of_beq_eq_true h1)
    · cases h
  · split at h
    · rename_i h1 h2; cases h; rw [Nat.eq_of_beq_eq_true h2]; exact LeA.rptr (Nat.eq_of_beq_eq_true h1)
    · cases h
  · split at h
    · rename_i h1
      cases h
      have e := Nat.eq_of_beq_eq_true h1
      subst e
      exact LeA.rro (hp _ (List.mem_cons_self ..))
    · cases h
  · cases h
    have e1 := hp _ (List.mem_cons_self ..)
    have e2 := hp _ (List.mem_cons_of_mem _ (List.mem_cons_self ..))
    subst e1
    exact LeA.rronil e2
  · split at h
    · rename_i h1 h2
      cases h
      have e := Nat.eq_of_beq_eq_true h1
      subst e
      exact LeA.rclo (by show A1.clo _ _ = A1.clo _ (List.map _ _); rw [← leCaps_ok h2])
    · cases h
  · split at h
    · rename_i h1 h2
      cases h
      have e1 := hp _ (List.mem_cons_self ..)
      have e2 := hp _ (List.mem_cons_of_mem _ (List.mem_cons_self ..))
      subst e1 e2
      rw [Nat.eq_of_beq_eq_true h2, Nat.eq_of_beq_eq_true h1]
      exact LeA.refl _
    · cases h
  · split at h
    · rename_i h1
      cases h
      have e1 := hp _ (List.mem_cons_self ..)
      have e2 := hp _ (List.mem_cons_of_mem _ (List.mem_cons_self ..))
      have e3 := hp _ (List.mem_cons_of_mem _ (List.mem_cons_of_mem _ (List.mem_cons_self ..)))
      have e4 := hp _ (List.mem_cons_of_mem _ (List.mem_cons_of_mem _ (List.mem_cons_of_mem _ (List.mem_cons_self ..))))
      subst e1 e2 e3 e4
      rw [Nat.eq_of_beq_eq_true h1]
      exact LeA.refl _
    · cases h
  · cases h
    have e := hp _ (List.mem_cons_self ..)
    rw [e]; exact LeA.refl _
  · exact fun w S ν u h => A1.one h
  · cases h
theorem leL_ok : ∀ {as bs : List A1} {ps : List Prop}, leL g as bs = some ps → (∀ p ∈ ps, p) → All2 LeA as (bs.map (A1.ren g))
  | [], [], _, _, _ => trivial
  | a :: as, b :: bs, ps, h, hp => by
    simp only [leL] at h
    split at h
    · rename_i p q h1 h2
      cases h
      obtain ⟨k1, k2⟩ := appP_split hp
      exact ⟨leA1_ok h1 k1, leL_ok h2 k2⟩
    · cases h
  | [], _ :: _, _, h, _ => nomatch h
  | _ :: _, [], _, h, _ => nomatch h
theorem leS_ok : ∀ {as bs : List (Sum A1 (List A1))} {ps : List Prop}, leS g as bs = some ps → (∀ p ∈ ps, p) → All2 LeS as (bs.map (sumRen g))
  | [], [], _, _, _ => trivial
  | .inl a :: as, .inl b :: bs, ps, h, hp => by
    simp only [leS] at h
    split at h
    · rename_i p q h1 h2
      cases h
      obtain ⟨k1, k2⟩ := appP_split hp
      exact ⟨leA1_ok h1 k1, leS_ok h2 k2⟩
    · cases h
  | .inr a :: as, .inr b :: bs, ps, h, hp => by
    simp only [leS] at h
    split at h
    · rename_i p q h1 h2
      cases h
      obtain ⟨k1, k2⟩ := appP_split hp
      exact ⟨leL_ok h1 k1, leS_ok h2 k2⟩
    · cases h
  | [], _ :: _, _, h, _ => nomatch h
  | .inl _ :: _, [], _, h, _ => nomatch h
  | .inr _ :: _, [], _, h, _ => nomatch h
  | .inl _ :: _, .inr _ :: _, _, h, _ => nomatch h
  | .inr _ :: _, .inl _ :: _, _, h, _ => nomatch h
theorem leV_ok {a b : AV} (h : leV g a b = some ps) (hp : ∀ p ∈ ps, p) : LeV a (b.ren g) := by
  unfold leV at h
  split at h
  · exact LeV.r (leA1_ok h hp)
  · exact LeV.rg (leL_ok h hp)
  · exact LeV.rt (leS_ok h hp)
  · cases h
theorem leVs_ok : ∀ {as bs : List AV} {ps : List Prop}, leVs g as bs = some ps → (∀ p ∈ ps, p) → All2 LeV as (bs.map (AV.ren g))
  | [], [], _, _, _ => trivial
  | a :: as, b :: bs, ps, h, hp => by
    simp only [leVs] at h
    split at h
    · rename_i p q h1 h2
      cases h
      obtain ⟨k1, k2⟩ := appP_split hp
      exact ⟨leV_ok h1 k1, leVs_ok h2 k2⟩
    · cases h
  | [], _ :: _, _, h, _ => nomatch h
  | _ :: _, [], _, h, _ => nomatch h
theorem leE_ok {e : Env} : ∀ {r : Env} {ps : List Prop}, leE g e r = some ps → (∀ p ∈ ps, p) → EnvLe e (r.map fun p => (p.1, p.2.ren g))
  | [], _, _, _ => trivial
  | (t, v) :: r, ps, h, hp => by
    simp only [leE] at h
    split at h
    · rename_i u hu
      split at h
      · rename_i p q h1 h2
        cases h
        obtain ⟨k1, k2⟩ := appP_split hp
        exact ⟨⟨u, hu, leV_ok h1 k1⟩, leE_ok h2 k2⟩
      · cases h
    · cases h
theorem takeC_ok : ∀ {hp : List Chunk} {id : Nat} {c : Chunk} {r : List Chunk}, takeC hp id = some (c, r) → c.id = id ∧ ∃ i, hp[i]? = some c ∧ hp.eraseIdx i = r
  | x :: hp, id, c, r, h => by
    simp only [takeC] at h
    split at h
    · rename_i h1; cases h; exact ⟨Nat.eq_of_beq_eq_true h1, 0, rfl, rfl⟩
    · split at h
      · rename_i d r' h2
        cases h
        obtain ⟨k1, i, k2, k3⟩ := takeC_ok h2
        exact ⟨k1, i + 1, by simpa using k2, by rw [List.eraseIdx_cons_succ, k3]⟩
      · cases h
theorem leC1_ok {c c' : Chunk} (h : leC1 g c c' = some ps) (hp : ∀ p ∈ ps, p) (hid : c.id = g c'.id) : LeC c (c'.ren g) := by
  unfold leC1 at h
  split at h
  · split at h
    · rename_i h1; exact ⟨hid, Nat.eq_of_beq_eq_true h1, leL_ok h hp⟩
    · cases h
  · split at h
    · rename_i h1 h2
      cases h
      exact ⟨hid, Nat.eq_of_beq_eq_true h1, Nat.eq_of_beq_eq_true h2, hp _ (List.mem_cons_self ..)⟩
    · cases h
  · cases h; exact ⟨hid, hp _ (List.mem_cons_self ..)⟩
  · split at h
    · rename_i h1 h2
      cases h
      exact ⟨hid, Nat.eq_of_beq_eq_true h1, Nat.eq_of_beq_eq_true h2, hp _ (List.mem_cons_self ..)⟩
    · cases h
  · cases h
theorem takeP_ok : ∀ {tk hp left : List Chunk} {ps : List Prop}, takeP g hp tk = some (left, ps) → (∀ p ∈ ps, p) → TakeH hp (tk.map (Chunk.ren g)) left
  | [], hp, left, ps, h, _ => by cases h; exact TakeH.rnil
  | c' :: r, hp, left, ps, h, hh => by
    simp only [takeP] at h
    split at h
    · rename_i c rest h1
      split at h
      · rename_i p left' q h2 h3
        cases h
        obtain ⟨k1, k2⟩ := appP_split hh
        obtain ⟨j1, i, j2, j3⟩ := takeC_ok h1
        exact ⟨i, c, j2, leC1_ok h2 k1 j1, by rw [j3]; exact takeP_ok h3 k2⟩
      · cases h
    · cases h
theorem takeP_sub : ∀ {tk hp left : List Chunk} {ps : List Prop}, takeP g hp tk = some (left, ps) → (∀ p ∈ ps, p) → SubH hp (tk.map (Chunk.ren g))
  | [], hp, left, ps, h, _ => SubH.rnil
  | c' :: r, hp, left, ps, h, hh => by
    simp only [takeP] at h
    split at h
    · rename_i c rest h1
      split at h
      · rename_i p left' q h2 h3
        cases h
        obtain ⟨k1, k2⟩ := appP_split hh
        obtain ⟨j1, i, j2, j3⟩ := takeC_ok h1
        exact ⟨i, c, j2, leC1_ok h2 k1 j1, by rw [j3]; exact takeP_sub h3 k2⟩
      · cases h
    · cases h
end

def entP (N m : Nat) (st st' : AS) : Option (List Prop) := match st'.wf N, Nat.ble m st'.nid with
  | true, true => match leE (gEnv m st st') st.env st'.env, takeP (gEnv m st st') st.hp st'.hp with
    | some p, some (_, q) => some (appP p q)
    | _, _ => none
  | _, _ => none
section
variable {F : Fence} {P : Program} {T : Tys} {X : Cx} {st st' : AS} {Q : Exit → Act → World → Prop} {R : Act → World → Prop} {K : Nat → Bool}
theorem Ent.of {N m : Nat} {ps : List Prop} (hN : X.N = N) (hm : X.m = m) (h : entP N m st st' = some ps) (hp : AllP ps) : Ent X (gEnv X.m st st') st st' := by
  subst hN hm
  unfold entP at h
  split at h
  · rename_i h1 h2
    split at h
    · rename_i p left q h3 h4
      cases h
      obtain ⟨k1, k2⟩ := appP_split hp.mem
      exact Ent.auto h1 h2 (leE_ok h3 k1) (takeP_sub h4 k2)
    · cases h
  · cases h
def postP (T : Tys) (m : Nat) (fn : Func) (st : AS) (res : AV) (gives : List Chunk) : Option (List Prop) := match ares T st fn.results.toList with
  | some rvs => match retV rvs with
    | some rv => match leV (gOf m st.hp gives (appN (pairV rv res) (idsN m))) rv res, takeP (gOf m st.hp gives (appN (pairV rv res) (idsN m))) st.hp gives with
      | some p, some (_, q) => some (appP p q)
      | _, _ => none
    | none => none
  | none => none
theorem TE.ret' {ι : Type} {fn : Func} {takes : List Chunk} {pre : ι → Prop} {res : ι → AV} {gives : ι → List Chunk} {e : Exit} (he : e = .normal ∨ e = .ret) (hB : X.B0 = fun b => b ∈ blks X.ν0 takes) (hT : T.Ok P) (x : ι) (hpre : pre x) {m : Nat} {ps : List Prop} (hm : X.m = m) (h : postP T m fn st (res x) (gives x) = some ps) (hp : AllP ps) : TE X (postR P fn (RetR X takes pre res gives) e) st := by
  subst hm
  unfold postP at h
  split at h
  · rename_i rvs h1
    split at h
    · rename_i rv h2
      split at h
      · rename_i p left q h3 h4
        cases h
        obtain ⟨k1, k2⟩ := appP_split hp.mem
        exact TE.post he hB x hpre _ hT h1 h2 (leV_ok h3 k1) (takeP_sub h4 k2) gOf_fix
      · cases h
    · cases h
  · cases h

theorem AllP.go {ps : List Prop} (h : AllP ps) : AllP ps := h
def callP (st : AS) (c : Call) (f : FuncId) (args : List AV) (takes : List Chunk) (m : Nat) : Option ((Nat → Nat) × List Chunk × List Prop) := match acallee st c.callee, aops st c.args.toList with
  | some (f', caps), some vs => match allLt (gOf 0 st.hp takes (pairVs (vs ++ caps) args)) m st.nid with
    | true => match leVs (gOf 0 st.hp takes (pairVs (vs ++ caps) args)) (vs ++ caps) args, takeP (gOf 0 st.hp takes (pairVs (vs ++ caps) args)) st.hp takes with
      | some p, some (left, q) => some (gOf 0 st.hp takes (pairVs (vs ++ caps) args), left, (f' = f) :: appP p q)
      | _, _ => none
    | false => none
  | _, _ => none
theorem callP_ok {c : Call} {f : FuncId} {args : List AV} {takes : List Chunk} {m : Nat} {g : Nat → Nat} {left : List Chunk} {ps : List Prop} (h : callP st c f args takes m = some (g, left, ps)) (hp : AllP ps) : ∃ caps vs, acallee st c.callee = some (f, caps) ∧ aops st c.args.toList = some vs ∧ All2 LeV (vs ++ caps) (args.map (AV.ren g)) ∧ TakeH st.hp (takes.map (Chunk.ren g)) left ∧ ∀ i, i < m → g i < st.nid := by
  unfold callP at h
  split at h
  · rename_i f' caps vs h1 h2
    split at h
    · rename_i h4
      split at h
      · rename_i p left' q h5 h6
        cases h
        have e := hp.mem _ (List.mem_cons_self ..)
        obtain ⟨k1, k2⟩ := appP_split fun x hx => hp.mem x (List.mem_cons_of_mem _ hx)
        subst e
        exact ⟨caps, vs, h1, h2, leVs_ok h5 k1, takeP_ok h6 k2, allLt_ok h4⟩
      · cases h
    · cases h
  · cases h
/-- A call by a contract. -/
theorem TE.callW [Free F] {ι : Type} {f : FuncId} {args : List AV} {takes : List Chunk} {m M : Nat} {pre : ι → Prop} {res : ι → AV} {gives : ι → List Chunk} (hcon : Con P f args takes m M pre res gives) {l : List Oper} {o : Oper} {c : Call} {rest : List Oper} {N : Nat} (hN : X.N = N) (hd : dstOk N o = true) (hgd : aguard l st o = some true) (ho : o.op = .call c)
    {g : Nat → Nat} {left : List Chunk} {ps : List Prop} (h : callP st c f args takes m = some (g, left, ps)) (hp : AllP ps) (hk : ∀ x, pre x → TE X (wpListIn F 0 P l.toArray Q rest) (st.called left g m M o.dst (res x) (gives x))) : TE X (wpListIn F 0 P l.toArray Q (o :: rest)) st := by
  obtain ⟨caps, vs, h1, h2, h3, h4, h5⟩ := callP_ok h hp
  exact TE.call hcon hN hd hgd ho g h1 h2 h3 h4 h5 hk
theorem StepL.callW {ι : Type} {f : FuncId} {args : List AV} {takes : List Chunk} {m M : Nat} {pre : ι → Prop} {res : ι → AV} {gives : ι → List Chunk} (hcon : Con P f args takes m M pre res gives) {i fuel : Nat} {l : List Oper} {lb lb' : List Bool} {o : Oper} {c : Call} {N : Nat} (hN : X.N = N) (hi : nthO l i = some o) (hd : dstOk N o = true) (hgd : aguard l st o = some true) (ho : o.op = .call c)
    {g : Nat → Nat} {left : List Chunk} {ps : List Prop} (h : callP st c f args takes m = some (g, left, ps)) (hp : AllP ps) (hK : allK K g takes = true) (hb : normB (setB lb i) some = some lb') (hk : ∀ x, pre x → TL F P X l Q K fuel lb' (st.called left g m M o.dst (res x) (gives x))) : StepL F P X l Q K fuel lb st i :=
  fun hh => by
    obtain ⟨caps, vs, h1, h2, h3, h4, h5⟩ := callP_ok h hp
    refine StepAt.call hcon hN hi hd hgd ho g h1 h2 h3 h4 (allK_ok hK) h5 fun x hx' => ?_
    rw [normB_eq] at hb
    cases hb
    have := hk x hx' ⟨hh.1, by rw [setB_len, hh.2]⟩
    rw [setB_arr]; exact this

/-- What is known of numbers and contents, for 'simp only'. -/
theorem NS : (∀ s : ByteArray, (s = ByteArray.mk #[]) = (s.size = 0)) ∧ (∀ n : Nat, ((n : Int)).toNat = n) ∧ (∀ p : Prop, ∀ [Decidable p], (decide p = true) = p) ∧ (∀ p : Prop, ∀ [Decidable p], (decide p = false) = ¬p) ∧ (∀ b : Bool, ((!b) = true) = (b = false)) ∧ (∀ b : Bool, ((!b) = false) = (b = true)) ∧
    (∀ a b : Bool, ((a || b) = true) = (a = true ∨ b = true)) ∧ (∀ a b : Bool, ((a && b) = true) = (a = true ∧ b = true)) ∧ (∀ a b : Bool, ((a || b) = false) = (a = false ∧ b = false)) ∧ (∀ a b : Bool, ((a && b) = false) = (a = false ∨ b = false)) ∧ (∀ p : Prop, (¬¬p) = p) ∧
    (∀ a b : Nat, ((a : Int) < (b : Int)) = (a < b)) ∧ (∀ a b : Nat, ((a : Int) ≤ (b : Int)) = (a ≤ b)) ∧ (∀ a b : Nat, ((a : Int) = (b : Int)) = (a = b)) ∧ (∀ a b : Int, (¬ a < b) = (b ≤ a)) ∧ (∀ a b : Int, (¬ a ≤ b) = (b < a)) ∧ (∀ a b : Nat, (¬ a < b) = (b ≤ a)) ∧ (∀ a b : Nat, (¬ a ≤ b) = (b < a)) ∧
    (∀ l : List UInt8, (bytesC l).n = l.length) ∧ (∀ {α : Type} (f : α → Nat → DC) (d : α) (l : List α), (listC f d l).n = l.length) := by
  refine ⟨fun s => propext (strnil_iff s), fun n => rfl, fun p _ => decide_eq_true_eq, fun p _ => propext decide_eq_false_iff_not, fun b => by cases b <;> decide, fun b => by cases b <;> decide, fun a b => by cases a <;> cases b <;> decide, fun a b => by cases a <;> cases b <;> decide, fun a b => by cases a <;> cases b <;> decide, fun a b => by cases a <;> cases b <;> decide, fun p => propext Classical.not_not, fun a b => propext Int.ofNat_lt, fun a b => propext Int.ofNat_le, fun a b => propext Int.natCast_inj, fun a b => propext Int.not_lt, fun a b => propext Int.not_le, fun a b => propext Nat.not_lt, fun a b => propext Nat.not_le, fun l => rfl, fun f d l => rfl⟩
theorem OS : (AllP [] = True) ∧ (∀ p : Prop, AllP [p] = p) ∧ (∀ (p q : Prop) (r : List Prop), AllP (p :: q :: r) = (p ∧ AllP (q :: r))) ∧ (∀ l : List UInt8, (bytesC l).n = l.length) ∧ (∀ {α : Type} (f : α → Nat → DC) (d : α) (l : List α), (listC f d l).n = l.length) ∧ (∀ l : List (List DC), (litC l).n = l.length) ∧ (∀ a b : Ct, (appC a b).n = a.n + b.n) ∧ (nilC.n = 0) ∧
    (∀ s : ByteArray, (strC s).n = s.size) ∧ (∀ n z, (zeroC n z).n = n) ∧ (∀ c k o d, (setC c k o d).n = c.n) ∧ (∀ {α : Type} (a : α) (l : List α), (a :: l).length = l.length + 1) ∧ (∀ {α : Type}, ([] : List α).length = 0) ∧ (∀ {α : Type} (a b : List α), (a ++ b).length = a.length + b.length) ∧ (∀ {α β : Type} (f : α → β) (l : List α), (l.map f).length = l.length) ∧ (∀ n : Nat, ((n : Int)).toNat = n) ∧ ((2 : Int) ^ Int.toNat 1 = 2) ∧ (∀ c n, (headC c n).n = n) ∧ (∀ c p n, (partC c p n).n = n) ∧ (∀ c p s, (setRngC c p s).n = max c.n (p + s.n)) := by
  refine ⟨rfl, fun _ => rfl, fun _ _ _ => rfl, fun _ => rfl, fun _ _ _ => rfl, fun _ => rfl, fun _ _ => rfl, rfl, fun _ => rfl, fun _ _ => rfl, fun _ _ _ _ => rfl, fun _ _ => rfl, rfl, fun _ _ => List.length_append, fun _ _ => List.length_map _, fun _ => rfl, rfl, fun _ _ => rfl, fun _ _ _ => rfl, fun _ _ _ => rfl⟩
theorem LeD.lit {α : Type} {f : α → Nat → DC} {d : α} {sz n : Nat} {rs : List (List DC)} {l : List α} (hn : n = l.length) (h : RowsOk f sz rs l) : LeD sz (litC rs).n (litC rs).cell n (listC f d l).cell := by
  subst hn
  exact listC_lit h
theorem TE.rgo [Free F] (hT : T.Ok P) {N id : Nat} {l rest' : List Oper} {ps : List Prop} (hN : X.N = N) (h : st.force (fun s => arun T N l l s []) = (rest', st', ps)) (hps : AllP ps) (hk : TE X (wpListIn F 0 P l.toArray Q rest') st') : TE X ((Code.region id l.toArray false).wpIn F 0 P Q) st := TE.region (TE.run hT hN h hps hk)
end
/-! Short names of the control rules. -/
abbrev t1 := @TE.seq
abbrev t2 := @TE.done
abbrev t3 := @TE.thenN
abbrev t4 := @TE.inN
abbrev t5 := @TE.skip
abbrev t6 := @TE.block
abbrev t7 := @TE.ret
abbrev t8 := @TE.thenR
abbrev t9 := @TE.inR
abbrev tA := @TE.exit
abbrev tB := @TE.thenE
abbrev tC := @TE.inHit
abbrev tD := @TE.inMiss
abbrev tE := @TE.label
abbrev tF := @TE.goto
abbrev tG := @TE.thenG
abbrev tH := @TE.inG
abbrev tI := @TE.jumpN
abbrev tJ := @TE.jumpR
abbrev tK := @TE.jumpE
abbrev tL := @TE.jumpG
end Go.Proofs.Ytfcihdkflnpcgaa.Am
