/- The abstract machine: names are found by themselves. No program is named. -/
import Derived.Test.YtfcihdkflnpcgaaAmH
namespace Go.Proofs.Ytfcihdkflnpcgaa.Am
open Go.RowKit Lw

def pairC : List (Nat × Nat) → List (Nat × Nat) → List (Nat × Nat)
  | (i, _) :: r, (i', _) :: r' => (i', i) :: pairC r r'
  | _, _ => []
def pairA : A1 → A1 → List (Nat × Nat)
  | .own i, .own i' => [(i', i)]
  | .ptr i _, .ptr i' _ => [(i', i)]
  | .optr i _ _ _, .optr i' _ _ _ => [(i', i)]
  | .vw i _ _ _ _, .vw i' _ _ _ _ => [(i', i)]
  | .clo _ c, .clo _ c' => pairC c c'
  | _, _ => []
def appN : List (Nat × Nat) → List (Nat × Nat) → List (Nat × Nat)
  | [], q => q
  | p :: ps, q => p :: appN ps q
def pairL : List A1 → List A1 → List (Nat × Nat)
  | a :: as, b :: bs => appN (pairA a b) (pairL as bs)
  | _, _ => []
def pairS : List (Sum A1 (List A1)) → List (Sum A1 (List A1)) → List (Nat × Nat)
  | .inl a :: as, .inl b :: bs => appN (pairA a b) (pairS as bs)
  | .inr a :: as, .inr b :: bs => appN (pairL a b) (pairS as bs)
  | _ :: as, _ :: bs => pairS as bs
  | _, _ => []
def pairV : AV → AV → List (Nat × Nat)
  | .o a, .o b => pairA a b
  | .g as, .g bs => pairL as bs
  | .t as, .t bs => pairS as bs
  | _, _ => []
def pairVs : List AV → List AV → List (Nat × Nat)
  | a :: as, b :: bs => appN (pairV a b) (pairVs as bs)
  | _, _ => []
def pairE (e : Env) : Env → List (Nat × Nat)
  | [] => []
  | (t, v) :: r => match look e t with
    | some u => appN (pairV u v) (pairE e r)
    | none => pairE e r
def cellsAt : List Chunk → Nat → List A1
  | [], _ => []
  | .box i _ cells :: r, id => match Nat.beq i id with
    | true => cells
    | false => cellsAt r id
  | .nest i _ _ j :: r, id => match Nat.beq i id with
    | true => [.own j]
    | false => cellsAt r id
  | _ :: r, id => cellsAt r id
def deepN (hp hp' : List Chunk) : List (Nat × Nat) → List (Nat × Nat)
  | [] => []
  | (i', i) :: r => appN (pairL (cellsAt hp i) (cellsAt hp' i')) (deepN hp hp' r)
def lookN : List (Nat × Nat) → Nat → Nat
  | [], i => i
  | (a, b) :: r, i => match Nat.beq a i with
    | true => b
    | false => lookN r i
/-- The names of hp' in hp. -/
def gOf (m : Nat) (hp hp' : List Chunk) (l : List (Nat × Nat)) (i : Nat) : Nat := match Nat.blt i m with
  | true => i
  | false => lookN (appN l (deepN hp hp' l)) i
def idsN : Nat → List (Nat × Nat)
  | 0 => []
  | m + 1 => (m, m) :: idsN m
def gEnv (m : Nat) (st st' : AS) : Nat → Nat := gOf m st.hp st'.hp (appN (pairE st.env st'.env) (idsN m))
theorem gOf_fix {m : Nat} {hp hp' : List Chunk} {l : List (Nat × Nat)} : ∀ i, i < m → gOf m hp hp' l i = i := fun i hi => by
  have : Nat.blt i m = true := Nat.ble_eq_true_of_le hi
  simp [gOf, this]

section
variable {F : Fence} {P : Program} {T : Tys} {X : Cx} {st st' : AS} {Q : Exit → Act → World → Prop} {R : Act → World → Prop}

theorem Ent.auto (wf : st'.wf X.N = true) (hm : Nat.ble X.m st'.nid = true) (env : EnvLe st.env (st'.env.map fun p => (p.1, p.2.ren (gEnv X.m st st')))) (hp : SubH st.hp (st'.hp.map (Chunk.ren (gEnv X.m st st')))) : Ent X (gEnv X.m st st') st st' :=
  ⟨wf, ⟨gOf_fix, Nat.le_of_ble_eq_true hm⟩, env, hp⟩
theorem TE.again' {ι : Type} {pre : ι → Prop} {inv : ι → AS} {μ : ι → Nat} {n : Nat} (y : ι) (hy : pre y) (hμ : μ y < n) (h : Ent X (gEnv X.m st (inv y)) st (inv y)) : TE X (Again X pre inv μ n) st := TE.again y hy hμ _ h
theorem TE.loop' {ι : Type} (pre : ι → Prop) (inv : ι → AS) (μ : ι → Nat) (x0 : ι) (h0 : pre x0) (he : Ent X (gEnv X.m st (inv x0)) st (inv x0)) {c : Code}
    (round : ∀ x, pre x → TE X (c.wpIn F 0 P (Exit.then (Again X pre inv μ (μ x)) Q)) (inv x)) : TE X ((Code.loop c).wpIn F 0 P Q) st := TE.loop pre inv μ x0 h0 _ he round
theorem TE.ent' (h : Ent X (gEnv X.m st st') st st') (hk : TE X R st') : TE X R st := TE.ent h hk
theorem TE.post' {ι : Type} {fn : Func} {takes : List Chunk} {pre : ι → Prop} {res : ι → AV} {gives : ι → List Chunk} {e : Exit} (he : e = .normal ∨ e = .ret) (hB : X.B0 = fun b => b ∈ blks X.ν0 takes) (hT : T.Ok P) (x : ι) (hpre : pre x) {rvs : List AV} {rv : AV} (hr : ares T st fn.results.toList = some rvs) (hv : retV rvs = some rv)
    (hle : LeV rv ((res x).ren (gOf X.m st.hp (gives x) (pairV rv (res x))))) (hg : SubH st.hp ((gives x).map (Chunk.ren (gOf X.m st.hp (gives x) (pairV rv (res x)))))) : TE X (postR P fn (RetR X takes pre res gives) e) st :=
  TE.post he hB x hpre _ hT hr hv hle hg gOf_fix

end
section
variable {g : Nat → Nat}
theorem LeA.rc (v : Value) : LeA (.c v) ((A1.c v).ren g) := LeA.refl _
theorem LeA.rint {k : IntKind} {m n : Int} (h : m = n) : LeA (.c (.int k m)) ((A1.c (.int k n)).ren g) := LeA.int h
theorem LeA.rstr {s t : ByteArray} (h : s = t) : LeA (.c (.string s)) ((A1.c (.string t)).ren g) := LeA.str h
theorem LeA.rsb {b c : Bool} (h : b = c) : LeA (.sb b) ((A1.sb c).ren g) := LeA.sb h
theorem LeA.rb {b c : Bool} (h : b = c) : LeA (.sb b) ((A1.c (.bool c)).ren g) := LeA.bool' h
theorem LeA.rub {b c : Bool} (h : b = c) : LeA (.c (.bool b)) ((A1.sb c).ren g) := LeA.unbool h
theorem LeA.rown {i j : Nat} (h : i = g j) : LeA (.own i) ((A1.own j).ren g) := h ▸ LeA.refl _
theorem LeA.rptr {i j o : Nat} (h : i = g j) : LeA (.ptr i o) ((A1.ptr j o).ren g) := h ▸ LeA.refl _
theorem LeA.rro0 {sz n : Nat} {c : Nat → Nat → DC} : LeA (.ro sz n c) ((A1.ro sz n c).ren g) := LeA.refl _
theorem LeA.rro {sz n n' : Nat} {c c' : Nat → Nat → DC} (h : LeD sz n c n' c') : LeA (.ro sz n c) ((A1.ro sz n' c').ren g) := LeA.ro h
theorem LeA.rronil {sz n : Nat} {c : Nat → Nat → DC} (h : n = 0) : LeA (.c (.slice none 0 0)) ((A1.ro sz n c).ren g) := LeA.ronil' h
theorem LeV.r {a b : A1} (h : LeA a (b.ren g)) : LeV (.o a) ((AV.o b).ren g) := h
theorem LeV.rg {as bs : List A1} (h : All2 LeA as (bs.map (A1.ren g))) : LeV (.g as) ((AV.g bs).ren g) := by
  rintro w S ν u ⟨us, e, h'⟩
  exact ⟨us, e, All2.comp (fun a b c h1 h2 => h1 _ _ _ _ h2) h h'⟩
def LeS : Sum A1 (List A1) → Sum A1 (List A1) → Prop
  | .inl a, .inl b => LeA a b
  | .inr as, .inr bs => All2 LeA as bs
  | _, _ => False
theorem LeS.rel {x y : Sum A1 (List A1)} (h : LeS x y) {w : World} {S : Nat → Prop} {ν : Nat → Value} {u : Value} (hx : sumRel w S ν x u) : sumRel w S ν y u := by
  cases x with
  | inl a => cases y with
    | inl b => exact h _ _ _ _ hx
    | inr bs => exact h.elim
  | inr as => cases y with
    | inl b => exact h.elim
    | inr bs =>
      obtain ⟨us, e, h'⟩ := hx
      exact ⟨us, e, All2.comp (fun a b c h1 h2 => h1 _ _ _ _ h2) h h'⟩
theorem LeV.rt {as bs : List (Sum A1 (List A1))} (h : All2 LeS as (bs.map (sumRen g))) : LeV (.t as) ((AV.t bs).ren g) := by
  rintro w S ν u ⟨us, e, h'⟩
  exact ⟨us, e, All2.comp (R2 := sumRel w S ν) (fun a b c (h1 : LeS a b) (h2 : sumRel w S ν a c) => LeS.rel h1 h2) h h'⟩
theorem LeS.l {a b : A1} (h : LeA a (b.ren g)) : LeS (.inl a) (sumRen g (.inl b)) := h
theorem LeS.r {a b : List A1} (h : All2 LeA a (b.map (A1.ren g))) : LeS (.inr a) (sumRen g (.inr b)) := h
theorem All2.rnil : All2 LeA [] (([] : List A1).map (A1.ren g)) := trivial
theorem All2.rcons {a b : A1} {as bs : List A1} (h : LeA a (b.ren g)) (k : All2 LeA as (bs.map (A1.ren g))) : All2 LeA (a :: as) ((b :: bs).map (A1.ren g)) := ⟨h, k⟩
theorem All2.snil : All2 LeS [] (([] : List (Sum A1 (List A1))).map (sumRen g)) := trivial
theorem All2.scons {a b : Sum A1 (List A1)} {as bs : List (Sum A1 (List A1))} (h : LeS a (sumRen g b)) (k : All2 LeS as (bs.map (sumRen g))) : All2 LeS (a :: as) ((b :: bs).map (sumRen g)) := ⟨h, k⟩
theorem All2.vnil : All2 LeV [] (([] : List AV).map (AV.ren g)) := trivial
theorem All2.vcons {a b : AV} {as bs : List AV} (h : LeV a (b.ren g)) (k : All2 LeV as (bs.map (AV.ren g))) : All2 LeV (a :: as) ((b :: bs).map (AV.ren g)) := ⟨h, k⟩
theorem EnvLe.rnil {e : Env} : EnvLe e (([] : Env).map fun p => (p.1, p.2.ren g)) := trivial
theorem EnvLe.rcons {e r : Env} {t : Nat} {u v : AV} (hl : look e t = some u) (h : LeV u (v.ren g)) (k : EnvLe e (r.map fun p => (p.1, p.2.ren g))) : EnvLe e (((t, v) :: r).map fun p => (p.1, p.2.ren g)) := ⟨⟨u, hl, h⟩, k⟩
theorem SubH.rnil {hp : List Chunk} : SubH hp (([] : List Chunk).map (Chunk.ren g)) := by cases hp <;> exact trivial
theorem SubH.own (i : Nat) {hp r : List Chunk} {id id' E sz : Nat} {ct ct' : Ct} (hi : hp[i]? = some (.own id E sz ct)) (hid : id = g id') (h : LeDC sz ct ct') (k : SubH (hp.eraseIdx i) (r.map (Chunk.ren g))) : SubH hp ((.own id' E sz ct' :: r).map (Chunk.ren g)) := ⟨i, _, hi, ⟨hid, rfl, rfl, h⟩, k⟩
theorem SubH.box (i : Nat) {hp r : List Chunk} {id id' T : Nat} {cs cs' : List A1} (hi : hp[i]? = some (.box id T cs)) (hid : id = g id') (h : All2 LeA cs (cs'.map (A1.ren g))) (k : SubH (hp.eraseIdx i) (r.map (Chunk.ren g))) : SubH hp ((.box id' T cs' :: r).map (Chunk.ren g)) := ⟨i, _, hi, ⟨hid, rfl, h⟩, k⟩
theorem TakeH.rnil {hp : List Chunk} : TakeH hp (([] : List Chunk).map (Chunk.ren g)) hp := by cases hp <;> rfl
theorem TakeH.own (i : Nat) {hp r rest : List Chunk} {id id' E sz : Nat} {ct ct' : Ct} (hi : hp[i]? = some (.own id E sz ct)) (hid : id = g id') (h : LeDC sz ct ct') (k : TakeH (hp.eraseIdx i) (r.map (Chunk.ren g)) rest) : TakeH hp ((.own id' E sz ct' :: r).map (Chunk.ren g)) rest := ⟨i, _, hi, ⟨hid, rfl, rfl, h⟩, k⟩
theorem TakeH.box (i : Nat) {hp r rest : List Chunk} {id id' T : Nat} {cs cs' : List A1} (hi : hp[i]? = some (.box id T cs)) (hid : id = g id') (h : All2 LeA cs (cs'.map (A1.ren g))) (k : TakeH (hp.eraseIdx i) (r.map (Chunk.ren g)) rest) : TakeH hp ((.box id' T cs' :: r).map (Chunk.ren g)) rest := ⟨i, _, hi, ⟨hid, rfl, h⟩, k⟩
end
section
variable {F : Fence} {P : Program} {T : Tys} {X : Cx} {st st' : AS} {Q : Exit → Act → World → Prop} {R : Act → World → Prop}
/-- A call without memory of the caller's own. -/
theorem TE.call0 [Free F] {ι : Type} {f : FuncId} {args : List AV} {M : Nat} {pre : ι → Prop} {res : ι → AV} {gives : ι → List Chunk} (hcon : Con P f args [] 0 M pre res gives) {l : List Oper} {o : Oper} {c : Call} {rest : List Oper} {N : Nat} (hN : X.N = N) (hd : dstOk N o = true) (hgd : aguard l st o = some true) (ho : o.op = .call c)
    {caps vs : List AV} (hc : acallee st c.callee = some (f, caps)) (hx : aops st c.args.toList = some vs) (hargs : All2 LeV (vs ++ caps) (args.map (AV.ren id)))
    (hk : ∀ x, pre x → TE X (wpListIn F 0 P l.toArray Q rest) (st.called st.hp id 0 M o.dst (res x) (gives x))) : TE X (wpListIn F 0 P l.toArray Q (o :: rest)) st :=
  TE.call hcon hN hd hgd ho id hc hx hargs rfl (fun i hi => absurd hi (Nat.not_lt_zero i)) hk
/-- A call that uses up memory of the caller's own. -/
theorem TE.callM [Free F] {ι : Type} {f : FuncId} {args : List AV} {takes : List Chunk} {m M : Nat} {pre : ι → Prop} {res : ι → AV} {gives : ι → List Chunk} (hcon : Con P f args takes m M pre res gives) {l : List Oper} {o : Oper} {c : Call} {rest : List Oper} {N : Nat} (hN : X.N = N) (hd : dstOk N o = true) (hgd : aguard l st o = some true) (ho : o.op = .call c)
    {caps vs : List AV} {hrest : List Chunk} (hc : acallee st c.callee = some (f, caps)) (hx : aops st c.args.toList = some vs) {g : Nat → Nat} (hgg : g = gOf 0 st.hp takes (pairVs (vs ++ caps) args)) (hargs : All2 LeV (vs ++ caps) (args.map (AV.ren g))) (ht : TakeH st.hp (takes.map (Chunk.ren g)) hrest)
    (hg : ∀ i, i < m → g i < st.nid) (hk : ∀ x, pre x → TE X (wpListIn F 0 P l.toArray Q rest) (st.called hrest g m M o.dst (res x) (gives x))) : TE X (wpListIn F 0 P l.toArray Q (o :: rest)) st :=
  TE.call hcon hN hd hgd ho g hc hx hargs ht hg hk
theorem StepAt.call0 {K : Nat → Bool} {ι : Type} {f : FuncId} {args : List AV} {M : Nat} {pre : ι → Prop} {res : ι → AV} {gives : ι → List Chunk} (hcon : Con P f args [] 0 M pre res gives) {i fuel : Nat} {l : List Oper} {listed : Array Bool} {o : Oper} {c : Call} {N : Nat} (hN : X.N = N) (hi : nthO l i = some o) (hd : dstOk N o = true) (hgd : aguard l st o = some true) (ho : o.op = .call c)
    {caps vs : List AV} (hc : acallee st c.callee = some (f, caps)) (hx : aops st c.args.toList = some vs) (hargs : All2 LeV (vs ++ caps) (args.map (AV.ren id)))
    (hk : ∀ x, pre x → TH F P X l.toArray Q K fuel (listed.setIfInBounds i true) (st.called st.hp id 0 M o.dst (res x) (gives x))) : StepAt F P X l.toArray Q K fuel listed st i :=
  StepAt.call hcon hN hi hd hgd ho id hc hx hargs rfl (fun c hc => nomatch hc) (fun i hi => absurd hi (Nat.not_lt_zero i)) hk
/-- The slot of the bool that an operation waits for. -/
def gslot (l : List Oper) (o : Oper) : Option Nat := match o.guard with
  | some (j, _) => match nthO l j with
    | some oj => oj.dst
    | none => none
  | none => none
theorem TE.gsplit {l rest : List Oper} {o : Oper} {t : Nat} {b : Bool} (hg : gslot l o = some t) (hc : look st.env t = some (.o (.sb b))) (ht : b = true → TE X (wpListIn F 0 P l.toArray Q (o :: rest)) (st.put (some t) (.o (.c (.bool true)))))
    (hf : b = false → TE X (wpListIn F 0 P l.toArray Q (o :: rest)) (st.put (some t) (.o (.c (.bool false))))) : TE X (wpListIn F 0 P l.toArray Q (o :: rest)) st := TE.split hc ht hf
end
end Go.Proofs.Ytfcihdkflnpcgaa.Am
