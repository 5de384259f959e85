/- Texts of this claim, joined. -/
import Derived.Test.YtalmoocpebhoiaaGreatDoorPk2
import Derived.Laws.StructEq
import Derived.Lib.Overlaps
import GoSem.Core.Utf8
import Derived.Laws.NewFold
import Derived.MapKept
import Derived.WideLaws
import Derived.Lib.SlTrimSet
import Derived.Lib.ParseIntB
import Derived.Lib.Strings
import Derived.Lib.ParseIntBCases
import Derived.Lib.IndexMore
import Derived.Lib.ItoaMem
import Derived.Lib.Bytealg
import Derived.Lib.Split
import Derived.Lib.Join
import Derived.Deep.Slices
import Derived.Deep.Fields
import Derived.ChangeArms
import Derived.ChangeSame
import Derived.ChangeSlices
import Derived.ChangeOld
import Derived.OpenShut
import Derived.Carry
import Derived.ProofKit
set_option linter.unusedSimpArgs false
set_option linter.unusedVariables false
set_option maxRecDepth 20000
set_option maxHeartbeats 8000000
namespace Go.Proofs.YtalmoocpebhoiaaGreatDoor.Am
open Go.RowKit Lw
def pairC:List (Nat×Nat)→List (Nat×Nat)→List (Nat×Nat)
 | (i,_) :: r,(i',_) :: r'=>(i',i) :: pairC r r'
 | _,_=>[]
def pairA:A1→A1→List (Nat×Nat)
 | .own i,.own i'=>[(i',i)]
 | .ptr i _,.ptr i' _=>[(i',i)]
 | .optr i _ _ _,.optr i' _ _ _=>[(i',i)]
 | .vw i _ _ _ _,.vw i' _ _ _ _=>[(i',i)]
 | .clo _ c,.clo _ c'=>pairC c c'
 | _,_=>[]
def appN:List (Nat×Nat)→List (Nat×Nat)→List (Nat×Nat)
 | [],q=>q
 | p :: ps,q=>p :: appN ps q
def pairL:List A1→List A1→List (Nat×Nat)
 | a :: as,b :: bs=>appN (pairA a b) (pairL as bs)
 | _,_=>[]
def pairS:List (Sum A1 (List A1))→List (Sum A1 (List A1))→List (Nat×Nat)
 | .inl a :: as,.inl b :: bs=>appN (pairA a b) (pairS as bs)
 | .inr a :: as,.inr b :: bs=>appN (pairL a b) (pairS as bs)
 | _ :: as,_ :: bs=>pairS as bs
 | _,_=>[]
def pairV:AV→AV→List (Nat×Nat)
 | .o a,.o b=>pairA a b
 | .g as,.g bs=>pairL as bs
 | .t as,.t bs=>pairS as bs
 | _,_=>[]
def pairVs:List AV→List AV→List (Nat×Nat)
 | a :: as,b :: bs=>appN (pairV a b) (pairVs as bs)
 | _,_=>[]
def pairE (e:Env):Env→List (Nat×Nat)
 | []=>[]
 | (t,v) :: r=>match look e t with
  | some u=>appN (pairV u v) (pairE e r)
  | none=>pairE e r
def cellsAt:List Chunk→Nat→List A1
 | [],_=>[]
 | .box i _ cells :: r,id=>match Nat.beq i id with
  | true=>cells
  | false=>cellsAt r id
 | .nest i _ _ j :: r,id=>match Nat.beq i id with
  | true=>[.own j]
  | false=>cellsAt r id
 | _ :: r,id=>cellsAt r id
def deepN (hp hp' : List Chunk):List (Nat×Nat)→List (Nat×Nat)
 | []=>[]
 | (i',i) :: r=>appN (pairL (cellsAt hp i) (cellsAt hp' i')) (deepN hp hp' r)
def lookN:List (Nat×Nat)→Nat→Nat
 | [],i=>i
 | (a,b) :: r,i=>match Nat.beq a i with
  | true=>b
  | false=>lookN r i
def gOf (m:Nat) (hp hp' : List Chunk) (l:List (Nat×Nat)) (i:Nat):Nat:=match Nat.blt i m with
 | true=>i
 | false=>lookN (appN l (deepN hp hp' l)) i
def idsN:Nat→List (Nat×Nat)
 | 0=>[]
 | m+1=>(m,m) :: idsN m
def gEnv (m:Nat) (st st' : AS):Nat→Nat:=gOf m st.hp st'.hp (appN (pairE st.env st'.env) (idsN m))
theorem gOf_fix {m:Nat} {hp hp' : List Chunk} {l:List (Nat×Nat)}:∀ i,i<m→gOf m hp hp' l i=i:=fun i hi=>by
 have:Nat.blt i m=true:=Nat.ble_eq_true_of_le hi
 simp [gOf,this]
section
variable {F:Fence} {P:Program} {T:Tys} {X:Cx} {st st' : AS} {Q:Exit→Act→World→Prop} {R:Act→World→Prop}
theorem Ent.auto (wf:st'.wf X.N=true) (hm:Nat.ble X.m st'.nid=true) (env:EnvLe st.env (st'.env.map fun p=>(p.1,p.2.ren (gEnv X.m st st')))) (hp:SubH st.hp (st'.hp.map (Chunk.ren (gEnv X.m st st')))):Ent X (gEnv X.m st st') st st':=
 ⟨wf,⟨gOf_fix,Nat.le_of_ble_eq_true hm⟩,env,hp⟩
theorem TE.again' {ι:Type} {pre:ι→Prop} {inv:ι→AS} {μ:ι→Nat} {n:Nat} (y:ι) (hy:pre y) (hμ:μ y<n) (h:Ent X (gEnv X.m st (inv y)) st (inv y)):TE X (Again X pre inv μ n) st:=TE.again y hy hμ _ h
theorem TE.loop' {ι:Type} (pre:ι→Prop) (inv:ι→AS) (μ:ι→Nat) (x0:ι) (h0:pre x0) (he:Ent X (gEnv X.m st (inv x0)) st (inv x0)) {c:Code}
  (round:∀ x,pre x→TE X (c.wpIn F 0 P (Exit.then (Again X pre inv μ (μ x)) Q)) (inv x)):TE X ((Code.loop c).wpIn F 0 P Q) st:=TE.loop pre inv μ x0 h0 _ he round
theorem TE.ent' (h:Ent X (gEnv X.m st st') st st') (hk:TE X R st'):TE X R st:=TE.ent h hk
end
section
variable {g:Nat→Nat}
theorem LeA.rown {i j:Nat} (h:i=g j):LeA (.own i) ((A1.own j).ren g):=h ▸ LeA.refl _
theorem LeA.rptr {i j o:Nat} (h:i=g j):LeA (.ptr i o) ((A1.ptr j o).ren g):=h ▸ LeA.refl _
theorem LeA.rro {sz n n' : Nat} {c c' : Nat→Nat→DC} (h:LeD sz n c n' c'):LeA (.ro sz n c) ((A1.ro sz n' c').ren g):=LeA.ro h
theorem LeA.rronil {sz n:Nat} {c:Nat→Nat→DC} (h:n=0):LeA (.c (.slice none 0 0)) ((A1.ro sz n c).ren g):=LeA.ronil' h
theorem LeV.r {a b:A1} (h:LeA a (b.ren g)):LeV (.o a) ((AV.o b).ren g):=h
theorem LeV.rg {as bs:List A1} (h:All2 LeA as (bs.map (A1.ren g))):LeV (.g as) ((AV.g bs).ren g):=by
 rintro w S ν u ⟨us,e,h'⟩
 exact ⟨us,e,All2.comp (fun a b c h1 h2=>h1 _ _ _ _ h2) h h'⟩
def LeS:Sum A1 (List A1)→Sum A1 (List A1)→Prop
 | .inl a,.inl b=>LeA a b
 | .inr as,.inr bs=>All2 LeA as bs
 | _,_=>False
theorem LeS.rel {x y:Sum A1 (List A1)} (h:LeS x y) {w:World} {S:Nat→Prop} {ν:Nat→Value} {u:Value} (hx:sumRel w S ν x u):sumRel w S ν y u:=by
 cases x with
 | inl a=>cases y with
  | inl b=>exact h _ _ _ _ hx
  | inr bs=>exact h.elim
 | inr as=>cases y with
  | inl b=>exact h.elim
  | inr bs=>
   obtain ⟨us,e,h'⟩:=hx
   exact ⟨us,e,All2.comp (fun a b c h1 h2=>h1 _ _ _ _ h2) h h'⟩
theorem LeV.rt {as bs:List (Sum A1 (List A1))} (h:All2 LeS as (bs.map (sumRen g))):LeV (.t as) ((AV.t bs).ren g):=by
 rintro w S ν u ⟨us,e,h'⟩
 exact ⟨us,e,All2.comp (R2:=sumRel w S ν) (fun a b c (h1:LeS a b) (h2:sumRel w S ν a c)=>LeS.rel h1 h2) h h'⟩
theorem LeS.l {a b:A1} (h:LeA a (b.ren g)):LeS (.inl a) (sumRen g (.inl b)):=h
theorem LeS.r {a b:List A1} (h:All2 LeA a (b.map (A1.ren g))):LeS (.inr a) (sumRen g (.inr b)):=h
theorem SubH.rnil {hp:List Chunk}:SubH hp (([]:List Chunk).map (Chunk.ren g)):=by cases hp<;>exact trivial
theorem TakeH.rnil {hp:List Chunk}:TakeH hp (([]:List Chunk).map (Chunk.ren g)) hp:=by cases hp<;>rfl
end
section
variable {F:Fence} {P:Program} {T:Tys} {X:Cx} {st st' : AS} {Q:Exit→Act→World→Prop} {R:Act→World→Prop}
def gslot (l:List Oper) (o:Oper):Option Nat:=match o.guard with
 | some (j,_)=>match nthO l j with
  | some oj=>oj.dst
  | none=>none
 | none=>none
theorem TE.gsplit {l rest:List Oper} {o:Oper} {t:Nat} {b:Bool} (hg:gslot l o=some t) (hc:look st.env t=some (.o (.sb b))) (ht:b=true→TE X (wpListIn F 0 P l.toArray Q (o :: rest)) (st.put (some t) (.o (.c (.bool true)))))
  (hf:b=false→TE X (wpListIn F 0 P l.toArray Q (o :: rest)) (st.put (some t) (.o (.c (.bool false))))):TE X (wpListIn F 0 P l.toArray Q (o :: rest)) st:=TE.split hc ht hf
end
section
variable {F:Fence} {P:Program} {T:Tys} {X:Cx} {st st' : AS} {Q:Exit→Act→World→Prop} {ops:Array Oper} {R:Act→World→Prop} {K:Nat→Bool}
def operL:Op→Option (List Operand)
 | .alloc _=>some []
 | .move x | .assign x | .box _ x | .load _ x | .nilCheck x | .unOp _ _ x | .convert _ _ x | .makeInterface _ x | .fieldAddr _ x _ | .field _ x _ | .range _ x | .next x _ | .typeAssert x _ _ _ | .extract x _=>some [x]
 | .pick c a b=>some [c,a,b]
 | .build _ ps | .buildSlice _ _ ps=>some (ps.toList.map (·.2))
 | .store _ a v | .binOp _ _ a v _ | .makeSlice _ a v | .indexAddr _ a v | .index _ a v | .lookup _ a v _=>some [a,v]
 | .makeFunc _ first captured=>some (first.toList++captured.toList)
 | .slice _ x l h m=>some (x :: (l.toList++(h.toList++m.toList)))
 | .call c=>match c.callee with
  | .value f=>some (f :: c.args.toList)
  | .invoke r _=>some (r :: c.args.toList)
  | .builtin _=>some c.args.toList
 | _=>none
theorem operL_ok {o:Op} {l:List Operand} (h:operL o=some l):o.operands.toList=l:=by
 cases o with
 | call c=>
  simp only [operL] at h
  simp only [Op.operands,Call.operands]
  split at h<;>cases h<;>rename_i e<;>rw [e]<;>simp
 | slice x a l h' m=>
  cases h
  cases l<;>cases h' <;> cases m<;>simp [Op.operands]
 | makeFunc f a b=>cases h;simp [Op.operands]
 | build t ps=>cases h;simp [Op.operands]
 | buildSlice t n ps=>cases h;simp [Op.operands]
 | _=>first | (cases h;rfl) | cases h
def tmpsL:List Operand→List Tmp
 | []=>[]
 | .tmp t :: r=>t :: tmpsL r
 | _ :: r=>tmpsL r
theorem tmpsL_ok:∀ (l:List Operand),(l.filterMap fun | .tmp t=>some t | _=>none)=tmpsL l
 | []=>rfl
 | x :: r=>by cases x<;>simp [tmpsL,tmpsL_ok r]
def looksL (l:List Oper) (o:Oper):Option (List Tmp):=match operL o.op with
 | some xs=>match gslot l o with
  | some t=>some (t :: tmpsL xs)
  | none=>some (tmpsL xs)
 | none=>none
theorem looksL_ok {l:List Oper} {o:Oper} {ts:List Tmp} (h:looksL l o=some ts) (t:Tmp):t∈o.looksAt l.toArray↔t∈ts:=by
 simp only [looksL] at h
 split at h
 ·rename_i xs hx
  have e0:o.looksAt l.toArray=tmpsL o.op.operands.toList++(match o.guard with
   | some (g,_)=>((l.toArray[g]?).bind (·.dst)).toList
   | none=>([]:List Tmp)):=congrArg (· ++ _) (tmpsL_ok _)
  rw [e0,operL_ok hx,List.mem_append]
  have hg:(match o.guard with
   | some (g,_)=>((l.toArray[g]?).bind (·.dst)).toList
   | none=>([]:List Tmp))=(gslot l o).toList:=by
   unfold gslot
   cases o.guard with
   | none=>rfl
   | some p=>
    simp only [nthO_eq]
    rw [show l.toArray[p.1]? = l[p.1]? by simp]
    cases l[p.1]? <;> rfl
  rw [hg]
  split at h<;>rename_i hs<;>cases h<;>rw [hs]<;>simp [or_comm]
 ·cases h
def hasL (t:Nat):List Nat→Bool
 | []=>false
 | x :: r=>match Nat.beq x t with
  | true=>true
  | false=>hasL t r
theorem hasL_ok {t:Nat}:∀ {l:List Nat},hasL t l=false→t ∉ l
 | [],_=>by simp
 | x :: r,h=>by
  simp only [hasL] at h
  split at h
  ·cases h
  ·rename_i hx
   rw [List.mem_cons,not_or]
   exact ⟨fun e=>absurd hx (by rw [e,Nat.beq_refl];simp),hasL_ok h⟩
def clash (d:Option Tmp) (l:List Nat):Bool:=match d with
 | some t=>hasL t l
 | none=>false
def apartL (l:List Oper) (x y:Oper):Bool:=match looksL l x,looksL l y with
 | some lx,some ly=>match clash x.dst ly,clash y.dst lx,clash x.dst (match y.dst with | some t=>[t] | none=>[]) with
  | false,false,false=>true
  | _,_,_=>false
 | _,_=>false
theorem apartL_ok {l:List Oper} {x y:Oper} (h:apartL l x y=true):x.apart l.toArray y=true:=by
 unfold apartL at h
 split at h
 ·rename_i lx ly hx hy
  split at h
  ·rename_i h1 h2 h3
   unfold Oper.apart
   rw [Bool.and_eq_true]
   constructor
   ·cases hd:x.dst with
    | none=>rfl
    | some d=>
     rw [hd] at h1 h3
     simp only [Bool.and_eq_true,Bool.not_eq_true',bne_iff_ne,ne_eq]
     refine ⟨?_,fun e=>?_⟩
     ·rw [Bool.eq_false_iff]
      intro hc
      exact hasL_ok h1 ((looksL_ok hy d).1 (by simpa using hc))
     ·rw [e] at h3
      exact hasL_ok h3 (by simp)
   ·cases hd:y.dst with
    | none=>rfl
    | some d=>
     rw [hd] at h2
     simp only [Bool.not_eq_true']
     rw [Bool.eq_false_iff]
     intro hc
     exact hasL_ok h2 ((looksL_ok hx d).1 (by simpa using hc))
  ·cases h
 ·cases h
def bnd (e:Edge):Bool:=match e.ground with
 | .textOnly _=>false
 | .gcOnly _=>false
 | _=>true
theorem bnd_eq (e:Edge):Region.binds .any e=bnd e:=by
 unfold Region.binds bnd
 cases e.ground<;>rfl
def getB:List Bool→Nat→Bool→Bool
 | [],_,d=>d
 | b :: _,0,_=>b
 | _ :: r,i+1,d=>getB r i d
theorem getB_eq:∀ (l:List Bool) (i:Nat) (d:Bool),getB l i d=l.toArray.getD i d
 | [],i,d=>by simp [getB]
 | b :: r,0,d=>by simp [getB]
 | b :: r,i+1,d=>by
  rw [getB,getB_eq r i d];simp
def waitsOn (i:Nat):List Edge→Bool
 | []=>false
 | e :: r=>match bnd e,Nat.beq e.on i with
  | true,true=>true
  | _,_=>waitsOn i r
theorem waitsOn_ok {i:Nat}:∀ {es:List Edge},waitsOn i es=true→(es.any fun e=>Region.binds .any e && e.on == i)=true
 | [],h=>by cases h
 | e :: r,h=>by
  simp only [waitsOn] at h
  rw [List.any_cons,bnd_eq]
  split at h
  ·rename_i h1 h2
   rw [h1,show (e.on == i)=true from beq_iff_eq.2 (Nat.eq_of_beq_eq_true h2)];rfl
  ·rw [waitsOn_ok h,Bool.or_true]
def freeL (l:List Oper) (i:Nat) (oi:Oper):Nat→List Oper→List Bool→Bool
 | _,[],_=>true
 | j,oj :: r,b :: bs=>match Nat.beq j i,b with
  | true,_=>freeL l i oi (j+1) r bs
  | _,true=>freeL l i oi (j+1) r bs
  | false,false=>match waitsOn i oj.after.toList with
   | true=>freeL l i oi (j+1) r bs
   | false=>match apartL l oi oj with
    | true=>freeL l i oi (j+1) r bs
    | false=>false
 | _,_ :: _,[]=>false
theorem freeL_ok {l:List Oper} {i:Nat} {oi:Oper}:∀ {r:List Oper} {bs:List Bool} {j0:Nat},freeL l i oi j0 r bs=true→∀ k oj,r[k]? = some oj→(j0+k == i || bs.toArray.getD k true || (oj.after.any (fun e=>Region.binds .any e && e.on == i) || oi.apart l.toArray oj))=true
 | [],_,_,_,k,oj,hk=>by simp at hk
 | o :: r,[],_,h,_,_,_=>by cases h
 | o :: r,b :: bs,j0,h,k,oj,hk=>by
  simp only [freeL] at h
  have step:freeL l i oi (j0+1) r bs=true→0<k→(j0+k == i || (b :: bs).toArray.getD k true || (oj.after.any (fun e=>Region.binds .any e && e.on == i) || oi.apart l.toArray oj))=true:=fun h h0=>by
   obtain ⟨k',rfl⟩:∃ k',k=k' + 1:=⟨k - 1,by omega⟩
   have:=freeL_ok h k' oj (by simpa using hk)
   rw [show j0+(k' + 1)=j0+1+k' by omega,show (b :: bs).toArray.getD (k' + 1) true=bs.toArray.getD k' true by simp]
   exact this
  rcases Nat.eq_zero_or_pos k with rfl | hk0
  ·have hoj:o=oj:=by simpa using hk
   subst hoj
   have hb:(b :: bs).toArray.getD 0 true=b:=by simp
   rw [hb]
   cases hji:Nat.beq j0 i with
   | true=>rw [show (j0+0 == i)=true from beq_iff_eq.2 (Nat.eq_of_beq_eq_true hji)];rfl
   | false=>
    cases b with
    | true=>simp
    | false=>
     simp only [hji] at h
     cases hw:waitsOn i o.after.toList with
     | true=>
      have:=waitsOn_ok hw
      rw [show (o.after.any fun e=>Region.binds .any e && e.on == i)=true by rw [← Array.any_toList];exact this];simp
     | false=>
      cases ha:apartL l oi o with
      | true=>rw [apartL_ok ha];simp
      | false=>simp only [hw,ha] at h;cases h
  ·refine step ?_ hk0
   split at h
   ·exact h
   ·exact h
   ·split at h
    ·exact h
    ·split at h
     ·exact h
     ·cases h
theorem freeL_free {l:List Oper} {lb:List Bool} {i:Nat} {oi:Oper} (hi:l.toArray[i]? = some oi) (h:freeL l i oi 0 l lb=true):Region.free .any l.toArray lb.toArray i=true:=by
 unfold Region.free
 rw [hi]
 simp only [List.all_eq_true,List.mem_range]
 intro j hj
 have hj' : j<l.length:=by simpa using hj
 have:=freeL_ok h j l[j] (by simp [hj'])
 have e:l.toArray[j]? = some l[j]:=by simp [hj']
 rw [e]
 simpa using this
def readyOp (lb:List Bool):List Edge→Bool
 | []=>true
 | e :: r=>match bnd e with
  | true=>match getB lb e.on false with
   | true=>readyOp lb r
   | false=>false
  | false=>readyOp lb r
theorem readyOp_eq {lb:List Bool}:∀ {es:List Edge},readyOp lb es=es.all fun e=>!Region.binds .any e || lb.toArray.getD e.on false
 | []=>rfl
 | e :: r=>by
  simp only [readyOp]
  rw [List.all_cons,bnd_eq,← getB_eq]
  cases bnd e<;>cases getB lb e.on false<;>simp [readyOp_eq (es:=r)]
def readyL (lb:List Bool):Nat→List Oper→List Bool→List Nat
 | j,o :: r,false :: bs=>match readyOp lb o.after.toList with
  | true=>j :: readyL lb (j+1) r bs
  | false=>readyL lb (j+1) r bs
 | j,_ :: r,true :: bs=>readyL lb (j+1) r bs
 | _,_,_=>[]
theorem readyL_eq {lb:List Bool} {ops:Array Oper} {listed:Array Bool} (hl:lb.toArray=listed):∀ {r:List Oper} {bs:List Bool} {j:Nat},(∀ k,k<r.length→ops[j+k]? = r[k]?∧listed.getD (j+k) true=bs.toArray.getD k true)→r.length=bs.length→
  (List.range' j r.length).filter (fun i=>!listed.getD i true && ((ops[i]?).map (·.after.all fun e=>!Region.binds .any e || listed.getD e.on false)).getD false)=readyL lb j r bs
 | [],[],j,_,_=>rfl
 | [],b :: bs,j,_,hn=>by simp at hn
 | o :: r,[],j,_,hn=>by simp at hn
 | o :: r,b :: bs,j,h,hn=>by
  have h0:=h 0 (by simp)
  have hrec:=readyL_eq hl (r:=r) (bs:=bs) (j:=j+1) (fun k hk=>by
   have:=h (k+1) (by simp;omega)
   rw [show j+1+k=j+(k+1) by omega]
   exact ⟨by simpa using this.1,by simpa using this.2⟩) (by simpa using hn)
  rw [List.length_cons,List.range'_succ,List.filter_cons,hrec]
  rw [show ops[j]? = some o by simpa using h0.1,show listed.getD j true=b by simpa using h0.2]
  have he:o.after.all (fun e=>!Region.binds .any e || listed.getD e.on false)=readyOp lb o.after.toList:=by
   rw [readyOp_eq,hl,Array.all_toList]
  simp only [Option.map_some,Option.getD_some,he]
  cases b
  ·simp only [readyL,Bool.not_false,Bool.true_and]
   cases readyOp lb o.after.toList<;>rfl
  ·simp [readyL]
theorem ready_eq {l:List Oper} {lb:List Bool} (hn:lb.length=l.length):Region.ready .any l.toArray lb.toArray=readyL lb 0 l lb:=by
 unfold Region.ready
 rw [List.range_eq_range']
 have:=readyL_eq (lb:=lb) (ops:=l.toArray) rfl (r:=l) (bs:=lb) (j:=0) (fun k hk=>by simp) hn.symm
 simpa using this
def setB:List Bool→Nat→List Bool
 | [],_=>[]
 | _ :: r,0=>true :: r
 | b :: r,i+1=>b :: setB r i
theorem setB_eq:∀ (l:List Bool) (i:Nat),setB l i=l.set i true
 | [],_=>rfl
 | _ :: r,0=>rfl
 | b :: r,i+1=>by rw [setB,setB_eq r i];rfl
theorem setB_arr (l:List Bool) (i:Nat):l.toArray.setIfInBounds i true=(setB l i).toArray:=by rw [setB_eq];simp
theorem setB_len (l:List Bool) (i:Nat):(setB l i).length=l.length:=by rw [setB_eq];simp
def selL:List Oper→Bool
 | []=>true
 | o :: r=>match o.op with
  | .select ..=>false
  | .defer _=>false
  | _=>selL r
theorem selL_ok:∀ {l:List Oper},selL l=true→Region.noSelect l.toArray=true
 | [],_=>by simp [Region.noSelect]
 | o :: r,h=>by
  have:=selL_ok (l:=r)
  simp only [Region.noSelect,List.all_toArray,List.all_cons] at this⊢
  simp only [selL] at h
  split at h
  ·cases h
  ·cases h
  ·rename_i hs _
   rw [Bool.and_eq_true]
   refine ⟨?_,this h⟩
   split
   ·rename_i e;exact absurd e (hs _ _)
   ·rfl
theorem selL_nd:∀ {l:List Oper},selL l=true→NoDefer l.toArray
 | [],_,i,o,hi=>by simp at hi
 | x :: r,h,i,o,hi=>by
  have:=selL_nd (l:=r)
  simp only [selL] at h
  split at h
  ·cases h
  ·cases h
  ·rename_i hd
   cases i with
   | zero=>simp at hi;subst hi;exact hd
   | succ i=>exact this h i o (by simpa using hi)
def TL (F:Fence) (P:Program) (X:Cx) (l:List Oper) (Q:Exit→Act→World→Prop) (K:Nat→Bool) (fuel:Nat) (lb:List Bool) (st:AS):Prop:=
 selL l=true∧lb.length=l.length→TH F P X l.toArray Q K fuel lb.toArray st
def take1? (T:Tys) (N:Nat) (K:Nat→Bool) (l:List Oper) (lb:List Bool) (st:AS):List Nat→Option (Nat×AS×List Prop)
 | []=>none
 | i :: is=>match nthO l i with
  | some o=>match dstOk N o,aguard l st o with
   | true,some false=>match freeL l i o 0 l lb with
    | true=>some (i,st.put o.dst (.t []),[])
    | false=>take1? T N K l lb st is
   | true,some true=>match apure T K o st with
    | some (av,qs)=>match freeL l i o 0 l lb with
     | true=>some (i,st.put o.dst av,qs)
     | false=>take1? T N K l lb st is
    | none=>take1? T N K l lb st is
   | _,_=>take1? T N K l lb st is
  | none=>take1? T N K l lb st is
def normB.{u} {α:Sort u}:List Bool→(List Bool→α)→α
 | [],k=>k []
 | true :: r,k=>normB r fun r=>k (true :: r)
 | false :: r,k=>normB r fun r=>k (false :: r)
theorem normB_eq.{u} {α:Sort u}:∀ (l:List Bool) (k:List Bool→α),normB l k=k l
 | [],_=>rfl
 | true :: r,k=>by rw [normB,normB_eq r]
 | false :: r,k=>by rw [normB,normB_eq r]
def autoT (T:Tys) (N:Nat) (K:Nat→Bool) (l:List Oper):Nat→List Bool→AS→List Prop→List Bool×AS×List Prop×Nat
 | 0,lb,st,ps=>(lb,st,ps,0)
 | f+1,lb,st,ps=>match take1? T N K l lb st (readyL lb 0 l lb) with
  | some (i,st',qs)=>appK qs ps fun ps=>normB (setB lb i) fun lb=>st'.force fun s=>autoT T N K l f lb s ps
  | none=>(lb,st,ps,f+1)
def autoT1 (T:Tys) (N:Nat) (K:Nat→Bool) (l:List Oper) (f:Nat) (lb:List Bool) (st:AS):Option (List Bool×AS×List Prop×Nat):=match f with
 | 0=>none
 | f+1=>match take1? T N K l lb st (readyL lb 0 l lb) with
  | some (i,st',qs)=>some (appK qs [] fun ps=>normB (setB lb i) fun lb=>st'.force fun s=>autoT T N K l f lb s ps)
  | none=>none
theorem take1_ok {N:Nat} {l:List Oper} {lb:List Bool} {i:Nat} {qs:List Prop}:∀ {is:List Nat},take1? T N K l lb st is=some (i,st',qs)→
  i∈is∧∃ o,l.toArray[i]? = some o∧Region.free .any l.toArray lb.toArray i=true∧dstOk N o=true∧
   ((aguard l st o=some true∧∃ av,apure T K o st=some (av,qs)∧st' = st.put o.dst av)∨(aguard l st o=some false∧st' = st.put o.dst (.t [])∧qs=[]))
 | [],h=>by cases h
 | j :: is,h=>by
  have rec' : take1? T N K l lb st is=some (i,st',qs)→i∈j :: is∧∃ o,l.toArray[i]? = some o∧Region.free .any l.toArray lb.toArray i=true∧dstOk N o=true∧
   ((aguard l st o=some true∧∃ av,apure T K o st=some (av,qs)∧st' = st.put o.dst av)∨(aguard l st o=some false∧st' = st.put o.dst (.t [])∧qs=[])):=fun h=>by
   obtain ⟨h1,h2⟩:=take1_ok h
   exact ⟨List.mem_cons_of_mem _ h1,h2⟩
  simp only [take1?] at h
  split at h
  ·rename_i o ho
   have ho' : l.toArray[j]? = some o:=by rw [← Array.getElem?_toList,← nthO_eq];exact ho
   split at h
   ·rename_i hd hg
    split at h
    ·rename_i hf
     cases h
     exact ⟨List.mem_cons_self ..,o,ho',freeL_free ho' hf,hd,.inr ⟨hg,rfl,rfl⟩⟩
    ·exact rec' h
   ·rename_i hd hg
    split at h
    ·rename_i av qs' ha
     split at h
     ·rename_i hf
      cases h
      exact ⟨List.mem_cons_self ..,o,ho',freeL_free ho' hf,hd,.inl ⟨hg,av,ha,rfl⟩⟩
     ·exact rec' h
    ·exact rec' h
   ·exact rec' h
  ·exact rec' h
theorem TL.take1 [Free F] (hT:T.Ok P) {l:List Oper} {lb:List Bool} {i fuel:Nat} {qs:List Prop} (hQ:PanicOk Q) (h:take1? T X.N K l lb st (readyL lb 0 l lb)=some (i,st',qs)) (hq:∀ p∈qs,p)
  (hk:TL F P X l Q K fuel (setB lb i) st'):TL F P X l Q K (fuel+1) lb st:=by
 rintro ⟨hs,hn⟩
 obtain ⟨hm,o,ho,hf,hd,hh⟩:=take1_ok h
 have hk':=hk ⟨hs,by rw [setB_len,hn]⟩
 rw [← setB_arr] at hk'
 refine TH.take1 hT ho (selL_ok hs) (selL_nd hs) hf (by rw [ready_eq hn];simpa using hm) hQ hd ?_
 rcases hh with ⟨hg,av,ha,rfl⟩ | ⟨hg,rfl,rfl⟩
 ·exact .inl ⟨hg,av,qs,ha,hq,hk'⟩
 ·exact .inr ⟨hg,hk'⟩
theorem autoT_ok [Free F] (hT:T.Ok P) {l:List Oper} (hQ:PanicOk Q):∀ {f f' : Nat} {lb lb' : List Bool} {st st' : AS} {acc ps:List Prop},autoT T X.N K l f lb st acc=(lb',st',ps,f')→(∀ p∈ps,p)→
  (∀ p∈acc,p)∧(TL F P X l Q K f' lb' st'→TL F P X l Q K f lb st)
 | 0,f',lb,lb',st,st',acc,ps,h,hp=>by
  cases h;exact ⟨hp,id⟩
 | f+1,f',lb,lb',st,st',acc,ps,h,hp=>by
  simp only [autoT] at h
  split at h
  ·rename_i i st1 qs h1
   rw [appK_eq] at h
   simp only [AS.force_eq,normB_eq] at h
   obtain ⟨i1,i2⟩:=autoT_ok hT hQ h hp
   exact ⟨fun p hp=>i1 p (mem_appP.2 (.inr hp)),fun hk=>TL.take1 hT hQ h1 (fun p hp=>i1 p (mem_appP.2 (.inl hp))) (i2 hk)⟩
  ·cases h;exact ⟨hp,id⟩
theorem TL.auto [Free F] {l:List Oper} {lb lb' : List Bool} {ps:List Prop} {N f f' : Nat} (hT:T.Ok P) (hN:X.N=N) (hQ:PanicOk Q) (h:st.force (fun s=>autoT1 T N K l f lb s)=some (lb',st',ps,f'))
  (hps:AllP ps) (hk:TL F P X l Q K f' lb' st'):TL F P X l Q K f lb st:=by
 subst hN
 rw [AS.force_eq] at h
 cases f with
 | zero=>cases h
 | succ f=>
  simp only [autoT1] at h
  split at h
  ·rename_i i st1 qs h1
   rw [Option.some_inj,appK_eq] at h
   simp only [AS.force_eq,normB_eq] at h
   obtain ⟨i1,i2⟩:=autoT_ok (F:=F) hT hQ h hps.mem
   exact TL.take1 hT hQ h1 (fun p hp=>i1 p (mem_appP.2 (.inl hp))) (i2 hk)
  ·cases h
def repB:List Oper→List Bool
 | []=>[]
 | _ :: r=>false :: repB r
theorem repB_eq:∀ (l:List Oper),repB l=List.replicate l.length false
 | []=>rfl
 | _ :: r=>by rw [repB,repB_eq r];rfl
theorem TE.drawN {id:Nat} {l:List Oper} {lb:List Bool} (hm:P.follows .mixedOrders=true) (hs:selL l=true) (hb:normB (repB l) some=some lb) (h:TL F P X l Q (fun i=>i.blt st.nid) l.length lb st):TE X ((Code.region id l.toArray true).wpIn F 0 P Q) st:=by
 rw [normB_eq,repB_eq] at hb
 cases hb
 exact TE.draw _ hm (h ⟨hs,by simp⟩)
theorem TE.drawK (K:Nat→Bool) {id:Nat} {l:List Oper} {lb:List Bool} (hm:P.follows .mixedOrders=true) (hs:selL l=true) (hb:normB (repB l) some=some lb) (h:TL F P X l Q K l.length lb st):TE X ((Code.region id l.toArray true).wpIn F 0 P Q) st:=by
 rw [normB_eq,repB_eq] at hb
 cases hb
 exact TE.draw _ hm (h ⟨hs,by simp⟩)
def hasCp:List Oper→Bool
 | []=>false
 | o :: l=>match o.op with
  | .call c=>match c.callee with
   | .builtin .copy=>true
   | .builtin .clear=>true
   | _=>hasCp l
  | _=>hasCp l
theorem TE.drawC {id:Nat} {l:List Oper} {lb:List Bool} (_hc:hasCp l=true) (hm:P.follows .mixedOrders=true) (hs:selL l=true) (hb:normB (repB l) some=some lb) (h:TL F P X l Q (fun _=>false) l.length lb st):TE X ((Code.region id l.toArray true).wpIn F 0 P Q) st:=TE.drawK _ hm hs hb h
theorem TL.done {fuel:Nat} {l:List Oper} {lb:List Bool} (hr:readyL lb 0 l lb=[]) (h:TE X (Q .normal) st):TL F P X l Q K fuel lb st:=
 fun ⟨_,hn⟩=>TH.done (by rw [ready_eq hn];exact hr) h
theorem TL.split {l:List Oper} {t fuel:Nat} {b:Bool} {lb:List Bool} (hc:look st.env t=some (.o (.sb b))) (ht:b=true→TL F P X l Q K fuel lb (st.put (some t) (.o (.c (.bool true))))) (hf:b=false→TL F P X l Q K fuel lb (st.put (some t) (.o (.c (.bool false))))):TL F P X l Q K fuel lb st:=by
 intro hh S ν a w H sat hH hA
 have hm:=sat.env _ (look_mem hc)
 have hv:a.tmps.getD t undef = .bool b:=hm.2
 have key:∀ b',b=b'→Sat X S ν (st.put (some t) (.o (.c (.bool b')))) a w:=by
  rintro b' rfl
  exact sat.reput hm.1 ⟨hv,rfl⟩ trivial
 have hA' : ∀ v w',Ag K S ν (st.put (some t) v) w w'→H w':=fun v w' h=>hA w' ⟨h.1,fun b hb=>h.2 b (by rw [(AS.put_hp st (some t) v).1];exact hb)⟩
 cases b
 ·exact hf rfl hh S ν a w H (key _ rfl) hH (hA' _)
 ·exact ht rfl hh S ν a w H (key _ rfl) hH (hA' _)
def gslots (l:List Oper) (st:AS):List Nat→Option Nat
 | []=>none
 | i :: is=>match nthO l i with
  | some o=>match aguard l st o with
   | none=>gslot l o
   | _=>gslots l st is
  | none=>gslots l st is
theorem TL.gsplit {l:List Oper} {t fuel:Nat} {b:Bool} {lb:List Bool} (hg:gslots l st (readyL lb 0 l lb)=some t) (hc:look st.env t=some (.o (.sb b))) (ht:b=true→TL F P X l Q K fuel lb (st.put (some t) (.o (.c (.bool true)))))
  (hf:b=false→TL F P X l Q K fuel lb (st.put (some t) (.o (.c (.bool false))))):TL F P X l Q K fuel lb st:=TL.split hc ht hf
def StepL (F:Fence) (P:Program) (X:Cx) (l:List Oper) (Q:Exit→Act→World→Prop) (K:Nat→Bool) (fuel:Nat) (lb:List Bool) (st:AS) (i:Nat):Prop:=
 selL l=true∧lb.length=l.length→StepAt F P X l.toArray Q K fuel lb.toArray st i
def AllL (F:Fence) (P:Program) (X:Cx) (l:List Oper) (Q:Exit→Act→World→Prop) (K:Nat→Bool) (fuel:Nat) (lb:List Bool) (st:AS):List Nat→Prop
 | []=>True
 | [i]=>StepL F P X l Q K fuel lb st i
 | i :: is=>StepL F P X l Q K fuel lb st i∧AllL F P X l Q K fuel lb st is
theorem AllL.at {l:List Oper} {fuel:Nat} {lb:List Bool} (hh:selL l=true∧lb.length=l.length):∀ {is:List Nat},AllL F P X l Q K fuel lb st is→AllAt F P X l.toArray Q K fuel lb.toArray st is
 | [],_=>trivial
 | [i],h=>h hh
 | i :: k :: is,h=>⟨h.1 hh,AllL.at hh h.2⟩
theorem TL.branch [Free F] {l:List Oper} {i:Nat} {is:List Nat} {fuel:Nat} {lb:List Bool} (hr:readyL lb 0 l lb=i :: is) (h:AllL F P X l Q K fuel lb st (i :: is)):TL F P X l Q K (fuel+1) lb st:=
 fun hh=>TH.branch (i :: is) (by rw [ready_eq hh.2];exact hr) (by simp) (h.at hh)
theorem StepL.mem (hT:T.Ok P) {i fuel:Nat} {l:List Oper} {lb lb' : List Bool} {o:Oper} {ps:List Prop} {N:Nat} (hN:X.N=N) (hi:nthO l i=some o) (hd:dstOk N o=true) (hg:aguard l st o=some true) (h:st.force (fun s=>amem T K o s)=some (st',ps)) (hps:AllP ps) (hb:normB (setB lb i) some=some lb') (hk:TL F P X l Q K fuel lb' st'):StepL F P X l Q K fuel lb st i:=
 fun hh=>StepAt.mem hT hN hi hd hg h hps (by
  rw [normB_eq] at hb
  cases hb
  have:=hk ⟨hh.1,by rw [setB_len,hh.2]⟩
  rwa [← setB_arr] at this)
theorem StepL.pure (hT:T.Ok P) {i fuel:Nat} {l:List Oper} {lb lb' : List Bool} {o:Oper} {av:AV} {ps:List Prop} {N:Nat} (hN:X.N=N) (hi:nthO l i=some o) (hd:dstOk N o=true) (hg:aguard l st o=some true) (h:st.force (fun s=>apure T (fun _=>true) o s)=some (av,ps)) (hps:AllP ps) (hb:normB (setB lb i) some=some lb') (hk:TL F P X l Q K fuel lb' (st.put o.dst av)):StepL F P X l Q K fuel lb st i:=
 fun hh=>StepAt.pure hT hN hi hd hg h hps (by
  rw [normB_eq] at hb
  cases hb
  have:=hk ⟨hh.1,by rw [setB_len,hh.2]⟩
  rwa [← setB_arr] at this)
def At (X:Cx) {ι:Type} (pre:ι→Prop) (inv:ι→AS) (a:Act) (w:World):Prop:=∃ y S ν,pre y∧Sat X S ν (inv y) a w
theorem TE.at {ι:Type} {pre:ι→Prop} {inv:ι→AS} (y:ι) (hy:pre y) (h:Ent X (gEnv X.m st (inv y)) st (inv y)):TE X (At X pre inv) st:=
 fun _ _ _ _ sat=>⟨y,_,_,hy,h.sat sat⟩
theorem TE.seqM {ι:Type} (pre:ι→Prop) (inv:ι→AS) {c d:Code} (h1:TE X (c.wpIn F 0 P (Exit.then (At X pre inv) Q)) st) (h2:∀ x,pre x→TE X (d.wpIn F 0 P Q) (inv x)):TE X ((c.seq d).wpIn F 0 P Q) st:=by
 refine TE.seq fun S ν a w sat=>Code.wpIn_mono (fun e a' w' q=>?_) (h1 S ν a w sat)
 cases e with
 | normal=>obtain ⟨y,S',ν',hy,hs⟩:=q;exact h2 y hy _ _ _ _ hs
 | _=>exact q
theorem TL.one [Free F] {l:List Oper} {i:Nat} {fuel:Nat} {lb:List Bool} (hr:readyL lb 0 l lb=[i]) (h:StepL F P X l Q K fuel lb st i):TL F P X l Q K (fuel+1) lb st:=TL.branch hr h
end
section
variable {F:Fence} {P:Program} {T:Tys} {X:Cx} {st st' : AS} {Q:Exit→Act→World→Prop} {R:Act→World→Prop}
theorem TE.mid {ι:Type} (pre:ι→Prop) (inv:ι→AS) {c:Code} (h1:TE X (c.wpIn F 0 P (Exit.then (At X pre inv) Q)) st) (h2:∀ x,pre x→TE X (Q .normal) (inv x)):TE X (c.wpIn F 0 P Q) st:=by
 refine fun S ν a w sat=>Code.wpIn_mono (fun e a' w' q=>?_) (h1 S ν a w sat)
 cases e with
 | normal=>obtain ⟨y,S',ν',hy,hs⟩:=q;exact h2 y hy _ _ _ _ hs
 | _=>exact q
theorem TE.goto {l:Nat} (h:TE X (Q (.goto l)) st):TE X ((Code.goto l).wpIn F 0 P Q) st:=fun S ν a w sat=>wpIn_goto (h S ν a w sat)
theorem TE.thenG {K:Act→World→Prop} {l:Nat} (h:TE X (Q (.goto l)) st):TE X (Exit.then K Q (.goto l)) st:=h
theorem TE.inG {i l:Nat} (h:TE X (Q (.goto l)) st):TE X (Exit.inBlock i Q (.goto l)) st:=h
theorem TE.jumpN {J:Act→World→Prop} {l:Nat} (h:TE X (Q .normal) st):TE X (Exit.jump l J Q .normal) st:=h
theorem TE.jumpR {J:Act→World→Prop} {l:Nat} (h:TE X (Q .ret) st):TE X (Exit.jump l J Q .ret) st:=h
theorem TE.jumpE {J:Act→World→Prop} {l i:Nat} (h:TE X (Q (.exit i)) st):TE X (Exit.jump l J Q (.exit i)) st:=h
theorem TE.jumpG {J:Act→World→Prop} {l:Nat} (h:TE X J st):TE X (Exit.jump l J Q (.goto l)) st:=fun S ν a w sat=>⟨rfl,h S ν a w sat⟩
theorem PanicOk.jump {J:Act→World→Prop} {l:Nat} (h:PanicOk Q):PanicOk (Exit.jump l J Q):=h
def setNil:List A1→Nat→A1→Option (List A1)
 | [],_,_=>none
 | .c (.slice none 0 0) :: r,0,a=>some (a :: r)
 | x :: r,i+1,a=>match setNil r i a with
  | some r'=>some (x :: r')
  | none=>none
 | _ :: _,0,_=>none
def nilB (id i:Nat) (a:A1):List Chunk→Option (List Chunk)
 | []=>none
 | .box id' T cells :: r=>match Nat.beq id' id with
  | true=>match setNil cells i a with
   | some cells'=>some (.box id' T cells' :: r)
   | none=>none
  | false=>match nilB id i a r with
   | some r'=>some (.box id' T cells :: r')
   | none=>none
 | c :: r=>match nilB id i a r with
  | some r'=>some (c :: r')
  | none=>none
theorem setNil_ok {w:World} {S:Nat→Prop} {ν:Nat→Value} {a:A1} (ha:a.rel w S ν (.slice none 0 0)):∀ {cells:List A1} {i:Nat} {cells' : List A1} {us:List Value},setNil cells i a=some cells'→All2 (A1.rel w S ν) cells us→All2 (A1.rel w S ν) cells' us∧∀ c∈cells',c∈cells∨c=a
 | [],i,cells',us,h,_=>by cases i<;>simp [setNil] at h
 | x :: r,0,cells',[],h,hu=>hu.elim
 | x :: r,0,cells',u :: us,h,hu=>by
  unfold setNil at h
  split at h
  ·simp_all
  ·rename_i r' e1 e2
   simp only [List.cons.injEq] at e1
   obtain ⟨rfl,rfl⟩:=e1
   obtain ⟨h1,h2⟩:=hu
   cases h
   exact ⟨⟨by rw [h1.1];exact ha,h2⟩,fun c hc=>(List.mem_cons.1 hc).elim (fun e=>.inr e) (fun e=>.inl (List.mem_cons_of_mem _ e))⟩
  ·simp_all
  ·cases h
 | x :: r,i+1,cells',[],h,hu=>hu.elim
 | x :: r,i+1,cells',u :: us,h,hu=>by
  simp only [setNil] at h
  split at h
  ·rename_i r' hr
   cases h
   obtain ⟨i1,i2⟩:=setNil_ok ha hr hu.2
   exact ⟨⟨hu.1,i1⟩,fun c hc=>(List.mem_cons.1 hc).elim (fun e=>.inl (e ▸ List.mem_cons_self ..)) (fun e=>(i2 c e).elim (fun e=>.inl (List.mem_cons_of_mem _ e)) .inr)⟩
  ·cases h
theorem nilB_ok {w:World} {S:Nat→Prop} {ν:Nat→Value} {a:A1} {m:Nat} (ha:a.rel w S ν (.slice none 0 0)) (hal:a.lt m) {id i:Nat}:∀ {hp hp' : List Chunk},nilB id i a hp=some hp'→(∀ c∈hp,c.holds w S ν∧c.lt m)→(∀ c∈hp',c.holds w S ν∧c.lt m)∧blks ν hp' = blks ν hp
 | [],hp',h,_=>by simp [nilB] at h
 | c :: r,hp',h,hh=>by
  have hr:=fun c' hc'=>hh c' (List.mem_cons_of_mem c hc')
  have rec' : ∀ r',nilB id i a r=some r'→(∀ c'∈c :: r',c'.holds w S ν∧c'.lt m)∧blks ν (c :: r')=blks ν (c :: r):=fun r' e=>by
   obtain ⟨i1,i2⟩:=nilB_ok ha hal e hr
   refine ⟨fun c' hc'=>(List.mem_cons.1 hc').elim (fun e=>e ▸ hh c (List.mem_cons_self ..)) (i1 c'),?_⟩
   rw [blks,List.filterMap_cons,← blks,i2,blks,← List.filterMap_cons];rfl
  cases c with
  | own id' E sz ct=>
   simp only [nilB] at h
   split at h
   ·rename_i r' hr';cases h;exact rec' r' hr'
   ·cases h
  | nest id' E ct j=>
   simp only [nilB] at h
   split at h
   ·rename_i r' hr';cases h;exact rec' r' hr'
   ·cases h
  | stat id' g sz cell=>
   simp only [nilB] at h
   split at h
   ·rename_i r' hr';cases h;exact rec' r' hr'
   ·cases h
  | obj id' ob=>
   simp only [nilB] at h
   split at h
   ·rename_i r' hr';cases h;exact rec' r' hr'
   ·cases h
  | box id' T cells=>
   simp only [nilB] at h
   split at h
   ·split at h
    ·rename_i cells' hc
     cases h
     obtain ⟨⟨b,us,h1,h2,h3⟩,h4⟩:=hh _ (List.mem_cons_self ..)
     obtain ⟨j1,j2⟩:=setNil_ok ha hc h3
     refine ⟨fun c' hc'=>(List.mem_cons.1 hc').elim (fun e=>?_) (hr c'),rfl⟩
     subst e
     exact ⟨⟨b,us,h1,h2,j1⟩,h4.1,fun x hx=>(j2 x hx).elim (h4.2 x) (fun e=>e ▸ hal)⟩
    ·cases h
   ·split at h
    ·rename_i r' hr';cases h;exact rec' r' hr'
    ·cases h
theorem TE.nilBox (id i E sz:Nat) {hp' : List Chunk} (hb:nilB id i (.own st.nid) (.own st.nid E sz nilC :: st.hp)=some hp') {st2:AS} (hst:(AS.mk st.env hp' (st.nid+1)).force some=some st2) (h:TE X R st2):TE X R st:=by
 rw [AS.force_eq] at hst
 cases hst
 intro S ν a w sat
 have hs:=sat.swap (takes:=[]) (gives:=[.own st.nid E sz nilC]) (rest:=st.hp) (nid:=st.nid+1) (S':=S) (ν':=upd ν st.nid (.slice none 0 0)) (w':=w) (.refl _) (Fr.refl _ _) upd_lt (fun _ h=>h) (fun b hb=>⟨(sat.imm b hb).1,.inl hb⟩)
  (fun ch hch=>by
   rw [List.mem_singleton.1 hch]
   exact ⟨[],by rw [upd_same];exact World.ownsRow_nil _ _ _ _,fun i j hi=>by simp [nilC] at hi⟩)
  (by simp [blks,Chunk.blk,upd_same,Value.ownBlock]) (fun b hb=>by simp [blks,Chunk.blk,upd_same,Value.ownBlock] at hb)
  (fun ch hch=>by rw [List.mem_singleton.1 hch];exact Nat.lt_succ_self _) (Nat.le_succ _)
 obtain ⟨k1,k2⟩:=nilB_ok (w:=w) (S:=S) (ν:=upd ν st.nid (.slice none 0 0)) (a:=.own st.nid) (m:=st.nid+1) ⟨by rw [upd_same],by rw [upd_same];rfl⟩ (Nat.lt_succ_self _) hb (fun c hc=>⟨hs.hp c hc,hs.hlt c hc⟩)
 exact h S _ a w ⟨⟨fun d hd=>let ⟨D,d1,d2,d3,d4,d5⟩:=hs.defers.1 d hd;⟨D,d1,d2,d3,d4,fun hm=>d5 (by rw [k2] at hm;exact hm)⟩,hs.defers.2⟩,hs.size,hs.env,fun c hc=>(k1 c hc).1,by rw [k2];exact hs.nd,by rw [k2];exact hs.blk,hs.imm,hs.imm0,hs.frame,hs.elt,fun c hc=>(k1 c hc).2,hs.fix,hs.ge⟩
theorem LeA.rclo {g:Nat→Nat} {f:FuncId} {c c' : List (Nat×Nat)} (h:A1.clo f c=(A1.clo f c').ren g):LeA (.clo f c) ((A1.clo f c').ren g):=h ▸ LeA.refl _
def RowsOk {α:Type} (f:α→Nat→DC) (sz:Nat):List (List DC)→List α→Prop
 | [],[]=>True
 | r :: rs,x :: xs=>(∀ j,j<sz→LeX (nthD r j) (f x j))∧RowsOk f sz rs xs
 | _,_=>False
theorem RowsOk.len {α:Type} {f:α→Nat→DC} {sz:Nat}:∀ {rs:List (List DC)} {l:List α},RowsOk f sz rs l→rs.length=l.length
 | [],[],_=>rfl
 | r :: rs,x :: xs,h=>by rw [List.length_cons,List.length_cons,RowsOk.len h.2]
 | [],_ :: _,h=>h.elim
 | _ :: _,[],h=>h.elim
theorem RowsOk.at {α:Type} {f:α→Nat→DC} {sz:Nat} (d:α):∀ {rs:List (List DC)} {l:List α},RowsOk f sz rs l→∀ i j,i<l.length→j<sz→LeX (nthD (nthR rs i) j) (f (l.getD i d) j)
 | [],[],_,i,j,hi,_=>absurd hi (Nat.not_lt_zero i)
 | r :: rs,x :: xs,h,0,j,_,hj=>h.1 j hj
 | r :: rs,x :: xs,h,i+1,j,hi,hj=>by
  have:=RowsOk.at d h.2 i j (by simpa using hi) hj
  rw [nthR,show (x :: xs).getD (i+1) d=xs.getD i d by simp];exact this
 | [],_ :: _,h,_,_,_,_=>h.elim
 | _ :: _,[],h,_,_,_,_=>h.elim
theorem listC_lit {α:Type} {f:α→Nat→DC} {d:α} {sz:Nat} {rs:List (List DC)} {l:List α} (h:RowsOk f sz rs l):LeDC sz (litC rs) (listC f d l):=by
 refine ⟨h.len,fun i j hi hj=>?_⟩
 exact h.at d i j (by rw [← h.len];exact hi) hj
theorem litnil_app (sz:Nat) (c:Ct):LeDC sz (appC (litC []) c) c:=by
 refine ⟨by simp [appC,litC],fun i j hi hj=>LeX.of_eq ?_⟩
 simp [appC,litC]
theorem LeX.lit {α:Type} {f:α→Nat→DC} {d:α} {sz n:Nat} {rs:List (List DC)} {l:List α} (hn:n=l.length) (h:RowsOk f sz rs l):LeX (.sl sz (litC rs).n (litC rs).cell) (.sl sz n (listC f d l).cell):=by
 subst hn
 exact LeX.sl (listC_lit h)
theorem nth1x {r:List DC} {g:Nat→DC} (h0:LeX (nthD r 0) (g 0)):∀ j,j<1→LeX (nthD r j) (g j)
 | 0,_=>h0
theorem nth2x {r:List DC} {g:Nat→DC} (h0:LeX (nthD r 0) (g 0)) (h1:LeX (nthD r 1) (g 1)):∀ j,j<2→LeX (nthD r j) (g j)
 | 0,_=>h0
 | 1,_=>h1
theorem nth3x {r:List DC} {g:Nat→DC} (h0:LeX (nthD r 0) (g 0)) (h1:LeX (nthD r 1) (g 1)) (h2:LeX (nthD r 2) (g 2)):∀ j,j<3→LeX (nthD r j) (g j)
 | 0,_=>h0
 | 1,_=>h1
 | 2,_=>h2
theorem nth4x {r:List DC} {g:Nat→DC} (h0:LeX (nthD r 0) (g 0)) (h1:LeX (nthD r 1) (g 1)) (h2:LeX (nthD r 2) (g 2)) (h3:LeX (nthD r 3) (g 3)):∀ j,j<4→LeX (nthD r j) (g j)
 | 0,_=>h0
 | 1,_=>h1
 | 2,_=>h2
 | 3,_=>h3
theorem nth1 {r:List DC} {g:Nat→DC} (h0:nthD r 0=g 0):∀ j,j<1→nthD r j=g j
 | 0,_=>h0
theorem nth2 {r:List DC} {g:Nat→DC} (h0:nthD r 0=g 0) (h1:nthD r 1=g 1):∀ j,j<2→nthD r j=g j
 | 0,_=>h0
 | 1,_=>h1
theorem TE.freezeN (id:Nat) {E sz:Nat} {ct:Ct} {rest:List Chunk} (htk:takeOwn (fun _=>true) st.hp id=some (E,sz,ct,rest)) {st2:AS} (hst:(AS.mk (frzE id sz ct st.env) (frzH id sz ct rest) st.nid).force some=some st2) (h:TE X R st2):TE X R st:=by
 rw [AS.force_eq] at hst
 cases hst
 exact TE.freeze id htk h
theorem TL.freezeN (id:Nat) {l:List Oper} {fuel:Nat} {lb:List Bool} {K:Nat→Bool} {E sz:Nat} {ct:Ct} {rest:List Chunk} (htk:takeOwn (fun _=>true) st.hp id=some (E,sz,ct,rest)) {st2:AS} (hst:(AS.mk (frzE id sz ct st.env) (frzH id sz ct rest) st.nid).force some=some st2) (h:TL F P X l Q K fuel lb st2):TL F P X l Q K fuel lb st:=by
 rw [AS.force_eq] at hst
 cases hst
 exact fun hh=>TH.freeze id htk (h hh)
theorem con_same {ι : Type} {f : FuncId} {args : List AV} {M : Nat} {pre : ι → Prop} {res : ι → AV} {fn : Func} (hf : P.funcs[f]? = some fn) (hn : (fn.name == "runtime.NumGoroutine") = false) (hb : fn.body.isNone = false) (wf : ∀ x, (res x).ltB M = true)
  (h:∀ w S ν vs,All2 (AV.rel w S ν) args vs→Calls P f vs.toArray w fun e w'=>∃ x u,e = .returned u∧pre x∧(res x).rel w S ν u∧w' = w):Con P f args [] 0 M pre res (fun _=>[]):=by
 refine ⟨⟨fn,hf,hn,hb⟩,rfl,Nat.zero_le _,fun x=>⟨wf x,rfl⟩,fun w S ν vs ha _ _ _ hS=>Calls.mono (h w S ν vs ha) ?_⟩
 rintro e w' ⟨x,u,he,hp,hr,rfl⟩
 exact ⟨x,S,ν,u,he,hp,hr,Fr.refl _ _,fun _ _=>rfl,fun _ h=>h,fun b hb=>⟨hS b hb,.inl hb⟩,(fun c hc=>nomatch hc),List.nodup_nil,(fun b hb=>nomatch hb)⟩
theorem args0 {w:World} {S:Nat→Prop} {ν:Nat→Value} {vs:List Value} (h:All2 (AV.rel w S ν) [] vs):vs=[]:=by
 cases vs with
 | nil=>rfl
 | cons v vs=>exact h.elim
theorem argsC {w:World} {S:Nat→Prop} {ν:Nat→Value} {v:Value} {r:List AV} {vs:List Value} (h:All2 (AV.rel w S ν) (.o (.c v) :: r) vs):∃ vs',vs=v :: vs'∧All2 (AV.rel w S ν) r vs':=by
 cases vs with
 | nil=>exact h.elim
 | cons u vs=>obtain ⟨h1,h2⟩:=h;exact ⟨vs,by rw [h1.1],h2⟩
theorem args1 {w:World} {S:Nat→Prop} {ν:Nat→Value} {v:Value} {vs:List Value} (h:All2 (AV.rel w S ν) [.o (.c v)] vs):vs=[v]:=by
 obtain ⟨r,rfl,h2⟩:=argsC h
 obtain rfl:=args0 h2
 rfl
theorem args2 {w:World} {S:Nat→Prop} {ν:Nat→Value} {v u:Value} {vs:List Value} (h:All2 (AV.rel w S ν) [.o (.c v),.o (.c u)] vs):vs=[v,u]:=by
 obtain ⟨r,rfl,h2⟩:=argsC h
 obtain rfl:=args1 h2
 rfl
def allLt (g:Nat→Nat):Nat→Nat→Bool
 | 0,_=>true
 | m+1,n=>match Nat.blt (g m) n with
  | true=>allLt g m n
  | false=>false
theorem allLt_ok {g:Nat→Nat}:∀ {m n:Nat},allLt g m n=true→∀ i,i<m→g i<n
 | 0,_,_,i,hi=>absurd hi (Nat.not_lt_zero i)
 | m+1,n,h,i,hi=>by
  simp only [allLt] at h
  split at h
  ·rename_i hb
   rcases Nat.lt_succ_iff_lt_or_eq.1 hi with h' | rfl
   ·exact allLt_ok h i h'
   ·exact Nat.le_of_ble_eq_true hb
  ·cases h
def allK (K:Nat→Bool) (g:Nat→Nat):List Chunk→Bool
 | []=>true
 | c :: r=>match K (g c.id) with
  | true=>false
  | false=>allK K g r
theorem allK_ok {K:Nat→Bool} {g:Nat→Nat}:∀ {cs:List Chunk},allK K g cs=true→∀ c∈cs,K (g c.id)=false
 | [],_,c,hc=>nomatch hc
 | c :: r,h,d,hd=>by
  simp only [allK] at h
  split at h
  ·cases h
  ·rename_i hk
   rcases List.mem_cons.1 hd with rfl | hd
   ·exact hk
   ·exact allK_ok h d hd
end
section
variable {P:Program} {X:Cx} {st st' : AS} {S S' : Nat→Prop} {ν ν' : Nat→Value} {a a' : Act} {w w' : World} {Q:Exit→Act→World→Prop} {R:Act→World→Prop}
abbrev cxAt (mk:Bool) (N:Nat) (S:Nat→Prop) (ν:Nat→Value) (st:AS) (w:World):Cx:=⟨N,w,fun b=>b∈blks ν st.hp,S,ν,st.nid,mk⟩
theorem Sat.enter (mk:Bool) (h:Sat X S ν st a w) {N:Nat} {env:Env} (hd:a'.defers=[]) (hs:a'.tmps.size=N) (he:∀ p∈env,p.1<N∧p.2.rel w S ν (a'.tmps.getD p.1 undef)∧p.2.lt st.nid):Sat (cxAt mk N S ν st w) S ν ⟨env,st.hp,st.nid⟩ a' w:=
 ⟨by rw [hd];exact ⟨(fun d hd=>nomatch hd),List.nodup_nil,fun _=>rfl⟩,hs,fun p hp=>⟨(he p hp).1,(he p hp).2.1⟩,h.hp,h.nd,fun b hb=>⟨(h.blk b hb).1,(h.blk b hb).2.1,.inr hb⟩,fun b hb=>⟨(h.imm b hb).1,.inl hb⟩,fun _ h=>h,Fr.refl _ _,fun p hp=>(he p hp).2.2,h.hlt,fun _ _=>rfl,Nat.le_refl _⟩
theorem Sat.leave {N:Nat} {mk:Bool} (h:Sat X S ν st a w) (h' : Sat (cxAt mk N S ν st w) S' ν' st' a' w'):Sat X S' ν' ⟨st.env,st'.hp,st'.nid⟩ a w':=by
 have:=h.swap (takes:=st.hp) (rest:=[]) (gives:=st'.hp) (nid:=st'.nid) (S':=S') (ν':=ν') (w':=w') (by simp) h'.frame h'.fix h'.imm0 (fun b hb=>(h'.imm b hb)) h'.hp h'.nd (fun b hb=>⟨(h'.blk b hb).1,(h'.blk b hb).2.1,(h'.blk b hb).2.2.symm⟩) h'.hlt h'.ge
 simpa using this
theorem Sat.turn (h:Sat X S ν st a w) {l:Nat} {o o' : Obj} (hl:w.heap[l]? = some o) (ho:∀ d,o≠.deferred d) (h0:X.w0.heap.size≤l) (hS:¬ S l) (hb:l ∉ blks ν st.hp):Sat X S ν st a (w.putObj l o'):=by
 have gr:Gr w (w.putObj l o') S S:=⟨by simp,fun b hb _=>World.putObj_heap_other fun e=>hS (e ▸ hb),fun _ h=>h⟩
 refine ⟨⟨fun d hd=>?_,h.defers.2⟩,h.size,fun p hp=>⟨(h.env p hp).1,AV.mono gr (fun _ _=>rfl) (h.elt p hp) (h.env p hp).2⟩,fun c hc=>Chunk.mono gr (fun _ _=>rfl) (h.hlt c hc) (fun b hb'=>World.putObj_heap_other fun e=>hb (mem_blks.2 ⟨c,hc,e ▸ hb'⟩)) (h.hp c hc),h.nd,fun b hb=>?_,fun b hb=>?_,h.imm0,?_,h.elt,h.hlt,h.fix,h.ge⟩
 ·obtain ⟨D,e,f1,f2,f3,f4⟩:=h.defers.1 d hd
  refine ⟨D,e,?_,f2,f3,f4⟩
  rw [World.putObj_heap_other fun (e:D=l)=>?_]
  ·exact f1
  ·rw [e,hl] at f1;exact ho _ (Option.some.inj f1)
 ·have:=h.blk b hb;rw [World.putObj_size];exact this
 ·have:=h.imm b hb;rw [World.putObj_size];exact this
 ·refine ⟨h.frame.os,h.frame.tape,h.frame.output,by rw [World.putObj_size];exact h.frame.size,fun k hk hB=>?_⟩
  rw [World.putObj_heap_other (by omega)];exact h.frame.block k hk hB
theorem Sat.grow (h:Sat X S ν st a w) (hf:Fr (fun _=>False) w w'):Sat X S ν st a w':=by
 have:=h.swap (takes:=[]) (rest:=st.hp) (gives:=[]) (nid:=st.nid) (S':=S) (ν':=ν) (w':=w') (.refl _) ⟨hf.os,hf.tape,hf.output,hf.size,fun k hk _=>hf.block k hk id⟩ (fun _ _=>rfl) (fun _ h=>h) (fun b hb=>⟨Nat.lt_of_lt_of_le (h.imm b hb).1 hf.size,.inl hb⟩) (fun c hc=>nomatch hc) List.nodup_nil (fun b hb=>nomatch hb) (fun c hc=>nomatch hc) (Nat.le_refl _)
 simpa using this
theorem Sat.mark (h:Sat X S ν st a w) {D:Nat} (hD:w.heap[D]? = some (.deferred (some []))) (h0:X.w0.heap.size≤D) (hS:¬ S D) (hb:D ∉ blks ν st.hp) (hn:{ target:=.collected D,args:=#[] } ∉ a.defers) (hmk:X.mks=true):Sat X S ν st { a with defers:={ target:=.collected D,args:=#[] } :: a.defers } w:=
 ⟨⟨fun d hd=>by
   rcases List.mem_cons.1 hd with rfl | hd
   ·exact ⟨D,rfl,hD,h0,hS,hb⟩
   ·exact h.defers.1 d hd,List.nodup_cons.2 ⟨hn,h.defers.2.1⟩,fun e=>by rw [hmk] at e;cases e⟩,h.size,h.env,h.hp,h.nd,h.blk,h.imm,h.imm0,h.frame,h.elt,h.hlt,h.fix,h.ge⟩
structure Looping (P:Program) (X:Cx) (E:Env) (ps:List Tmp) (asg body:Code) (l:Nat) (a1:Act) (pend:Option Code) (N:Nat) (C:Cx):Prop where
 go:∃ S ν st w fn D,Sat X S ν st a1 w∧st.env=E∧C=cxAt false N S ν st w∧X.w0.heap.size≤l∧¬ S l∧l ∉ blks ν st.hp∧
  w.heap[l]? = some (.loop { state:=if pend.isNone then .ready else .done,pending:=pend,fn:=fn,tmps:=a1.tmps,params:=ps.toArray,assign:=asg,body:=body,defers:=D })
end
section
variable {P:Program} {X C:Cx} {E:Env} {ps:List Tmp} {asg body:Code} {l N:Nat} {a1:Act} {pend:Option Code} {S S' : Nat→Prop} {ν ν' : Nat→Value} {a a' : Act} {w w' : World} {st st' : AS} {Q:Exit→Act→World→Prop} {K:Act→World→Prop}
theorem Looping.now (L:Looping P X E ps asg body l a1 pend N C) (sat:Sat C S ν st a w):Sat X S ν ⟨E,st.hp,st.nid⟩ a1 w∧X.w0.heap.size≤l∧¬ S l∧l ∉ blks ν st.hp∧
  ∃ fn D,w.heap[l]? = some (.loop { state:=if pend.isNone then .ready else .done,pending:=pend,fn:=fn,tmps:=a1.tmps,params:=ps.toArray,assign:=asg,body:=body,defers:=D }):=by
 obtain ⟨S0,ν0,s0,w0,fn,D,h0,rfl,rfl,h1,h2,h3,h4⟩:=L.go
 have hlt:l<w0.heap.size:=(Array.getElem?_eq_some_iff.1 h4).1
 refine ⟨h0.leave sat,h1,fun hs=>?_,fun hm=>?_,fn,D,(sat.frame.block l hlt h3).trans h4⟩
 ·rcases (sat.imm l hs).2 with h | h | h
  ·exact h2 h
  ·exact absurd (show w0.heap.size≤l from h) (by omega)
  ·exact h3 h
 ·rcases (sat.blk l hm).2.2 with h | h
  ·exact absurd (show w0.heap.size≤l from h) (by omega)
  ·exact h3 h
theorem capV_lt {m:Nat}:∀ {caps:List (Nat×Nat)},(∀ p∈caps,p.1<m)→∀ (k:Nat) (v:AV),(capV caps)[k]? = some v→v.lt m
 | [],_,k,v,h=>by simp [capV] at h
 | (id,off) :: r,hc,0,v,h=>by
  simp only [capV,List.getElem?_cons_zero,Option.some.injEq] at h
  subst h
  exact hc (id,off) (List.mem_cons_self ..)
 | (id,off) :: r,hc,k+1,v,h=>capV_lt (caps:=r) (fun p hp=>hc p (List.mem_cons_of_mem _ hp)) k v (by simpa [capV] using h)
theorem acallee_lt (sat:Sat X S ν st a w) {ce:Callee} {f:FuncId} {caps:List AV} (h:acallee st ce=some (f,caps)):∀ (k:Nat) (v:AV),caps[k]? = some v→v.lt st.nid:=by
 unfold acallee at h
 split at h
 ·split at h
  ·split at h
   ·cases h;intro k v hk;simp at hk
   ·cases h
  ·rename_i hx
   cases h
   exact capV_lt (aop_ok sat hx).2
  ·cases h
 ·cases h
theorem TE.range {g : Operand} {ps : List Tmp} {asg body : Code} {gf : FuncId} {caps : List AV} {ifn : Func} {ic : Code} {N : Nat} (hg : acallee st (.value g) = some (gf, caps)) (hf : P.funcs[gf]? = some ifn) (hb : ifn.body = some ic) (hn : (ifn.name == "runtime.NumGoroutine") = false) (hN : ifn.ntmps = N) (hw : Nat.ble (1 + caps.length) N = true) (hmk : X.mks = true)
  (h:∀ l a1 w0 B0 S0 ν0,Looping P X st.env ps asg body l a1 none N ⟨N,w0,B0,S0,ν0,st.nid,false⟩→TE ⟨N,w0,B0,S0,ν0,st.nid,false⟩ (ic.wpIn Fence.wide 0 P (postR P ifn (rangePost Fence.wide 0 P l Q a1))) ⟨env0 0 (.o (.c (.func (.yield l) #[] #[])) :: caps),st.hp,st.nid⟩) :
  TE X ((Code.rangeFunc g ps.toArray asg body).wpIn Fence.wide 0 P Q) st:=by
 intro S ν a w sat
 refine wpIn_rangeFunc fun fn _=>?_
 obtain ⟨xf,us,e1,e2,e3⟩:=acallee_ok sat hg
 have e4:=acallee_lt sat hg
 obtain ⟨rec,hrec⟩:∃ rec:Loop,rec={ state:=.ready,pending:=none,fn:=fn,tmps:=a.tmps,params:=ps.toArray,assign:=asg,body:=body,defers:=w.heap.size }:=⟨_,rfl⟩
 obtain ⟨W,hW⟩:∃ W,(w.alloc (.deferred (some []))).alloc (.loop rec)=W:=⟨_,rfl⟩
 have hD:W.heap[w.heap.size]? = some (.deferred (some [])):=by
  rw [← hW];exact (Below.heap_alloc _ _ _ (by simp)).trans (World.alloc_heap_new w _)
 have hL:W.heap[w.heap.size+1]? = some (.loop rec):=by
  rw [← hW];have:=World.alloc_heap_new (w.alloc (.deferred (some []))) (.loop rec);rwa [World.size_alloc] at this
 have fr:Fr (fun _=>False) w W:=by
  rw [← hW]
  refine ⟨rfl,rfl,rfl,by simp;omega,fun k hk _=>?_⟩
  exact (Below.heap_alloc _ _ _ (by simp;omega)).trans (Below.heap_alloc _ _ _ hk)
 have sat1:Sat X S ν st { a with defers:={ target:=.collected w.heap.size,args:=#[] } :: a.defers } W:=by
  refine (sat.grow fr).mark hD sat.frame.size (fun hs=>?_) (fun hm=>?_) (fun hm=>?_) hmk
  ·have:=(sat.imm _ hs).1;omega
  ·have:=(sat.blk _ hm).1;omega
  ·obtain ⟨D,d1,d2,_⟩:=sat.defers.1 _ hm
   cases d1
   have:=(Array.getElem?_eq_some_iff.1 d2).1;omega
 have L:Looping P X st.env ps asg body (w.heap.size+1) { a with defers:={ target:=.collected w.heap.size,args:=#[] } :: a.defers } none N (cxAt false N S ν st W):=by
  refine ⟨S,ν,st,W,fn,w.heap.size,sat1,rfl,rfl,?_,fun hs=>?_,fun hm=>?_,by rw [hL,hrec];rfl⟩
  ·have:=sat.frame.size;omega
  ·have:=(sat.imm _ hs).1;omega
  ·have:=(sat.blk _ hm).1;omega
 have hsz:(#[.func (.yield (w.heap.size+1)) #[] #[]]++us.toArray:Array Value).toList = .func (.yield (w.heap.size+1)) #[] #[] :: us:=by simp
 refine ⟨w.heap.size+1,[{ target:=.collected w.heap.size,args:=#[] }],W,{ target:=.fn (.func gf) us.toArray,args:=#[.func (.yield (w.heap.size+1)) #[] #[]] },W,gf,#[.func (.yield (w.heap.size+1)) #[] #[]]++us.toArray,W,?_,?_,fun _ _=>trivial,?_,(fun h=>nomatch h),callsIn_of_wp_marks (F:=Fence.wide) (n:=0) hf hb trivial (Code.wpIn_mono (fun _ _ _ h=>postR_M h) ?_)⟩
 ·rw [← hW,hrec];exact run_enterLoop_outer _ _ _ _ _
 ·cases e1
  simp only [resolve,e2,Deferred.ofValue,rangeCall,Sem.run_pure]
  simp [Act.eval]
 ·simp only [invoke]
  exact callFunc_body hf hn (by rw [hb];rfl) _ W
 ·have hle:=e3.length
  have hw' : 1+caps.length≤N:=Nat.le_of_ble_eq_true hw
  refine h _ _ W (fun b=>b∈blks ν st.hp) S ν L S ν _ W (sat1.enter false (N:=N) rfl (by simp;omega) fun p hp=>?_)
  obtain ⟨k,h1,h2⟩:=env0_mem hp
  rw [Nat.zero_add] at h1
  have gr:Gr w W S S:=⟨fr.size,fun b _ hb=>fr.block b hb id,fun _ h=>h⟩
  rw [h1]
  cases k with
  | zero=>
   have h2' : p.2 = .o (.c (.func (.yield (w.heap.size+1)) #[] #[])):=by simpa using h2.symm
   rw [h2']
   exact ⟨by omega,⟨by simp [Array.getElem?_append],rfl⟩,trivial⟩
  | succ k=>
   have h2' : caps[k]? = some p.2:=by simpa using h2
   have hk:k<caps.length:=(List.getElem?_eq_some_iff.1 h2').1
   obtain ⟨u,h3,h4⟩:=e3.get h2'
   have hlt:p.2.lt st.nid:=e4 k p.2 h2'
   refine ⟨by omega,?_,hlt⟩
   have hk' : k<us.length:=(List.getElem?_eq_some_iff.1 h3).1
   have hu:us[k]=u:=by rw [List.getElem?_eq_getElem hk'] at h3;exact Option.some.inj h3
   have:(#[Value.func (.yield (w.heap.size+1)) #[] #[]]++us.toArray++Array.replicate (ifn.ntmps - (#[Value.func (.yield (w.heap.size+1)) #[] #[]]++us.toArray:Array Value).size) undef).getD (k+1) undef=u:=by
    have hk2:k+1<us.length+1:=by omega
    simp [Array.getElem?_append,hk',hk2,hu]
   rw [this]
   exact AV.mono gr (fun _ _=>rfl) hlt h4
def putPs:List Tmp→List AV→AS→AS
 | t :: ts,v :: vs,st=>putPs ts vs (st.put (some t) v)
 | _,_,st=>st
theorem Sat.putPs {S:Nat→Prop} {ν:Nat→Value} {w:World}:∀ {ts:List Tmp} {vs:List AV} {us:List Value} {st:AS} {a:Act},Sat X S ν st a w→All2 (AV.rel w S ν) vs us→(∀ v∈vs,v.lt st.nid)→(∀ t∈ts,t<X.N)→
  Sat X S ν (putPs ts vs st) { a with tmps:=(ts.zip us).foldl (fun r (p:Tmp×Value)=>r.setIfInBounds p.1 p.2) a.tmps } w
 | [],vs,us,st,a,h,_,_,_=>by cases vs<;>exact h
 | t :: ts,[],[],st,a,h,_,_,_=>h
 | t :: ts,[],_ :: _,st,a,h,hr,_,_=>hr.elim
 | t :: ts,_ :: _,[],st,a,h,hr,_,_=>hr.elim
 | t :: ts,v :: vs,u :: us,st,a,h,hr,hl,ht=>by
  have h1:=h.put (dst:=some t) (fun d hd=>by cases hd;exact ht t (List.mem_cons_self ..)) hr.1 (hl v (List.mem_cons_self ..))
  exact Sat.putPs (ts:=ts) (vs:=vs) (us:=us) h1 hr.2 (fun v' hv=>by rw [(AS.put_hp _ _ _).2];exact hl v' (List.mem_cons_of_mem _ hv)) (fun t' h'=>ht t' (List.mem_cons_of_mem _ h'))
structure Rnd (P:Program) (X C:Cx) (E:Env) (ps:List Tmp) (asg body:Code) (l:Nat) (a1:Act) (N:Nat) (Ei:Env) (dst:Option Tmp) (K:Act→World→Prop) (Qr:Exit→Act→World→Prop) (C' : Cx):Prop where
 normal:∀ {st},TE C K ((AS.mk Ei st.hp st.nid).put dst (.o (.c (.bool true))))→TE C' (Qr .normal) st
 ret:∀ {st},(∀ w0 B0 S0 ν0,Looping P X E ps asg body l a1 (some .ret) N ⟨N,w0,B0,S0,ν0,st.nid,false⟩→TE ⟨N,w0,B0,S0,ν0,st.nid,false⟩ K ((AS.mk Ei st.hp st.nid).put dst (.o (.c (.bool false)))))→TE C' (Qr .ret) st
 exit:∀ {st id},(∀ w0 B0 S0 ν0,Looping P X E ps asg body l a1 (some (.exit id)) N ⟨N,w0,B0,S0,ν0,st.nid,false⟩→TE ⟨N,w0,B0,S0,ν0,st.nid,false⟩ K ((AS.mk Ei st.hp st.nid).put dst (.o (.c (.bool false)))))→TE C' (Qr (.exit id)) st
 panic:PanicOk Qr
def Begin (P:Program) (l:Nat) (body:Code) (Qr:Exit→Act→World→Prop) (a:Act) (w:World):Prop:=∃ w',(Instr.beginRound l).run P w = .ok () w'∧body.wpIn (RF l) 0 P Qr a w'
structure Rnd0 (P:Program) (X C:Cx) (E:Env) (ps:List Tmp) (asg body:Code) (l:Nat) (a1:Act) (N:Nat) (Ei:Env) (dst:Option Tmp) (K:Act→World→Prop) (Qr:Exit→Act→World→Prop) (C' : Cx):Prop where
 begin:∀ {st},(∀ w0 B0 S0 ν0,Rnd P X C E ps asg body l a1 N Ei dst K Qr ⟨C'.N,w0,B0,S0,ν0,st.nid,false⟩→TE ⟨C'.N,w0,B0,S0,ν0,st.nid,false⟩ (body.wpIn (RF l) 0 P Qr) st)→TE C' (Begin P l body Qr) st
def allLtB (N:Nat):List Nat→Bool
 | []=>true
 | t :: r=>match Nat.blt t N with
  | true=>allLtB N r
  | false=>false
theorem allLtB_ok {N:Nat}:∀ {ts:List Nat},allLtB N ts=true→∀ t∈ts,t<N
 | [],_,t,h=>nomatch h
 | x :: r,h,t,ht=>by
  simp only [allLtB] at h
  split at h
  ·rename_i hb
   rcases List.mem_cons.1 ht with rfl | ht
   ·exact Nat.le_of_ble_eq_true hb
   ·exact allLtB_ok h t ht
  ·cases h
theorem aops_lt {st:AS} {a:Act} {w:World} {S:Nat→Prop} {ν:Nat→Value} (sat:Sat X S ν st a w):∀ {xs:List Operand} {vs:List AV},aops st xs=some vs→∀ v∈vs,v.lt st.nid
 | [],vs,h,v,hv=>by cases h;cases hv
 | x :: xs,vs,h,v,hv=>by
  simp only [aops] at h
  split at h
  ·rename_i u r h1 h2
   cases h
   rcases List.mem_cons.1 hv with rfl | hv
   ·exact (aop_ok sat h1).2
   ·exact aops_lt sat h2 v hv
  ·cases h
theorem yield_op (L:Looping P X E ps asg body l a1 none N C) {o:Oper} {c:Call} {x:Operand} {vs:List AV} {Nx:Nat} (ho:o.op = .call c) (hc:c.callee = .value x) (hx:aop st x=some (.o (.c (.func (.yield l) #[] #[])))) (hv:aops st c.args.toList=some vs) (hlen:Nat.beq vs.length ps.length=true) (hN:X.N=Nx) (hps:allLtB Nx ps=true)
  (hd:∀ d,o.dst=some d→d<C.N) (K:Act→World→Prop)
  (h:∀ Qr w0 B0 S0 ν0,Rnd0 P X C E ps asg body l a1 N st.env o.dst K Qr ⟨Nx,w0,B0,S0,ν0,st.nid,false⟩→TE ⟨Nx,w0,B0,S0,ν0,st.nid,false⟩ (asg.wpIn (RF l) 0 P (Exit.then (Begin P l body Qr) (fun _ _ _=>False))) (putPs ps vs ⟨E,st.hp,st.nid⟩))
  (sat:Sat C S ν st a w):o.wpIn Fence.wide 0 P a w K Q:=by
 subst hN
 obtain ⟨b1,b2,b3,b4,fn,D,b5⟩:=L.now sat
 have hNC:C.N=N:=by obtain ⟨_,_,_,_,_,_,_,_,e,_⟩:=L.go;rw [e]
 have hmkC:C.mks=false:=by obtain ⟨_,_,_,_,_,_,_,_,e,_⟩:=L.go;rw [e]
 have hvs:=aops_ok sat hv
 have hvl:=aops_lt sat hv
 have ha:a.eval x = .func (.yield l) #[] #[]:=(aop_ok sat hx).1.1
 have hsz:(c.args.map a.eval).size=ps.toArray.size:=by
  have h1:=hvs.length
  have h2:=Nat.eq_of_beq_eq_true hlen
  simp at h1⊢;omega
 have hrun:(execOp a.eval o).run P w = .ok (.round l fn ((ps.toArray.zip (c.args.map a.eval)).foldl (fun ts (t,v)=>ts.setIfInBounds t v) a1.tmps) asg body) w:=by
  unfold execOp
  rw [ho]
  simp only [resolve,hc,ha,Deferred.ofValue,Sem.run_bind,Sem.run_pure,Result.andThen_ok,invoke]
  have:=run_yield (P:=P) (args:=c.args.map a.eval) b5 hsz
  simpa using this
 refine ⟨fun _ _=>trivial,?_⟩
 rw [show Fence.wide.round=none from rfl,Oper.semAt_none,hrun]
 obtain ⟨Rr,hRr⟩:∃ Rr:Ending→World→Prop,Rr=fun (e:Ending) w''=>match e with
   | .returned v=>K (a.put o.dst v) w''
   | .panicked chain=>Q (.panic chain) a w''
   | .outgrown=>LetsOut Q:=⟨_,rfl⟩
 refine ⟨(fun h=>nomatch h),RoundIn.mono (R:=Rr) (roundIn_of_wpIn trivial ?_) (fun e w' h=>by rw [hRr] at h;cases e<;>exact h)⟩
 have hbase:Sat (cxAt false X.N S ν ⟨E,st.hp,st.nid⟩ w) S ν ⟨E,st.hp,st.nid⟩ { tmps:=a1.tmps,defers:=[] } w:=b1.enter false rfl b1.size fun p hp=>⟨(b1.env p hp).1,(b1.env p hp).2,b1.elt p hp⟩
 have hput:=hbase.putPs hvs hvl (allLtB_ok hps)
 have hzip:((ps.toArray.zip (c.args.map a.eval)).foldl (fun ts (t,v)=>ts.setIfInBounds t v) a1.tmps)=(ps.zip (c.args.toList.map a.eval)).foldl (fun r (p:Tmp×Value)=>r.setIfInBounds p.1 p.2) a1.tmps:=by
  rw [← Array.foldl_toList]
  simp
 rw [hzip]
 refine h (roundPost P l Rr) w (fun b=>b∈blks ν st.hp) S ν ⟨?_⟩ S ν _ w hput
 -- the round begins
 intro sta hgo S1 ν1 a1' w1 sat1
 have hlt:l<w.heap.size:=(Array.getElem?_eq_some_iff.1 b5).1
 have c1:w1.heap[l]? = _:=(sat1.frame.block l hlt b4).trans b5
 have c2:¬ S1 l:=fun hs=>by
  rcases (sat1.imm l hs).2 with h | h | h
  ·exact b3 h
  ·exact absurd (show w.heap.size≤l from h) (by omega)
  ·exact b4 h
 have c3:l ∉ blks ν1 sta.hp:=fun hm=>by
  rcases (sat1.blk l hm).2.2 with h | h
  ·exact absurd (show w.heap.size≤l from h) (by omega)
  ·exact b4 h
 have c4:Sat X S1 ν1 ⟨E,sta.hp,sta.nid⟩ a1 w1:=b1.leave (mk:=false) (N:=X.N) sat1
 refine ⟨_,run_beginRound c1 rfl,?_⟩
 obtain ⟨w2,hw2⟩:∃ w2,w2=w1.putObj l (.loop { state:=.busy,pending:=none,fn:=fn,tmps:=a1.tmps,params:=ps.toArray,assign:=asg,body:=body,defers:=D }):=⟨_,rfl⟩
 have e2:w2.heap[l]? = some (.loop { state:=.busy,pending:=none,fn:=fn,tmps:=a1.tmps,params:=ps.toArray,assign:=asg,body:=body,defers:=D }):=by
  rw [hw2];exact World.putObj_heap_same (Array.getElem?_eq_some_iff.1 c1).1
 have c5:Sat X S1 ν1 ⟨E,sta.hp,sta.nid⟩ a1 w2:=by rw [hw2];exact c4.turn c1 (fun _ h=>nomatch h) b2 c2 c3
 have gr:Gr w1 w2 S1 S1:=⟨by rw [hw2];simp,fun b hb _=>by rw [hw2];exact World.putObj_heap_other fun e=>c2 (e ▸ hb),fun _ h=>h⟩
 have c6:Sat (cxAt false X.N S1 ν1 ⟨E,sta.hp,sta.nid⟩ w2) S1 ν1 ⟨sta.env,sta.hp,sta.nid⟩ a1' w2:=c5.enter false (sat1.defers.2.2 rfl) sat1.size fun p hp=>⟨(sat1.env p hp).1,AV.mono gr (fun _ _=>rfl) (sat1.elt p hp) (sat1.env p hp).2,sat1.elt p hp⟩
 have hlt2:l<w2.heap.size:=(Array.getElem?_eq_some_iff.1 e2).1
 show body.wpIn (RF l) 0 P (roundPost P l Rr) a1' _
 rw [← hw2]
 -- the end of the round
 have fin:∀ {S3:Nat→Prop} {ν3:Nat→Value} {st3:AS} {a3:Act} {w3:World},Sat (cxAt false X.N S1 ν1 ⟨E,sta.hp,sta.nid⟩ w2) S3 ν3 st3 a3 w3→
   w3.heap[l]? = some (.loop { state:=.busy,pending:=none,fn:=fn,tmps:=a1.tmps,params:=ps.toArray,assign:=asg,body:=body,defers:=D })∧¬ S3 l∧l ∉ blks ν3 st3.hp∧Sat X S3 ν3 ⟨E,st3.hp,st3.nid⟩ a1 w3∧
    (∀ k,k<w.heap.size→k ∉ blks ν st.hp→k≠l→w3.heap[k]? = w.heap[k]?)∧w3.os=w.os∧w3.tape=w.tape∧w3.output=w.output∧w.heap.size≤w3.heap.size∧(∀ i,i<st.nid→ν3 i=ν i)∧(∀ b,S b→S3 b)∧st.nid≤st3.nid∧
    (∀ b,S3 b→S b∨w.heap.size≤b∨b∈blks ν st.hp)∧(∀ b,b∈blks ν3 st3.hp→w.heap.size≤b∨b∈blks ν st.hp):=by
  intro S3 ν3 st3 a3 w3 sat3
  have hsz12:w2.heap.size=w1.heap.size:=by rw [hw2];simp
  have s01:w.heap.size≤w1.heap.size:=sat1.frame.size
  refine ⟨(sat3.frame.block l hlt2 c3).trans e2,fun hs=>?_,fun hm=>?_,c5.leave sat3,fun k hk hb hkl=>?_,?_,?_,?_,?_,fun i hi=>?_,fun b hb=>sat3.imm0 b (sat1.imm0 b hb),Nat.le_trans sat1.ge sat3.ge,fun b hb=>?_,fun b hb=>?_⟩
  ·rcases (sat3.imm l hs).2 with h | h | h
   ·exact c2 h
   ·exact absurd (show w2.heap.size≤l from h) (by omega)
   ·exact c3 h
  ·rcases (sat3.blk l hm).2.2 with h | h
   ·exact absurd (show w2.heap.size≤l from h) (by omega)
   ·exact c3 h
  ·have hk2:k<w2.heap.size:=by omega
   have hk3:k ∉ blks ν1 sta.hp:=fun hm=>by
    rcases (sat1.blk k hm).2.2 with h | h
    ·exact absurd (show w.heap.size≤k from h) (by omega)
    ·exact hb h
   rw [sat3.frame.block k hk2 hk3,hw2,World.putObj_heap_other hkl]
   exact sat1.frame.block k hk hb
  ·rw [sat3.frame.os,hw2];exact sat1.frame.os
  ·rw [sat3.frame.tape,hw2];exact sat1.frame.tape
  ·rw [sat3.frame.output,hw2];exact sat1.frame.output
  ·have:=sat3.frame.size;have h' : w2.heap.size≤w3.heap.size:=this;omega
  ·rw [sat3.fix i (Nat.lt_of_lt_of_le hi sat1.ge)];exact sat1.fix i hi
  ·rcases (sat3.imm b hb).2 with h | h | h
   ·rcases (sat1.imm b h).2 with h | h | h
    ·exact .inl h
    ·exact .inr (.inl h)
    ·exact .inr (.inr h)
   ·exact .inr (.inl (by have:w2.heap.size≤b:=h;omega))
   ·rcases (sat1.blk b h).2.2 with h | h
    ·exact .inr (.inl h)
    ·exact .inr (.inr h)
  ·rcases (sat3.blk b hb).2.2 with h | h
   ·exact .inl (by have:w2.heap.size≤b:=h;omega)
   ·rcases (sat1.blk b h).2.2 with h | h
    ·exact .inl h
    ·exact .inr h
 have stop:∀ {S3:Nat→Prop} {ν3:Nat→Value} {st3:AS} {a3:Act} {w3:World} (j:Code),Sat (cxAt false X.N S1 ν1 ⟨E,sta.hp,sta.nid⟩ w2) S3 ν3 st3 a3 w3→
   (∀ w0 B0 S0 ν0,Looping P X E ps asg body l a1 (some j) N ⟨N,w0,B0,S0,ν0,st3.nid,false⟩→TE ⟨N,w0,B0,S0,ν0,st3.nid,false⟩ K ((AS.mk st.env st3.hp st3.nid).put o.dst (.o (.c (.bool false)))))→
   ∃ v w',(Instr.endRound l (some j)).run P w3 = .ok v w'∧Rr (.returned v) w':=by
  intro S3 ν3 st3 a3 w3 j sat3 hk
  obtain ⟨f1,f2,f3,f4,f5,f6,f7,f8,f9,f10,f11,f12,f13,f14⟩:=fin sat3
  refine ⟨_,_,run_endRound (some j) f1,?_⟩
  rw [hRr]
  show K (a.put o.dst (.bool false)) _
  obtain ⟨w4,hw4⟩:∃ w4,w4=w3.putObj l (.loop { state:=.done,pending:=some j,fn:=fn,tmps:=a1.tmps,params:=ps.toArray,assign:=asg,body:=body,defers:=D }):=⟨_,rfl⟩
  have g4:w4.heap[l]? = some (.loop { state:=.done,pending:=some j,fn:=fn,tmps:=a1.tmps,params:=ps.toArray,assign:=asg,body:=body,defers:=D }):=by
   rw [hw4];exact World.putObj_heap_same (Array.getElem?_eq_some_iff.1 f1).1
  have g5:Sat X S3 ν3 ⟨E,st3.hp,st3.nid⟩ a1 w4:=by rw [hw4];exact f4.turn f1 (fun _ h=>nomatch h) b2 f2 f3
  have gr4:Gr w w4 S S3:=⟨by rw [hw4,World.putObj_size];exact f9,fun b hb hlt=>by
   have hne:b≠l:=fun e=>b3 (by rw [← e];exact hb)
   rw [hw4,World.putObj_heap_other hne]
   exact f5 b hlt (fun hm=>(sat.blk b hm).2.1 hb) hne,f11⟩
  have g6:Sat (cxAt false N S3 ν3 ⟨E,st3.hp,st3.nid⟩ w4) S3 ν3 ⟨st.env,st3.hp,st3.nid⟩ a w4:=g5.enter false (sat.defers.2.2 hmkC) (by rw [sat.size];exact hNC) fun p hp=>
   ⟨by rw [← hNC];exact (sat.env p hp).1,AV.mono gr4 (fun i hi=>f10 i hi) (sat.elt p hp) (sat.env p hp).2,AV.lt_mono f12 (sat.elt p hp)⟩
  have g9:=hk w4 (fun b=>b∈blks ν3 st3.hp) S3 ν3 ⟨S3,ν3,⟨E,st3.hp,st3.nid⟩,w4,fn,D,g5,rfl,rfl,b2,f2,f3,g4⟩ S3 ν3 _ w4 (g6.put (dst:=o.dst) (fun d hd'=>by show d<N;rw [← hNC];exact hd d hd') (v:=.o (.c (.bool false))) (u:=.bool false) ⟨rfl,rfl⟩ trivial)
  rw [hw4] at g9;exact g9
 refine hgo w2 (fun b=>b∈blks ν1 sta.hp) S1 ν1 ⟨?_,?_,?_,?_⟩ S1 ν1 a1' w2 c6
 ·intro st3 hk S3 ν3 a3 w3 sat3
  obtain ⟨f1,f2,f3,f4,f5,f6,f7,f8,f9,f10,f11,f12,f13,f14⟩:=fin sat3
  refine ⟨_,_,run_endRound none f1,?_⟩
  rw [hRr]
  show K (a.put o.dst (.bool true)) _
  obtain ⟨w4,hw4⟩:∃ w4,w4=w3.putObj l (.loop { state:=.ready,pending:=none,fn:=fn,tmps:=a1.tmps,params:=ps.toArray,assign:=asg,body:=body,defers:=D }):=⟨_,rfl⟩
  have g5:Sat X S3 ν3 ⟨E,st3.hp,st3.nid⟩ a1 w4:=by rw [hw4];exact f4.turn f1 (fun _ h=>nomatch h) b2 f2 f3
  have g4:w4.heap[l]? = some (.loop { state:=.ready,pending:=none,fn:=fn,tmps:=a1.tmps,params:=ps.toArray,assign:=asg,body:=body,defers:=D }):=by
   rw [hw4];exact World.putObj_heap_same (Array.getElem?_eq_some_iff.1 f1).1
  have g6:Fr (fun b=>b∈blks ν st.hp) w w4:=by
   refine ⟨by rw [hw4];exact f6,by rw [hw4];exact f7,by rw [hw4];exact f8,by rw [hw4,World.putObj_size];exact f9,fun k hk hb=>?_⟩
   by_cases e:k=l
   ·rw [e,g4,b5];rfl
   ·rw [hw4,World.putObj_heap_other e];exact f5 k hk hb e
  have g7:=sat.swap (takes:=st.hp) (rest:=[]) (gives:=st3.hp) (nid:=st3.nid) (S':=S3) (ν':=ν3) (w':=w4) (by simp) g6 f10 f11 (fun b hb=>⟨(g5.imm b hb).1,f13 b hb⟩) g5.hp g5.nd (fun b hb=>⟨(g5.blk b hb).1,(g5.blk b hb).2.1,(f14 b hb).symm⟩) g5.hlt f12
  have g8:Sat C S3 ν3 ⟨st.env,st3.hp,st3.nid⟩ a w4:=by simpa using g7
  have g9:=hk S3 ν3 _ w4 (g8.put (dst:=o.dst) hd (v:=.o (.c (.bool true))) (u:=.bool true) ⟨rfl,rfl⟩ trivial)
  rw [hw4] at g9;exact g9
 ·intro st3 hk S3 ν3 a3 w3 sat3
  exact stop .ret sat3 hk
 ·intro st3 id hk S3 ν3 a3 w3 sat3
  exact stop (.exit id) sat3 hk
 ·exact fun d v c a w h=>h
theorem TE.yield (L:Looping P X E ps asg body l a1 none N C) {lo rest:List Oper} {o:Oper} {c:Call} {x:Operand} {vs:List AV} {Nx Nc:Nat} (hC:C.N=Nc) (hd:dstOk Nc o=true) (hg:aguard lo st o=some true) (ho:o.op = .call c) (hc:c.callee = .value x) (hx:aop st x=some (.o (.c (.func (.yield l) #[] #[])))) (hv:aops st c.args.toList=some vs) (hlen:Nat.beq vs.length ps.length=true) (hN:X.N=Nx) (hps:allLtB Nx ps=true)
  (h:∀ Qr w0 B0 S0 ν0,Rnd0 P X C E ps asg body l a1 N st.env o.dst (wpListIn Fence.wide 0 P lo.toArray Q rest) Qr ⟨Nx,w0,B0,S0,ν0,st.nid,false⟩→TE ⟨Nx,w0,B0,S0,ν0,st.nid,false⟩ (asg.wpIn (RF l) 0 P (Exit.then (Begin P l body Qr) (fun _ _ _=>False))) (putPs ps vs ⟨E,st.hp,st.nid⟩)) :
  TE C (wpListIn Fence.wide 0 P lo.toArray Q (o :: rest)) st:=by
 subst hC
 intro S ν a w sat
 have hw:=aguard_ok (ops:=lo.toArray) sat (by simpa using hg)
 simp only [wpListIn,hw,if_true]
 exact yield_op L ho hc hx hv hlen hN hps (dstOk_spec hd) _ h sat
theorem iter_leaves (L:Looping P X E ps asg body l a1 pend N C) {ifn:Func} (hr:ifn.results.toList=[]) (sat:Sat C S ν st a w) {R:Ending→World→Prop} (h:∀ v,R (.returned v) w):LeavesInM Fence.wide 0 P ifn a.tmps R a.defers .returning w:=by
 have hmk:C.mks=false:=by obtain ⟨_,_,_,_,_,_,_,_,e,_⟩:=L.go;rw [e]
 rw [sat.defers.2.2 hmk]
 refine ⟨.tuple #[],?_,h _⟩
 unfold results
 rw [show ifn.results = #[] by rw [← Array.toList_inj];exact hr]
 simp [Sem.run_bind,Sem.run_pure]
theorem TE.iterEnd (L:Looping P X E ps asg body l a1 none N C) {ifn:Func} {e:Exit} (he:e = .normal∨e = .ret) (hr:ifn.results.toList=[]) (h:TE X (Q .normal) ⟨E,st.hp,st.nid⟩):TE C (postR P ifn (rangePost Fence.wide 0 P l Q a1) e) st:=by
 intro S ν a w sat
 obtain ⟨b1,b2,b3,b4,fn,D,b5⟩:=L.now sat
 have key:LeavesInM Fence.wide 0 P ifn a.tmps (rangePost Fence.wide 0 P l Q a1) a.defers .returning w:=
  iter_leaves L hr sat fun v=>⟨_,_,run_endLoop b5 (by simp),h S ν a1 _ (b1.turn b5 (fun _ h=>nomatch h) b2 b3 b4)⟩
 rcases he with rfl | rfl<;>exact key
theorem TE.iterStop {j:Code} (L:Looping P X E ps asg body l a1 (some j) N C) {ifn:Func} {e:Exit} (he:e = .normal∨e = .ret) (hr:ifn.results.toList=[]) (h:TE X (j.wpIn Fence.wide 0 P Q) ⟨E,st.hp,st.nid⟩):TE C (postR P ifn (rangePost Fence.wide 0 P l Q a1) e) st:=by
 intro S ν a w sat
 obtain ⟨b1,b2,b3,b4,fn,D,b5⟩:=L.now sat
 have key:LeavesInM Fence.wide 0 P ifn a.tmps (rangePost Fence.wide 0 P l Q a1) a.defers .returning w:=
  iter_leaves L hr sat fun v=>⟨_,_,run_endLoop b5 (by simp),h S ν a1 _ (b1.turn b5 (fun _ h=>nomatch h) b2 b3 b4)⟩
 rcases he with rfl | rfl<;>exact key
end
def leCaps (g:Nat→Nat):List (Nat×Nat)→List (Nat×Nat)→Bool
 | [],[]=>true
 | (i,o) :: r,(j,o') :: r'=>match Nat.beq i (g j),Nat.beq o o' with
  | true,true=>leCaps g r r'
  | _,_=>false
 | _,_=>false
def leA1 (g:Nat→Nat):A1→A1→Option (List Prop)
 | .c u,.c v=>some [u=v]
 | .sb b,.sb c=>some [b=c]
 | .sb b,.c v=>some [.bool b=v]
 | .c v,.sb b=>some [v = .bool b]
 | .own i,.own j=>match Nat.beq i (g j) with
  | true=>some []
  | false=>none
 | .ptr i o,.ptr j o'=>match Nat.beq i (g j),Nat.beq o o' with
  | true,true=>some []
  | _,_=>none
 | .ro sz n c,.ro sz' n' c'=>match Nat.beq sz sz' with
  | true=>some [LeD sz n c n' c']
  | false=>none
 | .c v,.ro _ n _=>some [v = .slice none 0 0,n=0]
 | .clo f caps,.clo f' caps'=>match Nat.beq f f',leCaps g caps caps' with
  | true,true=>some []
  | _,_=>none
 | .optr i sz k o,.optr j sz' k' o'=>match Nat.beq i (g j),Nat.beq o o' with
  | true,true=>some [sz=sz',k=k']
  | _,_=>none
 | .vw i sz off n c,.vw j sz' off' n' c'=>match Nat.beq i (g j) with
  | true=>some [sz=sz',off=off',n=n',c=c']
  | _=>none
 | .eptr sz cell k off,.eptr sz' cell' k' off'=>some [A1.eptr sz cell k off=A1.eptr sz' cell' k' off']
 | _,.any=>some []
 | _,_=>none
def leL (g:Nat→Nat):List A1→List A1→Option (List Prop)
 | [],[]=>some []
 | a :: as,b :: bs=>match leA1 g a b,leL g as bs with
  | some p,some q=>some (appP p q)
  | _,_=>none
 | _,_=>none
def leS (g:Nat→Nat):List (Sum A1 (List A1))→List (Sum A1 (List A1))→Option (List Prop)
 | [],[]=>some []
 | .inl a :: as,.inl b :: bs=>match leA1 g a b,leS g as bs with
  | some p,some q=>some (appP p q)
  | _,_=>none
 | .inr a :: as,.inr b :: bs=>match leL g a b,leS g as bs with
  | some p,some q=>some (appP p q)
  | _,_=>none
 | _,_=>none
def leV (g:Nat→Nat):AV→AV→Option (List Prop)
 | .o a,.o b=>leA1 g a b
 | .g as,.g bs=>leL g as bs
 | .t as,.t bs=>leS g as bs
 | _,_=>none
def leVs (g:Nat→Nat):List AV→List AV→Option (List Prop)
 | [],[]=>some []
 | a :: as,b :: bs=>match leV g a b,leVs g as bs with
  | some p,some q=>some (appP p q)
  | _,_=>none
 | _,_=>none
def leE (g:Nat→Nat) (e:Env):Env→Option (List Prop)
 | []=>some []
 | (t,v) :: r=>match look e t with
  | some u=>match leV g u v,leE g e r with
   | some p,some q=>some (appP p q)
   | _,_=>none
  | none=>none
def takeC:List Chunk→Nat→Option (Chunk×List Chunk)
 | [],_=>none
 | c :: r,id=>match Nat.beq c.id id with
  | true=>some (c,r)
  | false=>match takeC r id with
   | some (d,r')=>some (d,c :: r')
   | none=>none
def leC1 (g:Nat→Nat):Chunk→Chunk→Option (List Prop)
 | .box _ T cs,.box _ T' cs'=>match Nat.beq T T' with
  | true=>leL g cs cs'
  | false=>none
 | .own _ E sz ct,.own _ E' sz' ct'=>match Nat.beq E E',Nat.beq sz sz' with
  | true,true=>some [LeD sz ct.n ct.cell ct'.n ct'.cell]
  | _,_=>none
 | .obj _ ob,.obj _ ob'=>some [ob=ob']
 | .nest _ E ct j,.nest _ E' ct' j'=>match Nat.beq E E',Nat.beq j (g j') with
  | true,true=>some [LeD 1 ct.n ct.cell ct'.n ct'.cell]
  | _,_=>none
 | .stat _ b sz cell,.stat _ b' sz' cell'=>match Nat.beq b b',Nat.beq sz sz' with
  | true,true=>some [cell=cell']
  | _,_=>none
 | _,_=>none
def takeP (g:Nat→Nat):List Chunk→List Chunk→Option (List Chunk×List Prop)
 | hp,[]=>some (hp,[])
 | hp,c' :: r=>match takeC hp (g c'.id) with
  | some (c,rest)=>match leC1 g c c',takeP g rest r with
   | some p,some (left,q)=>some (left,appP p q)
   | _,_=>none
  | none=>none
section
variable {g:Nat→Nat} {ps:List Prop}
theorem appP_split {p q:List Prop} (h:∀ x∈appP p q,x):(∀ x∈p,x)∧∀ x∈q,x:=⟨fun x hx=>h x (mem_appP.2 (.inl hx)),fun x hx=>h x (mem_appP.2 (.inr hx))⟩
theorem leCaps_ok:∀ {c c' : List (Nat×Nat)},leCaps g c c' = true→c=c'.map fun p=>(g p.1,p.2)
 | [],[],_=>rfl
 | (i,o) :: r,(j,o') :: r',h=>by
  simp only [leCaps] at h
  split at h
  ·rename_i h1 h2
   rw [List.map_cons,← leCaps_ok h,Nat.eq_of_beq_eq_true h1,Nat.eq_of_beq_eq_true h2]
  ·cases h
 | [],_ :: _,h=>nomatch h
 | _ :: _,[],h=>nomatch h
theorem leA1_ok {a b:A1} (h:leA1 g a b=some ps) (hp:∀ p∈ps,p):LeA a (b.ren g):=by
 unfold leA1 at h
 split at h
 ·cases h;exact LeA.cc (hp _ (List.mem_cons_self ..))
 ·cases h;exact LeA.sb (hp _ (List.mem_cons_self ..))
 ·rename_i b' v
  cases h
  have e:=hp _ (List.mem_cons_self ..)
  subst e
  exact LeA.bool b'
 ·rename_i v b'
  cases h
  have e:=hp _ (List.mem_cons_self ..)
  subst e
  exact LeA.unbool rfl
 ·split at h
  ·rename_i h1;cases h;exact LeA.rown (Nat.eq_of_beq_eq_true h1)
  ·cases h
 ·split at h
  ·rename_i h1 h2;cases h;rw [Nat.eq_of_beq_eq_true h2];exact LeA.rptr (Nat.eq_of_beq_eq_true h1)
  ·cases h
 ·split at h
  ·rename_i h1
   cases h
   have e:=Nat.eq_of_beq_eq_true h1
   subst e
   exact LeA.rro (hp _ (List.mem_cons_self ..))
  ·cases h
 ·cases h
  have e1:=hp _ (List.mem_cons_self ..)
  have e2:=hp _ (List.mem_cons_of_mem _ (List.mem_cons_self ..))
  subst e1
  exact LeA.rronil e2
 ·split at h
  ·rename_i h1 h2
   cases h
   have e:=Nat.eq_of_beq_eq_true h1
   subst e
   exact LeA.rclo (by show A1.clo _ _=A1.clo _ (List.map _ _);rw [← leCaps_ok h2])
  ·cases h
 ·split at h
  ·rename_i h1 h2
   cases h
   have e1:=hp _ (List.mem_cons_self ..)
   have e2:=hp _ (List.mem_cons_of_mem _ (List.mem_cons_self ..))
   subst e1 e2
   rw [Nat.eq_of_beq_eq_true h2,Nat.eq_of_beq_eq_true h1]
   exact LeA.refl _
  ·cases h
 ·split at h
  ·rename_i h1
   cases h
   have e1:=hp _ (List.mem_cons_self ..)
   have e2:=hp _ (List.mem_cons_of_mem _ (List.mem_cons_self ..))
   have e3:=hp _ (List.mem_cons_of_mem _ (List.mem_cons_of_mem _ (List.mem_cons_self ..)))
   have e4:=hp _ (List.mem_cons_of_mem _ (List.mem_cons_of_mem _ (List.mem_cons_of_mem _ (List.mem_cons_self ..))))
   subst e1 e2 e3 e4
   rw [Nat.eq_of_beq_eq_true h1]
   exact LeA.refl _
  ·cases h
 ·cases h
  have e:=hp _ (List.mem_cons_self ..)
  rw [e];exact LeA.refl _
 ·exact fun w S ν u h=>A1.one h
 ·cases h
theorem leL_ok:∀ {as bs:List A1} {ps:List Prop},leL g as bs=some ps→(∀ p∈ps,p)→All2 LeA as (bs.map (A1.ren g))
 | [],[],_,_,_=>trivial
 | a :: as,b :: bs,ps,h,hp=>by
  simp only [leL] at h
  split at h
  ·rename_i p q h1 h2
   cases h
   obtain ⟨k1,k2⟩:=appP_split hp
   exact ⟨leA1_ok h1 k1,leL_ok h2 k2⟩
  ·cases h
 | [],_ :: _,_,h,_=>nomatch h
 | _ :: _,[],_,h,_=>nomatch h
theorem leS_ok:∀ {as bs:List (Sum A1 (List A1))} {ps:List Prop},leS g as bs=some ps→(∀ p∈ps,p)→All2 LeS as (bs.map (sumRen g))
 | [],[],_,_,_=>trivial
 | .inl a :: as,.inl b :: bs,ps,h,hp=>by
  simp only [leS] at h
  split at h
  ·rename_i p q h1 h2
   cases h
   obtain ⟨k1,k2⟩:=appP_split hp
   exact ⟨leA1_ok h1 k1,leS_ok h2 k2⟩
  ·cases h
 | .inr a :: as,.inr b :: bs,ps,h,hp=>by
  simp only [leS] at h
  split at h
  ·rename_i p q h1 h2
   cases h
   obtain ⟨k1,k2⟩:=appP_split hp
   exact ⟨leL_ok h1 k1,leS_ok h2 k2⟩
  ·cases h
 | [],_ :: _,_,h,_=>nomatch h
 | .inl _ :: _,[],_,h,_=>nomatch h
 | .inr _ :: _,[],_,h,_=>nomatch h
 | .inl _ :: _,.inr _ :: _,_,h,_=>nomatch h
 | .inr _ :: _,.inl _ :: _,_,h,_=>nomatch h
theorem leV_ok {a b:AV} (h:leV g a b=some ps) (hp:∀ p∈ps,p):LeV a (b.ren g):=by
 unfold leV at h
 split at h
 ·exact LeV.r (leA1_ok h hp)
 ·exact LeV.rg (leL_ok h hp)
 ·exact LeV.rt (leS_ok h hp)
 ·cases h
theorem leVs_ok:∀ {as bs:List AV} {ps:List Prop},leVs g as bs=some ps→(∀ p∈ps,p)→All2 LeV as (bs.map (AV.ren g))
 | [],[],_,_,_=>trivial
 | a :: as,b :: bs,ps,h,hp=>by
  simp only [leVs] at h
  split at h
  ·rename_i p q h1 h2
   cases h
   obtain ⟨k1,k2⟩:=appP_split hp
   exact ⟨leV_ok h1 k1,leVs_ok h2 k2⟩
  ·cases h
 | [],_ :: _,_,h,_=>nomatch h
 | _ :: _,[],_,h,_=>nomatch h
theorem leE_ok {e:Env}:∀ {r:Env} {ps:List Prop},leE g e r=some ps→(∀ p∈ps,p)→EnvLe e (r.map fun p=>(p.1,p.2.ren g))
 | [],_,_,_=>trivial
 | (t,v) :: r,ps,h,hp=>by
  simp only [leE] at h
  split at h
  ·rename_i u hu
   split at h
   ·rename_i p q h1 h2
    cases h
    obtain ⟨k1,k2⟩:=appP_split hp
    exact ⟨⟨u,hu,leV_ok h1 k1⟩,leE_ok h2 k2⟩
   ·cases h
  ·cases h
theorem takeC_ok:∀ {hp:List Chunk} {id:Nat} {c:Chunk} {r:List Chunk},takeC hp id=some (c,r)→c.id=id∧∃ i,hp[i]? = some c∧hp.eraseIdx i=r
 | x :: hp,id,c,r,h=>by
  simp only [takeC] at h
  split at h
  ·rename_i h1;cases h;exact ⟨Nat.eq_of_beq_eq_true h1,0,rfl,rfl⟩
  ·split at h
   ·rename_i d r' h2
    cases h
    obtain ⟨k1,i,k2,k3⟩:=takeC_ok h2
    exact ⟨k1,i+1,by simpa using k2,by rw [List.eraseIdx_cons_succ,k3]⟩
   ·cases h
theorem leC1_ok {c c' : Chunk} (h:leC1 g c c' = some ps) (hp:∀ p∈ps,p) (hid:c.id=g c'.id):LeC c (c'.ren g):=by
 unfold leC1 at h
 split at h
 ·split at h
  ·rename_i h1;exact ⟨hid,Nat.eq_of_beq_eq_true h1,leL_ok h hp⟩
  ·cases h
 ·split at h
  ·rename_i h1 h2
   cases h
   exact ⟨hid,Nat.eq_of_beq_eq_true h1,Nat.eq_of_beq_eq_true h2,hp _ (List.mem_cons_self ..)⟩
  ·cases h
 ·cases h;exact ⟨hid,hp _ (List.mem_cons_self ..)⟩
 ·split at h
  ·rename_i h1 h2
   cases h
   exact ⟨hid,Nat.eq_of_beq_eq_true h1,Nat.eq_of_beq_eq_true h2,hp _ (List.mem_cons_self ..)⟩
  ·cases h
 ·split at h
  ·rename_i h1 h2
   cases h
   exact ⟨hid,Nat.eq_of_beq_eq_true h1,Nat.eq_of_beq_eq_true h2,hp _ (List.mem_cons_self ..)⟩
  ·cases h
 ·cases h
theorem takeP_ok:∀ {tk hp left:List Chunk} {ps:List Prop},takeP g hp tk=some (left,ps)→(∀ p∈ps,p)→TakeH hp (tk.map (Chunk.ren g)) left
 | [],hp,left,ps,h,_=>by cases h;exact TakeH.rnil
 | c' :: r,hp,left,ps,h,hh=>by
  simp only [takeP] at h
  split at h
  ·rename_i c rest h1
   split at h
   ·rename_i p left' q h2 h3
    cases h
    obtain ⟨k1,k2⟩:=appP_split hh
    obtain ⟨j1,i,j2,j3⟩:=takeC_ok h1
    exact ⟨i,c,j2,leC1_ok h2 k1 j1,by rw [j3];exact takeP_ok h3 k2⟩
   ·cases h
  ·cases h
theorem takeP_sub:∀ {tk hp left:List Chunk} {ps:List Prop},takeP g hp tk=some (left,ps)→(∀ p∈ps,p)→SubH hp (tk.map (Chunk.ren g))
 | [],hp,left,ps,h,_=>SubH.rnil
 | c' :: r,hp,left,ps,h,hh=>by
  simp only [takeP] at h
  split at h
  ·rename_i c rest h1
   split at h
   ·rename_i p left' q h2 h3
    cases h
    obtain ⟨k1,k2⟩:=appP_split hh
    obtain ⟨j1,i,j2,j3⟩:=takeC_ok h1
    exact ⟨i,c,j2,leC1_ok h2 k1 j1,by rw [j3];exact takeP_sub h3 k2⟩
   ·cases h
  ·cases h
end
def entP (N m:Nat) (st st' : AS):Option (List Prop):=match st'.wf N,Nat.ble m st'.nid with
 | true,true=>match leE (gEnv m st st') st.env st'.env,takeP (gEnv m st st') st.hp st'.hp with
  | some p,some (_,q)=>some (appP p q)
  | _,_=>none
 | _,_=>none
section
variable {F:Fence} {P:Program} {T:Tys} {X:Cx} {st st' : AS} {Q:Exit→Act→World→Prop} {R:Act→World→Prop} {K:Nat→Bool}
theorem Ent.of {N m:Nat} {ps:List Prop} (hN:X.N=N) (hm:X.m=m) (h:entP N m st st' = some ps) (hp:AllP ps):Ent X (gEnv X.m st st') st st':=by
 subst hN hm
 unfold entP at h
 split at h
 ·rename_i h1 h2
  split at h
  ·rename_i p left q h3 h4
   cases h
   obtain ⟨k1,k2⟩:=appP_split hp.mem
   exact Ent.auto h1 h2 (leE_ok h3 k1) (takeP_sub h4 k2)
  ·cases h
 ·cases h
def postP (T:Tys) (m:Nat) (fn:Func) (st:AS) (res:AV) (gives:List Chunk):Option (List Prop):=match ares T st fn.results.toList with
 | some rvs=>match retV rvs with
  | some rv=>match leV (gOf m st.hp gives (appN (pairV rv res) (idsN m))) rv res,takeP (gOf m st.hp gives (appN (pairV rv res) (idsN m))) st.hp gives with
   | some p,some (_,q)=>some (appP p q)
   | _,_=>none
  | none=>none
 | none=>none
theorem TE.ret' {ι:Type} {fn:Func} {takes:List Chunk} {pre:ι→Prop} {res:ι→AV} {gives:ι→List Chunk} {e:Exit} (he:e = .normal∨e = .ret) (hB:X.B0=fun b=>b∈blks X.ν0 takes) (hT:T.Ok P) (x:ι) (hpre:pre x) {m:Nat} {ps:List Prop} (hm:X.m=m) (h:postP T m fn st (res x) (gives x)=some ps) (hp:AllP ps):TE X (postR P fn (RetR X takes pre res gives) e) st:=by
 subst hm
 unfold postP at h
 split at h
 ·rename_i rvs h1
  split at h
  ·rename_i rv h2
   split at h
   ·rename_i p left q h3 h4
    cases h
    obtain ⟨k1,k2⟩:=appP_split hp.mem
    exact TE.post he hB x hpre _ hT h1 h2 (leV_ok h3 k1) (takeP_sub h4 k2) gOf_fix
   ·cases h
  ·cases h
 ·cases h
theorem AllP.go {ps:List Prop} (h:AllP ps):AllP ps:=h
def callP (st:AS) (c:Call) (f:FuncId) (args:List AV) (takes:List Chunk) (m:Nat):Option ((Nat→Nat)×List Chunk×List Prop):=match acallee st c.callee,aops st c.args.toList with
 | some (f',caps),some vs=>match allLt (gOf 0 st.hp takes (pairVs (vs++caps) args)) m st.nid with
  | true=>match leVs (gOf 0 st.hp takes (pairVs (vs++caps) args)) (vs++caps) args,takeP (gOf 0 st.hp takes (pairVs (vs++caps) args)) st.hp takes with
   | some p,some (left,q)=>some (gOf 0 st.hp takes (pairVs (vs++caps) args),left,(f' = f) :: appP p q)
   | _,_=>none
  | false=>none
 | _,_=>none
theorem callP_ok {c:Call} {f:FuncId} {args:List AV} {takes:List Chunk} {m:Nat} {g:Nat→Nat} {left:List Chunk} {ps:List Prop} (h:callP st c f args takes m=some (g,left,ps)) (hp:AllP ps):∃ caps vs,acallee st c.callee=some (f,caps)∧aops st c.args.toList=some vs∧All2 LeV (vs++caps) (args.map (AV.ren g))∧TakeH st.hp (takes.map (Chunk.ren g)) left∧∀ i,i<m→g i<st.nid:=by
 unfold callP at h
 split at h
 ·rename_i f' caps vs h1 h2
  split at h
  ·rename_i h4
   split at h
   ·rename_i p left' q h5 h6
    cases h
    have e:=hp.mem _ (List.mem_cons_self ..)
    obtain ⟨k1,k2⟩:=appP_split fun x hx=>hp.mem x (List.mem_cons_of_mem _ hx)
    subst e
    exact ⟨caps,vs,h1,h2,leVs_ok h5 k1,takeP_ok h6 k2,allLt_ok h4⟩
   ·cases h
  ·cases h
 ·cases h
theorem TE.callW [Free F] {ι:Type} {f:FuncId} {args:List AV} {takes:List Chunk} {m M:Nat} {pre:ι→Prop} {res:ι→AV} {gives:ι→List Chunk} (hcon:Con P f args takes m M pre res gives) {l:List Oper} {o:Oper} {c:Call} {rest:List Oper} {N:Nat} (hN:X.N=N) (hd:dstOk N o=true) (hgd:aguard l st o=some true) (ho:o.op = .call c)
  {g:Nat→Nat} {left:List Chunk} {ps:List Prop} (h:callP st c f args takes m=some (g,left,ps)) (hp:AllP ps) (hk:∀ x,pre x→TE X (wpListIn F 0 P l.toArray Q rest) (st.called left g m M o.dst (res x) (gives x))):TE X (wpListIn F 0 P l.toArray Q (o :: rest)) st:=by
 obtain ⟨caps,vs,h1,h2,h3,h4,h5⟩:=callP_ok h hp
 exact TE.call hcon hN hd hgd ho g h1 h2 h3 h4 h5 hk
theorem StepL.callW {ι:Type} {f:FuncId} {args:List AV} {takes:List Chunk} {m M:Nat} {pre:ι→Prop} {res:ι→AV} {gives:ι→List Chunk} (hcon:Con P f args takes m M pre res gives) {i fuel:Nat} {l:List Oper} {lb lb' : List Bool} {o:Oper} {c:Call} {N:Nat} (hN:X.N=N) (hi:nthO l i=some o) (hd:dstOk N o=true) (hgd:aguard l st o=some true) (ho:o.op = .call c)
  {g:Nat→Nat} {left:List Chunk} {ps:List Prop} (h:callP st c f args takes m=some (g,left,ps)) (hp:AllP ps) (hK:allK K g takes=true) (hb:normB (setB lb i) some=some lb') (hk:∀ x,pre x→TL F P X l Q K fuel lb' (st.called left g m M o.dst (res x) (gives x))):StepL F P X l Q K fuel lb st i:=
 fun hh=>by
  obtain ⟨caps,vs,h1,h2,h3,h4,h5⟩:=callP_ok h hp
  refine StepAt.call hcon hN hi hd hgd ho g h1 h2 h3 h4 (allK_ok hK) h5 fun x hx'=>?_
  rw [normB_eq] at hb
  cases hb
  have:=hk x hx' ⟨hh.1,by rw [setB_len,hh.2]⟩
  rw [setB_arr];exact this
theorem NS:(∀ s:ByteArray,(s=ByteArray.mk #[])=(s.size=0))∧(∀ n:Nat,((n:Int)).toNat=n)∧(∀ p:Prop,∀ [Decidable p],(decide p=true)=p)∧(∀ p:Prop,∀ [Decidable p],(decide p=false)=¬p)∧(∀ b:Bool,((!b)=true)=(b=false))∧(∀ b:Bool,((!b)=false)=(b=true))∧
  (∀ a b:Bool,((a || b)=true)=(a=true∨b=true))∧(∀ a b:Bool,((a && b)=true)=(a=true∧b=true))∧(∀ a b:Bool,((a || b)=false)=(a=false∧b=false))∧(∀ a b:Bool,((a && b)=false)=(a=false∨b=false))∧(∀ p:Prop,(¬¬p)=p)∧
  (∀ a b:Nat,((a:Int)<(b:Int))=(a<b))∧(∀ a b:Nat,((a:Int)≤(b:Int))=(a≤b))∧(∀ a b:Nat,((a:Int)=(b:Int))=(a=b))∧(∀ a b:Int,(¬ a<b)=(b≤a))∧(∀ a b:Int,(¬ a≤b)=(b<a))∧(∀ a b:Nat,(¬ a<b)=(b≤a))∧(∀ a b:Nat,(¬ a≤b)=(b<a))∧
  (∀ l:List UInt8,(bytesC l).n=l.length)∧(∀ {α:Type} (f:α→Nat→DC) (d:α) (l:List α),(listC f d l).n=l.length):=by
 refine ⟨fun s=>propext (strnil_iff s),fun n=>rfl,fun p _=>decide_eq_true_eq,fun p _=>propext decide_eq_false_iff_not,fun b=>by cases b<;>decide,fun b=>by cases b<;>decide,fun a b=>by cases a<;>cases b<;>decide,fun a b=>by cases a<;>cases b<;>decide,fun a b=>by cases a<;>cases b<;>decide,fun a b=>by cases a<;>cases b<;>decide,fun p=>propext Classical.not_not,fun a b=>propext Int.ofNat_lt,fun a b=>propext Int.ofNat_le,fun a b=>propext Int.natCast_inj,fun a b=>propext Int.not_lt,fun a b=>propext Int.not_le,fun a b=>propext Nat.not_lt,fun a b=>propext Nat.not_le,fun l=>rfl,fun f d l=>rfl⟩
theorem OS:(AllP []=True)∧(∀ p:Prop,AllP [p]=p)∧(∀ (p q:Prop) (r:List Prop),AllP (p :: q :: r)=(p∧AllP (q :: r)))∧(∀ l:List UInt8,(bytesC l).n=l.length)∧(∀ {α:Type} (f:α→Nat→DC) (d:α) (l:List α),(listC f d l).n=l.length)∧(∀ l:List (List DC),(litC l).n=l.length)∧(∀ a b:Ct,(appC a b).n=a.n+b.n)∧(nilC.n=0)∧
  (∀ s:ByteArray,(strC s).n=s.size)∧(∀ n z,(zeroC n z).n=n)∧(∀ c k o d,(setC c k o d).n=c.n)∧(∀ {α:Type} (a:α) (l:List α),(a :: l).length=l.length+1)∧(∀ {α:Type},([]:List α).length=0)∧(∀ {α:Type} (a b:List α),(a++b).length=a.length+b.length)∧(∀ {α β:Type} (f:α→β) (l:List α),(l.map f).length=l.length)∧(∀ n:Nat,((n:Int)).toNat=n)∧((2:Int) ^ Int.toNat 1=2)∧(∀ c n,(headC c n).n=n)∧(∀ c p n,(partC c p n).n=n)∧(∀ c p s,(setRngC c p s).n=max c.n (p+s.n)):=by
 refine ⟨rfl,fun _=>rfl,fun _ _ _=>rfl,fun _=>rfl,fun _ _ _=>rfl,fun _=>rfl,fun _ _=>rfl,rfl,fun _=>rfl,fun _ _=>rfl,fun _ _ _ _=>rfl,fun _ _=>rfl,rfl,fun _ _=>List.length_append,fun _ _=>List.length_map _,fun _=>rfl,rfl,fun _ _=>rfl,fun _ _ _=>rfl,fun _ _ _=>rfl⟩
theorem LeD.lit {α:Type} {f:α→Nat→DC} {d:α} {sz n:Nat} {rs:List (List DC)} {l:List α} (hn:n=l.length) (h:RowsOk f sz rs l):LeD sz (litC rs).n (litC rs).cell n (listC f d l).cell:=by
 subst hn
 exact listC_lit h
theorem TE.rgo [Free F] (hT:T.Ok P) {N id:Nat} {l rest' : List Oper} {ps:List Prop} (hN:X.N=N) (h:st.force (fun s=>arun T N l l s [])=(rest',st',ps)) (hps:AllP ps) (hk:TE X (wpListIn F 0 P l.toArray Q rest') st'):TE X ((Code.region id l.toArray false).wpIn F 0 P Q) st:=TE.region (TE.run hT hN h hps hk)
end
abbrev t1:=@TE.seq
abbrev t2:=@TE.done
abbrev t3:=@TE.thenN
abbrev t4:=@TE.inN
abbrev t5:=@TE.skip
abbrev t6:=@TE.block
abbrev t7:=@TE.ret
abbrev t8:=@TE.thenR
abbrev t9:=@TE.inR
abbrev tA:=@TE.exit
abbrev tB:=@TE.thenE
abbrev tC:=@TE.inHit
abbrev tD:=@TE.inMiss
abbrev tE:=@TE.label
abbrev tF:=@TE.goto
abbrev tG:=@TE.thenG
abbrev tH:=@TE.inG
abbrev tI:=@TE.jumpN
abbrev tJ:=@TE.jumpR
abbrev tK:=@TE.jumpE
abbrev tL:=@TE.jumpG
abbrev U:Unit→Prop:=fun _=>True
abbrev G0:Unit→List Chunk:=fun _=>[]
section
variable {F:Fence} {P:Program} {T:Tys} {X:Cx} {S:Nat→Prop} {ν:Nat→Value} {st st' : AS} {a:Act} {w:World} {Q:Exit→Act→World→Prop} {R:Act→World→Prop} {K:Nat→Bool}
def dsts:Code→List Nat
 | .region _ ops _=>ops.toList.filterMap (·.dst)
 | .seq x y=>dsts x++dsts y
 | .cond _ x y=>dsts x++dsts y
 | .block _ x=>dsts x
 | .loop x=>dsts x
 | .rangeFunc _ ps x y=>ps.toList++(dsts x++dsts y)
 | .scope x=>dsts x
 | _=>[]
def memN:List Nat→Nat→Bool
 | [],_=>false
 | a :: l,i=>match Nat.beq a i with
  | true=>true
  | false=>memN l i
def dropE (ts:List Nat):Env→Env
 | []=>[]
 | (t,v) :: e=>match memN ts t with
  | true=>dropE ts e
  | false=>(t,v) :: dropE ts e
def dropH (ids:List Nat):List Chunk→List Chunk
 | []=>[]
 | c :: r=>match memN ids c.id with
  | true=>dropH ids r
  | false=>c :: dropH ids r
def appE:Env→Env→Env
 | [],e=>e
 | p :: r,e=>p :: appE r e
def appH:List Chunk→List Chunk→List Chunk
 | [],e=>e
 | p :: r,e=>p :: appH r e
theorem TE.loopG [Free F] {ι:Type} (pre:ι→Prop) (es:ι→Env) (ids:List Nat) (hs:ι→List Chunk) (μ:ι→Nat) (x0:ι) {c:Code} {E0:Env} {H0:List Chunk} {n0:Nat}
  (hE:st.force (fun s=>forceE (dropE (dsts c) s.env) fun e=>forceH (dropH ids s.hp) fun h=>AS.mk e h s.nid)=⟨E0,H0,n0⟩)
  (h0:pre x0) (he:Ent X (gEnv X.m st ⟨appE (es x0) E0,appH (hs x0) H0,n0⟩) st ⟨appE (es x0) E0,appH (hs x0) H0,n0⟩)
  (round:∀ x,pre x→TE X (c.wpIn F 0 P (Exit.then (Again X pre (fun x=>⟨appE (es x) E0,appH (hs x) H0,n0⟩) μ (μ x)) Q)) ⟨appE (es x) E0,appH (hs x) H0,n0⟩):TE X ((Code.loop c).wpIn F 0 P Q) st:=
 TE.loop' pre (fun x=>⟨appE (es x) E0,appH (hs x) H0,n0⟩) μ x0 h0 he round
theorem TL.two [Free F] {l:List Oper} {i j:Nat} {fuel:Nat} {lb:List Bool} (hr:readyL lb 0 l lb=[i,j]) (h1:StepL F P X l Q K fuel lb st i) (h2:StepL F P X l Q K fuel lb st j):TL F P X l Q K (fuel+1) lb st:=TL.branch hr ⟨h1,h2⟩
theorem TL.three [Free F] {l:List Oper} {i j k:Nat} {fuel:Nat} {lb:List Bool} (hr:readyL lb 0 l lb=[i,j,k]) (h1:StepL F P X l Q K fuel lb st i) (h2:StepL F P X l Q K fuel lb st j) (h3:StepL F P X l Q K fuel lb st k):TL F P X l Q K (fuel+1) lb st:=TL.branch hr ⟨h1,h2,h3⟩
theorem TL.four [Free F] {l:List Oper} {i j k m:Nat} {fuel:Nat} {lb:List Bool} (hr:readyL lb 0 l lb=[i,j,k,m]) (h1:StepL F P X l Q K fuel lb st i) (h2:StepL F P X l Q K fuel lb st j) (h3:StepL F P X l Q K fuel lb st k) (h4:StepL F P X l Q K fuel lb st m):TL F P X l Q K (fuel+1) lb st:=TL.branch hr ⟨h1,h2,h3,h4⟩
def eqCell (k:TK):A1→A1→Option Bool
 | .c (.int j m),.c (.int j' n)=>match k,decide (j=j') with
  | .int _,true=>some (decide (m=n))
  | _,_=>none
 | .c (.string s),.c (.string t)=>match k with
  | .str=>some (decide (s=t))
  | _=>none
 | x,y=>match k,abool x,abool y with
  | .bool,some a,some b=>some (decide (a=b))
  | _,_,_=>none
def eqCells (T:Tys) (as bs:List A1):List (Nat×Nat×Nat)→Option Bool
 | []=>some true
 | (ft,off,_) :: r=>match tlook T ft,nth as off,nth bs off with
  | some ti,some a,some b=>match eqCell ti.k a b,eqCells T as bs r with
   | some p,some q=>some (p && q)
   | _,_=>none
  | _,_,_=>none
def eqOkB (P : Program) (t : TypeId) : Bool := (P.fieldsOf t).toList.all (fun f => f.name != "_") && !P.stoodInHeld t && !P.eqGuardType P.depth t
theorem eqCell_ok (hT:T.Ok P) {ft:Nat} {ti:TI} (ht:tlook T ft=some ti) {x y:A1} {b:Bool} {u v:Value} (h:eqCell ti.k x y=some b) (hx:x.rel w S ν u) (hy:y.rel w S ν v) (d:Nat) (w' : World):(Op.equalIn (d+1) ft u v).run P w' = .ok b w'∧ti.agg=false:=by
 obtain ⟨hti,hid⟩:=hT.get ht
 obtain ⟨dd,hu,hk,hrow⟩:=hti.und
 rw [hid] at hu
 unfold eqCell at h
 split at h
 ·split at h
  ·rename_i k' hkk hj
   cases h
   obtain ⟨rfl,_⟩:=hx
   obtain ⟨rfl,_⟩:=hy
   have hj:=of_decide_eq_true hj
   subst hj
   rw [hkk] at hk
   have hk:dd = .int _:=hk
   subst hk
   exact ⟨by rw [run_equalIn_int w' d ft _ _ _ _ hu];rfl,hrow.symm⟩
  ·cases h
 ·split at h
  ·rename_i hkk
   cases h
   obtain ⟨rfl,_⟩:=hx
   obtain ⟨rfl,_⟩:=hy
   rw [hkk] at hk
   have hk:dd = .string:=hk
   subst hk
   refine ⟨?_,hrow.symm⟩
   rw [run_equalIn_string w' d ft _ _ hu]
   congr 1
   rw [ByteArray.toList_eq,ByteArray.toList_eq];exact str_eq _ _
  ·cases h
 ·split at h
  ·rename_i a' b' hkk ha hb
   cases h
   obtain rfl:=abool_ok ha hx
   obtain rfl:=abool_ok hb hy
   rw [hkk] at hk
   have hk:dd = .bool:=hk
   subst hk
   exact ⟨by rw [run_equalIn_bool' w' d ft _ _ hu];rfl,hrow.symm⟩
  ·cases h
theorem eqFields_ok (hT : T.Ok P) {as bs : List A1} {us vs : List Value} (hu : All2 (A1.rel w S ν) as us) (hv : All2 (A1.rel w S ν) bs vs) (d : Nat) (w' : World) : ∀ {l : List Field} {fs : List (Nat × Nat × Nat)} {b : Bool}, l.map (fun f => (f.type, f.offset)) = fs.map (fun p => (p.1, p.2.1)) → (∀ f ∈ l, f.name ≠ "_") → eqCells T as bs fs = some b →
  (Op.eqFields (d+1) us.toArray vs.toArray l).run P w' = .ok b w'
 | [],[],b,_,_,h=>by cases h;rfl
 | f :: l,(ft,off,z) :: fs,b,hm,hn,h=>by
  obtain ⟨h1,h2⟩:=List.cons.inj hm
  have e1:f.type=ft:=(Prod.mk.inj h1).1
  have e2:f.offset=off:=(Prod.mk.inj h1).2
  subst e1 e2
  simp only [eqCells] at h
  split at h
  ·rename_i ti x y ht hx hy
   split at h
   ·rename_i p q hp hq
    cases h
    rw [nth_eq] at hx hy
    obtain ⟨u,u1,u2⟩:=hu.get hx
    obtain ⟨v,v1,v2⟩:=hv.get hy
    obtain ⟨k1,k2⟩:=eqCell_ok hT ht hp u2 v2 d w'
    have hag:(isAgg f.type).run P w' = .ok false w':=by
     obtain ⟨hti,hid⟩:=hT.get ht
     obtain ⟨dd,hund,_,hrow⟩:=hti.und
     rw [hid] at hund
     rw [k2] at hrow
     have:P.underlying f.type=some dd:=hund
     simp [isAgg,run_underlying this]
     cases dd<;>first | rfl | cases hrow
    have ih:=eqFields_ok hT hu hv d w' (l:=l) (fs:=fs) h2 (fun f hf=>hn f (List.mem_cons_of_mem _ hf)) hq
    have hu' : (us.toArray)[f.offset]? = some u:=by simpa using u1
    have hv' : (vs.toArray)[f.offset]? = some v:=by simpa using v1
    simp only [Op.eqFields,if_pos (hn f (List.mem_cons_self ..)),part,Sem.run_bind,hag,Result.andThen_ok,Bool.false_eq_true,if_false,hu',hv',Sem.run_pure,k1]
    cases p
    ·rfl
    ·simpa using ih
   ·cases h
  ·cases h
 | [],_ :: _,_,h,_,_=>nomatch h
 | _ :: _,[],_,h,_,_=>nomatch h
theorem m_eqS (hT:T.Ok P) {o:Oper} {op:BinOp} {t t' : TypeId} {x y:Operand} {zi z1 z2:Nat} {z3:List Value} {z4:Bool} {fs:List (Nat×Nat×Nat)} {as bs:List A1} {b:Bool} (hok:eqOkB P t=true) (ho:o.op = .binOp op t x y t') (hop:op = .eql∨op = .neq) (ht:tlook T t=some ⟨zi,.struct fs,z1,z2,z3,z4⟩)
  (hx:aop st x=some (.g as)) (hy:aop st y=some (.g bs)) (h:eqCells T as bs fs=some b):StepTo P K o st (· = st.put o.dst (.o (.sb (b == (op == .eql))))):=by
 intro X S ν a w Q K' hd sat hk
 obtain ⟨⟨us,e1,r1⟩,_⟩:=aop_ok sat hx
 obtain ⟨⟨vs,e2,r2⟩,_⟩:=aop_ok sat hy
 obtain ⟨arr,hund,hm,_⟩:=und_struct hT ht
 have hf:P.fieldsOf t=arr:=by unfold Program.fieldsOf;rw [hund]
 unfold eqOkB at hok
 rw [hf] at hok
 simp only [Bool.and_eq_true,Bool.not_eq_true'] at hok
 obtain ⟨⟨k1,k2⟩,k3⟩:=hok
 have hr:=eqFields_ok hT r1 r2 9998 w hm (fun f hf=>by simpa using List.all_eq_true.1 k1 f hf) h
 have hst:=run_equalIn_struct (P:=P) w 9999 t us.toArray vs.toArray (by rw [hf];exact hund) k2
 rw [hf,hr] at hst
 refine wp_value (w':=w) (u:=.bool (b == (op == .eql))) ?_ (hk _ S ν _ _ rfl (sat.put hd rfl trivial) ⟨Nat.le_refl _,fun _ h=>h,fun ch hc hk=>⟨by rw [(AS.put_hp _ _ _).1];exact hc,rfl⟩,fun _ _=>rfl⟩)
 rw [exec_binOp ho,Sem.run_bind,e1,e2]
 have:(do eqGuard op t x y (.agg us.toArray) (.agg vs.toArray);binOp op t (.agg us.toArray) (.agg vs.toArray):Sem Value).run P w = .ok (.bool (b == (op == .eql))) w:=by
  rw [Sem.run_bind,run_eqGuard_agg w op t x y _ _ k3,Result.andThen_ok]
  rcases hop with rfl | rfl
  ·rw [run_eql_struct,hst];cases b<;>rfl
  ·rw [run_neq_struct,hst];cases b<;>rfl
 rw [this];rfl
end
theorem bytes_app {a b:Ct} {x y z:List UInt8} (h:LeDC 1 a (bytesC x)) (k:LeDC 1 b (bytesC y)) (e:z=x++y):LeDC 1 (appC a b) (bytesC z):=by
 subst e;exact (LeDC.app h k).trans (listC_app x y)
theorem byte_lit {z:Int} {b:UInt8} (h:z=b.toNat):LeDC 1 (litC [[.c (.int .u8 z)]]) (bytesC [b]):=listC_one b (byte_nth h)
theorem str_lit (s:ByteArray):LeDC 1 (strC s) (bytesC s.data.toList):=LeDC.of_eq (strC_eq s)
theorem LeD.zero {sz n n' : Nat} {c c' : Nat→Nat→DC} (h:n=0) (h' : n' = 0):LeD sz n c n' c':=by subst h h';exact ⟨rfl,fun i j hi=>absurd hi (Nat.not_lt_zero _)⟩
section
variable {P:Program} {T:Tys} {st:AS} {o:Oper} {K:Nat→Bool}
theorem StepL.law {F:Fence} {X:Cx} {Q:Exit→Act→World→Prop} {R' : AS→Prop} {i fuel:Nat} {l:List Oper} {lb lb' : List Bool} {o:Oper} {N:Nat} (hN:X.N=N) (hi:nthO l i=some o) (hd:dstOk N o=true) (hnd:∀ c,o.op≠.defer c) (hg:aguard l st o=some true) (h:StepTo P K o st R') (hb:normB (setB lb i) some=some lb') (hk:∀ s,R' s→TL F P X l Q K fuel lb' s):StepL F P X l Q K fuel lb st i:=
 fun hh=>by
  subst hN
  refine ⟨o,by rw [← Array.getElem?_toList,← nthO_eq];exact hi,hd,hnd,by simpa using hg,R',h,fun s hs=>?_⟩
  rw [normB_eq] at hb
  cases hb
  have:=hk s hs ⟨hh.1,by rw [setB_len,hh.2]⟩
  rw [setB_arr];exact this
end
section
variable {F:Fence} {P:Program} {T:Tys} {X:Cx} {S:Nat→Prop} {ν:Nat→Value} {st:AS} {a:Act} {w:World} {o:Oper} {K:Nat→Bool} {Q:Exit→Act→World→Prop}
theorem m_obj {u:Value} {ob:AO} {o' : Obj} {x:A1} (hok:∀ w S,ob.ok w S o') (hu:∀ w:World,u=u) (mk:Nat→Value) (hmk:(∀ b,mk b = .pointer (some ⟨b,0,none⟩))∧x = .ptr st.nid 0∧isMapA ob=false∨(∀ b,mk b = .map (some b))∧x = .own st.nid)
  (hrun:∀ (a:Act) (w:World) S ν X,Sat X S ν st a w→(execOp a.eval o).run P w = .ok (.value (mk w.heap.size)) (w.alloc o')) :
  StepTo P K o st (· = st.new st.hp (fun i=>.obj i ob) o.dst x):=by
 intro X S ν a w Q K' hd sat hk
 have hbk:objBlk (mk w.heap.size)=some w.heap.size:=by rcases hmk with ⟨h,_⟩ | ⟨h,_⟩<;>rw [h]<;>rfl
 refine wp_value (w':=w.alloc o') (u:=mk w.heap.size) (hrun a w S ν X sat) (step_new (takes:=[]) (rest:=st.hp) (mk:=fun i=>.obj i ob) (v:=mk w.heap.size) hd sat (.refl _) (fun ch hc=>by cases hc) (fr_alloc _ _ _) ?_ ?_ ?_ (x:=x) ?_ ?_ hk)
 ·refine ⟨w.heap.size,o',?_,heap_alloc_new w _,hok _ _,?_⟩
  ·rw [upd_same]
   rcases hmk with ⟨h,_⟩ | ⟨h,_⟩
   ·exact .inl (h _)
   ·exact .inr (h _)
  ·rw [upd_same]
   rcases hmk with ⟨h,_,hm⟩ | ⟨h,_⟩
   ·exact fun hm'=>by rw [hm] at hm';cases hm'
   ·exact fun _=>h _
 ·intro b hb
  simp only [Chunk.blk,upd_same] at hb
  rw [hbk] at hb
  cases hb
  exact ⟨by simp,fun hs=>by have:=(sat.imm _ hs).1;omega,.inr (Nat.le_refl _)⟩
 ·exact Nat.lt_succ_self _
 ·rcases hmk with ⟨h,rfl,_⟩ | ⟨h,rfl⟩
  ·exact ⟨w.heap.size,by rw [upd_same];exact h _,h _⟩
  ·exact ⟨(upd_same _ _ _).symm,by rw [upd_same,h];rfl⟩
 ·rcases hmk with ⟨h,rfl,_⟩ | ⟨h,rfl⟩<;>exact Nat.lt_succ_self _
theorem putObj_other (w:World) {b k:Nat} {ob:Obj} (h:k≠b):(w.putObj b ob).heap[k]? = w.heap[k]?:=by
 simp [World.putObj,Array.getElem?_setIfInBounds_ne (Ne.symm h)]
theorem putObj_same (w:World) {b:Nat} {ob:Obj} (h:b<w.heap.size):(w.putObj b ob).heap[b]? = some ob:=by
 simp [World.putObj,h]
theorem obj_step {id:Nat} {ob ob' : AO} {rest:List Chunk} {av:AV} {u:Value} (hd:∀ d,o.dst=some d→d<X.N) (sat:Sat X S ν st a w) (htk:takeObj (fun i=>!K i) st.hp id=some (ob,rest)) (hio:isMapA ob' = isMapA ob) (hv:∀ w',av.rel w' S ν u) (hl:av.lt st.nid) :
  ∃ b o',(ν id = .pointer (some ⟨b,0,none⟩)∨ν id = .map (some b))∧(isMapA ob=true→ν id = .map (some b))∧w.heap[b]? = some o'∧ob.ok w S o'∧∀ o2,ob'.ok w S o2→Sat X S ν ((AS.mk st.env (.obj id ob' :: rest) st.nid).put o.dst av) (a.put o.dst u) (w.putObj b o2)∧Kp K S S ν ν st ((AS.mk st.env (.obj id ob' :: rest) st.nid).put o.dst av) w (w.putObj b o2):=by
 obtain ⟨hp,hK⟩:=takeObj_perm htk
 have hm:Chunk.obj id ob∈st.hp:=hp.symm.subset (List.mem_cons_self ..)
 obtain ⟨b,o',h1,h2,h8,h9⟩:=sat.hp _ hm
 have hbk:objBlk (ν id)=some b:=by rcases h1 with h | h<;>rw [h]<;>rfl
 have hblk:blks ν [Chunk.obj id ob]=[b]:=by simp [blks,Chunk.blk,hbk]
 have hbs:=sat.blk b (mem_blks.2 ⟨_,hm,hbk⟩)
 have hb:b<w.heap.size:=hbs.1
 refine ⟨b,o',h1,h9,h2,h8,fun o2 ho2=>swap_kp (w':=w.putObj b o2) (av:=av) (u:=u) (takes:=[.obj id ob]) (gives:=[.obj id ob']) (rest:=rest) (nid:=st.nid) (ν':=ν) (S':=S) (K:=K) hd sat hp
  (fun ch hc=>by rw [List.mem_singleton.1 hc];show K id=false;simpa using hK) ⟨rfl,rfl,rfl,by simp [World.putObj],fun k hk hn=>putObj_other _ fun e=>hn (by rw [hblk,e];simp)⟩ (fun _ _=>rfl) (fun _ h=>h)
  (fun k hs=>⟨by simp only [World.putObj,Array.size_setIfInBounds];exact (sat.imm k hs).1,.inl hs⟩)
  (fun ch hc=>by
   rw [List.mem_singleton.1 hc]
   exact ⟨b,o2,h1,putObj_same w hb,AO.mono ⟨by simp [World.putObj],fun k hk _=>putObj_other _ fun e=>hbs.2.1 (by rw [← e];exact hk),fun _ h=>h⟩ ho2,fun h=>h9 (by rw [← hio];exact h)⟩)
  (by simp [blks,Chunk.blk,hbk]) (fun k hk=>by
   have:k=b:=by simpa [blks,Chunk.blk,hbk] using hk
   subst this
   exact ⟨by simp only [World.putObj,Array.size_setIfInBounds];exact hbs.1,hbs.2.1,.inl (by rw [hblk];simp)⟩)
  (fun ch hc=>by rw [List.mem_singleton.1 hc];exact sat.hlt (Chunk.obj id ob) hm) (Nat.le_refl _) (hv _) hl⟩
theorem m_rangeS (hT:T.Ok P) {t:TypeId} {x:Operand} {s:ByteArray} {zi z1 z2:Nat} {z3:List Value} {z4:Bool} (ho:o.op = .range t x) (ht:tlook T t=some ⟨zi,.str,z1,z2,z3,z4⟩) (hx:aop st x=some (.o (.c (.string s)))) :
  StepTo P K o st (· = st.new st.hp (fun i=>.obj i (.stringIter s 0)) o.dst (.ptr st.nid 0)):=by
 refine m_obj (o':=.stringIter s 0) (u:=.bool true) (fun _ _=>rfl) (fun _=>rfl) (fun b=>.pointer (some ⟨b,0,none⟩)) (.inl ⟨fun _=>rfl,rfl,rfl⟩) fun a w S ν X sat=>?_
 have hx1:a.eval x = .string s:=(aop_ok sat hx).1.1
 unfold execOp
 rw [ho]
 simp [Instr.range,run_underlying (und_str hT ht),hx1,run_newObj_alloc]
theorem m_nextS {x:Operand} {s:ByteArray} {id pos:Nat} {rest:List Chunk} {b:Bool} (hb:b=true) (ho:o.op = .next x b) (hx:aop st x=some (.o (.ptr id 0))) (htk:takeObj (fun i=>!K i) st.hp id=some (.stringIter s pos,rest)) :
  StepTo P K o st (fun st'=>(pos<s.size∧st' = (AS.mk st.env (.obj id (.stringIter s (pos+(Utf8.decode s pos).2)) :: rest) st.nid).put o.dst (.t [.inl (.c (.bool true)),.inl (.c (.int .i64 pos)),.inl (.c (.int .i32 (Utf8.decode s pos).1))]))∨
   (s.size≤pos∧st' = st.put o.dst (.t [.inl (.c (.bool false))]))):=by
 intro X S ν a w Q K' hd sat hk
 subst hb
 obtain ⟨b,e1,e2⟩:=(aop_ok sat hx).1
 by_cases h:pos<s.size
 ·obtain ⟨b',o',k1,_,k2,rfl,k34⟩:=obj_step (K:=K) (ob':=.stringIter s (pos+(Utf8.decode s pos).2)) (av:=.t [.inl (.c (.bool true)),.inl (.c (.int .i64 pos)),.inl (.c (.int .i32 (Utf8.decode s pos).1))]) (u:=.tuple #[.bool true,goInt pos,.int .i32 (Utf8.decode s pos).1]) hd sat htk rfl
   (fun _=>⟨[_,_,_],rfl,⟨rfl,rfl⟩,⟨rfl,rfl⟩,⟨rfl,rfl⟩,trivial⟩) (fun z hz=>by
    rcases List.mem_cons.1 hz with rfl | hz
    ·exact trivial
    ·rcases List.mem_cons.1 hz with rfl | hz
     ·exact trivial
     ·rw [List.mem_singleton.1 hz];exact trivial)
  have hbb:b' = b:=by
   rcases k1 with k1 | k1
   ·rw [e1] at k1;cases k1;rfl
   ·rw [e1] at k1;cases k1
  subst hbb
  obtain ⟨k3,k4⟩:=k34 (.stringIter s (pos+(Utf8.decode s pos).2)) rfl
  refine wp_value (w':=w.putObj b' (.stringIter s (pos+(Utf8.decode s pos).2))) ?_ (hk _ S ν _ _ (.inl ⟨h,rfl⟩) k3 k4)
  unfold execOp
  rw [ho]
  have hg:(getObj b').run P w = .ok (.stringIter s pos) w:=by unfold getObj;simp [Sem.run,k2]
  have hs:(setObj b' (.stringIter s (pos+(Utf8.decode s pos).2))).run P w = .ok () (w.putObj b' (.stringIter s (pos+(Utf8.decode s pos).2))):=by unfold setObj;simp [Sem.run,k2,World.putObj]
  simp [Instr.next,e2,hg,hs,h]
 ·obtain ⟨hp,_⟩:=takeObj_perm htk
  obtain ⟨b',o',k1,k2,rfl,_⟩:=sat.hp _ (hp.symm.subset (List.mem_cons_self ..))
  have hbb:b' = b:=by
   rcases k1 with k1 | k1
   ·rw [e1] at k1;cases k1;rfl
   ·rw [e1] at k1;cases k1
  subst hbb
  refine wp_value (w':=w) (u:=.tuple #[.bool false]) ?_ (hk _ S ν _ _ (.inr ⟨by omega,rfl⟩) (sat.put hd ⟨[_],rfl,⟨rfl,rfl⟩,trivial⟩ (fun z hz=>by rw [List.mem_singleton.1 hz];exact trivial)) ⟨Nat.le_refl _,fun _ h=>h,fun ch hc hk=>⟨by rw [(AS.put_hp _ _ _).1];exact hc,rfl⟩,fun _ _=>rfl⟩)
  unfold execOp
  rw [ho]
  have hg:(getObj b').run P w = .ok (.stringIter s pos) w:=by unfold getObj;simp [Sem.run,k2]
  simp [Instr.next,e2,hg,h]
end
theorem decode_low {s:ByteArray} {pos:Nat} (h:pos<s.size) (hb:(s.data.toList.getD pos 0).toNat<128):Utf8.decode s pos=((s.data.toList.getD pos 0).toNat,1):=by
 have hg:s.get! pos=s.data.toList.getD pos 0:=by
  have hl:pos<s.data.toList.length:=h
  rw [List.getD_eq_getElem?_getD,List.getElem?_eq_getElem hl]
  show s.data[pos]! = _
  rw [getElem!_pos s.data pos h];rfl
 unfold Utf8.decode
 simp only [Nat.add_zero,hg]
 rw [if_pos hb]
theorem decode_high {s:ByteArray} {pos:Nat} (h:pos<s.size) (hb:128≤(s.data.toList.getD pos 0).toNat):128≤(Utf8.decode s pos).1∧(Utf8.decode s pos).1≤1114111∧1≤(Utf8.decode s pos).2:=by
 have hg:s.get! pos=s.data.toList.getD pos 0:=by
  have hl:pos<s.data.toList.length:=h
  rw [List.getD_eq_getElem?_getD,List.getElem?_eq_getElem hl]
  show s.data[pos]! = _
  rw [getElem!_pos s.data pos h];rfl
 unfold Utf8.decode
 simp only [Nat.add_zero,hg]
 generalize (s.data.toList.getD pos 0).toNat=b0 at *
 rw [if_neg (by omega)]
 have m1:∀ k,(s.get! (pos+k)).toNat % 64<64:=fun k=>Nat.mod_lt _ (by decide)
 have:=m1 1
 have:=m1 2
 have:=m1 3
 generalize (s.get! (pos+1)).toNat % 64=c1 at *
 generalize (s.get! (pos+2)).toNat % 64=c2 at *
 generalize (s.get! (pos+3)).toNat % 64=c3 at *
 split
 ·split
  ·exact ⟨by assumption,by have:=Nat.mod_lt b0 (show 0<32 by decide);omega,Nat.le_of_ble_eq_true rfl⟩
  ·exact ⟨by decide,by decide,by decide⟩
 ·split
  ·split
   ·rename_i h;simp only [Bool.and_eq_true,decide_eq_true_eq] at h
    have:=Nat.mod_lt b0 (show 0<16 by decide)
    exact ⟨by dsimp only;omega,by dsimp only;omega,Nat.le_of_ble_eq_true rfl⟩
   ·exact ⟨by decide,by decide,by decide⟩
  ·split
   ·split
    ·rename_i h
     simp only [Bool.and_eq_true,decide_eq_true_eq,Utf8.valid,Bool.or_eq_true] at h
     exact ⟨by dsimp only;omega,by dsimp only;omega,Nat.le_of_ble_eq_true rfl⟩
    ·exact ⟨by decide,by decide,by decide⟩
   ·exact ⟨by decide,by decide,by decide⟩
section
variable {F:Fence} {P:Program} {T:Tys} {X:Cx} {S:Nat→Prop} {ν:Nat→Value} {st:AS} {a:Act} {w:World} {o:Oper} {K:Nat→Bool} {Q:Exit→Act→World→Prop}
end
section
variable {F:Fence} {P:Program} {X:Cx} {R:Act→World→Prop} {st:AS} {S:Nat→Prop} {ν:Nat→Value} {a:Act} {w:World} {ops:Array Oper} {Q:Exit→Act→World→Prop} {K:Nat→Bool}
section
variable {T:Tys} {o:Oper}
end
end
def findStat:List Chunk→Nat→Option (Nat×(Nat→DC))
 | [],_=>none
 | .stat _ b sz cell :: r,g=>match Nat.beq b g with
  | true=>some (sz,cell)
  | false=>findStat r g
 | .box _ _ _ :: r,g=>findStat r g
 | .own _ _ _ _ :: r,g=>findStat r g
 | .obj _ _ :: r,g=>findStat r g
 | .nest _ _ _ _ :: r,g=>findStat r g
theorem findStat_ok:∀ {l:List Chunk} {g sz:Nat} {cell:Nat→DC},findStat l g=some (sz,cell)→∃ i,Chunk.stat i g sz cell∈l
 | .stat i b s c :: r,g,sz,cell,h=>by
  simp only [findStat] at h
  split at h
  ·rename_i h1
   have:=Nat.eq_of_beq_eq_true h1
   subst this
   cases h
   exact ⟨i,List.mem_cons_self ..⟩
  ·obtain ⟨k,hk⟩:=findStat_ok h
   exact ⟨k,List.mem_cons_of_mem _ hk⟩
 | .box _ _ _ :: r,g,sz,cell,h=>by obtain ⟨k,hk⟩:=findStat_ok (l:=r) h;exact ⟨k,List.mem_cons_of_mem _ hk⟩
 | .own _ _ _ _ :: r,g,sz,cell,h=>by obtain ⟨k,hk⟩:=findStat_ok (l:=r) h;exact ⟨k,List.mem_cons_of_mem _ hk⟩
 | .obj _ _ :: r,g,sz,cell,h=>by obtain ⟨k,hk⟩:=findStat_ok (l:=r) h;exact ⟨k,List.mem_cons_of_mem _ hk⟩
 | .nest _ _ _ _ :: r,g,sz,cell,h=>by obtain ⟨k,hk⟩:=findStat_ok (l:=r) h;exact ⟨k,List.mem_cons_of_mem _ hk⟩
section
variable {P:Program} {T:Tys} {st:AS} {o:Oper} {K:Nat→Bool}
theorem m_statIdx (hT:T.Ok P) {t e n g sz:Nat} {te:TI} {i:Operand} {cell:Nat→DC} {ik:IntKind} {z:Int} (ho:o.op = .indexAddr t (.global g) i) (hu:P.underlying t=some (.array n e)) (he:tlook T e=some te) (hsz:te.size=1) (hi:aop st i=some (.o (.c (.int ik z)))) (hf:findStat st.hp g=some (sz,cell)) (hr:0≤z∧z<n∧n≤sz):StepTo P K o st (· = st.put o.dst (.o (.eptr 1 (fun i _=>cell i) z.toNat 0))):=by
 intro X S ν a w Q K' hd sat hk
 obtain ⟨c,hc⟩:=findStat_ok hf
 obtain ⟨h1,h2,h3,_⟩:=sat.hp _ hc
 have hz:a.eval i = .int ik z:=(aop_ok sat hi).1.1
 have hlt:z.toNat<sz:=by omega
 refine wp_value (w':=w) (u:=.pointer (some ⟨g,z.toNat,none⟩)) ?_ (hk _ S ν _ _ rfl (sat.put hd (v:=.o (.eptr 1 (fun i _=>cell i) z.toNat 0)) ⟨g,z.toNat,rfl,h1,h2,fun j hj=>?_⟩ trivial) ⟨Nat.le_refl _,fun _ h=>h,fun ch hc hk=>⟨by rw [(AS.put_hp _ _ _).1];exact hc,rfl⟩,fun _ _=>rfl⟩)
 ·unfold execOp
  rw [ho]
  have ev:a.eval (.global g) = .pointer (some ⟨g,0,none⟩):=rfl
  have hr2:0≤z∧z<(n:Int):=⟨hr.1,hr.2.1⟩
  simp [Instr.indexAt,Instr.sureAddr,asIntOf,Sem.run_bind,Sem.run_pure,Result.andThen_ok,run_underlying hu w,ev,hz,hr2,run_sizeOf' hT he w,hsz,Addr.add]
  intro _;omega
 ·obtain rfl:j=0:=by omega
  exact h3 _ hlt
theorem m_boxIdx (hT:T.Ok P) {t e n id:Nat} {te:TI} {x i:Operand} {ik:IntKind} {z:Int} (ho:o.op = .indexAddr t x i) (hu:P.underlying t=some (.array n e)) (he:tlook T e=some te) (hsz:te.size=1) (hx:aop st x=some (.o (.ptr id 0))) (hi:aop st i=some (.o (.c (.int ik z)))) (hr:0≤z∧z<n):StepTo P K o st (· = st.put o.dst (.o (.ptr id z.toNat))):=by
 intro X S ν a w Q K' hd sat hk
 obtain ⟨⟨b,e1,e2⟩,hlt⟩:=aop_ok sat hx
 have hz:a.eval i = .int ik z:=(aop_ok sat hi).1.1
 refine wp_value (w':=w) (u:=.pointer (some ⟨b,z.toNat,none⟩)) ?_ (hk _ S ν _ _ rfl (sat.put hd (v:=.o (.ptr id z.toNat)) ⟨b,e1,rfl⟩ hlt) ⟨Nat.le_refl _,fun _ h=>h,fun ch hc hk=>⟨by rw [(AS.put_hp _ _ _).1];exact hc,rfl⟩,fun _ _=>rfl⟩)
 unfold execOp
 rw [ho]
 simp [Instr.indexAt,Instr.sureAddr,asIntOf,Sem.run_bind,Sem.run_pure,Result.andThen_ok,run_underlying hu w,e2,hz,hr,run_sizeOf' hT he w,hsz,Addr.add]
 intro _;omega
end
section
variable {F:Fence} {P:Program} {T:Tys} {X:Cx} {st st' : AS} {Q:Exit→Act→World→Prop} {R:Act→World→Prop}
end
theorem dropE_sub {ts:List Nat}:∀ {e:Env} {p:Nat×AV},p∈dropE ts e→p∈e
 | [],_,h=>h
 | (i,v) :: e,p,h=>by
  unfold dropE at h
  split at h
  ·exact List.mem_cons_of_mem _ (dropE_sub h)
  ·rcases List.mem_cons.1 h with h | h
   ·exact List.mem_cons.2 (.inl h)
   ·exact List.mem_cons_of_mem _ (dropE_sub h)
theorem TE.drop (t:Nat) {X:Cx} {R:Act→World→Prop} {st st2:AS} (hst:(AS.mk (dropE [t] st.env) st.hp st.nid).force some=some st2) (h:TE X R st2):TE X R st:=by
 rw [AS.force_eq] at hst
 cases hst
 exact fun S ν a w sat=>h S ν a w (sat.weak (fun p hp=>dropE_sub hp) (List.Sublist.refl _) rfl)
def onlyE (ts:List Nat):Env→Env
 | []=>[]
 | (i,v) :: e=>match memN ts i with
  | true=>(i,v) :: onlyE ts e
  | false=>onlyE ts e
theorem onlyE_sub {ts:List Nat}:∀ {e:Env} {p:Nat×AV},p∈onlyE ts e→p∈e
 | [],_,h=>h
 | (i,v) :: e,p,h=>by
  unfold onlyE at h
  split at h
  ·rcases List.mem_cons.1 h with h | h
   ·exact List.mem_cons.2 (.inl h)
   ·exact List.mem_cons_of_mem _ (onlyE_sub h)
  ·exact List.mem_cons_of_mem _ (onlyE_sub h)
theorem TE.only (ts:List Nat) {X:Cx} {R:Act→World→Prop} {st st2:AS} (hst:(AS.mk (onlyE ts st.env) st.hp st.nid).force some=some st2) (h:TE X R st2):TE X R st:=by
 rw [AS.force_eq] at hst
 cases hst
 exact fun S ν a w sat=>h S ν a w (sat.weak (fun p hp=>onlyE_sub hp) (List.Sublist.refl _) rfl)
abbrev sB (b:List UInt8):ByteArray:=⟨b.toArray⟩
theorem sB_size (b:List UInt8):(sB b).size=b.length:=by simp [ByteArray.size]
theorem str_ext' {a b:ByteArray} (h:a.data.toList=b.data.toList):a=b:=by
 cases a;cases b;simp_all [Array.toList_inj]
theorem sB_ext (b:List UInt8) (l h:Nat):(sB b).extract l h=sB ((b.drop l).take (h - l)):=by
 refine str_ext' ?_
 simp
theorem sB_inj {a b:List UInt8}:sB a=sB b↔a=b:=⟨fun h=>congrArg (fun s:ByteArray=>s.data.toList) h,fun h=>by rw [h]⟩
theorem sB_app (a b:List UInt8):sB a++sB b=sB (a++b):=by
 refine str_ext' ?_
 simp
theorem cb_str (b:List UInt8):ByteArray.mk (ctBytes b.length (bytesC b).cell).toArray=sB b:=congrArg (fun l:List UInt8=>ByteArray.mk l.toArray) (ctBytes_bytesC b)
theorem lit1_ok {z:Int} (h:0≤z∧z<256):∀ i,i<0+1→∃ b:UInt8,(litC [[DC.c (Value.int IntKind.u8 z)]]).cell i 0=DC.c (Value.int IntKind.u8 (b.toNat:Nat)):=by
 intro i hi
 obtain rfl:i=0:=by omega
 refine ⟨UInt8.ofNat z.toNat,?_⟩
 show DC.c (Value.int IntKind.u8 z)=_
 congr 2
 simp
 omega
theorem lit1_str (z:Int):ByteArray.mk (ctBytes (0+1) (litC [[DC.c (Value.int IntKind.u8 z)]]).cell).toArray=sB [UInt8.ofNat z.toNat]:=rfl
def allStat:List Chunk→Bool
 | []=>true
 | .stat _ _ _ _ :: r=>allStat r
 | .box _ _ _ :: _=>false
 | .own _ _ _ _ :: _=>false
 | .obj _ _ :: _=>false
 | .nest _ _ _ _ :: _=>false
theorem allStat_blks {ν:Nat→Value}:∀ {l:List Chunk},allStat l=true→blks ν l=[]
 | [],_=>rfl
 | .stat _ _ _ _ :: r,h=>by
  have:=allStat_blks (ν:=ν) (l:=r) h
  unfold blks at this⊢
  rw [List.filterMap_cons];exact this
 | .box _ _ _ :: _,h=>nomatch h
 | .own _ _ _ _ :: _,h=>nomatch h
 | .obj _ _ :: _,h=>nomatch h
 | .nest _ _ _ _ :: _,h=>nomatch h
theorem stat_keep {w w' : World} {S S' : Nat→Prop} {ν ν' : Nat→Value} (g:Gr w w' S S'):∀ {l:List Chunk},allStat l=true→(∀ c∈l,c.holds w S ν)→∀ c∈l,c.holds w' S' ν'
 | [],_,_,c,hc=>nomatch hc
 | .stat i b sz cell :: r,h,hh,c,hc=>by
  rcases List.mem_cons.1 hc with rfl | hc
  ·obtain ⟨h1,h2,h3,cs,T,fr,h4,h5⟩:=hh _ (List.mem_cons_self ..)
   refine ⟨g.sub _ h1,Nat.lt_of_lt_of_le h2 g.size,fun j hj=>?_,cs,T,fr,by rw [g.blk _ h1 h2];exact h4,h5⟩
   obtain ⟨u,e,r⟩:=h3 j hj
   exact ⟨u,by rw [g.cell h1 h2];exact e,DC.mono g r⟩
  ·exact stat_keep g (l:=r) h (fun c hc=>hh c (List.mem_cons_of_mem _ hc)) c hc
 | .box _ _ _ :: _,h,_,_,_=>nomatch h
 | .own _ _ _ _ :: _,h,_,_,_=>nomatch h
 | .obj _ _ :: _,h,_,_,_=>nomatch h
 | .nest _ _ _ _ :: _,h,_,_,_=>nomatch h
section
variable {P:Program} {T:Tys} {st:AS} {o:Oper} {K:Nat→Bool}
theorem con_below {ι : Type} {f : FuncId} {args : List AV} {takes : List Chunk} {m M : Nat} {pre : ι → Prop} {res : ι → AV} {fn : Func} (hf : P.funcs[f]? = some fn) (hn : (fn.name == "runtime.NumGoroutine") = false) (hb : fn.body.isNone = false) (hst : allStat takes = true) (wfT : allB (Chunk.ltB m) takes = true) (le : m ≤ M) (wf : ∀ x, (res x).ltB M = true) (wfG : allB (Chunk.ltB M) takes = true)
  (h:∀ w S ν vs,All2 (AV.rel w S ν) args vs→(∀ c∈takes,c.holds w S ν)→Calls P f vs.toArray w fun e w'=>∃ x u,e = .returned u∧pre x∧(∀ w' S' ν',(res x).rel w' S' ν' u)∧Below w.heap.size w w'):Con P f args takes m M pre res (fun _=>takes):=by
 refine ⟨⟨fn,hf,hn,hb⟩,wfT,le,fun x=>⟨wf x,wfG⟩,fun w S ν vs ha ht _ _ hS=>Calls.mono (h w S ν vs ha ht) ?_⟩
 rintro e w' ⟨x,u,he,hp,hr,hbl⟩
 have e0:blks ν takes=[]:=allStat_blks hst
 refine ⟨x,S,ν,u,he,hp,hr _ _ _,⟨hbl.os,hbl.tape,hbl.output,hbl.size,fun k hk _=>hbl.block k hk⟩,fun _ _=>rfl,fun _ h=>h,fun b hb=>⟨Nat.lt_of_lt_of_le (hS b hb) hbl.size,.inl hb⟩,stat_keep ⟨hbl.size,fun b hs hb=>hbl.block b hb,fun _ h=>h⟩ hst ht,?_,?_⟩
 ·rw [e0];exact List.nodup_nil
 ·intro b hb;rw [e0] at hb;exact nomatch hb
theorem m_statLoad (hT:T.Ok P) {t g sz:Nat} {ti:TI} {cell:Nat→DC} {av:AV} (ho:o.op = .load t (.global g)) (ht:tlook T t=some ti) (hf:findStat st.hp g=some (sz,cell)) (hr:row1 cell 0 sz ti=some av):StepTo P K o st (· = st.put o.dst av):=by
 intro X S ν a w Q K' hd sat hk
 obtain ⟨c,hc⟩:=findStat_ok hf
 obtain ⟨h1,h2,h3,_⟩:=sat.hp _ hc
 obtain ⟨u,k1,k2,k3⟩:=load_row (ν:=ν) hT ht (b:=g) (o:=0) (off:=0) hr (fun j hj=>by rw [Nat.zero_add];exact h3 j hj)
 refine wp_value (w':=w) (u:=u) ?_ (hk _ S ν _ _ rfl (sat.put hd k1 (k2 _)) ⟨Nat.le_refl _,fun _ h=>h,fun ch hc hk=>⟨by rw [(AS.put_hp _ _ _).1];exact hc,rfl⟩,fun _ _=>rfl⟩)
 unfold execOp
 rw [ho]
 have ev:a.eval (.global g) = .pointer (some ⟨g,0,none⟩):=rfl
 have k4:=k3 w rfl
 simp only [ev,Sem.run_bind,show (Instr.loadAt t (.pointer (some ⟨g,0,none⟩))).run P w = .ok u w from k4,Result.andThen_ok,Sem.run_pure]
theorem m_aggIdx (hT:T.Ok P) {t e n:Nat} {te:TI} {x i:Operand} {as bs:List A1} {ik:IntKind} {z:Int} (ho:o.op = .index t x i) (hu:P.underlying t=some (.array n e)) (he:tlook T e=some te) (hagg:te.agg=true) (hx:aop st x=some (.g as)) (hi:aop st i=some (.o (.c (.int ik z)))) (hb:(as.drop (z.toNat*te.size)).take te.size=bs) (hr:0≤z∧z<n):StepTo P K o st (· = st.put o.dst (.g bs)):=by
 intro X S ν a w Q K' hd sat hk
 obtain ⟨⟨us,e1,r1⟩,hlt⟩:=aop_ok sat hx
 have hz:a.eval i = .int ik z:=(aop_ok sat hi).1.1
 subst hb
 obtain ⟨ht2,hid⟩:=hT.get he
 obtain ⟨d,hu2,_,hrow⟩:=ht2.und
 rw [hid] at hu2
 have ha:(isAgg e).run P w = .ok true w:=by
  unfold isAgg
  rw [Sem.run_bind,run_underlying hu2 w]
  rw [hagg] at hrow
  cases d<;>simp_all [TypeDesc.isRow]
 refine wp_value (w':=w) (u:=.agg ((us.drop (z.toNat*te.size)).take te.size).toArray) ?_ (hk _ S ν _ _ rfl (sat.put hd (v:=.g ((as.drop (z.toNat*te.size)).take te.size)) ⟨_,rfl,(r1.drop _).take _⟩ (fun b hb=>hlt b (List.mem_of_mem_drop (List.mem_of_mem_take hb)))) ⟨Nat.le_refl _,fun _ h=>h,fun ch hc hk=>⟨by rw [(AS.put_hp _ _ _).1];exact hc,rfl⟩,fun _ _=>rfl⟩)
 unfold execOp
 rw [ho]
 have hext:us.toArray.extract (z.toNat*te.size) (z.toNat*te.size+te.size)=((us.drop (z.toNat*te.size)).take te.size).toArray:=by
  rw [← Array.toList_inj];simp
 simp [Instr.index,asIntOf,Sem.run_bind,Sem.run_pure,Result.andThen_ok,run_underlying hu w,e1,hz,hr,run_sizeOf' hT he w,part,ha,hext]
theorem run_ifnil {op:BinOp} {t:TypeId} {x:Operand} (hop:op = .eql∨op = .neq) (hu:P.underlying t=some (.interface (P.methodsAt t))) (tp:TypeId) (p:Value) (w:World) :
  (do eqGuard op t x (.const .nilIface) (.iface tp p) .nilIface;binOp op t (.iface tp p) .nilIface:Sem Value).run P w = .ok (.bool (op == .neq)) w:=by
 rcases hop with rfl | rfl
 ·rw [Sem.run_bind,show (eqGuard .eql t x (.const .nilIface) (.iface tp p) .nilIface).run P w = .ok () w from rfl,Result.andThen_ok,run_eql_held_nil w t tp p hu];rfl
 ·rw [Sem.run_bind,show (eqGuard .neq t x (.const .nilIface) (.iface tp p) .nilIface).run P w = .ok () w from rfl,Result.andThen_ok,run_neq_held_nil w t tp p hu];rfl
theorem run_nilnil {op:BinOp} {t:TypeId} {x:Operand} (hop:op = .eql∨op = .neq) (hu:P.underlying t=some (.interface (P.methodsAt t))) (w:World) :
  (do eqGuard op t x (.const .nilIface) .nilIface .nilIface;binOp op t .nilIface .nilIface:Sem Value).run P w = .ok (.bool (op == .eql)) w:=by
 have hg:(eqGuard op t x (.const .nilIface) .nilIface .nilIface).run P w = .ok () w:=by
  unfold eqGuard
  rcases hop with rfl | rfl<;>simp [Sem.run_pure]
 rw [Sem.run_bind,hg,Result.andThen_ok]
 rcases hop with rfl | rfl
 ·rw [run_eql_nil_nil w t hu];rfl
 ·rw [run_neq_nil_nil w t hu];rfl
theorem m_ifNil {op:BinOp} {t t' : TypeId} {x:Operand} {v:Value} {b:Bool} (ho:o.op = .binOp op t x (.const .nilIface) t') (hop:op = .eql∨op = .neq) (hu:P.underlying t=some (.interface (P.methodsAt t))) (hx:aop st x=some (.o (.c v))) (hv:v = .nilIface∧b=true∨(∃ tp p,v = .iface tp p)∧b=false):StepTo P K o st (· = st.put o.dst (.o (.c (.bool (b == (op == .eql)))))):=by
 intro X S ν a w Q K' hd sat hk
 have hz:a.eval x=v:=(aop_ok sat hx).1.1
 refine wp_value (w':=w) (u:=.bool (b == (op == .eql))) ?_ (hk _ S ν _ _ rfl (sat.put hd (v:=.o (.c (.bool (b == (op == .eql))))) ⟨rfl,rfl⟩ trivial) ⟨Nat.le_refl _,fun _ h=>h,fun ch hc hk=>⟨by rw [(AS.put_hp _ _ _).1];exact hc,rfl⟩,fun _ _=>rfl⟩)
 rw [exec_binOp ho,Sem.run_bind,hz]
 rcases hv with ⟨rfl,rfl⟩ | ⟨⟨tp,p,rfl⟩,rfl⟩
 ·have hr:(do eqGuard op t x (.const .nilIface) .nilIface (a.eval (.const .nilIface));binOp op t .nilIface (a.eval (.const .nilIface)):Sem Value).run P w = .ok (.bool (op == .eql)) w:=run_nilnil hop hu w
  rw [hr]
  rcases hop with rfl | rfl<;>rfl
 ·have hr:(do eqGuard op t x (.const .nilIface) (.iface tp p) (a.eval (.const .nilIface));binOp op t (.iface tp p) (a.eval (.const .nilIface)):Sem Value).run P w = .ok (.bool (op == .neq)) w:=run_ifnil hop hu tp p w
  rw [hr]
  rcases hop with rfl | rfl<;>rfl
theorem m_pure (hT:T.Ok P) {av:AV} {ps:List Prop} (h:apure T (fun _=>true) o st=some (av,ps)) (hps:AllP ps):StepTo P K o st (· = st.put o.dst av):=by
 intro X S ν a w Q K' hd sat hk
 obtain ⟨u,h1,h2,h3⟩:=apure_ok hT h hps.mem sat
 exact wp_value (w':=w) (u:=u) (h3 w (Ag.refl _ _ _ _ _)) (hk _ S ν _ _ rfl (sat.put hd h1 h2) ⟨Nat.le_refl _,fun _ h=>h,fun ch hc hk=>⟨by rw [(AS.put_hp _ _ _).1];exact hc,rfl⟩,fun _ _=>rfl⟩)
theorem wrap_i64 {n:Int} (h : -9223372036854775808≤n∧n≤9223372036854775807):IntKind.i64.wrap n=n:=
 arith_wrap' (k:=.i64) rfl fun p hp=>by
  obtain rfl:=List.mem_singleton.1 hp
  exact h
theorem tdiv_in {z d:Int} (hd:0<d) (hz : -9223372036854775808≤z∧z≤9223372036854775807) : -9223372036854775808≤z.tdiv d∧z.tdiv d≤9223372036854775807:=by
 have h1:(z.tdiv d).natAbs≤z.natAbs:=by rw [Int.natAbs_tdiv];exact Nat.div_le_self _ _
 rcases Int.le_total 0 z with h | h
 ·have:=Int.tdiv_nonneg h (Int.le_of_lt hd);omega
 ·have h3:=Int.tdiv_nonneg (a:=-z) (b:=d) (by omega) (Int.le_of_lt hd)
  rw [Int.neg_tdiv] at h3;omega
theorem m_quo {t t' : TypeId} {x y:Operand} {z d:Int} (ho:o.op = .binOp .quo t x y t') (hx:aop st x=some (.o (.c (.int .i64 z)))) (hy:aop st y=some (.o (.c (.int .i64 d)))) (hd:0<d) (hz : -9223372036854775808≤z∧z≤9223372036854775807):StepTo P K o st (· = st.put o.dst (.o (.c (.int .i64 (z.tdiv d))))):=by
 intro X S ν a w Q K' hdst sat hk
 have e1:a.eval x = .int .i64 z:=(aop_ok sat hx).1.1
 have e2:a.eval y = .int .i64 d:=(aop_ok sat hy).1.1
 refine wp_value (w':=w) (u:=.int .i64 (z.tdiv d)) ?_ (hk _ S ν _ _ rfl (sat.put hdst (v:=.o (.c (.int .i64 (z.tdiv d)))) ⟨rfl,rfl⟩ trivial) ⟨Nat.le_refl _,fun _ h=>h,fun ch hc hk=>⟨by rw [(AS.put_hp _ _ _).1];exact hc,rfl⟩,fun _ _=>rfl⟩)
 rw [exec_binOp ho,Sem.run_bind,Sem.run_bind,e1,e2,show (eqGuard .quo t x y (.int .i64 z) (.int .i64 d)).run P w = .ok () w from rfl,Result.andThen_ok]
 have hb:(binOp .quo t (.int .i64 z) (.int .i64 d)).run P w = .ok (.int .i64 (z.tdiv d)) w:=by
  show (Op.intDiv .quo .i64 z d).run P w=_
  simp only [Op.intDiv,if_neg (show ¬ d=0 by omega),Sem.run_pure]
  rw [wrap_i64 (tdiv_in hd hz)]
 rw [hb];rfl
theorem m_rem {t t' : TypeId} {x y:Operand} {z d:Int} (ho:o.op = .binOp .rem t x y t') (hx:aop st x=some (.o (.c (.int .i64 z)))) (hy:aop st y=some (.o (.c (.int .i64 d)))) (hd:0<d):StepTo P K o st (· = st.put o.dst (.o (.c (.int .i64 (z.tmod d))))):=by
 intro X S ν a w Q K' hdst sat hk
 have e1:a.eval x = .int .i64 z:=(aop_ok sat hx).1.1
 have e2:a.eval y = .int .i64 d:=(aop_ok sat hy).1.1
 refine wp_value (w':=w) (u:=.int .i64 (z.tmod d)) ?_ (hk _ S ν _ _ rfl (sat.put hdst (v:=.o (.c (.int .i64 (z.tmod d)))) ⟨rfl,rfl⟩ trivial) ⟨Nat.le_refl _,fun _ h=>h,fun ch hc hk=>⟨by rw [(AS.put_hp _ _ _).1];exact hc,rfl⟩,fun _ _=>rfl⟩)
 rw [exec_binOp ho,Sem.run_bind,Sem.run_bind,e1,e2,show (eqGuard .rem t x y (.int .i64 z) (.int .i64 d)).run P w = .ok () w from rfl,Result.andThen_ok]
 have hb:(binOp .rem t (.int .i64 z) (.int .i64 d)).run P w = .ok (.int .i64 (z.tmod d)) w:=by
  show (Op.intDiv .rem .i64 z d).run P w=_
  simp only [Op.intDiv,if_neg (show ¬ d=0 by omega),Sem.run_pure]
 rw [hb];rfl
end
end Go.Proofs.YtalmoocpebhoiaaGreatDoor.Am
namespace Go.Proofs.YtalmoocpebhoiaaGreatDoor.Wo
abbrev Bs:=List UInt8
abbrev digC (c:UInt8):Bool:=decide (48≤c.toNat∧c.toNat≤57)
abbrev digL:Bs:=[48,49,50,51,52,53,54,55,56,57]
theorem dig_in:∀ c:UInt8,digL.contains c=digC c:=by
 intro c
 have:∀ n:Fin 256,digL.contains (UInt8.ofNat n.1)=digC (UInt8.ofNat n.1):=by decide +kernel
 have h:=this ⟨c.toNat,c.toNat_lt⟩
 simpa using h
theorem dropW_nil {p:UInt8→Bool}:∀ {l:Bs},l.dropWhile p=[]↔l.all p=true
 | []=>by simp
 | c :: l=>by
  rw [List.dropWhile_cons,List.all_cons]
  by_cases h:p c=true
  ·rw [if_pos h,h,Bool.true_and];exact dropW_nil
  ·rw [if_neg h];simp [h]
theorem trim_nil (l cs:Bs):Lib.trimS l cs=[]↔l.all (cs.contains ·)=true:=by
 unfold Lib.trimS Lib.trimLeftS Lib.trimRightS
 rw [dropW_nil]
 constructor
 ·intro h
  by_cases h2:(l.reverse.dropWhile (cs.contains ·))=[]
  ·have:=dropW_nil.1 h2
   simpa using this
  ·exfalso
   have h3:=List.head_dropWhile_not (cs.contains ·) (l:=l.reverse) h2
   have h4:(l.reverse.dropWhile (cs.contains ·)).head h2∈(l.reverse.dropWhile (cs.contains ·)).reverse:=by simp
   have h5:=List.all_eq_true.1 h _ h4
   rw [h3] at h5;cases h5
 ·intro h
  have h2:l.reverse.dropWhile (cs.contains ·)=[]:=dropW_nil.2 (by simpa using h)
  rw [h2];rfl
def bodyI (l:Bs):Bs:=if l.head? = some 45 then l.tail else l
def decI (l:Bs):Bool:=!(bodyI l).isEmpty && (bodyI l).all digC && (decide ((bodyI l).getD 0 0≠48) || decide (l=[48]))
theorem pre_body (l:Bs):Lib.trimPrefix l [45]=bodyI l:=by
 unfold Lib.trimPrefix Lib.hasPrefix bodyI
 cases l with
 | nil=>rfl
 | cons c r=>
  by_cases h:c=45
  ·subst h;rfl
  ·have h2:([45]:Bs).isPrefixOf (c :: r)=false:=by simp [List.isPrefixOf,Ne.symm h]
   rw [h2]
   simp [h]
def natI (l:Bs):Nat:=l.foldl (fun n c=>10*n+(c.toNat - 48)) 0
def valI (l:Bs):Int:=if l.head? = some 45 then -(natI l.tail:Int) else natI l
def intI (l:Bs) (low high:Int):Int×Int:=if decI l=false then (0,6) else if valI l < -9223372036854775808∨9223372036854775807<valI l∨valI l<low∨high<valI l then (0,7) else (valI l,0)
def natF (acc:Nat) (l:Bs):Nat:=l.foldl (fun n c=>10*n+(c.toNat - 48)) acc
theorem natF_ge:∀ (l:Bs) (acc:Nat),acc≤natF acc l
 | [],_=>Nat.le_refl _
 | c :: l,acc=>Nat.le_trans (by omega) (natF_ge l (10*acc+(c.toNat - 48)))
theorem natF_app (acc:Nat) (a b:Bs):natF acc (a++b)=natF (natF acc a) b:=by unfold natF;rw [List.foldl_append]
theorem parseM_dig:∀ (l:Bs) (acc:Nat),acc≤18446744073709551615→l.all digC=true→Lib.parseUintM 18446744073709551615 acc l=if natF acc l≤18446744073709551615 then .ok (natF acc l) else .range
 | [],acc,h,_=>by
  rw [show natF acc []=acc from rfl,if_pos h];rfl
 | c :: l,acc,h,hd=>by
  rw [List.all_cons,Bool.and_eq_true] at hd
  have hc:48≤c.toNat∧c.toNat≤57:=by simpa using hd.1
  have hs:natF acc (c :: l)=natF (10*acc+(c.toNat - 48)) l:=rfl
  have hg:=natF_ge l (10*acc+(c.toNat - 48))
  rw [Lib.parseUintM,if_pos hc,hs]
  by_cases h1:1844674407370955162≤acc
  ·rw [if_pos h1,if_neg (by omega)]
  ·rw [if_neg h1]
   by_cases h2:18446744073709551615<acc*10+(c.toNat - 48)
   ·rw [if_pos h2,if_neg (by omega)]
   ·rw [if_neg h2,Nat.mul_comm acc 10]
    exact parseM_dig l _ (by omega) hd.2
theorem dec_spec {l:Bs} (h:decI l=true):bodyI l≠[]∧(bodyI l).all digC=true∧((bodyI l).getD 0 0≠48∨l=[48]):=by
 unfold decI at h
 simp only [Bool.and_eq_true,Bool.not_eq_true',Bool.or_eq_true,decide_eq_true_eq] at h
 exact ⟨fun e=>by rw [e] at h;simp at h,h.1.2,h.2⟩
theorem parse_dec {l:Bs} (h:decI l=true):Lib.parseIntB 64 l=if valI l < -9223372036854775808∨9223372036854775807<valI l then .range else .ok (valI l):=by
 obtain ⟨h1,h2,_⟩:=dec_spec h
 cases l with
 | nil=>exact absurd rfl h1
 | cons c r=>
  by_cases hc:c=45
  ·subst hc
   have hb:bodyI (45 :: r)=r:=rfl
   rw [hb] at h1 h2
   have hv:valI (45 :: r) = -(natF 0 r:Int):=rfl
   have hp:Lib.parseUintB 64 r=if natF 0 r≤18446744073709551615 then .ok (natF 0 r) else .range:=by
    unfold Lib.parseUintB
    rw [if_neg h1];exact parseM_dig r 0 (by decide) h2
   rw [hv]
   show (match Lib.parseUintB 64 r with | .syntax=>Lib.NumEnd.syntax | .range=>.range | .ok u=>if ¬ (45:UInt8).toNat=45∧2 ^ (64 - 1)≤u then .range else if (45:UInt8).toNat=45∧2 ^ (64 - 1)<u then .range else .ok (if (45:UInt8).toNat=45 then -(u:Int) else u))=_
   rw [hp]
   generalize natF 0 r=z
   by_cases hz:z≤18446744073709551615
   ·rw [if_pos hz]
    show (if ¬ (45:Nat)=45∧9223372036854775808≤z then Lib.NumEnd.range else if (45:Nat)=45∧9223372036854775808<z then .range else .ok (if (45:Nat)=45 then -(z:Int) else z))=_
    rw [if_neg (by omega)]
    by_cases h3:9223372036854775808<z
    ·rw [if_pos ⟨rfl,h3⟩,if_pos (by omega)]
    ·rw [if_neg (by omega),if_pos rfl,if_neg (by omega)]
   ·rw [if_neg hz,if_pos (by omega)]
  ·have hb:bodyI (c :: r)=c :: r:=by unfold bodyI;rw [if_neg (by simpa using hc)]
   rw [hb] at h1 h2
   have hc2:48≤c.toNat∧c.toNat≤57:=by
    have h3:=h2
    rw [List.all_cons,Bool.and_eq_true] at h3
    simpa using h3.1
   have hv:valI (c :: r)=(natF 0 (c :: r):Int):=by unfold valI;rw [if_neg (by simpa using hc)];rfl
   have hp:Lib.parseUintB 64 (c :: r)=if natF 0 (c :: r)≤18446744073709551615 then .ok (natF 0 (c :: r)) else .range:=by
    unfold Lib.parseUintB
    rw [if_neg h1];exact parseM_dig (c :: r) 0 (by decide) h2
   rw [hv]
   show (match Lib.parseUintB 64 (if c.toNat=43∨c.toNat=45 then r else c :: r) with | .syntax=>Lib.NumEnd.syntax | .range=>.range | .ok u=>if ¬ c.toNat=45∧2 ^ (64 - 1)≤u then .range else if c.toNat=45∧2 ^ (64 - 1)<u then .range else .ok (if c.toNat=45 then -(u:Int) else u))=_
   rw [if_neg (by omega),hp]
   generalize natF 0 (c :: r)=z
   by_cases hz:z≤18446744073709551615
   ·rw [if_pos hz]
    show (if ¬ c.toNat=45∧9223372036854775808≤z then Lib.NumEnd.range else if c.toNat=45∧9223372036854775808<z then .range else .ok (if c.toNat=45 then -(z:Int) else z))=_
    by_cases h3:9223372036854775808≤z
    ·rw [if_pos ⟨by omega,h3⟩,if_pos (by omega)]
    ·rw [if_neg (by omega),if_neg (by omega),if_neg (by omega),if_neg (by omega)]
   ·rw [if_neg hz,if_pos (by omega)]
abbrev plainC (c:UInt8):Bool:=decide (32≤c.toNat∧c.toNat≤126∧c.toNat≠34∧c.toNat≠92)
def ltrI (c:UInt8):UInt8:=if c.toNat=34 then 34 else if c.toNat=92 then 92 else if c.toNat=10 then 110 else if c.toNat=13 then 114 else if c.toNat=9 then 116 else 0
def bytI (c:UInt8):Option UInt8:=if c.toNat=34 then some 34 else if c.toNat=92 then some 92 else if c.toNat=110 then some 10 else if c.toNat=114 then some 13 else if c.toNat=116 then some 9 else none
abbrev hexL:Bs:=[48,49,50,51,52,53,54,55,56,57,97,98,99,100,101,102]
def hexC (n:Nat):UInt8:=hexL.getD n 0
def idxH (c:UInt8):Option Nat:=if 48≤c.toNat∧c.toNat≤57 then some (c.toNat - 48) else if 97≤c.toNat∧c.toNat≤102 then some (c.toNat - 87) else none
def escI (c:UInt8):Bs:=if plainC c=true then [c] else if ltrI c≠0 then [92,ltrI c] else [92,120,hexC (c.toNat / 16),hexC (c.toNat % 16)]
def quoteI (l:Bs):Bs:=34 :: (l.flatMap escI++[34])
def unescI (s:Bs):UInt8×Nat:=match s with
 | []=>(0,0)
 | a :: r=>match bytI a with
  | some c=>(c,1)
  | none=>if a.toNat≠120 then (0,0) else match r with
   | h :: l :: _=>match idxH h,idxH l with
    | some x,some y=>if plainC (UInt8.ofNat (16*x+y))=true∨ltrI (UInt8.ofNat (16*x+y))≠0 then (0,0) else (UInt8.ofNat (16*x+y),3)
    | _,_=>(0,0)
   | _=>(0,0)
def decI1 (s:Bs):UInt8×Nat:=match s with
 | []=>(0,0)
 | a :: r=>if a.toNat=92 then (if (unescI r).2=0 then (0,0) else ((unescI r).1,(unescI r).2+1)) else if plainC a=true then (a,1) else (0,0)
theorem fin_all {p:UInt8→Prop} (h:∀ n:Fin 256,p (UInt8.ofNat n.1)):∀ c,p c:=fun c=>by
 have:=h ⟨c.toNat,c.toNat_lt⟩
 simpa using this
theorem byt_let:∀ c:UInt8,ltrI c≠0→bytI (ltrI c)=some c∧plainC c=false:=by
 refine fin_all ?_
 decide +kernel
theorem let_byt (a c:UInt8) (h:bytI a=some c):ltrI c=a∧ltrI c≠0∧plainC c=false∧a.toNat≠120:=by
 have key:∀ a:UInt8,(bytI a).all (fun c=>decide (ltrI c=a∧ltrI c≠0∧plainC c=false∧a.toNat≠120))=true:=by
  refine fin_all ?_
  decide +kernel
 have:=key a
 rw [h] at this
 exact of_decide_eq_true this
theorem idx_hex:∀ n:Fin 16,idxH (hexC n.1)=some n.1∧bytI 120=none:=by decide
theorem hex_idx:∀ c:UInt8,∀ x,idxH c=some x→x<16∧hexC x=c:=by
 intro c x h
 have:∀ c:UInt8,∀ x:Fin 16,idxH c=some x.1→hexC x.1=c:=by
  refine fin_all ?_
  decide +kernel
 have hx:x<16:=by
  unfold idxH at h
  repeat' split at h
  all_goals first
   | (cases h;omega)
   | cases h
 exact ⟨hx,this c ⟨x,hx⟩ h⟩
theorem dec_bs (r:Bs):decI1 (92 :: r)=if (unescI r).2=0 then (0,0) else ((unescI r).1,(unescI r).2+1):=rfl
theorem unesc_x (h l:UInt8) (r:Bs):unescI (120 :: h :: l :: r)=match idxH h,idxH l with | some x,some y=>(if plainC (UInt8.ofNat (16*x+y))=true∨ltrI (UInt8.ofNat (16*x+y))≠0 then (0,0) else (UInt8.ofNat (16*x+y),3)) | _,_=>(0,0):=rfl
theorem dec_esc (c:UInt8) (r:Bs):decI1 (escI c++r)=(c,(escI c).length):=by
 unfold escI
 by_cases hp:plainC c=true
 ·rw [if_pos hp]
  have h92:c.toNat≠92:=by
   have:=of_decide_eq_true hp
   omega
  show (if c.toNat=92 then _ else if plainC c=true then (c,1) else _)=_
  rw [if_neg h92,if_pos hp];rfl
 ·rw [if_neg hp]
  by_cases hl:ltrI c≠0
  ·rw [if_pos hl]
   have hu:unescI (ltrI c :: r)=(c,1):=by
    unfold unescI
    dsimp only
    rw [(byt_let c hl).1]
   show decI1 (92 :: (ltrI c :: r))=_
   rw [dec_bs,hu];rfl
  ·rw [if_neg hl]
   have h1:=(idx_hex ⟨c.toNat / 16,by have:=c.toNat_lt;omega⟩).1
   have h2:=(idx_hex ⟨c.toNat % 16,by omega⟩).1
   have hc:UInt8.ofNat (16*(c.toNat / 16)+c.toNat % 16)=c:=by
    rw [Nat.div_add_mod];simp
   have hu:unescI (120 :: hexC (c.toNat / 16) :: hexC (c.toNat % 16) :: r)=(c,3):=by
    rw [unesc_x,h1,h2]
    dsimp only
    rw [hc,if_neg (fun h=>h.elim hp hl)]
   show decI1 (92 :: (120 :: hexC (c.toNat / 16) :: hexC (c.toNat % 16) :: r))=_
   rw [dec_bs,hu];rfl
theorem esc_dec {s:Bs} (h:(decI1 s).2≠0):s=escI (decI1 s).1++s.drop (decI1 s).2∧(escI (decI1 s).1).length=(decI1 s).2:=by
 unfold decI1 at h⊢
 match s with
 | []=>exact absurd rfl h
 | a :: r=>
  dsimp only at h⊢
  by_cases ha:a.toNat=92
  ·rw [if_pos ha] at h⊢
   have ha' : a=92:=UInt8.toNat_inj.1 ha
   subst ha'
   by_cases hu:(unescI r).2=0
   ·rw [if_pos hu] at h;exact absurd rfl h
   ·rw [if_neg hu] at h⊢
    dsimp only
    unfold unescI at hu⊢
    match r with
    | []=>exact absurd rfl hu
    | b :: r2=>
     dsimp only at hu⊢
     cases hb:bytI b with
     | some c=>
      obtain ⟨k1,k2,k3,_⟩:=let_byt b c hb
      dsimp only
      unfold escI
      rw [if_neg (by rw [k3];decide),if_pos k2,k1]
      exact ⟨rfl,rfl⟩
     | none=>
      rw [hb] at hu
      dsimp only at hu⊢
      by_cases hx:b.toNat≠120
      ·rw [if_pos hx] at hu;exact absurd rfl hu
      ·rw [if_neg hx] at hu⊢
       have hb' : b=120:=UInt8.toNat_inj.1 (Decidable.not_not.1 hx)
       subst hb'
       match r2 with
       | []=>exact absurd rfl hu
       | [_]=>exact absurd rfl hu
       | p :: q :: r3=>
        dsimp only at hu⊢
        cases hp:idxH p with
        | none=>rw [hp] at hu;exact absurd rfl hu
        | some x=>
         cases hq:idxH q with
         | none=>rw [hp,hq] at hu;exact absurd rfl hu
         | some y=>
          rw [hp,hq] at hu
          dsimp only at hu⊢
          by_cases hk:plainC (UInt8.ofNat (16*x+y))=true∨ltrI (UInt8.ofNat (16*x+y))≠0
          ·rw [if_pos hk] at hu;exact absurd rfl hu
          ·rw [if_neg hk]
           obtain ⟨x1,x2⟩:=hex_idx p x hp
           obtain ⟨y1,y2⟩:=hex_idx q y hq
           have ht:(UInt8.ofNat (16*x+y)).toNat=16*x+y:=by simp;omega
           dsimp only
           unfold escI
           rw [if_neg (fun h=>hk (.inl h)),if_neg (fun h=>hk (.inr h)),ht,show (16*x+y) / 16=x by omega,show (16*x+y) % 16=y by omega,x2,y2]
           exact ⟨rfl,rfl⟩
  ·rw [if_neg ha] at h⊢
   by_cases hp:plainC a=true
   ·rw [if_pos hp]
    unfold escI
    dsimp only
    rw [if_pos hp];exact ⟨rfl,rfl⟩
   ·rw [if_neg hp] at h;exact absurd rfl h
theorem dec_le (s:Bs):(decI1 s).2≤s.length:=by
 by_cases h:(decI1 s).2=0
 ·omega
 ·obtain ⟨h1,h2⟩:=esc_dec h
  have:=congrArg List.length h1
  rw [List.length_append,h2,List.length_drop] at this
  omega
def unqG (s:Bs):Option (Bs×Nat):=match s with
 | []=>none
 | a :: r=>if a.toNat=34 then some ([],1) else if h:(decI1 (a :: r)).2=0 then none else (unqG ((a :: r).drop (decI1 (a :: r)).2)).map fun x=>((decI1 (a :: r)).1 :: x.1,(decI1 (a :: r)).2+x.2)
termination_by s.length
decreasing_by rw [List.length_drop];simp only [List.length_cons];omega
def finQ (out:Bs) (i:Nat) (x:Option (Bs×Nat)):Bs×Nat:=match x with
 | none=>([],0)
 | some y=>(out++y.1,i+y.2)
def unqI (s:Bs):Bs×Nat:=match s with
 | []=>([],0)
 | a :: r=>if a.toNat=34 then finQ [] 1 (unqG r) else ([],0)
theorem unqG_nil:unqG []=none:=by rw [unqG]
theorem drop_at {l:Bs} {i:Nat} (h:i<l.length):l.drop i=l.getD i 0 :: l.drop (i+1):=by
 rw [List.drop_eq_getElem_cons h,List.getD_eq_getElem?_getD,List.getElem?_eq_getElem h];rfl
theorem unqG_q {l:Bs} {i:Nat} (h:i<l.length) (hq:(l.getD i 0).toNat=34):unqG (l.drop i)=some ([],1):=by
 rw [drop_at h,unqG,if_pos hq]
theorem unqG_no {l:Bs} {i:Nat} (h:i<l.length) (hq:(l.getD i 0).toNat≠34) (hd:(decI1 (l.drop i)).2=0):unqG (l.drop i)=none:=by
 rw [drop_at h] at hd⊢
 rw [unqG,if_neg hq,dif_pos hd]
theorem unqG_yes {l:Bs} {i:Nat} (h:i<l.length) (hq:(l.getD i 0).toNat≠34) (hd:(decI1 (l.drop i)).2≠0) (out:Bs):finQ out i (unqG (l.drop i))=finQ (out++[(decI1 (l.drop i)).1]) (i+(decI1 (l.drop i)).2) (unqG (l.drop (i+(decI1 (l.drop i)).2))):=by
 have e:unqG (l.drop i)=(unqG (l.drop (i+(decI1 (l.drop i)).2))).map fun x=>((decI1 (l.drop i)).1 :: x.1,(decI1 (l.drop i)).2+x.2):=by
  rw [← List.drop_drop]
  rw [drop_at h] at hd⊢
  rw [unqG,if_neg hq,dif_neg hd]
 rw [e]
 cases unqG (l.drop (i+(decI1 (l.drop i)).2)) with
 | none=>rfl
 | some x=>simp [finQ];omega
abbrev bareC (c:UInt8):Bool:=plainC c && decide (c.toNat≠32)
def bareI (l:Bs):Bool:=decide (l≠[]) && l.all bareC
theorem esc_len (c:UInt8):1≤(escI c).length∧(escI c).length≤4:=by
 unfold escI
 split
 ·exact by simp
 ·split
  ·exact by simp
  ·exact by simp
theorem escs_len (l:Bs):(l.flatMap escI).length≤4*l.length:=by
 induction l with
 | nil=>exact Nat.le_refl _
 | cons c l ih=>
  have:=(esc_len c).2
  rw [List.flatMap_cons,List.length_append,List.length_cons]
  omega
theorem escs_snoc {l:Bs} {q:Nat} (h:q<l.length):(l.take (q+1)).flatMap escI=(l.take q).flatMap escI++escI (l.getD q 0):=by
 rw [List.take_add_one,List.flatMap_append,List.getD_eq_getElem?_getD,List.getElem?_eq_getElem h]
 simp
theorem esc_p {c:UInt8} (h:plainC c=true):escI c=[c]:=by unfold escI;rw [if_pos h]
theorem esc_l {c:UInt8} (h:plainC c=false) (k:(ltrI c).toNat≠0):escI c=[92,ltrI c]:=by
 unfold escI
 rw [if_neg (by rw [h];decide),if_pos (fun e=>k (by rw [e];rfl))]
theorem esc_x {c:UInt8} (h:plainC c=false) (k:(ltrI c).toNat=0):escI c=[92,120,hexC (c.toNat / 16),hexC (c.toNat % 16)]:=by
 unfold escI
 rw [if_neg (by rw [h];decide),if_neg (fun e=>e (UInt8.toNat_inj.1 k))]
abbrev Fld:=Bs×Bool
abbrev notSp (c:UInt8):Bool:=decide (c.toNat≠32)
def wordI (s:Bs):Bs:=s.takeWhile notSp
def fieldI (s:Bs):Option (Fld×Nat):=if (unqI s).2≠0 then some (((unqI s).1,true),(unqI s).2) else if bareI (wordI s)=true then some ((wordI s,false),(wordI s).length) else none
def fieldsI (s:Bs):Option (List Fld):=match fieldI s with
 | none=>none
 | some x=>match h:s.drop x.2 with
  | []=>some [x.1]
  | c :: r=>if c.toNat≠32 then none else (fieldsI r).map (x.1 :: ·)
termination_by s.length
decreasing_by
 have:=congrArg List.length h
 rw [List.length_drop,List.length_cons] at this
 omega
def longF (x:Fld):Bool:=decide (2000<x.1.length)
def splitI (l:Bs):List Fld×Int:=if 8192<l.length then ([],3) else if l=[] then ([],0) else match fieldsI l with
 | none=>([],6)
 | some fs=>if fs.any longF=true∨64<fs.length then ([],3) else (fs,0)
theorem fieldsI_no {s:Bs} (h:fieldI s=none):fieldsI s=none:=by rw [fieldsI,h]
theorem fieldsI_end {s:Bs} {x:Fld×Nat} (h:fieldI s=some x) (hd:s.length≤x.2):fieldsI s=some [x.1]:=by
 rw [fieldsI,h]
 dsimp only
 split
 ·rfl
 ·rename_i c r hh
  have:=congrArg List.length hh
  rw [List.length_drop,List.length_cons] at this
  omega
theorem fieldsI_at {s:Bs} {x:Fld×Nat} (h:fieldI s=some x) (hd:x.2<s.length):fieldsI s=if (s.getD x.2 0).toNat≠32 then none else (fieldsI (s.drop (x.2+1))).map (x.1 :: ·):=by
 rw [fieldsI,h]
 dsimp only
 split
 ·rename_i hh
  have:=congrArg List.length hh
  rw [List.length_drop,List.length_nil] at this
  omega
 ·rename_i c r hh
  have e:=drop_at hd
  rw [hh] at e
  injection e with e1 e2
  rw [e1,e2]
theorem getD_drop (l:Bs) (a b:Nat):(l.drop a).getD b 0=l.getD (a+b) 0:=by
 rw [List.getD_eq_getElem?_getD,List.getD_eq_getElem?_getD,List.getElem?_drop]
theorem wordI_at {s:Bs} {n:Nat} (hn:n≤s.length) (h:∀ k,k<n→(s.getD k 0).toNat≠32) (he:n=s.length∨(s.getD n 0).toNat=32):wordI s=s.take n:=by
 unfold wordI
 induction s generalizing n with
 | nil=>simp
 | cons c r ih=>
  rcases n with _ | n
  ·rcases he with he | he
   ·cases he
   ·rw [List.takeWhile_cons,show notSp c=false from decide_eq_false (fun k=>k he)]
    rfl
  ·rw [List.takeWhile_cons,show notSp c=true from decide_eq_true (h 0 (Nat.zero_lt_succ _))]
   rw [if_pos rfl,List.take_succ_cons,ih (Nat.le_of_succ_le_succ hn) (fun k hk=>h (k+1) (by omega)) (he.imp Nat.succ.inj id)]
section
variable {l:Bs} {i n:Nat} {out:List Fld} {f:Fld}
theorem fields_none (hf:fieldI (l.drop i)=none) (g:(fieldsI (l.drop i)).map (out ++ ·)=fieldsI l):fieldsI l=none:=by
 rw [← g,fieldsI_no hf];rfl
theorem fields_end (hf:fieldI (l.drop i)=some (f,n)) (g:(fieldsI (l.drop i)).map (out ++ ·)=fieldsI l) (h:l.length≤i+n):fieldsI l=some (out++[f]):=by
 rw [← g,fieldsI_end hf (by rw [List.length_drop];dsimp only;omega)];rfl
theorem fields_bad (hf:fieldI (l.drop i)=some (f,n)) (g:(fieldsI (l.drop i)).map (out ++ ·)=fieldsI l) (h:i+n<l.length) (hc:(l.getD (i+n) 0).toNat≠32):fieldsI l=none:=by
 rw [← g,fieldsI_at hf (by rw [List.length_drop];dsimp only;omega),getD_drop,if_pos hc];rfl
theorem fields_more (hf:fieldI (l.drop i)=some (f,n)) (g:(fieldsI (l.drop i)).map (out ++ ·)=fieldsI l) (h:i+n<l.length) (hc:(l.getD (i+n) 0).toNat=32):(fieldsI (l.drop (i+n+1))).map ((out++[f]) ++ ·)=fieldsI l:=by
 rw [← g,fieldsI_at hf (by rw [List.length_drop];dsimp only;omega),getD_drop,if_neg (fun k=>k hc),List.drop_drop]
 dsimp only
 rw [show i+(n+1)=i+n+1 by omega]
 cases fieldsI (l.drop (i+n+1)) with
 | none=>rfl
 | some x=>simp
end
theorem index_sp (s:Bs):(Go.Lib.index s [32] = -1∧wordI s=s)∨(0≤Go.Lib.index s [32]∧wordI s=s.take (Go.Lib.index s [32]).toNat):=by
 induction s with
 | nil=>exact .inl ⟨by decide,rfl⟩
 | cons c r ih=>
  unfold Go.Lib.index
  by_cases hc:c.toNat=32
  ·obtain rfl:c=32:=UInt8.toNat_inj.1 hc
   refine .inr ⟨?_,?_⟩
   ·simp
   ·simp [wordI]
  ·have hc2:(32:UInt8)≠c:=fun e=>hc (by rw [← e];rfl)
   have hw:wordI (c :: r)=c :: wordI r:=by
    unfold wordI
    rw [List.takeWhile_cons,show notSp c=true from decide_eq_true hc]
    rfl
   have hp:List.isPrefixOf [32] (c :: r)=false:=by simp [List.isPrefixOf,hc2]
   rw [hp,hw]
   rcases ih with ⟨h1,h2⟩ | ⟨h1,h2⟩
   ·refine .inl ⟨?_,by rw [h2]⟩
    rw [h1];rfl
   ·have hne:(Go.Lib.index r [32] == -1)=false:=by simp;omega
    refine .inr ⟨?_,?_⟩
    ·rw [hne];simp;omega
    ·rw [hne,h2]
     simp only [Bool.false_eq_true,if_false]
     rw [show (Go.Lib.index r [32]+1).toNat=(Go.Lib.index r [32]).toNat+1 by omega,List.take_succ_cons]
theorem cut_sp (s:Bs):(Go.Lib.cut s [32]).1=wordI s:=by
 unfold Go.Lib.cut
 rcases index_sp s with ⟨h1,h2⟩ | ⟨h1,h2⟩
 ·rw [h1,h2];simp
 ·rw [if_pos (by omega),h2]
structure Dgs (a:Bs):Prop where
 ne:a≠[]
 all:∀ c∈a,48≤c.toNat∧c.toNat≤57
 lead:a.head?≠some 48∨a=[48]
theorem natF_mul (acc:Nat):∀ (l:Bs),natF acc l=acc*10 ^ l.length+natF 0 l:=by
 intro l
 induction l generalizing acc with
 | nil=>simp [natF]
 | cons c r ih=>
  show natF (10*acc+(c.toNat - 48)) r=_+natF (10*0+(c.toNat - 48)) r
  rw [ih,ih (10*0+(c.toNat - 48)),List.length_cons,Nat.pow_succ]
  rw [Nat.add_mul,Nat.mul_zero,Nat.zero_add,Nat.add_assoc]
  congr 1
  rw [Nat.mul_comm 10 acc,Nat.mul_assoc,Nat.mul_comm 10]
theorem nat_snoc (l:Bs) (c:UInt8):natI (l++[c])=10*natI l+(c.toNat - 48):=by
 show natF 0 (l++[c])=_
 rw [natF_app];rfl
theorem nat_app (l r:Bs):natI (l++r)=natI l*10 ^ r.length+natI r:=by
 show natF 0 (l++r)=_
 rw [natF_app,natF_mul];rfl
theorem nat_ge {a:Bs} (h:Dgs a) (h2:2≤a.length):10 ^ (a.length - 1)≤natI a:=by
 cases a with
 | nil=>exact absurd rfl h.ne
 | cons c r=>
  have hc:=h.all c (List.mem_cons_self ..)
  have hne:c≠48:=by
   rcases h.lead with h1 | h1
   ·exact fun e=>h1 (by rw [e];rfl)
   ·rw [h1] at h2;exact absurd h2 (by decide)
  have hn:c.toNat≠48:=fun e=>hne (UInt8.toNat_inj.1 e)
  have:=nat_app [c] r
  rw [List.singleton_append] at this
  have h1:natI [c]=c.toNat - 48:=by simp [natI]
  rw [this,h1,List.length_cons,Nat.add_sub_cancel]
  have:1*10 ^ r.length≤(c.toNat - 48)*10 ^ r.length:=Nat.mul_le_mul_right _ (by omega)
  omega
def cmpI (a b:Bs):Int:=if a.length≠b.length then (a.length:Int) - b.length else Lib.compareBytes a b
theorem dec_nat (n:Nat):Dgs (Lib.decDigits n)∧natI (Lib.decDigits n)=n:=by
 induction n using Nat.strongRecOn with
 | _ n ih=>
  by_cases h:n<10
  ·rw [Lib.decDigits,dif_pos h]
   have:(UInt8.ofNat (48+n)).toNat=48+n:=by
    rw [UInt8.toNat_ofNat']
    omega
   refine ⟨⟨by simp,fun c hc=>by have:=List.mem_singleton.1 hc;subst this;omega,?_⟩,?_⟩
   ·rcases Nat.eq_zero_or_pos n with h0 | h0
    ·subst h0;exact .inr rfl
    ·refine .inl fun e=>?_
     have:=congrArg UInt8.toNat (Option.some.inj e)
     have e48:(48:UInt8).toNat=48:=rfl
     omega
   ·have:=nat_snoc [] (UInt8.ofNat (48+n))
    rw [List.nil_append] at this
    rw [this]
    have:natI []=0:=rfl
    omega
  ·rw [Lib.decDigits,dif_neg h]
   obtain ⟨h1,h2⟩:=ih (n / 10) (by omega)
   have:(UInt8.ofNat (48+n % 10)).toNat=48+n % 10:=by
    rw [UInt8.toNat_ofNat']
    omega
   refine ⟨⟨by simp,fun c hc=>?_,?_⟩,?_⟩
   ·rcases List.mem_append.1 hc with hc | hc
    ·exact h1.all c hc
    ·have:=List.mem_singleton.1 hc;subst this;omega
   ·rcases h1.lead with h3 | h3
    ·refine .inl ?_
     rw [List.head?_append]
     cases hd:(Lib.decDigits (n / 10)).head? with
     | none=>exact absurd (List.head?_eq_none_iff.1 hd) h1.ne
     | some c=>rw [hd] at h3;exact h3
    ·rw [h3] at h2
     have:natI [48]=0:=rfl
     omega
   ·rw [nat_snoc,h2];omega
theorem itoa_nat (n:Nat):Dgs (Lib.itoa n)∧natI (Lib.itoa n)=n:=by
 rw [Lib.itoa_nonneg];exact dec_nat n
def partsG (c:UInt8) (acc:Bs):Bs→List Bs
 | []=>[acc]
 | x :: r=>if x=c then acc :: partsG c [] r else partsG c (acc++[x]) r
abbrev partsI (c:UInt8) (s:Bs):List Bs:=partsG c [] s
theorem parts_miss {c:UInt8}:∀ {s acc:Bs},(∀ x∈s,x≠c)→partsG c acc s=[acc++s]
 | [],acc,_=>by simp [partsG]
 | x :: r,acc,h=>by
  rw [partsG,if_neg (h x (List.mem_cons_self ..)),parts_miss fun y hy=>h y (List.mem_cons_of_mem _ hy)]
  simp
theorem parts_hit {c:UInt8} {t:Bs}:∀ {s acc:Bs},(∀ x∈s,x≠c)→partsG c acc (s++c :: t)=(acc++s) :: partsI c t
 | [],acc,_=>by rw [List.nil_append,partsG,if_pos rfl,List.append_nil]
 | x :: r,acc,h=>by
  rw [List.cons_append,partsG,if_neg (h x (List.mem_cons_self ..)),parts_hit fun y hy=>h y (List.mem_cons_of_mem _ hy)]
  simp
theorem index_c (c:UInt8) (s:Bs):(Go.Lib.index s [c] = -1∧∀ x∈s,x≠c)∨∃ i:Nat,Go.Lib.index s [c]=i∧i<s.length∧(∀ x∈s.take i,x≠c)∧s=s.take i++c :: s.drop (i+1):=by
 induction s with
 | nil=>exact .inl ⟨rfl,fun x hx=>nomatch hx⟩
 | cons a r ih=>
  unfold Go.Lib.index
  by_cases hc:c=a
  ·subst hc
   refine .inr ⟨0,by simp,by simp,by simp,by simp⟩
  ·have hp:List.isPrefixOf [c] (a :: r)=false:=by simp [List.isPrefixOf,hc]
   rw [hp]
   simp only [Bool.false_eq_true,if_false]
   rcases ih with ⟨h1,h2⟩ | ⟨i,h1,h2,h3,h4⟩
   ·refine .inl ⟨by rw [h1];rfl,fun x hx=>?_⟩
    rcases List.mem_cons.1 hx with rfl | hx
    ·exact fun e=>hc e.symm
    ·exact h2 x hx
   ·refine .inr ⟨i+1,?_,by simp;omega,?_,?_⟩
    ·rw [h1]
     have:((i:Int) == -1)=false:=by simp<;>omega
     rw [this]
     simp
    ·intro x hx
     rw [List.take_succ_cons] at hx
     rcases List.mem_cons.1 hx with rfl | hx
     ·exact fun e=>hc e.symm
     ·exact h3 x hx
    ·rw [List.take_succ_cons,List.cons_append,List.drop_succ_cons,← h4]
theorem splitK_parts (c:UInt8):∀ (k:Nat) (s:Bs),Go.Lib.count s [c]≤k→Go.Lib.splitK [c] 0 k s=partsI c s:=by
 intro k
 induction k with
 | zero=>
  intro s h
  rcases index_c c s with ⟨h1,h2⟩ | ⟨i,h1,h2,h3,h4⟩
  ·rw [partsI,parts_miss h2];rfl
  ·rw [Go.Lib.count_hit (by simp) h1] at h
   omega
 | succ k ih=>
  intro s h
  unfold Go.Lib.splitK
  rcases index_c c s with ⟨h1,h2⟩ | ⟨i,h1,h2,h3,h4⟩
  ·rw [h1,partsI,parts_miss h2];rfl
  ·rw [Go.Lib.count_hit (by simp) h1,List.length_singleton] at h
   have:(Go.Lib.index s [c] == -1)=false:=by rw [h1];simp<;>omega
   rw [this,h1]
   simp only [Bool.false_eq_true,if_false,List.length_singleton,Int.toNat_natCast,Nat.add_zero]
   rw [ih _ (by omega)]
   conv=>rhs;rw [h4]
   show _=partsG c [] (s.take i++c :: s.drop (i+1))
   rw [parts_hit h3]
   rfl
theorem split_parts (c:UInt8) (s:Bs):Go.Lib.split s [c]=partsI c s:=splitK_parts c _ s (Nat.le_refl _)
theorem parts_len (c:UInt8):∀ (s acc:Bs),(partsG c acc s).length≤s.length+1
 | [],acc=>by simp [partsG]
 | x :: r,acc=>by
  rw [partsG]
  split
  ·have:=parts_len c r []
   simp only [List.length_cons];omega
  ·have:=parts_len c r (acc++[x])
   simp only [List.length_cons];omega
theorem parts_size (c:UInt8):∀ (s acc:Bs),∀ p∈partsG c acc s,p.length≤acc.length+s.length
 | [],acc,p,h=>by simp [partsG] at h;subst h;simp
 | x :: r,acc,p,h=>by
  rw [partsG] at h
  split at h
  ·rcases List.mem_cons.1 h with rfl | h
   ·simp
   ·have:=parts_size c r [] p h
    simp at this⊢;omega
  ·have:=parts_size c r _ p h
   simp at this⊢;omega
def wordOf (f:Fld):Bs:=if f.2=true then quoteI f.1 else f.1
def goodF (f:Fld):Bool:=f.2 || bareI f.1
def lineI:List Fld→Bs
 | []=>[]
 | f :: r=>wordOf f++(match r with
  | []=>[]
  | g :: r'=>32 :: lineI (g :: r'))
theorem lineI_one (f:Fld):lineI [f]=wordOf f:=by simp [lineI]
theorem lineI_more (f g:Fld) (r:List Fld):lineI (f :: g :: r)=wordOf f++32 :: lineI (g :: r):=by rw [lineI]
theorem bare_spec {l:Bs} (h:bareI l=true):l≠[]∧∀ c∈l,plainC c=true∧c.toNat≠32:=by
 unfold bareI at h
 rw [Bool.and_eq_true] at h
 refine ⟨of_decide_eq_true h.1,fun c hc=>?_⟩
 have:=List.all_eq_true.1 h.2 c hc
 rw [Bool.and_eq_true] at this
 exact ⟨this.1,of_decide_eq_true this.2⟩
theorem word_ne {f:Fld} (h:goodF f=true):wordOf f≠[]:=by
 unfold wordOf
 split
 ·exact fun e=>nomatch e
 ·rename_i hq
  unfold goodF at h
  rw [Bool.or_eq_true] at h
  exact (bare_spec (h.resolve_left hq)).1
def joinI (l:List Fld):Bs×Int:=if 64<l.length∨l.any longF=true then ([],3) else if l.all goodF=false then ([],6) else if 8192<(lineI l).length then ([],3) else (lineI l,0)
theorem line_nil {l:List Fld} (hg:∀ f∈l,goodF f=true) (h:lineI l=[]):l=[]:=by
 cases l with
 | nil=>rfl
 | cons f r=>
  have hw:=word_ne (hg f (List.mem_cons_self ..))
  cases r with
  | nil=>rw [lineI_one] at h;exact absurd h hw
  | cons g r=>rw [lineI_more] at h;exact absurd (List.append_eq_nil_iff.1 h).1 hw
theorem line_join (l:List Fld):lineI l=Go.Lib.join (l.map wordOf) [32]:=by
 induction l with
 | nil=>rfl
 | cons f r ih=>
  cases r with
  | nil=>rw [lineI_one,List.map_cons,List.map_nil,Go.Lib.join_one]
  | cons g r=>
   rw [lineI_more,ih]
   simp only [List.map_cons]
   rw [Go.Lib.join_cons,Go.Lib.join_cons]
   simp [Go.Lib.joinTail]
theorem line_snoc (l:List Fld) (f:Fld):lineI (l++[f])=if l=[] then wordOf f else lineI l++32 :: wordOf f:=by
 induction l with
 | nil=>rw [if_pos rfl,List.nil_append,lineI_one]
 | cons g r ih=>
  rw [if_neg (by simp)]
  cases r with
  | nil=>rw [List.singleton_append,lineI_more,lineI_one,lineI_one]
  | cons h r=>
   rw [List.cons_append,List.cons_append,lineI_more,lineI_more,← List.cons_append,ih,if_neg (by simp)]
   simp
theorem word_len {f:Fld} (h:longF f=false):(wordOf f).length≤8002:=by
 have h:f.1.length≤2000:=Nat.le_of_not_lt (of_decide_eq_false h)
 unfold wordOf
 split
 ·unfold quoteI
  have:=escs_len f.1
  rw [List.length_cons,List.length_append,List.length_singleton]
  omega
 ·omega
theorem line_len:∀ {l:List Fld},(∀ f∈l,longF f=false)→(lineI l).length≤8003*l.length
 | [],_=>Nat.le_refl _
 | [f],h=>by
  rw [lineI_one]
  have:=word_len (h f (List.mem_cons_self ..))
  simp;omega
 | f :: g :: r,h=>by
  have h1:=word_len (h f (List.mem_cons_self ..))
  have h2:=line_len (l:=g :: r) fun x hx=>h x (List.mem_cons_of_mem _ hx)
  rw [lineI_more,List.length_append,List.length_cons,List.length_cons (as:=g :: r)]
  omega
def formF (l:List Fld):Int:=if l.all goodF=true then 0 else 6
theorem takeF {l:List Fld} {q:Nat} (h:q<l.length):l.take (q+1)=l.take q++[l.getD q ([],false)]:=by
 rw [List.take_add_one,List.getD_eq_getElem?_getD,List.getElem?_eq_getElem h]
 rfl
theorem formF_good {l:List Fld} {f:Fld} (h:goodF f=true):formF (l++[f])=formF l:=by
 unfold formF
 rw [List.all_append,List.all_cons,List.all_nil,h,Bool.and_true,Bool.and_true]
theorem formF_bad {l:List Fld} {f:Fld} (h:goodF f=false):formF (l++[f])=6:=by
 unfold formF
 rw [List.all_append,List.all_cons,List.all_nil,h,Bool.false_and,Bool.and_false]
 rfl
theorem long_any {l:List Fld} {q:Nat} (hq:q<l.length) (h:2000<(l.getD q ([],false)).1.length):l.any longF=true:=by
 rw [List.any_eq_true]
 refine ⟨l[q],List.getElem_mem hq,?_⟩
 rw [List.getD_eq_getElem?_getD,List.getElem?_eq_getElem hq] at h
 exact decide_eq_true h
theorem short_all {l:List Fld} (h:∀ k,k<l.length→(l.getD k ([],false)).1.length≤2000):l.any longF=false:=by
 rw [List.any_eq_false]
 intro x hx
 obtain ⟨i,hi,rfl⟩:=List.mem_iff_getElem.1 hx
 have:=h i hi
 rw [List.getD_eq_getElem?_getD,List.getElem?_eq_getElem hi] at this
 unfold longF
 simpa using this
theorem bad_all {l:List Fld} {q:Nat} (hq:q<l.length) (h:goodF (l.getD q ([],false))=false):l.all goodF=false:=by
 rw [List.all_eq_false]
 refine ⟨l[q],List.getElem_mem hq,?_⟩
 rw [List.getD_eq_getElem?_getD,List.getElem?_eq_getElem hq] at h
 simpa using h
theorem good_all {l:List Fld} (h:∀ k,k<l.length→goodF (l.getD k ([],false))=true):l.all goodF=true:=by
 rw [List.all_eq_true]
 intro x hx
 obtain ⟨i,hi,rfl⟩:=List.mem_iff_getElem.1 hx
 have:=h i hi
 rwa [List.getD_eq_getElem?_getD,List.getElem?_eq_getElem hi] at this
theorem join_ok (l:List Fld):((joinI l).2=0↔l.length≤64∧l.any longF=false∧l.all goodF=true∧(lineI l).length≤8192)∧((joinI l).2=0→joinI l=(lineI l,0)):=by
 unfold joinI
 by_cases h1:64<l.length∨l.any longF=true
 ·rw [if_pos h1]
  refine ⟨⟨(fun e=>by cases e),fun ⟨k1,k2,_⟩=>?_⟩,(fun e=>by cases e)⟩
  rcases h1 with h1 | h1
  ·omega
  ·rw [k2] at h1;cases h1
 ·rw [if_neg h1]
  have h2:l.length≤64:=Nat.le_of_not_lt fun k=>h1 (.inl k)
  have h3:l.any longF=false:=by
   cases h:l.any longF
   ·rfl
   ·exact absurd (.inr h) h1
  by_cases h4:l.all goodF=false
  ·rw [if_pos h4]
   exact ⟨⟨(fun e=>by cases e),fun ⟨_,_,k,_⟩=>by rw [h4] at k;cases k⟩,(fun e=>by cases e)⟩
  ·rw [if_neg h4]
   have h5:l.all goodF=true:=by simpa using h4
   by_cases h6:8192<(lineI l).length
   ·rw [if_pos h6]
    exact ⟨⟨(fun e=>by cases e),fun ⟨_,_,_,k⟩=>by omega⟩,(fun e=>by cases e)⟩
   ·rw [if_neg h6]
    exact ⟨⟨fun _=>⟨h2,h3,h5,by omega⟩,fun _=>rfl⟩,fun _=>rfl⟩
theorem parts_snoc {c:UInt8}:∀ (s acc:Bs),partsG c acc (s++[c])=partsG c acc s++[[]]
 | [],acc=>by simp [partsG]
 | x :: r,acc=>by
  have h1:=parts_snoc r (c:=c) []
  have h2:=parts_snoc r (c:=c) (acc++[x])
  simp only [List.cons_append,partsG]
  split
  ·rw [h1];rfl
  ·rw [h2]
structure CutAt (c:UInt8) (s:Bs) (i k:Nat) (out:List Bs):Prop where
 lo:k≤i
 hi:i≤s.length
 len:out.length≤k
 at' : out++partsG c ((s.drop k).take (i - k)) (s.drop i)=partsI c s
theorem cut_start (c:UInt8) (s:Bs):CutAt c s 0 0 []:=⟨Nat.le_refl _,Nat.zero_le _,Nat.le_refl _,by simp⟩
theorem cut_drop {s:Bs} {i:Nat} (h:i<s.length):s.drop i=s.getD i 0 :: s.drop (i+1):=by
 rw [List.drop_eq_getElem_cons h,List.getD_eq_getElem?_getD,List.getElem?_eq_getElem h];rfl
theorem cut_hit {c:UInt8} {s:Bs} {i k:Nat} {out:List Bs} (g:CutAt c s i k out) (h:i<s.length) (hc:s.getD i 0=c):CutAt c s (i+1) (i+1) (out++[(s.drop k).take (i - k)]):=by
 refine ⟨Nat.le_refl _,h,by rw [List.length_append];have:=g.len;have:=g.lo;simp;omega,?_⟩
 rw [← g.at',cut_drop h,partsG,if_pos hc,Nat.sub_self,List.take_zero]
 simp
theorem cut_miss {c:UInt8} {s:Bs} {i k:Nat} {out:List Bs} (g:CutAt c s i k out) (h:i<s.length) (hc:s.getD i 0≠c):CutAt c s (i+1) k out:=by
 have hk:=g.lo
 refine ⟨by omega,h,g.len,?_⟩
 have e:(s.drop k).take (i+1 - k)=(s.drop k).take (i - k)++[s.getD i 0]:=by
  rw [show i+1 - k=(i - k)+1 by omega,List.take_add_one,List.getElem?_drop,show k+(i - k)=i by omega,List.getElem?_eq_getElem h,List.getD_eq_getElem?_getD,List.getElem?_eq_getElem h]
  rfl
 rw [← g.at',cut_drop h,e]
 conv=>rhs;rw [partsG,if_neg hc]
theorem cut_end {c:UInt8} {s:Bs} {k:Nat} {out:List Bs} (g:CutAt c s s.length k out):out++[s.drop k]=partsI c s:=by
 rw [← g.at',List.drop_of_length_le (Nat.le_refl _),partsG,List.take_of_length_le (by simp)]
theorem cut_line {c:UInt8} {s:Bs} {k:Nat} {out:List Bs} (g:CutAt c s s.length k out) (h0:s≠[]) (hl:s.getD (s.length - 1) 0=c):out=partsI c (s.take (s.length - 1)):=by
 have hp:0<s.length:=List.length_pos_iff.2 h0
 have e:s=s.take (s.length - 1)++[c]:=by
  conv=>lhs;rw [← List.take_append_drop (s.length - 1) s]
  rw [cut_drop (by omega),hl,List.drop_of_length_le (by omega)]
 have h1:=cut_end g
 have h2:partsI c s=partsI c (s.take (s.length - 1))++[[]]:=by
  conv=>lhs;rw [e]
  exact parts_snoc _ _
 rw [h2] at h1
 exact (List.append_inj' h1 rfl).1
def linesI (s:Bs):List Bs×Int:=if 1048576<s.length then ([],3) else if s=[] then ([],0) else if s.getD (s.length - 1) 0≠10 then ([],6) else if 5000<(partsI 10 (s.take (s.length - 1))).length then ([],3) else (partsI 10 (s.take (s.length - 1)),0)
theorem lines_len (s:Bs):(linesI s).1.length≤5000:=by
 unfold linesI
 repeat' split
 all_goals first | exact Nat.zero_le _ | (dsimp only;omega)
theorem lines_size (s:Bs):∀ p∈(linesI s).1,p.length≤s.length:=by
 unfold linesI
 repeat' split
 all_goals first
  | (intro p hp;cases hp;done)
  | (intro p hp;dsimp only at hp;have:=parts_size 10 _ _ p hp;rw [List.length_take] at this;simp only [List.length_nil] at this;omega)
end Go.Proofs.YtalmoocpebhoiaaGreatDoor.Wo
namespace Go.Proofs.YtalmoocpebhoiaaGreatDoor.Br
open At Wo
open Am (sB sB_size sB_ext sB_inj sB_app)
abbrev bL (s:ByteArray):Bs:=s.data.toList
theorem sB_bL (s:ByteArray):sB (bL s)=s:=str_ext (by simp [sB])
theorem bL_sB (l:Bs):bL (sB l)=l:=by simp [sB]
def kindL:List Bs:=[[],[100,105,114],[102,105,108,101],[108,105,110,107],[99,104,97,114],[119,104,105,116,101]]
def kindW (k:Int):Bs:=kindL.getD k.toNat []
def kindN (w:Bs):Nat→Int
 | 0=>0
 | q+1=>if kindL.getD q []=w then (q:Int) else kindN w q
def kindOf (w:Bs):Int:=kindN w 6
def linkK (k:Int):Bool:=decide (k=2∨k=3∨k=4)
def datK (k:Int):Bool:=decide (k=2∨k=3)
abbrev qf (b:Bs):Fld:=(b,true)
abbrev bf (b:Bs):Fld:=(b,false)
def atF (a:At.At):List Fld:=[qf (bL a.1),qf (bL a.2)]
def numF (n:Nd):List Fld:=if linkK n.kind=true then [bf (Lib.itoa n.cls)] else []
def datF (n:Nd):List Fld:=if datK n.kind=true then [qf (bL n.data)] else if n.kind=4 then [bf (Lib.itoa n.major),bf (Lib.itoa n.minor)] else []
def lineF (n:Nd) (p:List ByteArray):List Fld:=bf (kindW n.kind) :: qf (textL p) :: (numF n++datF n++n.attrs.flatMap atF)
def rowT (n:Nd) (p:List ByteArray):Bs:=lineI (lineF n p)++[10]
def textT (l:List Nd) (k:Nat):Bs:=(List.range k).flatMap fun i=>rowT (l.getD i n0) (pathI l i)
theorem textT_succ (l:List Nd) (k:Nat):textT l (k+1)=textT l k++rowT (l.getD k n0) (pathI l k):=by
 unfold textT
 rw [List.range_succ,List.flatMap_append]
 simp
def printT (l:List Nd):Bs×Int:=if (checkT l).2≠0 then ([],(checkT l).2) else (textT l l.length,0)
def opqW:Bs:=[111,112,97,113,117,101]
def redW:Bs:=[114,101,100,105,114,101,99,116]
def markF (l:List Bn) (i:Nat):List Fld:=
 if (l.getD i b0).opq=true then [bf opqW,qf (textL (pathI (nds l) i))]
 else if (l.getD i b0).red≠[] then [bf redW,qf (textL (pathI (nds l) i)),qf (textL (l.getD i b0).red)] else []
def markR (l:List Bn) (i:Nat):Bs:=if markF l i=[] then [] else lineI (markF l i)++[10]
def markT (l:List Bn) (k:Nat):Bs:=(List.range k).flatMap (markR l)
theorem markT_succ (l:List Bn) (k:Nat):markT l (k+1)=markT l k++markR l k:=by
 unfold markT
 rw [List.range_succ,List.flatMap_append]
 simp
def printB (l:List Bn):Bs×Int:=if (checkB l).2≠0 then ([],(checkB l).2) else (textT (nds l) l.length++markT l l.length,0)
def pparseE (s:Bs):List ByteArray×Int:=match s with
 | []=>([],6)
 | c :: r=>if c≠47 then ([],6) else if r=[] then ([],0) else if pcheckE ((partsI 47 r).map sB)≠0 then ([],pcheckE ((partsI 47 r).map sB)) else ((partsI 47 r).map sB,0)
def numP (s:Bs):Int×Int:=intI s (-9223372036854775808) 9223372036854775807
def attrsF:List Fld→Option (List At.At)
 | []=>some []
 | x :: y :: r=>if x.2=true∧y.2=true then (attrsF r).map ((sB x.1,sB y.1) :: ·) else none
 | [_]=>none
def restF (k:Int) (r:List Fld):Option (Int×ByteArray×Int×Int×List At.At):=
 if datK k=true then match r with
  | (c,false) :: (d,true) :: s=>if (numP c).2≠0 then none else (attrsF s).map fun as=>((numP c).1,sB d,0,0,as)
  | _=>none
 else if k=4 then match r with
  | (c,false) :: (a,false) :: (b,false) :: s=>if (numP c).2≠0∨(numP a).2≠0∨(numP b).2≠0 then none else (attrsF s).map fun as=>((numP c).1,eS,(numP a).1,(numP b).1,as)
  | _=>none
 else (attrsF r).map fun as=>(0,eS,0,0,as)
def readF:List Fld→Option (Nd×List ByteArray)
 | (w,false) :: (p,true) :: r=>if kindOf w=0∨(pparseE p).2≠0 then none else (restF (kindOf w) r).map fun x=>(⟨0,eS,kindOf w,x.2.2.2.2,x.2.1,x.2.2.1,x.2.2.2.1,x.1⟩,(pparseE p).1)
 | _=>none
def readS (s:Bs):Option (Nd×List ByteArray):=readF (splitI s).1
def rowP (i:Nat) (last:List ByteArray) (s:Bs):Option (Nd×List ByteArray):=match readS s with
 | none=>none
 | some (n,p)=>if i=0 then (if p=[] then some (n,p) else none)
  else if p=[]∨last.length+1<p.length∨p.take (p.length - 1)≠last.take (p.length - 1) then none
  else some ({ n with depth:=(p.length:Int),name:=p.getD (p.length - 1) eS },p)
def rowsP:Nat→List ByteArray→List Nd→List Bs→Sum (List Nd) Nat
 | _,_,t,[]=>.inl t
 | i,last,t,s :: r=>match rowP i last s with
  | none=>.inr (i+1)
  | some (n,p)=>rowsP (i+1) p (t++[n]) r
def parseT (s:Bs):List Nd×Int×Int:=if (linesI s).2≠0 then ([],0,(linesI s).2) else match rowsP 0 [] [] (linesI s).1 with
 | .inr k=>([],(k:Int),6)
 | .inl t=>if (checkT t).2≠0 then ([],(checkT t).1+1,(checkT t).2) else (t,0,0)
def isMark (s:Bs):Bool:=match (splitI s).1 with
 | (w,false) :: _=>decide (w=opqW∨w=redW)
 | _=>false
def setF (b:List Bn) (fs:List Fld) (last:Int):Option (List Bn×Nat):=match fs with
 | (w,false) :: (p,true) :: r=>
  if (pparseE p).2≠0∨(findE (nds b) (pparseE p).1).2≠0∨(findE (nds b) (pparseE p).1).1≤last∨(b.getD (findE (nds b) (pparseE p).1).1.toNat b0).nd.kind≠1 then none
  else if w=opqW then (match r with
   | []=>some (b.set (findE (nds b) (pparseE p).1).1.toNat { b.getD (findE (nds b) (pparseE p).1).1.toNat b0 with opq:=true },(findE (nds b) (pparseE p).1).1.toNat)
   | _=>none)
  else if w=redW then (match r with
   | [(q,true)]=>if (pparseE q).2≠0∨(pparseE q).1=[] then none else some (b.set (findE (nds b) (pparseE p).1).1.toNat { b.getD (findE (nds b) (pparseE p).1).1.toNat b0 with red:=(pparseE q).1 },(findE (nds b) (pparseE p).1).1.toNat)
   | _=>none)
  else none
 | _=>none
def setS (b:List Bn) (s:Bs) (last:Int):Option (List Bn×Nat):=setF b (splitI s).1 last
def setsP:Nat→List Bn→List Int→Int→List Bs→Sum (List Bn×List Int) Nat
 | _,b,W,_,[]=>.inl (b,W)
 | i,b,W,last,s :: r=>match setS b s last with
  | none=>.inr (i+1)
  | some (c,n)=>setsP (i+1) c (W.set n ((i:Int)+1)) n r
def bare (n:Nd):Bn:=⟨n,false,[]⟩
def manyP (L:List Bs):Nat:=(L.findIdx? isMark).getD L.length
def headT (L:List Bs):Bs:=L.flatMap (· ++ [10])
def parseB (s:Bs):List Bn×Int×Int:=if (linesI s).2≠0 then ([],0,(linesI s).2) else
 if (parseT (headT ((linesI s).1.take (manyP (linesI s).1)))).2.2≠0 then ([],(parseT (headT ((linesI s).1.take (manyP (linesI s).1)))).2) else
 match setsP (manyP (linesI s).1) ((parseT (headT ((linesI s).1.take (manyP (linesI s).1)))).1.map bare) ((parseT (headT ((linesI s).1.take (manyP (linesI s).1)))).1.map fun _=>0) (-1) ((linesI s).1.drop (manyP (linesI s).1)) with
 | .inr k=>([],(k:Int),6)
 | .inl (b,W)=>if (checkB b).2≠0 then ([],if 0<W.getD (checkB b).1.toNat 0 then W.getD (checkB b).1.toNat 0 else (checkB b).1+1,(checkB b).2) else (b,0,0)
abbrev Rd:=List Fld×Bool
def nextR (q:Bool) (r:Rd):Bs×Rd:=match r.1 with
 | []=>([],([],true))
 | x :: t=>if x.2≠q then ([],(x :: t,true)) else (x.1,(t,r.2))
def numR (r:Rd):Int×Rd:=((numP (nextR false r).1).1,((nextR false r).2.1,(nextR false r).2.2 || decide ((numP (nextR false r).1).2≠0)))
def loopR:Nat→List At.At→Rd→List At.At×Rd
 | 0,out,r=>(out,r)
 | k+1,out,r=>if r.1≠[]∧r.2=false then loopR k (out++[(sB (nextR true r).1,sB (nextR true (nextR true r).2).1)]) (nextR true (nextR true r).2).2 else (out,r)
def weight:List Fld→Nat
 | []=>0
 | f :: r=>4*f.1.length+3+weight r
theorem weight_app:∀ (l m:List Fld),weight (l++m)=weight l+weight m
 | [],m=>by simp [weight]
 | f :: r,m=>by
  have:=weight_app r m
  simp only [List.cons_append,weight] at this⊢
  omega
theorem word_le (f:Fld):(wordOf f).length≤4*f.1.length+2:=by
 unfold wordOf
 split
 ·have:=escs_len f.1
  unfold quoteI
  simp only [List.length_cons,List.length_append,List.length_nil]
  omega
 ·omega
theorem line_le:∀ (l:List Fld),(lineI l).length≤weight l
 | []=>by simp [lineI]
 | [f]=>by
  have:=word_le f
  rw [lineI_one]
  simp only [weight]
  omega
 | f :: g :: r=>by
  have h1:=word_le f
  have h2:=line_le (g :: r)
  rw [lineI_more,List.length_append,List.length_cons]
  rw [weight]
  omega
theorem itoa_le {z:Int} (h0:0≤z) (h1:z≤1000000000):(Lib.itoa z).length≤18:=by
 obtain ⟨n,rfl⟩:=Int.eq_ofNat_of_zero_le h0
 obtain ⟨h2,h3⟩:=itoa_nat n
 refine Decidable.byContradiction fun h=>?_
 have h4:=nat_ge h2 (by omega)
 have h5:10 ^ 18≤10 ^ ((Lib.itoa (n:Int)).length - 1):=Nat.pow_le_pow_right (by decide) (by omega)
 rw [h3] at h4
 omega
theorem attrs_weight:∀ (l:List At.At),weight (l.flatMap atF)+2*l.length≤4*sizeI l
 | []=>by simp [weight]
 | a :: r=>by
  have ih:=attrs_weight r
  have h1:(bL a.1).length=a.1.size:=rfl
  have h2:(bL a.2).length=a.2.size:=rfl
  rw [List.flatMap_cons,weight_app]
  simp only [atF,weight,sizeI,List.length_cons] at ih⊢
  omega
theorem at_le:∀ {l:List At.At} {x:At.At},x∈l→x.1.size+x.2.size+2≤sizeI l
 | a :: r,x,h=>by
  rcases List.mem_cons.1 h with rfl | h
  ·simp only [sizeI];omega
  ·have:=at_le h
   simp only [sizeI];omega
theorem atF_len:∀ (l:List At.At),(l.flatMap atF).length=2*l.length
 | []=>rfl
 | a :: r=>by
  have:=atF_len r
  rw [List.flatMap_cons,List.length_append,this]
  simp only [atF,List.length_cons,List.length_nil]
  omega
theorem most_at {l:List Nd} (h:Tok l):∀ q,q≤l.length→mostC (l.take q).reverse≤q
 | 0,_=>by simp [mostC]
 | q+1,hq=>by
  have h1:=(node_zero ((tok_node h).2.2 q hq)).2.2.2
  have ih:=most_at h q (by omega)
  rw [take_rev hq,mostC]
  have:(l.getD q n0).cls≤mostC (l.take q).reverse+1:=by
   unfold classE at h1
   split at h1
   ·cases h1
   ·omega
  omega
theorem cls_le {l:List Nd} (h:Tok l) {q:Nat} (hq:q<l.length):0≤(l.getD q n0).cls∧(l.getD q n0).cls≤120:=by
 have h1:=(node_zero ((tok_node h).2.2 q hq)).2.2.2
 have h2:=most_at h q (by omega)
 have h3:=(tok_node h).2.1
 unfold classE at h1
 split at h1
 ·cases h1
 ·omega
theorem fields_zero {n:Nd} (h:fieldsE n=0):1≤n.kind∧n.kind≤5∧n.data.size≤384∧(0≤n.major∧n.major≤255)∧(0≤n.minor∧n.minor≤255)∧(n.kind≠4→n.major=0∧n.minor=0)∧(n.kind≠2→n.kind≠3→n.data.size=0)∧(n.kind=1∨n.kind=5→n.cls=0):=by
 unfold fieldsE at h
 split at h
 ·cases h
 split at h
 ·cases h
 split at h
 ·cases h
 split at h
 ·cases h
 omega
theorem textL_le {p:List ByteArray} (h:pcheckE p=0):(textL p).length≤208:=by
 obtain ⟨h1,h2⟩:=pcheck_iff.1 h
 have h3:∀ (q:List ByteArray),(∀ s∈q,pnameE s=0)→(Lib.join (q.map (·.data.toList)) [47]).length≤25*q.length:=by
  intro q
  induction q with
  | nil=>intro _;simp [Lib.join]
  | cons s r ih=>
   intro hq
   have h5:=(name_size (hq s (List.mem_cons_self ..))).1
   have h6:s.data.toList.length=s.size:=rfl
   have h7:=ih fun x hx=>hq x (List.mem_cons_of_mem _ hx)
   cases r with
   | nil=>rw [List.map_cons,List.map_nil,join_one];simp only [List.length_cons,List.length_nil];omega
   | cons t r=>
    rw [List.map_cons,List.map_cons,join_cons,List.length_append,List.length_cons]
    rw [List.map_cons] at h7
    simp only [List.length_cons] at h7⊢
    omega
 have h8:=h3 p h2
 show ((Lib.join (p.map (·.data.toList)) [47])).length+1≤208
 omega
theorem kindW_le (k:Int):(kindW k).length≤5:=by
 unfold kindW kindL
 match k.toNat with
 | 0=>decide
 | 1=>decide
 | 2=>decide
 | 3=>decide
 | 4=>decide
 | 5=>decide
 | n+6=>exact Nat.zero_le _
theorem lineF_weight {n:Nd} {p:List ByteArray} (hf:fieldsE n=0) (ha:checkE n.attrs=0) (hc:0≤n.cls∧n.cls≤120) (hp:pcheckE p=0):weight (lineF n p)≤4000:=by
 obtain ⟨_,_,h1,h2,h3,_⟩:=fields_zero hf
 have h4:=kindW_le n.kind
 have h5:=textL_le hp
 have h6:=attrs_weight n.attrs
 have h7:=(checkE_srt ha).2.2.2
 have h8:sizeI n.attrs≤288:=by
  unfold fullB at h7
  simp at h7
  omega
 have h9:=itoa_le (z:=n.cls) hc.1 (by omega)
 have h10:=itoa_le (z:=n.major) h2.1 (by omega)
 have h11:=itoa_le (z:=n.minor) h3.1 (by omega)
 have h12:(bL n.data).length=n.data.size:=rfl
 have g1:weight (numF n)≤75:=by
  unfold numF
  split
  ·simp only [weight];omega
  ·exact Nat.zero_le _
 have g2:weight (datF n)≤1539:=by
  unfold datF
  split
  ·simp only [weight];omega
  ·split
   ·simp only [weight];omega
   ·exact Nat.zero_le _
 unfold lineF
 rw [weight,weight,weight_app,weight_app]
 dsimp only
 omega
theorem row_le {l:List Nd} (h:Tok l) {q:Nat} (hq:q<l.length):(rowT (l.getD q n0) (pathI l q)).length≤4001:=by
 have h1:=node_zero ((tok_node h).2.2 q hq)
 have h2:=lineF_weight h1.2.1 h1.2.2.1 (cls_le h hq) (path_ok h q hq)
 have h3:=line_le (lineF (l.getD q n0) (pathI l q))
 unfold rowT
 rw [List.length_append]
 simp only [List.length_cons,List.length_nil]
 omega
theorem text_le {l:List Nd} (h:Tok l):∀ q,q≤l.length→(textT l q).length≤4001*q
 | 0,_=>by simp [textT]
 | q+1,hq=>by
  have h1:=text_le h q (by omega)
  have h2:=row_le h hq
  rw [textT_succ,List.length_append]
  omega
theorem marks_zero {l:List Bn} {i:Nat} (h:marksE l i=0):((l.getD i b0).opq=true→(l.getD i b0).nd.kind=1∧(l.getD i b0).red=[])∧((l.getD i b0).red≠[]→(l.getD i b0).nd.kind=1∧(l.getD i b0).opq=false∧i≠0∧pcheckE (l.getD i b0).red=0):=by
 unfold marksE at h
 split at h
 ·cases h
 rename_i k1
 split at h
 ·cases h
 rename_i k2
 split at h
 ·rename_i k3;exact absurd h k3.2
 rename_i k3
 refine ⟨fun g=>⟨Decidable.not_not.1 fun e=>k1 (.inl ⟨.inl g,e⟩),Decidable.not_not.1 fun e=>k2 ⟨g,e⟩⟩,fun g=>⟨Decidable.not_not.1 fun e=>k1 (.inl ⟨.inr g,e⟩),?_,fun e=>k1 (.inr ⟨e,g⟩),Decidable.not_not.1 fun e=>k3 ⟨g,e⟩⟩⟩
 cases ho:(l.getD i b0).opq
 ·rfl
 ·exact absurd ⟨ho,g⟩ k2
theorem markF_good {l:List Bn} {i:Nat} (hT:Tok (nds l)) (hi:i<l.length) (h:marksE l i=0):(∀ f∈markF l i,goodF f=true)∧(markF l i).any longF=false∧weight (markF l i)≤2000∧(markF l i).length≤3:=by
 obtain ⟨h1,h2⟩:=marks_zero h
 have hl:(nds l).length=l.length:=List.length_map ..
 have hp:=textL_le (path_ok hT i (by omega))
 have hp2:(textL (pathI (nds l) i)).length≤2000:=by omega
 unfold markF
 split
 ·refine ⟨fun f hf=>?_,?_,?_,by simp⟩
  ·rcases List.mem_cons.1 hf with rfl | hf
   ·decide
   rcases List.mem_cons.1 hf with rfl | hf
   ·rfl
   cases hf
  ·rw [List.any_cons,List.any_cons,show longF (bf opqW)=false from rfl,show longF (qf (textL (pathI (nds l) i)))=false from decide_eq_false (by dsimp only;omega)]
   rfl
  ·simp only [weight,opqW,List.length_cons,List.length_nil];omega
 split
 ·rename_i _ hr
  have hq:=textL_le (h2 hr).2.2.2
  refine ⟨fun f hf=>?_,?_,?_,by simp⟩
  ·rcases List.mem_cons.1 hf with rfl | hf
   ·decide
   rcases List.mem_cons.1 hf with rfl | hf
   ·rfl
   rcases List.mem_cons.1 hf with rfl | hf
   ·rfl
   cases hf
  ·rw [List.any_cons,List.any_cons,List.any_cons,show longF (bf redW)=false from rfl,show longF (qf (textL (pathI (nds l) i)))=false from decide_eq_false (by dsimp only;omega),show longF (qf (textL (l.getD i b0).red))=false from decide_eq_false (by dsimp only;omega)]
   rfl
  ·simp only [weight,redW,List.length_cons,List.length_nil];omega
 ·exact ⟨fun f hf=>(by cases hf),rfl,Nat.zero_le _,by simp⟩
theorem markF_join {l:List Bn} {i:Nat} (hT:Tok (nds l)) (hi:i<l.length) (h:marksE l i=0):joinI (markF l i)=(lineI (markF l i),0):=by
 obtain ⟨h1,h2,h3,h4⟩:=markF_good hT hi h
 have h5:=line_le (markF l i)
 exact (join_ok _).2 ((join_ok _).1.2 ⟨by omega,h2,List.all_eq_true.2 h1,by omega⟩)
theorem markR_le {l:List Bn} (h:Bok l) {i:Nat} (hi:i<l.length):(markR l i).length≤2001:=by
 obtain ⟨hT,hm⟩:=bok_iff.1 h
 have h3:=(markF_good hT hi (hm i hi)).2.2.1
 have h5:=line_le (markF l i)
 unfold markR
 split
 ·exact Nat.zero_le _
 ·rw [List.length_append];simp only [List.length_cons,List.length_nil];omega
theorem mark_le {l:List Bn} (h:Bok l):∀ q,q≤l.length→(markT l q).length≤2001*q
 | 0,_=>by simp [markT]
 | q+1,hq=>by
  have h1:=mark_le h q (by omega)
  have h2:=markR_le h hq
  rw [markT_succ,List.length_append]
  omega
end Go.Proofs.YtalmoocpebhoiaaGreatDoor.Br
namespace Go.Proofs.YtalmoocpebhoiaaGreatDoor.Am
open Go.RowKit Lw
class Stp (R:Act→World→Prop) (R' : outParam (Act→World→Prop)):Prop where
 go:∀ {X:Cx} {st:AS},TE X R' st→TE X R st
theorem stp {X:Cx} {st:AS} {R R' : Act→World→Prop} [h:Stp R R'] (k:TE X R' st):TE X R st:=h.go k
section
variable {F:Fence} {P:Program} {Q:Exit→Act→World→Prop} {K:Act→World→Prop} {c d:Code} {l:List Oper} {i j:Nat}
instance:Stp (Code.wpIn F 0 P (Code.seq c d) Q) (Code.wpIn F 0 P c (Exit.then (Code.wpIn F 0 P d Q) Q)):=⟨TE.seq⟩
instance:Stp (wpListIn F 0 P (List.toArray l) Q []) (Q Exit.normal):=⟨TE.done⟩
instance:Stp (Exit.then K Q Exit.normal) K:=⟨TE.thenN⟩
instance:Stp (Exit.inBlock i Q Exit.normal) (Q Exit.normal):=⟨TE.inN⟩
instance:Stp (Code.wpIn F 0 P Code.skip Q) (Q Exit.normal):=⟨TE.skip⟩
instance:Stp (Code.wpIn F 0 P (Code.block i c) Q) (Code.wpIn F 0 P c (Exit.inBlock i Q)):=⟨TE.block⟩
instance:Stp (Code.wpIn F 0 P Code.ret Q) (Q Exit.ret):=⟨TE.ret⟩
instance:Stp (Exit.then K Q Exit.ret) (Q Exit.ret):=⟨TE.thenR⟩
instance:Stp (Exit.inBlock i Q Exit.ret) (Q Exit.ret):=⟨TE.inR⟩
instance:Stp (Code.wpIn F 0 P (Code.exit i) Q) (Q (Exit.exit i)):=⟨TE.exit⟩
instance:Stp (Exit.then K Q (Exit.exit i)) (Q (Exit.exit i)):=⟨TE.thenE⟩
instance:Stp (Exit.inBlock i Q (Exit.exit i)) (Q Exit.normal):=⟨TE.inHit⟩
instance:Stp (Code.wpIn F 0 P (Code.label i) Q) (Q Exit.normal):=⟨TE.label⟩
instance:Stp (Code.wpIn F 0 P (Code.goto i) Q) (Q (Exit.goto i)):=⟨TE.goto⟩
instance:Stp (Exit.then K Q (Exit.goto i)) (Q (Exit.goto i)):=⟨TE.thenG⟩
instance:Stp (Exit.inBlock i Q (Exit.goto j)) (Q (Exit.goto j)):=⟨TE.inG⟩
instance:Stp (Exit.jump i K Q Exit.normal) (Q Exit.normal):=⟨TE.jumpN⟩
instance:Stp (Exit.jump i K Q Exit.ret) (Q Exit.ret):=⟨TE.jumpR⟩
instance:Stp (Exit.jump i K Q (Exit.exit j)) (Q (Exit.exit j)):=⟨TE.jumpE⟩
instance:Stp (Exit.jump i K Q (Exit.goto i)) K:=⟨TE.jumpG⟩
end
section
variable {F:Fence} {P:Program} {Q:Exit→Act→World→Prop} {X:Cx} {st:AS} {K:Nat→Bool}
theorem gs {l rest:List Oper} {o:Oper} {t:Nat} {b:Bool} (ht:b=true→TE X (wpListIn F 0 P l.toArray Q (o :: rest)) (st.put (some t) (.o (.c (.bool true))))) (hf:b=false→TE X (wpListIn F 0 P l.toArray Q (o :: rest)) (st.put (some t) (.o (.c (.bool false))))) (hg:gslot l o=some t:=by rfl) (hc:look st.env t=some (.o (.sb b)):=by rfl):TE X (wpListIn F 0 P l.toArray Q (o :: rest)) st:=TE.gsplit hg hc ht hf
theorem gl {l:List Oper} {t fuel:Nat} {b:Bool} {lb:List Bool} (ht:b=true→TL F P X l Q K fuel lb (st.put (some t) (.o (.c (.bool true))))) (hf:b=false→TL F P X l Q K fuel lb (st.put (some t) (.o (.c (.bool false))))) (hg:gslots l st (readyL lb 0 l lb)=some t:=by rfl) (hc:look st.env t=some (.o (.sb b)):=by rfl):TL F P X l Q K fuel lb st:=TL.gsplit hg hc ht hf
theorem gc {t:Nat} {b:Bool} {x y:Code} (ht:b=true→TE X (x.wpIn F 0 P Q) st) (hf:b=false→TE X (y.wpIn F 0 P Q) st) (hc:look st.env t=some (.o (.sb b)):=by rfl):TE X ((Code.cond (.tmp t) x y).wpIn F 0 P Q) st:=TE.cond_split hc ht hf
end
theorem vi {k:IntKind} {a b:Int} (h:a=b:=by (first|omega|rfl|(simp only [Int.toNat_natCast];omega))):Value.int k a=Value.int k b:=congrArg _ h
theorem vb {a b:Bool} (h:a=b:=by assumption):Value.bool a=Value.bool b:=congrArg _ h
theorem io {a b:Prop} (h:a∨b:=by (first|exact .inl rfl|exact .inr rfl)):a∨b:=h
theorem xf {G:Prop} (f:False:=by (first|omega|exact h trivial|exact h|exact h rfl|contradiction)):G:=f.elim
theorem zz {p:Prop} (h:p:=by (first|with_reducible rfl|with_reducible exact LeD.refl|exact vi|rfl|exact vb|exact LeD.refl)):p:=h
theorem og {p:Prop} (h:p:=by (first|exact trivial|exact fun _ _=>⟨_,rfl⟩)):p:=h
theorem oj {p:Prop} (h:p:=by (first|omega|exact fun _ _=>⟨_,rfl⟩)):p:=h
section
variable {F:Fence} {P:Program} {T:Tys} {X:Cx} {st st' : AS} {Q:Exit→Act→World→Prop} {K:Nat→Bool}
theorem rn [hF:Free F] {N:Nat} {l rest rest' : List Oper} {ps:List Prop} (hps:AllP ps) (hk:TE X (wpListIn F 0 P l.toArray Q rest') st') (hT:T.Ok P:=by exact tysOk) (hN:X.N=N:=by rfl) (h:st.force (fun s=>arun T N l rest s [])=(rest',st',ps):=by rfl):TE X (wpListIn F 0 P l.toArray Q rest) st:=TE.run hT hN h hps hk
theorem rg [Free F] {N id:Nat} {l rest' : List Oper} {ps:List Prop} (hps:AllP ps) (hk:TE X (wpListIn F 0 P l.toArray Q rest') st') (hT:T.Ok P:=by exact tysOk) (hN:X.N=N:=by rfl) (h:st.force (fun s=>arun T N l l s [])=(rest',st',ps):=by rfl):TE X ((Code.region id l.toArray false).wpIn F 0 P Q) st:=TE.rgo hT hN h hps hk
theorem sm {i fuel:Nat} {l:List Oper} {lb lb' : List Bool} {o:Oper} {ps:List Prop} {N:Nat} (hps:AllP ps) (hk:TL F P X l Q K fuel lb' st') (hT:T.Ok P:=by exact tysOk) (hN:X.N=N:=by rfl) (hi:nthO l i=some o:=by rfl) (hd:dstOk N o=true:=by rfl) (hg:aguard l st o=some true:=by rfl) (h:st.force (fun s=>amem T K o s)=some (st',ps):=by rfl) (hb:normB (setB lb i) some=some lb':=by rfl):StepL F P X l Q K fuel lb st i:=StepL.mem hT hN hi hd hg h hps hb hk
theorem sp {i fuel:Nat} {l:List Oper} {lb lb' : List Bool} {o:Oper} {av:AV} {ps:List Prop} {N:Nat} (hps:AllP ps) (hk:TL F P X l Q K fuel lb' (st.put o.dst av)) (hT:T.Ok P:=by exact tysOk) (hN:X.N=N:=by rfl) (hi:nthO l i=some o:=by rfl) (hd:dstOk N o=true:=by rfl) (hg:aguard l st o=some true:=by rfl) (h:st.force (fun s=>apure T (fun _=>true) o s)=some (av,ps):=by rfl) (hb:normB (setB lb i) some=some lb':=by rfl):StepL F P X l Q K fuel lb st i:=StepL.pure hT hN hi hd hg h hps hb hk
theorem ct {c:Operand} {x y:Code} (h:TE X (x.wpIn F 0 P Q) st) (hc:aop st c=some (.o (.c (.bool true))):=by rfl):TE X ((Code.cond c x y).wpIn F 0 P Q) st:=TE.cond_true hc h
theorem cf {c:Operand} {x y:Code} (h:TE X (y.wpIn F 0 P Q) st) (hc:aop st c=some (.o (.c (.bool false))):=by rfl):TE X ((Code.cond c x y).wpIn F 0 P Q) st:=TE.cond_false hc h
theorem dn {id:Nat} {l:List Oper} {lb:List Bool} (h:TL F P X l Q (fun i=>i.blt st.nid) l.length lb st) (hm:P.follows .mixedOrders=true:=by rfl) (hs:selL l=true:=by rfl) (hb:normB (repB l) some=some lb:=by rfl):TE X ((Code.region id l.toArray true).wpIn F 0 P Q) st:=TE.drawN hm hs hb h
theorem dc {id:Nat} {l:List Oper} {lb:List Bool} (h:TL F P X l Q (fun _=>false) l.length lb st) (hc:hasCp l=true:=by rfl) (hm:P.follows .mixedOrders=true:=by rfl) (hs:selL l=true:=by rfl) (hb:normB (repB l) some=some lb:=by rfl):TE X ((Code.region id l.toArray true).wpIn F 0 P Q) st:=TE.drawC hc hm hs hb h
end
structure Hid (Q:Prop):Prop where
 go:Q
theorem wa {P Q:Prop} (k:Q) (h:Hid Q→P:=by (intro k;(repeat' (first|(with_reducible refine AllP.go ?_;first|exact og|((try simp only [OS]);repeat' (first|exact oj|refine And.intro ?_ ?_)))|(refine rg ?_ ?_)|(with_reducible first|refine stp ?_|refine tD rfl ?_)|refine ct ?_|refine cf ?_|((first|refine gs ?_ ?_|refine gl ?_ ?_|refine gc ?_ ?_)<;>intro h<;>(try simp only [NS] at h)<;>(try exact xf)<;>(try refine rn ?_ ?_))));exact k.go)):P:=h ⟨k⟩
theorem wb {P Q:Prop} (k:Q) (h:Hid Q→P:=by (intro k;((refine rn ?_ ?_);(repeat' (first|(with_reducible refine AllP.go ?_;first|exact og|((try simp only [OS]);repeat' (first|exact oj|refine And.intro ?_ ?_)))|(refine rg ?_ ?_)|(with_reducible first|refine stp ?_|refine tD rfl ?_)|refine ct ?_|refine cf ?_|((first|refine gs ?_ ?_|refine gl ?_ ?_|refine gc ?_ ?_)<;>intro h<;>(try simp only [NS] at h)<;>(try exact xf)<;>(try refine rn ?_ ?_)))));exact k.go)):P:=h ⟨k⟩
theorem wc {P Q:Prop} (k:Q) (h:Hid Q→P:=by (intro k;(repeat' (first|(with_reducible refine AllP.go ?_;first|exact og|((try simp only [OS]);repeat' (first|exact oj|refine And.intro ?_ ?_)))|(refine rg ?_ ?_)|(with_reducible first|refine stp ?_|refine tD rfl ?_)|(with_reducible first|exact PanicOk.body|exact rd.panic|refine PanicOk.then' ?_|refine PanicOk.block ?_|refine PanicOk.jump ?_)|(refine dc ?_)|(refine dn ?_)|(refine TL.done (by rfl) ?_)|(refine TL.auto tysOk rfl ?_ (by rfl) ?_ ?_)|((refine TL.one (by rfl) ?_);first|(refine sm ?_ ?_)|(refine sp ?_ ?_))|(refine sm ?_ ?_)|refine ct ?_|refine cf ?_|((first|refine gs ?_ ?_|refine gl ?_ ?_|refine gc ?_ ?_)<;>intro h<;>(try simp only [NS] at h)<;>(try exact xf)<;>(try refine rn ?_ ?_))));exact k.go)):P:=h ⟨k⟩
theorem wd {P Q:Prop} (k:Q) (h:Hid Q→P:=by (intro k;((refine rn ?_ ?_);(repeat' (first|(with_reducible refine AllP.go ?_;first|exact og|((try simp only [OS]);repeat' (first|exact oj|refine And.intro ?_ ?_)))|(refine rg ?_ ?_)|(with_reducible first|refine stp ?_|refine tD rfl ?_)|(with_reducible first|exact PanicOk.body|exact rd.panic|refine PanicOk.then' ?_|refine PanicOk.block ?_|refine PanicOk.jump ?_)|(refine dc ?_)|(refine dn ?_)|(refine TL.done (by rfl) ?_)|(refine TL.auto tysOk rfl ?_ (by rfl) ?_ ?_)|((refine TL.one (by rfl) ?_);first|(refine sm ?_ ?_)|(refine sp ?_ ?_))|(refine sm ?_ ?_)|refine ct ?_|refine cf ?_|((first|refine gs ?_ ?_|refine gl ?_ ?_|refine gc ?_ ?_)<;>intro h<;>(try simp only [NS] at h)<;>(try exact xf)<;>(try refine rn ?_ ?_)))));exact k.go)):P:=h ⟨k⟩
theorem we {P Q:Prop} (k:Q) (h:Hid Q→P:=by (intro k;((refine dn ?_);repeat' (first|(with_reducible refine AllP.go ?_;first|exact og|((try simp only [OS]);repeat' (first|exact oj|refine And.intro ?_ ?_)))|(with_reducible first|exact PanicOk.body|exact rd.panic|refine PanicOk.then' ?_|refine PanicOk.block ?_|refine PanicOk.jump ?_)|(refine TL.done (by rfl) ?_)|(refine TL.auto tysOk rfl ?_ (by rfl) ?_ ?_)|((refine TL.one (by rfl) ?_);first|(refine sm ?_ ?_)|(refine sp ?_ ?_))|(refine sm ?_ ?_)|((first|refine gl ?_ ?_|refine gc ?_ ?_)<;>intro h<;>(try simp only [NS] at h)<;>(try exact xf))));exact k.go)):P:=h ⟨k⟩
theorem wf {P Q:Prop} (k:Q) (h:Hid Q→P:=by (intro k;(repeat' (first|(with_reducible refine AllP.go ?_;first|exact og|((try simp only [OS]);repeat' (first|exact oj|refine And.intro ?_ ?_)))|(with_reducible first|exact PanicOk.body|exact rd.panic|refine PanicOk.then' ?_|refine PanicOk.block ?_|refine PanicOk.jump ?_)|(refine TL.done (by rfl) ?_)|(refine TL.auto tysOk rfl ?_ (by rfl) ?_ ?_)|(refine sm ?_ ?_)|(refine sp ?_ ?_)|(refine TL.one (by rfl) ?_)|(refine TL.two (by rfl) ?_ ?_)|(refine TL.three (by rfl) ?_ ?_ ?_)|(refine TL.four (by rfl) ?_ ?_ ?_ ?_)));exact k.go)):P:=h ⟨k⟩
theorem wg {P Q:Prop} (k:Q) (h:Hid Q→P:=by (intro k;((refine TE.drawK (fun _=>false) (by rfl) (by rfl) (by rfl) ?_);(repeat' (first|(with_reducible refine AllP.go ?_;first|exact og|((try simp only [OS]);repeat' (first|exact oj|refine And.intro ?_ ?_)))|(with_reducible first|exact PanicOk.body|exact rd.panic|refine PanicOk.then' ?_|refine PanicOk.block ?_|refine PanicOk.jump ?_)|(refine TL.done (by rfl) ?_)|(refine TL.auto tysOk rfl ?_ (by rfl) ?_ ?_)|(refine sm ?_ ?_)|(refine sp ?_ ?_)|(refine TL.one (by rfl) ?_)|(refine TL.two (by rfl) ?_ ?_)|(refine TL.three (by rfl) ?_ ?_ ?_)|(refine TL.four (by rfl) ?_ ?_ ?_ ?_))));exact k.go)):P:=h ⟨k⟩
theorem po {P:Prop} (h:P:=by (refine TE.ret' io rfl tysOk (()) ?_ rfl (by rfl) ?_;all_goals (try (first|exact trivial|((with_reducible refine AllP.go ?_);dsimp only [AllP,appP];repeat' (first|refine And.intro ?_ ?_|exact zz)))))):P:=h
theorem ee {P:Prop} (h:P:=by (refine Ent.of rfl rfl (by rfl) ?_;(try (first|exact trivial|((with_reducible refine AllP.go ?_);dsimp only [AllP,appP];repeat' (first|refine And.intro ?_ ?_|exact zz)))))):P:=h
theorem aa {P:Prop} (h:P:=by (refine TE.at () trivial ?_;(refine Ent.of rfl rfl (by rfl) ?_;(try (first|exact trivial|((with_reducible refine AllP.go ?_);dsimp only [AllP,appP];repeat' (first|refine And.intro ?_ ?_|exact zz))))))):P:=h
section
variable {F:Fence} {P:Program} {Q:Exit→Act→World→Prop} {X:Cx} {st:AS} {K:Nat→Bool}
theorem cw [Free F] {ι:Type} {f:FuncId} {args:List AV} {takes:List Chunk} {m M:Nat} {pre:ι→Prop} {res:ι→AV} {gives:ι→List Chunk} {l:List Oper} {o:Oper} {c:Call} {rest:List Oper} {N:Nat}
  {g:Nat→Nat} {left:List Chunk} {ps:List Prop} (hcon:Con P f args takes m M pre res gives) (hk:∀ x,pre x→TE X (wpListIn F 0 P l.toArray Q rest) (st.called left g m M o.dst (res x) (gives x))) (hN:X.N=N:=by rfl) (hd:dstOk N o=true:=by rfl) (hgd:aguard l st o=some true:=by rfl) (ho:o.op = .call c:=by rfl) (h:callP st c f args takes m=some (g,left,ps):=by rfl) (hp:AllP ps:=by (first|exact trivial|((with_reducible refine AllP.go ?_);dsimp only [AllP,appP];repeat' (first|refine And.intro ?_ ?_|exact zz|assumption)))):TE X (wpListIn F 0 P l.toArray Q (o :: rest)) st:=TE.callW hcon hN hd hgd ho h hp hk
end
end Go.Proofs.YtalmoocpebhoiaaGreatDoor.Am
namespace Go.Proofs.YtalmoocpebhoiaaGreatDoor.Am
open Go.RowKit Lw Go.ChangeShapes Go.WideShapes Go.Deep
structure DOpen {α:Type} (P:Program) (t:TypeId) (sz:Nat) (row:α→Nat→DC) (good:α→Prop):Prop where
 cells:P.cellsOf t=sz
 pos:0<sz
 get:∀ {H:Type} {enc:TypeId×Value→H} {w:World} {base:Nat} {spare:Nat→Bool} {held:Bool} {n:Nat} {cs:List Value} {y:DataW H×List MemPlace},DataW.trod enc P w base spare held n t cs=some y→
  cs.length=sz∧∃ x:α,good x∧∀ j u,cs[j]? = some u→(row x j).rel w (· < w.heap.size) u
section
variable {P:Program} {t e:TypeId}
def strR (s:ByteArray) (_:Nat):DC:=.c (.string s)
def boolR (b:Bool) (_:Nat):DC:=.c (.bool b)
def intR (z:Int) (_:Nat):DC:=.c (.int .i64 z)
def Any {α:Type} (_:α):Prop:=True
def strG (s:ByteArray):Prop:=s.size≤maxLen
def intG (z:Int):Prop:=-9223372036854775808≤z∧z≤9223372036854775807
def listG {α:Type} (g:α→Prop) (l:List α):Prop:=l.length≤maxLen∧∀ x∈l,g x
theorem one_get {v u:Value} {j:Nat} (h:[v][j]? = some u):j=0∧u=v:=by
 cases j with
 | zero=>exact ⟨rfl,by simpa using h.symm⟩
 | succ j=>simp at h
theorem DOpen.str (hc:P.cellsOf t=1) (ht:P.underlying t=some .string):DOpen P t 1 strR strG:=by
 refine ⟨hc,by decide,fun {H enc w base spare held n cs y} h=>?_⟩
 obtain ⟨s,rfl,_,hs⟩:=DataW.trod_string ht h
 exact ⟨rfl,s,hs,fun j u hu=>by obtain ⟨_,rfl⟩:=one_get hu;exact ⟨rfl,rfl⟩⟩
theorem DOpen.bool (hc:P.cellsOf t=1) (ht:P.underlying t=some .bool):DOpen P t 1 boolR Any:=by
 refine ⟨hc,by decide,fun {H enc w base spare held n cs y} h=>?_⟩
 obtain ⟨s,rfl,_⟩:=DataW.trod_bool ht h
 exact ⟨rfl,s,trivial,fun j u hu=>by obtain ⟨_,rfl⟩:=one_get hu;exact ⟨rfl,rfl⟩⟩
theorem wf_bounds {k:IntKind} {z:Int} (h:(Lit.int k z).wf=true):k.min≤z∧z≤k.max:=by simpa [Lit.wf] using h
theorem DOpen.i64 (hc:P.cellsOf t=1) (ht:P.underlying t=some (.int .i64)):DOpen P t 1 intR intG:=by
 refine ⟨hc,by decide,fun {H enc w base spare held n cs y} h=>?_⟩
 obtain ⟨z,rfl,_,hz⟩:=DataW.trod_int ht h
 refine ⟨rfl,z,?_,fun j u hu=>by obtain ⟨_,rfl⟩:=one_get hu;exact ⟨rfl,rfl⟩⟩
 have:=wf_bounds hz
 rwa [show IntKind.i64.min = -9223372036854775808 by decide,show IntKind.i64.max=9223372036854775807 by decide] at this
def slR {α:Type} (sz:Nat) (row:α→Nat→DC) (d:α) (xs:List α) (_:Nat):DC:=.sl sz xs.length (listC row d xs).cell
theorem spot_at {w:World} {a:Addr} {v:Value} (h:w.cell? a=some v):∃ b o,a=⟨b,o,none⟩∧b<w.heap.size:=by
 obtain ⟨b,o,s⟩:=a
 unfold World.cell? at h
 split at h
 ·rename_i c _ _ hg
  refine ⟨b,o,?_,(Array.getElem?_eq_some_iff.1 hg).1⟩
  cases s with
  | none=>rfl
  | some x=>simp at h
 ·cases h
theorem DOpen.slice {α:Type} {sz:Nat} {row:α→Nat→DC} {good:α→Prop} (h:DOpen P e sz row good) (d:α) (hc:P.cellsOf t=1) (ht:P.underlying t=some (.slice e)):DOpen P t 1 (slR sz row d) (listG good):=by
 refine ⟨hc,by decide,fun {H enc w base spare held n cs y} hh=>?_⟩
 rcases open_slice ht hh with ⟨rfl,_⟩ | ⟨a,len,cap,m,n,D,Pl,rfl,_,hl,hm,hmm,_,hi⟩
 ·exact ⟨rfl,[],⟨Nat.zero_le _,fun x hx=>nomatch hx⟩,fun j u hu=>by obtain ⟨_,rfl⟩:=one_get hu;exact ⟨none,0,rfl,Nat.le_refl _,Nat.zero_le _,fun _=>rfl,fun h=>absurd h (Nat.lt_irrefl 0)⟩⟩
 ·have hlm:len≤m:=by rw [hmm];split<;>omega
  have hch:∀ i:Fin len,∃ x:α,good x∧∃ cs' : List Value,cs'.length=sz∧(∀ j,j<sz→w.cell? ((a.add (i.1*sz)).add j)=cs'[j]?)∧∀ j u,cs'[j]? = some u→(row x j).rel w (· < w.heap.size) u:=by
   intro i
   obtain ⟨cs',hcs,hx⟩:=hi i.1 (Nat.lt_of_lt_of_le i.2 hlm)
   rw [h.cells] at hcs
   obtain ⟨_,hcl,hat⟩:=World.cells?_some hcs
   obtain ⟨_,x,hg,hr⟩:=h.get hx
   exact ⟨x,hg,cs',hcl,hat,hr⟩
  obtain ⟨f,hf⟩:=Classical.axiomOfChoice hch
  refine ⟨rfl,List.ofFn f,⟨by simp;omega,fun x hx=>?_⟩,fun j u hu=>?_⟩
  ·obtain ⟨q,rfl⟩:=List.mem_ofFn.1 hx
   exact (hf q).1
  obtain ⟨_,rfl⟩:=one_get hu
  refine ⟨some a,cap,by simp,by simpa using hl,hm,(fun h=>by cases h),fun h0=>?_⟩
  have h0' : 0<len:=by simpa using h0
  obtain ⟨_,cs0,hcl0,hat0,_⟩:=hf ⟨0,h0'⟩
  have h00:=hat0 0 h.pos
  have hv:cs0[0]? = some (cs0[0]'(by have:=h.pos;omega)):=List.getElem?_eq_getElem _
  rw [hv] at h00
  have e0:(a.add (0*sz)).add 0=a:=by simp [Addr.add]
  rw [show ((⟨0,h0'⟩:Fin len).1)=0 from rfl,e0] at h00
  obtain ⟨b,o,rfl,hb⟩:=spot_at h00
  refine ⟨b,o,rfl,hb,hb,fun i j hi' hj=>?_⟩
  have hil:i<len:=by simpa using hi'
  obtain ⟨_,cs',hcl,hat,hr⟩:=hf ⟨i,hil⟩
  have hj' : cs'[j]? = some (cs'[j]'(by omega)):=List.getElem?_eq_getElem _
  refine ⟨cs'[j]'(by omega),?_,?_⟩
  ·have:=hat j hj
   rw [add_none',add_none'] at this
   rw [this,hj']
  ·have:=hr j _ hj'
   have hx:(List.ofFn f).getD i d=f ⟨i,hil⟩:=by
    rw [List.getD_eq_getElem?_getD,List.getElem?_eq_getElem (by simpa using hil)]
    simp
   show (row ((List.ofFn f).getD i d) j).rel w (· < w.heap.size) _
   rw [hx];exact this
def DFields {α:Type} (P:Program) (fs:List Field) (off sz:Nat) (row:α→Nat→DC) (good:α→Prop):Prop:=
 ∀ {H:Type} {enc:TypeId×Value→H} {w:World} {base:Nat} {spare:Nat→Bool} {held:Bool} {n:Nat} {cs:List Value},(∀ f∈fs,∃ y,DataW.trod enc P w base spare held n f.type ((cs.drop f.offset).take (P.cellsOf f.type))=some y)→
  ∃ x:α,good x∧∀ j u,j<sz→cs[off+j]? = some u→(row x j).rel w (· < w.heap.size) u
theorem DFields.nil {off:Nat}:DFields P [] off 0 (fun (_:Unit) _=>.c undef) Any:=by
 intro H enc w base spare held n cs h
 exact ⟨(),trivial,fun j u hj=>absurd hj (Nat.not_lt_zero j)⟩
def pairR {α β:Type} (sz:Nat) (r1:α→Nat→DC) (r2:β→Nat→DC) (x:α×β) (j:Nat):DC:=if j<sz then r1 x.1 j else r2 x.2 (j - sz)
def pairG {α β:Type} (g1:α→Prop) (g2:β→Prop) (x:α×β):Prop:=g1 x.1∧g2 x.2
theorem DFields.cons {α β:Type} {f:Field} {fs:List Field} {off s1 s2:Nat} {r1:α→Nat→DC} {r2:β→Nat→DC} {g1:α→Prop} {g2:β→Prop} (ho:f.offset=off) (h1:DOpen P f.type s1 r1 g1) (h2:DFields P fs (off+s1) s2 r2 g2):DFields P (f :: fs) off (s1+s2) (pairR s1 r1 r2) (pairG g1 g2):=by
 intro H enc w base spare held n cs h
 obtain ⟨y,hy⟩:=h f (List.mem_cons_self ..)
 rw [h1.cells,ho] at hy
 obtain ⟨hl,x1,ga,hx1⟩:=h1.get hy
 obtain ⟨x2,gb,hx2⟩:=h2 (enc:=enc) (w:=w) (base:=base) (spare:=spare) (held:=held) (n:=n) (cs:=cs) fun f' hf'=>h f' (List.mem_cons_of_mem _ hf')
 refine ⟨(x1,x2),⟨ga,gb⟩,fun j u hj hu=>?_⟩
 unfold pairR
 by_cases hlt:j<s1
 ·rw [if_pos hlt]
  refine hx1 j u ?_
  rw [List.getElem?_take_of_lt hlt,List.getElem?_drop];exact hu
 ·rw [if_neg hlt]
  refine hx2 (j - s1) u (by omega) ?_
  rw [show off+s1+(j - s1)=off+j by omega];exact hu
theorem DOpen.struct {α:Type} {fs:List Field} {sz:Nat} {row:α→Nat→DC} {good:α→Prop} (hc:P.cellsOf t=sz) (hp:0<sz) (ht:P.underlying t=some (.struct fs.toArray)) (h:DFields P fs 0 sz row good):DOpen P t sz row good:=by
 refine ⟨hc,hp,fun {H enc w base spare held n cs y} hh=>?_⟩
 obtain ⟨xs,m,_,_,hl,hlen,hf⟩:=DataW.trod_struct ht hh
 rw [hc] at hl
 refine ⟨hl,?_⟩
 obtain ⟨x,g,hx⟩:=h (enc:=enc) (w:=w) (base:=base) (spare:=spare) (held:=held) (n:=m) (cs:=cs) (fun f hm=>by
  obtain ⟨i,hi,e⟩:=List.getElem_of_mem hm
  have:=hf i f (by simp [hi,e])
  have hi' : i<xs.length:=by rw [hlen];simpa using hi
  rw [List.getElem?_eq_getElem hi'] at this
  exact ⟨_,this⟩)
 refine ⟨x,g,fun j u hu=>hx j u ?_ (by rw [Nat.zero_add];exact hu)⟩
 have:=(List.getElem?_eq_some_iff.1 hu).1;omega
theorem DOpen.map {α β:Type} {sz:Nat} {row:α→Nat→DC} {row' : β→Nat→DC} {good:α→Prop} {good' : β→Prop} (h:DOpen P t sz row good) (f:α→β) (hr:∀ x j,j<sz→row x j=row' (f x) j) (hg:∀ x,good x→good' (f x)):DOpen P t sz row' good':=by
 refine ⟨h.cells,h.pos,fun {H enc w base spare held n cs y} hh=>?_⟩
 obtain ⟨hl,x,g,hx⟩:=h.get hh
 refine ⟨hl,f x,hg x g,fun j u hu=>?_⟩
 rw [← hr x j (by have:=(List.getElem?_eq_some_iff.1 hu).1;omega)]
 exact hx j u hu
def AOpen {α:Type} (P:Program) (t:TypeId) (mk:α→AV) (good:α→Prop):Prop:=
 ∀ {H:Type} {enc:TypeId×Value→H} {w:World} {base:Nat} {v:Value} {d:DataW H} {p:List MemPlace},Value.okWide P w .any base t v→DataW.Trod enc P w 0 (fun _=>true) true t v d p→∃ x:α,good x∧∀ ν,(mk x).rel w (· < w.heap.size) ν v
theorem okWide_one {w:World} {r:Reach} {base:Nat} {v:Value} (h:Value.okWide P w r base t v) (hs:∀ fs,P.underlying t≠some (.struct fs)) (ha:∀ n e,P.underlying t≠some (.array n e)):v.cells.toList=[v]:=by
 cases v with
 | agg cs=>
  exfalso
  unfold Value.okWide at h
  split at h
  ·rename_i fs e;exact hs _ e
  ·rename_i n e' e;exact ha _ _ e
  ·unfold Cell.okWide at h
   split at h<;>simp_all [Cell.ok]
 | _=>rfl
theorem AOpen.one {α:Type} {row:α→Nat→DC} {good:α→Prop} (h:DOpen P t 1 row good) (hs:∀ fs,P.underlying t≠some (.struct fs)) (ha:∀ n e,P.underlying t≠some (.array n e)):AOpen P t (fun x=>.o (row x 0).toA) good:=by
 intro H enc w base v d p hok ⟨m,hm⟩
 rw [okWide_one hok hs ha] at hm
 obtain ⟨_,x,g,hx⟩:=h.get hm
 exact ⟨x,g,fun ν=>DC.toA_rel (hx 0 v rfl)⟩
end
end Go.Proofs.YtalmoocpebhoiaaGreatDoor.Am
