/- Texts of this claim, joined. -/
import Derived.Test.YtalmoocpebhoiaaGreatDoorPk2
import Derived.Test.YtalmoocpebhoiaaGreatDoorPk3
import Derived.MapKept
import Derived.ScopeJumps
import Derived.LaidLaws
set_option linter.unusedSimpArgs false
set_option linter.unusedVariables false
set_option maxRecDepth 20000
set_option maxHeartbeats 8000000
namespace Go.Proofs.YtalmoocpebhoiaaGreatDoor.Br
open At
structure En where
 name:ByteArray
 node:Nd
 white:Bool
 first:Bool
 names:Int
 deriving DecidableEq
structure Di where
 attrs:List At
 opq:Bool
 red:List ByteArray
 ents:List En
 deriving DecidableEq
abbrev e0:En:=⟨eS,n0,false,false,0⟩
abbrev di0:Di:=⟨[],false,[],[]⟩
def entN (x:Nd):Nd:=if x.kind=1 then { n0 with kind:=1 } else { x with depth:=0,name:=eS }
def firstP (l:List Bn) (n:Int) (i:Nat):Bool:=(namesL l i).all fun k=>decide (n<aboveI (nds l) k) || (decide (aboveI (nds l) k=n) && decide (i≤k))
def entI (l:List Bn) (n:Int) (i:Nat):En:=⟨(l.getD i b0).nd.name,entN (l.getD i b0).nd,decide ((l.getD i b0).nd.kind=5),firstP l n i,((namesL l i).length:Int)⟩
def dirI (l:List Bn) (n:Nat):Di:=⟨(l.getD n b0).nd.attrs,(l.getD n b0).opq,(l.getD n b0).red,(kidsL l n).map (entI l n)⟩
def dirE (l:List Bn) (n:Int):Di×Int:=if (kidsE l n).2≠0 then (di0,(kidsE l n).2) else (dirI l n.toNat,0)
def aloneT (n:Nd):List Nd:=[{ n0 with kind:=1 },{ n with depth:=1,name:=⟨#[110]⟩,cls:=0 }]
def aloneE (n:Nd):Int:=(checkT (aloneT n)).2
end Go.Proofs.YtalmoocpebhoiaaGreatDoor.Br
namespace Go.Proofs.YtalmoocpebhoiaaGreatDoor.Am
open Go.RowKit Lw
def getM {κ:Type} [DecidableEq κ]:List (κ×List DC)→κ→Option (List DC)
 | [],_=>none
 | e :: r,k=>if e.1=k then some e.2 else getM r k
def putM {κ:Type} [DecidableEq κ]:List (κ×List DC)→κ→List DC→List (κ×List DC)
 | [],k,v=>[(k,v)]
 | e :: r,k,v=>if e.1=k then (k,v) :: r else e :: putM r k v
def entA:Bool→List DC→Option AV
 | true,ds=>some (.g (ds.map DC.toA))
 | false,[d]=>some (.o d.toA)
 | false,_=>none
def avRow:AV→Option (Bool×List DC)
 | .o a=>match a.toD with
  | some d=>some (false,[d])
  | none=>none
 | .g as=>match toDs as with
  | some ds=>some (true,ds)
  | none=>none
 | .t _=>none
theorem avRow_ok {w:World} {S:Nat→Prop} {ν:Nat→Value} {x:AV} {b:Bool} {ds:List DC} {u:Value} (h:avRow x=some (b,ds)) (r:x.rel w S ν u):rowRel w S b ds u:=by
 cases x with
 | o a=>
  simp only [avRow] at h
  split at h
  ·rename_i d hd;cases h;exact ⟨d,rfl,A1.toD_rel hd r⟩
  ·cases h
 | g as=>
  simp only [avRow] at h
  split at h
  ·rename_i ds' hd
   cases h
   obtain ⟨us,rfl,r⟩:=r
   exact ⟨us,rfl,toDs_rel hd r⟩
  ·cases h
 | t xs=>cases h
theorem toA_all {w:World} {S:Nat→Prop} {ν:Nat→Value}:∀ {ds:List DC} {us:List Value},All2 (DC.rel w S) ds us→All2 (A1.rel w S ν) (ds.map DC.toA) us
 | [],[],_=>trivial
 | [],_ :: _,r=>r.elim
 | _ :: _,[],r=>r.elim
 | _ :: _,_ :: _,⟨r1,r2⟩=>⟨DC.toA_rel r1,toA_all r2⟩
theorem entA_ok {w:World} {S:Nat→Prop} {ν:Nat→Value} {m:Nat} {b:Bool} {ds:List DC} {u:Value} {x:AV} (h:entA b ds=some x) (r:rowRel w S b ds u):x.rel w S ν u∧x.lt m:=by
 cases b with
 | true=>
  cases h
  obtain ⟨us,rfl,r⟩:=r
  refine ⟨⟨us,rfl,toA_all r⟩,fun a ha=>?_⟩
  obtain ⟨d,_,rfl⟩:=List.mem_map.1 ha
  exact DC.toA_lt m d
 | false=>
  obtain ⟨d,rfl,r⟩:=r
  cases h
  exact ⟨DC.toA_rel r,DC.toA_lt m d⟩
section
variable {κ:Type} [DecidableEq κ] {val:κ→Value} {w:World} {S:Nat→Prop} {agg:Bool} {d:TypeDesc}
theorem find_ent (hin:∀ a b,val a=val b→a=b) (hk:∀ a,Go.MapKept.IsKey d (val a)) (k:κ):∀ (es:List (κ×List DC)) (l:List MapEntry) (i:Nat),All2 (fun (e:κ×List DC) (x:MapEntry)=>x.key=val e.1∧rowRel w S agg e.2 x.val) es l→
  (Instr.findNow d (val k) l i=some none∧getM es k=none∧(∀ v,putM es k v=es++[(k,v)]))∨
  ∃ j row x,Instr.findNow d (val k) l i=some (some (i+j,x.val))∧l[j]? = some x∧x.key=val k∧getM es k=some row∧rowRel w S agg row x.val∧
   ∀ v u,rowRel w S agg v u→All2 (fun (e:κ×List DC) (x:MapEntry)=>x.key=val e.1∧rowRel w S agg e.2 x.val) (putM es k v) (l.modify j fun e=>{ e with key:=val k,val:=u })
 | [],[],i,_=>.inl ⟨rfl,rfl,fun _=>rfl⟩
 | [],_ :: _,_,h=>h.elim
 | _ :: _,[],_,h=>h.elim
 | e :: es,x :: l,i,⟨⟨h1,h2⟩,h3⟩=>by
  obtain ⟨r,hr,hiff⟩:=Go.MapKept.sameNow_of_keys (hk k) (show Go.MapKept.IsKey d x.key by rw [h1];exact hk _)
  cases r with
  | true=>
   have he:e.1=k:=hin _ _ (by rw [← h1];exact (hiff.1 rfl).symm)
   refine .inr ⟨0,e.2,x,by simp [Instr.findNow,hr],rfl,(hiff.1 rfl).symm,by rw [getM,if_pos he],h2,fun v u r=>?_⟩
   rw [putM,if_pos he]
   exact ⟨⟨rfl,r⟩,h3⟩
  | false=>
   have hne:e.1≠k:=fun q=>by
    have:=hiff.2 (by rw [h1,q])
    cases this
   rcases find_ent hin hk k es l (i+1) h3 with ⟨g1,g2,g3⟩ | ⟨j,row,y,g1,g2,g3,g4,g5,g6⟩
   ·refine .inl ⟨by simp [Instr.findNow,hr,g1],by rw [getM,if_neg hne];exact g2,fun v=>?_⟩
    rw [putM,if_neg hne,g3];rfl
   ·refine .inr ⟨j+1,row,y,by simp [Instr.findNow,hr,g1];omega,by simpa using g2,g3,by rw [getM,if_neg hne];exact g4,g5,fun v u r=>?_⟩
    rw [putM,if_neg hne]
    exact ⟨⟨h1,h2⟩,g6 v u r⟩
end
section
variable {F:Fence} {P:Program} {T:Tys} {X:Cx} {S:Nat→Prop} {ν:Nat→Value} {st:AS} {a:Act} {w:World} {o:Oper} {K:Nat→Bool} {Q:Exit→Act→World→Prop}
theorem m_mkMp {t:TypeId} (ob:AO) (hob:(∃ b,ob = .mp b [])∨∃ b,ob = .ms b []) (ho:o.op = .makeMap t none):StepTo P K o st (· = st.new st.hp (fun i=>.obj i ob) o.dst (.own st.nid)):=by
 refine m_obj (o':=.map #[] 0) (u:=.bool true) (fun w S=>?_) (fun _=>rfl) (fun b=>.map (some b)) (.inr ⟨fun _=>rfl,rfl⟩) fun a w S ν X sat=>?_
 ·rcases hob with ⟨b,rfl⟩ | ⟨b,rfl⟩<;>exact ⟨#[],0,rfl,trivial⟩
 ·unfold execOp
  rw [ho]
  simp [Instr.makeMap,run_newObj_alloc]
structure MpKind (κ:Type) (d:TypeDesc) where
 tell:List (κ×List DC)→AO
 val:κ→Value
 agg:Bool
 ok:∀ es w S o,(tell es).ok w S o↔entsRel val w S agg es o
 map:∀ es,isMapA (tell es)=true
 inj:∀ a b,val a=val b→a=b
 key:∀ a,Go.MapKept.IsKey d (val a)
def mpI (b:Bool):MpKind Int (.int .i64):=⟨.mp b,fun z=>.int .i64 z,b,fun _ _ _ _=>Iff.rfl,fun _=>rfl,fun a b h=>by cases h;rfl,fun _=>rfl⟩
def mpS (b:Bool):MpKind ByteArray .string:=⟨.ms b,fun z=>.string z,b,fun _ _ _ _=>Iff.rfl,fun _=>rfl,fun a b h=>by cases h;rfl,fun _=>trivial⟩
variable {κ:Type} [DecidableEq κ] {d:TypeDesc}
theorem m_mpUp (M:MpKind κ d) {t kt et:TypeId} {x k v:Operand} {id:Nat} {es:List (κ×List DC)} {key:κ} {row:List DC} {av:AV} {rest:List Chunk} (ho:o.op = .mapUpdate t x k v) (hdst:o.dst=none) (hu:P.underlying t=some (.map kt et)) (hkt:P.underlying kt=some d)
  (hx:aop st x=some (.o (.own id))) (hkey:aop st k=some (.o (.c (M.val key)))) (hv:aop st v=some av) (hrow:avRow av=some (M.agg,row)) (htk:takeObj (fun i=>!K i) st.hp id=some (M.tell es,rest)) :
  StepTo P K o st (· = ⟨st.env,.obj id (M.tell (putM es key row)) :: rest,st.nid⟩):=by
 intro X S ν a w Q K' hd sat hk
 obtain ⟨e1,e2⟩:=(aop_ok sat hx).1
 have hk1:a.eval k=M.val key:=(aop_ok sat hkey).1.1
 have hr:=avRow_ok hrow (aop_ok sat hv).1
 obtain ⟨b,o',_,h1,h2,h3,h34⟩:=obj_step (K:=K) (ob':=M.tell (putM es key row)) (av:=.o (.sb true)) (u:=.bool true) hd sat htk ((M.map _).trans (M.map _).symm) (fun _=>rfl) trivial
 obtain ⟨arr,cl,rfl,hall⟩:=(M.ok _ _ _ _).1 h3
 have hm:ν id = .map (some b):=h1 (M.map _)
 have hrun:∃ o2,(M.tell (putM es key row)).ok w S o2∧(Instr.mapUpdate t (.map (some b)) (M.val key) (a.eval v)).run P w = .ok () (w.putObj b o2):=by
  rcases find_ent M.inj M.key key es arr.toList 0 hall with ⟨g1,g2,g3⟩ | ⟨j,r0,y,g1,g2,g3,g4,g5,g6⟩
  ·refine ⟨.map (arr.push ⟨M.val key,a.eval v,cl⟩) (cl+1),(M.ok _ _ _ _).2 ⟨_,_,rfl,?_⟩,?_⟩
   ·rw [g3,Array.toList_push]
    exact hall.append ⟨⟨rfl,hr⟩,trivial⟩
   ·simp [Instr.mapUpdate,run_underlying hu,Go.MapKept.run_getObj_map h2,Go.MapKept.run_checkKey hkt (M.key key),Go.MapKept.run_findKey hkt g1,Go.MapKept.run_setObj_map _ h2,Result.andThen,World.putObj]
  ·have hj:arr[j]? = some y:=by simpa using g2
   rw [Nat.zero_add] at g1
   have hst:(Instr.keyThatStays (M.val key) (M.val key)).run P w = .ok (M.val key) w:=Go.MapKept.run_keyThatStays (M.key key)
   refine ⟨.map (arr.modify j fun e=>{ e with key:=M.val key,val:=a.eval v }) cl,(M.ok _ _ _ _).2 ⟨_,_,rfl,?_⟩,?_⟩
   ·rw [Array.toList_modify]
    exact g6 row _ hr
   ·simp [Instr.mapUpdate,run_underlying hu,Go.MapKept.run_getObj_map h2,Go.MapKept.run_checkKey hkt (M.key key),Go.MapKept.run_findKey hkt g1,hj,g3,hst,Go.MapKept.run_setObj_map _ h2,Result.andThen,World.putObj]
 obtain ⟨o2,hok2,hr2⟩:=hrun
 obtain ⟨h4,h5⟩:=h34 o2 hok2
 refine wp_skip' (w':=w.putObj b o2) hdst ?_ ?_
 ·unfold execOp
  rw [ho]
  simp [e1,hm,hk1,hr2]
 ·rw [hdst] at h4 h5
  exact hk _ S ν _ _ rfl h4 h5
theorem m_mpGet (M:MpKind κ d) {t kt et:TypeId} {x k:Operand} {id:Nat} {es:List (κ×List DC)} {key:κ} {row:List DC} {av:AV} {rest:List Chunk} (ho:o.op = .lookup t x k false) (hu:P.underlying t=some (.map kt et)) (hkt:P.underlying kt=some d)
  (hx:aop st x=some (.o (.own id))) (hkey:aop st k=some (.o (.c (M.val key)))) (htk:takeObj (fun _=>true) st.hp id=some (M.tell es,rest)) (hg:getM es key=some row) (hrow:entA M.agg row=some av) :
  StepTo P K o st (· = st.put o.dst av):=by
 intro X S ν a w Q K' hd sat hk
 obtain ⟨e1,e2⟩:=(aop_ok sat hx).1
 have hk1:a.eval k=M.val key:=(aop_ok sat hkey).1.1
 obtain ⟨hp,_⟩:=takeObj_perm htk
 obtain ⟨b,o',_,h2,h3,h1⟩:=sat.hp _ (hp.symm.subset (List.mem_cons_self ..))
 have hm:ν id = .map (some b):=h1 (M.map _)
 obtain ⟨arr,cl,rfl,hall⟩:=(M.ok _ _ _ _).1 h3
 rcases find_ent M.inj M.key key es arr.toList 0 hall with ⟨g1,g2,g3⟩ | ⟨j,r0,y,g1,g2,g3,g4,g5,g6⟩
 ·rw [g2] at hg;cases hg
 ·rw [g4] at hg;cases hg
  obtain ⟨r1,r2⟩:=entA_ok (ν:=ν) (m:=st.nid) hrow g5
  refine wp_value (w':=w) (u:=y.val) ?_ (hk _ S ν _ _ rfl (sat.put hd r1 r2) ⟨Nat.le_refl _,fun _ h=>h,fun ch hc hk=>⟨by rw [(AS.put_hp _ _ _).1];exact hc,rfl⟩,fun _ _=>rfl⟩)
  unfold execOp
  rw [ho]
  simp [Instr.lookup,e1,hm,hk1,run_underlying hu,Go.MapKept.run_getObj_map h2,Go.MapKept.run_checkKey hkt (M.key key),Go.MapKept.run_findKey hkt g1,Result.andThen]
theorem m_mpNone (hT:T.Ok P) (M:MpKind κ d) {t kt et:TypeId} {x k:Operand} {id:Nat} {es:List (κ×List DC)} {key:κ} {te:TI} {z:Value} {rest:List Chunk} (ho:o.op = .lookup t x k false) (hu:P.underlying t=some (.map kt et)) (hkt:P.underlying kt=some d)
  (hx:aop st x=some (.o (.own id))) (hkey:aop st k=some (.o (.c (M.val key)))) (htk:takeObj (fun _=>true) st.hp id=some (M.tell es,rest)) (hg:getM es key=none) (he:tlook T et=some te) (hz:te.zero=[z]) (hna:te.agg=false) :
  StepTo P K o st (· = st.put o.dst (.o (.c z))):=by
 intro X S ν a w Q K' hd sat hk
 obtain ⟨e1,e2⟩:=(aop_ok sat hx).1
 have hk1:a.eval k=M.val key:=(aop_ok sat hkey).1.1
 obtain ⟨hp,_⟩:=takeObj_perm htk
 obtain ⟨b,o',_,h2,h3,h1⟩:=sat.hp _ (hp.symm.subset (List.mem_cons_self ..))
 have hm:ν id = .map (some b):=h1 (M.map _)
 obtain ⟨arr,cl,rfl,hall⟩:=(M.ok _ _ _ _).1 h3
 rcases find_ent M.inj M.key key es arr.toList 0 hall with ⟨g1,g2,g3⟩ | ⟨j,r0,y,g1,g2,g3,g4,g5,g6⟩
 ·obtain ⟨hti,hid⟩:=hT.get he
  obtain ⟨i,zv,i1,_,_,i4,i5,i6,_,i7,_⟩:=hti.info
  rw [hid] at i1
  have hzz:zv=z∧z.oneCell' = true:=by
   have h1:=i7 hna
   rw [hz] at i5
   have:zv.cells = #[zv]:=by cases zv<;>first | rfl | cases h1
   rw [this] at i5
   cases i5
   exact ⟨rfl,h1⟩
  obtain ⟨rfl,hz1⟩:=hzz
  refine wp_value (w':=w) (u:=zv) ?_ (hk _ S ν _ _ rfl (sat.put hd (v:=.o (.c zv)) ⟨rfl,hz1⟩ trivial) ⟨Nat.le_refl _,fun _ h=>h,fun ch hc hk=>⟨by rw [(AS.put_hp _ _ _).1];exact hc,rfl⟩,fun _ _=>rfl⟩)
  unfold execOp
  rw [ho]
  simp [Instr.lookup,e1,hm,hk1,run_underlying hu,Go.MapKept.run_getObj_map h2,Go.MapKept.run_checkKey hkt (M.key key),Go.MapKept.run_findKey hkt g1,Result.andThen,zeroValue,typeInfo,i1,i4]
 ·rw [g4] at hg;cases hg
end
section
variable {P:Program} {T:Tys} {st:AS} {o:Oper} {K:Nat→Bool}
theorem m_cutOwn (hT:T.Ok P) {t e:Nat} {te:TI} {x h:Operand} {id sz E:Nat} {k:Int} {ct:Ct} {rest:List Chunk} (ho:o.op = .slice t x none (some h) none) (hu:P.underlying t=some (.slice e)) (he:tlook T e=some te) (hx:aop st x=some (.o (.own id))) (hh:optInt st ct.n (some h)=some k)
  (htk:takeOwn (fun i=>!K i) st.hp id=some (E,sz,ct,rest)) (hsz:Nat.beq sz te.size=true) (hb:0≤k∧k≤ct.n):StepTo P K o st (· = st.new rest (fun i=>.own i E sz (headC ct k.toNat)) o.dst (.own st.nid)):=by
 intro X S ν a w Q K' hd sat hk
 have hsz:=Nat.eq_of_beq_eq_true hsz
 subst hsz
 obtain ⟨⟨hx1,_⟩,_⟩:=aop_ok sat hx
 obtain ⟨hp,hK⟩:=takeOwn_perm htk
 have hm:Chunk.own id E te.size ct∈st.hp:=hp.symm.subset (List.mem_cons_self ..)
 obtain ⟨xs,h1,h2⟩:=sat.hp _ hm
 have hb0:k.toNat*te.size≤ct.n*te.size:=Nat.mul_le_mul_right _ (by omega)
 obtain ⟨hxl,hor⟩:=h1
 obtain ⟨A,c,hv,hc1,hnl⟩:∃ A c,ν id = .slice A ct.n c∧ct.n≤c∧(A=none→ct.n=0∧c=0):=by
  rcases hor with ⟨e1,e2⟩ | ⟨g,cap,cur,e1,_,hg,hnc,hcm,hcs,htake⟩
  ·exact ⟨none,0,by rw [e1,e2],by omega,fun _=>⟨e2,rfl⟩⟩
  ·exact ⟨_,_,e1,hnc,fun h=>nomatch h⟩
 have hown:w.ownsRow 0 E te.size (.slice A k.toNat c) k.toNat (xs.take (k.toNat*te.size)):=by
  refine ⟨by rw [List.length_take,hxl];omega,?_⟩
  rcases hor with ⟨e1,e2⟩ | ⟨g,cap,cur,e1,e0,hg,hnc,hcm,hcs,htake⟩
  ·rw [hv] at e1
   injection e1 with e3 _ e4
   subst e3 e4
   exact .inl ⟨by rw [show k.toNat=0 by omega],by omega⟩
  ·rw [hv] at e1
   cases e1
   exact .inr ⟨g,_,cur,rfl,e0,hg,by omega,hcm,hcs,by rw [← htake,List.take_take,Nat.min_eq_left hb0]⟩
 have hK3:∀ ch∈[Chunk.own id E te.size ct],K ch.id=false:=fun ch hc=>by
  rw [List.mem_singleton.1 hc]
  have hK2:K id=false:=by simpa using hK
  exact hK2
 refine wp_value (w':=w) (u:=.slice A k.toNat c) ?_ (own_step (K:=K) (takes:=[.own id E te.size ct]) (w':=w) hd sat hp hK3 (Fr.refl _ _) hown (ct:=headC ct k.toNat) rfl (fun b hb=>?_) (fun i j hi hj=>?_) hk)
 ·have hr:=run_slice_gen (a:=a) hT hu he (A:=A) (n:=ct.n) (c:=c) (lo:=none) (hi:=some h) (mx:=none) (l:=0) (h:=k) (m:=c) (.inl ⟨rfl,rfl⟩) (optInt_ok sat hh) (.inl ⟨rfl,rfl⟩) rfl (by omega) w
  rw [exec_slice ho,hx1,hv]
  simp only [Sem.run_bind,hr,Result.andThen_ok,Sem.run_pure,Int.toNat_natCast,Int.toNat_zero,Nat.sub_zero,Nat.zero_mul]
  cases A with
  | none=>simp
  | some g=>simp [add_none',Addr.add]
 ·refine .inl ?_
  have h3:(Chunk.own id E te.size ct).blk ν=some b:=by
   show (ν id).ownBlock=some b
   rw [hv]
   cases A<;>exact hb
  exact mem_blks.2 ⟨_,List.mem_singleton.2 rfl,h3⟩
 ·have hi:i<k.toNat:=hi
  have hb2:(i+1)*te.size≤k.toNat*te.size:=Nat.mul_le_mul_right _ hi
  rw [Nat.add_mul,Nat.one_mul] at hb2
  obtain ⟨u,u1,u2⟩:=h2 i j (by omega) hj
  exact ⟨u,by rw [List.getElem?_take,if_pos (by omega)];exact u1,u2⟩
theorem m_nilO {x:Operand} {id sz k off:Nat} (ho:o.op = .nilCheck x) (hx:aop st x=some (.o (.optr id sz k off))):StepTo P K o st (· = st.put o.dst (.o (.optr id sz k off))):=by
 intro X S ν a w Q K' hd sat hk
 obtain ⟨r,l⟩:=aop_ok sat hx
 obtain ⟨g,n,cp,h1,h2⟩:=r
 refine wp_value (w':=w) (u:=a.eval x) ?_ (hk _ S ν _ _ rfl (sat.put hd (v:=.o (.optr id sz k off)) ⟨g,n,cp,h1,h2⟩ l) ⟨Nat.le_refl _,fun _ h=>h,fun ch hc hk=>⟨by rw [(AS.put_hp _ _ _).1];exact hc,rfl⟩,fun _ _=>rfl⟩)
 unfold execOp
 rw [ho]
 simp [h2]
def setNs:List A1→Nat→List A1→Option (List A1)
 | z,_,[]=>some z
 | z,off,a :: as=>match setN z off a with
  | some z'=>setNs z' (off+1) as
  | none=>none
def setLV:List Value→Nat→List Value→List Value
 | us,_,[]=>us
 | us,off,v :: vs=>setLV (us.set off v) (off+1) vs
theorem setNs_ok {w:World} {S:Nat→Prop} {ν:Nat→Value} {m:Nat}:∀ {as:List A1} {z z' : List A1} {us vs:List Value} {off:Nat},setNs z off as=some z'→All2 (A1.rel w S ν) z us→All2 (A1.rel w S ν) as vs→(∀ x∈z,x.lt m)→(∀ x∈as,x.lt m)→All2 (A1.rel w S ν) z' (setLV us off vs)∧(∀ x∈z',x.lt m)∧(as≠[]→off+as.length≤z.length)
 | [],z,z',us,[],off,h,hz,hv,h1,h2=>by cases h;exact ⟨hz,h1,fun h=>absurd rfl h⟩
 | a :: as,z,z',us,v :: vs,off,h,hz,⟨hv1,hv2⟩,h1,h2=>by
  rw [setNs] at h
  split at h
  ·rename_i z1 hz1
   obtain ⟨rfl,hlt⟩:=setN_eq hz1
   obtain ⟨k1,k2,k3⟩:=setNs_ok h (hz.set hv1) hv2 (fun y hy=>by
    rcases List.mem_or_eq_of_mem_set hy with hy | rfl
    ·exact h1 y hy
    ·exact h2 _ (List.mem_cons_self ..)) fun y hy=>h2 y (List.mem_cons_of_mem _ hy)
   refine ⟨k1,k2,fun _=>?_⟩
   rw [List.length_cons]
   by_cases e:as=[]
   ·subst e;rw [List.length_nil];omega
   ·have:=k3 e
    rw [List.length_set] at this
    omega
  ·cases h
 | [],_,_,_,_ :: _,_,_,_,hv,_,_=>hv.elim
 | _ :: _,_,_,_,[],_,_,_,hv,_,_=>hv.elim
theorem fold_set (off:Nat):∀ (vs us:List Value) (s:Nat),(vs.zipIdx s).foldl (fun (cs:Array Value) (p:Value×Nat)=>cs.setIfInBounds (off+p.2) p.1) us.toArray=(setLV us (off+s) vs).toArray
 | [],us,s=>rfl
 | v :: vs,us,s=>by
  rw [List.zipIdx_cons,List.foldl_cons,setLV]
  have:us.toArray.setIfInBounds (off+s) v=(us.set (off+s) v).toArray:=by simp
  rw [this,fold_set off vs _ (s+1)]
  rfl
def fieldN:List A1→List (Nat×Nat×Nat)→List (Nat×AV)→Option (List A1)
 | z,_,[]=>some z
 | z,fs,(i,v) :: r=>match field? fs i,v with
  | some (_,off,1),.o a=>match setN z off a with
   | some z'=>fieldN z' fs r
   | none=>none
  | some (_,off,n),.g as=>match Nat.beq as.length n,as,setNs z off as with
   | true,_ :: _,some z'=>fieldN z' fs r
   | _,_,_=>none
  | _,_=>none
theorem fieldN_ok {w:World} {S:Nat→Prop} {ν:Nat→Value}:∀ {ps:List (Nat×AV)} {z r:List A1} {fs:List (Nat×Nat×Nat)} {us:List Value} {vs:List (Nat×Value)} {places:Nat→Option (Nat×Nat)} {m:Nat},fieldN z fs ps=some r→All2 (A1.rel w S ν) z us→(∀ x∈z,x.lt m)→All2 (fun (p:Nat×AV) (v:Nat×Value)=>p.1=v.1∧p.2.rel w S ν v.2∧p.2.lt m) ps vs→
  (∀ i p,field? fs i=some p→places i=some (p.2.1,p.2.2))→∃ us',Instr.fill places us.toArray vs=some us'.toArray∧All2 (A1.rel w S ν) r us'∧∀ x∈r,x.lt m
 | [],z,r,fs,us,vs,places,m,h,hz,hm,hv,hp=>by
  cases vs with
  | nil=>cases h;exact ⟨us,rfl,hz,hm⟩
  | cons v vs=>exact hv.elim
 | (i,v) :: q,z,r,fs,us,vs,places,m,h,hz,hm,hv,hp=>by
  cases vs with
  | nil=>exact hv.elim
  | cons v' vs=>
   obtain ⟨⟨e1,e2,e3⟩,hv⟩:=hv
   have hlen:=hz.length
   obtain ⟨i',u'⟩:=v'
   have e1:i=i':=e1
   subst e1
   simp only [fieldN] at h
   split at h
   ·rename_i t off x hf
    split at h
    ·rename_i z' hz'
     obtain ⟨rfl,hlt⟩:=setN_eq hz'
     have hp1:=hp _ _ hf
     have e2:x.rel w S ν u':=e2
     have hone:=A1.one e2
     have hcells:u'.cells = #[u']:=by cases hq:u' <;> first | rfl | (rw [hq] at hone;cases hone)
     have hz2:All2 (A1.rel w S ν) (z.set off x) (us.set off u'):=hz.set e2
     obtain ⟨us',h1,h2,h3⟩:=fieldN_ok (ps:=q) (places:=places) h hz2 (fun y hy=>by
      rcases List.mem_or_eq_of_mem_set hy with hy | rfl
      ·exact hm y hy
      ·exact e3) hv hp
     refine ⟨us',?_,h2,h3⟩
     simp only [Instr.fill,hp1]
     rw [hcells]
     have:off<us.length:=by rw [← hlen];exact hlt
     rw [if_neg (by simp;omega)]
     simpa using h1
    ·cases h
   ·rename_i t off n as hf
    split at h
    ·rename_i a as' z' hb hz'
     have hb:=Nat.eq_of_beq_eq_true hb
     have hp1:=hp _ _ hf
     obtain ⟨vs2,rfl,hr⟩:=e2
     obtain ⟨k1,k2,k3⟩:=setNs_ok hz' hz hr hm e3
     have k3:=k3 (by simp)
     have hl2:=hr.length
     obtain ⟨us',h1,h2,h3⟩:=fieldN_ok (ps:=q) (places:=places) h k1 k2 hv hp
     refine ⟨us',?_,h2,h3⟩
     simp only [Instr.fill,hp1]
     have hcells:(Value.agg vs2.toArray).cells=vs2.toArray:=rfl
     rw [hcells]
     have hsz:vs2.toArray.size=vs2.length:=by simp
     have hus:us.toArray.size=us.length:=by simp
     rw [if_neg (by rw [hsz,hus];simp;omega)]
     have hfold:=fold_set off vs2 us 0
     have e5:vs2.toArray.zipIdx.foldl (fun (cs:Array Value) (p:Value×Nat)=>cs.setIfInBounds (off+p.2) p.1) us.toArray=(setLV us off vs2).toArray:=by
      rw [← Array.foldl_toList]
      simpa using hfold
     show Instr.fill places (vs2.toArray.zipIdx.foldl (fun (cs:Array Value) (p:Value×Nat)=>cs.setIfInBounds (off+p.2) p.1) us.toArray) vs=_
     rw [e5]
     exact h1
    ·cases h
   ·cases h
theorem run_buildN {w:World} {S:Nat→Prop} {ν:Nat→Value} (hT:T.Ok P) {s zi z1 z2:Nat} {fs:List (Nat×Nat×Nat)} {z3:List Value} {z4:Bool} (ht:tlook T s=some ⟨zi,.struct fs,z1,z2,z3,z4⟩) {zs:List A1} (hz:cellsC z3=some zs) {ps:List (Nat×AV)} {r:List A1} (hr:fieldN zs fs ps=some r)
  {vs:List (Nat×Value)} {m:Nat} (hv:All2 (fun (p:Nat×AV) (v:Nat×Value)=>p.1=v.1∧p.2.rel w S ν v.2∧p.2.lt m) ps vs) :
  ∃ us,All2 (A1.rel w S ν) r us∧(∀ x∈r,x.lt m)∧∀ w' : World,(Instr.build s vs.toArray).run P w' = .ok (.agg us.toArray) w':=by
 obtain ⟨arr,hu,h1,h2⟩:=und_struct hT ht
 obtain ⟨i,z,e1,e2,e3,e4,e5,_⟩:=(hT.get ht).1.info
 have hid:=(hT.get ht).2
 rw [hid] at e1
 have e5:z.cells.toList=z3:=e5
 obtain ⟨c1,c2⟩:=cellsC_ok (w:=w) (S:=S) (ν:=ν) hz
 have hpl:=places_of h1 h2
 obtain ⟨us',f1,f2,f3⟩:=fieldN_ok (places:=fun x=>((fs.map fun p=>(p.2.1,p.2.2)).toArray)[x]?) hr c1 (c2 m) hv (fun i p hp=>by rw [field?_eq] at hp;simp [hp])
 refine ⟨us',f2,f3,fun w'=>run_build w' s _ _ ?_⟩
 unfold Program.built
 simp only [e1,hu,e4,hpl]
 rw [← e5] at f1
 simpa using f1
theorem m_buildN (hT:T.Ok P) {s zi z1 z2:Nat} {fs:List (Nat×Nat×Nat)} {z3:List Value} {z4:Bool} {parts:Array (Nat×Operand)} (ho:o.op = .build s parts) (ht:tlook T s=some ⟨zi,.struct fs,z1,z2,z3,z4⟩) {zs r:List A1} {qs:List (Nat×AV)} (hz:cellsC z3=some zs) (hq:partsOf st parts.toList=some qs) (hr:fieldN zs fs qs=some r):StepTo P K o st (· = st.put o.dst (.g r)):=by
 intro X S ν a w Q K' hd sat hk
 obtain ⟨us,h1,h2,h3⟩:=run_buildN (w:=w) hT ht hz hr (partsOf_ok sat hq)
 refine wp_value (w':=w) (u:=.agg us.toArray) ?_ (hk _ S ν _ _ rfl (sat.put hd (v:=.g r) ⟨us,rfl,h1⟩ h2) ⟨Nat.le_refl _,fun _ h=>h,fun ch hc hk=>⟨by rw [(AS.put_hp _ _ _).1];exact hc,rfl⟩,fun _ _=>rfl⟩)
 have:=h3 w
 rw [← List.map_toArray] at this
 have h4:(Instr.build s (parts.map fun x=>(x.1,a.eval x.2))).run P w = .ok (.agg us.toArray) w:=by simpa using this
 unfold execOp
 rw [ho]
 simp [h4,Result.andThen]
theorem TE.midG {F:Fence} {X:Cx} {Q:Exit→Act→World→Prop} {ι:Type} (pre:ι→Prop) (es:ι→Env) (ids:List Nat) (hs:ι→List Chunk) {c:Code} {E0:Env} {H0:List Chunk} {n0:Nat}
  (hE:st.force (fun s=>forceE (dropE (dsts c) s.env) fun e=>forceH (dropH ids s.hp) fun h=>AS.mk e h s.nid)=⟨E0,H0,n0⟩)
  (h1:TE X (c.wpIn F 0 P (Exit.then (At X pre (fun x=>⟨appE (es x) E0,appH (hs x) H0,n0⟩)) Q)) st) (h2:∀ x,pre x→TE X (Q .normal) ⟨appE (es x) E0,appH (hs x) H0,n0⟩):TE X (c.wpIn F 0 P Q) st:=
 TE.mid pre _ h1 h2
end
end Go.Proofs.YtalmoocpebhoiaaGreatDoor.Am
namespace Go.Proofs.YtalmoocpebhoiaaGreatDoor.Br
open At
theorem above_lo {l:List Nd} {q:Nat} {d:Int} (hq:q<l.length) (h:(l.getD q n0).depth<d):aboveR d (l.take (q+1)).reverse=q:=by
 rw [take_rev hq,aboveR,if_pos h,List.length_reverse,List.length_take]
 congr 1
 omega
theorem above_hi {l:List Nd} {q:Nat} {d:Int} (hq:q<l.length) (h:d≤(l.getD q n0).depth):aboveR d (l.take (q+1)).reverse=aboveR d (l.take q).reverse:=by
 rw [take_rev hq,aboveR,if_neg (by omega)]
theorem upP_above {l:List Nd} {d:Int}:∀ {q:Nat},q≤l.length→0≤aboveR d (l.take q).reverse→upP d (l.take q).reverse=pathI l (aboveR d (l.take q).reverse).toNat
 | 0,_,h=>absurd h (by simp [aboveR])
 | q+1,hq,h=>by
  by_cases e:(l.getD q n0).depth<d
  ·rw [above_lo (by omega) e]
   rw [take_rev (by omega),upP,if_pos e]
   rfl
  ·rw [above_hi (by omega) (by omega)] at h⊢
   rw [take_rev (by omega),upP,if_neg e]
   exact upP_above (by omega) h
theorem path_up {l:List Nd} {i:Nat} (h0:0<i) (hi:i<l.length) (h:0≤aboveI l i):pathI l i=pathI l (aboveI l i).toNat++[(l.getD i n0).name]:=by
 have hne:(l.take i).reverse≠[]:=by
  intro e
  have:=congrArg List.length e
  rw [List.length_reverse,List.length_take,List.length_nil] at this
  omega
 have h1:pathI l i=upP (l.getD i n0).depth (l.take i).reverse++[(l.getD i n0).name]:=if_neg hne
 rw [h1,upP_above (by omega) h]
 rfl
theorem above_pos {l:List Nd} (h:Tok l) {i:Nat} (h0:0<i) (hi:i<l.length):0≤aboveI l i∧aboveI l i<i:=by
 have h1:=tok_shp h (i+1) hi
 have hl:=above_lt (d:=(l.getD i n0).depth) (l.take i).reverse
 rw [List.length_reverse,List.length_take] at hl
 refine ⟨?_,by unfold aboveI;omega⟩
 unfold aboveI
 rw [take_rev hi] at h1
 obtain ⟨j,rfl⟩:∃ j,i=j+1:=⟨i - 1,by omega⟩
 rw [take_rev (by omega)] at h1⊢
 rw [above_stk h1.2.2 h1.1 h1.2.1]
 omega
end Go.Proofs.YtalmoocpebhoiaaGreatDoor.Br
namespace Go.Proofs.YtalmoocpebhoiaaGreatDoor.Am
open Go.RowKit Lw
section
variable {P:Program} {K:Nat→Bool} {o:Oper} {st:AS}
theorem m_shlI {t t' : TypeId} {x y:Operand} {z s:Int} {k:IntKind} (ho:o.op = .binOp .shl t x y t') (hx:aop st x=some (.o (.c (.int .i64 z)))) (hy:aop st y=some (.o (.c (.int k s)))) (hs:0≤s∧s≤64) (hz : -9223372036854775808≤z*2 ^ s.toNat∧z*2 ^ s.toNat≤9223372036854775807):StepTo P K o st (· = st.put o.dst (.o (.c (.int .i64 (z*2 ^ s.toNat))))):=by
 intro X S ν a w Q K' hdst sat hk
 have e1:a.eval x = .int .i64 z:=(aop_ok sat hx).1.1
 have e2:a.eval y = .int k s:=(aop_ok sat hy).1.1
 refine wp_value (w':=w) (u:=.int .i64 (z*2 ^ s.toNat)) ?_ (hk _ S ν _ _ rfl (sat.put hdst (v:=.o (.c (.int .i64 (z*2 ^ s.toNat)))) ⟨rfl,rfl⟩ trivial) ⟨Nat.le_refl _,fun _ h=>h,fun ch hc hk=>⟨by rw [(AS.put_hp _ _ _).1];exact hc,rfl⟩,fun _ _=>rfl⟩)
 rw [exec_binOp ho,Sem.run_bind,Sem.run_bind,e1,e2,show (eqGuard .shl t x y (.int .i64 z) (.int k s)).run P w = .ok () w from rfl,Result.andThen_ok]
 have hb:(binOp .shl t (.int .i64 z) (.int k s)).run P w = .ok (.int .i64 (z*2 ^ s.toNat)) w:=by
  show (Op.shift .shl .i64 z k s).run P w=_
  simp only [Op.shift,if_neg (show ¬ s<0 by omega),Sem.run_pure]
  rw [show IntKind.i64.bits=64 from rfl,Nat.min_eq_left (show s.toNat≤64 by omega),wrap_i64 hz]
 rw [hb];rfl
theorem m_orI {t t' : TypeId} {x y:Operand} {z d:Int} (ho:o.op = .binOp .or t x y t') (hx:aop st x=some (.o (.c (.int .i64 z)))) (hy:aop st y=some (.o (.c (.int .i64 d)))) (hz:0≤z∧z<9223372036854775808) (hd:0≤d∧d<9223372036854775808):StepTo P K o st (· = st.put o.dst (.o (.c (.int .i64 ((z.toNat ||| d.toNat:Nat):Int))))):=by
 intro X S ν a w Q K' hdst sat hk
 have e1:a.eval x = .int .i64 z:=(aop_ok sat hx).1.1
 have e2:a.eval y = .int .i64 d:=(aop_ok sat hy).1.1
 refine wp_value (w':=w) (u:=.int .i64 ((z.toNat ||| d.toNat:Nat):Int)) ?_ (hk _ S ν _ _ rfl (sat.put hdst (v:=.o (.c (.int .i64 ((z.toNat ||| d.toNat:Nat):Int)))) ⟨rfl,rfl⟩ trivial) ⟨Nat.le_refl _,fun _ h=>h,fun ch hc hk=>⟨by rw [(AS.put_hp _ _ _).1];exact hc,rfl⟩,fun _ _=>rfl⟩)
 rw [exec_binOp ho,Sem.run_bind,Sem.run_bind,e1,e2,show (eqGuard .or t x y (.int .i64 z) (.int .i64 d)).run P w = .ok () w from rfl,Result.andThen_ok]
 have hb:(binOp .or t (.int .i64 z) (.int .i64 d)).run P w = .ok (.int .i64 ((z.toNat ||| d.toNat:Nat):Int)) w:=by
  show (Op.intBits .or .i64 z d).run P w=_
  simp only [Op.intBits,Sem.run_pure]
  have h1:(BitVec.ofInt 64 z).toNat=z.toNat:=by
   rw [BitVec.toNat_ofInt];omega
  have h2:(BitVec.ofInt 64 d).toNat=d.toNat:=by
   rw [BitVec.toNat_ofInt];omega
  have h3:z.toNat ||| d.toNat<2 ^ 63:=Nat.or_lt_two_pow (by omega) (by omega)
  show Result.ok (Value.int .i64 (IntKind.i64.wrap ((BitVec.ofInt 64 z ||| BitVec.ofInt 64 d).toNat:Nat))) w=_
  rw [BitVec.toNat_or,h1,h2,wrap_i64 (by omega)]
 rw [hb];rfl
end
def jumpF (J:Nat→Act→World→Prop) (Q:Exit→Act→World→Prop):Exit→Act→World→Prop
 | .goto l,a,w=>J l a w
 | e,a,w=>Q e a w
theorem wp_scope_fam {P:Program} {a:Act} {w:World} {Q:Exit→Act→World→Prop} {ι:Type} {c:Code} (rest:ι→Code) (lab:ι→Nat) (J:ι→Act→World→Prop) (μ:ι→Nat) (hf:∀ x,findLabel c (lab x)=some (rest x))
  (first:c.wp P (jumpF (fun l a w=>∃ x,lab x=l∧J x a w) Q) a w)
  (pass:∀ x a w,J x a w→(rest x).wp P (jumpF (fun l a' w'=>∃ y,lab y=l∧J y a' w'∧μ y<μ x) Q) a w):(Code.scope c).wp P Q a w:=by
 intro b k cs
 have hg:∀ x,gotoIn (lab x) (.inScope c :: k)=some (.code (rest x) :: .inScope c :: k):=fun x=>by simp [gotoIn,hf x]
 have key:∀ n x a w,μ x=n→J x a w→∃ e a' w',Q e a' w'∧Arrives P (lone (b.at a (.code (rest x) :: .inScope c :: k)) cs w) b k cs e a' w':=by
  intro n
  induction n using Nat.strongRecOn with
  | _ n ih=>
   intro x a w hn hJ
   obtain ⟨e,a₁,w₁,hq,harr⟩:=pass x a w hJ b (.inScope c :: k) cs
   cases e with
   | normal=>exact ⟨.normal,a₁,w₁,hq,Steps.trans harr (.one step_inScope)⟩
   | exit id=>exact ⟨.exit id,a₁,w₁,hq,fun k' hk=>harr k' (by simp [exitTo,hk])⟩
   | goto l'=>
    obtain ⟨y,rfl,hJ',hlt⟩:=hq
    obtain ⟨e₂,a₂,w₂,hq₂,harr₂⟩:=ih _ (by omega) y a₁ w₁ rfl hJ'
    exact ⟨e₂,a₂,w₂,hq₂,.of_steps (harr _ (hg y)) harr₂⟩
   | ret=>exact ⟨_,a₁,w₁,hq,harr⟩
   | panic ch=>exact ⟨_,a₁,w₁,hq,harr⟩
   | outgrown=>exact ⟨_,a₁,w₁,hq,harr⟩
 obtain ⟨e,a₁,w₁,hq,harr⟩:=first b (.inScope c :: k) cs
 cases e with
 | normal=>exact ⟨.normal,a₁,w₁,hq,.head step_scope (Steps.trans harr (.one step_inScope))⟩
 | exit id=>exact ⟨.exit id,a₁,w₁,hq,fun k' hk=>.head step_scope (harr k' (by simp [exitTo,hk]))⟩
 | goto l'=>
  obtain ⟨y,rfl,hJ'⟩:=hq
  obtain ⟨e₂,a₂,w₂,hq₂,harr₂⟩:=key _ y a₁ w₁ rfl hJ'
  exact ⟨e₂,a₂,w₂,hq₂,.of_steps (.head step_scope (harr _ (hg y))) harr₂⟩
 | ret=>exact ⟨_,a₁,w₁,hq,.of_steps (.one step_scope) harr⟩
 | panic ch=>exact ⟨_,a₁,w₁,hq,.of_steps (.one step_scope) harr⟩
 | outgrown=>exact ⟨_,a₁,w₁,hq,.of_steps (.one step_scope) harr⟩
section
variable {P:Program} {X:Cx} {st:AS} {Q:Exit→Act→World→Prop}
theorem TE.scopeF {ι:Type} (rest:ι→Code) (lab:ι→Nat) (pre:ι→Prop) (inv:ι→AS) (μ:ι→Nat) {c:Code} (hf:∀ x,findLabel c (lab x)=some (rest x))
  (first:TE X (c.wpIn Fence.wide 0 P (jumpF (fun l=>At X (fun x=>lab x=l∧pre x) inv) Q)) st)
  (pass:∀ x,pre x→TE X ((rest x).wpIn Fence.wide 0 P (jumpF (fun l=>At X (fun y=>lab y=l∧pre y∧μ y<μ x) inv) Q)) (inv x)):TE X ((Code.scope c).wpIn Fence.wide 0 P Q) st:=by
 intro S ν a w sat
 refine wpIn_wide.2 (wp_scope_fam rest lab (fun x a w=>At X (fun y=>y=x∧pre x) inv a w) μ hf ?_ ?_)
 ·refine Code.wp_mono (fun e a' w' q=>?_) (wpIn_wide.1 (first S ν a w sat))
  cases e with
  | goto l'=>
   obtain ⟨y,S',ν',⟨h1,h2⟩,hs⟩:=q
   exact ⟨y,h1,y,S',ν',⟨rfl,h2⟩,hs⟩
  | _=>exact q
 ·rintro x a w ⟨y,S',ν',⟨rfl,hy⟩,hs⟩
  refine Code.wp_mono (fun e a' w' q=>?_) (wpIn_wide.1 (pass y hy S' ν' a w hs))
  cases e with
  | goto l'=>
   obtain ⟨z,S',ν',⟨h1,h2,h3⟩,hs⟩:=q
   exact ⟨z,h1,⟨z,S',ν',⟨rfl,h2⟩,hs⟩,h3⟩
  | _=>exact q
def labS {α β:Type} (l1 l2:Nat):Sum α β→Nat
 | .inl _=>l1
 | .inr _=>l2
theorem TE.scope2 {α β:Type} (l1 l2:Nat) (pre:Sum α β→Prop) (inv:Sum α β→AS) (μ:Sum α β→Nat) {c r1 r2:Code} (h1:findLabel c l1=some r1) (h2:findLabel c l2=some r2)
  (first:TE X (c.wpIn Fence.wide 0 P (jumpF (fun l=>At X (fun x=>labS l1 l2 x=l∧pre x) inv) Q)) st)
  (pass1:∀ x,pre (.inl x)→TE X (r1.wpIn Fence.wide 0 P (jumpF (fun l=>At X (fun y=>labS l1 l2 y=l∧pre y∧μ y<μ (.inl x)) inv) Q)) (inv (.inl x)))
  (pass2:∀ x,pre (.inr x)→TE X (r2.wpIn Fence.wide 0 P (jumpF (fun l=>At X (fun y=>labS l1 l2 y=l∧pre y∧μ y<μ (.inr x)) inv) Q)) (inv (.inr x))):TE X ((Code.scope c).wpIn Fence.wide 0 P Q) st:=by
 refine TE.scopeF (fun x=>match x with | .inl _=>r1 | .inr _=>r2) (labS l1 l2) pre inv μ ?_ first ?_
 ·rintro (x | x)
  ·exact h1
  ·exact h2
 ·rintro (x | x) h
  ·exact pass1 x h
  ·exact pass2 x h
theorem TE.scope2' {α β:Type} (l1 l2:Nat) (pre:Sum α β→Prop) (inv:Sum α β→AS) (μ:Sum α β→Nat) {c r1 r2:Code} (h1:findLabel c l1=some (.seq .skip r1)) (h2:findLabel c l2=some (.seq .skip r2))
  (first:(∀ x,pre (.inl x)→TE X (r1.wpIn Fence.wide 0 P (jumpF (fun l=>At X (fun x=>labS l1 l2 x=l∧pre x) inv) Q)) (inv (.inl x)))→TE X (c.wpIn Fence.wide 0 P (jumpF (fun l=>At X (fun x=>labS l1 l2 x=l∧pre x) inv) Q)) st)
  (pass1:∀ x,pre (.inl x)→(∀ y,pre (.inr y)→μ (.inr y)<μ (.inl x)→TE X (r2.wpIn Fence.wide 0 P (jumpF (fun l=>At X (fun z=>labS l1 l2 z=l∧pre z∧μ z<μ (.inl x)) inv) Q)) (inv (.inr y)))→TE X (r1.wpIn Fence.wide 0 P (jumpF (fun l=>At X (fun y=>labS l1 l2 y=l∧pre y∧μ y<μ (.inl x)) inv) Q)) (inv (.inl x)))
  (pass2:∀ x,pre (.inr x)→TE X (r2.wpIn Fence.wide 0 P (jumpF (fun l=>At X (fun y=>labS l1 l2 y=l∧pre y∧μ y<μ (.inr x)) inv) Q)) (inv (.inr x))):TE X ((Code.scope c).wpIn Fence.wide 0 P Q) st:=by
 have p1:∀ x,pre (.inl x)→TE X (r1.wpIn Fence.wide 0 P (jumpF (fun l=>At X (fun y=>labS l1 l2 y=l∧pre y∧μ y<μ (.inl x)) inv) Q)) (inv (.inl x)):=fun x hx=>pass1 x hx fun y hy hm S ν a w sat=>Code.wpIn_mono (fun e a' w' q=>by
  cases e with
  | goto l'=>
   obtain ⟨z,S',ν',⟨g1,g2,g3⟩,hs⟩:=q
   exact ⟨z,S',ν',⟨g1,g2,Nat.lt_trans g3 hm⟩,hs⟩
  | _=>exact q) (pass2 y hy S ν a w sat)
 refine TE.scope2 l1 l2 pre inv μ h1 h2 (first fun x hx S ν a w sat=>Code.wpIn_mono (fun e a' w' q=>?_) (p1 x hx S ν a w sat)) (fun x hx=>TE.seq (TE.skip (TE.thenN (p1 x hx)))) (fun x hx=>TE.seq (TE.skip (TE.thenN (pass2 x hx))))
 cases e with
 | goto l'=>
  obtain ⟨z,S',ν',⟨g1,g2,g3⟩,hs⟩:=q
  exact ⟨z,S',ν',⟨g1,g2⟩,hs⟩
 | _=>exact q
variable {J:Nat→Act→World→Prop} {l:Nat}
theorem TE.jfR (h:TE X (Q .ret) st):TE X (jumpF J Q .ret) st:=h
theorem TE.jfG (h:TE X (J l) st):TE X (jumpF J Q (.goto l)) st:=h
end
section
variable {F:Fence} {P:Program} {T:Tys} {X Y:Cx} {st:AS} {R:Act→World→Prop} {S S1:Nat→Prop} {ν:Nat→Value} {a:Act} {w:World}
theorem con_of0 {N : Nat} {ι : Type} {f : FuncId} {args : List AV} {takes : List Chunk} {m M : Nat} {pre : ι → Prop} {res : ι → AV} {gives : ι → List Chunk} {fn : Func} {c : Code} (hf : P.funcs[f]? = some fn) (hb : fn.body = some c) (hn : (fn.name == "runtime.NumGoroutine") = false)
  (hN:fn.ntmps=N) (hwf:(AS.mk (env0 0 args) takes m).wf N=true) (hle:m≤M) (wf:∀ x,(res x).ltB M=true∧allB (Chunk.ltB M) (gives x)=true)
  (h:∀ w S ν,TE ⟨N,w,fun b=>b∈blks ν takes,S,ν,m,false⟩ (c.wpIn Fence.wide 0 P (postR P fn (RetR ⟨N,w,fun b=>b∈blks ν takes,S,ν,m,false⟩ takes pre res gives))) ⟨env0 0 args,takes,m⟩) :
  Con P f args takes m M pre res gives:=by
 subst hN
 obtain ⟨wf1,wf2⟩:=AS.wf_ok hwf
 refine ⟨⟨fn,hf,hn,by rw [hb];rfl⟩,?_,hle,wf,fun w S ν vs ha ht hnd hbl hS=>?_⟩
 ·simp only [AS.wf] at hwf
  split at hwf
  ·exact hwf
  ·cases hwf
 ·refine callsIn_wide.1 (callsIn_of_wp_marks (F:=Fence.wide) (n:=0) hf hb trivial (Code.wpIn_mono (fun _ _ _ h=>postR_M h) (h w S ν S ν _ w ?_)))
  have hl:=ha.length
  have hsz:args.length≤fn.ntmps:=by
   rcases Nat.eq_zero_or_pos args.length with h0 | h0
   ·omega
   ·have hlast:∀ {vs:List AV} {i k:Nat} {v:AV},vs[k]? = some v→(i+k,v)∈env0 i vs:=by
     intro vs
     induction vs with
     | nil=>intro i k v h;simp at h
     | cons x vs ih=>
      intro i k v h
      rw [env0_cons]
      cases k with
      | zero=>cases h;exact List.mem_cons_self ..
      | succ k=>have:=ih (i:=i+1) (k:=k) (by simpa using h);rw [show i+(k+1)=i+1+k by omega];exact List.mem_cons_of_mem _ this
    have h1:args[args.length - 1]? = some (args[args.length - 1]'(by omega)):=List.getElem?_eq_getElem _
    have:=(wf1 _ (hlast (i:=0) h1)).1
    simp at this;omega
  refine ⟨⟨(fun d hd=>nomatch hd),List.nodup_nil,fun _=>rfl⟩,by simp;omega,fun p hp=>⟨(wf1 p hp).1,?_⟩,ht,hnd,fun b hb'=>⟨(hbl b hb').1,(hbl b hb').2,.inr hb'⟩,fun b hb'=>⟨hS b hb',.inl hb'⟩,fun b hb'=>hb',Fr.refl _ _,fun p hp=>(wf1 p hp).2,wf2,fun _ _=>rfl,Nat.le_refl _⟩
  obtain ⟨k,h1,h2⟩:=env0_mem hp
  obtain ⟨u,h3,h4⟩:=ha.get h2
  have hk:k<vs.length:=(List.getElem?_eq_some_iff.1 h3).1
  have:(vs.toArray++Array.replicate (fn.ntmps - vs.toArray.size) undef).getD p.1 undef=u:=by
   rw [h1,Nat.zero_add]
   have h5:vs[k]=u:=by rw [List.getElem?_eq_getElem hk] at h3;exact Option.some.inj h3
   simp [Array.getElem?_append,hk,h5]
  show p.2.rel w S ν ((vs.toArray++Array.replicate (fn.ntmps - vs.toArray.size) undef).getD p.1 undef)
  rw [this];exact h4
structure Lent (X Y:Cx) (E sz:Nat) (ct:Ct) (v:Value) (S1:Nat→Prop) (g:Nat):Prop where
 N:Y.N=X.N
 m:Y.m=X.m
 k1:X.mks=false
 k2:Y.mks=false
 S0:∀ b,Y.S0 b↔(S1 b∨b=g)
 fix:∀ i,i<X.m→Y.ν0 i=X.ν0 i
 fr:Fr X.B0 X.w0 Y.w0
 imm:∀ b,S1 b→b<Y.w0.heap.size∧(X.S0 b∨X.w0.heap.size≤b∨X.B0 b)
 imm0:∀ b,X.S0 b→S1 b
 g1:g<Y.w0.heap.size∧¬ S1 g∧(X.w0.heap.size≤g∨X.B0 g)
 B0:∀ b,Y.B0 b→b<Y.w0.heap.size∧¬ S1 b∧b≠g∧(X.w0.heap.size≤b∨X.B0 b)
 own:∃ xs,Y.w0.ownsRow 0 E sz v ct.n xs∧∀ i j,i<ct.n→j<sz→∃ u,xs[i*sz+j]? = some u∧(ct.cell i j).rel Y.w0 S1 u
 blk:v.ownBlock=some g
 one:v.oneCell' = true
theorem Lent.frame {E sz:Nat} {ct:Ct} {v:Value} {g:Nat} (L:Lent X Y E sz ct v S1 g) (h:Fr Y.B0 Y.w0 w):Fr X.B0 X.w0 w:=by
 refine ⟨h.os.trans L.fr.os,h.tape.trans L.fr.tape,h.output.trans L.fr.output,Nat.le_trans L.fr.size h.size,fun k hk hb=>?_⟩
 rw [h.block k (Nat.lt_of_lt_of_le hk L.fr.size) fun hy=>?_,L.fr.block k hk hb]
 rcases (L.B0 k hy).2.2.2 with h1 | h1
 ·omega
 ·exact hb h1
theorem appE_mem:∀ {e e' : Env} {p:Nat×AV},p∈appE e e'→p∈e∨p∈e'
 | [],_,_,h=>.inr h
 | x :: e,e',p,h=>by
  rcases List.mem_cons.1 h with h | h
  ·subst h;exact .inl (List.mem_cons_self ..)
  ·exact (appE_mem h).imp (List.mem_cons_of_mem _) id
theorem TE.lend (t id:Nat) {E sz:Nat} {ct:Ct} {rest:List Chunk} (hk:X.mks=false) (hl:look st.env t=some (.o (.own id))) (htk:takeOwn (fun _=>true) st.hp id=some (E,sz,ct,rest)) (hn:0<ct.n) {e2:Env} {h2:List Chunk} {n2:Nat} (hst:(AS.mk (frzE id sz ct st.env) (frzH id sz ct rest) st.nid).force some=some ⟨e2,h2,n2⟩)
  (h:∀ w0 B0 S0 ν0 v S1 g,Lent X ⟨X.N,w0,B0,S0,ν0,X.m,false⟩ E sz ct v S1 g→TE ⟨X.N,w0,B0,S0,ν0,X.m,false⟩ R ⟨appE e2 [(t,.o (.c v))],h2,n2⟩):TE X R st:=by
 rw [AS.force_eq] at hst
 cases hst
 intro S ν a w sat
 have sat2:=sat.freeze id htk
 obtain ⟨hp,_⟩:=takeOwn_perm htk
 have hmem:Chunk.own id E sz ct∈st.hp:=hp.symm.subset (List.mem_cons_self ..)
 obtain ⟨xs,o1,o2⟩:=sat.hp _ hmem
 obtain ⟨ht,hv,hone⟩:=sat.env _ (look_mem hl)
 obtain ⟨g,hg⟩:∃ g,(ν id).ownBlock=some g:=by
  rcases o1.2 with ⟨_,e⟩ | ⟨g,cap,cur,e,_⟩
  ·omega
  ·exact ⟨g,by rw [e];rfl⟩
 have hgb:(Chunk.own id E sz ct).blk ν=some g:=hg
 obtain ⟨b1,b2,b3⟩:=sat.blk g (mem_blks.2 ⟨_,hmem,hgb⟩)
 have hd:=sat.defers.2.2 hk
 refine h w (fun b=>b∈blks ν (frzH id sz ct rest)) (fun b=>S b∨(ν id).ownBlock=some b) ν (ν id) S g ⟨rfl,rfl,hk,rfl,fun b=>?_,sat.fix,sat.frame,sat.imm,sat.imm0,⟨b1,b2,b3⟩,fun b hb=>?_,⟨xs,o1,o2⟩,hg,hone⟩ _ ν a w ⟨⟨fun d hd'=>(by rw [hd] at hd';cases hd'),sat.defers.2.1,fun _=>hd⟩,sat.size,fun p hp'=>?_,sat2.hp,sat2.nd,fun b hb=>⟨(sat2.blk b hb).1,(sat2.blk b hb).2.1,.inr hb⟩,fun b hb=>⟨(sat2.imm b hb).1,.inl hb⟩,fun b hb=>hb,Fr.refl _ _,fun p hp'=>?_,sat2.hlt,fun _ _=>rfl,sat.ge⟩
 ·show S b∨(ν id).ownBlock=some b↔_
  rw [hg]
  constructor
  ·rintro (h | h)
   ·exact .inl h
   ·cases h;exact .inr rfl
  ·rintro (h | h)
   ·exact .inl h
   ·subst h;exact .inr rfl
 ·obtain ⟨c1,c2,c3⟩:=sat2.blk b hb
  exact ⟨c1,fun h=>c2 (.inl h),fun e=>c2 (.inr (by rw [hg,e])),c3⟩
 ·rcases appE_mem hp' with h1 | h1
  ·exact sat2.env p h1
  ·rw [List.mem_singleton.1 h1]
   exact ⟨ht,hv,hone⟩
 ·rcases appE_mem hp' with h1 | h1
  ·exact sat2.elt p h1
  ·rw [List.mem_singleton.1 h1]
   trivial
def plainE:Env→Env
 | []=>[]
 | (t,.o (.c v)) :: e=>(t,.o (.c v)) :: plainE e
 | (t,.o (.sb b)) :: e=>(t,.o (.sb b)) :: plainE e
 | _ :: e=>plainE e
theorem plainE_mem:∀ {e:Env} {p:Nat×AV},p∈plainE e→p∈e∧((∃ v,p.2 = .o (.c v))∨∃ b,p.2 = .o (.sb b))
 | (t,x) :: e,p,h=>by
  unfold plainE at h
  split at h
  ·rename_i h0;cases h0
  ·rename_i t' v e' h0
   cases h0
   rcases List.mem_cons.1 h with h | h
   ·subst h;exact ⟨List.mem_cons_self ..,.inl ⟨_,rfl⟩⟩
   ·obtain ⟨h1,h2⟩:=plainE_mem h;exact ⟨List.mem_cons_of_mem _ h1,h2⟩
  ·rename_i t' b e' h0
   cases h0
   rcases List.mem_cons.1 h with h | h
   ·subst h;exact ⟨List.mem_cons_self ..,.inr ⟨_,rfl⟩⟩
   ·obtain ⟨h1,h2⟩:=plainE_mem h;exact ⟨List.mem_cons_of_mem _ h1,h2⟩
  ·rename_i q e' h1 h2 h0
   cases h0
   obtain ⟨h3,h4⟩:=plainE_mem h
   exact ⟨List.mem_cons_of_mem _ h3,h4⟩
theorem TE.thaw {E sz:Nat} {ct:Ct} {v:Value} {g:Nat} (L:Lent X Y E sz ct v S1 g) (t:Nat) (hm:(t,AV.o (.c v))∈st.env) {st2:AS} (hst:(AS.mk ((t,.o (.own st.nid)) :: plainE st.env) [.own st.nid E sz ct] (st.nid+1)).force some=some st2) (h:TE X R st2):TE Y R st:=by
 rw [AS.force_eq] at hst
 cases hst
 intro S ν a w sat
 have hd:=sat.defers.2.2 L.k2
 have hgB:¬ Y.B0 g:=fun h=>(L.B0 g h).2.2.1 rfl
 have hgh:=sat.frame.block g L.g1.1 hgB
 have gr:Gr Y.w0 w S1 S1:=⟨sat.frame.size,fun b hb hlt=>sat.frame.block b hlt fun h=>(L.B0 b h).2.1 hb,fun _ h=>h⟩
 obtain ⟨xs,⟨o1,o2⟩,o3⟩:=L.own
 have hblk:∀ b,b∈blks (upd ν st.nid v) [Chunk.own st.nid E sz ct]→b=g:=fun b hb=>by
  have:v.ownBlock=some b:=by simpa [blks,Chunk.blk,upd_same] using hb
  rw [L.blk] at this
  exact (Option.some.inj this).symm
 refine h S1 (upd ν st.nid v) a w ⟨⟨fun d hd'=>(by rw [hd] at hd';cases hd'),sat.defers.2.1,fun _=>hd⟩,by rw [← L.N];exact sat.size,fun p hp=>?_,fun ch hc=>?_,?_,fun b hb=>?_,fun b hb=>⟨Nat.lt_of_lt_of_le (L.imm b hb).1 sat.frame.size,(L.imm b hb).2⟩,L.imm0,L.frame sat.frame,fun p hp=>?_,fun ch hc=>?_,fun i hi=>?_,?_⟩
 ·rcases List.mem_cons.1 hp with hp | hp
  ·subst hp
   obtain ⟨h1,h2,h3⟩:=sat.env _ hm
   exact ⟨by rw [← L.N];exact h1,by rw [upd_same];exact h2,by rw [upd_same];exact L.one⟩
  ·obtain ⟨h1,h2⟩:=plainE_mem hp
   obtain ⟨h3,h4⟩:=sat.env p h1
   refine ⟨by rw [← L.N];exact h3,?_⟩
   rcases h2 with ⟨u,e⟩ | ⟨u,e⟩
   ·rw [e] at h4⊢;exact h4
   ·rw [e] at h4⊢;exact h4
 ·rw [List.mem_singleton.1 hc]
  refine ⟨xs,⟨o1,?_⟩,fun i j hi hj=>?_⟩
  ·rw [upd_same]
   rcases o2 with o2 | ⟨g',cap,cur,e1,e2,e3,e4⟩
   ·exact .inl o2
   ·have:g' = g:=by
     have:=L.blk
     rw [e1] at this
     exact Option.some.inj this
    subst this
    exact .inr ⟨g',cap,cur,e1,e2,by rw [hgh];exact e3,e4⟩
  ·obtain ⟨u,u1,u2⟩:=o3 i j hi hj
   exact ⟨u,u1,DC.mono gr u2⟩
 ·have:blks (upd ν st.nid v) [Chunk.own st.nid E sz ct]=[g]:=by
   have h1:(Chunk.own st.nid E sz ct).blk (upd ν st.nid v)=some g:=by
    show (upd ν st.nid v st.nid).ownBlock=some g
    rw [upd_same]
    exact L.blk
   simp [blks,h1]
  rw [this]
  simp
 ·rw [hblk b hb]
  exact ⟨Nat.lt_of_lt_of_le L.g1.1 sat.frame.size,L.g1.2.1,L.g1.2.2⟩
 ·rcases List.mem_cons.1 hp with hp | hp
  ·subst hp;exact Nat.lt_succ_self _
  ·obtain ⟨h1,h2⟩:=plainE_mem hp
   rcases h2 with ⟨u,e⟩ | ⟨u,e⟩<;>(rw [e];trivial)
 ·rw [List.mem_singleton.1 hc];exact Nat.lt_succ_self _
 ·have hge:=sat.ge
  rw [L.m] at hge
  rw [upd_lt i (by omega),sat.fix i (by rw [L.m];exact hi),L.fix i hi]
 ·have hge:=sat.ge
  rw [L.m] at hge
  exact Nat.le_succ_of_le hge
end
theorem own_sl {w:World} {S:Nat→Prop} {ν:Nat→Value} {id E sz:Nat} {ct:Ct} (h:(Chunk.own id E sz ct).holds w S ν):(DC.sl sz ct.n ct.cell).rel w (fun b=>S b∨(ν id).ownBlock=some b) (ν id):=by
 obtain ⟨xs,o1,o2⟩:=h
 have gr:Gr w w S (fun b=>S b∨(ν id).ownBlock=some b):=⟨Nat.le_refl _,fun _ _ _=>rfl,fun _ h=>.inl h⟩
 obtain ⟨A,c,e,h1,h2,h3,h4,h5⟩:=ownsRow_src o1
 refine ⟨A,c,e,h1,h2,h3,fun hn=>?_⟩
 obtain ⟨b,off,rfl,hb,_,hc⟩:=h5 hn
 refine ⟨b,off,rfl,.inr (by rw [e];rfl),hb,fun i j hi hj=>?_⟩
 obtain ⟨u,u1,u2⟩:=o2 i j hi hj
 exact ⟨u,by rw [Nat.add_assoc];exact hc _ _ u1,DC.mono gr u2⟩
def plain1:A1→Bool
 | .c _=>true
 | .sb _=>true
 | _=>false
def plainS:List (Sum A1 (List A1))→Bool
 | []=>true
 | .inl a :: r=>plain1 a && plainS r
 | .inr _ :: _=>false
def plainV:AV→Bool
 | .o a=>plain1 a
 | .g _=>false
 | .t xs=>plainS xs
section
variable {w w' : World} {S S' : Nat→Prop} {ν ν' : Nat→Value}
theorem plain1_ok {a:A1} {u:Value} (h:plain1 a=true) (r:a.rel w S ν u):a.rel w' S' ν' u:=by
 cases a<;>first | exact r | cases h
theorem plainS_ok:∀ {xs:List (Sum A1 (List A1))} {us:List Value},plainS xs=true→All2 (sumRel w S ν) xs us→All2 (sumRel w' S' ν') xs us
 | [],[],_,_=>trivial
 | .inl a :: r,u :: us,h,⟨h1,h2⟩=>by
  have h:(plain1 a && plainS r)=true:=h
  rw [Bool.and_eq_true] at h
  exact ⟨plain1_ok h.1 h1,plainS_ok h.2 h2⟩
 | .inr _ :: _,_ :: _,h,_=>nomatch h
 | [],_ :: _,_,h=>h.elim
 | _ :: _,[],_,h=>h.elim
theorem plainV_ok {x:AV} {u:Value} (h:plainV x=true) (r:x.rel w S ν u):x.rel w' S' ν' u:=by
 cases x with
 | o a=>exact plain1_ok h r
 | g as=>cases h
 | t xs=>
  obtain ⟨us,rfl,r⟩:=r
  exact ⟨us,rfl,plainS_ok h r⟩
end
def Bor (m sz:Nat) (ct:Ct) (a b:AV):Prop:=(a=b∧a.ltB m=true)∨(a = .o (.ro sz ct.n ct.cell)∧b = .o (.own m))
theorem bor_args {w:World} {S:Nat→Prop} {ν:Nat→Value} {m sz:Nat} {ct:Ct} (hs:(DC.sl sz ct.n ct.cell).rel w (fun b=>S b∨(ν m).ownBlock=some b) (ν m)):∀ {as bs:List AV} {vs:List Value},All2 (Bor m sz ct) as bs→All2 (AV.rel w S ν) bs vs→All2 (AV.rel w (fun b=>S b∨(ν m).ownBlock=some b) ν) as vs
 | [],[],[],_,_=>trivial
 | a :: as,b :: bs,v :: vs,⟨h1,h2⟩,⟨k1,k2⟩=>by
  refine ⟨?_,bor_args hs h2 k2⟩
  rcases h1 with ⟨rfl,hl⟩ | ⟨rfl,rfl⟩
  ·exact AV.mono (m:=m) ⟨Nat.le_refl _,fun _ _ _=>rfl,fun _ h=>.inl h⟩ (fun _ _=>rfl) (AV.ltB_ok hl) k1
  ·obtain ⟨rfl,_⟩:=k1
   exact hs
 | [],_ :: _,_,h,_=>h.elim
 | _ :: _,[],_,h,_=>h.elim
 | _,[],_ :: _,_,h=>h.elim
 | _,_ :: _,[],_,h=>h.elim
theorem Con.borrow {P:Program} {f:FuncId} {args args' : List AV} {takes:List Chunk} {m:Nat} {ι:Type} {pre:ι→Prop} {res:ι→AV} (c:Con P f args takes m m pre res (fun _=>takes)) (E sz:Nat) (ct:Ct)
  (hargs:All2 (Bor m sz ct) args args') (hst:allStat takes=true) (hres:∀ x,plainV (res x)=true) (hw:allB (Chunk.ltB (m+1)) (takes++[.own m E sz ct])=true) (hr:∀ x,(res x).ltB (m+1)=true):Con P f args' (takes++[.own m E sz ct]) (m+1) (m+1) pre res (fun _=>takes++[.own m E sz ct]):=by
 refine ⟨c.fn,hw,Nat.le_refl _,fun x=>⟨hr x,hw⟩,fun w S ν vs ha ht hnd hbk hS=>?_⟩
 have hmem:Chunk.own m E sz ct∈takes++[.own m E sz ct]:=List.mem_append.2 (.inr (List.mem_singleton.2 rfl))
 have hown:=ht _ hmem
 have hsl:=own_sl hown
 have hst1:∀ ch∈takes,ch.holds w S ν:=fun ch hc=>ht ch (List.mem_append.2 (.inl hc))
 have e0:∀ ν:Nat→Value,blks ν takes=[]:=fun ν=>allStat_blks hst
 have e1:∀ ν:Nat→Value,blks ν (takes++[.own m E sz ct])=((ν m).ownBlock).toList:=fun ν=>by
  rw [blks_append,e0]
  unfold blks
  simp only [List.nil_append,List.filterMap_cons,List.filterMap_nil]
  rw [show Chunk.blk ν (Chunk.own m E sz ct)=(ν m).ownBlock from rfl]
  cases (ν m).ownBlock<;>rfl
 have hg:∀ b,(ν m).ownBlock=some b→b<w.heap.size∧¬ S b:=fun b hb=>hbk b (by rw [e1,hb];exact List.mem_singleton.2 rfl)
 have gr:Gr w w S (fun b=>S b∨(ν m).ownBlock=some b):=⟨Nat.le_refl _,fun _ _ _=>rfl,fun _ h=>.inl h⟩
 refine Calls.mono (c.call w (fun b=>S b∨(ν m).ownBlock=some b) ν vs (bor_args hsl hargs ha) (stat_keep gr hst hst1) (by rw [e0];exact List.nodup_nil) (fun b hb=>by rw [e0] at hb;cases hb) (fun b hb=>hb.elim (hS b) fun h=>(hg b h).1)) ?_
 rintro e w' ⟨x,S',ν',u,h⟩
 have hfr:∀ b,b<w.heap.size→w'.heap[b]? = w.heap[b]?:=fun b hb=>h.fr.block b hb (by rw [e0];exact fun k=>nomatch k)
 have gr2:Gr w w' S (fun b=>S' b∧(ν m).ownBlock≠some b):=⟨h.fr.size,fun b hs hb=>hfr b hb,fun b hs=>⟨h.sub b (.inl hs),fun e=>(hg b e).2 hs⟩⟩
 refine ⟨x,fun b=>S' b∧(ν m).ownBlock≠some b,fun i=>if i=m then ν m else ν' i,u,h.e,h.pre,plainV_ok (hres x) h.res,⟨h.fr.os,h.fr.tape,h.fr.output,h.fr.size,fun k hk _=>hfr k hk⟩,fun i hi=>?_,gr2.sub,fun b hb=>?_,fun ch hc=>?_,?_,fun b hb=>?_⟩
 ·split
  ·rename_i e;rw [e]
  ·exact h.fix i (by omega)
 ·obtain ⟨h1,h2⟩:=h.imm b hb.1
  refine ⟨h1,?_⟩
  rcases h2 with (h2 | h2) | h2 | h2
  ·exact .inl h2
  ·exact absurd h2 hb.2
  ·exact .inr (.inl h2)
  ·rw [e0] at h2;cases h2
 ·rcases List.mem_append.1 hc with hc | hc
  ·exact stat_keep gr2 hst hst1 ch hc
  ·rw [List.mem_singleton.1 hc]
   obtain ⟨xs,o1,o2⟩:=hown
   refine ⟨xs,?_,fun i j hi hj=>?_⟩
   ·show w'.ownsRow 0 E sz (if m=m then ν m else ν' m) ct.n xs
    rw [if_pos rfl]
    refine ⟨o1.1,?_⟩
    rcases o1.2 with hn | ⟨q,cap,cur,hv,hq,hgg,rest⟩
    ·exact .inl hn
    ·exact .inr ⟨q,cap,cur,hv,hq,by rw [hfr q (hg q (by rw [hv];rfl)).1];exact hgg,rest⟩
   ·obtain ⟨u,e,r⟩:=o2 i j hi hj
    exact ⟨u,e,DC.mono gr2 r⟩
 ·rw [e1]
  cases (if m=m then ν m else ν' m).ownBlock with
  | none=>exact List.nodup_nil
  | some b=>exact List.nodup_cons.2 ⟨fun k=>(nomatch k),List.nodup_nil⟩
 ·rw [e1,if_pos rfl] at hb
  rw [e1]
  obtain ⟨g,hv⟩:∃ g,(ν m).ownBlock=some g:=by
   cases hv:(ν m).ownBlock with
   | none=>rw [hv] at hb;cases hb
   | some g=>exact ⟨g,rfl⟩
  have hbg:b=g:=by
   rw [hv] at hb
   exact List.mem_singleton.1 hb
  subst hbg
  exact ⟨Nat.lt_of_lt_of_le (hg b hv).1 h.fr.size,fun k=>k.2 hv,.inl (by rw [hv];exact List.mem_singleton.2 rfl)⟩
end Go.Proofs.YtalmoocpebhoiaaGreatDoor.Am
namespace Go.Proofs.YtalmoocpebhoiaaGreatDoor.Br
open At
def marksX (x:Bn) (i:Nat) (p:List ByteArray) (d u:Bool):Int:=
 if (x.opq=true∨x.red≠[])∧x.nd.kind≠1∨i=0∧x.red≠[] then 14
 else if x.opq=true∧x.red≠[] then 6
 else if x.red≠[]∧pcheckE x.red≠0 then pcheckE x.red
 else if x.red≠[]∧x.red=p then 6
 else if x.red≠[]∧d=true then 8
 else if x.nd.kind=5∧u=true then 6 else 0
def dupB (l:List Bn) (i:Nat):Bool:=(l.take i).any fun y=>decide ((l.getD i b0).red=y.red)
theorem marksE_X (l:List Bn) (i:Nat):marksE l i=marksX (l.getD i b0) i (pathI (nds l) i) (dupB l i) (opqAt l (aboveI (nds l) i)):=rfl
variable {x:Bn} {i:Nat} {p:List ByteArray} {d u:Bool}
theorem marksX_none (hr:x.red=[]) (ho:x.opq=false):marksX x i p d u=if x.nd.kind=5∧u=true then 6 else 0:=by
 unfold marksX
 simp [hr,ho]
theorem marksX_opq (hr:x.red=[]) (ho:x.opq=true):marksX x i p d u=if x.nd.kind=1 then 0 else 14:=by
 unfold marksX
 by_cases hk:x.nd.kind=1<;>simp [hr,ho,hk]
theorem marksX_both (hr:x.red≠[]) (ho:x.opq=true):marksX x i p d u=if x.nd.kind=1∧i≠0 then 6 else 14:=by
 unfold marksX
 by_cases hk:x.nd.kind=1<;>by_cases h0:i=0<;>simp [hr,ho,hk,h0]
theorem marksX_red (hr:x.red≠[]) (ho:x.opq=false):marksX x i p d u=if x.nd.kind=1∧i≠0 then (if pcheckE x.red≠0 then pcheckE x.red else if x.red=p then 6 else if d=true then 8 else 0) else 14:=by
 unfold marksX
 by_cases hk:x.nd.kind=1
 ·by_cases h0:i=0<;>simp [hr,ho,hk,h0]
 ·simp [hr,ho,hk]
theorem dupB_at {l:List Bn} {q:Nat} (hq:q<i) (hi:i<l.length) (h:(l.getD i b0).red=(l.getD q b0).red):dupB l i=true:=by
 unfold dupB
 rw [List.any_eq_true]
 have:l.getD q b0=(l.take i).getD q b0:=(getD_take hq).symm
 refine ⟨l.getD q b0,?_,decide_eq_true h⟩
 rw [this,List.getD_eq_getElem?_getD,List.getElem?_eq_getElem (by rw [List.length_take];omega)]
 exact List.getElem_mem _
theorem dupB_not {l:List Bn} (hi:i≤l.length) (h:∀ q,q<i→(l.getD i b0).red≠(l.getD q b0).red):dupB l i=false:=by
 unfold dupB
 rw [List.any_eq_false]
 intro y hy
 obtain ⟨k,hk,rfl⟩:=List.getElem_of_mem hy
 rw [List.length_take] at hk
 have h2:=h k (by omega)
 have h3:l.getD k b0=l[k]'(by omega):=by rw [List.getD_eq_getElem?_getD,List.getElem?_eq_getElem (by omega)];rfl
 rw [h3] at h2
 rw [List.getElem_take,decide_eq_true_eq]
 exact h2
end Go.Proofs.YtalmoocpebhoiaaGreatDoor.Br
namespace Go.Proofs.YtalmoocpebhoiaaGreatDoor.Br
open At
def stkI (l:List Nd) (q:Nat):List Nat:=stk (l.take q).reverse
def pstI (l:List Nd) (q:Nat):List ByteArray:=pst (l.take q).reverse
theorem stkI_succ {l:List Nd} {q:Nat} (hq:q<l.length):stkI l (q+1)=(stkI l q).take (l.getD q n0).depth.toNat++[q]:=by
 unfold stkI
 rw [take_rev hq,stk,List.length_reverse,List.length_take,show min q l.length=q by omega]
theorem pstI_zero {l:List Nd} (h:0<l.length):pstI l 1=[]:=by
 unfold pstI
 rw [take_rev h]
 rfl
theorem pstI_succ {l:List Nd} {q:Nat} (hq:q<l.length) (h0:0<q):pstI l (q+1)=(pstI l q).take ((l.getD q n0).depth - 1).toNat++[(l.getD q n0).name]:=by
 unfold pstI
 have hne:(l.take q).reverse≠[]:=by
  intro e
  have:=congrArg List.length e
  rw [List.length_reverse,List.length_take,List.length_nil] at this
  omega
 rw [take_rev hq,pst,if_neg hne]
theorem walk_root {l:List Nd} (h:Tok l):(l.getD 0 n0).depth=0∧stkI l 0=[]∧pstI l 0=[]:=by
 have h1:=tok_shp h 1 (tok_node h).1
 rw [take_rev (tok_node h).1] at h1
 exact ⟨h1,rfl,rfl⟩
theorem walk_at {l:List Nd} (h:Tok l) {q:Nat} (hq:q<l.length) (h0:0<q):1≤(l.getD q n0).depth∧(l.getD q n0).depth≤(stkI l q).length∧(l.getD q n0).depth - 1≤(pstI l q).length∧(stkI l q).length≤9∧(pstI l q).length≤8∧aboveI l q=(((stkI l q).getD ((l.getD q n0).depth - 1).toNat 0:Nat):Int):=by
 have h1:=tok_shp h (q+1) hq
 have hp:=(node_zero ((tok_node h).2.2 (q - 1) (by omega))).1
 rw [take_rev hq] at h1
 obtain ⟨j,rfl⟩:∃ j,q=j+1:=⟨q - 1,by omega⟩
 have hd:(l.getD j n0).depth≤8:=by
  rw [Nat.add_sub_cancel] at hp
  generalize (l.take j).reverse=pre at hp
  cases pre with
  | nil=>
   unfold placeE at hp
   dsimp only at hp
   split at hp
   ·exact absurd hp (by decide)
   ·omega
  | cons x r=>exact (place_more hp).1
 unfold stkI pstI aboveI
 rw [take_rev (by omega)] at h1⊢
 have e1:=stk_len h1.2.2
 have e2:=pst_len h1.2.2
 obtain ⟨k1,k2,k3⟩:=h1
 exact ⟨k1,by omega,by omega,by omega,by omega,above_stk k3 k1 k2⟩
theorem walk_facts {l:List Nd} (h:Tok l) {q:Nat} (hq:q<l.length):0≤(l.getD q n0).depth∧(l.getD q n0).depth≤(stkI l q).length∧(l.getD q n0).depth - 1≤(pstI l q).length∧(stkI l q).length≤9∧(pstI l q).length≤8:=by
 rcases Nat.eq_zero_or_pos q with e | e
 ·subst e
  obtain ⟨h1,h2,h3⟩:=walk_root h
  rw [h2,h3]
  simp only [List.length_nil]
  omega
 ·obtain ⟨h1,h2,h3,h4,h5,_⟩:=walk_at h hq e
  exact ⟨by omega,h2,h3,h4,h5⟩
theorem pstI_path {l:List Nd} (h:Tok l) {q:Nat} (hq:q<l.length):pstI l (q+1)=pathI l q:=(pathI_pst h hq).symm
def metL (l:List Bn) (q:Nat):List ByteArray:=(((l.take q).map (·.red)).filter (fun r=>decide (r≠[]))).map textS
theorem take_bn {l:List Bn} {q:Nat} (h:q<l.length):l.take (q+1)=l.take q++[l.getD q b0]:=by
 rw [List.take_add_one,List.getD_eq_getElem?_getD,List.getElem?_eq_getElem h]
 rfl
theorem metL_none {l:List Bn} {q:Nat} (h:q<l.length) (hr:(l.getD q b0).red=[]):metL l (q+1)=metL l q:=by
 unfold metL
 rw [take_bn h,List.map_append,List.filter_append,List.map_append]
 simp only [List.map_cons,List.map_nil,hr]
 simp
theorem metL_some {l:List Bn} {q:Nat} (h:q<l.length) (hr:(l.getD q b0).red≠[]):metL l (q+1)=metL l q++[textS (l.getD q b0).red]:=by
 unfold metL
 rw [take_bn h,List.map_append,List.filter_append,List.map_append]
 simp only [List.map_cons,List.map_nil]
 rw [List.filter_cons_of_pos (by simpa using hr)]
 rfl
theorem marks_red {l:List Bn} {i:Nat} (h:marksE l i=0) (hr:(l.getD i b0).red≠[]):(l.getD i b0).opq=false∧(l.getD i b0).nd.kind=1∧i≠0∧pcheckE (l.getD i b0).red=0∧(l.getD i b0).red≠pathI (nds l) i∧dupB l i=false:=by
 rw [marksE_X] at h
 cases ho:(l.getD i b0).opq
 ·rw [marksX_red hr ho] at h
  split at h
  ·rename_i k
   split at h
   ·rename_i k2;exact absurd h k2
   rename_i k2
   split at h
   ·exact absurd h (by decide)
   rename_i k3
   split at h
   ·exact absurd h (by decide)
   rename_i k4
   exact ⟨rfl,k.1,k.2,Decidable.not_not.1 k2,k3,by simpa using k4⟩
  ·exact absurd h (by decide)
 ·rw [marksX_both hr ho] at h
  split at h<;>exact absurd h (by decide)
theorem getD_b {l:List Bn} {k:Nat} (h:k<l.length):l.getD k b0=l[k]:=by
 rw [List.getD_eq_getElem?_getD,List.getElem?_eq_getElem h]
 rfl
theorem met_dup {l:List Bn} {q:Nat} (hq:q<l.length) (hg:∀ j,j<q→marksE l j=0) (hr:(l.getD q b0).red≠[]) (hp:pcheckE (l.getD q b0).red=0):textS (l.getD q b0).red∈metL l q↔dupB l q=true:=by
 unfold metL dupB
 rw [List.mem_map,List.any_eq_true]
 constructor
 ·rintro ⟨r,hm,e⟩
  rw [List.mem_filter,List.mem_map] at hm
  obtain ⟨⟨y,hy,rfl⟩,hne⟩:=hm
  have hne:y.red≠[]:=by simpa using hne
  refine ⟨y,hy,decide_eq_true ?_⟩
  obtain ⟨k,hk,rfl⟩:=List.getElem_of_mem hy
  rw [List.length_take] at hk
  rw [List.getElem_take] at hne e⊢
  have h1:=hg k (by omega)
  have h2:=(marks_red h1 (by rw [getD_b (by omega)];exact hne)).2.2.2.1
  rw [getD_b (by omega)] at h2
  exact (text_inj hne hr h2 hp e).symm
 ·rintro ⟨y,hy,e⟩
  have e:=of_decide_eq_true e
  refine ⟨y.red,List.mem_filter.2 ⟨List.mem_map.2 ⟨y,hy,rfl⟩,by rw [← e];simpa using hr⟩,by rw [e]⟩
section
variable {l:List Bn}
theorem bok_tok (h:Bok l):Tok (nds l):=(bok_iff.1 h).1
theorem names_lt {i n:Nat} (hn:n∈namesL l i):n<l.length:=(idxs_mem.1 hn).1
theorem kid_iff {i j:Nat}:j∈kidsL l i↔j<l.length∧aboveI (nds l) j=i:=by
 unfold kidsL
 rw [idxs_mem,decide_eq_true_eq]
end
end Go.Proofs.YtalmoocpebhoiaaGreatDoor.Br
namespace Go.Proofs.YtalmoocpebhoiaaGreatDoor.Br
open At
variable {l:List Bn} {i:Nat}
end Go.Proofs.YtalmoocpebhoiaaGreatDoor.Br
namespace Go.Proofs.YtalmoocpebhoiaaGreatDoor.Br
open At
variable {l:List Bn} {i:Nat}
theorem idxs_one {p:Nat→Bool} (h:∀ k,p k=decide (k=i)):∀ n,idxs p n=if i<n then [i] else []
 | 0=>rfl
 | n+1=>by
  rw [idxs_succ,idxs_one h n,h n]
  by_cases e:n=i
  ·subst e
   rw [if_pos (decide_eq_true rfl),if_neg (Nat.lt_irrefl _),if_pos (Nat.lt_succ_self _)]
   rfl
  ·rw [if_neg (by simpa using e)]
   by_cases e2:i<n
   ·rw [if_pos e2,if_pos (by omega)]
   ·rw [if_neg e2,if_neg (by omega)]
theorem names_zero (hi:i<l.length) (h:(l.getD i b0).nd.cls=0):namesL l i=[i]:=by
 unfold namesL
 rw [idxs_one (i:=i) (fun k=>?_),if_pos hi]
 unfold namesP
 rw [h]
 simp
theorem namesP_cls (h:(l.getD i b0).nd.cls≠0) (k:Nat):namesP l i k=decide ((l.getD k b0).nd.cls=(l.getD i b0).nd.cls):=by
 unfold namesP
 rw [decide_eq_true h,Bool.true_and]
 by_cases e:k=i
 ·subst e;simp
 ·simp [e]
end Go.Proofs.YtalmoocpebhoiaaGreatDoor.Br
namespace Go.Proofs.YtalmoocpebhoiaaGreatDoor.Br
open At Wo
open Am (sB sB_size sB_ext sB_inj sB_app)
theorem drop_bs {L:List Bs} {i:Nat} (h:i<L.length):L.drop i=L.getD i [] :: L.drop (i+1):=by
 rw [List.drop_eq_getElem_cons h,List.getD_eq_getElem?_getD,List.getElem?_eq_getElem h];rfl
structure RowsAt (L:List Bs) (i:Nat) (last:List ByteArray) (t:List Nd):Prop where
 le:i≤L.length
 len:t.length=i
 start:i=0→last=[]
 at' : rowsP i last t (L.drop i)=rowsP 0 [] [] L
section
variable {L:List Bs} {i:Nat} {last:List ByteArray} {t:List Nd}
theorem rows_start (L:List Bs):RowsAt L 0 [] []:=⟨Nat.zero_le _,rfl,fun _=>rfl,by rw [List.drop_zero]⟩
theorem rows_bad (g:RowsAt L i last t) (h:i<L.length) (hr:rowP i last (L.getD i [])=none):rowsP 0 [] [] L = .inr (i+1):=by
 rw [← g.at',drop_bs h,rowsP,hr]
theorem rows_more (g:RowsAt L i last t) (h:i<L.length) {n:Nd} {p:List ByteArray} (hr:rowP i last (L.getD i [])=some (n,p)):RowsAt L (i+1) p (t++[n]):=
 ⟨h,by rw [List.length_append,g.len];rfl,fun e=>by omega,by rw [← g.at',drop_bs h,rowsP,hr]⟩
theorem rows_end (g:RowsAt L i last t) (h:L.length≤i):rowsP 0 [] [] L = .inl t:=by
 rw [← g.at',List.drop_eq_nil_of_le h,rowsP]
end
theorem rowP_none {i:Nat} {last:List ByteArray} {s:Bs} (h:readS s=none):rowP i last s=none:=by
 unfold rowP;rw [h]
theorem rowP_some {i:Nat} {last:List ByteArray} {s:Bs} {n:Nd} {p:List ByteArray} (h:readS s=some (n,p)):rowP i last s=if i=0 then (if p=[] then some (n,p) else none) else if p=[]∨last.length+1<p.length∨p.take (p.length - 1)≠last.take (p.length - 1) then none else some ({ n with depth:=(p.length:Int),name:=p.getD (p.length - 1) eS },p):=by
 unfold rowP;rw [h]
theorem split_fine (s:Bs):(splitI s).1.length≤64∧∀ f∈(splitI s).1,f.1.length≤2000:=by
 unfold splitI
 split
 ·exact ⟨by simp,fun f h=>by cases h⟩
 split
 ·exact ⟨by simp,fun f h=>by cases h⟩
 split
 ·exact ⟨by simp,fun f h=>by cases h⟩
 split
 ·exact ⟨by simp,fun f h=>by cases h⟩
 ·rename_i fs _ hn
  refine ⟨by dsimp only;omega,fun f h=>Nat.le_of_not_lt fun hf=>hn (.inl (List.any_eq_true.2 ⟨f,h,decide_eq_true hf⟩))⟩
theorem split_err {s:Bs} (h:(splitI s).2≠0):(splitI s).1=[]:=by
 unfold splitI at h⊢
 split
 ·rfl
 split
 ·rfl
 split
 ·rfl
 split
 ·rfl
 ·rename_i h1 h2 _ fs h3 h4
  rw [if_neg h1,if_neg h2,h3] at h
  dsimp only at h
  rw [if_neg h4] at h
  exact absurd rfl h
theorem pparse_ok (s:Bs):pcheckE (pparseE s).1=0∧((pparseE s).2≠0→(pparseE s).1=[]):=by
 unfold pparseE
 split
 ·exact ⟨by decide,fun _=>rfl⟩
 split
 ·exact ⟨by decide,fun _=>rfl⟩
 split
 ·exact ⟨by decide,fun _=>rfl⟩
 split
 ·exact ⟨(by show pcheckE []=0;decide),fun _=>rfl⟩
 ·rename_i h
  exact ⟨Decidable.not_not.1 h,fun k=>absurd rfl k⟩
theorem attrs_fine:∀ (n:Nat) (r:List Fld) (as:List At.At),r.length≤n→(∀ f∈r,f.1.length≤2000)→attrsF r=some as→2*as.length=r.length∧sizeI as≤4002*as.length
 | _,[],as,_,_,h=>by
  injection h with h
  subst h
  exact ⟨rfl,Nat.le_refl _⟩
 | _,[x],as,_,_,h=>by cases h
 | 0,_ :: _ :: _,_,h,_,_=>absurd h (by simp)
 | n+1,x :: y :: r,as,h,hf,ha=>by
  have ha:(if x.2=true∧y.2=true then (attrsF r).map ((sB x.1,sB y.1) :: ·) else none)=some as:=ha
  split at ha
  ·cases hr:attrsF r with
   | none=>rw [hr] at ha;cases ha
   | some z=>
    rw [hr] at ha
    injection ha with ha
    subst ha
    obtain ⟨h1,h2⟩:=attrs_fine n r z (by simp only [List.length_cons] at h;omega) (fun f k=>hf f (List.mem_cons_of_mem _ (List.mem_cons_of_mem _ k))) hr
    have h3:=hf x (List.mem_cons_self ..)
    have h4:=hf y (List.mem_cons_of_mem _ (List.mem_cons_self ..))
    have h5:=sB_size x.1
    have h6:=sB_size y.1
    simp only [List.length_cons,sizeI]
    omega
  ·cases ha
theorem rest_fine {k:Int} {r:List Fld} {x:Int×ByteArray×Int×Int×List At.At} (hr:r.length≤64) (hf:∀ f∈r,f.1.length≤2000) (h:restF k r=some x):x.2.2.2.2.length≤64∧sizeI x.2.2.2.2≤1000000:=by
 have key:∀ (s:List Fld) (as:List At.At),s.length≤64→(∀ f∈s,f.1.length≤2000)→attrsF s=some as→as.length≤64∧sizeI as≤1000000:=fun s as h1 h2 h3=>by
  have:=attrs_fine _ s as (Nat.le_refl _) h2 h3
  omega
 have key2:∀ (s:List Fld) (cc:Int) (dd:ByteArray) (aa bb:Int),s.length≤64→(∀ f∈s,f.1.length≤2000)→((attrsF s).map fun as=>(cc,dd,aa,bb,as))=some x→x.2.2.2.2.length≤64∧sizeI x.2.2.2.2≤1000000:=fun s cc dd aa bb h1 h2 h3=>by
  cases ha:attrsF s with
  | none=>rw [ha] at h3;cases h3
  | some as=>
   rw [ha] at h3
   injection h3 with h3
   rw [← h3]
   exact key s as h1 h2 ha
 unfold restF at h
 split at h
 ·split at h
  ·split at h
   ·cases h
   ·simp only [List.length_cons] at hr
    exact key2 _ _ _ _ _ (by omega) (fun f hx=>hf f (List.mem_cons_of_mem _ (List.mem_cons_of_mem _ hx))) h
  ·cases h
 ·split at h
  ·split at h
   ·split at h
    ·cases h
    ·simp only [List.length_cons] at hr
     exact key2 _ _ _ _ _ (by omega) (fun f hx=>hf f (List.mem_cons_of_mem _ (List.mem_cons_of_mem _ (List.mem_cons_of_mem _ hx)))) h
   ·cases h
  ·exact key2 _ _ _ _ _ hr hf h
theorem read_fine {s:Bs} {n:Nd} {p:List ByteArray} (h:readS s=some (n,p)):n.attrs.length≤64∧sizeI n.attrs≤1000000∧n.name=eS∧n.depth=0∧pcheckE p=0:=by
 obtain ⟨h1,h2⟩:=split_fine s
 unfold readS at h
 generalize (splitI s).1=fs at *
 match fs,h,h1,h2 with
 | [],h,_,_=>cases h
 | [(w,false)],h,_,_=>cases h
 | (w,true) :: t,h,_,_=>cases h
 | (w,false) :: (q,false) :: r,h,_,_=>cases h
 | (w,false) :: (q,true) :: r,h,h1,h2=>
  have h:(if kindOf w=0∨(pparseE q).2≠0 then none else (restF (kindOf w) r).map fun x=>((⟨0,eS,kindOf w,x.2.2.2.2,x.2.1,x.2.2.1,x.2.2.2.1,x.1⟩:Nd),(pparseE q).1))=some (n,p):=h
  split at h
  ·cases h
  cases hr:restF (kindOf w) r with
  | none=>rw [hr] at h;cases h
  | some x=>
   rw [hr] at h
   injection h with h
   injection h with e1 e2
   subst e1 e2
   simp only [List.length_cons] at h1
   have:=rest_fine (by omega) (fun f hx=>h2 f (List.mem_cons_of_mem _ (List.mem_cons_of_mem _ hx))) hr
   exact ⟨this.1,this.2,rfl,rfl,(pparse_ok q).1⟩
def okL (n:Nd):Prop:=n.attrs.length≤64∧sizeI n.attrs≤1000000∧n.name.size≤1000
theorem row_fine {i:Nat} {last:List ByteArray} {s:Bs} {n:Nd} {p:List ByteArray} (h:rowP i last s=some (n,p)):okL n∧pcheckE p=0:=by
 cases hr:readS s with
 | none=>rw [rowP_none hr] at h;cases h
 | some x=>
  obtain ⟨m,q⟩:=x
  obtain ⟨h1,h2,h3,_,h4⟩:=read_fine hr
  rw [rowP_some hr] at h
  split at h
  ·split at h
   ·injection h with h
    injection h with e1 e2
    subst e1 e2
    exact ⟨⟨h1,h2,by rw [h3];exact Nat.zero_le _⟩,h4⟩
   ·cases h
  ·split at h
   ·cases h
   ·injection h with h
    injection h with e1 e2
    subst e1 e2
    refine ⟨⟨h1,h2,?_⟩,h4⟩
    dsimp only
    rename_i hne
    have hq:q≠[]:=fun e=>hne (.inl e)
    have hl:0<q.length:=List.length_pos_iff.2 hq
    have hm:q.getD (q.length - 1) eS∈q:=by
     rw [List.getD_eq_getElem?_getD,List.getElem?_eq_getElem (by omega)]
     exact List.getElem_mem _
    have:=(name_size ((pcheck_iff.1 h4).2 _ hm)).1
    omega
theorem rows_fine {L:List Bs}:∀ {i:Nat} {last:List ByteArray} {t u:List Nd},(∀ n∈t,okL n)→rowsP i last t L = .inl u→(∀ n∈u,okL n)∧u.length=t.length+L.length:=by
 induction L with
 | nil=>
  intro i last t u ht h
  injection h with h
  subst h
  exact ⟨ht,rfl⟩
 | cons s r ih=>
  intro i last t u ht h
  rw [rowsP] at h
  cases hr:rowP i last s with
  | none=>rw [hr] at h;cases h
  | some x=>
   obtain ⟨n,p⟩:=x
   rw [hr] at h
   obtain ⟨h1,h2⟩:=ih (fun m hm=>by
    rcases List.mem_append.1 hm with hm | hm
    ·exact ht m hm
    ·rcases List.mem_cons.1 hm with rfl | hm
     ·exact (row_fine hr).1
     ·cases hm) h
   refine ⟨h1,?_⟩
   rw [h2,List.length_append]
   simp only [List.length_cons,List.length_nil]
   omega
theorem parseT_fine (s:Bs):(∀ n∈(parseT s).1,okL n)∧((parseT s).2.2=0→Tok (parseT s).1)∧(parseT s).1.length≤5000:=by
 unfold parseT
 split
 ·rename_i h
  exact ⟨fun n h=>(by cases h),fun k=>absurd k h,by simp⟩
 have hL:=lines_len s
 split
 ·exact ⟨fun n h=>(by cases h),fun k=>(by cases k),by simp⟩
 ·rename_i t ht
  obtain ⟨h1,h2⟩:=rows_fine (fun n h=>(by cases h)) ht
  split
  ·rename_i h
   exact ⟨fun n h=>(by cases h),fun k=>absurd k h,by simp⟩
  ·rename_i h
   refine ⟨h1,fun _=>(Decidable.not_not.1 h:(checkT t).2=0),?_⟩
   show t.length≤5000
   rw [h2]
   simp only [List.length_nil]
   omega
theorem findI_le (l:List Nd) (p:List ByteArray) : -1≤findI l p∧findI l p<l.length+1∧(0≤findI l p→findI l p<l.length):=by
 have key:∀ (n i:Nat),i+n=l.length→-1≤findF l p n i∧(0≤findF l p n i→findF l p n i<l.length):=by
  intro n
  induction n with
  | zero=>intro i h;exact ⟨by rw [findF];decide,fun k=>by rw [findF] at k;exact absurd k (by decide)⟩
  | succ n ih=>
   intro i h
   rw [findF]
   split
   ·exact ⟨by omega,fun _=>by omega⟩
   ·exact ih (i+1) (by omega)
 have:=key l.length 0 (by omega)
 exact ⟨this.1,by unfold findI;by_cases h:0≤findF l p l.length 0;have:=this.2 h;omega;omega,this.2⟩
theorem findE_ok {l:List Nd} {p:List ByteArray} (h:(findE l p).2=0):0≤(findE l p).1∧(findE l p).1<l.length∧(findE l p).1=findI l p:=by
 unfold findE at h⊢
 split
 ·rename_i k;rw [if_pos k] at h;exact absurd h k
 split
 ·rename_i k1 k;rw [if_neg k1,if_pos k] at h;exact absurd h k
 split
 ·rename_i k1 k2 k;rw [if_neg k1,if_neg k2,if_pos k] at h;cases h
 ·rename_i k
  have:=(findI_le l p).2.2 (by omega)
  exact ⟨by dsimp only;omega,this,rfl⟩
structure SetF (b:List Bn) (last:Int) (c:List Bn) (n:Nat):Prop where
 lt:n<b.length
 after:last<n
 ex:∃ x:Bn,c=b.set n x∧x.nd=(b.getD n b0).nd∧(pcheckE (b.getD n b0).red=0→pcheckE x.red=0)
theorem nds_set' {l:List Bn} {i:Nat} {x:Bn} (hx:x.nd=(l.getD i b0).nd) (hi:i<l.length):nds (l.set i x)=nds l:=by
 unfold nds
 rw [List.map_set]
 refine List.ext_getElem (by simp) fun j h1 h2=>?_
 rw [List.getElem_set]
 split
 ·rename_i e
  subst e
  rw [hx,List.getElem_map,List.getD_eq_getElem?_getD,List.getElem?_eq_getElem hi];rfl
 ·rfl
theorem SetF.nds {b c:List Bn} {last:Int} {n:Nat} (h:SetF b last c n):nds c=nds b:=by
 obtain ⟨h1,_,x,rfl,h2,_⟩:=h
 exact nds_set' h2 h1
theorem set_ok {b c:List Bn} {fs:List Fld} {last:Int} {n:Nat} (h:setF b fs last=some (c,n)):SetF b last c n:=by
 match fs,h with
 | [],h=>cases h
 | [(w,false)],h=>cases h
 | (w,true) :: t,h=>cases h
 | (w,false) :: (p,false) :: r,h=>cases h
 | (w,false) :: (p,true) :: r,h=>
  unfold setF at h
  dsimp only at h
  split at h
  ·cases h
  rename_i k
  have k2:(findE (nds b) (pparseE p).1).2=0:=Decidable.not_not.1 fun e=>k (.inr (.inl e))
  obtain ⟨f1,f2,_⟩:=findE_ok k2
  have k3:¬ (findE (nds b) (pparseE p).1).1≤last:=fun e=>k (.inr (.inr (.inl e)))
  have hl:(Br.nds b).length=b.length:=List.length_map ..
  generalize (findE (nds b) (pparseE p).1).1=z at *
  split at h
  ·split at h
   ·injection h with h
    injection h with e1 e2
    subst e1 e2
    exact ⟨by omega,by omega,_,rfl,rfl,fun g=>g⟩
   ·cases h
  ·split at h
   ·split at h
    ·split at h
     ·cases h
     ·injection h with h
      injection h with e1 e2
      subst e1 e2
      exact ⟨by omega,by omega,_,rfl,rfl,fun _=>(pparse_ok _).1⟩
    ·cases h
   ·cases h
theorem set_mark {b:List Bn} {s:Bs} {last:Int} (h:isMark s=false):setS b s last=none:=by
 unfold isMark at h
 unfold setS
 generalize (splitI s).1=fs at *
 match fs,h with
 | [],_=>rfl
 | [(w,false)],_=>rfl
 | (w,true) :: t,_=>rfl
 | (w,false) :: (p,false) :: r,_=>rfl
 | (w,false) :: (p,true) :: r,h=>
  have h:¬ (w=opqW∨w=redW):=of_decide_eq_false h
  unfold setF
  dsimp only
  split
  ·rfl
  rw [if_neg fun e=>h (.inl e),if_neg fun e=>h (.inr e)]
structure SetsAt (L:List Bs) (R:Sum (List Bn×List Int) Nat) (c:List Bn) (i:Nat) (b:List Bn) (W:List Int) (last:Int):Prop where
 le:i≤L.length
 len:W.length=b.length
 nds:nds b=nds c
 lo : -1≤last
 hi:last<b.length
 red:∀ x∈b,pcheckE x.red=0
 pos:∀ k,0≤W.getD k 0∧W.getD k 0≤i
 free:∀ k:Nat,last<k→W.getD k 0=0
 at' : setsP i b W last (L.drop i)=R
section
variable {L:List Bs} {R:Sum (List Bn×List Int) Nat} {c b:List Bn} {i:Nat} {W:List Int} {last:Int}
theorem sets_start {t:List Nd} {i:Nat} (hi:i≤L.length) (hR:setsP i (t.map bare) (t.map fun _=>0) (-1) (L.drop i)=R):SetsAt L R (t.map bare) i (t.map bare) (t.map fun _=>0) (-1):=by
 have hz:∀ k,(t.map fun _=>(0:Int)).getD k 0=0:=fun k=>by
  rw [List.getD_eq_getElem?_getD,List.getElem?_map]
  cases t[k]? <;> rfl
 exact ⟨hi,by simp,rfl,by decide,by omega,fun x h=>by obtain ⟨y,_,rfl⟩:=List.mem_map.1 h;exact (by decide:pcheckE []=0),fun k=>by rw [hz];omega,fun k _=>hz k,hR⟩
theorem sets_bad (g:SetsAt L R c i b W last) (h:i<L.length) (hs:setS b (L.getD i []) last=none):R = .inr (i+1):=by
 rw [← g.at',drop_bs h,setsP,hs]
theorem sets_more (g:SetsAt L R c i b W last) (h:i<L.length) {d:List Bn} {n:Nat} (hs:setS b (L.getD i []) last=some (d,n)):SetsAt L R c (i+1) d (W.set n ((i:Int)+1)) n:=by
 have hf:=set_ok hs
 obtain ⟨k1,k2,x,k3,k4,k5⟩:=hf
 have hl:=g.len
 have hw:∀ k,(W.set n ((i:Int)+1)).getD k 0=if k=n then (i:Int)+1 else W.getD k 0:=fun k=>getD_set (by omega)
 refine ⟨h,by rw [List.length_set,k3,List.length_set,hl],(set_ok hs).nds.trans g.nds,by omega,by rw [k3,List.length_set];omega,fun y hy=>?_,fun k=>?_,fun k hk=>?_,by rw [← g.at',drop_bs h,setsP,hs]⟩
 ·rw [k3] at hy
  rcases List.mem_or_eq_of_mem_set hy with hy | rfl
  ·exact g.red y hy
  ·refine k5 (g.red _ ?_)
   rw [List.getD_eq_getElem?_getD,List.getElem?_eq_getElem k1]
   exact List.getElem_mem _
 ·have:=g.pos k
  rw [hw]
  split<;>omega
 ·rw [hw,if_neg (by omega)]
  exact g.free k (by omega)
theorem sets_end (g:SetsAt L R c i b W last) (h:L.length≤i):R = .inl (b,W):=by
 rw [← g.at',List.drop_eq_nil_of_le h,setsP]
end
theorem many_le (L:List Bs):manyP L≤L.length:=by
 unfold manyP
 cases h:L.findIdx? isMark with
 | none=>exact Nat.le_refl _
 | some k=>exact Nat.le_of_lt (List.findIdx?_eq_some_iff_getElem.1 h).1
theorem many_at {L:List Bs} {k:Nat} (hk:k<L.length) (h0:∀ j,j<k→isMark (L.getD j [])=false) (h1:isMark (L.getD k [])=true):manyP L=k:=by
 have hg:∀ j (hj:j<L.length),L.getD j []=L[j]:=fun j hj=>by rw [List.getD_eq_getElem?_getD,List.getElem?_eq_getElem hj];rfl
 unfold manyP
 rw [List.findIdx?_eq_some_iff_getElem.2 ⟨hk,by rw [← hg k hk];exact h1,fun j hj=>by rw [← hg j (by omega),h0 j hj];exact Bool.false_ne_true⟩]
 rfl
theorem many_none {L:List Bs} (h:∀ j,j<L.length→isMark (L.getD j [])=false):manyP L=L.length:=by
 unfold manyP
 rw [List.findIdx?_eq_none_iff.2 fun x hx=>by
  obtain ⟨j,hj,e⟩:=List.mem_iff_getElem.1 hx
  have:=h j hj
  rw [List.getD_eq_getElem?_getD,List.getElem?_eq_getElem hj] at this
  rw [← e]
  exact this]
 rfl
theorem headT_snoc (L:List Bs) (s:Bs):headT (L++[s])=headT L++s++[10]:=by
 unfold headT
 rw [List.flatMap_append]
 simp
theorem headT_join:∀ (L:List Bs),L≠[]→Lib.join L [10]++[10]=headT L
 | [],h=>absurd rfl h
 | [s],_=>by simp [Lib.join,headT,List.intercalate,List.intersperse]
 | s :: t :: r,_=>by
  have ih:=headT_join (t :: r) (by simp)
  unfold headT at ih⊢
  rw [List.flatMap_cons,← ih]
  show Lib.join (s :: t :: r) [10]++[10]=_
  have:Lib.join (s :: t :: r) [10]=s++10 :: Lib.join (t :: r) [10]:=by
   simp [Lib.join,List.intercalate,List.intersperse]
  rw [this]
  simp
theorem takeL {L:List Bs} {q:Nat} (h:q<L.length):L.take (q+1)=L.take q++[L.getD q []]:=by
 rw [List.take_add_one,List.getD_eq_getElem?_getD,List.getElem?_eq_getElem h];rfl
def flatP (p:List ByteArray):Bs:=p.flatMap fun s=>47 :: bL s
theorem flatP_len:∀ {p:List ByteArray},(∀ s∈p,pnameE s=0)→(flatP p).length≤25*p.length
 | [],_=>Nat.le_refl _
 | s :: r,h=>by
  have h1:=(name_size (h s (List.mem_cons_self ..))).1
  have h2:(bL s).length=s.size:=rfl
  have ih:=flatP_len (p:=r) fun x hx=>h x (List.mem_cons_of_mem _ hx)
  unfold flatP at ih⊢
  rw [List.flatMap_cons,List.length_append,List.length_cons,List.length_cons]
  omega
theorem flatP_text:∀ {p:List ByteArray},p≠[]→flatP p=textL p
 | [],h=>absurd rfl h
 | [s],_=>by
  show (47 :: bL s)++[]=47 :: Lib.join [bL s] [47]
  rw [join_one,List.append_nil]
 | s :: t :: r,_=>by
  have ih:=flatP_text (p:=t :: r) (by simp)
  have e:textL (s :: t :: r)=47 :: (bL s++47 :: Lib.join ((t :: r).map (·.data.toList)) [47]):=congrArg (List.cons 47) (join_cons _ _ _)
  rw [e]
  show (47 :: bL s)++flatP (t :: r)=_
  rw [ih]
  rfl
theorem flatP_take {p:List ByteArray} {q:Nat} (h:q<p.length):flatP (p.take (q+1))=flatP (p.take q)++47 :: bL (p.getD q eS):=by
 unfold flatP
 rw [List.take_add_one,List.flatMap_append,List.getD_eq_getElem?_getD,List.getElem?_eq_getElem h]
 simp
abbrev f0:Fld:=([],false)
def pairsF (r:List Fld) (m:Nat):List At.At:=(List.range m).map fun i=>(sB (r.getD (2*i) f0).1,sB (r.getD (2*i+1) f0).1)
theorem pairsF_cons (x y:Fld) (r:List Fld) (m:Nat):pairsF (x :: y :: r) (m+1)=(sB x.1,sB y.1) :: pairsF r m:=by
 unfold pairsF
 rw [List.range_succ_eq_map,List.map_cons,List.map_map]
 congr 1
theorem attrsF_ok:∀ (n:Nat) (r:List Fld),r.length≤n→r.length % 2=0→(∀ j,j<r.length→(r.getD j f0).2=true)→attrsF r=some (pairsF r (r.length / 2))
 | _,[],_,_,_=>rfl
 | _,[x],_,h,_=>absurd h (by simp)
 | 0,_ :: _ :: _,h,_,_=>absurd h (by simp)
 | n+1,x :: y :: r,h,h2,hq=>by
  have hx:x.2=true:=hq 0 (by simp)
  have hy:y.2=true:=hq 1 (by simp)
  have ih:=attrsF_ok n r (by simp only [List.length_cons] at h;omega) (by simp only [List.length_cons] at h2;omega) fun j hj=>hq (j+2) (by simp only [List.length_cons];omega)
  rw [show attrsF (x :: y :: r)=(attrsF r).map ((sB x.1,sB y.1) :: ·) from if_pos ⟨hx,hy⟩,ih,show (x :: y :: r).length / 2=r.length / 2+1 by simp only [List.length_cons];omega,pairsF_cons]
  rfl
theorem attrsF_odd:∀ (n:Nat) (r:List Fld),r.length≤n→r.length % 2≠0→attrsF r=none
 | _,[],_,h=>absurd rfl h
 | _,[x],_,_=>rfl
 | 0,_ :: _ :: _,h,_=>absurd h (by simp)
 | n+1,x :: y :: r,h,h2=>by
  have ih:=attrsF_odd n r (by simp only [List.length_cons] at h;omega) (by simp only [List.length_cons] at h2;omega)
  show (if x.2=true∧y.2=true then (attrsF r).map ((sB x.1,sB y.1) :: ·) else none)=none
  rw [ih]
  split<;>rfl
theorem attrsF_bare:∀ (n:Nat) (r:List Fld) (j:Nat),r.length≤n→j<r.length→(r.getD j f0).2=false→attrsF r=none
 | _,[],j,_,h,_=>absurd h (Nat.not_lt_zero _)
 | _,[x],_,_,_,_=>rfl
 | 0,_ :: _ :: _,_,h,_,_=>absurd h (by simp)
 | n+1,x :: y :: r,0,_,_,hq=>if_neg (fun k=>by rw [show x.2=false from hq] at k;cases k.1)
 | n+1,x :: y :: r,1,_,_,hq=>if_neg (fun k=>by rw [show y.2=false from hq] at k;cases k.2)
 | n+1,x :: y :: r,j+2,h,hj,hq=>by
  have ih:=attrsF_bare n r j (by simp only [List.length_cons] at h;omega) (by simp only [List.length_cons] at hj;omega) hq
  show (if x.2=true∧y.2=true then (attrsF r).map ((sB x.1,sB y.1) :: ·) else none)=none
  rw [ih]
  split<;>rfl
def manyK (k:Int):Nat:=if datK k=true then 1 else if k=4 then 3 else 0
def firstK (k:Int):Nat:=2+manyK k+if datK k=true then 1 else 0
section
variable {fs:List Fld} {k:Int}
theorem rf_short (h:fs.length<2∨(fs.getD 0 f0).2=true∨(fs.getD 1 f0).2=false):readF fs=none:=by
 match fs,h with
 | [],_=>rfl
 | [(w,false)],_=>rfl
 | [(w,true)],_=>rfl
 | (w,true) :: _ :: _,_=>rfl
 | (w,false) :: (p,false) :: r,_=>rfl
 | (w,false) :: (p,true) :: r,h=>
  rcases h with h | h | h
  ·simp only [List.length_cons] at h;omega
  ·cases h
  ·cases h
structure HdF (fs:List Fld) (k:Int):Prop where
 len:2≤fs.length
 bare:(fs.getD 0 f0).2=false
 path:(fs.getD 1 f0).2=true
 kind:kindOf (fs.getD 0 f0).1=k
theorem HdF.eq (h:HdF fs k):∃ w p r,fs=(w,false) :: (p,true) :: r∧kindOf w=k∧(fs.getD 1 f0).1=p∧(∀ j,fs.getD (2+j) f0=r.getD j f0)∧fs.length=2+r.length:=by
 obtain ⟨h1,h2,h3,h4⟩:=h
 match fs,h1,h2,h3,h4 with
 | (w,b) :: (p,c) :: r,h1,h2,h3,h4=>
  have h2:b=false:=h2
  have h3:c=true:=h3
  subst h2 h3
  exact ⟨w,p,r,rfl,h4,rfl,fun j=>by rw [Nat.add_comm];rfl,by simp only [List.length_cons];omega⟩
theorem readF_eq (w p:Bs) (r:List Fld):readF ((w,false) :: (p,true) :: r)=if kindOf w=0∨(pparseE p).2≠0 then none else (restF (kindOf w) r).map fun x=>(⟨0,eS,kindOf w,x.2.2.2.2,x.2.1,x.2.2.1,x.2.2.2.1,x.1⟩,(pparseE p).1):=rfl
theorem rf_kind (h:HdF fs 0):readF fs=none:=by
 obtain ⟨w,p,r,rfl,e,_⟩:=h.eq
 rw [readF_eq,if_pos (.inl e)]
theorem rf_rest (h:HdF fs k) (hr:restF k (fs.drop 2)=none):readF fs=none:=by
 obtain ⟨w,p,r,rfl,e,_⟩:=h.eq
 rw [readF_eq,e]
 split
 ·rfl
 ·rw [show restF k r=none from hr];rfl
theorem rf_path (h:HdF fs k) (hp:(pparseE (fs.getD 1 f0).1).2≠0):readF fs=none:=by
 obtain ⟨w,p,r,rfl,e,_⟩:=h.eq
 rw [readF_eq,if_pos (.inr hp)]
theorem restF_dat (hd:datK k=true) (c d:Fld) (s:List Fld):restF k (c :: d :: s)=if c.2=false∧d.2=true∧(numP c.1).2=0 then (attrsF s).map fun as=>((numP c.1).1,sB d.1,0,0,as) else none:=by
 obtain ⟨c,b⟩:=c
 obtain ⟨d,e⟩:=d
 unfold restF
 rw [if_pos hd]
 cases b<;>cases e
 ·simp
 ·by_cases h:(numP c).2=0<;>simp [h]
 ·simp
 ·simp
theorem restF_chr (hd:datK k=false) (h4:k=4) (c a b:Fld) (s:List Fld):restF k (c :: a :: b :: s)=if (c.2=false∧(numP c.1).2=0)∧(a.2=false∧(numP a.1).2=0)∧(b.2=false∧(numP b.1).2=0) then (attrsF s).map fun as=>((numP c.1).1,eS,(numP a.1).1,(numP b.1).1,as) else none:=by
 obtain ⟨c,x⟩:=c
 obtain ⟨a,y⟩:=a
 obtain ⟨b,z⟩:=b
 unfold restF
 rw [if_neg (by rw [hd];decide),if_pos h4]
 cases x
 ·cases y
  ·cases z
   ·by_cases h1:(numP c).2=0<;>by_cases h2:(numP a).2=0<;>by_cases h3:(numP b).2=0<;>simp [h1,h2,h3]
   ·simp
  ·simp
 ·simp
theorem restF_else (hd:datK k=false) (h4:k≠4) (r:List Fld):restF k r=(attrsF r).map fun as=>(0,eS,0,0,as):=by
 unfold restF
 rw [if_neg (by rw [hd];decide),if_neg h4]
theorem restF_no {r:List Fld} (h:r.length+2<firstK k∨(r.length+2 - firstK k) % 2≠0∨(∃ j,j<manyK k∧j<r.length∧((r.getD j f0).2=true∨(numP (r.getD j f0).1).2≠0))∨(∃ j,manyK k≤j∧j<r.length∧(r.getD j f0).2=false)):restF k r=none:=by
 by_cases hd:datK k=true
 ·have hm:manyK k=1:=if_pos hd
  have hf:firstK k=4:=by unfold firstK;rw [hm,if_pos hd]
  rw [hm,hf] at h
  match r,h with
  | [],_=>unfold restF;rw [if_pos hd]
  | [(c,b)],_=>unfold restF;rw [if_pos hd];cases b<;>rfl
  | c :: d :: s,h=>
   rw [restF_dat hd]
   split
   ·rename_i g
    have hs:attrsF s=none:=by
     rcases h with h | h | ⟨j,h1,h2,h3⟩ | ⟨j,h1,h2,h3⟩
     ·simp only [List.length_cons] at h;omega
     ·exact attrsF_odd _ s (Nat.le_refl _) (by simp only [List.length_cons] at h;omega)
     ·obtain rfl:j=0:=by omega
      rcases h3 with h3 | h3
      ·rw [show c.2=true from h3] at g;cases g.1
      ·exact absurd g.2.2 h3
     ·match j,h1,h2,h3 with
      | 1,_,_,h3=>rw [show d.2=false from h3] at g;cases g.2.1
      | j+2,_,h2,h3=>exact attrsF_bare _ s j (Nat.le_refl _) (by simp only [List.length_cons] at h2;omega) h3
    rw [hs];rfl
   ·rfl
 ·have hd:datK k=false:=Bool.not_eq_true _ ▸ hd
  have hdn:¬ datK k=true:=by rw [hd];decide
  by_cases h4:k=4
  ·have hm:manyK k=3:=(if_neg hdn).trans (if_pos h4)
   have hf:firstK k=5:=by unfold firstK;rw [hm,if_neg hdn]
   rw [hm,hf] at h
   match r,h with
   | [],_=>unfold restF;rw [if_neg hdn,if_pos h4]
   | [(c,x)],_=>unfold restF;rw [if_neg hdn,if_pos h4];cases x<;>rfl
   | [(c,x),(a,y)],_=>unfold restF;rw [if_neg hdn,if_pos h4];cases x<;>cases y<;>rfl
   | c :: a :: b :: s,h=>
    rw [restF_chr hd h4]
    split
    ·rename_i g
     have hs:attrsF s=none:=by
      rcases h with h | h | ⟨j,h1,h2,h3⟩ | ⟨j,h1,h2,h3⟩
      ·simp only [List.length_cons] at h;omega
      ·exact attrsF_odd _ s (Nat.le_refl _) (by simp only [List.length_cons] at h;omega)
      ·match j,h1,h3 with
       | 0,_,h3=>rcases h3 with h3 | h3;rw [show c.2=true from h3] at g;cases g.1.1;exact absurd g.1.2 h3
       | 1,_,h3=>rcases h3 with h3 | h3;rw [show a.2=true from h3] at g;cases g.2.1.1;exact absurd g.2.1.2 h3
       | 2,_,h3=>rcases h3 with h3 | h3;rw [show b.2=true from h3] at g;cases g.2.2.1;exact absurd g.2.2.2 h3
      ·match j,h1,h2,h3 with
       | j+3,_,h2,h3=>exact attrsF_bare _ s j (Nat.le_refl _) (by simp only [List.length_cons] at h2;omega) h3
     rw [hs];rfl
    ·rfl
  ·have hm:manyK k=0:=(if_neg hdn).trans (if_neg h4)
   have hf:firstK k=2:=by unfold firstK;rw [hm,if_neg hdn]
   rw [hm,hf] at h
   rw [restF_else hd h4]
   have hs:attrsF r=none:=by
    rcases h with h | h | ⟨j,h1,h2,h3⟩ | ⟨j,h1,h2,h3⟩
    ·omega
    ·exact attrsF_odd _ r (Nat.le_refl _) (by omega)
    ·omega
    ·exact attrsF_bare _ r j (Nat.le_refl _) h2 h3
   rw [hs];rfl
end
def lvalF (fs:List Fld) (m j:Nat):Int:=if j<m then (numP (fs.getD (2+j) f0).1).1 else 0
def pairsAt (fs:List Fld) (i m:Nat):List At.At:=(List.range m).map fun j=>(sB (fs.getD (i+2*j) f0).1,sB (fs.getD (i+2*j+1) f0).1)
theorem pairsAt_succ (fs:List Fld) (i m:Nat):pairsAt fs i (m+1)=pairsAt fs i m++[(sB (fs.getD (i+2*m) f0).1,sB (fs.getD (i+2*m+1) f0).1)]:=by
 unfold pairsAt
 rw [List.range_succ,List.map_append]
 rfl
theorem pairsAt_eq {fs s:List Fld} {i:Nat} (m:Nat) (h:∀ j,fs.getD (i+j) f0=s.getD j f0):pairsAt fs i m=pairsF s m:=by
 unfold pairsAt pairsF
 refine List.map_congr_left fun j _=>?_
 rw [h (2*j),Nat.add_assoc,h (2*j+1)]
theorem rf_ok {fs:List Fld} {k:Int} (h:HdF fs k) (hk:k≠0) (hl:firstK k≤fs.length) (he:(fs.length - firstK k) % 2=0) (hn:∀ j,j<manyK k→(fs.getD (2+j) f0).2=false∧(numP (fs.getD (2+j) f0).1).2=0) (hq:∀ j,2+manyK k≤j→j<fs.length→(fs.getD j f0).2=true) (hp:(pparseE (fs.getD 1 f0).1).2=0) :
  readF fs=some (⟨0,eS,k,pairsAt fs (firstK k) ((fs.length - firstK k) / 2),if datK k=true then sB (fs.getD (2+manyK k) f0).1 else eS,lvalF fs (manyK k) 1,lvalF fs (manyK k) 2,lvalF fs (manyK k) 0⟩,(pparseE (fs.getD 1 f0).1).1):=by
 obtain ⟨w,p,r,e0,e,e1,e2,e3⟩:=h.eq
 rw [e1] at hp⊢
 have hR:readF fs=(restF k r).map fun x=>(⟨0,eS,k,x.2.2.2.2,x.2.1,x.2.2.1,x.2.2.2.1,x.1⟩,(pparseE p).1):=by
  rw [e0,readF_eq,e,if_neg (fun g=>g.elim hk (fun g=>g hp))]
 rw [hR]
 by_cases hd:datK k=true
 ·have hm:manyK k=1:=if_pos hd
  have hf:firstK k=4:=by unfold firstK;rw [hm,if_pos hd]
  rw [hf] at hl he⊢
  rw [hm] at hn hq⊢
  match r,e0,e2,e3 with
  | [],_,_,e3=>simp only [List.length_nil] at e3;omega
  | [c],_,_,e3=>simp only [List.length_cons,List.length_nil] at e3;omega
  | c :: d :: s,e0,e2,e3=>
   have g0:=e2 0;have g1:=e2 1
   have g2:∀ j,fs.getD (4+j) f0=s.getD j f0:=fun j=>by rw [show 4+j=2+(j+2) by omega,e2];rfl
   have n0:=hn 0 (by omega)
   rw [g0] at n0
   have q1:=hq 3 (by omega) (by omega)
   rw [g1] at q1
   simp only [List.length_cons] at e3
   rw [restF_dat hd,if_pos ⟨n0.1,q1,n0.2⟩,attrsF_ok s.length s (Nat.le_refl _) (by omega) (fun j hj=>by rw [← g2];exact hq (4+j) (by omega) (by omega)),if_pos hd,pairsAt_eq _ g2,g1]
   unfold lvalF
   rw [if_neg (by omega),if_neg (by omega),if_pos (by omega),g0,show (fs.length - 4) / 2=s.length / 2 by omega]
   rfl
 ·have hd:datK k=false:=Bool.not_eq_true _ ▸ hd
  have hdn:¬ datK k=true:=by rw [hd];decide
  by_cases h4:k=4
  ·have hm:manyK k=3:=(if_neg hdn).trans (if_pos h4)
   have hf:firstK k=5:=by unfold firstK;rw [hm,if_neg hdn]
   rw [hf] at hl he⊢
   rw [hm] at hn hq⊢
   match r,e0,e2,e3 with
   | [],_,_,e3=>simp only [List.length_nil] at e3;omega
   | [c],_,_,e3=>simp only [List.length_cons,List.length_nil] at e3;omega
   | [c,a],_,_,e3=>simp only [List.length_cons,List.length_nil] at e3;omega
   | c :: a :: b :: s,e0,e2,e3=>
    have g0:=e2 0;have g1:=e2 1;have g3:=e2 2
    have g2:∀ j,fs.getD (5+j) f0=s.getD j f0:=fun j=>by rw [show 5+j=2+(j+3) by omega,e2];rfl
    have n0:=hn 0 (by omega)
    have n1:=hn 1 (by omega)
    have n2:=hn 2 (by omega)
    rw [g0] at n0
    rw [g1] at n1
    rw [g3] at n2
    simp only [List.length_cons] at e3
    rw [restF_chr hd h4,if_pos ⟨n0,n1,n2⟩,attrsF_ok s.length s (Nat.le_refl _) (by omega) (fun j hj=>by rw [← g2];exact hq (5+j) (by omega) (by omega)),if_neg hdn,pairsAt_eq _ g2]
    unfold lvalF
    rw [if_pos (by omega),if_pos (by omega),if_pos (by omega),g0,g1,g3,show (fs.length - 5) / 2=s.length / 2 by omega]
    rfl
  ·have hm:manyK k=0:=(if_neg hdn).trans (if_neg h4)
   have hf:firstK k=2:=by unfold firstK;rw [hm,if_neg hdn]
   rw [hf] at hl he⊢
   rw [hm] at hn hq⊢
   rw [restF_else hd h4,attrsF_ok r.length r (Nat.le_refl _) (by omega) (fun j hj=>by rw [← e2];exact hq (2+j) (by omega) (by omega)),if_neg hdn,pairsAt_eq _ e2]
   unfold lvalF
   rw [if_neg (by omega),if_neg (by omega),if_neg (by omega),show (fs.length - 2) / 2=r.length / 2 by omega]
   rfl
theorem nextR_bad {q:Bool} {r:Rd} (h:r.2=true):(nextR q r).2.2=true:=by
 unfold nextR
 split
 ·rfl
 ·split
  ·rfl
  ·exact h
theorem numR_bad {r:Rd} (h:r.2=true):(numR r).2.2=true:=by
 show ((nextR false r).2.2 || _)=true
 rw [nextR_bad h];rfl
theorem loopR_stop {k:Nat} {out:List At.At} {r:Rd} (h:¬ (r.1≠[]∧r.2=false)):loopR k out r=(out,r):=by
 cases k with
 | zero=>rfl
 | succ k=>rw [loopR,if_neg h]
theorem loopR_step {k:Nat} {out:List At.At} {r:Rd} (h1:r.1≠[]) (h2:r.2=false):loopR (k+1) out r=loopR k (out++[(sB (nextR true r).1,sB (nextR true (nextR true r).2).1)]) (nextR true (nextR true r).2).2:=by
 rw [loopR,if_pos ⟨h1,h2⟩]
theorem nextR_len {q:Bool} {r:Rd} (h:r.1≠[]):(nextR q r).2.2=true∨(nextR q r).2.1.length<r.1.length:=by
 unfold nextR
 split
 ·exact .inl rfl
 ·rename_i x t e
  split
  ·exact .inl rfl
  ·right
   rw [e]
   exact Nat.lt_succ_self _
theorem nextR_le (q:Bool) (r:Rd):(nextR q r).2.1.length≤r.1.length:=by
 unfold nextR
 split
 ·exact Nat.zero_le _
 ·rename_i x t e
  rw [e]
  split
  ·exact Nat.le_refl _
  ·exact Nat.le_succ _
theorem loopR_next {k:Nat} {r:Rd} (h1:r.1≠[]) (h2:r.2=false) (hk:r.1.length≤k+1):(nextR true (nextR true r).2).2.2=true∨(nextR true (nextR true r).2).2.1.length≤k:=by
 rcases nextR_len (q:=true) h1 with h | h
 ·exact .inl (nextR_bad h)
 ·have:=nextR_le true (nextR true r).2
  exact .inr (by omega)
theorem loop_spec:∀ (k:Nat) (fs:List Fld) (out:List At.At),fs.length≤k→(∀ as,attrsF fs=some as→loopR k out (fs,false)=(out++as,([],false)))∧(attrsF fs=none→(loopR k out (fs,false)).2.2=true)
 | k,[],out,_=>⟨fun as h=>by
   rw [loopR_stop (by simp)]
   injection h with h
   rw [← h,List.append_nil],fun h=>(nomatch h)⟩
 | 0,_ :: _,_,h=>absurd h (by simp)
 | k+1,[x],out,h=>⟨fun as h=>(nomatch h),fun _=>by
   rw [loopR_step (by simp) rfl]
   by_cases hx:x.2=true
   ·have e:nextR true ([x],false)=(x.1,([],false)):=if_neg (fun k=>k hx)
    rw [e]
    show (loopR k _ ([],true)).2.2=true
    rw [loopR_stop (by simp)]
   ·have e:nextR true ([x],false)=([],([x],true)):=if_pos hx
    rw [e,loopR_stop (fun k=>by rw [nextR_bad rfl] at k;exact absurd k.2 (by decide))]
    exact nextR_bad rfl⟩
 | k+1,x :: y :: r,out,h=>by
  rw [loopR_step (by simp) rfl]
  by_cases hx:x.2=true
  ·have e:nextR true (x :: y :: r,false)=(x.1,(y :: r,false)):=if_neg (fun k=>k hx)
   rw [e]
   by_cases hy:y.2=true
   ·have e2:nextR true (y :: r,false)=(y.1,(r,false)):=if_neg (fun k=>k hy)
    have ih:=loop_spec k r (out++[(sB x.1,sB y.1)]) (by simp only [List.length_cons] at h;omega)
    show (∀ as,attrsF (x :: y :: r)=some as→loopR k (out++[(sB x.1,sB (nextR true (y :: r,false)).1)]) (nextR true (y :: r,false)).2=_)∧(_→(loopR k (out++[(sB x.1,sB (nextR true (y :: r,false)).1)]) (nextR true (y :: r,false)).2).2.2=true)
    rw [e2]
    have ha:attrsF (x :: y :: r)=(attrsF r).map ((sB x.1,sB y.1) :: ·):=if_pos ⟨hx,hy⟩
    rw [ha]
    refine ⟨fun as h1=>?_,fun h1=>ih.2 (by cases h2:attrsF r with | none=>rfl | some z=>rw [h2] at h1;cases h1)⟩
    cases h2:attrsF r with
    | none=>rw [h2] at h1;cases h1
    | some z=>
     rw [h2] at h1
     injection h1 with h1
     rw [ih.1 z h2,← h1]
     simp
   ·have e2:nextR true (y :: r,false)=([],(y :: r,true)):=if_pos hy
    have ha:attrsF (x :: y :: r)=none:=if_neg (fun k=>hy k.2)
    refine ⟨fun as h1=>(by rw [ha] at h1;cases h1),fun _=>?_⟩
    show (loopR k (out++[(sB x.1,sB (nextR true (y :: r,false)).1)]) (nextR true (y :: r,false)).2).2.2=true
    rw [e2,loopR_stop (fun k=>by cases k.2)]
  ·have e:nextR true (x :: y :: r,false)=([],(x :: y :: r,true)):=if_pos hx
   have ha:attrsF (x :: y :: r)=none:=if_neg (fun k=>hx k.1)
   refine ⟨fun as h1=>(by rw [ha] at h1;cases h1),fun _=>?_⟩
   rw [e,loopR_stop (fun k=>by rw [nextR_bad rfl] at k;exact absurd k.2 (by decide))]
   exact nextR_bad rfl
def numL (k:Int) (r:Rd):Int×Rd:=if linkK k=true then numR r else (0,r)
def dataR (k:Int) (r:Rd):Bs×Rd:=if datK k=true then nextR true r else ([],r)
def num4 (k:Int) (r:Rd):Int×Rd:=if k=4 then numR r else (0,r)
def tailK (k:Int) (p:List ByteArray) (r:Rd):Nd×List ByteArray×Bool:=
 (⟨0,eS,k,(loopR (num4 k (num4 k (dataR k (numL k r).2).2).2).2.1.length [] (num4 k (num4 k (dataR k (numL k r).2).2).2).2).1,sB (dataR k (numL k r).2).1,(num4 k (dataR k (numL k r).2).2).1,(num4 k (num4 k (dataR k (numL k r).2).2).2).1,(numL k r).1⟩,p,!(loopR (num4 k (num4 k (dataR k (numL k r).2).2).2).2.1.length [] (num4 k (num4 k (dataR k (numL k r).2).2).2).2).2.2)
def readK (r0:Rd):Nd×List ByteArray×Bool:=
 tailK (kindOf (nextR false r0).1) (pparseE (nextR true (nextR false r0).2).1).1 ((nextR true (nextR false r0).2).2.1,((nextR true (nextR false r0).2).2.2 || decide (kindOf (nextR false r0).1=0)) || decide ((pparseE (nextR true (nextR false r0).2).1).2≠0))
theorem next_ff {s:Bs} {t:List Fld} {b:Bool}:nextR false ((s,false) :: t,b)=(s,(t,b)):=rfl
theorem next_tt {s:Bs} {t:List Fld} {b:Bool}:nextR true ((s,true) :: t,b)=(s,(t,b)):=rfl
theorem next_ft {s:Bs} {t:List Fld} {b:Bool}:nextR false ((s,true) :: t,b)=([],((s,true) :: t,true)):=rfl
theorem next_tf {s:Bs} {t:List Fld} {b:Bool}:nextR true ((s,false) :: t,b)=([],((s,false) :: t,true)):=rfl
theorem num_yes {s:Bs} {t:List Fld} {b:Bool}:numR ((s,false) :: t,b)=((numP s).1,(t,b || decide ((numP s).2≠0))):=by
 rfl
theorem loopR_bad {k:Nat} {out:List At.At} {r:Rd} (h:r.2=true):loopR k out r=(out,r):=loopR_stop (fun k=>by rw [h] at k;cases k.2)
theorem numL_bad {k:Int} {r:Rd} (h:r.2=true):(numL k r).2.2=true:=by unfold numL;split;exact numR_bad h;exact h
theorem dataR_bad {k:Int} {r:Rd} (h:r.2=true):(dataR k r).2.2=true:=by unfold dataR;split;exact nextR_bad h;exact h
theorem num4_bad {k:Int} {r:Rd} (h:r.2=true):(num4 k r).2.2=true:=by unfold num4;split;exact numR_bad h;exact h
theorem loop_bad {k:Nat} {r:Rd} (h:r.2=true):(!(loopR k [] r).2.2)=false:=by rw [loopR_bad h,h];rfl
theorem tailK_bad {k:Int} {p:List ByteArray} {r:Rd} (h:r.2=true):(tailK k p r).2.2=false:=loop_bad (num4_bad (num4_bad (dataR_bad (numL_bad h))))
theorem readK_bad {r:Rd} (h:(nextR true (nextR false r).2).2.2=true∨kindOf (nextR false r).1=0∨(pparseE (nextR true (nextR false r).2).1).2≠0):(readK r).2.2=false:=by
 refine tailK_bad ?_
 show ((_ || decide _) || decide _)=true
 rcases h with h | h | h
 ·rw [h];rfl
 ·rw [decide_eq_true h];simp
 ·rw [decide_eq_true h];simp
theorem tail_spec (k:Int) (p:List ByteArray) (r:List Fld):(tailK k p (r,false)).2.2=(restF k r).isSome∧∀ x,restF k r=some x→tailK k p (r,false)=(⟨0,eS,k,x.2.2.2.2,x.2.1,x.2.2.1,x.2.2.2.1,x.1⟩,p,true):=by
 have no:restF k r=none→(tailK k p (r,false)).2.2=false→(tailK k p (r,false)).2.2=(restF k r).isSome∧∀ x,restF k r=some x→tailK k p (r,false)=(⟨0,eS,k,x.2.2.2.2,x.2.1,x.2.2.1,x.2.2.2.1,x.1⟩,p,true):=fun h1 h2=>by
  rw [h1,h2]
  exact ⟨rfl,fun x h=>by cases h⟩
 have fin:∀ (s:List Fld) (cc:Int) (dd:ByteArray) (aa bb:Int),restF k r=(attrsF s).map (fun as=>(cc,dd,aa,bb,as))→tailK k p (r,false)=(⟨0,eS,k,(loopR s.length [] (s,false)).1,dd,aa,bb,cc⟩,p,!(loopR s.length [] (s,false)).2.2)→(tailK k p (r,false)).2.2=(restF k r).isSome∧∀ x,restF k r=some x→tailK k p (r,false)=(⟨0,eS,k,x.2.2.2.2,x.2.1,x.2.2.1,x.2.2.2.1,x.1⟩,p,true):=fun s cc dd aa bb h1 h2=>by
  have hs:=loop_spec s.length s [] (Nat.le_refl _)
  rw [h1,h2]
  cases h:attrsF s with
  | none=>
   rw [hs.2 h]
   exact ⟨rfl,fun x h=>by cases h⟩
  | some as=>
   rw [hs.1 as h]
   refine ⟨rfl,fun x h=>?_⟩
   injection h with h
   rw [← h];rfl
 by_cases hd:datK k=true
 ·have hk:k=2∨k=3:=of_decide_eq_true hd
  have hl:linkK k=true:=decide_eq_true (by omega)
  have h4:k≠4:=by omega
  have hN:∀ r,numL k r=numR r:=fun r=>if_pos hl
  have hD:∀ r,dataR k r=nextR true r:=fun r=>if_pos hd
  have h4' : ∀ r,num4 k r=(0,r):=fun r=>if_neg h4
  have bad:(nextR true (numR (r,false)).2).2.2=true→(tailK k p (r,false)).2.2=false:=fun h=>by
   refine loop_bad ?_
   rw [h4',h4',hD,hN]
   exact h
  match r,no,fin,bad with
  | [],no,_,bad=>exact no (if_pos hd) (bad (nextR_bad rfl))
  | (c,true) :: t,no,_,bad=>exact no (if_pos hd) (bad (nextR_bad rfl))
  | [(c,false)],no,_,bad=>exact no (if_pos hd) (bad (by rw [num_yes];rfl))
  | (c,false) :: (d,false) :: t,no,_,bad=>exact no (if_pos hd) (bad (by rw [num_yes,next_tf]))
  | (c,false) :: (d,true) :: s,no,fin,bad=>
   by_cases hc:(numP c).2≠0
   ·exact no ((if_pos hd).trans (if_pos hc)) (bad (by rw [num_yes,next_tt];show (false || decide ((numP c).2≠0))=true;rw [decide_eq_true hc];rfl))
   ·refine fin s (numP c).1 (sB d) 0 0 ((if_pos hd).trans (if_neg hc)) ?_
    unfold tailK
    rw [hN,num_yes,hD,decide_eq_false hc]
    dsimp only
    rw [next_tt,h4']
    dsimp only
    rw [h4']
    rfl
 ·have hd' : datK k=false:=Bool.not_eq_true _ ▸ hd
  have hD:∀ r,dataR k r=([],r):=fun r=>if_neg hd
  by_cases h4:k=4
  ·have hl:linkK k=true:=decide_eq_true (by omega)
   have hN:∀ r,numL k r=numR r:=fun r=>if_pos hl
   have h4' : ∀ r,num4 k r=numR r:=fun r=>if_pos h4
   have hR:∀ r,restF k r=_:=fun r=>(if_neg hd).trans (if_pos h4)
   have bad:(numR (numR (numR (r,false)).2).2).2.2=true→(tailK k p (r,false)).2.2=false:=fun h=>by
    refine loop_bad ?_
    rw [hN,hD,h4',h4']
    exact h
   have nn:∀ (c:Bs) (t:List Fld) (b:Bool),(numR ((c,true) :: t,b)).2.2=true:=fun c t b=>rfl
   match r,no,fin,bad with
   | [],no,_,bad=>exact no (hR _) (bad (numR_bad (numR_bad rfl)))
   | (c,true) :: t,no,_,bad=>exact no (hR _) (bad (numR_bad (numR_bad (nn c t false))))
   | [(c,false)],no,_,bad=>exact no (hR _) (bad (by rw [num_yes];exact numR_bad rfl))
   | (c,false) :: (a,true) :: t,no,_,bad=>exact no (hR _) (bad (by rw [num_yes];exact numR_bad (nn a t _)))
   | [(c,false),(a,false)],no,_,bad=>exact no (hR _) (bad (by rw [num_yes,num_yes];rfl))
   | (c,false) :: (a,false) :: (b,true) :: t,no,_,bad=>exact no (hR _) (bad (by rw [num_yes,num_yes];exact nn b t _))
   | (c,false) :: (a,false) :: (b,false) :: s,no,fin,bad=>
    by_cases hc:(numP c).2≠0∨(numP a).2≠0∨(numP b).2≠0
    ·refine no ((hR _).trans (if_pos hc)) (bad ?_)
     rw [num_yes,num_yes,num_yes]
     show (((_ || decide _) || decide _) || decide _)=true
     rcases hc with h | h | h
     ·rw [decide_eq_true h];simp
     ·rw [decide_eq_true h];simp
     ·rw [decide_eq_true h];simp
    ·refine fin s (numP c).1 eS (numP a).1 (numP b).1 ((hR _).trans (if_neg hc)) ?_
     have e1:numL k ((c,false) :: (a,false) :: (b,false) :: s,false)=((numP c).1,((a,false) :: (b,false) :: s,false)):=by
      rw [hN,num_yes,decide_eq_false (fun k=>hc (.inl k))];rfl
     have e2:num4 k ((a,false) :: (b,false) :: s,false)=((numP a).1,((b,false) :: s,false)):=by
      rw [h4',num_yes,decide_eq_false (fun k=>hc (.inr (.inl k)))];rfl
     have e3:num4 k ((b,false) :: s,false)=((numP b).1,(s,false)):=by
      rw [h4',num_yes,decide_eq_false (fun k=>hc (.inr (.inr k)))];rfl
     unfold tailK
     rw [e1,hD]
     dsimp only
     rw [e2]
     dsimp only
     rw [e3]
  ·have hl:¬ linkK k=true:=fun e=>by
    have:k=2∨k=3∨k=4:=of_decide_eq_true e
    have:¬ (k=2∨k=3):=of_decide_eq_false hd'
    omega
   have hN:∀ r,numL k r=(0,r):=fun r=>if_neg hl
   have h4' : ∀ r,num4 k r=(0,r):=fun r=>if_neg h4
   refine fin r 0 eS 0 0 ((if_neg hd).trans (if_neg h4)) ?_
   unfold tailK
   rw [hN,hD]
   dsimp only
   rw [h4']
   dsimp only
   rw [h4']
theorem readK_spec (fs:List Fld) (b:Bool) (hb:b=true→fs=[]):(readK (fs,b)).2.2=(readF fs).isSome∧∀ x,readF fs=some x→readK (fs,b)=(x.1,x.2,true):=by
 have no:readF fs=none→(readK (fs,b)).2.2=false→(readK (fs,b)).2.2=(readF fs).isSome∧∀ x,readF fs=some x→readK (fs,b)=(x.1,x.2,true):=fun h1 h2=>by
  rw [h1,h2]
  exact ⟨rfl,fun x h=>by cases h⟩
 match fs,hb,no with
 | [],_,no=>exact no rfl (readK_bad (.inl rfl))
 | (w,true) :: t,hb,no=>exact no rfl (readK_bad (.inl (nextR_bad rfl)))
 | [(w,false)],hb,no=>exact no rfl (readK_bad (.inl rfl))
 | (w,false) :: (p,false) :: r,hb,no=>exact no rfl (readK_bad (.inl rfl))
 | (w,false) :: (p,true) :: r,hb,no=>
  obtain rfl:b=false:=by cases b with | false=>rfl | true=>cases hb rfl
  by_cases h0:kindOf w=0∨(pparseE p).2≠0
  ·refine no (if_pos h0) (readK_bad ?_)
   rw [next_ff,next_tt]
   exact .inr h0
  have hF:readF ((w,false) :: (p,true) :: r)=(restF (kindOf w) r).map fun x=>(⟨0,eS,kindOf w,x.2.2.2.2,x.2.1,x.2.2.1,x.2.2.2.1,x.1⟩,(pparseE p).1):=if_neg h0
  have hK:readK ((w,false) :: (p,true) :: r,false)=tailK (kindOf w) (pparseE p).1 (r,false):=by
   unfold readK
   rw [next_ff]
   dsimp only
   rw [next_tt]
   dsimp only
   rw [decide_eq_false (fun k=>h0 (.inl k)),decide_eq_false (fun k=>h0 (.inr k))]
   rfl
  have hT:=tail_spec (kindOf w) (pparseE p).1 r
  rw [hF,hK]
  cases h:restF (kindOf w) r with
  | none=>
   rw [h] at hT
   exact ⟨hT.1,fun x h=>by cases h⟩
  | some z=>
   rw [h] at hT
   refine ⟨hT.1,fun x h=>?_⟩
   injection h with h
   rw [← h]
   exact hT.2 z rfl
end Go.Proofs.YtalmoocpebhoiaaGreatDoor.Br
namespace Go.Proofs.YtalmoocpebhoiaaGreatDoor.Am
open Go.RowKit Lw
section
variable {P:Program} {T:Tys} {K:Nat→Bool} {o:Oper} {st:AS}
theorem m_aggIdx1 (hT:T.Ok P) {t e n:Nat} {te:TI} {x i:Operand} {as:List A1} {b:A1} {ik:IntKind} {z:Int} (ho:o.op = .index t x i) (hu:P.underlying t=some (.array n e)) (he:tlook T e=some te) (hagg:te.agg=false) (hsz:te.size=1) (hx:aop st x=some (.g as)) (hi:aop st i=some (.o (.c (.int ik z)))) (hb:as[z.toNat]? = some b) (hr:0≤z∧z<n):StepTo P K o st (· = st.put o.dst (.o b)):=by
 intro X S ν a w Q K' hd sat hk
 obtain ⟨⟨us,e1,r1⟩,hlt⟩:=aop_ok sat hx
 have hz:a.eval i = .int ik z:=(aop_ok sat hi).1.1
 obtain ⟨u,hu1,hu2⟩:=r1.get hb
 obtain ⟨ht2,hid⟩:=hT.get he
 obtain ⟨d,hu3,_,hrow⟩:=ht2.und
 rw [hid] at hu3
 have ha:(isAgg e).run P w = .ok false w:=by
  unfold isAgg
  rw [Sem.run_bind,run_underlying hu3 w]
  rw [hagg] at hrow
  cases d<;>simp_all [TypeDesc.isRow]
 refine wp_value (w':=w) (u:=u) ?_ (hk _ S ν _ _ rfl (sat.put hd (v:=.o b) hu2 (hlt b (List.mem_of_getElem? hb))) ⟨Nat.le_refl _,fun _ h=>h,fun ch hc hk=>⟨by rw [(AS.put_hp _ _ _).1];exact hc,rfl⟩,fun _ _=>rfl⟩)
 unfold execOp
 rw [ho]
 simp [Instr.index,asIntOf,Sem.run_bind,Sem.run_pure,Result.andThen_ok,run_underlying hu w,e1,hz,hr,run_sizeOf' hT he w,part,ha,hsz,hu1]
end
end Go.Proofs.YtalmoocpebhoiaaGreatDoor.Am
namespace Go.Proofs.YtalmoocpebhoiaaGreatDoor.Br
open At
def ordI (av:Nat→Int) (x y:Nat):Int:=if av x - av y≠0 then av x - av y else (x:Int) - y
def minL (av:Nat→Int):Nat→List Nat→Nat
 | m,[]=>m
 | m,x :: r=>if ordI av x m<0 then minL av x r else minL av m r
theorem ord_lt {av:Nat→Int} {x y:Nat}:ordI av x y<0↔av x<av y∨(av x=av y∧x<y):=by
 unfold ordI
 split<;>omega
theorem minL_spec (av:Nat→Int):∀ (r:List Nat) (m:Nat),(minL av m r=m∨minL av m r∈r)∧¬ ordI av m (minL av m r)<0∧∀ x∈r,¬ ordI av x (minL av m r)<0
 | [],m=>⟨.inl rfl,by rw [ord_lt];unfold minL;omega,fun x h=>nomatch h⟩
 | y :: r,m=>by
  unfold minL
  split
  ·rename_i h
   obtain ⟨h1,h2,h3⟩:=minL_spec av r y
   refine ⟨.inr (h1.elim (fun e=>by rw [e];exact List.mem_cons_self ..) (List.mem_cons_of_mem _)),?_,fun x hx=>?_⟩
   ·rw [ord_lt] at h h2⊢;omega
   ·rcases List.mem_cons.1 hx with e | e
    ·rw [e];exact h2
    ·exact h3 x e
  ·rename_i h
   obtain ⟨h1,h2,h3⟩:=minL_spec av r m
   refine ⟨h1.elim .inl (fun e=>.inr (List.mem_cons_of_mem _ e)),h2,fun x hx=>?_⟩
   rcases List.mem_cons.1 hx with e | e
   ·rw [e]
    rw [ord_lt] at h h2⊢;omega
   ·exact h3 x e
def minN (av:Nat→Int):List Nat→Nat
 | []=>0
 | m :: r=>minL av m r
theorem minN_eq {av:Nat→Int} {l:List Nat} {i:Nat} (hi:i∈l):minN av l=i↔∀ k∈l,¬ ordI av k i<0:=by
 cases l with
 | nil=>exact nomatch hi
 | cons m r=>
  obtain ⟨h1,h2,h3⟩:=minL_spec av r m
  show minL av m r=i↔_
  constructor
  ·rintro rfl k hk
   rcases List.mem_cons.1 hk with e | e
   ·rw [e];exact h2
   ·exact h3 k e
  ·intro h
   have h4:¬ ordI av (minL av m r) i<0:=h _ (h1.elim (fun e=>by rw [e];exact List.mem_cons_self ..) (List.mem_cons_of_mem _))
   have h5:¬ ordI av i (minL av m r)<0:=by
    rcases List.mem_cons.1 hi with e | e
    ·rw [e];exact h2
    ·exact h3 i e
   rw [ord_lt] at h4 h5
   omega
theorem minL_snoc (av:Nat→Int) (x:Nat):∀ (r:List Nat) (m:Nat),minL av m (r++[x])=if ordI av x (minL av m r)<0 then x else minL av m r
 | [],m=>by
  rw [List.nil_append,minL,minL]
  split<;>rfl
 | y :: r,m=>by
  rw [List.cons_append,minL,minL]
  split
  ·exact minL_snoc av x r y
  ·exact minL_snoc av x r m
theorem first_min {l:List Bn} {n:Int} {i:Nat} (hi:i<l.length) (hn:aboveI (nds l) i=n):decide (minN (aboveI (nds l)) (namesL l i)=i)=firstP l n i:=by
 have hm:i∈namesL l i:=idxs_mem.2 ⟨hi,by unfold namesP;simp⟩
 unfold firstP
 rw [Bool.eq_iff_iff,decide_eq_true_eq,minN_eq hm,List.all_eq_true]
 refine forall_congr' fun k=>forall_congr' fun hk=>?_
 rw [ord_lt,Bool.or_eq_true,Bool.and_eq_true,decide_eq_true_eq,decide_eq_true_eq,decide_eq_true_eq,hn]
 omega
end Go.Proofs.YtalmoocpebhoiaaGreatDoor.Br
namespace Go.Proofs.YtalmoocpebhoiaaGreatDoor.Br
open At Wo
open Am (sB sB_size sB_ext sB_inj sB_app)
theorem headT_parts:∀ (s acc:Bs),headT (partsG 10 acc s)=acc++s++[10]
 | [],acc=>by simp [partsG,headT]
 | x :: r,acc=>by
  rw [partsG]
  split
  ·rename_i e
   have ih:=headT_parts r []
   unfold headT at ih⊢
   rw [List.flatMap_cons,ih,e]
   simp
  ·rw [headT_parts r (acc++[x])]
   simp
theorem lines_text {s:Bs} (h:(linesI s).2=0):headT (linesI s).1=s:=by
 unfold linesI at h⊢
 split
 ·rename_i k;rw [if_pos k] at h;cases h
 rename_i k1
 rw [if_neg k1] at h
 split
 ·rename_i k;rw [k];rfl
 rename_i k2
 rw [if_neg k2] at h
 split
 ·rename_i k;rw [if_pos k] at h;cases h
 rename_i k3
 rw [if_neg k3] at h
 split
 ·rename_i k;rw [if_pos k] at h;cases h
 dsimp only
 have hp:0<s.length:=List.length_pos_iff.2 k2
 rw [headT_parts,List.nil_append]
 have hl:s.getD (s.length - 1) 0=10:=Decidable.not_not.1 k3
 conv=>rhs;rw [← List.take_append_drop (s.length - 1) s]
 congr 1
 rw [cut_drop (by omega),hl,List.drop_of_length_le (by omega)]
theorem headT_take_le (L:List Bs) (k:Nat):(headT (L.take k)).length≤(headT L).length:=by
 have:headT L=headT (L.take k)++headT (L.drop k):=by
  unfold headT
  rw [← List.flatMap_append,List.take_append_drop]
 rw [this,List.length_append]
 exact Nat.le_add_right _ _
end Go.Proofs.YtalmoocpebhoiaaGreatDoor.Br
namespace Go.Proofs.YtalmoocpebhoiaaGreatDoor.Am
open Go.RowKit Lw
section
variable {κ:Type} [DecidableEq κ] {val:κ→Value} {w:World} {S:Nat→Prop} {agg:Bool} {d:TypeDesc}
variable {F:Fence} {P:Program} {T:Tys} {X:Cx} {S:Nat→Prop} {ν:Nat→Value} {st:AS} {a:Act} {w:World} {o:Oper} {K:Nat→Bool} {Q:Exit→Act→World→Prop}
variable {κ:Type} [DecidableEq κ] {d:TypeDesc}
theorem m_mpGet2 (M:MpKind κ d) {t kt et:TypeId} {x k:Operand} {id:Nat} {es:List (κ×List DC)} {key:κ} {row:List DC} {av:A1} {rest:List Chunk} (ho:o.op = .lookup t x k true) (hu:P.underlying t=some (.map kt et)) (hkt:P.underlying kt=some d)
  (hx:aop st x=some (.o (.own id))) (hkey:aop st k=some (.o (.c (M.val key)))) (htk:takeObj (fun _=>true) st.hp id=some (M.tell es,rest)) (hg:getM es key=some row) (hrow:entA M.agg row=some (.o av)) :
  StepTo P K o st (· = st.put o.dst (.t [.inl av,.inl (.c (.bool true))])):=by
 intro X S ν a w Q K' hd sat hk
 obtain ⟨e1,e2⟩:=(aop_ok sat hx).1
 have hk1:a.eval k=M.val key:=(aop_ok sat hkey).1.1
 obtain ⟨hp,_⟩:=takeObj_perm htk
 obtain ⟨b,o',_,h2,h3,h1⟩:=sat.hp _ (hp.symm.subset (List.mem_cons_self ..))
 have hm:ν id = .map (some b):=h1 (M.map _)
 obtain ⟨arr,cl,rfl,hall⟩:=(M.ok _ _ _ _).1 h3
 rcases find_ent M.inj M.key key es arr.toList 0 hall with ⟨g1,g2,g3⟩ | ⟨j,r0,y,g1,g2,g3,g4,g5,g6⟩
 ·rw [g2] at hg;cases hg
 ·rw [g4] at hg;cases hg
  obtain ⟨r1,r2⟩:=entA_ok (ν:=ν) (m:=st.nid) hrow g5
  refine wp_value (w':=w) (u:=.tuple #[y.val,.bool true]) ?_ (hk _ S ν _ _ rfl (sat.put hd (v:=.t [.inl av,.inl (.c (.bool true))]) ⟨[y.val,.bool true],rfl,r1,⟨rfl,rfl⟩,trivial⟩ (fun x hx=>by
   rcases List.mem_cons.1 hx with rfl | hx
   ·exact r2
   ·rcases List.mem_cons.1 hx with rfl | hx
    ·trivial
    ·cases hx)) ⟨Nat.le_refl _,fun _ h=>h,fun ch hc hk=>⟨by rw [(AS.put_hp _ _ _).1];exact hc,rfl⟩,fun _ _=>rfl⟩)
  unfold execOp
  rw [ho]
  simp [Instr.lookup,e1,hm,hk1,run_underlying hu,Go.MapKept.run_getObj_map h2,Go.MapKept.run_checkKey hkt (M.key key),Go.MapKept.run_findKey hkt g1,Result.andThen]
theorem m_mpNone2 (hT:T.Ok P) (M:MpKind κ d) {t kt et:TypeId} {x k:Operand} {id:Nat} {es:List (κ×List DC)} {key:κ} {te:TI} {z:Value} {rest:List Chunk} (ho:o.op = .lookup t x k true) (hu:P.underlying t=some (.map kt et)) (hkt:P.underlying kt=some d)
  (hx:aop st x=some (.o (.own id))) (hkey:aop st k=some (.o (.c (M.val key)))) (htk:takeObj (fun _=>true) st.hp id=some (M.tell es,rest)) (hg:getM es key=none) (he:tlook T et=some te) (hz:te.zero=[z]) (hna:te.agg=false) :
  StepTo P K o st (· = st.put o.dst (.t [.inl (.c z),.inl (.c (.bool false))])):=by
 intro X S ν a w Q K' hd sat hk
 obtain ⟨e1,e2⟩:=(aop_ok sat hx).1
 have hk1:a.eval k=M.val key:=(aop_ok sat hkey).1.1
 obtain ⟨hp,_⟩:=takeObj_perm htk
 obtain ⟨b,o',_,h2,h3,h1⟩:=sat.hp _ (hp.symm.subset (List.mem_cons_self ..))
 have hm:ν id = .map (some b):=h1 (M.map _)
 obtain ⟨arr,cl,rfl,hall⟩:=(M.ok _ _ _ _).1 h3
 rcases find_ent M.inj M.key key es arr.toList 0 hall with ⟨g1,g2,g3⟩ | ⟨j,r0,y,g1,g2,g3,g4,g5,g6⟩
 ·obtain ⟨hti,hid⟩:=hT.get he
  obtain ⟨i,zv,i1,_,_,i4,i5,i6,_,i7,_⟩:=hti.info
  rw [hid] at i1
  have hzz:zv=z∧z.oneCell' = true:=by
   have h1:=i7 hna
   rw [hz] at i5
   have:zv.cells = #[zv]:=by cases zv<;>first | rfl | cases h1
   rw [this] at i5
   cases i5
   exact ⟨rfl,h1⟩
  obtain ⟨rfl,hz1⟩:=hzz
  refine wp_value (w':=w) (u:=.tuple #[zv,.bool false]) ?_ (hk _ S ν _ _ rfl (sat.put hd (v:=.t [.inl (.c zv),.inl (.c (.bool false))]) ⟨[zv,.bool false],rfl,⟨rfl,hz1⟩,⟨rfl,rfl⟩,trivial⟩ (fun x hx=>by
   rcases List.mem_cons.1 hx with rfl | hx
   ·trivial
   ·rcases List.mem_cons.1 hx with rfl | hx
    ·trivial
    ·cases hx)) ⟨Nat.le_refl _,fun _ h=>h,fun ch hc hk=>⟨by rw [(AS.put_hp _ _ _).1];exact hc,rfl⟩,fun _ _=>rfl⟩)
  unfold execOp
  rw [ho]
  simp [Instr.lookup,e1,hm,hk1,run_underlying hu,Go.MapKept.run_getObj_map h2,Go.MapKept.run_checkKey hkt (M.key key),Go.MapKept.run_findKey hkt g1,Result.andThen,zeroValue,typeInfo,i1,i4]
 ·rw [g4] at hg;cases hg
end
end Go.Proofs.YtalmoocpebhoiaaGreatDoor.Am
namespace Go.Proofs.YtalmoocpebhoiaaGreatDoor.Br
open At
section
variable {l:List Bn} {n:Nat}
end
end Go.Proofs.YtalmoocpebhoiaaGreatDoor.Br
namespace Go.Proofs.YtalmoocpebhoiaaGreatDoor.Am
open Go.RowKit Lw
section
variable {P:Program}
theorem law_callsG {f:FuncId} {args:List AV} {takes:List Chunk} {m M:Nat} {w:World} {vs:List Value} {gives:Unit→List Chunk} (hst:allStat takes=true) (hcon:Con P f args takes m M (fun _:Unit=>True) (fun _=>.o (.c (.bool true))) gives) (h:All2 (AV.rel w (· < w.heap.size) (fun _=>undef)) args vs)
  (ht:∀ c∈takes,c.holds w (· < w.heap.size) (fun _=>undef)):Calls P f vs.toArray w fun e w'=>e = .returned (.bool true)∧Below w.heap.size w w':=by
 have e0:blks (fun _=>undef) takes=[]:=allStat_blks hst
 refine Calls.mono (hcon.call w _ _ vs h ht (by rw [e0];exact List.nodup_nil) (fun b hb=>by rw [e0] at hb;exact nomatch hb) fun b hb=>hb) fun e w' ⟨x,S',ν',u,ha⟩=>⟨by rw [ha.e,show u = .bool true from ha.res.1],⟨ha.fr.os,ha.fr.tape,ha.fr.output,ha.fr.size,fun k hk=>ha.fr.block k hk fun hm=>?_⟩⟩
 rw [e0] at hm;exact nomatch hm
theorem stat_of_var {w:World} {P:Program} {name:String} {g sz:Nat} {cs:Array Value} {ν:Nat→Value} {cell:Nat→DC} (i:Nat) (hv:w.var? P name=some cs) (hg:P.globalNamed name=some g) (hs:cs.size=sz) (hc:∀ j u,j<sz→cs[j]? = some u→(cell j).rel w (· < w.heap.size) u):(Chunk.stat i g sz cell).holds w (· < w.heap.size) ν:=by
 have h0:=hv
 unfold World.var? at hv
 rw [hg] at hv
 simp only [Option.bind_some] at hv
 split at hv
 ·rename_i cs' T fr hh
  cases hv
  have hlt:g<w.heap.size:=(Array.getElem?_eq_some_iff.1 hh).1
  refine ⟨hlt,hlt,fun j hj=>?_,_,_,_,hh,hs⟩
  have h1:=World.var?_cell hg h0 j
  have h2:cs[j]? = some cs[j]:=Array.getElem?_eq_getElem (by omega)
  rw [h2] at h1
  exact ⟨_,h1,hc j _ hj h2⟩
 ·cases hv
end
end Go.Proofs.YtalmoocpebhoiaaGreatDoor.Am
