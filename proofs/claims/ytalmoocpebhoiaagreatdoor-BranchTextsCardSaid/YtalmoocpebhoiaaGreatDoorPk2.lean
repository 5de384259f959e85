/- Texts of this claim, joined. -/
import Derived.Test.YtalmoocpebhoiaaGreatDoorPk1
import Derived.Lib.AppendZerosOnto
import Derived.Lib.AppendZeros
import Derived.Laws.CopyRow
import Derived.Lib.Join
import Derived.Sort.LoopGhostIn
import Derived.RangeFuncFrom
import Derived.RangeFuncCalls
import Derived.OrdersHeld
import Derived.OrdersIn
set_option linter.unusedSimpArgs false
set_option linter.unusedVariables false
set_option maxRecDepth 20000
set_option maxHeartbeats 8000000
namespace Go.Proofs.YtalmoocpebhoiaaGreatDoor.Am
open Go.RowKit Lw
section
variable {P:Program} {T:Tys} {X:Cx} {S:Nat→Prop} {ν:Nat→Value} {st:AS} {a:Act} {w w' : World} {o:Oper} {av:AV} {ps:List Prop} {K Kf:Nat→Bool}
attribute [local irreducible] maxLen
def setRngC (ct:Ct) (p:Nat) (src:Ct):Ct:=⟨max ct.n (p+src.n),fun i j=>if p≤i∧i<p+src.n then src.cell (i - p) j else ct.cell i j⟩
def partC (c:Ct) (p n:Nat):Ct:=⟨n,fun i j=>c.cell (p+i) j⟩
def headC (c:Ct) (n:Nat):Ct:=⟨n,c.cell⟩
theorem splice_get {α:Type} {l vs:List α} {o:Nat} (h:o+vs.length≤l.length) (k:Nat):(l.take o++vs++l.drop (o+vs.length))[k]? = if o≤k∧k<o+vs.length then vs[k - o]? else l[k]?:=by
 have h1:(l.take o).length=o:=by rw [List.length_take];omega
 by_cases c1:k<o
 ·rw [if_neg (by omega),List.append_assoc,List.getElem?_append_left (by omega),List.getElem?_take,if_pos c1]
 ·by_cases c2:k<o+vs.length
  ·rw [if_pos (by omega),List.append_assoc,List.getElem?_append_right (by omega),h1,List.getElem?_append_left (by omega)]
  ·rw [if_neg (by omega),List.getElem?_append_right (by rw [List.length_append];omega),List.length_append,h1,List.getElem?_drop]
   congr 1;omega
theorem splice_length {α:Type} {l vs:List α} {o:Nat} (h:o+vs.length≤l.length):(l.take o++vs++l.drop (o+vs.length)).length=l.length:=by
 simp only [List.length_append,List.length_take,List.length_drop];omega
theorem own_at {E sz n N c g:Nat} {v:Value} {xs:List Value} (h:w.ownsRow 0 E sz v n xs) (hv:v = .slice (some ⟨g,0,none⟩) N c):N=n∧∃ cur:Array Value,w.heap[g]? = some (.cells cur E (0,0))∧n≤c∧c≤maxLen∧cur.size=c*sz∧cur.toList.take (n*sz)=xs∧xs.length=n*sz:=by
 subst hv
 obtain ⟨hl,hor⟩:=h
 rcases hor with ⟨e,_⟩ | ⟨g',cap',cur,e,_,hg,hnc,hcm,hcs,htake⟩
 ·cases e
 injection e with e4 e2 e3
 injection e4 with e4
 injection e4 with e4
 subst e4;subst e3
 exact ⟨e2,cur,hg,hnc,hcm,hcs,htake,hl⟩
def viewA (id j:Nat):A1→A1
 | .vw i sz off n k=>match Nat.beq i id with
  | true=>.vw j sz off n k
  | false=>.vw i sz off n k
 | .optr i sz k off=>match Nat.beq i id with
  | true=>.optr j sz k off
  | false=>.optr i sz k off
 | a=>a
def viewL (id j:Nat):List A1→List A1
 | []=>[]
 | a :: as=>viewA id j a :: viewL id j as
def viewV (id j:Nat):AV→AV
 | .o a=>.o (viewA id j a)
 | .g as=>.g (viewL id j as)
 | v=>v
def viewE (id j:Nat):Env→Env
 | []=>[]
 | (t,v) :: e=>(t,viewV id j v) :: viewE id j e
theorem viewA_rel {id j g N M C:Nat} (h1:ν id = .slice (some ⟨g,0,none⟩) N C) (h2:ν j = .slice (some ⟨g,0,none⟩) M C) {a:A1} {u:Value} (h:a.rel w S ν u):(viewA id j a).rel w S ν u:=by
 unfold viewA
 split
 ·split
  ·rename_i hi
   have hi:=Nat.eq_of_beq_eq_true hi
   subst hi
   obtain ⟨g',N',q,o,e1,e2,e3,e4,e5⟩:=h
   rw [h1] at e1
   cases e1
   exact ⟨g,M,C,o,h2,e2,e3,e4,e5⟩
  ·exact h
 ·split
  ·rename_i hi
   have hi:=Nat.eq_of_beq_eq_true hi
   subst hi
   obtain ⟨g',N',q,e1,e2⟩:=h
   rw [h1] at e1
   cases e1
   exact ⟨g,M,C,h2,e2⟩
  ·exact h
 ·exact h
theorem viewA_lt {id j m:Nat} (hj:j<m) {a:A1} (h:a.lt m):(viewA id j a).lt m:=by
 unfold viewA
 split
 ·split
  ·exact hj
  ·exact h
 ·split
  ·exact hj
  ·exact h
 ·exact h
theorem viewL_rel {id j g N M C:Nat} (h1:ν id = .slice (some ⟨g,0,none⟩) N C) (h2:ν j = .slice (some ⟨g,0,none⟩) M C):∀ {as:List A1} {us:List Value},All2 (A1.rel w S ν) as us→All2 (A1.rel w S ν) (viewL id j as) us
 | [],[],_=>trivial
 | _ :: _,_ :: _,⟨a1,a2⟩=>⟨viewA_rel h1 h2 a1,viewL_rel h1 h2 a2⟩
 | [],_ :: _,h=>h.elim
 | _ :: _,[],h=>h.elim
theorem viewL_lt {id j m:Nat} (hj:j<m):∀ {as:List A1},(∀ a∈as,a.lt m)→∀ a∈viewL id j as,a.lt m
 | _ :: _,h,x,hx=>by
  rcases List.mem_cons.1 hx with rfl | hx
  ·exact viewA_lt hj (h _ (List.mem_cons_self ..))
  ·exact viewL_lt hj (fun a ha=>h a (List.mem_cons_of_mem _ ha)) x hx
theorem viewV_rel {id j g N M C:Nat} (h1:ν id = .slice (some ⟨g,0,none⟩) N C) (h2:ν j = .slice (some ⟨g,0,none⟩) M C) {v:AV} {u:Value} (h:v.rel w S ν u):(viewV id j v).rel w S ν u:=by
 cases v with
 | o a=>exact viewA_rel (w:=w) (S:=S) h1 h2 h
 | g as=>obtain ⟨us,e,r⟩:=h;exact ⟨us,e,viewL_rel h1 h2 r⟩
 | t xs=>exact h
theorem viewV_lt {id j m:Nat} (hj:j<m) {v:AV} (h:v.lt m):(viewV id j v).lt m:=by
 cases v with
 | o a=>exact viewA_lt hj h
 | g as=>exact viewL_lt hj h
 | t xs=>exact h
theorem viewE_mem {id j:Nat}:∀ {e:Env} {p:Nat×AV},p∈viewE id j e→∃ v,(p.1,v)∈e∧p.2=viewV id j v
 | (t,v) :: e,p,h=>by
  rcases List.mem_cons.1 h with rfl | h
  ·exact ⟨v,List.mem_cons_self ..,rfl⟩
  ·obtain ⟨v,h1,h2⟩:=viewE_mem h
   exact ⟨v,List.mem_cons_of_mem _ h1,h2⟩
theorem Sat.reenv {e e' : Env} {hp:List Chunk} {n:Nat} (h:Sat X S ν ⟨e,hp,n⟩ a w) (he:∀ p∈e',∃ v,(p.1,v)∈e∧(∀ u,v.rel w S ν u→p.2.rel w S ν u)∧(v.lt n→p.2.lt n)):Sat X S ν ⟨e',hp,n⟩ a w:=
 ⟨h.defers,h.size,fun p hp=>let ⟨v,h1,h2,_⟩:=he p hp;⟨(h.env _ h1).1,h2 _ (h.env _ h1).2⟩,h.hp,h.nd,h.blk,h.imm,h.imm0,h.frame,fun p hp=>let ⟨_,h1,_,h3⟩:=he p hp;h3 (h.elt _ h1),h.hlt,h.fix,h.ge⟩
theorem write_step {id E sz g N C p:Nat} {ct src:Ct} {rest:List Chunk} {vs:List Value} {u:Value} {x:A1} (hd:∀ d,o.dst=some d→d<X.N) (sat:Sat X S ν st a w) (htk:takeOwn (fun i=>!K i) st.hp id=some (E,sz,ct,rest))
  (hν:ν id = .slice (some ⟨g,0,none⟩) N C) (hlen:vs.length=src.n*sz) (hp1:p≤ct.n) (hin:p+src.n≤C) (hrows:∀ i j,i<src.n→j<sz→∃ u,vs[i*sz+j]? = some u∧(src.cell i j).rel w S u) (hl:x.lt (st.nid+1)) (hv:∀ w' ν',ν' st.nid = .slice (some ⟨g,0,none⟩) (max ct.n (p+src.n)) C→x.rel w' S ν' u) :
  ∃ cur:Array Value,w.heap[g]? = some (.cells cur E (0,0))∧p*sz+vs.length≤cur.size∧(∀ v∈vs,v.oneCell' = true)∧∀ {K' : Act→World→Prop},(∀ st' S' ν' a' w',st' = (AS.mk (viewE id st.nid st.env) (.own st.nid E sz (setRngC ct p src) :: rest) (st.nid+1)).put o.dst (.o x)→Sat X S' ν' st' a' w'→Kp K S S' ν ν' st st' w w'→K' a' w')→
   K' (a.put o.dst u) (w.setRow g (cur.toList.take (p*sz)++vs++cur.toList.drop (p*sz+vs.length)).toArray):=by
 obtain ⟨hp,hK⟩:=takeOwn_perm htk
 have hm:Chunk.own id E sz ct∈st.hp:=hp.symm.subset (List.mem_cons_self ..)
 obtain ⟨xs,h1,h2⟩:=sat.hp _ hm
 have hlt:=sat.hlt _ hm
 obtain ⟨hN,cur,hg,hnc,hcm,hcs,htake,hxl⟩:=own_at h1 hν
 have hb0:p*sz+src.n*sz≤C*sz:=by rw [← Nat.add_mul];exact Nat.mul_le_mul_right _ hin
 have hb1:ct.n*sz≤C*sz:=Nat.mul_le_mul_right _ hnc
 have hone:∀ v∈vs,v.oneCell' = true:=rows_one hlen hrows
 refine ⟨cur,hg,by omega,hone,fun {K'} hk=>?_⟩
 have hbk:(Chunk.own id E sz ct).blk ν=some g:=by simp [Chunk.blk,hν,Value.ownBlock]
 have hblk:blks ν [Chunk.own id E sz ct]=[g]:=by simp [blks,hbk]
 have hbs:=sat.blk g (mem_blks.2 ⟨_,hm,hbk⟩)
 have hroom:p*sz+vs.length≤cur.toList.length:=by rw [Array.length_toList (xs:=cur)];omega
 obtain ⟨L,hL⟩:∃ L,L=cur.toList.take (p*sz)++vs++cur.toList.drop (p*sz+vs.length):=⟨_,rfl⟩
 have hLl:L.length=cur.size:=by rw [hL,splice_length hroom,Array.length_toList]
 have hLg:∀ k,L[k]? = if p*sz≤k∧k<p*sz+vs.length then vs[k - p*sz]? else cur.toList[k]?:=fun k=>by rw [hL];exact splice_get hroom k
 rw [← hL]
 have gr:Gr w (w.setRow g L.toArray) S S:=⟨by rw [size_setRow];exact Nat.le_refl _,fun k hs _=>setRow_other _ _ _ _ fun e=>hbs.2.1 (by rw [← e];exact hs),fun _ h=>h⟩
 obtain ⟨M,hM⟩:∃ M,M=max ct.n (p+src.n):=⟨_,rfl⟩
 obtain ⟨ν',hν'⟩:∃ ν',ν' = upd ν st.nid (.slice (some ⟨g,0,none⟩) M C):=⟨_,rfl⟩
 have hνs:ν' st.nid = .slice (some ⟨g,0,none⟩) M C:=by rw [hν'];exact upd_same _ _ _
 have hνl:∀ i,i<st.nid→ν' i=ν i:=fun i hi=>by rw [hν'];exact upd_lt i hi
 have hMn:M*sz≤C*sz:=Nat.mul_le_mul_right _ (by omega)
 have hper:=hp
 have hK' : ∀ ch∈[Chunk.own id E sz ct],K ch.id=false:=fun ch hc=>by rw [List.mem_singleton.1 hc];show K id=false;simpa using hK
 have hfr:Fr (fun b=>b∈blks ν [Chunk.own id E sz ct]) w (w.setRow g L.toArray):=⟨rfl,rfl,rfl,by rw [size_setRow];exact Nat.le_refl _,fun k hk hn=>setRow_other _ _ _ _ fun e=>hn (by rw [hblk,e];simp)⟩
 have hS' : ∀ k,S k→k<(w.setRow g L.toArray).heap.size∧(S k∨w.heap.size≤k∨k∈blks ν [Chunk.own id E sz ct]):=fun k hs=>⟨by rw [size_setRow];exact (sat.imm k hs).1,.inl hs⟩
 have hgv:∀ ch∈[Chunk.own st.nid E sz (setRngC ct p src)],ch.holds (w.setRow g L.toArray) S ν':=fun ch hc=>by
  rw [List.mem_singleton.1 hc]
  refine ⟨L.take (M*sz),⟨?_,.inr ⟨g,C,L.toArray,by rw [hνs,hM];rfl,Nat.zero_le _,setRow_heap w g cur _ E (0,0) hg,by show max ct.n (p+src.n)≤C;omega,hcm,?_,by rw [hM];rfl⟩⟩,fun i j hi hj=>?_⟩
  ·rw [List.length_take,hLl,hcs];show _=max ct.n (p+src.n)*sz;rw [← hM];omega
  ·rw [List.size_toArray,hLl,hcs]
  ·have hi:i<max ct.n (p+src.n):=hi
   rw [← hM] at hi
   have hb1:(i+1)*sz≤M*sz:=Nat.mul_le_mul_right _ hi
   rw [Nat.add_mul,Nat.one_mul] at hb1
   rw [List.getElem?_take,if_pos (by omega),hLg]
   simp only [setRngC]
   by_cases hc1:p≤i∧i<p+src.n
   ·have hm1:p*sz≤i*sz:=Nat.mul_le_mul_right _ hc1.1
    have hm2:(i+1)*sz≤(p+src.n)*sz:=Nat.mul_le_mul_right _ hc1.2
    rw [Nat.add_mul,Nat.add_mul,Nat.one_mul] at hm2
    rw [if_pos (c:=p≤i∧i<p+src.n) hc1,if_pos (by omega)]
    obtain ⟨u,u1,u2⟩:=hrows (i - p) j (by omega) hj
    refine ⟨u,?_,DC.mono gr u2⟩
    rw [← u1];congr 1;rw [Nat.sub_mul];omega
   ·rw [if_neg (c:=p≤i∧i<p+src.n) hc1,if_neg ?_]
    ·have hi2:i<ct.n:=by omega
     have hb2:(i+1)*sz≤ct.n*sz:=Nat.mul_le_mul_right _ hi2
     rw [Nat.add_mul,Nat.one_mul] at hb2
     obtain ⟨u,u1,u2⟩:=h2 i j hi2 hj
     refine ⟨u,?_,DC.mono gr u2⟩
     rw [← htake,List.getElem?_take,if_pos (by omega)] at u1;exact u1
    ·rintro ⟨c2,c3⟩
     apply hc1
     constructor
     ·rcases Nat.lt_or_ge i p with c | c
      ·have:(i+1)*sz≤p*sz:=Nat.mul_le_mul_right _ c
       rw [Nat.add_mul,Nat.one_mul] at this;omega
      ·exact c
     ·rcases Nat.lt_or_ge i (p+src.n) with c | c
      ·exact c
      ·have:(p+src.n)*sz≤i*sz:=Nat.mul_le_mul_right _ c
       rw [Nat.add_mul] at this;omega
 have hgb:∀ b∈blks ν' [Chunk.own st.nid E sz (setRngC ct p src)],b<(w.setRow g L.toArray).heap.size∧¬ S b∧(b∈blks ν [Chunk.own id E sz ct]∨w.heap.size≤b):=fun k hk=>by
  have:k=g:=by simpa [blks,Chunk.blk,hνs,Value.ownBlock] using hk
  subst this
  exact ⟨by rw [size_setRow];exact hbs.1,hbs.2.1,.inl (by rw [hblk];simp)⟩
 have hgn:(blks ν' [Chunk.own st.nid E sz (setRngC ct p src)]).Nodup:=by simp [blks,Chunk.blk,hνs,Value.ownBlock]
 have hgl:∀ ch∈[Chunk.own st.nid E sz (setRngC ct p src)],ch.lt (st.nid+1):=fun ch hc=>by rw [List.mem_singleton.1 hc];exact Nat.lt_succ_self _
 have s1:=sat.swap (nid:=st.nid+1) hper hfr hνl (fun _ h=>h) hS' hgv hgn hgb hgl (Nat.le_succ _)
 obtain ⟨_,s2⟩:=swap_kp (o:=o) (av:=.o (.sb true)) (u:=.bool true) (nid:=st.nid+1) (K:=K) hd sat hper hK' hfr hνl (fun _ h=>h) hS' hgv hgn hgb hgl (Nat.le_succ _) rfl trivial
 have hν0:ν' id = .slice (some ⟨g,0,none⟩) N C:=by rw [hνl id hlt];exact hν
 have s3:=s1.reenv (e':=viewE id st.nid st.env) fun p hp=>by
  obtain ⟨v,h1,h2⟩:=viewE_mem hp
  exact ⟨v,h1,fun u hu=>by rw [h2];exact viewV_rel hν0 hνs hu,fun hl=>by rw [h2];exact viewV_lt (Nat.lt_succ_self _) hl⟩
 refine hk _ S ν' _ _ rfl (s3.put hd (hv _ _ (by rw [hνs,hM])) hl) ⟨s2.size,s2.sub,fun ch hc hkk=>?_,s2.blk⟩
 have:=s2.hp ch hc hkk
 rw [(AS.put_hp _ _ _).1] at this⊢
 exact this
theorem src_vw {id E sz off n k:Nat} {ct:Ct} {v:Value} {xs:List Value} (h:w.ownsRow 0 E sz (ν id) ct.n xs) (hr:∀ i j,i<ct.n→j<sz→∃ u,xs[i*sz+j]? = some u∧(ct.cell i j).rel w S u) (hv:(A1.vw id sz off n k).rel w S ν v) (hin:off+n≤ct.n):Src w S sz ⟨n,fun i j=>ct.cell (off+i) j⟩ v:=by
 obtain ⟨g,N,q,o,e1,rfl,h1,h2,h3⟩:=hv
 rw [e1] at h
 obtain ⟨hl,hor⟩:=h
 rcases hor with ⟨e,_⟩ | ⟨g',cap',cur,e,_,hg,hnc,hcm,hcs,htake⟩
 ·cases e
 injection e with e4 e2 e3
 injection e4 with e4
 injection e4 with e4
 subst e4;subst e3
 have e2:N=ct.n:=e2
 subst e2
 have hb1:off*sz+n*sz≤ct.n*sz:=by rw [← Nat.add_mul];exact Nat.mul_le_mul_right _ (by omega)
 have hnl:((xs.drop (off*sz)).take (n*sz)).length=n*sz:=by rw [List.length_take,List.length_drop];omega
 have hget:∀ j u,((xs.drop (off*sz)).take (n*sz))[j]? = some u→xs[off*sz+j]? = some u:=fun j u hu=>by
  rw [List.getElem?_take] at hu
  split at hu
  ·rwa [List.getElem?_drop] at hu
  ·cases hu
 have hcell:∀ j u,xs[j]? = some u→w.cell? ⟨g,j,none⟩=some u:=fun j u hu=>by
  have hg' : w.heap[g]? = some (.cells cur.toList.toArray E (0,0)):=by simpa using hg
  have hj:=(List.getElem?_eq_some_iff.1 hu).1
  rw [← htake,List.getElem?_take,if_pos (by omega)] at hu
  exact row_at hg' hu
 have hrr:∀ i j,i<n→j<sz→∃ u,((xs.drop (off*sz)).take (n*sz))[i*sz+j]? = some u∧(ct.cell (off+i) j).rel w S u:=fun i j hi hj=>by
  obtain ⟨u,u1,u2⟩:=hr (off+i) j (by omega) hj
  have hb2:(i+1)*sz≤n*sz:=Nat.mul_le_mul_right _ hi
  rw [Nat.add_mul,Nat.one_mul] at hb2
  refine ⟨u,?_,u2⟩
  rw [List.getElem?_take,if_pos (by omega),List.getElem?_drop,← u1]
  congr 1
  rw [Nat.add_mul];omega
 refine ⟨some ⟨g,o,none⟩,k,(xs.drop (off*sz)).take (n*sz),rfl,h1,(by have:=hcm;omega),(fun e=>nomatch e),hnl,rows_one hnl hrr,(fun hn=>⟨g,o,rfl,?_,fun j u hu=>?_⟩),hrr⟩
 ·exact (Array.getElem?_eq_some_iff.1 hg).1
 ·rw [h3 (by have hn:0<n:=hn;omega)]
  exact hcell _ _ (hget j u hu)
theorem vw_at {id sz off n k:Nat} {u:Value} (h:(A1.vw id sz off n k).rel w S ν u):∃ g N q o,ν id = .slice (some ⟨g,0,none⟩) N q∧u = .slice (some ⟨g,o,none⟩) n k∧n≤k∧off+k=q∧(0<k→o=off*sz):=h
theorem Src.cut {sz k:Nat} {ct:Ct} {v:Value} (h:Src w S sz ct v) (hk:k≤ct.n):∃ (A:Option Addr) (c:Nat) (news:List Value),v = .slice A ct.n c∧(A=none→k=0)∧news.length=k*sz∧(∀ b,A=some b→∀ j u,news[j]? = some u→w.cell? (b.add j)=some u)∧∀ i j,i<k→j<sz→∃ u,news[i*sz+j]? = some u∧(ct.cell i j).rel w S u:=by
 obtain ⟨A,c,news,e1,e2,e3,e4,e5,e6,e7,e8⟩:=h
 have hb:k*sz≤ct.n*sz:=Nat.mul_le_mul_right _ hk
 have hget:∀ j u,(news.take (k*sz))[j]? = some u→news[j]? = some u∧j<k*sz:=fun j u hu=>by
  rw [List.getElem?_take] at hu
  split at hu
  ·exact ⟨hu,by assumption⟩
  ·cases hu
 refine ⟨A,c,news.take (k*sz),e1,fun hA=>by have:=e4 hA;omega,by rw [List.length_take];omega,fun b hA j u hu=>?_,fun i j hi hj=>?_⟩
 ·obtain ⟨h1,h2⟩:=hget j u hu
  have hn:0<ct.n:=by
   rcases Nat.eq_zero_or_pos k with hz | hz
   ·subst hz;omega
   ·omega
  obtain ⟨b',off,f1,f2,f3⟩:=e7 hn
  rw [hA] at f1
  cases f1
  have:=f3 j u h1
  rwa [show (⟨b',off,none⟩:Addr).add j=⟨b',off+j,none⟩ from add_none' ..]
 ·have hb2:(i+1)*sz≤k*sz:=Nat.mul_le_mul_right _ hi
  rw [Nat.add_mul,Nat.one_mul] at hb2
  obtain ⟨u,u1,u2⟩:=e8 i j (by omega) hj
  exact ⟨u,by rw [List.getElem?_take,if_pos (by omega)];exact u1,u2⟩
theorem run_first {size k n c:Nat} {A:Option Addr} {news:List Value} (hA:A=none→k=0) (hl:news.length=k*size) (h:∀ b,A=some b→∀ j u,news[j]? = some u→w.cell? (b.add j)=some u):(Builtin.firstCells size k (.slice A n c)).run P w = .ok news.toArray w:=by
 cases A with
 | none=>
  obtain rfl:=hA rfl
  have:news=[]:=List.eq_nil_of_length_eq_zero (by omega)
  subst this
  exact run_firstCells_none ..
 | some b=>exact run_firstCells_some (P:=P) w size k b n c news hl (h b rfl)
theorem sizeOf_run (hT:T.Ok P) {e:TypeId} {te:TI} (he:tlook T e=some te) (w:World):(sizeOf e).run P w = .ok te.size w:=run_sizeOf' hT he w
def SrcOk (st:AS) (sz:Nat) (v:AV) (src:Ct):Prop:=∀ (X:Cx) (S:Nat→Prop) (ν:Nat→Value) (a:Act) (w:World) (x:Operand),Sat X S ν st a w→aop st x=some v→Src w S sz src (a.eval x)
def srcX (hp:List Chunk) (sz:Nat) (v:AV):Option (Ct×List Prop):=
 match v with
 | .o (.vw id sz' off n _)=>match findOwn (fun _=>true) hp id with
  | some (_,sz'',ct)=>match Nat.beq sz sz',Nat.beq sz sz'' with
   | true,true=>some (partC ct off n,[off+n≤ct.n])
   | _,_=>none
  | none=>none
 | v=>match srcOf hp sz v with
  | some ct=>some (ct,[])
  | none=>none
theorem srcX_ok {sz:Nat} (hsz:0<sz) {v:AV} {src:Ct} (h:srcX st.hp sz v=some (src,ps)) (hps:∀ p∈ps,p):SrcOk st sz v src:=by
 intro X S ν a w x sat hx
 unfold srcX at h
 split at h
 ·split at h
  ·rename_i hown
   split at h
   ·rename_i hs hs2
    cases h
    have hs:=Nat.eq_of_beq_eq_true hs
    have hs2:=Nat.eq_of_beq_eq_true hs2
    subst hs;subst hs2
    obtain ⟨xs,o1,o2⟩:=sat.hp _ (findOwn_ok hown).1
    exact src_vw o1 o2 (aop_ok sat hx).1 (hps _ (List.mem_cons_self ..))
   ·cases h
  ·cases h
 ·split at h
  ·rename_i hsrc
   cases h
   exact srcOf_ok sat (fun _ h=>h) hsz hx hsrc
  ·cases h
def CutOk (st:AS) (sz:Nat) (v:AV) (m k:Nat) (src:Ct):Prop:=∀ (X:Cx) (S:Nat→Prop) (ν:Nat→Value) (a:Act) (w:World) (x:Operand),Sat X S ν st a w→aop st x=some v→
 ∃ (A:Option Addr) (c:Nat) (news:List Value),a.eval x = .slice A m c∧(A=none→k=0)∧news.length=k*sz∧(∀ b,A=some b→∀ j u,news[j]? = some u→w.cell? (b.add j)=some u)∧∀ i j,i<k→j<sz→∃ u,news[i*sz+j]? = some u∧(src.cell i j).rel w S u
def cutX (hp:List Chunk) (sz:Nat) (v:AV) (n:Nat):Option (Nat×Ct×List Prop):=
 match v with
 | .o (.vw id sz' off m _)=>match findOwn (fun _=>true) hp id with
  | some (_,sz'',ct)=>match Nat.beq sz sz',Nat.beq sz sz'' with
   | true,true=>some (m,partC ct off (min m n),[off+min m n≤ct.n])
   | _,_=>none
  | none=>none
 | v=>match srcOf hp sz v with
  | some ct=>some (ct.n,headC ct (min ct.n n),[])
  | none=>none
theorem src_vw' {id E sz off n k q:Nat} {ct:Ct} {v:Value} {xs:List Value} (h:w.ownsRow 0 E sz (ν id) ct.n xs) (hr:∀ i j,i<ct.n→j<sz→∃ u,xs[i*sz+j]? = some u∧(ct.cell i j).rel w S u) (hv:(A1.vw id sz off n k).rel w S ν v) (hq:q≤n) (hin:off+q≤ct.n) :
  ∃ (A:Option Addr) (c:Nat) (news:List Value),v = .slice A n c∧(A=none→q=0)∧news.length=q*sz∧(∀ b,A=some b→∀ j u,news[j]? = some u→w.cell? (b.add j)=some u)∧∀ i j,i<q→j<sz→∃ u,news[i*sz+j]? = some u∧(ct.cell (off+i) j).rel w S u:=by
 obtain ⟨g,N,C,o,e1,rfl,h1,h2,h3⟩:=hv
 have hv' : (A1.vw id sz off q k).rel w S ν (.slice (some ⟨g,o,none⟩) q k):=⟨g,N,C,o,e1,rfl,by omega,h2,h3⟩
 obtain ⟨A,c,news,f1,f2,f3,f4,f5⟩:=(src_vw h hr hv' hin).cut (k:=q) (Nat.le_refl _)
 cases f1
 exact ⟨_,_,news,rfl,f2,f3,f4,f5⟩
theorem cutX_ok {sz n m:Nat} (hsz:0<sz) {v:AV} {src:Ct} (h:cutX st.hp sz v n=some (m,src,ps)) (hps:∀ p∈ps,p):CutOk st sz v m (min m n) src∧src.n=min m n:=by
 unfold cutX at h
 split at h
 ·split at h
  ·rename_i hown
   split at h
   ·rename_i hs hs2
    cases h
    refine ⟨?_,rfl⟩
    intro X S ν a w x sat hx
    have hs:=Nat.eq_of_beq_eq_true hs
    have hs2:=Nat.eq_of_beq_eq_true hs2
    subst hs;subst hs2
    obtain ⟨xs,o1,o2⟩:=sat.hp _ (findOwn_ok hown).1
    exact src_vw' o1 o2 (aop_ok sat hx).1 (Nat.min_le_left ..) (hps _ (List.mem_cons_self ..))
   ·cases h
  ·cases h
 ·split at h
  ·rename_i hsrc
   cases h
   refine ⟨?_,rfl⟩
   intro X S ν a w x sat hx
   obtain ⟨A,c,news,f1,f2,f3,f4,f5⟩:=(srcOf_ok sat (fun _ h=>h) hsz hx hsrc).cut (k:=min _ n) (Nat.min_le_left ..)
   exact ⟨A,c,news,f1,f2,f3,f4,f5⟩
  ·cases h
theorem m_copy (hT:T.Ok P) {c:Call} {d s:Operand} {t t' e:Nat} {te:TI} {id sz off n k E:Nat} {vs:AV} {m:Nat} {ct src:Ct} {rest:List Chunk} (ho:o.op = .call c) (hc:c.callee = .builtin .copy) (hx:c.args.toList=[d,s]) (ht:c.argTypes.toList=[t,t'])
  (hu:P.underlying t=some (.slice e)) (he:tlook T e=some te) (hd1:aop st d=some (.o (.vw id sz off n k))) (hsz:sz=te.size) (htk:takeOwn (fun i=>!K i) st.hp id=some (E,sz,ct,rest)) (hs:aop st s=some vs) (hsrc:CutOk st sz vs m (min m n) src) (hsn:src.n=min m n) (hoff:off≤ct.n) :
  StepTo P K o st (· = (AS.mk (viewE id st.nid st.env) (.own st.nid E sz (setRngC ct off src) :: rest) (st.nid+1)).put o.dst (.o (.c (.int .i64 (min m n:Nat))))):=by
 intro X S ν a w Q K' hd sat hk
 obtain ⟨hd2,hd3⟩:=aop_ok sat hd1
 obtain ⟨g,N,C,oo,v1,v2,v3,v4,v5⟩:=vw_at (w:=w) (S:=S) hd2
 have hpos:=(hT.get he).1.pos
 obtain ⟨A,c',news,e1,e2,e3,e4,e5⟩:=hsrc X S ν a w s sat hs
 rw [← hsn] at e5
 obtain ⟨cur,w1,w2,w4,w5⟩:=write_step (K:=K) (src:=src) (p:=off) (vs:=news) (x:=.c (.int .i64 (min m n:Nat))) (u:=.int .i64 (min m n:Nat)) hd sat htk v1 (by rw [hsn];exact e3) hoff (by rw [hsn];omega) e5 trivial (fun _ _ _=>⟨rfl,rfl⟩)
 obtain ⟨cs,ex⟩:=exec_builtin (a:=a) ho hc hx (show c.argTypes = #[t,t'] by rw [← Array.toList_inj];exact ht)
 refine wp_value (w':=w.setRow g (cur.toList.take (off*sz)++news++cur.toList.drop (off*sz+news.length)).toArray) (u:=.int .i64 (min m n:Nat)) ?_ (w5 hk)
 rw [ex]
 simp only [builtin,List.map_cons,List.map_nil,Sem.run_bind,v2,e1]
 have hst:(storeCells (⟨g,oo,none⟩:Addr) news 0).run P w = .ok () (w.setRow g (cur.toList.take (off*sz)++news++cur.toList.drop (off*sz+news.length)).toArray):=by
  rcases Nat.eq_zero_or_pos k with hz | hz
  ·have hmin:min m n=0:=by omega
   have:news=[]:=List.eq_nil_of_length_eq_zero (by rw [e3,hmin];simp)
   subst this
   simp only [storeCells,List.append_nil,List.length_nil,Nat.add_zero,List.take_append_drop,Array.toArray_toList]
   rw [setRow_self w g cur E (0,0) w1]
   rfl
  ·rw [v5 hz]
   have:=run_storeCells_at P g (off*sz) E news 0 cur w w1 (by simpa using w2) w4
   simpa using this
 have hff:=run_first (P:=P) (size:=te.size) (n:=m) (c:=c') e2 (by rw [e3,hsz]) e4
 have hsl:=sizeOf_run hT he w
 have hff' : (Builtin.firstCells te.size (m.min n) (.slice A m c')).run P w = .ok news.toArray w:=hff
 simp [Builtin.copy_,run_underlying hu,Builtin.lenOf,hsl,hff',hst]
 rfl
theorem m_appIn (hT:T.Ok P) {c:Call} {d s:Operand} {t e:Nat} {te:TI} {id sz off n k E:Nat} {vs:AV} {ct src:Ct} {rest:List Chunk} (ho:o.op = .call c) (hc:c.callee = .builtin .append) (hx:c.args.toList=[d,s]) (ht:c.argTypes.toList=[t,t])
  (hu:P.underlying t=some (.slice e)) (he:tlook T e=some te) (hd1:aop st d=some (.o (.vw id sz off n k))) (hsz:sz=te.size) (htk:takeOwn (fun i=>!K i) st.hp id=some (E,sz,ct,rest)) (hs:aop st s=some vs) (hsrc:SrcOk st sz vs src) (hroom:n+src.n≤k) (hoff:off+n≤ct.n) :
  StepTo P K o st (· = (AS.mk (viewE id st.nid st.env) (.own st.nid E sz (setRngC ct (off+n) src) :: rest) (st.nid+1)).put o.dst (.o (.vw st.nid sz off (n+src.n) k))):=by
 intro X S ν a w Q K' hd sat hk
 obtain ⟨hd2,hd3⟩:=aop_ok sat hd1
 obtain ⟨g,N,C,oo,v1,v2,v3,v4,v5⟩:=vw_at (w:=w) (S:=S) hd2
 have hpos:=(hT.get he).1.pos
 obtain ⟨A,c',news,e1,e2,e3,e4,e5⟩:=(hsrc X S ν a w s sat hs).cut (k:=src.n) (Nat.le_refl _)
 obtain ⟨cur,w1,w2,w4,w5⟩:=write_step (K:=K) (src:=src) (p:=off+n) (vs:=news) (x:=.vw st.nid sz off (n+src.n) k) (u:=.slice (some ⟨g,oo,none⟩) (n+src.n) k) hd sat htk v1 e3 hoff (by omega) e5 (Nat.lt_succ_self _) (fun _ ν' h=>⟨g,_,C,oo,h,rfl,hroom,v4,v5⟩)
 obtain ⟨cs,ex⟩:=exec_builtin (a:=a) ho hc hx (show c.argTypes = #[t,t] by rw [← Array.toList_inj];exact ht)
 refine wp_value (w':=w.setRow g (cur.toList.take ((off+n)*sz)++news++cur.toList.drop ((off+n)*sz+news.length)).toArray) (u:=.slice (some ⟨g,oo,none⟩) (n+src.n) k) ?_ (w5 hk)
 rw [ex]
 simp only [builtin,List.map_cons,List.map_nil,Sem.run_bind,v2,e1]
 have hst:(storeCells ((⟨g,oo,none⟩:Addr).add (n*te.size)) news 0).run P w = .ok () (w.setRow g (cur.toList.take ((off+n)*sz)++news++cur.toList.drop ((off+n)*sz+news.length)).toArray):=by
  rcases Nat.eq_zero_or_pos k with hz | hz
  ·have hmin:src.n=0:=by omega
   have:news=[]:=List.eq_nil_of_length_eq_zero (by rw [e3,hmin];simp)
   subst this
   simp only [storeCells,List.append_nil,List.length_nil,Nat.add_zero,List.take_append_drop,Array.toArray_toList]
   rw [setRow_self w g cur E (0,0) w1]
   rfl
  ·have:=run_storeCells_at P g ((off+n)*sz) E news 0 cur w w1 (by simpa using w2) w4
   rw [v5 hz,← hsz,show (⟨g,off*sz,none⟩:Addr).add (n*sz)=⟨g,(off+n)*sz,none⟩ by rw [Nat.add_mul,add_none']]
   simpa using this
 have hff:=run_first (P:=P) (size:=te.size) (n:=src.n) (c:=c') e2 (by rw [e3,hsz]) e4
 have hsl:=sizeOf_run hT he w
 simp [Builtin.append_,run_underlying hu,Builtin.lenOf,hsl,hroom,hff,hst]
theorem m_appendX (hT:T.Ok P) {c:Call} {s x:Operand} {t e:Nat} {te:TI} {vd vs:AV} {ct src:Ct} {rest:List Chunk} (ho:o.op = .call c) (hc:c.callee = .builtin .append) (hx:c.args.toList=[s,x]) (ht:c.argTypes.toList=[t,t])
  (hu:P.underlying t=some (.slice e)) (he:tlook T e=some te) (hs:aop st s=some vd) (hd1:Dest K te.size e st vd ct rest) (hv:aop st x=some vs) (hsrc:SrcOk st te.size vs src) (hby:1≤te.bytes) (hlim:(ct.n+src.n)*te.bytes≤140737488355328) :
  StepTo P K o st (· = st.new rest (fun i=>.own i e te.size (appC ct src)) o.dst (.own st.nid)):=by
 intro X S ν a w Q K' hd sat hk
 obtain ⟨takes,xs,d1,d2,d3,d4,d5,d6⟩:=dest_ok sat hs hd1
 have hsz:=(hT.get he).1.pos
 obtain ⟨A,c',news,e1,e2,e3,e4,e5,e6,e7,e8⟩:=hsrc X S ν a w x sat hv
 have hle:ct.n+src.n≤(ct.n+src.n)*te.bytes:=Nat.le_mul_of_pos_right _ hby
 exact wp_apps (w0:=w) s x t e te.size te.bytes (call_args ho hc hx ht) (slTy hT hu he) 0 ct.n (a.eval s) xs A src.n c' news rfl e1 e4 d4 (Below.refl _ _) (Nat.zero_le _) e5 (fun h=>let ⟨b,off,h1,_,h2⟩:=e7 h;⟨b,off,h1,h2⟩) e6 e2 hlim (by unfold maxLen at e3;omega)
  fun v' w' ha=>app_step hd sat d1 d2 d3 rfl rfl d4.1 d5 e8 ha hk
theorem setL_z {zero:List Value} {k i j:Nat} (hz:0<zero.length) (hi:i<k) (hj:j<zero.length):(Builtin.zeroCells zero.toArray k).toList[i*zero.length+j]? = zero[j]?:=by
 have h1:(i+1)*zero.length≤k*zero.length:=Nat.mul_le_mul_right _ hi
 rw [Nat.add_mul,Nat.one_mul] at h1
 have h2:(i*zero.length+j) % zero.length=j:=by
  rw [Nat.add_comm,Nat.add_mul_mod_self_right,Nat.mod_eq_of_lt hj]
 unfold Builtin.zeroCells
 rw [Array.getElem?_toList,Array.getElem?_map,List.size_toArray,Array.getElem?_range,if_pos (by omega)]
 simp only [Option.map_some,h2]
 rw [List.getElem?_eq_getElem hj]
 simp [hj]
theorem zero_rows {zero:List Value} {sz k:Nat} (hz:zero.length=sz) (hpos:0<sz) (h1:∀ v∈zero,v.oneCell' = true):(Builtin.zeroCells zero.toArray k).toList.length=k*sz∧∀ i j,i<(zeroC k zero).n→j<sz→∃ u,(Builtin.zeroCells zero.toArray k).toList[i*sz+j]? = some u∧((zeroC k zero).cell i j).rel w S u:=by
 subst hz
 refine ⟨by simp [Builtin.zeroCells],fun i j hi hj=>?_⟩
 refine ⟨zero[j],by rw [setL_z (k:=k) hpos hi hj,List.getElem?_eq_getElem hj],?_⟩
 have:∀ {l:List Value} {j:Nat} (hj:j<l.length),nthD (l.map DC.c) j = .c l[j]:=by
  intro l
  induction l with
  | nil=>intro j hj;exact absurd hj (Nat.not_lt_zero _)
  | cons v l ih=>
   intro j hj
   cases j with
   | zero=>rfl
   | succ j=>exact ih (Nat.lt_of_succ_lt_succ hj)
 show (nthD (zero.map DC.c) j).rel w S _
 rw [this hj]
 exact ⟨rfl,h1 _ (List.getElem_mem hj)⟩
theorem m_clear (hT:T.Ok P) {c:Call} {d:Operand} {t e:Nat} {te:TI} {id sz off n k E:Nat} {ct:Ct} {rest:List Chunk} (ho:o.op = .call c) (hdst:o.dst=none) (hc:c.callee = .builtin .clear) (hx:c.args.toList=[d]) (ht:c.argTypes.toList=[t])
  (hu:P.underlying t=some (.slice e)) (he:tlook T e=some te) (hd1:aop st d=some (.o (.vw id sz off n k))) (hsz:sz=te.size) (htk:takeOwn (fun i=>!K i) st.hp id=some (E,sz,ct,rest)) (hoff:off≤ct.n) :
  StepTo P K o st (· = ⟨viewE id st.nid st.env,.own st.nid E sz (setRngC ct off (zeroC n te.zero)) :: rest,st.nid+1⟩):=by
 intro X S ν a w Q K' hd sat hk
 obtain ⟨hd2,hd3⟩:=aop_ok sat hd1
 obtain ⟨g,N,C,oo,v1,v2,v3,v4,v5⟩:=vw_at (w:=w) (S:=S) hd2
 have hpos:=(hT.get he).1.pos
 obtain ⟨i,z,e1,e2,e3,e4,e5,e7,e6,_⟩:=(hT.get he).1.info
 rw [(hT.get he).2] at e1
 obtain ⟨r1,r2⟩:=zero_rows (w:=w) (S:=S) (k:=n) (zero:=te.zero) (sz:=sz) (by rw [hsz,e6]) (by omega) e7
 obtain ⟨cur,w1,w2,w4,w5⟩:=write_step (K:=K) (src:=zeroC n te.zero) (p:=off) (x:=.sb true) (u:=.bool true) hd sat htk v1 (by rw [r1];rfl) hoff (by show off+n≤_;omega) r2 trivial (fun _ _ _=>rfl)
 obtain ⟨cs,ex⟩:=exec_builtin (a:=a) ho hc hx (show c.argTypes = #[t] by rw [← Array.toList_inj];exact ht)
 rw [hdst] at w5
 have hst:(Builtin.clear_ #[t] o.type #[.slice (some ⟨g,oo,none⟩) n k]).run P w = .ok (.tuple #[]) (w.setRow g (cur.toList.take (off*sz)++(Builtin.zeroCells te.zero.toArray n).toList++cur.toList.drop (off*sz+(Builtin.zeroCells te.zero.toArray n).toList.length)).toArray):=by
  have hz5:z.cells=te.zero.toArray:=by rw [← Array.toList_inj,e5]
  rcases Nat.eq_zero_or_pos n with hz | hz
  ·subst hz
   have:(Builtin.zeroCells te.zero.toArray 0).toList=[]:=by simp [Builtin.zeroCells]
   rw [this]
   simp only [List.append_nil,List.length_nil,Nat.add_zero,List.take_append_drop,Array.toArray_toList]
   rw [setRow_self w g cur E (0,0) w1]
   simp [Builtin.clear_,run_underlying hu]
  ·obtain ⟨n,rfl⟩:∃ m,n=m+1:=⟨n - 1,by omega⟩
   have:=run_storeCells_at P g (off*sz) E (Builtin.zeroCells te.zero.toArray (n+1)).toList 0 cur w w1 (by simpa using w2) w4
   rw [v5 (by omega)]
   have hst:(storeCells (⟨g,off*sz,none⟩:Addr) (Builtin.zeroCells te.zero.toArray (n+1)).toList 0).run P w = .ok () (w.setRow g (cur.toList.take (off*sz)++(Builtin.zeroCells te.zero.toArray (n+1)).toList++cur.toList.drop (off*sz+(Builtin.zeroCells te.zero.toArray (n+1)).toList.length)).toArray):=by simpa using this
   simp [Builtin.clear_,run_underlying hu,zeroValue,typeInfo,e1,e4,hz5,hst]
 have hdst' : ∀ (u:Value),a.put o.dst u=a:=fun u=>by rw [hdst];rfl
 unfold Oper.wp
 rw [ex]
 simp only [builtin,List.map_cons,List.map_nil,Sem.run_bind,v2,hst,Result.andThen_ok,Sem.run_pure]
 have:=w5 hk
 simpa [Oper.upon,hdst,Act.put,AS.put] using this
theorem grow_step (hT:T.Ok P) {e m old:Nat} {te:TI} {i:TypeInfo} {z:Value} {ys:List Value} {C:Ct} (he:tlook T e=some te) (e1:P.info? e=some i) (e4:i.zero=some z) (hd:∀ d,o.dst=some d→d<X.N) (sat:Sat X S ν st a w) (hC:C.n=m) (hl:ys.length=m*te.size) (hm:m≤maxLen)
  (hr:∀ i j,i<C.n→j<te.size→∃ u,ys[i*te.size+j]? = some u∧(C.cell i j).rel w S u)
  {K' : Act→World→Prop} (hk:∀ st' S' ν' a' w',st' = st.new st.hp (fun i=>.own i e te.size C) o.dst (.own st.nid)→Sat X S' ν' st' a' w'→Kp K S S' ν ν' st st' w w'→K' a' w') :
  K' (a.put o.dst (.slice (some ⟨w.heap.size,0,none⟩) m (grownCap w m old e))) (w.drew.alloc (.cells (ys.toArray++Builtin.zeroCells z.cells (grownCap w m old e - m)) e)):=by
 obtain ⟨i',z',f1,f2,f3,f4,f5,f7,f6,_⟩:=(hT.get he).1.info
 rw [(hT.get he).2,e1] at f1
 cases f1
 rw [e4] at f4
 cases f4
 have hzs:z.cells.size=te.size:=by rw [← Array.length_toList,f5,f6]
 have hge:=grownCap_ge w m old e
 have hcm:grownCap w m old e≤maxLen:=grownCap_le_maxLen w m old e hm
 have gr:Gr w (w.drew.alloc (.cells (ys.toArray++Builtin.zeroCells z.cells (grownCap w m old e - m)) e)) S S:=⟨by simp,fun k hs hb=>heap_alloc_old w.drew _ hb,fun _ h=>h⟩
 refine own_step (w':=w.drew.alloc (.cells (ys.toArray++Builtin.zeroCells z.cells (grownCap w m old e - m)) e)) (takes:=[]) (rest:=st.hp) (ct:=C) (xs:=ys) hd sat (.refl _) (fun ch hc=>(nomatch hc)) ⟨rfl,rfl,rfl,by simp,fun k hk _=>heap_alloc_old w.drew _ hk⟩ ⟨hl,.inr ⟨w.heap.size,_,_,rfl,Nat.zero_le _,heap_alloc_new w.drew _,hge,hcm,?_,?_⟩⟩ hC.symm (fun b hb=>.inr (by cases hb;exact Nat.le_refl _)) (fun i j hi hj=>?_) hk
 ·simp only [Array.size_append,List.size_toArray,size_zeroCells,hzs,hl,← Nat.add_mul]
  congr 1
  omega
 ·simp only [Array.toList_append]
  rw [← hl]
  exact List.take_left
 ·obtain ⟨u,u1,u2⟩:=hr i j hi hj
  exact ⟨u,u1,DC.mono gr u2⟩
theorem m_zeros (hT:T.Ok P) {c:Call} {d s:Operand} {t tn e:Nat} {te:TI} {k kn:IntKind} {n:Int} (ho:o.op = .call c) (hc:c.callee = .builtin .append) (hx:c.args.toList=[d,s]) (ht:c.argTypes.toList=[t,tn])
  (hu:P.underlying t=some (.slice e)) (htn:P.underlying tn=some (.int kn)) (he:tlook T e=some te) (hd1:aop st d=some (.o (.c (.slice none 0 0)))) (hs:aop st s=some (.o (.c (.int k n)))) (hn:0<n∧n*te.bytes≤140737488355328∧n≤140737488355328) :
  StepTo P K o st (· = st.new st.hp (fun i=>.own i e te.size (zeroC n.toNat te.zero)) o.dst (.own st.nid)):=by
 intro X S ν a w Q K' hd sat hk
 obtain ⟨hn0,hn1,hn2⟩:=hn
 obtain ⟨n,rfl⟩:=Int.eq_ofNat_of_zero_le (Int.le_of_lt hn0)
 have hn1:n*te.bytes≤140737488355328:=by
  have:((n*te.bytes:Nat):Int)≤140737488355328:=by rw [Int.natCast_mul];exact hn1
  omega
 have hn2:n≤140737488355328:=by omega
 have hn0:0<n:=by omega
 obtain ⟨i,z,e1,e2,e3,e4,e5,e7,e6,_⟩:=(hT.get he).1.info
 rw [(hT.get he).2] at e1
 have hpos:=(hT.get he).1.pos
 have hd2:a.eval d = .slice none 0 0:=(aop_ok sat hd1).1.1
 have hs2:a.eval s = .int k n:=(aop_ok sat hs).1.1
 have hr:=Lib.run_append_nil_zeros (P:=P) w t tn o.type e i z k kn hu htn e1 e4 n hn0 (by rw [e2];exact hpos) (by omega) (by rw [e3];omega)
 obtain ⟨r1,r2⟩:=zero_rows (w:=w) (S:=S) (k:=n) (zero:=te.zero) (sz:=te.size) e6 hpos e7
 have hz5:z.cells=te.zero.toArray:=by rw [← Array.toList_inj,e5]
 obtain ⟨cs,ex⟩:=exec_builtin (a:=a) ho hc hx (show c.argTypes = #[t,tn] by rw [← Array.toList_inj];exact ht)
 have hg:=grow_step (K:=K) (K':=K') (old:=0) (C:=zeroC n te.zero) (m:=n) hT he e1 e4 hd sat rfl r1 (by unfold maxLen;omega) r2 hk
 refine wp_value ?_ hg
 rw [ex]
 simp only [builtin,List.map_cons,List.map_nil,Sem.run_bind,hd2,hs2,hr,Result.andThen_ok,Sem.run_pure,Array.toArray_toList,hz5]
end
def vwCut (lo:Option Operand) (id sz off k:Nat) (l h:Int):A1:=match lo with
 | none=>.vw id sz off h.toNat k
 | some _=>.vw id sz (off+l.toNat) (h.toNat - l.toNat) (k - l.toNat)
theorem vwCut_eq {st:AS} {lo:Option Operand} {id sz off k:Nat} {l h:Int} (hl:optInt st 0 lo=some l):vwCut lo id sz off k l h = .vw id sz (off+l.toNat) (h.toNat - l.toNat) (k - l.toNat):=by
 cases lo with
 | none=>cases hl;simp [vwCut]
 | some x=>rfl
def isSl:Option TI→Bool
 | some ⟨_,.slice _,_,_,_,_⟩=>true
 | _=>false
def anil (hp:List Chunk):A1→Option (Bool×List Prop)
 | .c (.slice none 0 0)=>some (true,[])
 | .vw _ _ _ _ _=>some (false,[])
 | _=>none
def anilN (hp:List Chunk):A1→Option Nat
 | .ro _ n _=>some n
 | .own id=>match findOwn (fun _=>true) hp id with
  | some (_,_,ct)=>some ct.n
  | none=>none
 | _=>none
def partOk:Option Operand→Option Operand→Bool
 | none,some _=>false
 | _,_=>true
def partOk2 (lo hi mx:Option Operand):Bool:=match lo,mx with
 | none,none=>false
 | _,_=>partOk hi mx
theorem partOk2_ok {lo hi mx:Option Operand} (h:partOk2 lo hi mx=true):partOk hi mx=true:=by
 cases lo<;>cases mx<;>first | exact h | cases h
def apureX (T:Tys) (_Kf:Nat→Bool) (o:Oper) (st:AS):Option (AV×List Prop):=
 match o.op with
 | .slice t x lo hi mx=>match tlook T t,aop st x with
  | some ⟨_,.slice e,_,_,_,_⟩,some (.o (.vw id sz off n k))=>match tlook T e,optInt st 0 lo,optInt st n hi,mx with
   | some te,some l,some h,none=>match Nat.beq sz te.size with
    | true=>some (.o (vwCut lo id sz off k l h),[0≤l∧l≤h∧h≤k])
    | _=>none
   | some te,some l,some h,some m=>match aop st m,partOk hi (some m) with
    | some (.o (.c (.int _ m))),true=>some (.o .any,[0≤l∧l≤h∧h≤m∧m≤k])
    | _,_=>none
   | _,_,_,_=>none
  | some ⟨_,.slice e,_,_,_,_⟩,some (.o (.own id))=>match tlook T e,findOwn (fun _=>true) st.hp id with
   | some te,some (_,_,ct)=>match optInt st 0 lo,optInt st ct.n hi,partOk2 lo hi mx with
    | some l,some h,true=>match mx with
     | none=>some (.o .any,[0≤l∧l≤h∧h≤ct.n])
     | some m=>match aop st m with
      | some (.o (.c (.int _ m)))=>some (.o .any,[0≤l∧l≤h∧h≤m∧m≤ct.n])
      | _=>none
    | _,_,_=>none
   | _,_=>none
  | some ⟨_,.slice e,_,_,_,_⟩,some (.o (.c (.slice none 0 0)))=>match tlook T e,optInt st 0 lo,optInt st 0 hi,optInt st 0 mx with
   | some te,some l,some h,some m=>match partOk hi mx with
    | true=>some (.o (.c (.slice none 0 0)),[l=0∧h=0∧m=0])
    | _=>none
   | _,_,_,_=>none
  | _,_=>none
 | .indexAddr t x i=>match tlook T t,aop st x,aop st i with
  | some ⟨_,.slice e,_,_,_,_⟩,some (.o (.vw id sz off n _)),some (.o (.c (.int _ k)))=>match tlook T e with
   | some te=>match Nat.beq sz te.size with
    | true=>some (.o (.optr id sz (off+k.toNat) 0),[0≤k∧k<n])
    | false=>none
   | none=>none
  | _,_,_=>none
 | .binOp .eql t x (.const (.slice none 0 0)) _=>match isSl (tlook T t),aop st x with
  | true,some (.o v)=>match anil st.hp v with
   | some (b,ps)=>some (.o (.sb b),ps)
   | none=>none
  | _,_=>none
 | .binOp .neq t x (.const (.slice none 0 0)) _=>match isSl (tlook T t),aop st x with
  | true,some (.o v)=>match anil st.hp v with
   | some (b,ps)=>some (.o (.sb (!b)),ps)
   | none=>none
  | _,_=>none
 | .call c=>match c.callee,c.args.toList,c.argTypes.toList with
  | .builtin .len,[x],[t]=>match aop st x,tlook T t with
   | some (.o (.vw _ _ _ n _)),some ⟨_,.slice _,_,_,_,_⟩=>some (.o (.c (.int .i64 (n:Nat))),[])
   | _,_=>none
  | .builtin .cap,[x],[t]=>match aop st x,tlook T t with
   | some (.o (.vw _ _ _ _ k)),some ⟨_,.slice _,_,_,_,_⟩=>some (.o (.c (.int .i64 (k:Nat))),[])
   | some (.o (.c (.slice _ _ k))),some ⟨_,.slice _,_,_,_,_⟩=>some (.o (.c (.int .i64 (k:Nat))),[])
   | _,_=>none
  | _,_,_=>none
 | _=>none
def amemX (T:Tys) (K:Nat→Bool) (o:Oper) (st:AS):Option (AS×List Prop):=
 match o.op with
 | .call c=>match c.callee,c.args.toList,c.argTypes.toList with
  | .builtin .copy,[d,s],[t,_]=>match tlook T t,aop st d,aop st s with
   | some ⟨_,.slice e,_,_,_,_⟩,some (.o (.vw id sz off n _)),some vs=>match tlook T e,takeOwn (fun i=>!K i) st.hp id,cutX st.hp sz vs n with
    | some te,some (E,sz',ct,rest),some (m,src,ps)=>match Nat.beq sz te.size,Nat.beq sz' sz with
     | true,true=>some ((AS.mk (viewE id st.nid st.env) (.own st.nid E sz (setRngC ct off src) :: rest) (st.nid+1)).put o.dst (.o (.c (.int .i64 (min m n:Nat)))),(off≤ct.n) :: ps)
     | _,_=>none
    | _,_,_=>none
   | _,_,_=>none
  | .builtin .append,[d,s],[t,u]=>match tlook T t,aop st d,aop st s with
   | some ⟨_,.slice e,_,_,_,_⟩,some (.o (.vw id sz off n k)),some vs=>match tlook T e,takeOwn (fun i=>!K i) st.hp id,srcX st.hp sz vs with
    | some te,some (E,sz',ct,rest),some (src,ps)=>match Nat.beq sz te.size,Nat.beq sz' sz,Nat.beq t u with
     | true,true,true=>some ((AS.mk (viewE id st.nid st.env) (.own st.nid E sz (setRngC ct (off+n) src) :: rest) (st.nid+1)).put o.dst (.o (.vw st.nid sz off (n+src.n) k)),(n+src.n≤k) :: (off+n≤ct.n) :: ps)
     | _,_,_=>none
    | _,_,_=>none
   | some ⟨_,.slice e,_,_,_,_⟩,some (.o (.c (.slice none 0 0))),some (.o (.c (.int _ n)))=>match tlook T e,tlook T u with
    | some te,some ⟨_,.int _,_,_,_,_⟩=>some (st.new st.hp (fun i=>.own i e te.size (zeroC n.toNat te.zero)) o.dst (.own st.nid),[0<n∧n*te.bytes≤140737488355328∧n≤140737488355328])
    | _,_=>none
   | some ⟨_,.slice e,_,_,_,_⟩,some (.o (.c (.slice none 0 0))),some vs=>match tlook T e with
    | some te=>match srcX st.hp te.size vs,Nat.ble 1 te.bytes,Nat.beq t u with
     | some (src,ps),true,true=>some (st.new st.hp (fun i=>.own i e te.size (appC nilC src)) o.dst (.own st.nid),(src.n*te.bytes≤140737488355328) :: ps)
     | _,_,_=>none
    | none=>none
   | some ⟨_,.slice e,_,_,_,_⟩,some (.o (.own id)),some vs=>match tlook T e,takeOwn (fun i=>!K i) st.hp id with
    | some te,some (E,sz,ct,rest)=>match srcX st.hp te.size vs,Nat.ble 1 te.bytes,Nat.beq t u,Nat.beq E e,Nat.beq sz te.size with
     | some (src,ps),true,true,true,true=>some (st.new rest (fun i=>.own i e te.size (appC ct src)) o.dst (.own st.nid),((ct.n+src.n)*te.bytes≤140737488355328) :: ps)
     | _,_,_,_,_=>none
    | _,_=>none
   | _,_,_=>none
  | .builtin .clear,[d],[t]=>match o.dst,tlook T t,aop st d with
   | none,some ⟨_,.slice e,_,_,_,_⟩,some (.o (.vw id sz off n _))=>match tlook T e,takeOwn (fun i=>!K i) st.hp id with
    | some te,some (E,sz',ct,rest)=>match Nat.beq sz te.size,Nat.beq sz' sz with
     | true,true=>some (⟨viewE id st.nid st.env,.own st.nid E sz (setRngC ct off (zeroC n te.zero)) :: rest,st.nid+1⟩,[off≤ct.n])
     | _,_=>none
    | _,_=>none
   | _,_,_=>none
  | _,_,_=>none
 | _=>none
def apure (T:Tys) (Kf:Nat→Bool) (o:Oper) (st:AS):Option (AV×List Prop):=match apure0 T Kf o st with
 | some r=>some r
 | none=>apureX T Kf o st
def amem (T:Tys) (K:Nat→Bool) (o:Oper) (st:AS):Option (AS×List Prop):=match amem0 T K o st with
 | some r=>some r
 | none=>amemX T K o st
section
variable {P:Program} {T:Tys} {X:Cx} {S:Nat→Prop} {ν:Nat→Value} {st st' : AS} {a:Act} {w:World} {o:Oper} {av:AV} {ps:List Prop} {K Kf:Nat→Bool}
attribute [local irreducible] maxLen
theorem run_slice_gen (hT:T.Ok P) {t e:TypeId} {te:TI} (hu:P.underlying t=some (.slice e)) (he:tlook T e=some te) {A:Option Addr} {n c:Nat} {lo hi mx:Option Operand} {l h m:Int}
  (hl:(lo=none∧l=0)∨∃ y k,lo=some y∧a.eval y = .int k l) (hh:(hi=none∧h=n)∨∃ y k,hi=some y∧a.eval y = .int k h) (hm:(mx=none∧m=c)∨∃ y k,mx=some y∧a.eval y = .int k m) (hpo:partOk hi mx=true)
  (hb:0≤l∧l≤h∧h≤m∧m≤c) (w:World):(Instr.sliceAt t (.slice A n c) (lo.map a.eval) (hi.map a.eval) (mx.map a.eval)).run P w = .ok (.slice (if m.toNat=l.toNat then A else A.map (·.add (l.toNat*te.size))) (h.toNat - l.toNat) (m.toNat - l.toNat)) w:=by
 obtain ⟨m,rfl⟩:=Int.eq_ofNat_of_zero_le (show 0≤m by omega)
 obtain ⟨h,rfl⟩:=Int.eq_ofNat_of_zero_le (show 0≤h by omega)
 obtain ⟨l,rfl⟩:=Int.eq_ofNat_of_zero_le hb.1
 have e0:m≤c:=by omega
 have e1:h≤m:=by omega
 have e2:l≤h:=by omega
 have e3:h≤c:=by omega
 have hbd:(Instr.sliceBounds true n c (lo.map a.eval) (hi.map a.eval) (mx.map a.eval)).run P w = .ok (l,h,m) w:=by
  rcases hm with ⟨rfl,hm0⟩ | ⟨y,k,rfl,hy⟩
  ·obtain rfl:m=c:=by omega
   rcases hl with ⟨rfl,hl0⟩ | ⟨y,k,rfl,hy⟩<;>rcases hh with ⟨rfl,hh0⟩ | ⟨y',k',rfl,hy'⟩
   ·obtain rfl:l=0:=by omega
    obtain rfl:h=n:=by omega
    simp [Instr.sliceBounds]
   ·obtain rfl:l=0:=by omega
    simp [Instr.sliceBounds,Instr.sliceBound,asIntOf,hy',e1]
   ·obtain rfl:h=n:=by omega
    simp [Instr.sliceBounds,Instr.sliceBound,asIntOf,hy,e2]
   ·simp [Instr.sliceBounds,Instr.sliceBound,asIntOf,hy,hy',e1,e2]
  ·rcases hh with ⟨rfl,hh0⟩ | ⟨y',k',rfl,hy'⟩
   ·cases hpo
   ·rcases hl with ⟨rfl,hl0⟩ | ⟨y,k,rfl,hy''⟩
    ·obtain rfl:l=0:=by omega
     simp [Instr.sliceBounds,Instr.sliceBound,asIntOf,hy',hy,e0,e1]
    ·simp [Instr.sliceBounds,Instr.sliceBound,asIntOf,hy',hy,hy'',e0,e1,e2]
 simp only [Instr.sliceAt,Sem.run_bind,run_underlying hu w,Result.andThen_ok,Instr.slice,hbd,run_sizeOf' hT he w,Sem.run_pure,Int.toNat_natCast]
theorem exec_slice {t:TypeId} {x:Operand} {lo hi mx:Option Operand} (ho:o.op = .slice t x lo hi mx):execOp a.eval o=(do pure (.value (← Instr.sliceAt t (a.eval x) (lo.map a.eval) (hi.map a.eval) (mx.map a.eval)))):=by
 unfold execOp;rw [ho]
theorem run_eql_nilL {t e:TypeId} (hu:P.underlying t=some (.slice e)) (A:Option Addr) (n c:Nat) (w:World):(Op.equal t (.slice A n c) (.slice none 0 0)).run P w = .ok A.isNone w:=by
 have:∀ d,(Op.equalIn (d+1) t (.slice A n c) (.slice none 0 0)).run P w = .ok A.isNone w:=fun d=>by
  rw [Op.equalIn,Sem.run_bind,run_underlying hu]
  cases A<;>simp
 exact this 9999
theorem anil_ok (sat:Sat X S ν st a w) {v:A1} {b:Bool} {u:Value} (h:anil st.hp v=some (b,ps)) (hps:∀ p∈ps,p) (hv:v.rel w S ν u):∃ A n c,u = .slice A n c∧A.isNone=b:=by
 unfold anil at h
 split at h
 ·cases h;obtain ⟨rfl,_⟩:=hv;exact ⟨_,_,_,rfl,rfl⟩
 ·cases h;obtain ⟨g,N,C,oo,v1,v2,v3,v4,v5⟩:=vw_at (w:=w) (S:=S) hv;exact ⟨_,_,_,v2,rfl⟩
 ·cases h
theorem anilN_ok (sat:Sat X S ν st a w) {v:A1} {n:Nat} {u:Value} (h:anilN st.hp v=some n) (hv:v.rel w S ν u):∃ A m c,u = .slice A m c∧(A.isNone=true→n=0):=by
 unfold anilN at h
 split at h
 ·cases h
  obtain ⟨A,c,rfl,h1,h2,h3,h4⟩:=hv
  refine ⟨_,_,_,rfl,fun hA=>?_⟩
  cases A with
  | none=>have:=h3 rfl;omega
  | some x=>cases hA
 ·split at h
  ·rename_i hf
   cases h
   obtain ⟨xs,o1,o2⟩:=sat.hp _ (findOwn_ok hf).1
   obtain ⟨rfl,_⟩:=hv
   rcases o1.2 with ⟨e1,e⟩ | ⟨g,cap,cur,e,_⟩
   ·exact ⟨_,_,_,e1,fun _=>e⟩
   ·exact ⟨_,_,_,e,fun h=>by cases h⟩
  ·cases h
 ·cases h
theorem run_len_sl {t e:TypeId} (ht:P.underlying t=some (.slice e)) (A:Option Addr) (n c:Nat) (ty:TypeId) (w:World):(Builtin.cap_ #[t] ty #[.slice A n c]).run P w = .ok (.int .i64 (c:Nat)) w:=by
 simp [Builtin.cap_,run_underlying ht]
 rfl
theorem yl_cap {x:Operand} {t:TypeId} {n:Nat} {c:Call} (ho:o.op = .call c) (hc:c.callee = .builtin .cap) (hx:c.args.toList=[x]) (ht:c.argTypes.toList=[t]) (hav:av = .o (.c (.int .i64 (n:Nat))))
  (h:∀ w',(Builtin.cap_ #[t] o.type #[a.eval x]).run P w' = .ok (.int .i64 (n:Nat)) w'):Yl P Kf S ν st a w o av:=by
 subst hav
 have ht' : c.argTypes = #[t]:=by rw [← Array.toList_inj];exact ht
 refine yl_pure (v:=.int .i64 (n:Nat)) ⟨rfl,rfl⟩ trivial fun w'=>?_
 obtain ⟨cs,e⟩:=exec_builtin (a:=a) ho hc hx ht'
 rw [e]
 simp only [builtin,List.map_cons,List.map_nil,Sem.run_bind]
 rw [h w']
 simp
theorem exec_binOp {op:BinOp} {t t' : TypeId} {x y:Operand} (ho:o.op = .binOp op t x y t'):execOp a.eval o=(do pure (.value (← (do eqGuard op t x y (a.eval x) (a.eval y);binOp op t (a.eval x) (a.eval y):Sem Value)))):=by
 unfold execOp;rw [ho]
theorem run_isnil {op:BinOp} {t e:TypeId} {x y:Operand} (hop:op = .eql∨op = .neq) (hu:P.underlying t=some (.slice e)) (A:Option Addr) (n c:Nat) (w:World) :
  (do eqGuard op t x y (.slice A n c) (.slice none 0 0);binOp op t (.slice A n c) (.slice none 0 0):Sem Value).run P w = .ok (.bool (A.isNone == (op == .eql))) w:=by
 rw [Sem.run_bind,eqGuard_one rfl (by intro e;cases e)]
 have he:=run_eql_nilL (P:=P) hu A n c w
 rcases hop with rfl | rfl
 ·simp only [Result.andThen_ok,binOp,Sem.run_bind,he,Sem.run_pure];cases A<;>rfl
 ·simp only [Result.andThen_ok,binOp,Sem.run_bind,he,Sem.run_pure];cases A<;>rfl
theorem isSl_ok (hT:T.Ok P) {t:TypeId} (h:isSl (tlook T t)=true):∃ e,P.underlying t=some (.slice e):=by
 unfold isSl at h
 split at h
 ·rename_i ht;exact ⟨_,und_slice hT ht⟩
 ·cases h
theorem apureX_ok (hT:T.Ok P) (h:apureX T Kf o st=some (av,ps)) (hps:∀ p∈ps,p) (sat:Sat X S ν st a w):Yl P Kf S ν st a w o av:=by
 unfold apureX at h
 split at h
 ·-- slice
  rename_i t x lo hi mx ho
  split at h
  ·rename_i zi e z1 z2 z3 z4 id sz off n k ht hx
   obtain ⟨hd2,hd3⟩:=aop_ok sat hx
   obtain ⟨g,N,C,oo,v1,v2,v3,v4,v5⟩:=vw_at (w:=w) (S:=S) hd2
   split at h
   ·rename_i te l hh he hl hhi
    split at h
    ·rename_i hsz
     cases h
     rw [vwCut_eq hl]
     have hb:0≤l∧l≤hh∧hh≤k:=hps _ (by simp)
     have hsz:=Nat.eq_of_beq_eq_true hsz
     subst hsz
     refine y_ret (v:=.slice (if (k:Int).toNat=l.toNat then some ⟨g,oo,none⟩ else (some ⟨g,oo,none⟩:Option Addr).map (·.add (l.toNat*te.size))) (hh.toNat - l.toNat) ((k:Int).toNat - l.toNat)) ?_ hd3 (exec_slice ho) fun w'=>by
      rw [v2];exact run_slice_gen hT (und_slice hT ht) he (optInt_ok sat hl) (optInt_ok sat hhi) (.inl ⟨rfl,rfl⟩) (by cases hi<;>rfl) (by omega) w'
     rw [Int.toNat_natCast]
     by_cases hml:k=l.toNat
     ·rw [if_pos hml]
      exact ⟨g,N,C,oo,v1,rfl,by omega,by omega,fun h=>by omega⟩
     ·rw [if_neg hml]
      refine ⟨g,N,C,oo+l.toNat*te.size,v1,by simp [add_none'],by omega,by omega,fun _=>?_⟩
      rw [v5 (by omega),Nat.add_mul]
    ·cases h
   ·rename_i te l hh m he hl hhi
    split at h
    ·rename_i km mv hm hpo
     cases h
     have hb:0≤l∧l≤hh∧hh≤mv∧mv≤k:=hps _ (by simp)
     have hm1:a.eval m = .int km mv:=(aop_ok sat hm).1.1
     refine y_ret (v:=.slice (if mv.toNat=l.toNat then some ⟨g,oo,none⟩ else (some ⟨g,oo,none⟩:Option Addr).map (·.add (l.toNat*te.size))) (hh.toNat - l.toNat) (mv.toNat - l.toNat)) rfl trivial (exec_slice ho) fun w'=>by
      rw [v2];exact run_slice_gen hT (und_slice hT ht) he (optInt_ok sat hl) (optInt_ok sat hhi) (.inr ⟨m,km,rfl,hm1⟩) hpo hb w'
    ·cases h
   ·cases h
  ·rename_i zi e z1 z2 z3 z4 id ht hx
   split at h
   ·rename_i te _ _ ct he hf
    split at h
    ·rename_i l hh hl hhi hpo0
     have hpo:=partOk2_ok hpo0
     obtain ⟨A,c,hv,hc1,hc2⟩:=own_val sat hf
     obtain ⟨⟨hx1,_⟩,_⟩:=aop_ok sat hx
     split at h
     ·cases h
      have hb:0≤l∧l≤hh∧hh≤ct.n:=hps _ (by simp)
      refine y_ret (v:=.slice (if (c:Int).toNat=l.toNat then A else A.map (·.add (l.toNat*te.size))) (hh.toNat - l.toNat) ((c:Int).toNat - l.toNat)) rfl trivial (exec_slice ho) fun w'=>by
       rw [hx1,hv];exact run_slice_gen hT (und_slice hT ht) he (optInt_ok sat hl) (optInt_ok sat hhi) (.inl ⟨rfl,rfl⟩) hpo (by omega) w'
     ·rename_i m
      split at h
      ·rename_i km mv hm
       cases h
       have hb:0≤l∧l≤hh∧hh≤mv∧mv≤ct.n:=hps _ (by simp)
       have hm1:a.eval m = .int km mv:=(aop_ok sat hm).1.1
       refine y_ret (v:=.slice (if mv.toNat=l.toNat then A else A.map (·.add (l.toNat*te.size))) (hh.toNat - l.toNat) (mv.toNat - l.toNat)) rfl trivial (exec_slice ho) fun w'=>by
        rw [hx1,hv];exact run_slice_gen hT (und_slice hT ht) he (optInt_ok sat hl) (optInt_ok sat hhi) (.inr ⟨m,km,rfl,hm1⟩) hpo (by omega) w'
      ·cases h
    ·cases h
   ·cases h
  ·rename_i zi e z1 z2 z3 z4 ht hx
   split at h
   ·rename_i te l hh m he hl hhi hm
    split at h
    ·rename_i hpo
     cases h
     have hb:l=0∧hh=0∧m=0:=hps _ (by simp)
     obtain ⟨rfl,rfl,rfl⟩:=hb
     have hx1:a.eval x = .slice none 0 0:=(aop_ok sat hx).1.1
     refine y_ret (v:=.slice none 0 0) ⟨rfl,rfl⟩ trivial (exec_slice ho) fun w'=>by
      rw [hx1];exact run_slice_gen hT (und_slice hT ht) he (optInt_ok sat hl) (optInt_ok sat hhi) (optInt_ok sat hm) hpo (by omega) w'
    ·cases h
   ·cases h
  ·cases h
 ·-- indexAddr
  rename_i t x i ho
  split at h
  ·rename_i zi e z1 z2 z3 z4 id sz off n k' ik k ht hx hi
   split at h
   ·rename_i te he
    split at h
    ·rename_i hsz
     cases h
     have hk:0≤k∧k<n:=hps _ (by simp)
     have hsz:=Nat.eq_of_beq_eq_true hsz
     subst hsz
     obtain ⟨hd2,hd3⟩:=aop_ok sat hx
     obtain ⟨g,N,C,oo,v1,v2,v3,v4,v5⟩:=vw_at (w:=w) (S:=S) hd2
     have h11:a.eval i = .int ik k:=(aop_ok sat hi).1.1
     refine y_ret (f:=Instr.indexAt t (a.eval x) (a.eval i)) (v:=.pointer (some ⟨g,(off+k.toNat)*te.size+0,none⟩)) ⟨g,N,C,v1,rfl⟩ hd3 ?_ fun w'=>by
      rw [h11,v2]
      have:=run_indexAt_slice (P:=P) hT (und_slice hT ht) he (b:=g) (o:=oo) (c:=k') (ik:=ik) hk w'
      rw [this,v5 (by omega),Nat.add_mul];rfl
     unfold execOp;rw [ho]
    ·cases h
   ·cases h
  ·cases h
 ·-- == nil
  rename_i t x t' ho
  split at h
  ·rename_i v hsl hx
   split at h
   ·rename_i b ps' hn
    cases h
    obtain ⟨e,hu⟩:=isSl_ok hT hsl
    have hx1:v.rel w S ν (a.eval x):=(aop_ok sat hx).1
    obtain ⟨A,n,c,e1,e2⟩:=anil_ok sat hn hps hx1
    refine y_ret (v:=.bool b) rfl trivial (exec_binOp ho) fun w'=>?_
    rw [e1,← e2]
    have:=run_isnil (P:=P) (op:=.eql) (x:=x) (y:=.const (.slice none 0 0)) (.inl rfl) hu A n c w'
    rw [show (A.isNone == (BinOp.eql == BinOp.eql))=A.isNone by cases A<;>rfl] at this
    exact this
   ·cases h
  ·cases h
 ·rename_i t x t' ho
  split at h
  ·rename_i v hsl hx
   split at h
   ·rename_i b ps' hn
    cases h
    obtain ⟨e,hu⟩:=isSl_ok hT hsl
    have hx1:v.rel w S ν (a.eval x):=(aop_ok sat hx).1
    obtain ⟨A,n,c,e1,e2⟩:=anil_ok sat hn hps hx1
    refine y_ret (v:=.bool (!b)) rfl trivial (exec_binOp ho) fun w'=>?_
    rw [e1,← e2]
    have:=run_isnil (P:=P) (op:=.neq) (x:=x) (y:=.const (.slice none 0 0)) (.inr rfl) hu A n c w'
    rw [show (A.isNone == (BinOp.neq == BinOp.eql))=!A.isNone by cases A<;>rfl] at this
    exact this
   ·cases h
  ·cases h
 ·-- calls
  rename_i c ho
  split at h
  ·rename_i x t hc hx ht
   split at h
   ·rename_i id sz off n k zi e z1 z2 z3 z4 hxs hts
    cases h
    obtain ⟨g,N,C,oo,v1,v2,v3,v4,v5⟩:=vw_at (w:=w) (S:=S) (aop_ok sat hxs).1
    exact yl_len sat ho hc hx ht rfl fun w'=>by rw [v2];exact run_len_slice (und_slice hT hts) _ n k _ w'
   ·cases h
  ·rename_i x t hc hx ht
   split at h
   ·rename_i id sz off n k zi e z1 z2 z3 z4 hxs hts
    cases h
    obtain ⟨g,N,C,oo,v1,v2,v3,v4,v5⟩:=vw_at (w:=w) (S:=S) (aop_ok sat hxs).1
    exact yl_cap ho hc hx ht rfl fun w'=>by rw [v2];exact run_len_sl (und_slice hT hts) _ n k _ w'
   ·rename_i A n k zi e z1 z2 z3 z4 hxs hts
    cases h
    have h1:a.eval x = .slice A n k:=(aop_ok sat hxs).1.1
    exact yl_cap ho hc hx ht rfl fun w'=>by rw [h1];exact run_len_sl (und_slice hT hts) _ n k _ w'
   ·cases h
  ·cases h
 ·cases h
theorem apure_ok (hT:T.Ok P) (h:apure T Kf o st=some (av,ps)) (hps:∀ p∈ps,p) (sat:Sat X S ν st a w):Yl P Kf S ν st a w o av:=by
 unfold apure at h
 split at h
 ·rename_i r hr;rw [h] at hr;exact apure0_ok hT hr hps sat
 ·exact apureX_ok hT h hps sat
theorem amemX_ok (hT:T.Ok P) (h:amemX T K o st=some (st',ps)) (hps:∀ p∈ps,p):StepTo P K o st (· = st'):=by
 unfold amemX at h
 split at h
 ·rename_i c ho
  split at h
  ·rename_i d s t t' hc hx ht
   split at h
   ·rename_i zi e z1 z2 z3 z4 id sz off n k vs htt hd hs
    split at h
    ·rename_i te E sz' ct rest m src qs he htk hsrc
     split at h
     ·rename_i hsz hsz'
      have hsz:=Nat.eq_of_beq_eq_true hsz
      have hsz':=Nat.eq_of_beq_eq_true hsz'
      subst hsz';subst hsz
      cases h
      obtain ⟨q1,q2⟩:=cutX_ok (st:=st) (hT.get he).1.pos hsrc fun p hp=>hps p (List.mem_cons_of_mem _ hp)
      exact m_copy hT ho hc hx ht (und_slice hT htt) he hd rfl htk hs q1 q2 (hps _ (List.mem_cons_self ..))
     ·cases h
    ·cases h
   ·cases h
  ·rename_i d s t u hc hx ht
   split at h
   ·rename_i zi e z1 z2 z3 z4 id sz off n k vs htt hd hs
    split at h
    ·rename_i te E sz' ct rest src qs he htk hsrc
     split at h
     ·rename_i hsz hsz' htu
      have hsz:=Nat.eq_of_beq_eq_true hsz
      have hsz':=Nat.eq_of_beq_eq_true hsz'
      have htu:=Nat.eq_of_beq_eq_true htu
      subst hsz';subst htu;subst hsz
      cases h
      exact m_appIn hT ho hc hx ht (und_slice hT htt) he hd rfl htk hs (srcX_ok (hT.get he).1.pos hsrc fun p hp=>hps p (List.mem_cons_of_mem _ (List.mem_cons_of_mem _ hp))) (hps _ (List.mem_cons_self ..)) (hps _ (List.mem_cons_of_mem _ (List.mem_cons_self ..)))
     ·cases h
    ·cases h
   ·rename_i zi e z1 z2 z3 z4 kq n htt hd hs
    split at h
    ·rename_i te zi' ik z1' z2' z3' z4' he hu
     cases h
     exact m_zeros hT ho hc hx ht (und_slice hT htt) (und_int hT hu) he hd hs (hps _ (by simp))
    ·cases h
   ·rename_i zi e z1 z2 z3 z4 vs hnn htt hd hs
    split at h
    ·rename_i te he
     split at h
     ·rename_i src qs hsrc hby htu
      have htu:=Nat.eq_of_beq_eq_true htu
      subst htu
      cases h
      exact m_appendX hT ho hc hx ht (und_slice hT htt) he hd (.inr ⟨rfl,rfl,rfl⟩) hs (srcX_ok (hT.get he).1.pos hsrc fun p hp=>hps p (List.mem_cons_of_mem _ hp)) (Nat.le_of_ble_eq_true hby) (by have h1:src.n*te.bytes≤140737488355328:=hps _ (List.mem_cons_self ..);simpa [nilC] using h1)
     ·cases h
    ·cases h
   ·rename_i zi e z1 z2 z3 z4 id vs htt hd hs
    split at h
    ·rename_i te E sz ct rest he htk
     split at h
     ·rename_i src qs hsrc hby htu hE hsz
      have htu:=Nat.eq_of_beq_eq_true htu
      have hE:=Nat.eq_of_beq_eq_true hE
      have hsz:=Nat.eq_of_beq_eq_true hsz
      subst htu;subst hE;subst hsz
      cases h
      exact m_appendX hT ho hc hx ht (und_slice hT htt) he hd (.inl ⟨id,rfl,htk⟩) hs (srcX_ok (hT.get he).1.pos hsrc fun p hp=>hps p (List.mem_cons_of_mem _ hp)) (Nat.le_of_ble_eq_true hby) (hps _ (List.mem_cons_self ..))
     ·cases h
    ·cases h
   ·cases h
  ·rename_i d t hc hx ht
   split at h
   ·rename_i zi e z1 z2 z3 z4 id sz off n k hdst htt hd
    split at h
    ·rename_i te E sz' ct rest he htk
     split at h
     ·rename_i hsz hsz'
      have hsz:=Nat.eq_of_beq_eq_true hsz
      have hsz':=Nat.eq_of_beq_eq_true hsz'
      subst hsz'
      cases h
      exact m_clear hT ho hdst hc hx ht (und_slice hT htt) he hd hsz htk (hps _ (by simp))
     ·cases h
    ·cases h
   ·cases h
  ·cases h
 ·cases h
theorem amem_ok (hT:T.Ok P) (h:amem T K o st=some (st',ps)) (hps:∀ p∈ps,p):StepTo P K o st (· = st'):=by
 unfold amem at h
 split at h
 ·rename_i r hr;rw [h] at hr;exact amem0_ok hT hr hps
 ·exact amemX_ok hT h hps
theorem m_isnil (hT:T.Ok P) {op:BinOp} {t t' : TypeId} {x:Operand} {v:A1} {n:Nat} (ho:o.op = .binOp op t x (.const (.slice none 0 0)) t') (hop:op = .eql∨op = .neq) (hsl:isSl (tlook T t)=true) (hx:aop st x=some (.o v)) (hn:anilN st.hp v=some n) :
  StepTo P K o st (fun s=>∃ b:Bool,(b=true→n=0)∧s=st.put o.dst (.o (.c (.bool (b == (op == .eql)))))):=by
 intro X S ν a w Q K' hd sat hk
 obtain ⟨e,hu⟩:=isSl_ok hT hsl
 have hx1:v.rel w S ν (a.eval x):=(aop_ok sat hx).1
 obtain ⟨A,m,c,e1,h1⟩:=anilN_ok sat hn hx1
 have hr:=run_isnil (P:=P) (op:=op) (x:=x) (y:=.const (.slice none 0 0)) hop hu A m c w
 rw [← e1] at hr
 refine wp_value (w':=w) (u:=.bool (A.isNone == (op == .eql))) ?_ (hk _ S ν _ _ ⟨A.isNone,h1,rfl⟩ (sat.put hd ⟨rfl,rfl⟩ trivial) ⟨Nat.le_refl _,fun _ h=>h,fun ch hc hk=>⟨by rw [(AS.put_hp _ _ _).1];exact hc,rfl⟩,fun _ _=>rfl⟩)
 rw [exec_binOp ho,Sem.run_bind]
 have hr' : (do eqGuard op t x (.const (.slice none 0 0)) (a.eval x) (a.eval (.const (.slice none 0 0)));binOp op t (a.eval x) (a.eval (.const (.slice none 0 0))):Sem Value).run P w = .ok (.bool (A.isNone == (op == .eql))) w:=hr
 rw [hr'];rfl
end
end Go.Proofs.YtalmoocpebhoiaaGreatDoor.Am
namespace Go.Proofs.YtalmoocpebhoiaaGreatDoor.At
def ltS (a b:ByteArray):Bool:=Op.bytesLess a.data.toList b.data.toList
theorem less_iff:∀ (x y:List UInt8),Op.bytesLess x y=true↔x<y
 | _,[]=>by rw [Op.bytesLess];simp
 | [],b :: y=>by simp [Op.bytesLess]
 | a :: x,b :: y=>by rw [Op.bytesLess,List.cons_lt_cons_iff,Bool.or_eq_true,Bool.and_eq_true,less_iff x y];simp
theorem ltS_iff {a b:ByteArray}:ltS a b=true↔a.data.toList<b.data.toList:=less_iff _ _
theorem str_ext {a b:ByteArray} (h:a.data.toList=b.data.toList):a=b:=by
 cases a;cases b;congr;exact Array.toList_inj.1 h
theorem ltS_irrefl (a:ByteArray):ltS a a=false:=by
 cases h:ltS a a
 ·rfl
 ·exact absurd (ltS_iff.1 h) (List.lt_irrefl _)
theorem ltS_trans {a b c:ByteArray} (h:ltS a b=true) (k:ltS b c=true):ltS a c=true:=ltS_iff.2 (List.lt_trans (ltS_iff.1 h) (ltS_iff.1 k))
theorem ltS_asymm {a b:ByteArray} (h:ltS a b=true):ltS b a=false:=by
 cases k:ltS b a
 ·rfl
 ·have:=ltS_trans h k;rw [ltS_irrefl] at this;cases this
theorem ltS_tri {a b:ByteArray} (h:ltS a b=false) (k:ltS b a=false):a=b:=by
 have h1:¬ a.data.toList<b.data.toList:=fun h'=>by rw [ltS_iff.2 h'] at h;cases h
 have h2:¬ b.data.toList<a.data.toList:=fun h'=>by rw [ltS_iff.2 h'] at k;cases k
 exact str_ext (List.le_antisymm (List.not_lt.1 h2) (List.not_lt.1 h1))
theorem ltS_ne {a b:ByteArray} (h:ltS a b=true):a≠b:=fun e=>by rw [e,ltS_irrefl] at h;cases h
def cmpI (a b:ByteArray):Int:=if ltS a b then -1 else if a=b then 0 else 1
theorem cmpI_eq {a b:ByteArray}:cmpI a b=0↔a=b:=by
 unfold cmpI;split
 ·rename_i h;simp [ltS_ne h]
 ·split<;>simp [*]
theorem cmpI_gt {a b:ByteArray}:cmpI a b=1↔ltS b a=true:=by
 unfold cmpI;split
 ·rename_i h;simp [ltS_asymm h]
 ·split
  ·rename_i h;simp [h,ltS_irrefl]
  ·rename_i h1 h2
   simp only [true_iff]
   cases h:ltS b a
   ·exact absurd (ltS_tri (by simpa using h1) h) h2
   ·rfl
abbrev At:=ByteArray×ByteArray
abbrev d0:At:=(⟨#[]⟩,⟨#[]⟩)
def badB (b:UInt8):Bool:=decide (b.toNat<33∨126<b.toNat)
def keyE (s:ByteArray):Int:=if s.size=0∨s.data.toList.any badB=true then 6 else if 40<s.size then 3 else 0
def aloneE (x:At):Int:=if keyE x.1≠0 then keyE x.1 else if 200<x.2.size then 3 else 0
def sizeI:List At→Nat
 | []=>0
 | x :: l=>(2+x.1.size+x.2.size)+sizeI l
def alonesE:List At→Int
 | []=>0
 | x :: l=>if aloneE x≠0 then aloneE x else alonesE l
def dupB:List At→Bool
 | []=>false
 | x :: l=>l.any (fun y=>decide (y.1=x.1)) || dupB l
def sortedB:List At→Bool
 | []=>true
 | [_]=>true
 | x :: y :: l=>!ltS y.1 x.1 && sortedB (y :: l)
def fullB (l:List At):Bool:=decide (6<l.length∨288<sizeI l)
def checkE (l:List At):Int:=
 if 6<l.length then 3 else if alonesE l≠0 then alonesE l else if dupB l then 8 else if !sortedB l then 6 else if fullB l then 5 else 0
def rowB (x:At):List UInt8:=UInt8.ofNat x.1.size :: (x.1.data.toList++UInt8.ofNat x.2.size :: x.2.data.toList)
def bytesI (l:List At):List UInt8:=l.flatMap rowB
theorem rowB_len (x:At):(rowB x).length=2+x.1.size+x.2.size:=by
 have h1:x.1.data.toList.length=x.1.size:=rfl
 have h2:x.2.data.toList.length=x.2.size:=rfl
 simp only [rowB,List.length_cons,List.length_append,h1,h2];omega
theorem bytesI_len (l:List At):(bytesI l).length=sizeI l:=by
 induction l with
 | nil=>rfl
 | cons x l ih=>rw [bytesI,List.flatMap_cons,List.length_append,rowB_len,sizeI,← ih];rfl
theorem take_snoc {α:Type} {l:List α} {d:α} {q:Nat} (hq:q<l.length):l.take (q+1)=l.take q++[l.getD q d]:=by
 rw [List.take_succ_eq_append_getElem hq,List.getD_eq_getElem?_getD,List.getElem?_eq_getElem hq];rfl
theorem bytesI_snoc {l:List At} {q:Nat} (hq:q<l.length):bytesI (l.take (q+1))=bytesI (l.take q)++rowB (l.getD q d0):=by
 rw [take_snoc (d:=d0) hq,bytesI,List.flatMap_append];simp [bytesI]
theorem sizeI_snoc {l:List At} {q:Nat} (hq:q<l.length):sizeI (l.take (q+1))=sizeI (l.take q)+(2+(l.getD q d0).1.size+(l.getD q d0).2.size):=by
 rw [← bytesI_len,← bytesI_len,bytesI_snoc hq,List.length_append,rowB_len]
theorem sizeI_take (l:List At) (q:Nat):sizeI (l.take q)≤sizeI l:=by
 induction l generalizing q with
 | nil=>simp
 | cons x l ih=>
  cases q with
  | zero=>simp [sizeI]
  | succ q=>simp only [List.take_succ_cons,sizeI];have:=ih q;omega
def Srt (l:List At):Prop:=∀ i j,i<j→j<l.length→ltS (l.getD i d0).1 (l.getD j d0).1=true
theorem mem_getD {l:List At} {y:At} (h:y∈l):∃ k,k<l.length∧l.getD k d0=y:=by
 obtain ⟨k,hk,e⟩:=List.getElem_of_mem h
 exact ⟨k,hk,by rw [List.getD_eq_getElem?_getD,List.getElem?_eq_getElem hk];exact e⟩
theorem getD_mem {l:List At} {k:Nat} (h:k<l.length):l.getD k d0∈l:=by
 rw [List.getD_eq_getElem?_getD,List.getElem?_eq_getElem h];exact List.getElem_mem h
def dupQ (l:List At):Nat→Bool
 | 0=>false
 | q+1=>dupQ l q || (l.take q).any fun y=>decide (y.1=(l.getD q d0).1)
def invQ (l:List At):Nat→Bool
 | 0=>false
 | q+1=>invQ l q || (l.take q).any fun y=>ltS (l.getD q d0).1 y.1
theorem any_take_succ {l:List At} {p:At→Bool} {k:Nat} (hk:k<l.length):(l.take (k+1)).any p=((l.take k).any p || p (l.getD k d0)):=by
 rw [take_snoc (d:=d0) hk,List.any_append];simp
theorem alonesE_drop {l:List At} {q:Nat} (hq:q<l.length):alonesE (l.drop q)=if aloneE (l.getD q d0)≠0 then aloneE (l.getD q d0) else alonesE (l.drop (q+1)):=by
 rw [List.drop_eq_getElem_cons hq,alonesE,List.getD_eq_getElem?_getD,List.getElem?_eq_getElem hq];rfl
theorem take_any_iff {l:List At} {p:At→Bool} {q:Nat} (hq:q≤l.length):(l.take q).any p=true↔∃ k,k<q∧p (l.getD k d0)=true:=by
 induction q with
 | zero=>simp
 | succ q ih=>
  rw [any_take_succ (by omega),Bool.or_eq_true,ih (by omega)]
  constructor
  ·rintro (⟨k,h1,h2⟩ | h)
   ·exact ⟨k,by omega,h2⟩
   ·exact ⟨q,by omega,h⟩
  ·rintro ⟨k,h1,h2⟩
   rcases Nat.lt_or_ge k q with h | h
   ·exact .inl ⟨k,h,h2⟩
   ·obtain rfl:k=q:=by omega
    exact .inr h2
theorem dupQ_iff {l:List At} {q:Nat} (hq:q≤l.length):dupQ l q=true↔∃ i k,k<i∧i<q∧(l.getD k d0).1=(l.getD i d0).1:=by
 induction q with
 | zero=>simp [dupQ]
 | succ q ih=>
  rw [dupQ,Bool.or_eq_true,ih (by omega),take_any_iff (by omega)]
  constructor
  ·rintro (⟨i,k,h1,h2,h3⟩ | ⟨k,h1,h2⟩)
   ·exact ⟨i,k,h1,by omega,h3⟩
   ·exact ⟨q,k,h1,by omega,of_decide_eq_true h2⟩
  ·rintro ⟨i,k,h1,h2,h3⟩
   rcases Nat.lt_or_ge i q with h | h
   ·exact .inl ⟨i,k,h1,h,h3⟩
   ·obtain rfl:i=q:=by omega
    exact .inr ⟨k,h1,decide_eq_true h3⟩
theorem invQ_iff {l:List At} {q:Nat} (hq:q≤l.length):invQ l q=true↔∃ i k,k<i∧i<q∧ltS (l.getD i d0).1 (l.getD k d0).1=true:=by
 induction q with
 | zero=>simp [invQ]
 | succ q ih=>
  rw [invQ,Bool.or_eq_true,ih (by omega),take_any_iff (by omega)]
  constructor
  ·rintro (⟨i,k,h1,h2,h3⟩ | ⟨k,h1,h2⟩)
   ·exact ⟨i,k,h1,by omega,h3⟩
   ·exact ⟨q,k,h1,by omega,h2⟩
  ·rintro ⟨i,k,h1,h2,h3⟩
   rcases Nat.lt_or_ge i q with h | h
   ·exact .inl ⟨i,k,h1,h,h3⟩
   ·obtain rfl:i=q:=by omega
    exact .inr ⟨k,h1,h3⟩
theorem dupB_iff {l:List At}:dupB l=true↔∃ i k,k<i∧i<l.length∧(l.getD k d0).1=(l.getD i d0).1:=by
 induction l with
 | nil=>simp [dupB]
 | cons x l ih=>
  rw [dupB,Bool.or_eq_true,ih,List.any_eq_true]
  constructor
  ·rintro (⟨y,h1,h2⟩ | ⟨i,k,h1,h2,h3⟩)
   ·obtain ⟨k,hk,rfl⟩:=mem_getD h1
    exact ⟨k+1,0,by omega,by simpa using hk,by simpa using (of_decide_eq_true h2).symm⟩
   ·exact ⟨i+1,k+1,by omega,by simpa using h2,by simpa using h3⟩
  ·rintro ⟨i,k,h1,h2,h3⟩
   cases i with
   | zero=>omega
   | succ i=>
    have h2:i<l.length:=by simpa using h2
    cases k with
    | zero=>exact .inl ⟨_,getD_mem h2,decide_eq_true (by simpa using h3.symm)⟩
    | succ k=>exact .inr ⟨i,k,by omega,h2,by simpa using h3⟩
theorem sortedB_iff {l:List At}:sortedB l=true↔∀ i,i+1<l.length→ltS (l.getD (i+1) d0).1 (l.getD i d0).1=false:=by
 induction l with
 | nil=>simp [sortedB]
 | cons x l ih=>
  cases l with
  | nil=>simp [sortedB]
  | cons y l=>
   rw [sortedB,Bool.and_eq_true,ih]
   constructor
   ·rintro ⟨h1,h2⟩ i hi
    cases i with
    | zero=>simpa using h1
    | succ i=>have:=h2 i (by simpa using hi);simpa using this
   ·intro h
    refine ⟨by have:=h 0 (by simp);simpa using this,fun i hi=>?_⟩
    have:=h (i+1) (by simpa using hi)
    simpa using this
theorem srt_of {l:List At} (h1:dupB l=false) (h2:sortedB l=true):Srt l:=by
 have h2:=sortedB_iff.1 h2
 intro i j hij hj
 induction j with
 | zero=>omega
 | succ j ih=>
  have hs:ltS (l.getD j d0).1 (l.getD (j+1) d0).1=true:=by
   cases h:ltS (l.getD j d0).1 (l.getD (j+1) d0).1
   ·have:=ltS_tri h (h2 j hj)
    have:=dupB_iff.2 ⟨j+1,j,by omega,hj,this⟩
    rw [h1] at this;cases this
   ·rfl
  rcases Nat.lt_or_ge i j with h | h
  ·exact ltS_trans (ih h (by omega)) hs
  ·obtain rfl:i=j:=by omega
   exact hs
theorem invQ_sorted {l:List At} (h1:dupB l=false):invQ l l.length=!sortedB l:=by
 cases h:sortedB l
 ·cases h3:invQ l l.length
  ·exfalso
   have:sortedB l=true:=sortedB_iff.2 fun i hi=>by
    cases h4:ltS (l.getD (i+1) d0).1 (l.getD i d0).1
    ·rfl
    ·have:=(invQ_iff (Nat.le_refl _)).2 ⟨i+1,i,by omega,hi,h4⟩
     rw [h3] at this;cases this
   rw [h] at this;cases this
  ·rfl
 ·cases h3:invQ l l.length
  ·rfl
  ·obtain ⟨i,k,h4,h5,h6⟩:=(invQ_iff (Nat.le_refl _)).1 h3
   rw [ltS_asymm (srt_of h1 h k i h4 h5)] at h6;cases h6
theorem dupQ_dupB (l:List At):dupQ l l.length=dupB l:=by
 rw [Bool.eq_iff_iff,dupQ_iff (Nat.le_refl _),dupB_iff]
theorem checkE_of {l:List At} (h1:l.length≤6) (h2:alonesE l=0) (h3:dupB l=false):checkE l=if !sortedB l then 6 else if fullB l then 5 else 0:=by
 unfold checkE;rw [if_neg (by omega),if_neg (by simp [h2]),if_neg (by simp [h3])]
theorem checkE_srt {l:List At} (h:checkE l=0):l.length≤6∧alonesE l=0∧Srt l∧fullB l=false:=by
 unfold checkE at h
 split at h
 ·cases h
 ·split at h
  ·contradiction
  ·split at h
   ·cases h
   ·split at h
    ·cases h
    ·split at h
     ·cases h
     ·rename_i h1 h2 h3 h4 h5
      exact ⟨by omega,by simpa using h2,srt_of (by simpa using h3) (by simpa using h4),by simpa using h5⟩
end Go.Proofs.YtalmoocpebhoiaaGreatDoor.At
namespace Go.Proofs.YtalmoocpebhoiaaGreatDoor.At
end Go.Proofs.YtalmoocpebhoiaaGreatDoor.At
namespace Go.Proofs.YtalmoocpebhoiaaGreatDoor.At
section
variable {l:List At} {n:ByteArray}
end
end Go.Proofs.YtalmoocpebhoiaaGreatDoor.At
namespace Go.Proofs.YtalmoocpebhoiaaGreatDoor.Br
open At
structure Nd where
 depth:Int
 name:ByteArray
 kind:Int
 attrs:List At
 data:ByteArray
 major:Int
 minor:Int
 cls:Int
 deriving DecidableEq
structure Bn where
 nd:Nd
 opq:Bool
 red:List ByteArray
 deriving DecidableEq
abbrev eS:ByteArray:=⟨#[]⟩
abbrev n0:Nd:=⟨0,eS,0,[],eS,0,0,0⟩
abbrev b0:Bn:=⟨n0,false,[]⟩
def badC (b:UInt8):Bool:=decide (b.toNat<33∨126<b.toNat∨b.toNat=47)
def pnameE (s:ByteArray):Int:=if s.size=0∨s=⟨#[46]⟩∨s=⟨#[46,46]⟩∨s.data.toList.any badC=true then 6 else if 24<s.size then 3 else 0
def pnamesE:List ByteArray→Int
 | []=>0
 | s :: r=>if pnameE s≠0 then pnameE s else pnamesE r
def pcheckE (p:List ByteArray):Int:=if 8<p.length then 3 else pnamesE p
def fieldsE (n:Nd):Int:=
 if n.kind<1∨5<n.kind then 14
 else if (n.kind≠2∧n.kind≠3∧n.data.size≠0)∨(n.kind≠4∧(n.major≠0∨n.minor≠0))∨(n.kind=5∧n.attrs.length≠0)∨((n.kind=1∨n.kind=5)∧n.cls≠0)∨(n.kind=3∧n.data.size=0) then 6
 else if (n.kind=2∧384<n.data.size)∨(n.kind=3∧200<n.data.size) then 3
 else if n.major<0∨255<n.major∨n.minor<0∨255<n.minor then 7 else 0
def likeN (a b:Nd):Bool:=decide (a.kind=b.kind∧a.data=b.data∧a.major=b.major∧a.minor=b.minor∧a.attrs=b.attrs)
def eqN (a b:Nd):Bool:=decide (a.depth=b.depth∧a.name=b.name∧a.cls=b.cls) && likeN a b
theorem likeN_iff {a b:Nd}:likeN a b=true↔a.kind=b.kind∧a.data=b.data∧a.major=b.major∧a.minor=b.minor∧a.attrs=b.attrs:=by simp [likeN]
theorem eqN_iff {a b:Nd}:eqN a b=true↔a=b:=by
 cases a;cases b
 simp only [eqN,likeN,Bool.and_eq_true,decide_eq_true_eq,Nd.mk.injEq]
 constructor
 ·rintro ⟨⟨h1,h2,h3⟩,h4,h5,h6,h7,h8⟩;exact ⟨h1,h2,h4,h8,h5,h6,h7,h3⟩
 ·rintro ⟨h1,h2,h4,h8,h5,h6,h7,h3⟩;exact ⟨⟨h1,h2,h3⟩,h4,h5,h6,h7,h8⟩
def sib (d:Int):List Nd→Nat×Option ByteArray
 | []=>(0,none)
 | x :: r=>if x.depth<d then (0,none) else if x.depth=d then ((sib d r).1+1,some x.name) else sib d r
def placeE (pre:List Nd) (n:Nd):Int:=match pre with
 | []=>if n.depth≠0∨n.name.size≠0∨n.kind≠1 then 6 else 0
 | x :: _=>if n.depth<1∨x.depth+(if x.kind=1 then 1 else 0)<n.depth then 6
  else if 8<n.depth then 3
  else if pnameE n.name≠0 then pnameE n.name
  else match (sib n.depth pre).2 with
   | none=>0
   | some s=>if s=n.name then 8 else if ltS n.name s=true then 6 else if 24≤(sib n.depth pre).1 then 3 else 0
def mostC:List Nd→Int
 | []=>0
 | x :: r=>max (mostC r) x.cls
def classE (pre:List Nd) (n:Nd):Int:=
 if n.cls<0∨mostC pre+1<n.cls∨(0<n.cls∧pre.any (fun x=>decide (x.cls=n.cls) && !likeN x n)=true) then 6 else 0
def nodeE (pre:List Nd) (n:Nd):Int:=
 if placeE pre n≠0 then placeE pre n else if fieldsE n≠0 then fieldsE n else if checkE n.attrs≠0 then checkE n.attrs else classE pre n
def errAt (pre:List Nd):List Nd→Nat→Option (Nat×Int)
 | [],_=>none
 | n :: r,i=>if nodeE pre n≠0 then some (i,nodeE pre n) else errAt (n :: pre) r (i+1)
def countC (l:List Nd) (c:Int):Nat:=l.countP fun x=>decide (x.cls=c)
def loneAt (l:List Nd):List Nd→Nat→Option Nat
 | [],_=>none
 | n :: r,i=>if 0<n.cls∧countC l n.cls=1 then some i else loneAt l r (i+1)
def checkT (l:List Nd):Int×Int:=
 if l=[] then (-1,6) else if 120<l.length then (-1,3) else match errAt [] l 0 with
 | some (i,e)=>(i,e)
 | none=>match loneAt l l 0 with
  | some i=>(i,6)
  | none=>(0,0)
structure Ck where
 dirs:List (Int×ByteArray)
 file:Bool
 first:List Nd
 count:List Int
abbrev dd0:Int×ByteArray:=(0,eS)
abbrev ck0:Ck:=⟨[],false,[],[]⟩
def mostS (c:Ck):Int:=(c.dirs.length:Int) - (if c.file=true then 1 else 0)
def dirAt (c:Ck) (n:Nd):Int×ByteArray:=c.dirs.getD (n.depth - 1).toNat dd0
def placeF (c:Ck) (n:Nd):Int:=
 if c.dirs=[] then (if n.depth≠0∨n.name.size≠0∨n.kind≠1 then 6 else 0)
 else if n.depth<1∨mostS c<n.depth then 6
 else if 8<n.depth then 3
 else if pnameE n.name≠0 then pnameE n.name
 else if 0<(dirAt c n).1∧(dirAt c n).2=n.name then 8
 else if 0<(dirAt c n).1∧ltS n.name (dirAt c n).2=true then 6
 else if (dirAt c n).1=24 then 3 else 0
def placeD (c:Ck) (n:Nd):List (Int×ByteArray):=
 if c.dirs=[] then [dd0] else (c.dirs.set (n.depth - 1).toNat ((dirAt c n).1+1,n.name)).take n.depth.toNat++[dd0]
def classF (c:Ck) (n:Nd):Int:=
 if n.cls=0 then 0 else if n.cls<0∨(c.first.length:Int)+1<n.cls then 6
 else if (c.first.length:Int)<n.cls then 0
 else if likeN (c.first.getD (n.cls - 1).toNat n0) n=true then 0 else 6
def classD (c:Ck) (n:Nd):List Nd×List Int:=
 if n.cls=0 then (c.first,c.count) else if (c.first.length:Int)<n.cls then (c.first++[n],c.count++[1])
 else (c.first,c.count.set (n.cls - 1).toNat (c.count.getD (n.cls - 1).toNat 0+1))
def nodeF (c:Ck) (n:Nd):Int:=
 if placeF c n≠0 then placeF c n else if fieldsE n≠0 then fieldsE n else if checkE n.attrs≠0 then checkE n.attrs else classF c n
def nodeD (c:Ck) (n:Nd):Ck:=⟨placeD c n,decide (n.kind≠1),(classD c n).1,(classD c n).2⟩
structure CkOk (pre:List Nd) (c:Ck):Prop where
 nil:pre=[]→c=ck0
 cons:∀ x r,pre=x :: r→(c.dirs.length:Int)=x.depth+1∧c.file=decide (x.kind≠1)∧0≤x.depth
 dir:∀ d:Nat,d<c.dirs.length→(c.dirs.getD d dd0).1=((sib (d+1) pre).1:Nat)∧((sib (d+1) pre).2=none∨(sib (d+1) pre).2=some (c.dirs.getD d dd0).2)∧(sib (d+1) pre).1≤24
 most:(c.first.length:Int)=mostC pre
 clen:c.count.length=c.first.length
 fst:∀ k:Nat,k<c.first.length→(c.first.getD k n0)∈pre∧(c.first.getD k n0).cls=k+1∧∀ x∈pre,x.cls=k+1→likeN (c.first.getD k n0) x=true
 cnt:∀ k:Nat,k<c.first.length→c.count.getD k 0=(countC pre (k+1):Nat)
 ge:∀ x∈pre,0≤x.cls
theorem sib_none (d:Int):∀ l:List Nd,(sib d l).2=none↔(sib d l).1=0
 | []=>by simp [sib]
 | x :: r=>by
  rw [sib]
  split
  ·simp
  ·split
   ·simp
   ·exact sib_none d r
theorem likeN_refl (a:Nd):likeN a a=true:=likeN_iff.2 ⟨rfl,rfl,rfl,rfl,rfl⟩
theorem likeN_symm {a b:Nd} (h:likeN a b=true):likeN b a=true:=by
 obtain ⟨h1,h2,h3,h4,h5⟩:=likeN_iff.1 h
 exact likeN_iff.2 ⟨h1.symm,h2.symm,h3.symm,h4.symm,h5.symm⟩
theorem likeN_trans {a b c:Nd} (h:likeN a b=true) (k:likeN b c=true):likeN a c=true:=by
 obtain ⟨h1,h2,h3,h4,h5⟩:=likeN_iff.1 h
 obtain ⟨k1,k2,k3,k4,k5⟩:=likeN_iff.1 k
 exact likeN_iff.2 ⟨h1.trans k1,h2.trans k2,h3.trans k3,h4.trans k4,h5.trans k5⟩
theorem most_ge:∀ l:List Nd,0≤mostC l
 | []=>Int.le_refl _
 | x :: r=>by have:=most_ge r;rw [mostC];omega
theorem most_mem:∀ {l:List Nd} {x:Nd},x∈l→x.cls≤mostC l
 | y :: r,x,h=>by
  rw [mostC]
  rcases List.mem_cons.1 h with h | h
  ·subst h;omega
  ·have:=most_mem h;omega
section
variable {pre:List Nd} {c:Ck}
theorem place_eq (g:CkOk pre c) (n:Nd):placeF c n=placeE pre n:=by
 cases pre with
 | nil=>
  rw [g.nil rfl]
  rfl
 | cons x r=>
  obtain ⟨h1,h2,h3⟩:=g.cons x r rfl
  have hne:c.dirs≠[]:=fun e=>by rw [e] at h1;simp at h1;omega
  have hm:mostS c=x.depth+(if x.kind=1 then 1 else 0):=by
   unfold mostS
   rw [h1,h2]
   by_cases hk:x.kind=1<;>simp [hk]<;>omega
  unfold placeF placeE
  rw [if_neg hne,hm]
  dsimp only
  by_cases hd:n.depth<1∨x.depth+(if x.kind=1 then 1 else 0)<n.depth
  ·rw [if_pos hd,if_pos hd]
  rw [if_neg hd,if_neg hd]
  have hd2:1≤n.depth∧n.depth≤x.depth+1:=by
   constructor
   ·omega
   ·split at hd<;>omega
  obtain ⟨e1,e2,e3⟩:=g.dir (n.depth - 1).toNat (by omega)
  rw [show (((n.depth - 1).toNat:Nat):Int)+1=n.depth by omega] at e1 e2 e3
  have e1:(dirAt c n).1=((sib n.depth (x :: r)).1:Nat):=e1
  have e2:(sib n.depth (x :: r)).2=none∨(sib n.depth (x :: r)).2=some (dirAt c n).2:=e2
  by_cases h8:8<n.depth
  ·rw [if_pos h8,if_pos h8]
  rw [if_neg h8,if_neg h8]
  by_cases hp:pnameE n.name≠0
  ·rw [if_pos hp,if_pos hp]
  rw [if_neg hp,if_neg hp]
  have hs:=sib_none n.depth (x :: r)
  generalize sib n.depth (x :: r)=S at *
  obtain ⟨S1,S2⟩:=S
  dsimp only at *
  rcases e2 with e2 | e2
  ·subst e2
   have h0:S1=0:=hs.1 rfl
   subst h0
   rw [if_neg (by omega),if_neg (by omega),if_neg (by omega)]
  ·subst e2
   have h0:0<S1:=Nat.pos_of_ne_zero fun e=>by have:=hs.2 e;cases this
   dsimp only
   have hpos:0<(dirAt c n).1:=by omega
   by_cases a1:(dirAt c n).2=n.name
   ·rw [if_pos ⟨hpos,a1⟩,if_pos a1]
   rw [if_neg (fun k=>a1 k.2),if_neg a1]
   by_cases a2:ltS n.name (dirAt c n).2=true
   ·rw [if_pos ⟨hpos,a2⟩,if_pos a2]
   rw [if_neg (fun k=>a2 k.2),if_neg a2]
   by_cases a3:24≤S1
   ·rw [if_pos (by omega),if_pos a3]
   ·rw [if_neg (by omega),if_neg a3]
theorem class_eq (g:CkOk pre c) (n:Nd):classF c n=classE pre n:=by
 have hm:=g.most
 unfold classF classE
 rw [← hm]
 by_cases h0:n.cls=0
 ·rw [if_pos h0,if_neg (by omega)]
 rw [if_neg h0]
 by_cases h1:n.cls<0∨(c.first.length:Int)+1<n.cls
 ·rw [if_pos h1,if_pos (by rcases h1 with h | h;exact .inl h;exact .inr (.inl h))]
 rw [if_neg h1]
 by_cases h2:(c.first.length:Int)<n.cls
 ·rw [if_pos h2,if_neg ?_]
  rintro (k | k | ⟨_,k⟩)
  ·omega
  ·omega
  ·obtain ⟨x,hx,hk⟩:=List.any_eq_true.1 k
   rw [Bool.and_eq_true,decide_eq_true_iff] at hk
   have:=most_mem hx
   omega
 ·rw [if_neg h2]
  obtain ⟨f1,f2,f3⟩:=g.fst (n.cls - 1).toNat (by omega)
  rw [show (((n.cls - 1).toNat:Nat):Int)+1=n.cls by omega] at f2 f3
  cases hl:likeN (c.first.getD (n.cls - 1).toNat n0) n
  ·rw [if_neg (by decide),if_pos ?_]
   refine .inr (.inr ⟨by omega,List.any_eq_true.2 ⟨_,f1,?_⟩⟩)
   rw [hl,f2,decide_eq_true rfl]
   rfl
  ·rw [if_pos rfl,if_neg ?_]
   rintro (k | k | ⟨_,k⟩)
   ·omega
   ·omega
   ·obtain ⟨x,hx,hk⟩:=List.any_eq_true.1 k
    rw [Bool.and_eq_true,decide_eq_true_iff] at hk
    have:=likeN_trans (likeN_symm (f3 x hx hk.1)) hl
    rw [this] at hk
    exact absurd hk.2 (by decide)
theorem node_eq (g:CkOk pre c) (n:Nd):nodeF c n=nodeE pre n:=by
 unfold nodeF nodeE
 rw [place_eq g,class_eq g]
theorem place_zero {n x:Nd} {r:List Nd} (h:placeE (x :: r) n=0):1≤n.depth∧n.depth≤x.depth+1∧(sib n.depth (x :: r)).1<24:=by
 unfold placeE at h
 dsimp only at h
 have hz:(if x.kind=1 then (1:Int) else 0)≤1:=by split<;>decide
 generalize (if x.kind=1 then (1:Int) else 0)=z at *
 by_cases hd:n.depth<1∨x.depth+z<n.depth
 ·rw [if_pos hd] at h;exact absurd h (by decide)
 rw [if_neg hd] at h
 refine ⟨by omega,by omega,?_⟩
 by_cases h8:8<n.depth
 ·rw [if_pos h8] at h;exact absurd h (by decide)
 rw [if_neg h8] at h
 by_cases hp:pnameE n.name≠0
 ·rw [if_pos hp] at h;exact absurd h hp
 rw [if_neg hp] at h
 have hs:=sib_none n.depth (x :: r)
 generalize sib n.depth (x :: r)=S at *
 obtain ⟨S1,S2⟩:=S
 dsimp only at *
 cases S2 with
 | none=>have:=hs.1 rfl;omega
 | some s=>
  dsimp only at h
  split at h
  ·exact absurd h (by decide)
  split at h
  ·exact absurd h (by decide)
  split at h
  ·exact absurd h (by decide)
  ·omega
theorem count_cons (x:Nd) (l:List Nd) (k:Int):countC (x :: l) k=countC l k+if x.cls=k then 1 else 0:=by
 unfold countC
 rw [List.countP_cons]
 simp
theorem getD_set {α:Type} {l:List α} {i k:Nat} {v d:α} (h:i<l.length):(l.set i v).getD k d=if k=i then v else l.getD k d:=by
 rw [List.getD_eq_getElem?_getD,List.getElem?_set]
 by_cases e:i=k
 ·subst e;simp [h]
 ·rw [if_neg e,if_neg (Ne.symm e),← List.getD_eq_getElem?_getD]
theorem getD_snoc {α:Type} {l:List α} {k:Nat} {v d:α}:(l++[v]).getD k d=if k<l.length then l.getD k d else if k=l.length then v else d:=by
 rw [List.getD_eq_getElem?_getD,List.getElem?_append]
 by_cases e:k<l.length
 ·rw [if_pos e,if_pos e,← List.getD_eq_getElem?_getD]
 ·rw [if_neg e,if_neg e]
  by_cases e2:k=l.length
  ·subst e2;simp
  ·rw [if_neg e2,List.getElem?_eq_none (by simp;omega)];rfl
theorem getD_take {α:Type} {l:List α} {k m:Nat} {d:α} (h:k<m):(l.take m).getD k d=l.getD k d:=by
 rw [List.getD_eq_getElem?_getD,List.getElem?_take,if_pos h,← List.getD_eq_getElem?_getD]
end
theorem ck_step {pre:List Nd} {c:Ck} (g:CkOk pre c) {n:Nd} (h:nodeE pre n=0):CkOk (n :: pre) (nodeD c n):=by
 unfold nodeE at h
 have hp:placeE pre n=0:=Decidable.byContradiction fun k=>by rw [if_pos k] at h;exact k h
 rw [if_neg (fun k=>k hp)] at h
 have hf:fieldsE n=0:=Decidable.byContradiction fun k=>by rw [if_pos k] at h;exact k h
 rw [if_neg (fun k=>k hf)] at h
 have ha:checkE n.attrs=0:=Decidable.byContradiction fun k=>by rw [if_pos k] at h;exact k h
 rw [if_neg (fun k=>k ha)] at h
 have hc:¬ (n.cls<0∨mostC pre+1<n.cls∨(0<n.cls∧pre.any (fun x=>decide (x.cls=n.cls) && !likeN x n)=true)):=fun k=>by
  unfold classE at h
  rw [if_pos k] at h
  exact absurd h (by decide)
 have hm:=g.most
 have hcl:=g.clen
 -- where it stands
 have hdirs:((placeD c n).length:Int)=n.depth+1∧0≤n.depth∧∀ d:Nat,d<(placeD c n).length→((placeD c n).getD d dd0).1=((sib (d+1) (n :: pre)).1:Nat)∧((sib (d+1) (n :: pre)).2=none∨(sib (d+1) (n :: pre)).2=some ((placeD c n).getD d dd0).2)∧(sib (d+1) (n :: pre)).1≤24:=by
  cases pre with
  | nil=>
   have hn:n.depth=0:=by
    unfold placeE at hp
    dsimp only at hp
    split at hp
    ·exact absurd hp (by decide)
    ·omega
   rw [g.nil rfl]
   refine ⟨by rw [hn];rfl,by omega,fun d hd=>?_⟩
   have hd:d<1:=hd
   obtain rfl:d=0:=by omega
   have hs:sib ((0:Nat)+1:Int) [n]=(0,none):=by rw [sib,if_pos (by rw [hn];decide)]
   rw [hs]
   exact ⟨rfl,.inl rfl,by decide⟩
  | cons x r=>
   obtain ⟨h1,h2,h3⟩:=g.cons x r rfl
   obtain ⟨p1,p2,p3⟩:=place_zero hp
   have hne:c.dirs≠[]:=fun e=>by rw [e] at h1;simp at h1;omega
   have hpd:placeD c n=(c.dirs.set (n.depth - 1).toNat ((dirAt c n).1+1,n.name)).take n.depth.toNat++[dd0]:=if_neg hne
   have htl:((c.dirs.set (n.depth - 1).toNat ((dirAt c n).1+1,n.name)).take n.depth.toNat).length=n.depth.toNat:=by rw [List.length_take,List.length_set];omega
   have hlen:(placeD c n).length=n.depth.toNat+1:=by rw [hpd,List.length_append,htl];rfl
   refine ⟨by omega,by omega,fun d hd=>?_⟩
   rw [hpd,getD_snoc,htl]
   by_cases e1:d<n.depth.toNat
   ·have hs1:sib ((d:Int)+1) (n :: x :: r)=if n.depth=(d:Int)+1 then ((sib ((d:Int)+1) (x :: r)).1+1,some n.name) else sib ((d:Int)+1) (x :: r):=by rw [sib,if_neg (by omega)]
    rw [if_pos e1,getD_take e1,getD_set (l:=c.dirs) (i:=(n.depth - 1).toNat) (by omega),hs1]
    by_cases e2:d=(n.depth - 1).toNat
    ·rw [if_pos e2,if_pos (by omega)]
     obtain ⟨f1,f2,f3⟩:=g.dir (n.depth - 1).toNat (by omega)
     rw [show (((n.depth - 1).toNat:Nat):Int)+1=n.depth by omega] at f1 f2 f3
     rw [show ((d:Nat):Int)+1=n.depth by omega]
     have f1:(dirAt c n).1=((sib n.depth (x :: r)).1:Nat):=f1
     refine ⟨?_,.inr rfl,by dsimp only;omega⟩
     dsimp only
     rw [f1]
     omega
    ·rw [if_neg e2,if_neg (by omega)]
     exact g.dir d (by omega)
   ·obtain rfl:d=n.depth.toNat:=by omega
    rw [if_neg (Nat.lt_irrefl _),if_pos rfl]
    have hs:sib (((n.depth.toNat:Nat):Int)+1) (n :: x :: r)=(0,none):=by rw [sib,if_pos (by omega)]
    rw [hs]
    exact ⟨rfl,.inl rfl,by decide⟩
 obtain ⟨d1,d2,d3⟩:=hdirs
 have hge:∀ x∈n :: pre,0≤x.cls:=fun x hx=>by
  rcases List.mem_cons.1 hx with hx | hx
  ·subst hx;omega
  ·exact g.ge x hx
 have hlike:∀ x∈pre,x.cls=n.cls→0<n.cls→likeN x n=true:=fun x hx e h0=>Decidable.byContradiction fun k=>hc (.inr (.inr ⟨h0,List.any_eq_true.2 ⟨x,hx,by rw [decide_eq_true e];simpa using k⟩⟩))
 have hcons:∀ (c' : Ck),c'.dirs=placeD c n→c'.file=decide (n.kind≠1)→∀ x r,n :: pre=x :: r→(c'.dirs.length:Int)=x.depth+1∧c'.file=decide (x.kind≠1)∧0≤x.depth:=fun c' e1 e2 x r e=>by
  cases e
  exact ⟨by rw [e1];exact d1,e2,d2⟩
 by_cases h0:n.cls=0
 ·have hcd:classD c n=(c.first,c.count):=if_pos h0
  have hnd:nodeD c n=⟨placeD c n,decide (n.kind≠1),c.first,c.count⟩:=by unfold nodeD;rw [hcd]
  rw [hnd]
  refine ⟨fun e=>(nomatch e),hcons _ rfl rfl,d3,?_,hcl,fun k hk=>?_,fun k hk=>?_,hge⟩
  ·show (c.first.length:Int)=max (mostC pre) n.cls
   have:=most_ge pre
   omega
  ·obtain ⟨f1,f2,f3⟩:=g.fst k hk
   refine ⟨List.mem_cons_of_mem _ f1,f2,fun x hx e=>?_⟩
   rcases List.mem_cons.1 hx with hx | hx
   ·subst hx;omega
   ·exact f3 x hx e
  ·rw [count_cons,if_neg (by omega)]
   exact g.cnt k hk
 by_cases h1:(c.first.length:Int)<n.cls
 ·have hn:n.cls=c.first.length+1:=by omega
  have hcd:classD c n=(c.first++[n],c.count++[1]):=by unfold classD;rw [if_neg h0,if_pos h1]
  have hnd:nodeD c n=⟨placeD c n,decide (n.kind≠1),c.first++[n],c.count++[1]⟩:=by unfold nodeD;rw [hcd]
  rw [hnd]
  refine ⟨fun e=>(nomatch e),hcons _ rfl rfl,d3,?_,by simp [hcl],fun k hk=>?_,fun k hk=>?_,hge⟩
  ·show ((c.first++[n]).length:Int)=max (mostC pre) n.cls
   rw [List.length_append]
   simp only [List.length_cons,List.length_nil]
   omega
  ·have hk:k<c.first.length+1:=by simpa using hk
   dsimp only
   rw [getD_snoc]
   by_cases e:k<c.first.length
   ·rw [if_pos e]
    obtain ⟨f1,f2,f3⟩:=g.fst k e
    refine ⟨List.mem_cons_of_mem _ f1,f2,fun x hx e2=>?_⟩
    rcases List.mem_cons.1 hx with hx | hx
    ·subst hx;omega
    ·exact f3 x hx e2
   ·rw [if_neg e,if_pos (by omega)]
    refine ⟨List.mem_cons_self ..,by omega,fun x hx e2=>?_⟩
    rcases List.mem_cons.1 hx with hx | hx
    ·subst hx;exact likeN_refl _
    ·have:=most_mem hx;omega
  ·have hk:k<c.first.length+1:=by simpa using hk
   dsimp only
   rw [getD_snoc,hcl,count_cons]
   by_cases e:k<c.first.length
   ·rw [if_pos e,if_neg (by omega)]
    exact g.cnt k e
   ·rw [if_neg e,if_pos (by omega),if_pos (by omega)]
    have:countC pre ((k:Nat)+1)=0:=by
     unfold countC
     rw [List.countP_eq_zero]
     intro x hx
     have:=most_mem hx
     simp only [decide_eq_true_eq]
     omega
    rw [this]
    rfl
 ·have hcd:classD c n=(c.first,c.count.set (n.cls - 1).toNat (c.count.getD (n.cls - 1).toNat 0+1)):=by unfold classD;rw [if_neg h0,if_neg h1]
  have hnd:nodeD c n=⟨placeD c n,decide (n.kind≠1),c.first,c.count.set (n.cls - 1).toNat (c.count.getD (n.cls - 1).toNat 0+1)⟩:=by unfold nodeD;rw [hcd]
  rw [hnd]
  refine ⟨fun e=>(nomatch e),hcons _ rfl rfl,d3,?_,by simp [hcl],fun k hk=>?_,fun k hk=>?_,hge⟩
  ·show (c.first.length:Int)=max (mostC pre) n.cls
   omega
  ·obtain ⟨f1,f2,f3⟩:=g.fst k hk
   refine ⟨List.mem_cons_of_mem _ f1,f2,fun x hx e=>?_⟩
   rcases List.mem_cons.1 hx with hx | hx
   ·have f2' : (c.first.getD k n0).cls=k+1:=f2
    subst hx
    exact hlike _ f1 (f2'.trans e.symm) (by omega)
   ·exact f3 x hx e
  ·dsimp only
   rw [getD_set (by omega),count_cons]
   by_cases e:k=(n.cls - 1).toNat
   ·subst e
    rw [if_pos rfl,if_pos (by omega),g.cnt _ hk]
    omega
   ·rw [if_neg e,if_neg (by omega)]
    exact g.cnt k hk
theorem ck_start:CkOk [] ck0:=⟨fun _=>rfl,fun _ _ h=>(nomatch h),fun d h=>absurd h (Nat.not_lt_zero _),rfl,rfl,fun k h=>absurd h (Nat.not_lt_zero _),fun k h=>absurd h (Nat.not_lt_zero _),fun x h=>(nomatch h)⟩
structure ChkAt (l:List Nd) (q:Nat) (c:Ck):Prop where
 le:q≤l.length
 ok:CkOk (l.take q).reverse c
 at' : errAt [] l 0=errAt (l.take q).reverse (l.drop q) q
theorem chk_start (l:List Nd):ChkAt l 0 ck0:=⟨Nat.zero_le _,ck_start,rfl⟩
theorem drop_nd {l:List Nd} {q:Nat} (h:q<l.length):l.drop q=l.getD q n0 :: l.drop (q+1):=by
 rw [List.drop_eq_getElem_cons h,List.getD_eq_getElem?_getD,List.getElem?_eq_getElem h];rfl
theorem take_rev {l:List Nd} {q:Nat} (h:q<l.length):(l.take (q+1)).reverse=l.getD q n0 :: (l.take q).reverse:=by
 rw [List.take_add_one,List.getD_eq_getElem?_getD,List.getElem?_eq_getElem h]
 simp
theorem chk_bad {l:List Nd} {q:Nat} {c:Ck} (g:ChkAt l q c) (h:q<l.length) (he:nodeF c (l.getD q n0)≠0):errAt [] l 0=some (q,nodeF c (l.getD q n0)):=by
 rw [g.at',drop_nd h,errAt,← node_eq g.ok,if_pos he]
theorem chk_next {l:List Nd} {q:Nat} {c:Ck} (g:ChkAt l q c) (h:q<l.length) (he:nodeF c (l.getD q n0)=0):ChkAt l (q+1) (nodeD c (l.getD q n0)):=by
 have he2:nodeE (l.take q).reverse (l.getD q n0)=0:=by rw [← node_eq g.ok];exact he
 refine ⟨h,?_,?_⟩
 ·rw [take_rev h]
  exact ck_step g.ok he2
 ·rw [g.at',drop_nd h,errAt,if_neg (fun k=>k he2),take_rev h]
theorem chk_end {l:List Nd} {c:Ck} (g:ChkAt l l.length c):errAt [] l 0=none∧∀ x∈l,0≤x.cls∧(0<x.cls→(x.cls - 1).toNat<c.count.length∧c.count.getD (x.cls - 1).toNat 0=(countC l x.cls:Nat)):=by
 refine ⟨by rw [g.at',List.drop_length,errAt],fun x hx=>?_⟩
 have hr:(l.take l.length).reverse=l.reverse:=by rw [List.take_length]
 have hok:=g.ok
 rw [hr] at hok
 have hx2:x∈l.reverse:=List.mem_reverse.2 hx
 refine ⟨hok.ge x hx2,fun h0=>?_⟩
 have h1:=most_mem hx2
 have h2:=hok.most
 have h3:=hok.clen
 have hk:(x.cls - 1).toNat<c.first.length:=by omega
 have h4:=hok.cnt _ hk
 rw [show (((x.cls - 1).toNat:Nat):Int)+1=x.cls by omega] at h4
 refine ⟨by omega,?_⟩
 rw [h4]
 unfold countC
 rw [List.countP_reverse]
theorem lone_none {l:List Nd}:∀ (r:List Nd) (i:Nat),(∀ x∈r,¬ (0<x.cls∧countC l x.cls=1))→loneAt l r i=none
 | [],_,_=>rfl
 | x :: r,i,h=>by
  rw [loneAt,if_neg (h x (List.mem_cons_self ..))]
  exact lone_none r _ fun y hy=>h y (List.mem_cons_of_mem _ hy)
theorem lone_at {l:List Nd}:∀ (r:List Nd) (i k:Nat),k<r.length→(∀ j,j<k→¬ (0<(r.getD j n0).cls∧countC l (r.getD j n0).cls=1))→(0<(r.getD k n0).cls∧countC l (r.getD k n0).cls=1)→loneAt l r i=some (i+k)
 | [],_,_,h,_,_=>absurd h (Nat.not_lt_zero _)
 | x :: r,i,0,_,_,h=>by
  have h:0<x.cls∧countC l x.cls=1:=h
  rw [loneAt,if_pos h]
  rfl
 | x :: r,i,k+1,hk,hj,h=>by
  have h0:¬ (0<x.cls∧countC l x.cls=1):=hj 0 (Nat.succ_pos _)
  rw [loneAt,if_neg h0,lone_at r (i+1) k (by simpa using hk) (fun j hjk=>hj (j+1) (by omega)) h]
  congr 1
  omega
def ents {α β:Type} (f:α→β):Int→List α→List (Int×β)
 | _,[]=>[]
 | k,x :: r=>(k,f x) :: ents f (k+1) r
def aboveR (d:Int):List Nd→Int
 | []=>-1
 | x :: r=>if x.depth<d then (r.length:Int) else aboveR d r
def upP:Int→List Nd→List ByteArray
 | _,[]=>[]
 | d,x :: r=>if x.depth<d then (if r=[] then [] else upP x.depth r++[x.name]) else upP d r
def pathR (pre:List Nd) (x:Nd):List ByteArray:=if pre=[] then [] else upP x.depth pre++[x.name]
def pathI (l:List Nd) (i:Nat):List ByteArray:=pathR (l.take i).reverse (l.getD i n0)
def aboveI (l:List Nd) (i:Nat):Int:=aboveR (l.getD i n0).depth (l.take i).reverse
def stk:List Nd→List Nat
 | []=>[]
 | x :: r=>(stk r).take x.depth.toNat++[r.length]
def pst:List Nd→List ByteArray
 | []=>[]
 | x :: r=>if r=[] then [] else (pst r).take (x.depth - 1).toNat++[x.name]
def Shp:List Nd→Prop
 | []=>True
 | [x]=>x.depth=0
 | x :: y :: r=>1≤x.depth∧x.depth≤y.depth+1∧Shp (y :: r)
theorem shp_tail {x:Nd} {r:List Nd} (h:Shp (x :: r)):Shp r:=by
 cases r with
 | nil=>trivial
 | cons y r=>exact h.2.2
theorem stk_len:∀ {r:List Nd} {x:Nd},Shp (x :: r)→((stk (x :: r)).length:Int)=x.depth+1∧0≤x.depth
 | [],x,h=>by
  have h:x.depth=0:=h
  simp [stk,h]
 | y :: r,x,h=>by
  obtain ⟨h1,h2,h3⟩:=h
  have:=stk_len h3
  rw [stk,List.length_append,List.length_take]
  simp only [List.length_cons,List.length_nil]
  omega
theorem pst_len:∀ {r:List Nd} {x:Nd},Shp (x :: r)→((pst (x :: r)).length:Int)=x.depth
 | [],x,h=>by
  have h:x.depth=0:=h
  simp [pst,h]
 | y :: r,x,h=>by
  obtain ⟨h1,h2,h3⟩:=h
  have:=pst_len h3
  rw [pst,if_neg (by simp),List.length_append,List.length_take]
  simp only [List.length_cons,List.length_nil]
  omega
theorem above_stk:∀ {r:List Nd} {x:Nd} {d:Int},Shp (x :: r)→1≤d→d≤x.depth+1→aboveR d (x :: r)=(((stk (x :: r)).getD (d - 1).toNat 0:Nat):Int):=by
 intro r
 induction r with
 | nil=>
  intro x d h h1 h2
  have h:x.depth=0:=h
  rw [aboveR,if_pos (by omega),stk,getD_snoc]
  simp [stk,h]
 | cons y r ih=>
  intro x d h h1 h2
  have hl:=stk_len (shp_tail h)
  obtain ⟨k1,k2,k3⟩:=h
  have ht:((stk (y :: r)).take x.depth.toNat).length=x.depth.toNat:=by rw [List.length_take];omega
  rw [aboveR,stk,getD_snoc,ht]
  by_cases e:x.depth<d
  ·rw [if_pos e,if_neg (by omega),if_pos (by omega)]
  ·rw [if_neg e,if_pos (by omega),getD_take (by omega)]
   exact ih k3 h1 (by omega)
theorem upP_pst:∀ {r:List Nd} {x:Nd} {d:Int},Shp (x :: r)→1≤d→d≤x.depth+1→upP d (x :: r)=(pst (x :: r)).take (d - 1).toNat:=by
 intro r
 induction r with
 | nil=>
  intro x d h h1 h2
  have h:x.depth=0:=h
  rw [upP,if_pos (by omega),if_pos rfl,pst,if_pos rfl,List.take_nil]
 | cons y r ih=>
  intro x d h h1 h2
  have hl:=pst_len (shp_tail h)
  obtain ⟨k1,k2,k3⟩:=h
  have ht:((pst (y :: r)).take (x.depth - 1).toNat).length=(x.depth - 1).toNat:=by rw [List.length_take];omega
  have hps:pst (x :: y :: r)=(pst (y :: r)).take (x.depth - 1).toNat++[x.name]:=if_neg (by simp)
  rw [upP,hps]
  by_cases e:x.depth<d
  ·rw [if_pos e,if_neg (by simp),ih k3 (d:=x.depth) (by omega) (by omega)]
   exact (List.take_of_length_le (by rw [List.length_append,ht];simp only [List.length_cons,List.length_nil];omega)).symm
  ·rw [if_neg e,List.take_append_of_le_length (by rw [ht];omega),List.take_take,ih k3 h1 (by omega)]
   congr 1
   omega
theorem pathR_pst {pre:List Nd} {x:Nd} (h:Shp (x :: pre)):pathR pre x=pst (x :: pre):=by
 unfold pathR
 rw [pst]
 cases pre with
 | nil=>rfl
 | cons y r=>
  obtain ⟨h1,h2,h3⟩:=h
  rw [if_neg (by simp),if_neg (by simp),upP_pst h3 h1 h2]
theorem above_lt {d:Int}:∀ l:List Nd,aboveR d l<l.length
 | []=>by simp [aboveR]
 | x :: r=>by
  have:=above_lt (d:=d) r
  rw [aboveR]
  simp only [List.length_cons]
  split<;>omega
theorem above_ge {d:Int}:∀ l:List Nd,-1≤aboveR d l
 | []=>by simp [aboveR]
 | x :: r=>by
  have:=above_ge (d:=d) r
  rw [aboveR]
  split<;>omega
theorem errAt_some:∀ {l pre:List Nd} {i j:Nat} {e:Int},errAt pre l i=some (j,e)→e≠0
 | [],_,_,_,_,h=>nomatch h
 | x :: r,pre,i,j,e,h=>by
  rw [errAt] at h
  split at h
  ·rename_i k;cases h;exact k
  ·exact errAt_some h
theorem errAt_none:∀ {l pre:List Nd} {i:Nat},errAt pre l i=none→∀ k,k<l.length→nodeE ((l.take k).reverse++pre) (l.getD k n0)=0
 | [],_,_,_,_,hk=>absurd hk (Nat.not_lt_zero _)
 | x :: r,pre,i,h,k,hk=>by
  rw [errAt] at h
  split at h
  ·cases h
  ·rename_i h0
   cases k with
   | zero=>exact Decidable.not_not.1 h0
   | succ k=>
    have:=errAt_none h k (by simpa using hk)
    simpa using this
def Tok (l:List Nd):Prop:=(checkT l).2=0
theorem tok_node {l:List Nd} (h:Tok l):0<l.length∧l.length≤120∧∀ k,k<l.length→nodeE (l.take k).reverse (l.getD k n0)=0:=by
 unfold Tok checkT at h
 split at h
 ·exact absurd h (by decide)
 rename_i h1
 split at h
 ·exact absurd h (by decide)
 rename_i h2
 refine ⟨List.length_pos_iff.2 h1,by omega,fun k hk=>?_⟩
 split at h
 ·rename_i h3
  exact absurd h (errAt_some h3)
 ·rename_i h3
  have:=errAt_none h3 k hk
  rwa [List.append_nil] at this
theorem node_zero {pre:List Nd} {n:Nd} (h:nodeE pre n=0):placeE pre n=0∧fieldsE n=0∧checkE n.attrs=0∧classE pre n=0:=by
 unfold nodeE at h
 have hp:placeE pre n=0:=Decidable.byContradiction fun k=>by rw [if_pos k] at h;exact k h
 rw [if_neg (fun k=>k hp)] at h
 have hf:fieldsE n=0:=Decidable.byContradiction fun k=>by rw [if_pos k] at h;exact k h
 rw [if_neg (fun k=>k hf)] at h
 have ha:checkE n.attrs=0:=Decidable.byContradiction fun k=>by rw [if_pos k] at h;exact k h
 rw [if_neg (fun k=>k ha)] at h
 exact ⟨hp,hf,ha,h⟩
theorem tok_shp {l:List Nd} (h:Tok l):∀ q,q≤l.length→Shp (l.take q).reverse
 | 0,_=>trivial
 | q+1,hq=>by
  have h1:=tok_shp h q (by omega)
  have h2:=(node_zero ((tok_node h).2.2 q (by omega))).1
  rw [take_rev (by omega)]
  generalize (l.take q).reverse=pre at *
  cases pre with
  | nil=>
   show (l.getD q n0).depth=0
   unfold placeE at h2
   dsimp only at h2
   split at h2
   ·exact absurd h2 (by decide)
   ·omega
  | cons y r=>
   obtain ⟨p1,p2,_⟩:=place_zero h2
   exact ⟨p1,p2,h1⟩
abbrev nds (l:List Bn):List Nd:=l.map (·.nd)
theorem nds_getD (l:List Bn) (i:Nat):(nds l).getD i n0=(l.getD i b0).nd:=by
 rw [List.getD_eq_getElem?_getD,List.getD_eq_getElem?_getD,List.getElem?_map]
 cases l[i]? <;> rfl
def opqAt (l:List Bn) (z:Int):Bool:=decide (0≤z) && (l.getD z.toNat b0).opq
def marksE (l:List Bn) (i:Nat):Int:=
 if ((l.getD i b0).opq=true∨(l.getD i b0).red≠[])∧(l.getD i b0).nd.kind≠1∨i=0∧(l.getD i b0).red≠[] then 14
 else if (l.getD i b0).opq=true∧(l.getD i b0).red≠[] then 6
 else if (l.getD i b0).red≠[]∧pcheckE (l.getD i b0).red≠0 then pcheckE (l.getD i b0).red
 else if (l.getD i b0).red≠[]∧(l.getD i b0).red=pathI (nds l) i then 6
 else if (l.getD i b0).red≠[]∧(l.take i).any (fun y=>decide ((l.getD i b0).red=y.red))=true then 8
 else if (l.getD i b0).nd.kind=5∧opqAt l (aboveI (nds l) i)=true then 6 else 0
def firstM (l:List Bn):Nat→Nat→Option (Nat×Int)
 | 0,_=>none
 | n+1,i=>if marksE l i≠0 then some (i,marksE l i) else firstM l n (i+1)
def checkB (l:List Bn):Int×Int:=
 if (checkT (nds l)).2≠0 then checkT (nds l) else match firstM l l.length 0 with
 | some (i,e)=>(i,e)
 | none=>(0,0)
theorem firstM_none {l:List Bn}:∀ (n i:Nat),(∀ k,i≤k→k<i+n→marksE l k=0)→firstM l n i=none
 | 0,_,_=>rfl
 | n+1,i,h=>by
  rw [firstM,if_neg (fun k=>k (h i (Nat.le_refl _) (by omega)))]
  exact firstM_none n (i+1) fun k h1 h2=>h k (by omega) (by omega)
theorem firstM_at {l:List Bn}:∀ (n i k:Nat),i≤k→k<i+n→(∀ j,i≤j→j<k→marksE l j=0)→marksE l k≠0→firstM l n i=some (k,marksE l k)
 | 0,_,_,h1,h2,_,_=>absurd h2 (by omega)
 | n+1,i,k,h1,h2,h3,h4=>by
  rw [firstM]
  by_cases e:i=k
  ·subst e;rw [if_pos h4]
  ·rw [if_neg (fun c=>c (h3 i (Nat.le_refl _) (by omega)))]
   exact firstM_at n (i+1) k (by omega) (by omega) (fun j g1 g2=>h3 j (by omega) g2) h4
theorem firstM_zero {l:List Bn}:∀ (n i:Nat),firstM l n i=none→∀ k,i≤k→k<i+n→marksE l k=0
 | 0,_,_,_,h1,h2=>absurd h2 (by omega)
 | n+1,i,h,k,h1,h2=>by
  rw [firstM] at h
  split at h
  ·cases h
  ·rename_i c
   by_cases e:i=k
   ·subst e;exact Decidable.not_not.1 c
   ·exact firstM_zero n (i+1) h k (by omega) (by omega)
theorem firstM_some {l:List Bn}:∀ (n i k:Nat) (e:Int),firstM l n i=some (k,e)→e≠0
 | 0,_,_,_,h=>nomatch h
 | n+1,i,k,e,h=>by
  rw [firstM] at h
  split at h
  ·rename_i c;cases h;exact c
  ·exact firstM_some n _ _ _ h
def Bok (l:List Bn):Prop:=(checkB l).2=0
theorem bok_iff {l:List Bn}:Bok l↔Tok (nds l)∧∀ k,k<l.length→marksE l k=0:=by
 unfold Bok checkB Tok
 by_cases h:(checkT (nds l)).2≠0
 ·rw [if_pos h]
  exact ⟨fun k=>absurd k h,fun k=>absurd k.1 h⟩
 rw [if_neg h]
 have h:=Decidable.not_not.1 h
 constructor
 ·intro k
  refine ⟨h,fun j hj=>?_⟩
  split at k
  ·rename_i i e he
   exact absurd k (firstM_some _ _ _ _ he)
  ·rename_i he
   exact firstM_zero _ _ he j (Nat.zero_le _) (by omega)
 ·rintro ⟨_,k⟩
  rw [firstM_none _ _ fun j _ h2=>k j (by omega)]
instance (l:List Bn):Decidable (Bok l):=inferInstanceAs (Decidable ((checkB l).2=0))
def knownE (l:List Bn) (n:Int):Int:=if (checkB l).2≠0 then (checkB l).2 else if n<0∨(l.length:Int)≤n then 4 else 0
def idxs (p:Nat→Bool) (n:Nat):List Nat:=(List.range n).filter p
theorem idxs_succ (p:Nat→Bool) (n:Nat):idxs p (n+1)=if p n=true then idxs p n++[n] else idxs p n:=by
 unfold idxs
 rw [List.range_succ,List.filter_append]
 by_cases h:p n=true
 ·rw [if_pos h];simp [h]
 ·rw [if_neg h];simp [h]
theorem idxs_mem {p:Nat→Bool} {n k:Nat}:k∈idxs p n↔k<n∧p k=true:=by
 unfold idxs
 rw [List.mem_filter,List.mem_range]
theorem idxs_len (p:Nat→Bool) (n:Nat):(idxs p n).length≤n:=by
 have:=List.length_filter_le p (List.range n)
 rw [List.length_range] at this
 exact this
def kidsL (l:List Bn) (n:Int):List Nat:=idxs (fun i=>decide (aboveI (nds l) i=n)) l.length
def kidsE (l:List Bn) (n:Int):List Nat×Int:=if knownE l n≠0 then ([],knownE l n) else if (l.getD n.toNat b0).nd.kind≠1 then ([],14) else (kidsL l n,0)
def namesP (l:List Bn) (n i:Nat):Bool:=decide (i=n) || (decide ((l.getD n b0).nd.cls≠0) && decide ((l.getD i b0).nd.cls=(l.getD n b0).nd.cls))
def namesL (l:List Bn) (n:Nat):List Nat:=idxs (namesP l n) l.length
def namesE (l:List Bn) (n:Int):List Nat×Int:=if knownE l n≠0 then ([],knownE l n) else (namesL l n.toNat,0)
def dirsL (l:List Bn):List Nat:=idxs (fun i=>decide ((l.getD i b0).nd.kind=1)) l.length
def dirsE (l:List Bn):List Nat×Int:=if (checkB l).2≠0 then ([],(checkB l).2) else (dirsL l,0)
def findF (l:List Nd) (p:List ByteArray):Nat→Nat→Int
 | 0,_=>-1
 | n+1,i=>if pathI l i=p then (i:Int) else findF l p n (i+1)
def findI (l:List Nd) (p:List ByteArray):Int:=findF l p l.length 0
def findE (l:List Nd) (p:List ByteArray):Int×Int:=if (checkT l).2≠0 then (0,(checkT l).2) else if pcheckE p≠0 then (0,pcheckE p) else if findI l p<0 then (0,4) else (findI l p,0)
def atE (l:List Bn) (p:List ByteArray):Int×Int:=if (checkB l).2≠0 then (0,(checkB l).2) else findE (nds l) p
theorem findF_none {l:List Nd} {p:List ByteArray}:∀ (n i:Nat),(∀ k,i≤k→k<i+n→pathI l k≠p)→findF l p n i = -1
 | 0,_,_=>rfl
 | n+1,i,h=>by
  rw [findF,if_neg (h i (Nat.le_refl _) (by omega))]
  exact findF_none n (i+1) fun k h1 h2=>h k (by omega) (by omega)
theorem findF_at {l:List Nd} {p:List ByteArray}:∀ (n i k:Nat),i≤k→k<i+n→(∀ j,i≤j→j<k→pathI l j≠p)→pathI l k=p→findF l p n i=k
 | 0,_,_,h1,h2,_,_=>absurd h2 (by omega)
 | n+1,i,k,h1,h2,h3,h4=>by
  rw [findF]
  by_cases e:i=k
  ·subst e;rw [if_pos h4]
  ·rw [if_neg (h3 i (Nat.le_refl _) (by omega))]
   exact findF_at n (i+1) k (by omega) (by omega) (fun j g1 g2=>h3 j (by omega) g2) h4
theorem place_more {n x:Nd} {r:List Nd} (h:placeE (x :: r) n=0):n.depth≤8∧pnameE n.name=0∧(∀ s,(sib n.depth (x :: r)).2=some s→ltS s n.name=true)∧n.depth≤x.depth+(if x.kind=1 then 1 else 0):=by
 unfold placeE at h
 dsimp only at h
 generalize (if x.kind=1 then (1:Int) else 0)=z at *
 by_cases k1:n.depth<1∨x.depth+z<n.depth
 ·rw [if_pos k1] at h;exact absurd h (by decide)
 rw [if_neg k1] at h
 by_cases k2:8<n.depth
 ·rw [if_pos k2] at h;exact absurd h (by decide)
 rw [if_neg k2] at h
 by_cases k3:pnameE n.name≠0
 ·rw [if_pos k3] at h;exact absurd h k3
 rw [if_neg k3] at h
 refine ⟨by omega,Decidable.not_not.1 k3,fun s hs=>?_,by omega⟩
 rw [hs] at h
 dsimp only at h
 split at h
 ·exact absurd h (by decide)
 split at h
 ·exact absurd h (by decide)
 rename_i k4 k5
 cases k6:ltS s n.name
 ·exact absurd (ltS_tri k6 (by simpa using k5)) k4
 ·rfl
theorem pathI_pst {l:List Nd} (h:Tok l) {q:Nat} (hq:q<l.length):pathI l q=pst (l.take (q+1)).reverse:=by
 have h1:=tok_shp h (q+1) hq
 unfold pathI
 rw [take_rev hq] at h1⊢
 exact pathR_pst h1
theorem path_len {l:List Nd} (h:Tok l) {k:Nat} (hk:k<l.length):((pathI l k).length:Int)=(l.getD k n0).depth:=by
 have h1:=tok_shp h (k+1) hk
 rw [pathI_pst h hk]
 rw [take_rev hk] at h1⊢
 exact pst_len h1
theorem pnames_iff:∀ {p:List ByteArray},pnamesE p=0↔∀ s∈p,pnameE s=0
 | []=>by simp [pnamesE]
 | s :: r=>by
  rw [pnamesE]
  by_cases h:pnameE s≠0
  ·rw [if_pos h]
   exact ⟨fun k=>absurd k h,fun k=>absurd (k s (List.mem_cons_self ..)) h⟩
  ·rw [if_neg h,pnames_iff (p:=r)]
   have h:=Decidable.not_not.1 h
   constructor
   ·intro k x hx
    rcases List.mem_cons.1 hx with hx | hx
    ·subst hx;exact h
    ·exact k x hx
   ·exact fun k x hx=>k x (List.mem_cons_of_mem _ hx)
theorem pcheck_iff {p:List ByteArray}:pcheckE p=0↔p.length≤8∧∀ s∈p,pnameE s=0:=by
 unfold pcheckE
 by_cases h:8<p.length
 ·rw [if_pos h]
  exact ⟨fun k=>absurd k (by decide),fun k=>by have:=k.1;omega⟩
 ·rw [if_neg h,pnames_iff]
  exact ⟨fun k=>⟨by omega,k⟩,fun k=>k.2⟩
theorem path_ok {l:List Nd} (h:Tok l):∀ k,k<l.length→pcheckE (pathI l k)=0
 | 0,hk=>by
  have e:pathI l 0=[]:=rfl
  rw [e];rfl
 | k+1,hk=>by
  have ih:=pcheck_iff.1 (path_ok h k (by omega))
  have hp:=(node_zero ((tok_node h).2.2 (k+1) hk)).1
  have hl:=path_len h hk
  rw [pathI_pst h (by omega)] at ih
  rw [pathI_pst h hk] at hl⊢
  rw [take_rev hk] at *
  have hne:(l.take (k+1)).reverse≠[]:=by rw [take_rev (by omega)];simp
  generalize (l.take (k+1)).reverse=r at *
  obtain ⟨x,r,rfl⟩:=List.exists_cons_of_ne_nil hne
  obtain ⟨m1,m2,_⟩:=place_more hp
  refine pcheck_iff.2 ⟨by omega,fun s hs=>?_⟩
  rw [pst,if_neg (by simp)] at hs
  rcases List.mem_append.1 hs with hs | hs
  ·exact ih.2 s (List.mem_of_mem_take hs)
  ·obtain rfl:=List.mem_singleton.1 hs
   exact m2
theorem name_bytes {s:ByteArray} (h:pnameE s=0):(47:UInt8) ∉ s.data.toList:=by
 intro hm
 unfold pnameE at h
 rw [if_pos (.inr (.inr (.inr (List.any_eq_true.2 ⟨47,hm,by decide⟩))))] at h
 exact absurd h (by decide)
theorem name_size {s:ByteArray} (h:pnameE s=0):s.size≤24∧s.size≠0:=by
 unfold pnameE at h
 split at h
 ·exact absurd h (by decide)
 rename_i k
 split at h
 ·exact absurd h (by decide)
 exact ⟨by omega,fun e=>k (.inl e)⟩
def cutS:List UInt8→List (List UInt8)
 | []=>[[]]
 | c :: r=>if c=47 then [] :: cutS r else match cutS r with
  | []=>[[c]]
  | p :: ps=>(c :: p) :: ps
theorem cutS_app:∀ (s t:List UInt8),(47:UInt8) ∉ s→cutS (s++47 :: t)=s :: cutS t
 | [],t,_=>by rw [List.nil_append,cutS,if_pos rfl]
 | c :: r,t,h=>by
  rw [List.cons_append,cutS,if_neg (fun e=>h (by rw [e];exact List.mem_cons_self ..)),cutS_app r t fun k=>h (List.mem_cons_of_mem _ k)]
theorem cutS_one:∀ (s:List UInt8),(47:UInt8) ∉ s→cutS s=[s]
 | [],_=>rfl
 | c :: r,h=>by
  rw [cutS,if_neg (fun e=>h (by rw [e];exact List.mem_cons_self ..)),cutS_one r fun k=>h (List.mem_cons_of_mem _ k)]
theorem join_cons (s t:List UInt8) (r:List (List UInt8)):Lib.join (s :: t :: r) [47]=s++47 :: Lib.join (t :: r) [47]:=by
 simp [Lib.join,List.intercalate,List.intersperse]
theorem join_one (s:List UInt8):Lib.join [s] [47]=s:=by simp [Lib.join,List.intercalate,List.intersperse]
theorem cutS_join:∀ (xs:List (List UInt8)),xs≠[]→(∀ s∈xs,(47:UInt8) ∉ s)→cutS (Lib.join xs [47])=xs
 | [],h,_=>absurd rfl h
 | [s],_,h=>by rw [join_one];exact cutS_one s (h s (List.mem_cons_self ..))
 | s :: t :: r,_,h=>by
  rw [join_cons,cutS_app _ _ (h s (List.mem_cons_self ..)),cutS_join (t :: r) (by simp) fun x hx=>h x (List.mem_cons_of_mem _ hx)]
def textL (p:List ByteArray):List UInt8:=47 :: Lib.join (p.map (·.data.toList)) [47]
def textS (p:List ByteArray):ByteArray:=⟨(textL p).toArray⟩
theorem map_inj:∀ {p q:List ByteArray},p.map (·.data.toList)=q.map (·.data.toList)→p=q
 | [],[],_=>rfl
 | [],_ :: _,h=>nomatch h
 | _ :: _,[],h=>nomatch h
 | ⟨⟨a⟩⟩ :: p,⟨⟨b⟩⟩ :: q,h=>by
  simp only [List.map_cons,List.cons.injEq] at h
  obtain ⟨h1,h2⟩:=h
  have h1:a=b:=h1
  rw [h1,map_inj h2]
theorem text_inj {p q:List ByteArray} (hp:p≠[]) (hq:q≠[]) (kp:pcheckE p=0) (kq:pcheckE q=0) (h:textS p=textS q):p=q:=by
 have h1:textL p=textL q:=by
  have:=congrArg (fun x:ByteArray=>x.data.toList) h
  exact this
 have h2:Lib.join (p.map (·.data.toList)) [47]=Lib.join (q.map (·.data.toList)) [47]:=(List.cons.inj h1).2
 have h3:=cutS_join (p.map (·.data.toList)) (by simpa using hp) (fun s hs=>by
  obtain ⟨x,hx,rfl⟩:=List.mem_map.1 hs
  exact name_bytes ((pcheck_iff.1 kp).2 x hx))
 have h4:=cutS_join (q.map (·.data.toList)) (by simpa using hq) (fun s hs=>by
  obtain ⟨x,hx,rfl⟩:=List.mem_map.1 hs
  exact name_bytes ((pcheck_iff.1 kq).2 x hx))
 rw [h2,h4] at h3
 exact (map_inj h3).symm
end Go.Proofs.YtalmoocpebhoiaaGreatDoor.Br
namespace Go.Proofs.YtalmoocpebhoiaaGreatDoor.Am
open Go.RowKit Lw
abbrev RF (l:Nat):Fence:=Fence.wide.inRound l
class Free (F:Fence):Prop where
 out:F=Fence.wide∨∃ l,F=RF l
instance:Free Fence.wide:=⟨.inl rfl⟩
instance (l:Nat):Free (RF l):=⟨.inr ⟨l,rfl⟩⟩
theorem Free.fn {F:Fence} (h:Free F) (f:FuncId):F.fn f:=by
 rcases h.out with rfl | ⟨l,rfl⟩<;>exact trivial
theorem Free.depth {F:Fence} (h:Free F):F.depth=none:=by
 rcases h.out with rfl | ⟨l,rfl⟩<;>rfl
theorem Free.sem {F:Fence} (h:Free F) {o:Oper} (hd:∀ c,o.op≠.defer c) (ρ:Operand→Value):Oper.semAt F.round ρ o=execOp ρ o:=by
 rcases h.out with rfl | ⟨l,rfl⟩
 ·exact Oper.semAt_none ..
 ·rw [Fence.inRound_round];exact Oper.semAt_some l _ _ hd
theorem Free.calls {F:Fence} (h:Free F) {n:Nat} {P:Program} {f:FuncId} {args:Array Value} {w:World} {R:Ending→World→Prop} (hc:Calls P f args w R):CallsIn F n P f args w R:=by
 rcases h.out with rfl | ⟨l,rfl⟩
 ·exact callsIn_wide.2 hc
 ·exact CallsIn.inRound l (callsIn_wide.2 hc)
theorem wp_free {F:Fence} (hF:Free F) {n:Nat} {P:Program} {Q:Exit→Act→World→Prop} {o:Oper} {a:Act} {w:World} {next next' : Act→World→Prop} (hd:∀ c,o.op≠.defer c) (h:o.wp P a w next Q) (hn:∀ a w,next a w→next' a w):o.wpIn F n P a w next' Q:=by
 refine ⟨fun f _=>hF.fn f,?_⟩
 rw [hF.sem hd]
 have hdp:F.depth.isSome=true→1≤n:=by rw [hF.depth];intro h;cases h
 unfold Oper.wp at h
 revert h
 cases (execOp a.eval o).run P w with
 | ok x w'=>
  cases x with
  | value v=>exact hn _ _
  | skip=>exact hn _ _
  | defer d=>exact hn _ _
  | enter f args=>
   intro h
   refine ⟨hdp,hF.calls (Calls.mono h fun e w' he=>?_)⟩
   cases e with
   | returned v=>exact hn _ _ he
   | panicked c=>exact he
   | outgrown=>exact he
  | row r args=>
   intro h
   refine ⟨hdp,fun c cs _=>?_⟩
   obtain ⟨v,w',h1,h2⟩:=h c cs
   refine ⟨v,w',hn _ _ h1,?_⟩
   rcases hF.out with rfl | ⟨l,rfl⟩<;>exact stepsIn_wide.2 h2
  | _=>exact False.elim
 | halt r w'=>
  cases r with
  | panic v=>exact id
  | _=>exact False.elim
def TE (X:Cx) (R:Act→World→Prop) (st:AS):Prop:=∀ S ν a w,Sat X S ν st a w→R a w
def nthO:List Oper→Nat→Option Oper
 | [],_=>none
 | o :: _,0=>some o
 | _ :: os,i+1=>nthO os i
theorem nthO_eq:∀ (l:List Oper) (i:Nat),nthO l i=l[i]?
 | [],_=>by simp [nthO]
 | _ :: _,0=>rfl
 | _ :: l,i+1=>by simp [nthO,nthO_eq l i]
def dstOk (N:Nat) (o:Oper):Bool:=match o.dst with
 | none=>true
 | some d=>Nat.blt d N
def aguard (all:List Oper) (st:AS) (o:Oper):Option Bool:=
 match o.guard with
 | none=>some true
 | some (j,want)=>match nthO all j with
  | some oj=>match oj.dst with
   | some t=>match look st.env t with
    | some (.o (.c (.bool b)))=>match b,want with
     | true,true=>some true
     | false,false=>some true
     | true,false=>some false
     | false,true=>some false
    | some (.t [])=>some false
    | _=>none
   | none=>none
  | none=>none
def appP:List Prop→List Prop→List Prop
 | [],q=>q
 | p :: ps,q=>p :: appP ps q
theorem mem_appP {p:Prop}:∀ {a b:List Prop},p∈appP a b↔p∈a∨p∈b
 | [],b=>by simp [appP]
 | q :: a,b=>by simp [appP,mem_appP (a:=a),or_assoc]
def appK {α:Type}:List Prop→List Prop→(List Prop→α)→α
 | [],q,k=>k q
 | p :: ps,q,k=>appK ps q fun l=>k (p :: l)
theorem appK_eq {α:Type}:∀ (a b:List Prop) (k:List Prop→α),appK a b k=k (appP a b)
 | [],_,_=>rfl
 | p :: ps,q,k=>by rw [appK,appK_eq ps];rfl
def normN {α:Type} (n:Nat) (k:Nat→α):α:=match n with
 | 0=>k 0 | 1=>k 1 | 2=>k 2 | 3=>k 3 | 4=>k 4 | 5=>k 5 | 6=>k 6 | 7=>k 7 | 8=>k 8 | 9=>k 9 | 10=>k 10 | 11=>k 11 | 12=>k 12 | 13=>k 13 | 14=>k 14 | 15=>k 15 | 16=>k 16 | 17=>k 17 | 18=>k 18 | 19=>k 19 | 20=>k 20 | 21=>k 21 | 22=>k 22 | 23=>k 23 | 24=>k 24 | 25=>k 25 | 26=>k 26 | 27=>k 27 | 28=>k 28 | 29=>k 29 | 30=>k 30 | 31=>k 31 | 32=>k 32 | 33=>k 33 | 34=>k 34 | 35=>k 35 | 36=>k 36 | 37=>k 37 | 38=>k 38 | 39=>k 39 | 40=>k 40 | 41=>k 41 | 42=>k 42 | 43=>k 43 | 44=>k 44 | 45=>k 45 | 46=>k 46 | 47=>k 47 | 48=>k 48 | 49=>k 49 | 50=>k 50 | 51=>k 51 | 52=>k 52 | 53=>k 53 | 54=>k 54 | 55=>k 55 | 56=>k 56 | 57=>k 57 | 58=>k 58 | 59=>k 59 | 60=>k 60 | 61=>k 61 | 62=>k 62 | 63=>k 63
 | n=>k n
theorem normN_eq {α:Type} (n:Nat) (k:Nat→α):normN n k=k n:=by
 unfold normN
 split<;>rfl
def forceA {α:Type} (a:A1) (k:A1→α):α:=match a with
 | .c v=>k (.c v)
 | .sb b=>k (.sb b)
 | .ro sz n cell=>k (.ro sz n cell)
 | .own id=>normN id fun id=>k (.own id)
 | .ptr id off=>normN id fun id=>normN off fun off=>k (.ptr id off)
 | .eptr sz cell i off=>normN off fun off=>k (.eptr sz cell i off)
 | .optr id sz i off=>normN id fun id=>normN off fun off=>k (.optr id sz i off)
 | .any=>k .any
 | .vw id sz off n c=>normN id fun id=>k (.vw id sz off n c)
 | .clo f caps=>forceCaps caps fun caps=>k (.clo f caps)
where
 forceCaps:List (Nat×Nat)→(List (Nat×Nat)→α)→α
 | [],k=>k []
 | (i,off) :: r,k=>normN i fun i=>normN off fun off=>forceCaps r fun r=>k ((i,off) :: r)
def forceL {α:Type}:List A1→(List A1→α)→α
 | [],k=>k []
 | a :: as,k=>forceA a fun a=>forceL as fun as=>k (a :: as)
def forceT {α:Type}:List (Sum A1 (List A1))→(List (Sum A1 (List A1))→α)→α
 | [],k=>k []
 | .inl a :: r,k=>forceA a fun a=>forceT r fun r=>k (.inl a :: r)
 | .inr as :: r,k=>forceL as fun as=>forceT r fun r=>k (.inr as :: r)
def forceV {α:Type} (v:AV) (k:AV→α):α:=match v with
 | .o a=>forceA a fun a=>k (.o a)
 | .g as=>forceL as fun as=>k (.g as)
 | .t xs=>forceT xs fun xs=>k (.t xs)
def forceE {α:Type}:Env→(Env→α)→α
 | [],k=>k []
 | (t,v) :: e,k=>forceV v fun v=>forceE e fun e=>k ((t,v) :: e)
def forceH {α:Type}:List Chunk→(List Chunk→α)→α
 | [],k=>k []
 | .box id T cells :: r,k=>normN id fun id=>forceL cells fun cells=>forceH r fun r=>k (.box id T cells :: r)
 | .own id E sz ct :: r,k=>normN id fun id=>normN sz fun sz=>forceH r fun r=>k (.own id E sz ct :: r)
 | .obj id ob :: r,k=>normN id fun id=>forceH r fun r=>k (.obj id ob :: r)
 | .nest id E ct j :: r,k=>normN id fun id=>normN j fun j=>forceH r fun r=>k (.nest id E ct j :: r)
 | .stat id g sz cell :: r,k=>normN id fun id=>forceH r fun r=>k (.stat id g sz cell :: r)
def AS.force {α:Type} (st:AS) (k:AS→α):α:=match st with
 | ⟨e,h,n⟩=>forceE e fun e=>forceH h fun h=>normN n fun n=>k ⟨e,h,n⟩
theorem forceCaps_eq {α:Type}:∀ (l:List (Nat×Nat)) (k:List (Nat×Nat)→α),forceA.forceCaps l k=k l
 | [],_=>rfl
 | (i,off) :: r,k=>by rw [forceA.forceCaps,normN_eq,normN_eq,forceCaps_eq r]
theorem forceA_eq {α:Type} (a:A1) (k:A1→α):forceA a k=k a:=by
 cases a<;>simp only [forceA,normN_eq,forceCaps_eq]
theorem forceL_eq {α:Type}:∀ (l:List A1) (k:List A1→α),forceL l k=k l
 | [],_=>rfl
 | a :: as,k=>by rw [forceL,forceA_eq,forceL_eq as]
theorem forceT_eq {α:Type}:∀ (l:List (Sum A1 (List A1))) (k:List (Sum A1 (List A1))→α),forceT l k=k l
 | [],_=>rfl
 | .inl a :: as,k=>by rw [forceT,forceA_eq,forceT_eq as]
 | .inr a :: as,k=>by rw [forceT,forceL_eq,forceT_eq as]
theorem forceV_eq {α:Type} (v:AV) (k:AV→α):forceV v k=k v:=by
 cases v<;>simp only [forceV,forceA_eq,forceL_eq,forceT_eq]
theorem forceE_eq {α:Type}:∀ (l:Env) (k:Env→α),forceE l k=k l
 | [],_=>rfl
 | (t,v) :: e,k=>by rw [forceE,forceV_eq,forceE_eq e]
theorem forceH_eq {α:Type}:∀ (l:List Chunk) (k:List Chunk→α),forceH l k=k l
 | [],_=>rfl
 | .box id T cells :: r,k=>by rw [forceH,normN_eq,forceL_eq,forceH_eq r]
 | .own id E sz ct :: r,k=>by rw [forceH,normN_eq,normN_eq,forceH_eq r]
 | .obj id ob :: r,k=>by rw [forceH,normN_eq,forceH_eq r]
 | .nest id E ct j :: r,k=>by rw [forceH,normN_eq,normN_eq,forceH_eq r]
 | .stat id g sz cell :: r,k=>by rw [forceH,normN_eq,forceH_eq r]
theorem AS.force_eq {α:Type} (st:AS) (k:AS→α):st.force k=k st:=by
 cases st
 simp only [AS.force,forceE_eq,forceH_eq,normN_eq]
def arun (T:Tys) (N:Nat) (all:List Oper):List Oper→AS→List Prop→List Oper×AS×List Prop
 | [],st,ps=>([],st,ps)
 | o :: r,st,ps=>match dstOk N o,aguard all st o with
  | true,some false=>(st.put o.dst (.t [])).force fun s=>arun T N all r s ps
  | true,some true=>match apure T (fun _=>true) o st with
   | some (av,qs)=>appK qs ps fun ps=>(st.put o.dst av).force fun s=>arun T N all r s ps
   | none=>match amem T (fun _=>false) o st with
    | some (st',qs)=>appK qs ps fun ps=>st'.force fun s=>arun T N all r s ps
    | none=>(o :: r,st,ps)
  | _,_=>(o :: r,st,ps)
def AllP:List Prop→Prop
 | []=>True
 | [p]=>p
 | p :: ps=>p∧AllP ps
theorem AllP.mem:∀ {ps:List Prop},AllP ps→∀ p∈ps,p
 | [],_,_,h=>by cases h
 | [p],h,q,hq=>by rw [List.mem_singleton.1 hq];exact h
 | p :: q :: ps,h,r,hr=>by
  rcases List.mem_cons.1 hr with rfl | hr
  ·exact h.1
  ·exact AllP.mem h.2 r hr
section
variable {F:Fence} {P:Program} {T:Tys} {X:Cx} {st st' : AS} {Q:Exit→Act→World→Prop} {ops:Array Oper} {R:Act→World→Prop}
theorem dstOk_spec {N:Nat} {o:Oper} (h:dstOk N o=true):∀ d,o.dst=some d→d<N:=by
 intro d hd
 unfold dstOk at h
 rw [hd] at h
 exact Nat.le_of_ble_eq_true h
theorem aguard_ok {S:Nat→Prop} {ν:Nat→Value} {a:Act} {w:World} (sat:Sat X S ν st a w) {o:Oper} {b:Bool} (h:aguard ops.toList st o=some b):Region.wanted o (yielded ops a.tmps)=b:=by
 unfold aguard at h
 unfold Region.wanted
 split at h
 ·rename_i hg;rw [hg];cases h;rfl
 ·rename_i j want hg
  rw [hg]
  split at h
  ·rename_i oj hoj
   split at h
   ·rename_i t ht
    have hy:yielded ops a.tmps j=match a.tmps[t]? with | some (.bool b)=>some b | _=>none:=by
     rw [nthO_eq] at hoj
     have:ops[j]? = some oj:=by rw [← Array.getElem?_toList];exact hoj
     unfold yielded
     simp [this,ht]
     rfl
    split at h
    ·rename_i b' hl
     have hm:=sat.env _ (look_mem hl)
     have hv:a.tmps.getD t undef = .bool b':=hm.2.1
     have hlt:t<a.tmps.size:=by rw [sat.size];exact hm.1
     have hq:a.tmps[t]? = some (.bool b'):=by
      rw [Array.getElem?_eq_getElem hlt];simp [hlt] at hv;rw [hv]
     simp only [hy,hq]
     split at h<;>cases h<;>rfl
    ·rename_i hl
     cases h
     have hm:=sat.env _ (look_mem hl)
     obtain ⟨us,hv,hu⟩:=hm.2
     have hlt:t<a.tmps.size:=by rw [sat.size];exact hm.1
     have hus:us=[]:=by
      cases us with
      | nil=>rfl
      | cons u us=>exact hu.elim
     subst hus
     have hq:a.tmps[t]? = some (.tuple #[]):=by
      rw [Array.getElem?_eq_getElem hlt];simp [hlt] at hv;rw [hv]
     simp only [hy,hq]
     rfl
    ·cases h
   ·cases h
  ·cases h
theorem apure_nd {o:Oper} {x:AV×List Prop} {Kf:Nat→Bool} (h:apure T Kf o st=some x):∀ c,o.op≠.defer c:=by
 intro c hc
 simp [apure,apure0,apureX,hc] at h
theorem amem_nd {o:Oper} {x:AS×List Prop} {Kf:Nat→Bool} (h:amem T Kf o st=some x):∀ c,o.op≠.defer c:=by
 intro c hc
 simp [amem,amem0,amemX,hc] at h
theorem apure_wp [hF:Free F] (hT:T.Ok P) {o:Oper} {av:AV} {ps:List Prop} {Kf:Nat→Bool} (h:apure T Kf o st=some (av,ps)) (hps:∀ p∈ps,p) {S:Nat→Prop} {ν:Nat→Value} {a:Act} {w:World} (sat:Sat X S ν st a w) (hd:∀ d,o.dst=some d→d<X.N) {K' : Act→World→Prop} (hk:TE X K' (st.put o.dst av)):o.wpIn F 0 P a w K' Q:=by
 obtain ⟨u,h1,h2,h3⟩:=apure_ok hT h hps sat
 exact wp_free hF (apure_nd h) (wp_value (h3 w (Ag.refl _ _ _ _ _)) (hk S ν _ w (sat.put hd h1 h2))) fun _ _ h=>h
theorem TE.run_aux [hF:Free F] (hT:T.Ok P):∀ {rest:List Oper} {st:AS} {acc:List Prop} {rest' : List Oper} {st' : AS} {ps:List Prop},arun T X.N ops.toList rest st acc=(rest',st',ps)→(∀ p∈ps,p)→TE X (wpListIn F 0 P ops Q rest') st'→TE X (wpListIn F 0 P ops Q rest) st∧∀ p∈acc,p
 | [],st,acc,rest',st',ps,h,hps,hk=>by
  simp only [arun] at h
  cases h
  exact ⟨hk,hps⟩
 | o :: r,st,acc,rest',st',ps,h,hps,hk=>by
  simp only [arun,AS.force_eq,appK_eq] at h
  split at h
  ·rename_i hd hg
   obtain ⟨h1,h2⟩:=TE.run_aux hT h hps hk
   refine ⟨fun S ν a w sat=>?_,h2⟩
   have hw:=aguard_ok sat hg
   simp only [wpListIn,hw]
   exact ⟨fun f _=>hF.fn f,h1 S ν _ w (sat.put (dstOk_spec hd) ⟨[],rfl,trivial⟩ (fun x hx=>by cases hx))⟩
  ·rename_i hd hg
   split at h
   ·rename_i av qs ha
    obtain ⟨h1,h2⟩:=TE.run_aux hT h hps hk
    refine ⟨fun S ν a w sat=>?_,fun p hp=>h2 p (mem_appP.2 (.inr hp))⟩
    have hw:=aguard_ok sat hg
    simp only [wpListIn,hw,if_true]
    exact (apure_wp hT ha (fun p hp=>h2 p (mem_appP.2 (.inl hp))) sat (dstOk_spec hd) h1)
   ·split at h
    ·rename_i st1 qs ha
     obtain ⟨h1,h2⟩:=TE.run_aux hT h hps hk
     refine ⟨fun S ν a w sat=>?_,fun p hp=>h2 p (mem_appP.2 (.inr hp))⟩
     have hw:=aguard_ok sat hg
     simp only [wpListIn,hw,if_true]
     refine wp_free hF (amem_nd ha) (amem_ok hT ha (fun p hp=>h2 p (mem_appP.2 (.inl hp))) X S ν a w Q _ (dstOk_spec hd) sat fun s2 S2 ν2 a2 w2 e hs _=>?_) fun _ _ h=>h
     subst e
     exact h1 S2 ν2 a2 w2 hs
    ·cases h;exact ⟨hk,hps⟩
  ·cases h;exact ⟨hk,hps⟩
theorem TE.run [hF:Free F] (hT:T.Ok P) {N:Nat} {l rest rest' : List Oper} {ps:List Prop} (hN:X.N=N) (h:st.force (fun s=>arun T N l rest s [])=(rest',st',ps)) (hps:AllP ps) (hk:TE X (wpListIn F 0 P l.toArray Q rest') st'):TE X (wpListIn F 0 P l.toArray Q rest) st:=by
 subst hN
 rw [AS.force_eq] at h
 exact (TE.run_aux (ops:=l.toArray) hT (by simpa using h) hps.mem hk).1
theorem TE.norm (h:st.force (fun s=>s)=st') (hk:TE X R st'):TE X R st:=by
 rw [AS.force_eq] at h;subst h;exact hk
theorem TE.step [hF:Free F] {l:List Oper} {o:Oper} {rest:List Oper} {R' : AS→Prop} {N:Nat} (hN:X.N=N) (hd:dstOk N o=true) (hg:aguard l st o=some true) (hnd:∀ c,o.op≠.defer c) (h:StepTo P (fun _=>false) o st R') (hk:∀ s,R' s→TE X (wpListIn F 0 P l.toArray Q rest) s):TE X (wpListIn F 0 P l.toArray Q (o :: rest)) st:=by
 subst hN
 intro S ν a w sat
 have hw:=aguard_ok (ops:=l.toArray) sat (by simpa using hg)
 simp only [wpListIn,hw,if_true]
 exact wp_free hF hnd (h X S ν a w Q _ (dstOk_spec hd) sat fun s2 S2 ν2 a2 w2 e hs _=>hk s2 e S2 ν2 a2 w2 hs) fun _ _ h=>h
theorem TE.done {l:List Oper} (h:TE X (Q .normal) st):TE X (wpListIn F 0 P l.toArray Q []) st:=h
theorem TE.region {id:Nat} {l:List Oper} (h:TE X (wpListIn F 0 P l.toArray Q l) st):TE X ((Code.region id l.toArray false).wpIn F 0 P Q) st:=fun S ν a w sat=>wpIn_region_lit (h S ν a w sat)
theorem TE.seq {x y:Code} (h:TE X (x.wpIn F 0 P (Exit.then (y.wpIn F 0 P Q) Q)) st):TE X ((Code.seq x y).wpIn F 0 P Q) st:=fun S ν a w sat=>wpIn_seq (h S ν a w sat)
theorem TE.skip (h:TE X (Q .normal) st):TE X (Code.skip.wpIn F 0 P Q) st:=fun S ν a w sat=>wpIn_skip (h S ν a w sat)
theorem TE.block {id:Nat} {c:Code} (h:TE X (c.wpIn F 0 P (Exit.inBlock id Q)) st):TE X ((Code.block id c).wpIn F 0 P Q) st:=fun S ν a w sat=>wpIn_block (h S ν a w sat)
theorem TE.exit {id:Nat} (h:TE X (Q (.exit id)) st):TE X ((Code.exit id).wpIn F 0 P Q) st:=fun S ν a w sat=>wpIn_exit (h S ν a w sat)
theorem TE.ret (h:TE X (Q .ret) st):TE X (Code.ret.wpIn F 0 P Q) st:=fun S ν a w sat=>wpIn_ret (h S ν a w sat)
theorem TE.label {l:Nat} (h:TE X (Q .normal) st):TE X ((Code.label l).wpIn F 0 P Q) st:=fun S ν a w sat=>wpIn_label (h S ν a w sat)
theorem TE.cond_true {c:Operand} {x y:Code} (hc:aop st c=some (.o (.c (.bool true)))) (h:TE X (x.wpIn F 0 P Q) st):TE X ((Code.cond c x y).wpIn F 0 P Q) st:=
 fun S ν a w sat=>wpIn_cond_true (aop_ok sat hc).1.1 (h S ν a w sat)
theorem TE.cond_false {c:Operand} {x y:Code} (hc:aop st c=some (.o (.c (.bool false)))) (h:TE X (y.wpIn F 0 P Q) st):TE X ((Code.cond c x y).wpIn F 0 P Q) st:=
 fun S ν a w sat=>wpIn_cond_false (aop_ok sat hc).1.1 (h S ν a w sat)
theorem TE.cond_split {t:Nat} {b:Bool} {x y:Code} (hc:look st.env t=some (.o (.sb b))) (ht:b=true→TE X (x.wpIn F 0 P Q) st) (hf:b=false→TE X (y.wpIn F 0 P Q) st):TE X ((Code.cond (.tmp t) x y).wpIn F 0 P Q) st:=by
 intro S ν a w sat
 have:a.eval (.tmp t) = .bool b:=(sat.env _ (look_mem hc)).2
 exact wpIn_cond_split this (fun e=>ht e S ν a w sat) (fun e=>hf e S ν a w sat)
theorem TE.thenN {K:Act→World→Prop} (h:TE X K st):TE X (Exit.then K Q .normal) st:=h
theorem TE.thenE {K:Act→World→Prop} {i:Nat} (h:TE X (Q (.exit i)) st):TE X (Exit.then K Q (.exit i)) st:=h
theorem TE.thenR {K:Act→World→Prop} (h:TE X (Q .ret) st):TE X (Exit.then K Q .ret) st:=h
theorem TE.inN {i:Nat} (h:TE X (Q .normal) st):TE X (Exit.inBlock i Q .normal) st:=h
theorem TE.inR {i:Nat} (h:TE X (Q .ret) st):TE X (Exit.inBlock i Q .ret) st:=h
theorem TE.inHit {i:Nat} (h:TE X (Q .normal) st):TE X (Exit.inBlock i Q (.exit i)) st:=fun S ν a w sat=>by
 show Exit.inBlock i Q (.exit i) a w
 simp only [Exit.inBlock,if_true];exact h S ν a w sat
theorem TE.inMiss {i j:Nat} (hj:Nat.beq j i=false) (h:TE X (Q (.exit j)) st):TE X (Exit.inBlock i Q (.exit j)) st:=fun S ν a w sat=>by
 have:¬ j=i:=fun e=>by subst e;rw [Nat.beq_refl] at hj;cases hj
 show Exit.inBlock i Q (.exit j) a w
 simp only [Exit.inBlock,this,if_false];exact h S ν a w sat
theorem TE.split {t:Nat} {b:Bool} (hc:look st.env t=some (.o (.sb b))) (ht:b=true→TE X R (st.put (some t) (.o (.c (.bool true))))) (hf:b=false→TE X R (st.put (some t) (.o (.c (.bool false))))):TE X R st:=by
 intro S ν a w sat
 have hm:=sat.env _ (look_mem hc)
 have hv:a.tmps.getD t undef = .bool b:=hm.2
 have key:∀ b',b=b'→Sat X S ν (st.put (some t) (.o (.c (.bool b')))) a w:=by
  rintro b' rfl
  exact sat.reput hm.1 ⟨hv,rfl⟩ trivial
 cases b
 ·exact hf rfl S ν a w (key _ rfl)
 ·exact ht rfl S ν a w (key _ rfl)
def A1.ren (f:Nat→Nat):A1→A1
 | .own id=>.own (f id)
 | .ptr id off=>.ptr (f id) off
 | .optr id sz k off=>.optr (f id) sz k off
 | .vw id sz off n k=>.vw (f id) sz off n k
 | .clo g caps=>.clo g (caps.map fun p=>(f p.1,p.2))
 | a=>a
def sumRen (f:Nat→Nat):Sum A1 (List A1)→Sum A1 (List A1)
 | .inl a=>.inl (a.ren f)
 | .inr as=>.inr (as.map (A1.ren f))
def AV.ren (f:Nat→Nat):AV→AV
 | .o a=>.o (a.ren f)
 | .g as=>.g (as.map (A1.ren f))
 | .t xs=>.t (xs.map (sumRen f))
def Chunk.ren (f:Nat→Nat):Chunk→Chunk
 | .box id T cells=>.box (f id) T (cells.map (A1.ren f))
 | .own id E sz ct=>.own (f id) E sz ct
 | .obj id ob=>.obj (f id) ob
 | .nest id E ct j=>.nest (f id) E ct (f j)
 | .stat id g sz cell=>.stat (f id) g sz cell
theorem All2.map_iff {α β γ:Type} {R:β→γ→Prop} {R' : α→γ→Prop} {f:α→β} (h:∀ a c,R (f a) c↔R' a c):∀ {as:List α} {cs:List γ},All2 R (as.map f) cs↔All2 R' as cs
 | [],[]=>Iff.rfl
 | [],_ :: _=>Iff.rfl
 | _ :: _,[]=>Iff.rfl
 | a :: as,c :: cs=>by simp only [List.map_cons,All2];rw [h,All2.map_iff h (as:=as)]
theorem ptrRel_ren {ν:Nat→Value} {f:Nat→Nat} (p:Nat×Nat) (u:Value):ptrRel ν (f p.1,p.2) u↔ptrRel (fun i=>ν (f i)) p u:=Iff.rfl
theorem A1.rel_ren {w:World} {S:Nat→Prop} {ν:Nat→Value} {f:Nat→Nat} (a:A1) (u:Value):(a.ren f).rel w S ν u↔a.rel w S (fun i=>ν (f i)) u:=by
 cases a<;>try exact Iff.rfl
 rename_i g caps
 show (∃ us,_)↔∃ us,_
 refine exists_congr fun us=>and_congr Iff.rfl ?_
 exact All2.map_iff fun p u=>ptrRel_ren p u
theorem sumRel_ren {w:World} {S:Nat→Prop} {ν:Nat→Value} {f:Nat→Nat} (x:Sum A1 (List A1)) (u:Value):sumRel w S ν (sumRen f x) u↔sumRel w S (fun i=>ν (f i)) x u:=by
 cases x with
 | inl a=>exact A1.rel_ren a u
 | inr as=>
  show (∃ us,_)↔∃ us,_
  exact exists_congr fun us=>and_congr Iff.rfl (All2.map_iff fun a u=>A1.rel_ren a u)
theorem AV.rel_ren {w:World} {S:Nat→Prop} {ν:Nat→Value} {f:Nat→Nat} (x:AV) (u:Value):(x.ren f).rel w S ν u↔x.rel w S (fun i=>ν (f i)) u:=by
 cases x with
 | o a=>exact A1.rel_ren a u
 | g as=>
  show (∃ us,_)↔∃ us,_
  exact exists_congr fun us=>and_congr Iff.rfl (All2.map_iff fun a u=>A1.rel_ren a u)
 | t xs=>
  show (∃ us,_)↔∃ us,_
  exact exists_congr fun us=>and_congr Iff.rfl (All2.map_iff fun a u=>sumRel_ren a u)
theorem Chunk.blk_ren {ν:Nat→Value} {f:Nat→Nat} (c:Chunk):(c.ren f).blk ν=c.blk (fun i=>ν (f i)):=by cases c<;>rfl
theorem Chunk.holds_ren {w:World} {S:Nat→Prop} {ν:Nat→Value} {f:Nat→Nat} (c:Chunk):(c.ren f).holds w S ν↔c.holds w S (fun i=>ν (f i)):=by
 cases c with
 | own id E sz ct=>exact Iff.rfl
 | obj id ob=>exact Iff.rfl
 | nest id E ct j=>exact Iff.rfl
 | stat id g sz cell=>exact Iff.rfl
 | box id T cells=>
  show (∃ b us,_)↔∃ b us,_
  exact exists_congr fun b=>exists_congr fun us=>and_congr Iff.rfl (and_congr Iff.rfl (All2.map_iff fun a u=>A1.rel_ren a u))
theorem blks_ren {ν:Nat→Value} {f:Nat→Nat}:∀ (l:List Chunk),blks ν (l.map (Chunk.ren f))=blks (fun i=>ν (f i)) l
 | []=>rfl
 | c :: l=>by
  have:=blks_ren (ν:=ν) (f:=f) l
  unfold blks at *
  rw [List.map_cons,List.filterMap_cons,List.filterMap_cons,Chunk.blk_ren,this]
def LeA (a b:A1):Prop:=∀ w S ν u,a.rel w S ν u→b.rel w S ν u
def LeV (a b:AV):Prop:=∀ w S ν u,a.rel w S ν u→b.rel w S ν u
theorem LeA.refl (a:A1):LeA a a:=fun _ _ _ _ h=>h
theorem LeA.bool (b:Bool):LeA (.sb b) (.c (.bool b)):=fun _ _ _ _ h=>⟨h,rfl⟩
theorem LeA.sb {b c:Bool} (h:b=c):LeA (.sb b) (.sb c):=h ▸ LeA.refl _
theorem LeA.unbool {b c:Bool} (h:b=c):LeA (.c (.bool b)) (.sb c):=fun _ _ _ _ h'=>h ▸ h'.1
theorem LeA.cc {u v:Value} (h:u=v):LeA (.c u) (.c v):=h ▸ LeA.refl _
def LeX (a b:DC):Prop:=∀ w S u,a.rel w S u→b.rel w S u
theorem LeX.refl (a:DC):LeX a a:=fun _ _ _ h=>h
theorem LeX.of_eq {a b:DC} (h:a=b):LeX a b:=h ▸ LeX.refl a
theorem LeX.trans {a b c:DC} (h:LeX a b) (k:LeX b c):LeX a c:=fun w S u x=>k w S u (h w S u x)
theorem LeX.nil {sz n:Nat} {cell:Nat→Nat→DC} (h:n=0):LeX (.c (.slice none 0 0)) (.sl sz n cell):=by
 subst h
 rintro w S u ⟨rfl,_⟩
 exact ⟨none,0,rfl,Nat.le_refl _,Nat.zero_le _,fun _=>rfl,fun h=>absurd h (by decide)⟩
structure LeD (sz n:Nat) (cell:Nat→Nat→DC) (n' : Nat) (cell' : Nat→Nat→DC):Prop where
 en:n=n'
 ec:∀ i j,i<n→j<sz→LeX (cell i j) (cell' i j)
theorem LeD.refl {sz n:Nat} {cell:Nat→Nat→DC}:LeD sz n cell n cell:=⟨rfl,fun _ _ _ _=>LeX.refl _⟩
theorem LeX.sl {sz n n' : Nat} {cell cell' : Nat→Nat→DC} (h:LeD sz n cell n' cell'):LeX (.sl sz n cell) (.sl sz n' cell'):=by
 rintro w S u ⟨A,c,rfl,h1,h2,h3,h4⟩
 obtain ⟨rfl,hc⟩:=h
 refine ⟨A,c,rfl,h1,h2,h3,fun hn=>?_⟩
 obtain ⟨b,off,e,hs,hb,hh⟩:=h4 hn
 refine ⟨b,off,e,hs,hb,fun i j hi hj=>?_⟩
 obtain ⟨u,e1,e2⟩:=hh i j hi hj
 exact ⟨u,e1,hc i j hi hj _ _ _ e2⟩
theorem LeA.ro {sz n n' : Nat} {cell cell' : Nat→Nat→DC} (h:LeD sz n cell n' cell'):LeA (.ro sz n cell) (.ro sz n' cell'):=by
 rintro w S ν u ⟨A,c,rfl,h1,h2,h3,h4⟩
 obtain ⟨rfl,hc⟩:=h
 refine ⟨A,c,rfl,h1,h2,h3,fun hn=>?_⟩
 obtain ⟨b,off,e,hs,hb,hh⟩:=h4 hn
 refine ⟨b,off,e,hs,hb,fun i j hi hj=>?_⟩
 obtain ⟨u,e1,e2⟩:=hh i j hi hj
 exact ⟨u,e1,hc i j hi hj _ _ _ e2⟩
theorem LeA.ronil {sz:Nat} {cell:Nat→Nat→DC}:LeA (.c (.slice none 0 0)) (.ro sz 0 cell):=by
 rintro w S ν u ⟨rfl,_⟩
 exact ⟨none,0,rfl,Nat.le_refl _,Nat.zero_le _,fun _=>rfl,fun h=>absurd h (by decide)⟩
theorem LeA.ronil' {sz n:Nat} {cell:Nat→Nat→DC} (h:n=0):LeA (.c (.slice none 0 0)) (.ro sz n cell):=h ▸ LeA.ronil
def LeC:Chunk→Chunk→Prop
 | .box i T cs,.box i' T' cs'=>i=i'∧T=T'∧All2 LeA cs cs'
 | .own i E sz ct,.own i' E' sz' ct'=>i=i'∧E=E'∧sz=sz'∧LeD sz ct.n ct.cell ct'.n ct'.cell
 | .obj i ob,.obj i' ob'=>i=i'∧ob=ob'
 | .nest i E ct j,.nest i' E' ct' j'=>i=i'∧E=E'∧j=j'∧LeD 1 ct.n ct.cell ct'.n ct'.cell
 | .stat i g sz cell,.stat i' g' sz' cell'=>i=i'∧g=g'∧sz=sz'∧cell=cell'
 | _,_=>False
theorem All2.comp {α β γ:Type} {R:α→β→Prop} {R1:α→γ→Prop} {R2:β→γ→Prop} (h:∀ a b c,R a b→R1 a c→R2 b c):∀ {as:List α} {bs:List β} {cs:List γ},All2 R as bs→All2 R1 as cs→All2 R2 bs cs
 | [],[],[],_,_=>trivial
 | a :: as,b :: bs,c :: cs,⟨h1,h2⟩,⟨h3,h4⟩=>⟨h a b c h1 h3,All2.comp h (as:=as) h2 h4⟩
 | [],[],_ :: _,_,h=>h.elim
 | _ :: _,_ :: _,[],_,h=>h.elim
 | [],_ :: _,_,h,_=>h.elim
 | _ :: _,[],_,h,_=>h.elim
theorem LeC.holds {c c' : Chunk} (h:LeC c c') {w:World} {S:Nat→Prop} {ν:Nat→Value} (hc:c.holds w S ν):c'.holds w S ν∧c'.blk ν=c.blk ν:=by
 cases c with
 | box i T cs=>
  cases c' with
  | own=>exact h.elim
  | obj=>exact h.elim
  | nest=>exact h.elim
  | stat=>exact h.elim
  | box i' T' cs'=>
   obtain ⟨rfl,rfl,h3⟩:=h
   obtain ⟨b,us,h4,h5,h6⟩:=hc
   exact ⟨⟨b,us,h4,h5,All2.comp (fun a b c h7 h8=>h7 _ _ _ _ h8) h3 h6⟩,rfl⟩
 | own i E sz ct=>
  cases c' with
  | box=>exact h.elim
  | obj=>exact h.elim
  | nest=>exact h.elim
  | stat=>exact h.elim
  | own i' E' sz' ct'=>
   obtain ⟨rfl,rfl,rfl,h3,h4⟩:=h
   obtain ⟨xs,h5,h6⟩:=hc
   refine ⟨⟨xs,by rw [← h3];exact h5,fun i j hi hj=>?_⟩,rfl⟩
   rw [← h3] at hi
   obtain ⟨u,e1,e2⟩:=h6 i j hi hj
   exact ⟨u,e1,h4 i j hi hj _ _ _ e2⟩
 | obj i ob=>
  cases c' with
  | box=>exact h.elim
  | own=>exact h.elim
  | nest=>exact h.elim
  | stat=>exact h.elim
  | obj i' ob'=>
   obtain ⟨rfl,rfl⟩:=h
   exact ⟨hc,rfl⟩
 | stat i g sz cell=>
  cases c' with
  | box=>exact h.elim
  | own=>exact h.elim
  | obj=>exact h.elim
  | nest=>exact h.elim
  | stat i' g' sz' cell'=>
   obtain ⟨rfl,rfl,rfl,rfl⟩:=h
   exact ⟨hc,rfl⟩
 | nest i E ct j=>
  cases c' with
  | box=>exact h.elim
  | own=>exact h.elim
  | obj=>exact h.elim
  | stat=>exact h.elim
  | nest i' E' ct' j'=>
   obtain ⟨rfl,rfl,rfl,h3,h4⟩:=h
   obtain ⟨xs,h5,h6,h7⟩:=hc
   refine ⟨⟨xs,by rw [← h3];exact h5,fun i hi=>?_,by rw [← h3];exact h7⟩,rfl⟩
   rw [← h3] at hi
   obtain ⟨u,e1,e2⟩:=h6 i hi
   exact ⟨u,e1,h4 i 0 hi Nat.zero_lt_one _ _ _ e2⟩
theorem perm_erase {α:Type}:∀ (l:List α) (i:Nat) (h:i<l.length),l.Perm (l[i] :: l.eraseIdx i)
 | _ :: _,0,_=>.refl _
 | a :: l,i+1,h=>by
  have:=perm_erase l i (by simpa using h)
  simp only [List.getElem_cons_succ,List.eraseIdx_cons_succ]
  exact (this.cons a).trans (.swap _ _ _)
def EnvLe (env:Env):Env→Prop
 | []=>True
 | (t,v) :: r=>(∃ u,look env t=some u∧LeV u v)∧EnvLe env r
def SubH:List Chunk→List Chunk→Prop
 | _,[]=>True
 | hp,c' :: r=>∃ i c,hp[i]? = some c∧LeC c c'∧SubH (hp.eraseIdx i) r
theorem EnvLe.mem {env:Env}:∀ {env' : Env},EnvLe env env'→∀ p∈env',∃ u,look env p.1=some u∧LeV u p.2
 | [],_,p,hp=>by cases hp
 | (t,v) :: r,h,p,hp=>by
  rcases List.mem_cons.1 hp with rfl | hp
  ·exact h.1
  ·exact EnvLe.mem h.2 p hp
theorem SubH.spec {w:World} {S:Nat→Prop} {ν:Nat→Value}:∀ {hp' hp:List Chunk},SubH hp hp'→(∀ c∈hp,c.holds w S ν)→(blks ν hp).Nodup→(∀ c∈hp',c.holds w S ν)∧(blks ν hp').Nodup∧∀ b∈blks ν hp',b∈blks ν hp
 | [],hp,_,_,_=>⟨(fun c hc=>nomatch hc),List.nodup_nil,(fun b hb=>nomatch hb)⟩
 | c' :: r,hp,⟨i,c,hi,hle,hsub⟩,hh,hn=>by
  have hmem:c∈hp:=List.mem_of_getElem? hi
  obtain ⟨hlt,hget⟩:=List.getElem?_eq_some_iff.1 hi
  have hperm:hp.Perm (c :: hp.eraseIdx i):=by
   rw [← hget];exact perm_erase hp i hlt
  obtain ⟨h1,h2⟩:=hle.holds (hh c hmem)
  have hn' : (blks ν (c :: hp.eraseIdx i)).Nodup:=(blks_perm hperm).nodup_iff.1 hn
  have hsubl:(hp.eraseIdx i).Sublist hp:=List.eraseIdx_sublist ..
  obtain ⟨i1,i2,i3⟩:=SubH.spec hsub (fun x hx=>hh x (hsubl.subset hx)) (hn.sublist (blks_sub hsubl))
  refine ⟨fun x hx=>?_,?_,fun b hb=>?_⟩
  ·rcases List.mem_cons.1 hx with rfl | hx
   ·exact h1
   ·exact i1 x hx
  ·unfold blks at hn' i2 i3⊢
   rw [List.filterMap_cons] at hn'⊢
   rw [h2]
   cases hq:c.blk ν with
   | none=>exact i2
   | some b=>
    rw [hq] at hn'
    refine List.nodup_cons.2 ⟨fun hm=>(List.nodup_cons.1 hn').1 (i3 b hm),i2⟩
  ·have hall:∀ b∈blks ν (c :: hp.eraseIdx i),b∈blks ν hp:=fun b hb=>(blks_perm hperm).symm.subset hb
   obtain ⟨x,hx,e⟩:=mem_blks.1 hb
   rcases List.mem_cons.1 hx with rfl | hx
   ·exact mem_blks.2 ⟨c,hmem,by rw [← h2];exact e⟩
   ·exact (blks_sub hsubl).subset (i3 b (mem_blks.2 ⟨x,hx,e⟩))
def A1.ltB (m:Nat):A1→Bool
 | .own id=>Nat.blt id m
 | .ptr id _=>Nat.blt id m
 | .optr id _ _ _=>Nat.blt id m
 | .vw id _ _ _ _=>Nat.blt id m
 | .clo _ caps=>caps.all fun p=>Nat.blt p.1 m
 | _=>true
def allB {α:Type} (f:α→Bool):List α→Bool
 | []=>true
 | a :: as=>match f a with
  | true=>allB f as
  | false=>false
def sumLtB (m:Nat):Sum A1 (List A1)→Bool
 | .inl a=>a.ltB m
 | .inr as=>allB (A1.ltB m) as
def AV.ltB (m:Nat):AV→Bool
 | .o a=>a.ltB m
 | .g as=>allB (A1.ltB m) as
 | .t xs=>allB (sumLtB m) xs
def Chunk.ltB (m:Nat):Chunk→Bool
 | .box id _ cells=>match Nat.blt id m with
  | true=>allB (A1.ltB m) cells
  | false=>false
 | .own id _ _ _=>Nat.blt id m
 | .obj id _=>Nat.blt id m
 | .nest id _ _ j=>match Nat.blt id m with
  | true=>Nat.blt j m
  | false=>false
 | .stat id _ _ _=>Nat.blt id m
def AS.wf (N:Nat) (st:AS):Bool:=match allB (fun p=>match Nat.blt p.1 N with
  | true=>p.2.ltB st.nid
  | false=>false) st.env with
 | true=>allB (Chunk.ltB st.nid) st.hp
 | false=>false
theorem allB_ok {α:Type} {f:α→Bool}:∀ {l:List α},allB f l=true→∀ x∈l,f x=true
 | [],_,_,h=>by cases h
 | a :: as,h,x,hx=>by
  simp only [allB] at h
  split at h
  ·rename_i h1
   rcases List.mem_cons.1 hx with rfl | hx
   ·exact h1
   ·exact allB_ok h x hx
  ·cases h
theorem blt_lt {a b:Nat} (h:Nat.blt a b=true):a<b:=Nat.le_of_ble_eq_true h
theorem A1.ltB_ok {m:Nat} {a:A1} (h:a.ltB m=true):a.lt m:=by
 cases a<;>first | exact trivial | exact blt_lt h | exact fun p hp=>blt_lt (List.all_eq_true.1 h p hp)
theorem AV.ltB_ok {m:Nat} {a:AV} (h:a.ltB m=true):a.lt m:=by
 cases a with
 | o a=>exact A1.ltB_ok h
 | g as=>exact fun a ha=>A1.ltB_ok (allB_ok h a ha)
 | t xs=>
  intro x hx
  have:=allB_ok h x hx
  cases x with
  | inl a=>exact A1.ltB_ok this
  | inr as=>exact fun a ha=>A1.ltB_ok (allB_ok this a ha)
theorem Chunk.ltB_ok {m:Nat} {c:Chunk} (h:c.ltB m=true):c.lt m:=by
 cases c with
 | box id T cells=>
  simp only [Chunk.ltB] at h
  split at h
  ·rename_i h1;exact ⟨blt_lt h1,fun a ha=>A1.ltB_ok (allB_ok h a ha)⟩
  ·cases h
 | own id E sz ct=>exact blt_lt h
 | obj id ob=>exact blt_lt h
 | stat id g sz cell=>exact blt_lt h
 | nest id E ct j=>
  simp only [Chunk.ltB] at h
  split at h
  ·rename_i h1;exact ⟨blt_lt h1,blt_lt h⟩
  ·cases h
theorem AS.wf_ok {N:Nat} {st:AS} (h:st.wf N=true):(∀ p∈st.env,p.1<N∧p.2.lt st.nid)∧∀ c∈st.hp,c.lt st.nid:=by
 simp only [AS.wf] at h
 split at h
 ·rename_i h1
  refine ⟨fun p hp=>?_,fun c hc=>Chunk.ltB_ok (allB_ok h c hc)⟩
  have:=allB_ok h1 p hp
  split at this
  ·rename_i h2;exact ⟨blt_lt h2,AV.ltB_ok this⟩
  ·cases this
 ·cases h
structure Ent (X:Cx) (g:Nat→Nat) (st st' : AS):Prop where
 wf:st'.wf X.N=true
 gfix:(∀ i,i<X.m→g i=i)∧X.m≤st'.nid
 env:EnvLe st.env (st'.env.map fun p=>(p.1,p.2.ren g))
 hp:SubH st.hp (st'.hp.map (Chunk.ren g))
theorem Ent.sat {g:Nat→Nat} (h:Ent X g st st') {S:Nat→Prop} {ν:Nat→Value} {a:Act} {w:World} (sat:Sat X S ν st a w):Sat X S (fun i=>ν (g i)) st' a w:=by
 obtain ⟨w1,w2⟩:=AS.wf_ok h.wf
 obtain ⟨s1,s2,s3⟩:=SubH.spec h.hp sat.hp sat.nd
 rw [blks_ren] at s2 s3
 refine ⟨⟨fun d hd=>let ⟨D,d1,d2,d3,d4,d5⟩:=sat.defers.1 d hd;⟨D,d1,d2,d3,d4,fun hm=>d5 (s3 D hm)⟩,sat.defers.2⟩,sat.size,fun p hp=>⟨(w1 p hp).1,?_⟩,fun c hc=>?_,s2,fun b hb=>sat.blk b (s3 b hb),sat.imm,sat.imm0,sat.frame,fun p hp=>(w1 p hp).2,w2,fun i hi=>by rw [h.gfix.1 i hi];exact sat.fix i hi,h.gfix.2⟩
 ·obtain ⟨u,h1,h2⟩:=h.env.mem (p.1,p.2.ren g) (List.mem_map.2 ⟨p,hp,rfl⟩)
  exact (AV.rel_ren _ _).1 (h2 _ _ _ _ (sat.env _ (look_mem h1)).2)
 ·exact (Chunk.holds_ren _).1 (s1 _ (List.mem_map.2 ⟨c,hc,rfl⟩))
theorem TE.ent {g:Nat→Nat} (h:Ent X g st st') (hk:TE X R st'):TE X R st:=fun _ _ a w sat=>hk _ _ a w (h.sat sat)
def Again (X:Cx) {ι:Type} (pre:ι→Prop) (inv:ι→AS) (μ:ι→Nat) (n:Nat) (a:Act) (w:World):Prop:=∃ y S ν,pre y∧μ y<n∧Sat X S ν (inv y) a w
theorem TE.again {ι:Type} {pre:ι→Prop} {inv:ι→AS} {μ:ι→Nat} {n:Nat} (y:ι) (hy:pre y) (hμ:μ y<n) (g:Nat→Nat) (h:Ent X g st (inv y)):TE X (Again X pre inv μ n) st:=
 fun _ _ _ _ sat=>⟨y,_,_,hy,hμ,h.sat sat⟩
theorem TE.loop {ι:Type} (pre:ι→Prop) (inv:ι→AS) (μ:ι→Nat) (x0:ι) (h0:pre x0) (g:Nat→Nat) (he:Ent X g st (inv x0)) {c:Code}
  (round:∀ x,pre x→TE X (c.wpIn F 0 P (Exit.then (Again X pre inv μ (μ x)) Q)) (inv x)):TE X ((Code.loop c).wpIn F 0 P Q) st:=by
 intro S ν a w sat
 refine wpIn_loop_ghost (fun n a w=>∃ y S ν,pre y∧μ y=n∧Sat X S ν (inv y) a w) (μ x0) ⟨x0,_,_,h0,rfl,he.sat sat⟩ ?_
 rintro n a w ⟨y,S,ν,hy,rfl,hs⟩
 refine Code.wpIn_mono (fun e a' w' q=>?_) (round y hy S ν a w hs)
 cases e with
 | normal=>
  obtain ⟨y',S',ν',h1,h2,h3⟩:=q
  exact ⟨μ y',h2,y',S',ν',h1,rfl,h3⟩
 | _=>exact q
end
structure After {ι:Type} (takes:List Chunk) (m:Nat) (pre:ι→Prop) (res:ι→AV) (gives:ι→List Chunk) (S:Nat→Prop) (ν:Nat→Value) (w:World) (e:Ending) (w' : World) (x:ι) (S' : Nat→Prop) (ν' : Nat→Value) (u:Value):Prop where
 e:e = .returned u
 pre:pre x
 res:(res x).rel w' S' ν' u
 fr:Fr (fun b=>b∈blks ν takes) w w'
 fix:∀ i,i<m→ν' i=ν i
 sub:∀ b,S b→S' b
 imm:∀ b,S' b→b<w'.heap.size∧(S b∨w.heap.size≤b∨b∈blks ν takes)
 give:∀ c∈gives x,c.holds w' S' ν'
 nd:(blks ν' (gives x)).Nodup
 blk:∀ b∈blks ν' (gives x),b<w'.heap.size∧¬ S' b∧(b∈blks ν takes∨w.heap.size≤b)
structure Con (P:Program) (f:FuncId) (args:List AV) (takes:List Chunk) (m M:Nat) {ι:Type} (pre:ι→Prop) (res:ι→AV) (gives:ι→List Chunk):Prop where
 fn : ∃ fn, P.funcs[f]? = some fn ∧ (fn.name == "runtime.NumGoroutine") = false ∧ fn.body.isNone = false
 wfT:allB (Chunk.ltB m) takes=true
 le:m≤M
 wf:∀ x,(res x).ltB M=true∧allB (Chunk.ltB M) (gives x)=true
 call:∀ (w:World) (S:Nat→Prop) (ν:Nat→Value) (vs:List Value),All2 (AV.rel w S ν) args vs→(∀ c∈takes,c.holds w S ν)→(blks ν takes).Nodup→(∀ b∈blks ν takes,b<w.heap.size∧¬ S b)→(∀ b,S b→b<w.heap.size)→
  Calls P f vs.toArray w fun e w'=>∃ x S' ν' u,After takes m pre res gives S ν w e w' x S' ν' u
def aops (st:AS):List Operand→Option (List AV)
 | []=>some []
 | x :: xs=>match aop st x,aops st xs with
  | some v,some r=>some (v :: r)
  | _,_=>none
def capV:List (Nat×Nat)→List AV
 | []=>[]
 | (id,off) :: r=>.o (.ptr id off) :: capV r
def acallee (st:AS):Callee→Option (FuncId×List AV)
 | .value x=>match aop st x with
  | some (.o (.c (.func (.func f) first caps)))=>match first.toList,caps.toList with
   | [],[]=>some (f,[])
   | _,_=>none
  | some (.o (.clo f caps))=>some (f,capV caps)
  | _=>none
 | _=>none
def TakeH:List Chunk→List Chunk→List Chunk→Prop
 | hp,[],rest=>hp=rest
 | hp,c' :: r,rest=>∃ i c,hp[i]? = some c∧LeC c c'∧TakeH (hp.eraseIdx i) r rest
def renC (g:Nat→Nat) (m nid:Nat) (i:Nat):Nat:=match Nat.blt i m with
 | true=>g i
 | false=>nid+(i - m)
def AS.called (st:AS) (rest:List Chunk) (g:Nat→Nat) (m M:Nat) (dst:Option Tmp) (res:AV) (gives:List Chunk):AS:=
 (AS.mk st.env (gives.map (Chunk.ren (renC g m st.nid))++rest) (st.nid+(M - m))).put dst (res.ren (renC g m st.nid))
section
variable {F:Fence} {P:Program} {T:Tys} {X:Cx} {st st' : AS} {Q:Exit→Act→World→Prop} {ops:Array Oper} {R:Act→World→Prop} {K:Nat→Bool}
theorem aops_ok {S:Nat→Prop} {ν:Nat→Value} {a:Act} {w:World} (sat:Sat X S ν st a w):∀ {xs:List Operand} {vs:List AV},aops st xs=some vs→All2 (AV.rel w S ν) vs (xs.map a.eval)
 | [],vs,h=>by cases h;exact trivial
 | x :: xs,vs,h=>by
  simp only [aops] at h
  split at h
  ·rename_i v r h1 h2
   cases h
   exact ⟨(aop_ok sat h1).1,aops_ok sat h2⟩
  ·cases h
theorem capV_ok {w:World} {S:Nat→Prop} {ν:Nat→Value}:∀ {caps:List (Nat×Nat)} {us:List Value},All2 (ptrRel ν) caps us→All2 (AV.rel w S ν) (capV caps) us
 | [],us,h=>by
  cases us with
  | nil=>exact trivial
  | cons u us=>exact h.elim
 | (id,off) :: r,us,h=>by
  cases us with
  | nil=>exact h.elim
  | cons u us=>exact ⟨h.1,capV_ok h.2⟩
theorem TakeH.spec {S:Nat→Prop} {ν:Nat→Value} {w:World}:∀ {tk hp rest:List Chunk},TakeH hp tk rest→(∀ c∈hp,c.holds w S ν)→∃ tk',hp.Perm (tk' ++ rest)∧All2 LeC tk' tk∧(∀ c∈tk,c.holds w S ν)∧blks ν tk' = blks ν tk
 | [],hp,rest,h,_=>⟨[],by rw [show hp=rest from h];exact .refl _,trivial,(fun c hc=>nomatch hc),rfl⟩
 | c' :: r,hp,rest,⟨i,c,hi,hle,hsub⟩,hh=>by
  have hmem:c∈hp:=List.mem_of_getElem? hi
  obtain ⟨hlt,hget⟩:=List.getElem?_eq_some_iff.1 hi
  have hperm:hp.Perm (c :: hp.eraseIdx i):=by rw [← hget];exact perm_erase hp i hlt
  obtain ⟨tk',h1,h2,h3,h4⟩:=TakeH.spec hsub fun x hx=>hh x ((List.eraseIdx_sublist ..).subset hx)
  obtain ⟨h5,h6⟩:=hle.holds (hh c hmem)
  refine ⟨c :: tk',hperm.trans (h1.cons c),⟨hle,h2⟩,fun x hx=>?_,?_⟩
  ·rcases List.mem_cons.1 hx with rfl | hx
   ·exact h5
   ·exact h3 x hx
  ·unfold blks at *
   rw [List.filterMap_cons,List.filterMap_cons,h4,h6]
theorem LeC.id {c c' : Chunk} (h:LeC c c'):c.id=c'.id:=by
 cases c<;>cases c' <;> first | exact h.1 | exact h.elim
theorem All2.mem_left {α β:Type} {R:α→β→Prop}:∀ {as:List α} {bs:List β} {a:α},All2 R as bs→a∈as→∃ b∈bs,R a b
 | _ :: as,_ :: bs,a,⟨h1,h2⟩,h=>by
  rcases List.mem_cons.1 h with rfl | h
  ·exact ⟨_,List.mem_cons_self ..,h1⟩
  ·obtain ⟨b,hb,r⟩:=All2.mem_left (as:=as) (bs:=bs) h2 h
   exact ⟨b,List.mem_cons_of_mem _ hb,r⟩
 | [],[],_,_,h=>by cases h
 | [],_ :: _,_,h,_=>h.elim
 | _ :: _,[],_,h,_=>h.elim
theorem acallee_ok {S:Nat→Prop} {ν:Nat→Value} {a:Act} {w:World} (sat:Sat X S ν st a w) {ce:Callee} {f:FuncId} {caps:List AV} (h:acallee st ce=some (f,caps)) :
  ∃ x us,ce = .value x∧a.eval x = .func (.func f) #[] us.toArray∧All2 (AV.rel w S ν) caps us:=by
 unfold acallee at h
 split at h
 ·rename_i x
  split at h
  ·rename_i f' first cps hx
   split at h
   ·rename_i h1 h2
    cases h
    have e1:first = #[]:=by rw [← Array.toList_inj];exact h1
    have e2:cps = #[]:=by rw [← Array.toList_inj];exact h2
    exact ⟨x,[],rfl,by rw [show a.eval x=_ from (aop_ok sat hx).1.1,e1,e2],trivial⟩
   ·cases h
  ·rename_i f' cps hx
   cases h
   obtain ⟨us,h1,h2⟩:=(aop_ok sat hx).1
   exact ⟨x,us,rfl,h1,capV_ok h2⟩
  ·cases h
 ·cases h
theorem renC_lt {g:Nat→Nat} {m nid i:Nat} (h:i<m):renC g m nid i=g i:=by
 have:Nat.blt i m=true:=Nat.ble_eq_true_of_le h
 simp [renC,this]
theorem renC_ge {g:Nat→Nat} {m nid i:Nat} (h:m≤i):renC g m nid i=nid+(i - m):=by
 have:Nat.blt i m=false:=by
  cases hq:Nat.blt i m with
  | false=>rfl
  | true=>have:=blt_lt hq;omega
 simp [renC,this]
theorem A1.ren_lt {f:Nat→Nat} {m n:Nat} (hf:∀ i,i<m→f i<n) {a:A1} (h:a.lt m):(a.ren f).lt n:=by
 cases a with
 | own id=>exact hf _ h
 | ptr id off=>exact hf _ h
 | optr id sz k off=>exact hf _ h
 | vw id sz off n k=>exact hf _ h
 | clo g caps=>
  intro p hp
  obtain ⟨q,hq,rfl⟩:=List.mem_map.1 hp
  exact hf _ (h q hq)
 | _=>exact trivial
theorem AV.ren_lt {f:Nat→Nat} {m n:Nat} (hf:∀ i,i<m→f i<n) {x:AV} (h:x.lt m):(x.ren f).lt n:=by
 cases x with
 | o a=>exact A1.ren_lt hf h
 | g as=>
  intro a ha
  obtain ⟨b,hb,rfl⟩:=List.mem_map.1 ha
  exact A1.ren_lt hf (h b hb)
 | t xs=>
  intro y hy
  obtain ⟨z,hz,rfl⟩:=List.mem_map.1 hy
  have:=h z hz
  cases z with
  | inl a=>exact A1.ren_lt hf this
  | inr as=>
   intro a ha
   obtain ⟨b,hb,rfl⟩:=List.mem_map.1 ha
   exact A1.ren_lt hf (this b hb)
theorem Chunk.ren_lt {f:Nat→Nat} {m n:Nat} (hf:∀ i,i<m→f i<n) {c:Chunk} (h:c.lt m):(c.ren f).lt n:=by
 cases c with
 | own id E sz ct=>exact hf _ h
 | obj id ob=>exact hf _ h
 | nest id E ct j=>exact ⟨hf _ h.1,hf _ h.2⟩
 | stat id g sz cell=>exact hf _ h
 | box id T cells=>
  refine ⟨hf _ h.1,fun a ha=>?_⟩
  obtain ⟨b,hb,rfl⟩:=List.mem_map.1 ha
  exact A1.ren_lt hf (h.2 b hb)
theorem call_step {ι:Type} {f:FuncId} {args:List AV} {takes:List Chunk} {m M:Nat} {pre:ι→Prop} {res:ι→AV} {gives:ι→List Chunk} (hcon:Con P f args takes m M pre res gives) {o:Oper} {c:Call} (ho:o.op = .call c)
  {caps vs:List AV} {rest:List Chunk} (g:Nat→Nat) (hc:acallee st c.callee=some (f,caps)) (hx:aops st c.args.toList=some vs) (hargs:All2 LeV (vs++caps) (args.map (AV.ren g))) (ht:TakeH st.hp (takes.map (Chunk.ren g)) rest)
  (hK:∀ c∈takes,K (g c.id)=false) (hg:∀ i,i<m→g i<st.nid):StepTo P K o st (fun s=>∃ x,pre x∧s=st.called rest g m M o.dst (res x) (gives x)):=by
 intro X S ν a w Q K' hd sat hk
 obtain ⟨xf,us,e1,e2,e3⟩:=acallee_ok sat hc
 have hvs:=aops_ok sat hx
 obtain ⟨tk',t1,t2,t3,t4⟩:=TakeH.spec ht sat.hp
 have hb4:blks ν tk' = blks (fun i=>ν (g i)) takes:=by rw [t4,blks_ren]
 have hnd:(blks ν tk' ++ blks ν rest).Nodup:=by
  have:=(blks_perm (ν:=ν) t1).nodup_iff.1 sat.nd
  rw [blks_append] at this;exact this
 have hargs' : All2 (AV.rel w S fun i=>ν (g i)) args (c.args.toList.map a.eval++us):=by
  have h1:All2 (AV.rel w S ν) (args.map (AV.ren g)) (c.args.toList.map a.eval++us):=
   All2.comp (R:=fun (v:AV) v'=>LeV v v') (R2:=AV.rel w S ν) (fun p q r h h'=>h _ _ _ r h') hargs (All2.append hvs e3)
  exact (All2.map_iff fun x u=>AV.rel_ren x u).1 h1
 have hcall:=hcon.call w S (fun i=>ν (g i)) _ hargs' (fun c hc=>(Chunk.holds_ren c).1 (t3 _ (List.mem_map.2 ⟨c,hc,rfl⟩))) (by rw [← hb4];exact (List.nodup_append.1 hnd).1)
  (fun b hb=>by
   rw [← hb4] at hb
   obtain ⟨ch,hch,e⟩:=mem_blks.1 hb
   have:=sat.blk b (mem_blks.2 ⟨ch,t1.symm.subset (List.mem_append_left _ hch),e⟩)
   exact ⟨this.1,this.2.1⟩) (fun b hb=>(sat.imm b hb).1)
 obtain ⟨fn,f1,f2,f3⟩:=hcon.fn
 have hrun:(execOp a.eval o).run P w = .ok (.enter f (c.args.toList.map a.eval++us).toArray) w:=by
  unfold execOp
  rw [ho]
  have harr : #[]++c.args.map a.eval++us.toArray=(c.args.toList.map a.eval++us).toArray:=by
   rw [← Array.toList_inj];simp
  simp only [resolve,e1,Deferred.ofValue,e2,Sem.run_bind,Sem.run_pure,Result.andThen_ok,invoke,harr]
  exact callFunc_body f1 f2 f3 _ w
 unfold Oper.wp
 rw [hrun,Oper.upon_enter]
 refine hcall.mono ?_
 rintro e w' ⟨x,S',ν',u,ha⟩
 obtain ⟨rfl,h2,h3,h4,h5,h6,h7,h8,h9,h10⟩:=ha
 show K' (a.put o.dst u) w'
 obtain ⟨wf1,wf2⟩:=hcon.wf x
 have lt1:=AV.ltB_ok wf1
 have lt2:∀ c∈gives x,c.lt M:=fun c hc=>Chunk.ltB_ok (allB_ok wf2 c hc)
 have hle:=hcon.le
 have hνn:∀ i,i<M→(fun j=>if j<st.nid then ν j else ν' (j - st.nid+m)) (renC g m st.nid i)=ν' i:=by
  intro i hi
  by_cases h:i<m
  ·rw [renC_lt h];show (if g i<st.nid then _ else _)=_;rw [if_pos (hg i h)];exact (h5 i h).symm
  ·rw [renC_ge (by omega)]
   show (if st.nid+(i - m)<st.nid then _ else _)=_
   rw [if_neg (by omega)];congr 1;omega
 have hrl:∀ i,i<M→renC g m st.nid i<st.nid+(M - m):=by
  intro i hi
  by_cases h:i<m
  ·rw [renC_lt h];have:=hg i h;omega
  ·rw [renC_ge (by omega)];omega
 have hbg:blks (fun j=>if j<st.nid then ν j else ν' (j - st.nid+m)) ((gives x).map (Chunk.ren (renC g m st.nid)))=blks ν' (gives x):=by
  rw [blks_ren]
  exact blks_eq (m:=M) hνn lt2
 obtain ⟨s1,s2⟩:=swap_kp (K:=K) (takes:=tk') (gives:=(gives x).map (Chunk.ren (renC g m st.nid))) (rest:=rest) (nid:=st.nid+(M - m)) (ν':=fun j=>if j<st.nid then ν j else ν' (j - st.nid+m)) (S':=S') (w':=w') (o:=o) (av:=(res x).ren (renC g m st.nid)) (u:=u) hd sat t1
  (fun ch hch=>by
   obtain ⟨c',hc',hle'⟩:=All2.mem_left t2 hch
   obtain ⟨c0,hc0,rfl⟩:=List.mem_map.1 hc'
   rw [hle'.id]
   have:(c0.ren g).id=g c0.id:=by cases c0<;>rfl
   rw [this];exact hK c0 hc0)
  (by rw [hb4];exact h4) (fun i hi=>if_pos hi) h6 (by rw [hb4];exact h7)
  (fun ch hch=>by
   obtain ⟨c0,hc0,rfl⟩:=List.mem_map.1 hch
   refine (Chunk.holds_ren c0).2 ?_
   exact Chunk.mono (Gr.refl w' S') hνn (lt2 c0 hc0) (fun _ _=>rfl) (h8 c0 hc0))
  (by rw [hbg];exact h9) (fun b hb=>by rw [hbg] at hb;rw [hb4];exact h10 b hb)
  (fun ch hch=>by
   obtain ⟨c0,hc0,rfl⟩:=List.mem_map.1 hch
   exact Chunk.ren_lt hrl (lt2 c0 hc0)) (by omega)
  ((AV.rel_ren _ _).2 (AV.mono (Gr.refl w' S') hνn lt1 h3)) (AV.ren_lt hrl lt1)
 exact hk _ _ _ _ _ ⟨x,h2,rfl⟩ s1 s2
theorem TE.call [Free F] {ι:Type} {f:FuncId} {args:List AV} {takes:List Chunk} {m M:Nat} {pre:ι→Prop} {res:ι→AV} {gives:ι→List Chunk} (hcon:Con P f args takes m M pre res gives) {l:List Oper} {o:Oper} {c:Call} {rest:List Oper} {N:Nat} (hN:X.N=N) (hd:dstOk N o=true) (hgd:aguard l st o=some true) (ho:o.op = .call c)
  {caps vs:List AV} {hrest:List Chunk} (g:Nat→Nat) (hc:acallee st c.callee=some (f,caps)) (hx:aops st c.args.toList=some vs) (hargs:All2 LeV (vs++caps) (args.map (AV.ren g))) (ht:TakeH st.hp (takes.map (Chunk.ren g)) hrest)
  (hg:∀ i,i<m→g i<st.nid) (hk:∀ x,pre x→TE X (wpListIn F 0 P l.toArray Q rest) (st.called hrest g m M o.dst (res x) (gives x))):TE X (wpListIn F 0 P l.toArray Q (o :: rest)) st:=
 TE.step hN hd hgd (fun c' hc'=>by rw [ho] at hc';cases hc') (call_step hcon ho g hc hx hargs ht (fun _ _=>rfl) hg) fun s ⟨x,hx,e⟩=>e ▸ hk x hx
def ares (T:Tys) (st:AS):List ResultVar→Option (List AV)
 | []=>some []
 | .tmp t :: r=>match look st.env t,ares T st r with
  | some v,some q=>some (v :: q)
  | _,_=>none
 | .cell t ty :: r=>match look st.env t,tlook T ty,ares T st r with
  | some (.o (.ptr id off)),some ti,some q=>match findBox (fun _=>true) st.hp id with
   | some (_,cells)=>match part1 cells off ti with
    | some v=>some (v :: q)
    | none=>none
   | none=>none
  | _,_,_=>none
def resOne (tmps:Array Value):ResultVar→Sem Value
 | .tmp t=>pure (tmps.getD t undef)
 | .cell a t=>do loadVar t (← asAddr (tmps.getD a undef))
def toSum:AV→Option (Sum A1 (List A1))
 | .o a=>some (.inl a)
 | .g as=>some (.inr as)
 | .t _=>none
def toSums:List AV→Option (List (Sum A1 (List A1)))
 | []=>some []
 | v :: vs=>match toSum v,toSums vs with
  | some x,some r=>some (x :: r)
  | _,_=>none
def retV:List AV→Option AV
 | [v]=>some v
 | vs=>match toSums vs with
  | some xs=>some (.t xs)
  | none=>none
def RetR {ι:Type} (X:Cx) (takes:List Chunk) (pre:ι→Prop) (res:ι→AV) (gives:ι→List Chunk) (e:Ending) (w' : World):Prop:=∃ x S' ν' u,After takes X.m pre res gives X.S0 X.ν0 X.w0 e w' x S' ν' u
theorem run_results (tmps:Array Value) {w:World}:∀ {l:List ResultVar} {vs:List Value},All2 (fun r v=>(resOne tmps r).run P w = .ok v w) l vs→(l.mapM (resOne tmps)).run P w = .ok vs w
 | [],vs,h=>by
  cases vs with
  | nil=>rfl
  | cons v vs=>exact h.elim
 | r :: l,vs,h=>by
  cases vs with
  | nil=>exact h.elim
  | cons v vs=>
   obtain ⟨hv,h⟩:=h
   rw [List.mapM_cons]
   simp only [Sem.run_bind,Sem.run_pure,Result.andThen_ok,run_results tmps h,hv]
theorem ares_ok (hT:T.Ok P) {S:Nat→Prop} {ν:Nat→Value} {a:Act} {w:World} (sat:Sat X S ν st a w):∀ {rs:List ResultVar} {vs:List AV},ares T st rs=some vs→∃ us,All2 (fun r v=>(resOne a.tmps r).run P w = .ok v w) rs us∧All2 (AV.rel w S ν) vs us
 | [],vs,h=>by cases h;exact ⟨[],trivial,trivial⟩
 | .tmp t :: r,vs,h=>by
  simp only [ares] at h
  split at h
  ·rename_i v q h1 h2
   cases h
   obtain ⟨us,i1,i2⟩:=ares_ok hT sat h2
   exact ⟨_ :: us,⟨rfl,i1⟩,⟨(sat.env _ (look_mem h1)).2,i2⟩⟩
  ·cases h
 | .cell t ty :: r,vs,h=>by
  simp only [ares] at h
  split at h
  ·rename_i id off ti q h1 h2 h3
   split at h
   ·rename_i Tb cells hb
    split at h
    ·rename_i v hv
     cases h
     obtain ⟨us,i1,i2⟩:=ares_ok hT sat h3
     obtain ⟨b,bs,e1,_,e2,e3,e4,_⟩:=box_of sat hb (sat.env _ (look_mem h1)).2
     obtain ⟨u,l1,l2,l3⟩:=load_box (P:=P) hT h2 hv e2 e3 e4
     have:=l3 w rfl
     refine ⟨u :: us,⟨?_,i1⟩,⟨l1,i2⟩⟩
     simp only [resOne,e1,asAddr,Sem.run_bind,Sem.run_pure,Result.andThen_ok]
     simpa only [Instr.loadAt,Instr.sureAddr,Sem.run_bind,Sem.run_pure,Result.andThen_ok] using this
    ·cases h
   ·cases h
  ·cases h
theorem toSums_ok {w:World} {S:Nat→Prop} {ν:Nat→Value}:∀ {vs:List AV} {xs:List (Sum A1 (List A1))} {us:List Value},toSums vs=some xs→All2 (AV.rel w S ν) vs us→All2 (sumRel w S ν) xs us
 | [],xs,us,h,hr=>by
  cases us with
  | nil=>cases h;exact trivial
  | cons u us=>exact hr.elim
 | v :: vs,xs,us,h,hr=>by
  cases us with
  | nil=>exact hr.elim
  | cons u us=>
   simp only [toSums] at h
   split at h
   ·rename_i x r h1 h2
    cases h
    refine ⟨?_,toSums_ok h2 hr.2⟩
    cases v with
    | o a=>cases h1;exact hr.1
    | g as=>cases h1;exact hr.1
    | t xs=>cases h1
   ·cases h
theorem retV_ok {w:World} {S:Nat→Prop} {ν:Nat→Value} {vs:List AV} {rv:AV} {us:List Value} (h:retV vs=some rv) (hr:All2 (AV.rel w S ν) vs us):rv.rel w S ν (if h:us.toArray.size=1 then us.toArray[0] else .tuple us.toArray):=by
 have hl:=hr.length
 unfold retV at h
 split at h
 ·rename_i v
  cases h
  cases us with
  | nil=>exact hr.elim
  | cons u us=>
   cases us with
   | nil=>exact hr.1
   | cons u' us=>exact hr.2.elim
 ·rename_i hne
  split at h
  ·rename_i xs hx
   cases h
   rw [dif_neg ?_]
   ·exact ⟨us,rfl,toSums_ok hx hr⟩
   ·intro h1
    have h1:us.length=1:=by simpa using h1
    rw [h1] at hl
    obtain ⟨v,rfl⟩:=List.length_eq_one_iff.1 hl
    exact hne v rfl
  ·cases h
def postR (P:Program) (fn:Func) (R:Ending→World→Prop):Exit→Act→World→Prop
 | .normal,a,w | .ret,a,w=>LeavesInM Fence.wide 0 P fn a.tmps R a.defers .returning w
 | _,_,_=>False
theorem postR_M {fn:Func} {R:Ending→World→Prop} {e:Exit} {a:Act} {w:World} (h:postR P fn R e a w):bodyPostM Fence.wide 0 P fn R e a w:=by
 cases e<;>first | exact h | exact h.elim
theorem Sat.shut {S:Nat→Prop} {ν:Nat→Value} {a:Act} {w:World} (h:Sat X S ν st a w) {d:Deferred} {ds:List Deferred} (hd:a.defers=d :: ds) :
  ∃ D,d.target = .collected D∧(Instr.takeDeferred D).run P w = .ok [] (w.putObj D (.deferred none))∧Sat X S ν st { a with defers:=ds } (w.putObj D (.deferred none)):=by
 obtain ⟨h1,h2,hmk⟩:=h.defers
 rw [hd] at h1 h2
 obtain ⟨D,rfl,e1,e2,e3,e4⟩:=h1 d (List.mem_cons_self ..)
 obtain ⟨n1,n2⟩:=List.nodup_cons.1 h2
 refine ⟨D,rfl,run_takeDeferred e1,?_⟩
 have gr:Gr w (w.putObj D (.deferred none)) S S:=⟨by simp,fun b hb _=>World.putObj_heap_other fun e=>e3 (e ▸ hb),fun _ h=>h⟩
 refine ⟨⟨fun d' hd'=>?_,n2,fun e=>by have:=hmk e;rw [hd] at this;cases this⟩,h.size,fun p hp=>⟨(h.env p hp).1,AV.mono gr (fun _ _=>rfl) (h.elt p hp) (h.env p hp).2⟩,fun c hc=>Chunk.mono gr (fun _ _=>rfl) (h.hlt c hc) (fun b hb=>World.putObj_heap_other fun e=>e4 (mem_blks.2 ⟨c,hc,e ▸ hb⟩)) (h.hp c hc),h.nd,fun b hb=>?_,fun b hb=>?_,h.imm0,?_,h.elt,h.hlt,h.fix,h.ge⟩
 ·obtain ⟨D',rfl,f1,f2,f3,f4⟩:=h1 d' (List.mem_cons_of_mem _ hd')
  refine ⟨D',rfl,?_,f2,f3,f4⟩
  rw [World.putObj_heap_other fun (e:D' = D)=>n1 (by rw [← e];exact hd')];exact f1
 ·have:=h.blk b hb;rw [World.putObj_size];exact this
 ·have:=h.imm b hb;rw [World.putObj_size];exact this
 ·refine ⟨h.frame.os,h.frame.tape,h.frame.output,by rw [World.putObj_size];exact h.frame.size,fun k hk hB=>?_⟩
  rw [World.putObj_heap_other (by omega)];exact h.frame.block k hk hB
theorem leaves_of {fn:Func} {R:Ending→World→Prop} {S:Nat→Prop} {ν:Nat→Value} (h:∀ a w,a.defers=[]→Sat X S ν st a w→∃ v,(results fn a.tmps).run P w = .ok v w∧R (.returned v) w) :
  ∀ (ds:List Deferred) (a:Act) (w:World),a.defers=ds→Sat X S ν st a w→LeavesInM Fence.wide 0 P fn a.tmps R ds .returning w
 | [],a,w,hd,sat=>h a w hd sat
 | d :: ds,a,w,hd,sat=>by
  obtain ⟨D,h1,h2,h3⟩:=sat.shut (P:=P) hd
  exact ⟨by simp,.inl ⟨D,_,h1,h2,leaves_of h ds { a with defers:=ds } _ rfl h3⟩⟩
theorem TE.post {ι:Type} {fn:Func} {takes:List Chunk} {pre:ι→Prop} {res:ι→AV} {gives:ι→List Chunk} {e:Exit} (he:e = .normal∨e = .ret) (hB:X.B0=fun b=>b∈blks X.ν0 takes) (x:ι) (hpre:pre x) (g:Nat→Nat) {rvs:List AV} {rv:AV} (hT:T.Ok P) (hr:ares T st fn.results.toList=some rvs) (hv:retV rvs=some rv)
  (hle:LeV rv ((res x).ren g)) (hg:SubH st.hp ((gives x).map (Chunk.ren g))) (hm:∀ i,i<X.m→g i=i):TE X (postR P fn (RetR X takes pre res gives) e) st:=by
 intro S ν a w sat
 have key:LeavesInM Fence.wide 0 P fn a.tmps (RetR X takes pre res gives) a.defers .returning w:=by
  refine leaves_of (X:=X) (st:=st) (S:=S) (ν:=ν) (fun a w _ sat=>?_) a.defers a w rfl sat
  obtain ⟨us,h1,h2⟩:=ares_ok hT sat hr
  obtain ⟨s1,s2,s3⟩:=SubH.spec hg sat.hp sat.nd
  rw [blks_ren] at s2 s3
  have hrun:(results fn a.tmps).run P w = .ok (if h:us.toArray.size=1 then us.toArray[0] else .tuple us.toArray) w:=by
   unfold results
   rw [Array.mapM_eq_mapM_toList]
   have:=run_results (P:=P) a.tmps h1
   simp only [Sem.run_bind,Sem.run_map,Sem.run_pure]
   exact congrArg (fun r:Result (List Value)=>(r.andThen fun a w'=>Result.ok a.toArray w').andThen fun a w'=>Result.ok (if h:a.size=1 then a[0] else Value.tuple a) w') this
  refine ⟨_,hrun,x,S,fun i=>ν (g i),_,rfl,hpre,?_,?_,fun i hi=>by rw [hm i hi];exact sat.fix i hi,sat.imm0,fun b hb=>?_,fun c hc=>?_,s2,fun b hb=>?_⟩
  ·exact (AV.rel_ren _ _).1 (hle _ _ _ _ (retV_ok hv h2))
  ·have:=sat.frame;rw [hB] at this;exact this
  ·have:=sat.imm b hb;rw [hB] at this;exact this
  ·exact (Chunk.holds_ren _).1 (s1 _ (List.mem_map.2 ⟨c,hc,rfl⟩))
  ·obtain ⟨b1,b2,b3⟩:=sat.blk b (s3 b hb)
   rw [hB] at b3
   exact ⟨b1,b2,b3.symm⟩
 rcases he with rfl | rfl<;>exact key
end
end Go.Proofs.YtalmoocpebhoiaaGreatDoor.Am
namespace Go.Proofs.YtalmoocpebhoiaaGreatDoor.Am
open Go.RowKit Lw
def env0:Nat→List AV→Env
 | _,[]=>[]
 | i,v :: vs=>(i,v) :: normN (i+1) fun j=>env0 j vs
theorem env0_cons (i:Nat) (v:AV) (vs:List AV):env0 i (v :: vs)=(i,v) :: env0 (i+1) vs:=by rw [env0,normN_eq]
section
variable {F:Fence} {P:Program} {T:Tys} {X:Cx} {st st' : AS} {Q:Exit→Act→World→Prop} {ops:Array Oper} {R:Act→World→Prop} {K:Nat→Bool}
theorem env0_mem:∀ {vs:List AV} {i:Nat} {p:Nat×AV},p∈env0 i vs→∃ k,p.1=i+k∧vs[k]? = some p.2
 | [],i,p,h=>by cases h
 | v :: vs,i,p,h=>by
  rw [env0_cons] at h
  rcases List.mem_cons.1 h with rfl | h
  ·exact ⟨0,rfl,rfl⟩
  ·obtain ⟨k,h1,h2⟩:=env0_mem h
   exact ⟨k+1,by omega,h2⟩
theorem con_of {N : Nat} {ι : Type} {f : FuncId} {args : List AV} {takes : List Chunk} {m M : Nat} {pre : ι → Prop} {res : ι → AV} {gives : ι → List Chunk} {fn : Func} {c : Code} (hf : P.funcs[f]? = some fn) (hb : fn.body = some c) (hn : (fn.name == "runtime.NumGoroutine") = false)
  (hN:fn.ntmps=N) (hwf:(AS.mk (env0 0 args) takes m).wf N=true) (hle:m≤M) (wf:∀ x,(res x).ltB M=true∧allB (Chunk.ltB M) (gives x)=true)
  (h:∀ w S ν,TE ⟨N,w,fun b=>b∈blks ν takes,S,ν,m,true⟩ (c.wpIn Fence.wide 0 P (postR P fn (RetR ⟨N,w,fun b=>b∈blks ν takes,S,ν,m,true⟩ takes pre res gives))) ⟨env0 0 args,takes,m⟩) :
  Con P f args takes m M pre res gives:=by
 subst hN
 obtain ⟨wf1,wf2⟩:=AS.wf_ok hwf
 refine ⟨⟨fn,hf,hn,by rw [hb];rfl⟩,?_,hle,wf,fun w S ν vs ha ht hnd hbl hS=>?_⟩
 ·simp only [AS.wf] at hwf
  split at hwf
  ·exact hwf
  ·cases hwf
 ·refine callsIn_wide.1 (callsIn_of_wp_marks (F:=Fence.wide) (n:=0) hf hb trivial (Code.wpIn_mono (fun _ _ _ h=>postR_M h) (h w S ν S ν _ w ?_)))
  have hl:=ha.length
  have hsz:args.length≤fn.ntmps:=by
   rcases Nat.eq_zero_or_pos args.length with h0 | h0
   ·omega
   ·have hlast:∀ {vs:List AV} {i k:Nat} {v:AV},vs[k]? = some v→(i+k,v)∈env0 i vs:=by
     intro vs
     induction vs with
     | nil=>intro i k v h;simp at h
     | cons x vs ih=>
      intro i k v h
      rw [env0_cons]
      cases k with
      | zero=>cases h;exact List.mem_cons_self ..
      | succ k=>have:=ih (i:=i+1) (k:=k) (by simpa using h);rw [show i+(k+1)=i+1+k by omega];exact List.mem_cons_of_mem _ this
    have h1:args[args.length - 1]? = some (args[args.length - 1]'(by omega)):=List.getElem?_eq_getElem _
    have:=(wf1 _ (hlast (i:=0) h1)).1
    simp at this;omega
  refine ⟨⟨(fun d hd=>nomatch hd),List.nodup_nil,fun _=>rfl⟩,by simp;omega,fun p hp=>⟨(wf1 p hp).1,?_⟩,ht,hnd,fun b hb'=>⟨(hbl b hb').1,(hbl b hb').2,.inr hb'⟩,fun b hb'=>⟨hS b hb',.inl hb'⟩,fun b hb'=>hb',Fr.refl _ _,fun p hp=>(wf1 p hp).2,wf2,fun _ _=>rfl,Nat.le_refl _⟩
  obtain ⟨k,h1,h2⟩:=env0_mem hp
  obtain ⟨u,h3,h4⟩:=ha.get h2
  have hk:k<vs.length:=(List.getElem?_eq_some_iff.1 h3).1
  have:(vs.toArray++Array.replicate (fn.ntmps - vs.toArray.size) undef).getD p.1 undef=u:=by
   rw [h1,Nat.zero_add]
   have h5:vs[k]=u:=by rw [List.getElem?_eq_getElem hk] at h3;exact Option.some.inj h3
   simp [Array.getElem?_append,hk,h5]
  show p.2.rel w S ν ((vs.toArray++Array.replicate (fn.ntmps - vs.toArray.size) undef).getD p.1 undef)
  rw [this];exact h4
def wpAnyF (F:Fence) (P:Program) (ops:Array Oper) (Q:Exit→Act→World→Prop) (H:World→Prop):Nat→Array Bool→Act→World→Prop
 | 0,listed,a,w=>Region.ready .any ops listed=[]∧Q .normal a w
 | f+1,listed,a,w=>(Region.ready .any ops listed=[]→Q .normal a w)∧
  ∀ i∈Region.ready .any ops listed,wpOpIn F 0 P ops Q i (fun a' w'=>H w'∧wpAnyF F P ops Q H f (listed.setIfInBounds i true) a' w') a w
theorem wpAnyF_in {H:World→Prop}:∀ (f:Nat) (listed:Array Bool) (a:Act) (w:World),wpAnyF F P ops Q H f listed a w→wpAnyIn F 0 P .any ops Q f listed a w
 | 0,_,_,_,h=>h
 | f+1,_,_,_,h=>⟨h.1,fun i hi=>wpOpIn_mono (fun _ _ h'=>wpAnyF_in f _ _ _ h'.2) (h.2 i hi)⟩
theorem strengthen {H H2:World→Prop} (hh:∀ w,H2 w→H w):∀ (f:Nat) (listed:Array Bool) (a:Act) (w:World),wpAnyF F P ops Q H2 f listed a w→wpAnyF F P ops Q H f listed a w
 | 0,_,_,_,h=>h
 | f+1,_,_,_,h=>⟨h.1,fun i hi=>wpOpIn_mono (fun _ _ h'=>⟨hh _ h'.1,strengthen hh f _ _ _ h'.2⟩) (h.2 i hi)⟩
def PanicOk (Q:Exit→Act→World→Prop):Prop:=∀ d v c a w,Q (.panic c) (Act.put a d v) w→Q (.panic c) a w
theorem PanicOk.body {fn:Func} {R' : Ending→World→Prop}:PanicOk (postR P fn R'):=fun d v c a w h=>h
theorem PanicOk.then' {K' : Act→World→Prop} (h:PanicOk Q):PanicOk (Exit.then K' Q):=h
theorem PanicOk.block {i:Nat} (h:PanicOk Q):PanicOk (Exit.inBlock i Q):=h
def NoDefer (ops:Array Oper):Prop:=∀ (i:Nat) (o:Oper),ops[i]? = some o→∀ c,o.op≠.defer c
theorem yields_op [hF:Free F] {H:World→Prop} {i:Nat} {o:Oper} {v:Value} {a:Act} {w:World} {K' : Act→World→Prop} (hi:ops[i]? = some o) (hnd:∀ c,o.op≠.defer c) (hy:YieldsIf P ops H o v a) (hH:H w) (h:K' (a.put o.dst v) w):wpOpIn F 0 P ops Q i K' a w:=by
 simp only [wpOpIn,hi]
 have ab:∀ f,o.about P w a.eval=some f→F.fn f:=fun f _=>hF.fn f
 cases hw:Region.wanted o (yielded ops a.tmps) with
 | true=>
  rcases hy with ⟨_,hv⟩ | ⟨hn,_⟩
  ·refine ⟨ab,?_⟩
   rw [hF.sem hnd,hv w hH]
   exact h
  ·rw [hw] at hn;cases hn
 | false=>
  rcases hy with ⟨hn,_⟩ | ⟨_,rfl⟩
  ·rw [hw] at hn;cases hn
  ·exact ⟨ab,h⟩
theorem apart_op [hF:Free F] {H:World→Prop} {j:Nat} {x y:Oper} {v:Value} (hj:ops[j]? = some y) (hap:x.apart ops y=true) (hnd:∀ c,y.op≠.defer c) (sx:∀ cs b,x.op≠.select cs b) (sy:∀ cs b,y.op≠.select cs b)
  (hQ:PanicOk Q) {K' : Act→World→Prop} {a:Act} {w:World} (hy:YieldsIf P ops H x v a) (h:wpOpIn F 0 P ops Q j K' (a.put x.dst v) w) :
  wpOpIn F 0 P ops Q j (fun a' w'=>YieldsIf P ops H x v a'∧K' (a'.put x.dst v) w') a w:=by
 obtain ⟨p1,p2,p3⟩:=Oper.apart_spec hap
 have both:∀ u w',K' ((a.put x.dst v).put y.dst u) w'→YieldsIf P ops H x v (a.put y.dst u)∧K' ((a.put y.dst u).put x.dst v) w':=fun u w' hk=>
  ⟨hy.of_same (execOp_put x sx a y.dst u p3) (wanted_put x a y.dst u p3),by rw [← Act.put_comm a v u p2];exact hk⟩
 simp only [wpOpIn,hj] at h⊢
 rw [wanted_put y a x.dst v p1] at h
 have ab:∀ f,y.about P w a.eval=some f→F.fn f:=fun f _=>hF.fn f
 cases hw:Region.wanted y (yielded ops a.tmps) with
 | false=>
  rw [hw] at h
  exact ⟨ab,both _ _ h.2⟩
 | true=>
  rw [hw] at h
  simp only [if_true] at h⊢
  refine ⟨ab,?_⟩
  have h2:=h.2
  rw [hF.sem hnd] at h2⊢
  rw [execOp_put y sy a x.dst v p1] at h2
  generalize (execOp a.eval y).run P w=r at h2⊢
  cases r with
  | halt z w'=>cases z<;>first | exact hQ _ _ _ _ _ h2 | exact h2.elim
  | ok z w'=>
   cases z with
   | value u=>exact both _ _ h2
   | skip=>exact both _ _ h2
   | enter f args=>
    refine ⟨h2.1,CallsIn.mono h2.2 fun e w'' he=>?_⟩
    cases e with
    | returned u=>exact both _ _ he
    | panicked c=>exact hQ _ _ _ _ _ he
    | outgrown=>exact he
   | row r args=>exact ⟨h2.1,RowsIn.mono h2.2 fun u w'' he=>both _ _ he⟩
   | round l f ts a1 b1=>
    refine ⟨h2.1,RoundIn.mono h2.2 fun e w'' he=>?_⟩
    cases e with
    | returned u=>exact both _ _ he
    | panicked c=>exact hQ _ _ _ _ _ he
    | outgrown=>exact he
   | defer d=>
    refine ⟨?_,?_⟩
    ·exact hy.of_same (a':=(({ a with defers:=d :: a.defers }:Act).put y.dst undef)) (by rw [execOp_put x sx _ y.dst undef p3];rfl) (by rw [wanted_put x _ y.dst undef p3])
    ·have h3:K' (Act.put { a.put x.dst v with defers:=d :: (a.put x.dst v).defers } y.dst undef) w':=h2
     rw [← Act.put_comm _ v undef p2,← Act.put_defers]
     exact h3
   | _=>exact h2.elim
theorem first_op [hF:Free F] {H:World→Prop} {i:Nat} {x:Oper} {v:Value} (hi:ops[i]? = some x) (hnd:NoDefer ops) (hsel:∀ (j:Nat) (o:Oper) cs b,ops[j]? = some o→o.op≠.select cs b) (hQ:PanicOk Q) :
  ∀ (f:Nat) (listed:Array Bool) (a:Act) (w:World),
   (∀ j y,ops[j]? = some y→j≠i→listed.getD j true=false→(∀ e∈y.after,Region.binds .any e=true→e.on≠i)→x.apart ops y=true)→
   i∈Region.ready .any ops listed→YieldsIf P ops H x v a→H w→
   wpAnyF F P ops Q H f (listed.setIfInBounds i true) (a.put x.dst v) w→wpAnyF F P ops Q H (f+1) listed a w
 | 0,listed,a,w,_,hr,hy,hH,h=>by
  refine ⟨fun h0=>absurd hr (by rw [h0];simp),fun j hj=>?_⟩
  by_cases e:j=i
  ·subst e;exact yields_op hi (hnd _ _ hi) hy hH ⟨hH,h⟩
  ·have:=ready_mono hj e
   rw [h.1] at this;cases this
 | f+1,listed,a,w,hfree,hr,hy,hH,h=>by
  refine ⟨fun h0=>absurd hr (by rw [h0];simp),fun j hj=>?_⟩
  by_cases e:j=i
  ·subst e;exact yields_op hi (hnd _ _ hi) hy hH ⟨hH,h⟩
  ·obtain ⟨u,y,hjy,hall⟩:=mem_ready.1 hj
   have hoff:∀ e∈y.after,Region.binds .any e=true→e.on≠i:=by
    intro e he hb heq
    have l1:=hall e he hb
    have l0:=(mem_ready.1 hr).1
    rw [heq] at l1
    by_cases hs:i<listed.size
    ·simp [hs] at l0 l1;rw [l0] at l1;cases l1
    ·simp [Array.getElem?_eq_none (Nat.le_of_not_lt hs)] at l1
   refine wpOpIn_mono (fun a' w' hk=>?_) (apart_op hjy (hfree j y hjy e u hoff) (hnd _ _ hjy) (fun cs b=>hsel i x cs b hi) (fun cs b=>hsel j y cs b hjy) hQ hy (h.2 j (ready_mono hj e)))
   obtain ⟨k1,k2,k3⟩:=hk
   refine ⟨k2,first_op hi hnd hsel hQ f (listed.setIfInBounds j true) a' w' (fun k z hk hki hun hno=>hfree k z hk hki ?_ hno) (ready_mono hr (Ne.symm e)) k1 k2 ?_⟩
   ·by_cases hjk:j=k
    ·subst hjk;exact u
    ·rw [getD_set_ne true hjk] at hun;exact hun
   ·rw [Array.setIfInBounds_comm _ _ e];exact k3
def TH (F:Fence) (P:Program) (X:Cx) (ops:Array Oper) (Q:Exit→Act→World→Prop) (K:Nat→Bool) (fuel:Nat) (listed:Array Bool) (st:AS):Prop:=
 ∀ S ν a w (H:World→Prop),Sat X S ν st a w→H w→(∀ w',Ag K S ν st w w'→H w')→wpAnyF F P ops Q H fuel listed a w
theorem Sat.drew {S:Nat→Prop} {ν:Nat→Value} {a:Act} {w:World} (h:Sat X S ν st a w):Sat X S ν st a { w with drawn:=w.drawn+1 }:=by
 have gr:Gr w { w with drawn:=w.drawn+1 } S S:=⟨Nat.le_refl _,fun _ _ _=>rfl,fun _ h=>h⟩
 exact ⟨h.defers,h.size,fun p hp=>⟨(h.env p hp).1,AV.mono gr (fun _ _=>rfl) (h.elt p hp) (h.env p hp).2⟩,fun c hc=>Chunk.mono gr (fun _ _=>rfl) (h.hlt c hc) (fun _ _=>rfl) (h.hp c hc),h.nd,h.blk,h.imm,h.imm0,
  ⟨h.frame.os,h.frame.tape,h.frame.output,h.frame.size,h.frame.block⟩,h.elt,h.hlt,h.fix,h.ge⟩
theorem TE.draw {id:Nat} {l:List Oper} (K:Nat→Bool) (hm:P.follows .mixedOrders=true) (h:TH F P X l.toArray Q K l.length (List.replicate l.length false).toArray st):TE X ((Code.region id l.toArray true).wpIn F 0 P Q) st:=by
 intro S ν a w sat
 refine wpIn_region_any hm (wpAnyF_in (H:=fun _=>True) _ _ _ _ ?_)
 have:=h S ν a _ (fun _=>True) sat.drew trivial (fun _ _=>trivial)
 simpa using this
theorem TH.take1 [hF:Free F] (hT:T.Ok P) {i fuel:Nat} {listed:Array Bool} {oi:Oper} (hi:ops[i]? = some oi) (hs:Region.noSelect ops=true) (hnd:NoDefer ops) (hf:Region.free .any ops listed i=true) (hr:(Region.ready .any ops listed).contains i=true) (hQ:PanicOk Q) (hd:dstOk X.N oi=true)
  (hg:(aguard ops.toList st oi=some true∧∃ av qs,apure T K oi st=some (av,qs)∧(∀ p∈qs,p)∧TH F P X ops Q K fuel (listed.setIfInBounds i true) (st.put oi.dst av))∨(aguard ops.toList st oi=some false∧TH F P X ops Q K fuel (listed.setIfInBounds i true) (st.put oi.dst (.t [])))) :
  TH F P X ops Q K (fuel+1) listed st:=by
 intro S ν a w H sat hH hA
 have hag:∀ (d:Option Tmp) (v:AV) w',Ag K S ν (st.put d v) w w'→Ag K S ν st w w':=fun d v w' h=>by
  obtain ⟨h1,h2⟩:=h
  refine ⟨h1,fun b hb=>h2 b ?_⟩
  rw [(AS.put_hp st d v).1];exact hb
 rcases hg with ⟨hg,av,qs,h1,h2,h3⟩ | ⟨hg,h3⟩
 ·obtain ⟨u,y1,y2,y3⟩:=apure_ok hT h1 h2 sat
  refine strengthen (H2:=Ag K S ν st w) hA _ _ _ _ (first_op (v:=u) hi hnd (Region.noSelect_spec hs) hQ _ _ _ _ (Region.free_spec hi hf) (by simpa using hr) (.inl ⟨aguard_ok sat hg,y3⟩) (Ag.refl _ _ _ _ _) ?_)
  exact h3 S ν _ w _ (sat.put (dstOk_spec hd) y1 y2) (Ag.refl _ _ _ _ _) (fun w'=>hag _ _ w')
 ·refine strengthen (H2:=Ag K S ν st w) hA _ _ _ _ (first_op (v:=undef) hi hnd (Region.noSelect_spec hs) hQ _ _ _ _ (Region.free_spec hi hf) (by simpa using hr) (.inr ⟨aguard_ok sat hg,rfl⟩) (Ag.refl _ _ _ _ _) ?_)
  exact h3 S ν _ w _ (sat.put (dstOk_spec hd) ⟨[],rfl,trivial⟩ (fun x hx=>by cases hx)) (Ag.refl _ _ _ _ _) (fun w'=>hag _ _ w')
def StepAt (F:Fence) (P:Program) (X:Cx) (ops:Array Oper) (Q:Exit→Act→World→Prop) (K:Nat→Bool) (fuel:Nat) (listed:Array Bool) (st:AS) (i:Nat):Prop:=
 ∃ o,ops[i]? = some o∧dstOk X.N o=true∧(∀ c,o.op≠.defer c)∧aguard ops.toList st o=some true∧∃ R' : AS→Prop,StepTo P K o st R'∧∀ s,R' s→TH F P X ops Q K fuel (listed.setIfInBounds i true) s
def AllAt (F:Fence) (P:Program) (X:Cx) (ops:Array Oper) (Q:Exit→Act→World→Prop) (K:Nat→Bool) (fuel:Nat) (listed:Array Bool) (st:AS):List Nat→Prop
 | []=>True
 | [i]=>StepAt F P X ops Q K fuel listed st i
 | i :: is=>StepAt F P X ops Q K fuel listed st i∧AllAt F P X ops Q K fuel listed st is
theorem AllAt.mem {fuel:Nat} {listed:Array Bool}:∀ {is:List Nat},AllAt F P X ops Q K fuel listed st is→∀ i∈is,StepAt F P X ops Q K fuel listed st i
 | [],_,_,h=>by cases h
 | [i],h,j,hj=>by rw [List.mem_singleton.1 hj];exact h
 | i :: k :: is,h,j,hj=>by
  rcases List.mem_cons.1 hj with rfl | hj
  ·exact h.1
  ·exact AllAt.mem h.2 j hj
theorem TH.branch [hF:Free F] (is:List Nat) {fuel:Nat} {listed:Array Bool} (hr:Region.ready .any ops listed=is) (hne:is≠[]) (h:AllAt F P X ops Q K fuel listed st is):TH F P X ops Q K (fuel+1) listed st:=by
 intro S ν a w H sat hH hA
 refine ⟨fun h0=>absurd (hr ▸ h0) hne,fun i hi=>?_⟩
 obtain ⟨o,h1,h2,hnd,h3,R',h4,h5⟩:=h.mem i (hr ▸ hi)
 unfold wpOpIn
 rw [h1]
 simp only [aguard_ok sat h3,if_true]
 refine wp_free hF hnd (h4 X S ν a w Q _ (dstOk_spec h2) sat fun s S' ν' a' w' hR hs hk=>?_) fun _ _ h=>h
 have hHw:H w':=hA w' ⟨hk.size,hk.blk⟩
 refine ⟨hHw,h5 s hR S' ν' a' w' H hs hHw fun w2 h6=>hA w2 ⟨Nat.le_trans hk.size h6.1,fun b hb=>?_⟩⟩
 rw [h6.2 b ?_,hk.blk b hb]
 rcases hb with hb | ⟨ch,hc,hK,hb⟩
 ·exact .inl (hk.sub b hb)
 ·obtain ⟨h7,h8⟩:=hk.hp ch hc hK
  exact .inr ⟨ch,h7,hK,by rw [h8];exact hb⟩
theorem TH.done {fuel:Nat} {listed:Array Bool} (hr:Region.ready .any ops listed=[]) (h:TE X (Q .normal) st):TH F P X ops Q K fuel listed st:=
 fun S ν a w H sat _ _=>by
 cases fuel with
 | zero=>exact ⟨hr,h S ν a w sat⟩
 | succ f=>exact ⟨fun _=>h S ν a w sat,fun i hi=>by rw [hr] at hi;cases hi⟩
theorem StepAt.mem (hT:T.Ok P) {i fuel:Nat} {l:List Oper} {listed:Array Bool} {o:Oper} {ps:List Prop} {N:Nat} (hN:X.N=N) (hi:nthO l i=some o) (hd:dstOk N o=true) (hg:aguard l st o=some true) (h:st.force (fun s=>amem T K o s)=some (st',ps)) (hps:AllP ps) (hk:TH F P X l.toArray Q K fuel (listed.setIfInBounds i true) st'):StepAt F P X l.toArray Q K fuel listed st i:=by
 subst hN
 rw [AS.force_eq] at h
 exact ⟨o,by rw [← Array.getElem?_toList,← nthO_eq];exact hi,hd,amem_nd h,by simpa using hg,_,amem_ok hT h hps.mem,fun s e=>e ▸ hk⟩
theorem StepAt.pure (hT:T.Ok P) {i fuel:Nat} {l:List Oper} {listed:Array Bool} {o:Oper} {av:AV} {ps:List Prop} {N:Nat} (hN:X.N=N) (hi:nthO l i=some o) (hd:dstOk N o=true) (hg:aguard l st o=some true) (h:st.force (fun s=>apure T (fun _=>true) o s)=some (av,ps)) (hps:AllP ps) (hk:TH F P X l.toArray Q K fuel (listed.setIfInBounds i true) (st.put o.dst av)):StepAt F P X l.toArray Q K fuel listed st i:=by
 subst hN
 rw [AS.force_eq] at h
 refine ⟨o,by rw [← Array.getElem?_toList,← nthO_eq];exact hi,hd,apure_nd h,by simpa using hg,(· = st.put o.dst av),fun X' S ν a w Q' K' hd' sat hk'=>?_,fun s e=>e ▸ hk⟩
 obtain ⟨u,y1,y2,y3⟩:=apure_ok hT h hps.mem sat
 refine wp_value (y3 w (Ag.refl _ _ _ _ _)) (hk' _ S ν _ w rfl (sat.put hd' y1 y2) ⟨Nat.le_refl _,fun _ h=>h,fun ch hc _=>⟨by rw [(AS.put_hp _ _ _).1];exact hc,rfl⟩,fun _ _=>rfl⟩)
theorem StepAt.call {ι:Type} {f:FuncId} {args:List AV} {takes:List Chunk} {m M:Nat} {pre:ι→Prop} {res:ι→AV} {gives:ι→List Chunk} (hcon:Con P f args takes m M pre res gives) {i fuel:Nat} {l:List Oper} {listed:Array Bool} {o:Oper} {c:Call} {N:Nat} (hN:X.N=N) (hi:nthO l i=some o) (hd:dstOk N o=true) (hgd:aguard l st o=some true) (ho:o.op = .call c)
  {caps vs:List AV} {hrest:List Chunk} (g:Nat→Nat) (hc:acallee st c.callee=some (f,caps)) (hx:aops st c.args.toList=some vs) (hargs:All2 LeV (vs++caps) (args.map (AV.ren g))) (ht:TakeH st.hp (takes.map (Chunk.ren g)) hrest)
  (hK:∀ c∈takes,K (g c.id)=false) (hg:∀ i,i<m→g i<st.nid) (hk:∀ x,pre x→TH F P X l.toArray Q K fuel (listed.setIfInBounds i true) (st.called hrest g m M o.dst (res x) (gives x))):StepAt F P X l.toArray Q K fuel listed st i:=by
 subst hN
 exact ⟨o,by rw [← Array.getElem?_toList,← nthO_eq];exact hi,hd,(fun c' hc'=>by rw [ho] at hc';cases hc'),by simpa using hgd,_,call_step hcon ho g hc hx hargs ht hK hg,fun s ⟨x,hx,e⟩=>e ▸ hk x hx⟩
theorem TE.nilOwn (t E sz:Nat) (hc:look st.env t=some (.o (.c (.slice none 0 0)))) (h:TE X R ((AS.mk st.env (.own st.nid E sz nilC :: st.hp) (st.nid+1)).put (some t) (.o (.own st.nid)))):TE X R st:=by
 intro S ν a w sat
 have hm:=sat.env _ (look_mem hc)
 have hv:a.tmps.getD t undef = .slice none 0 0:=hm.2.1
 have hs:=sat.swap (takes:=[]) (gives:=[.own st.nid E sz nilC]) (rest:=st.hp) (nid:=st.nid+1) (S':=S) (ν':=upd ν st.nid (.slice none 0 0)) (w':=w) (.refl _) (Fr.refl _ _) upd_lt (fun _ h=>h) (fun b hb=>⟨(sat.imm b hb).1,.inl hb⟩)
  (fun ch hch=>by
   rw [List.mem_singleton.1 hch]
   exact ⟨[],by rw [upd_same];exact World.ownsRow_nil _ _ _ _,fun i j hi=>by simp [nilC] at hi⟩)
  (by simp [blks,Chunk.blk,upd_same,Value.ownBlock]) (fun b hb=>by simp [blks,Chunk.blk,upd_same,Value.ownBlock] at hb)
  (fun ch hch=>by rw [List.mem_singleton.1 hch];exact Nat.lt_succ_self _) (Nat.le_succ _)
 exact h S _ a w (hs.reput hm.1 ⟨by rw [hv,upd_same],by rw [upd_same];rfl⟩ (Nat.lt_succ_self _))
def A1.frz (id sz:Nat) (ct:Ct):A1→A1
 | .own i=>match Nat.beq i id with
  | true=>.ro sz ct.n ct.cell
  | false=>.own i
 | a=>a
def frzL (id sz:Nat) (ct:Ct):List A1→List A1
 | []=>[]
 | a :: as=>a.frz id sz ct :: frzL id sz ct as
def AV.frz (id sz:Nat) (ct:Ct):AV→AV
 | .o a=>.o (a.frz id sz ct)
 | .g as=>.g (frzL id sz ct as)
 | v=>v
def frzE (id sz:Nat) (ct:Ct):Env→Env
 | []=>[]
 | (t,v) :: e=>(t,v.frz id sz ct) :: frzE id sz ct e
def frzH (id sz:Nat) (ct:Ct):List Chunk→List Chunk
 | []=>[]
 | .box i T cells :: r=>.box i T (frzL id sz ct cells) :: frzH id sz ct r
 | c :: r=>c :: frzH id sz ct r
theorem A1.frz_rel {id sz:Nat} {ct:Ct} {w:World} {S:Nat→Prop} {ν:Nat→Value} (hr:(DC.sl sz ct.n ct.cell).rel w S (ν id)) {a:A1} {u:Value} (h:a.rel w S ν u):(a.frz id sz ct).rel w S ν u:=by
 cases a with
 | own i=>
  simp only [A1.frz]
  split
  ·rename_i hb
   have:=Nat.eq_of_beq_eq_true hb
   subst this
   have:u=ν i:=h.1
   rw [this];exact hr
  ·exact h
 | _=>exact h
theorem frzL_rel {id sz:Nat} {ct:Ct} {w:World} {S:Nat→Prop} {ν:Nat→Value} (hr:(DC.sl sz ct.n ct.cell).rel w S (ν id)):∀ {as:List A1} {us:List Value},All2 (A1.rel w S ν) as us→All2 (A1.rel w S ν) (frzL id sz ct as) us
 | [],[],_=>trivial
 | _ :: _,_ :: _,h=>⟨A1.frz_rel hr h.1,frzL_rel hr h.2⟩
 | [],_ :: _,h=>h.elim
 | _ :: _,[],h=>h.elim
theorem A1.frz_lt {id sz m:Nat} {ct:Ct} {a:A1} (h:a.lt m):(a.frz id sz ct).lt m:=by
 cases a with
 | own i=>simp only [A1.frz];split<;>first | exact trivial | exact h
 | _=>exact h
theorem frzL_lt {id sz m:Nat} {ct:Ct}:∀ {as:List A1},(∀ a∈as,a.lt m)→∀ a∈frzL id sz ct as,a.lt m
 | [],_,a,h=>by cases h
 | x :: as,h,a,ha=>by
  rcases List.mem_cons.1 ha with rfl | ha
  ·exact A1.frz_lt (h x (List.mem_cons_self ..))
  ·exact frzL_lt (fun y hy=>h y (List.mem_cons_of_mem _ hy)) a ha
theorem AV.frz_rel {id sz:Nat} {ct:Ct} {w:World} {S:Nat→Prop} {ν:Nat→Value} (hr:(DC.sl sz ct.n ct.cell).rel w S (ν id)) {v:AV} {u:Value} (h:v.rel w S ν u):(v.frz id sz ct).rel w S ν u:=by
 cases v with
 | o a=>exact A1.frz_rel hr h
 | g as=>obtain ⟨us,e,h⟩:=h;exact ⟨us,e,frzL_rel hr h⟩
 | t xs=>exact h
theorem AV.frz_lt {id sz m:Nat} {ct:Ct} {v:AV} (h:v.lt m):(v.frz id sz ct).lt m:=by
 cases v with
 | o a=>exact A1.frz_lt h
 | g as=>exact frzL_lt h
 | t xs=>exact h
theorem frzE_mem {id sz:Nat} {ct:Ct}:∀ {e:Env} {p:Nat×AV},p∈frzE id sz ct e→∃ v,(p.1,v)∈e∧p.2=v.frz id sz ct
 | (t,v) :: e,p,h=>by
  rcases List.mem_cons.1 h with rfl | h
  ·exact ⟨v,List.mem_cons_self ..,rfl⟩
  ·obtain ⟨v',h1,h2⟩:=frzE_mem h
   exact ⟨v',List.mem_cons_of_mem _ h1,h2⟩
theorem frzH_spec {id sz m:Nat} {ct:Ct} {w:World} {S:Nat→Prop} {ν:Nat→Value} (hr:(DC.sl sz ct.n ct.cell).rel w S (ν id)):∀ {l:List Chunk},(∀ c∈l,c.holds w S ν∧c.lt m)→(∀ c∈frzH id sz ct l,c.holds w S ν∧c.lt m)∧blks ν (frzH id sz ct l)=blks ν l
 | [],_=>⟨(fun c hc=>nomatch hc),rfl⟩
 | .box i T cells :: r,h=>by
  obtain ⟨i1,i2⟩:=frzH_spec hr (l:=r) fun c hc=>h c (List.mem_cons_of_mem _ hc)
  refine ⟨fun c hc=>?_,?_⟩
  ·rcases List.mem_cons.1 hc with rfl | hc
   ·obtain ⟨⟨b,us,h1,h2,h3⟩,h4,h5⟩:=h _ (List.mem_cons_self ..)
    exact ⟨⟨b,us,h1,h2,frzL_rel hr h3⟩,h4,frzL_lt h5⟩
   ·exact i1 c hc
  ·unfold blks at *
   rw [frzH,List.filterMap_cons,List.filterMap_cons,i2];rfl
 | .own i E s c' :: r,h=>by
  obtain ⟨i1,i2⟩:=frzH_spec hr (l:=r) fun c hc=>h c (List.mem_cons_of_mem _ hc)
  refine ⟨fun c hc=>?_,?_⟩
  ·rcases List.mem_cons.1 hc with rfl | hc
   ·exact h _ (List.mem_cons_self ..)
   ·exact i1 c hc
  ·unfold blks at *
   show List.filterMap _ (Chunk.own i E s c' :: frzH id sz ct r)=_
   rw [List.filterMap_cons,List.filterMap_cons,i2]
 | .nest i E c' q :: r,h=>by
  obtain ⟨i1,i2⟩:=frzH_spec hr (l:=r) fun c hc=>h c (List.mem_cons_of_mem _ hc)
  refine ⟨fun c hc=>?_,?_⟩
  ·rcases List.mem_cons.1 hc with rfl | hc
   ·exact h _ (List.mem_cons_self ..)
   ·exact i1 c hc
  ·unfold blks at *
   show List.filterMap _ (Chunk.nest i E c' q :: frzH id sz ct r)=_
   rw [List.filterMap_cons,List.filterMap_cons,i2]
 | .stat i g s' cell :: r,h=>by
  obtain ⟨i1,i2⟩:=frzH_spec hr (l:=r) fun c hc=>h c (List.mem_cons_of_mem _ hc)
  refine ⟨fun c hc=>?_,?_⟩
  ·rcases List.mem_cons.1 hc with rfl | hc
   ·exact h _ (List.mem_cons_self ..)
   ·exact i1 c hc
  ·unfold blks at *
   show List.filterMap _ (Chunk.stat i g s' cell :: frzH id sz ct r)=_
   rw [List.filterMap_cons,List.filterMap_cons,i2]
 | .obj i ob :: r,h=>by
  obtain ⟨i1,i2⟩:=frzH_spec hr (l:=r) fun c hc=>h c (List.mem_cons_of_mem _ hc)
  refine ⟨fun c hc=>?_,?_⟩
  ·rcases List.mem_cons.1 hc with rfl | hc
   ·exact h _ (List.mem_cons_self ..)
   ·exact i1 c hc
  ·unfold blks at *
   show List.filterMap _ (Chunk.obj i ob :: frzH id sz ct r)=_
   rw [List.filterMap_cons,List.filterMap_cons,i2]
theorem Sat.freeze {S:Nat→Prop} {ν:Nat→Value} {a:Act} {w:World} (id:Nat) {E sz:Nat} {ct:Ct} {rest:List Chunk} (htk:takeOwn (fun _=>true) st.hp id=some (E,sz,ct,rest)) (sat:Sat X S ν st a w):Sat X (fun b=>S b∨(ν id).ownBlock=some b) ν ⟨frzE id sz ct st.env,frzH id sz ct rest,st.nid⟩ a w:=by
 obtain ⟨hp,_⟩:=takeOwn_perm htk
 have hmem:Chunk.own id E sz ct∈st.hp:=hp.symm.subset (List.mem_cons_self ..)
 have hrest:∀ c∈rest,c∈st.hp:=fun c hc=>hp.symm.subset (List.mem_cons_of_mem _ hc)
 obtain ⟨xs,o1,o2⟩:=sat.hp _ hmem
 have gr:Gr w w S (fun b=>S b∨(ν id).ownBlock=some b):=⟨Nat.le_refl _,fun _ _ _=>rfl,fun _ h=>.inl h⟩
 have hr:(DC.sl sz ct.n ct.cell).rel w (fun b=>S b∨(ν id).ownBlock=some b) (ν id):=by
  obtain ⟨A,c,e,h1,h2,h3,h4,h5⟩:=ownsRow_src o1
  refine ⟨A,c,e,h1,h2,h3,fun hn=>?_⟩
  obtain ⟨b,off,rfl,hb,_,hc⟩:=h5 hn
  refine ⟨b,off,rfl,.inr (by rw [e];rfl),hb,fun i j hi hj=>?_⟩
  obtain ⟨u,u1,u2⟩:=o2 i j hi hj
  exact ⟨u,by rw [Nat.add_assoc];exact hc _ _ u1,DC.mono gr u2⟩
 obtain ⟨f1,f2⟩:=frzH_spec (m:=st.nid) (l:=rest) hr fun c hc=>⟨Chunk.mono gr (fun _ _=>rfl) (sat.hlt c (hrest c hc)) (fun _ _=>rfl) (sat.hp c (hrest c hc)),sat.hlt c (hrest c hc)⟩
 have hblk:(blks ν (Chunk.own id E sz ct :: rest)).Nodup:=(blks_perm hp).nodup_iff.1 sat.nd
 have hsub:(blks ν rest).Sublist (blks ν (Chunk.own id E sz ct :: rest)):=blks_sub (List.sublist_cons_self ..)
 have hne:∀ b∈blks ν rest,(ν id).ownBlock≠some b:=fun b hb e=>by
  have:blks ν (Chunk.own id E sz ct :: rest)=b :: blks ν rest:=by
   unfold blks
   rw [List.filterMap_cons]
   simp [Chunk.blk,e]
  rw [this] at hblk
  exact (List.nodup_cons.1 hblk).1 hb
 refine ⟨⟨fun d hd=>?_,sat.defers.2⟩,sat.size,fun p hp'=>?_,fun c hc=>(f1 c hc).1,by rw [f2];exact hblk.sublist hsub,fun b hb=>?_,fun b hb=>?_,fun b hb=>.inl (sat.imm0 b hb),sat.frame,fun p hp'=>?_,fun c hc=>(f1 c hc).2,sat.fix,sat.ge⟩
 ·obtain ⟨D,d1,d2,d3,d4,d5⟩:=sat.defers.1 d hd
  refine ⟨D,d1,d2,d3,fun hs=>hs.elim d4 fun e=>d5 (mem_blks.2 ⟨_,hmem,e⟩),fun hm=>d5 ?_⟩
  rw [show (AS.mk (frzE id sz ct st.env) (frzH id sz ct rest) st.nid).hp=frzH id sz ct rest from rfl,f2] at hm
  exact (blks_perm hp).symm.subset (hsub.subset hm)
 ·obtain ⟨v,h1,h2⟩:=frzE_mem hp'
  obtain ⟨h3,h4⟩:=sat.env _ h1
  refine ⟨h3,?_⟩
  rw [h2]
  exact AV.frz_rel hr (AV.mono gr (fun _ _=>rfl) (sat.elt _ h1) h4)
 ·rw [f2] at hb
  have hb' : b∈blks ν st.hp:=(blks_perm hp).symm.subset (hsub.subset hb)
  obtain ⟨h1,h2,h3⟩:=sat.blk b hb'
  exact ⟨h1,fun h4=>h4.elim h2 (hne b hb),h3⟩
 ·rcases hb with hb | hb
  ·exact sat.imm b hb
  ·obtain ⟨h1,h2,h3⟩:=sat.blk b (mem_blks.2 ⟨_,hmem,hb⟩)
   exact ⟨h1,.inr h3⟩
 ·obtain ⟨v,h1,h2⟩:=frzE_mem hp'
  rw [h2]
  exact AV.frz_lt (sat.elt _ h1)
theorem TE.freeze (id:Nat) {E sz:Nat} {ct:Ct} {rest:List Chunk} (htk:takeOwn (fun _=>true) st.hp id=some (E,sz,ct,rest)) (h:TE X R ⟨frzE id sz ct st.env,frzH id sz ct rest,st.nid⟩):TE X R st:=
 fun _ _ _ _ sat=>h _ _ _ _ (sat.freeze id htk)
theorem frzH_id {id sz:Nat} {ct:Ct} {ν:Nat→Value}:∀ {l:List Chunk} {c:Chunk},c∈l→∃ c'∈frzH id sz ct l,c'.id=c.id∧c'.blk ν=c.blk ν
 | .box i T cells :: r,c,h=>by
  rcases List.mem_cons.1 h with rfl | h
  ·exact ⟨_,List.mem_cons_self ..,rfl,rfl⟩
  ·obtain ⟨c',h1,h2⟩:=frzH_id h
   exact ⟨c',List.mem_cons_of_mem _ h1,h2⟩
 | .own i E s' ct' :: r,c,h=>by
  rcases List.mem_cons.1 h with rfl | h
  ·exact ⟨_,List.mem_cons_self ..,rfl,rfl⟩
  ·obtain ⟨c',h1,h2⟩:=frzH_id h
   exact ⟨c',List.mem_cons_of_mem _ h1,h2⟩
 | .nest i E c' q :: r,c,h=>by
  rcases List.mem_cons.1 h with rfl | h
  ·exact ⟨_,List.mem_cons_self ..,rfl,rfl⟩
  ·obtain ⟨c',h1,h2⟩:=frzH_id h
   exact ⟨c',List.mem_cons_of_mem _ h1,h2⟩
 | .stat i g s' cell :: r,c,h=>by
  rcases List.mem_cons.1 h with rfl | h
  ·exact ⟨_,List.mem_cons_self ..,rfl,rfl⟩
  ·obtain ⟨c',h1,h2⟩:=frzH_id h
   exact ⟨c',List.mem_cons_of_mem _ h1,h2⟩
 | .obj i ob :: r,c,h=>by
  rcases List.mem_cons.1 h with rfl | h
  ·exact ⟨_,List.mem_cons_self ..,rfl,rfl⟩
  ·obtain ⟨c',h1,h2⟩:=frzH_id h
   exact ⟨c',List.mem_cons_of_mem _ h1,h2⟩
theorem TH.freeze (id:Nat) {E sz fuel:Nat} {listed:Array Bool} {ct:Ct} {rest:List Chunk} (htk:takeOwn (fun _=>true) st.hp id=some (E,sz,ct,rest)) (h:TH F P X ops Q K fuel listed ⟨frzE id sz ct st.env,frzH id sz ct rest,st.nid⟩):TH F P X ops Q K fuel listed st:=by
 intro S ν a w H sat hH hA
 refine h _ _ a w H (sat.freeze id htk) hH fun w' hg=>hA w' ⟨hg.1,fun b hb=>hg.2 b ?_⟩
 rcases hb with hb | ⟨ch,hc,hk,hb⟩
 ·exact .inl (.inl hb)
 ·obtain ⟨hp,_⟩:=takeOwn_perm htk
  rcases List.mem_cons.1 (hp.subset hc) with rfl | hc
  ·exact .inl (.inr hb)
  ·obtain ⟨c',h1,h2,h3⟩:=frzH_id (id:=id) (sz:=sz) (ct:=ct) (ν:=ν) hc
   exact .inr ⟨c',h1,by rw [h2];exact hk,by rw [h3];exact hb⟩
end
end Go.Proofs.YtalmoocpebhoiaaGreatDoor.Am
namespace Go.Proofs.YtalmoocpebhoiaaGreatDoor.Am
def fieldsB (P:Program) (fs:List (Nat×Nat×Nat)):Bool:=fs.all fun p=>decide ((P.info? p.1).map (·.size)=some p.2.2) && decide (0<p.2.2)
theorem fieldsOk_of {P:Program} {fs:List (Nat×Nat×Nat)} (h:fieldsB P fs=true):∀ p∈fs,(P.info? p.1).map (·.size)=some p.2.2∧0<p.2.2:=by
 intro p hp
 have:=List.all_eq_true.1 h p hp
 simp only [Bool.and_eq_true,decide_eq_true_eq] at this
 exact this
theorem TI.mkOk {P:Program} {t:TI} {z:Value} {d:TypeDesc} (h1:(P.info? t.id).map (fun i=>(i.zero,i.size,i.bytes))=some (some z,t.size,t.bytes)) (h2:P.underlying t.id=some d) (h3:TK.ok P d t.k) (h4:d.isRow=t.agg) (h5:z.cells.toList=t.zero)
  (h6:t.zero.all Value.oneCell' = true) (h7:t.zero.length=t.size) (h8:(t.agg=false∧z.oneCell' = true∧t.size=1)∨(t.agg=true∧z = .agg t.zero.toArray)) (h9:0<t.size):t.Ok P:=by
 obtain ⟨i,e1,e2,e3,e4⟩:=info_parts h1
 refine ⟨⟨i,z,e1,e3,e4,e2,h5,fun v hv=>List.all_eq_true.1 h6 v hv,h7,fun h=>?_,fun h=>?_⟩,⟨d,h2,h3,h4⟩,h9,fun h=>?_⟩
 ·rcases h8 with h8 | h8
  ·exact h8.2.1
  ·rw [h] at h8;cases h8.1
 ·rcases h8 with h8 | h8
  ·rw [h] at h8;cases h8.1
  ·exact h8.2
 ·rcases h8 with h8 | h8
  ·exact h8.2.2
  ·rw [h] at h8;cases h8.1
end Go.Proofs.YtalmoocpebhoiaaGreatDoor.Am
namespace Go.Proofs.YtalmoocpebhoiaaGreatDoor.Am
open Go.RowKit Lw
def listC {α:Type} (f:α→Nat→DC) (d:α) (l:List α):Ct:=⟨l.length,fun i j=>f (l.getD i d) j⟩
def byteR (b:UInt8) (_:Nat):DC:=.c (.int .u8 b.toNat)
def bytesC (l:List UInt8):Ct:=listC byteR 0 l
def LeDC (sz:Nat) (a b:Ct):Prop:=LeD sz a.n a.cell b.n b.cell
theorem LeDC.refl (sz:Nat) (a:Ct):LeDC sz a a:=LeD.refl
theorem LeDC.trans {sz:Nat} {a b c:Ct} (h:LeDC sz a b) (k:LeDC sz b c):LeDC sz a c:=
 ⟨h.en.trans k.en,fun i j hi hj=>(h.ec i j hi hj).trans (k.ec i j (by rw [← h.en];exact hi) hj)⟩
theorem LeDC.of_eq {sz:Nat} {a b:Ct} (h:a=b):LeDC sz a b:=h ▸ LeDC.refl _ _
theorem LeDC.nil {sz:Nat} {a b:Ct} (ha:a.n=0) (hb:b.n=0):LeDC sz a b:=⟨ha.trans hb.symm,fun i j hi=>by rw [ha] at hi;exact absurd hi (Nat.not_lt_zero i)⟩
theorem LeDC.app {sz:Nat} {a b a' b' : Ct} (h:LeDC sz a a') (k:LeDC sz b b'):LeDC sz (appC a b) (appC a' b'):=by
 refine ⟨by simp only [appC];rw [h.en,k.en],fun i j hi hj=>?_⟩
 simp only [appC] at hi⊢
 rw [← h.en]
 by_cases hlt:i<a.n
 ·rw [if_pos hlt,if_pos hlt];exact h.ec i j hlt hj
 ·rw [if_neg hlt,if_neg hlt];exact k.ec _ j (by omega) hj
section
variable {α:Type} {f:α→Nat→DC} {d:α} {sz:Nat}
theorem getD_append_lt {l m:List α} {i:Nat} (h:i<l.length):(l++m).getD i d=l.getD i d:=by
 simp [List.getD_eq_getElem?_getD,List.getElem?_append_left h]
theorem getD_append_ge {l m:List α} {i:Nat} (h:l.length≤i):(l++m).getD i d=m.getD (i - l.length) d:=by
 simp [List.getD_eq_getElem?_getD,List.getElem?_append_right h]
theorem listC_app (l m:List α):LeDC sz (appC (listC f d l) (listC f d m)) (listC f d (l++m)):=by
 refine ⟨by simp [appC,listC],fun i j hi hj=>LeX.of_eq ?_⟩
 have hi:i<l.length+m.length:=hi
 show (if i<l.length then f (l.getD i d) j else f (m.getD (i - l.length) d) j)=f ((l++m).getD i d) j
 by_cases h:i<l.length
 ·rw [if_pos h,getD_append_lt h]
 ·rw [if_neg h,getD_append_ge (by omega)]
theorem listC_oneX {row:List DC} (x:α) (h:∀ j,j<sz→LeX (nthD row j) (f x j)):LeDC sz (litC [row]) (listC f d [x]):=by
 refine ⟨rfl,fun i j hi hj=>?_⟩
 have hi:i<1:=hi
 obtain rfl:i=0:=by omega
 exact h j hj
theorem listC_one {row:List DC} (x:α) (h:∀ j,j<sz→nthD row j=f x j):LeDC sz (litC [row]) (listC f d [x]):=listC_oneX x fun j hj=>LeX.of_eq (h j hj)
theorem listC_snocX {row:List DC} {l l' : List α} (x:α) (hl:l' = l++[x]) (h:∀ j,j<sz→LeX (nthD row j) (f x j)):LeDC sz (appC (listC f d l) (litC [row])) (listC f d l'):=by
 subst hl
 exact (LeDC.app (LeDC.refl _ _) (listC_oneX x h)).trans (listC_app _ _)
theorem listC_snoc {row:List DC} {l l' : List α} (x:α) (hl:l' = l++[x]) (h:∀ j,j<sz→nthD row j=f x j):LeDC sz (appC (listC f d l) (litC [row])) (listC f d l'):=listC_snocX x hl fun j hj=>LeX.of_eq (h j hj)
end
theorem strC_eq (s:ByteArray):strC s=bytesC s.data.toList:=rfl
theorem byte_nth {z:Int} {b:UInt8} (h:z=b.toNat):∀ j,j<1→nthD [.c (.int .u8 z)] j=byteR b j:=by
 intro j hj
 obtain rfl:j=0:=by omega
 subst h;rfl
theorem ctBytes_bytesC (l:List UInt8):ctBytes (bytesC l).n (bytesC l).cell=l:=by
 unfold ctBytes bytesC listC byteR
 apply List.ext_getElem?
 intro i
 by_cases h:i<l.length
 ·simp [h,dcByte]
 ·simp [h]
theorem strnil_iff (s:ByteArray):s=ByteArray.mk #[]↔s.size=0:=by
 constructor
 ·rintro rfl;rfl
 ·intro h
  cases s with
  | mk d=>
   have:d = #[]:=Array.eq_empty_of_size_eq_zero h
   rw [this]
theorem bytesC_n (l:List UInt8):(bytesC l).n=l.length:=rfl
end Go.Proofs.YtalmoocpebhoiaaGreatDoor.Am
