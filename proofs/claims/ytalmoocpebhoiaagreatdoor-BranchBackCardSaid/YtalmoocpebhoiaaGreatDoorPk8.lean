/- Texts of this claim, joined. -/
import Derived.Test.YtalmoocpebhoiaaGreatDoorPk3
import Derived.Test.YtalmoocpebhoiaaGreatDoorPk4
import Derived.Test.YtalmoocpebhoiaaGreatDoorPk6
import Derived.Test.YtalmoocpebhoiaaGreatDoorPk7
import Derived.KernelRfl
import Derived.Test.YtalmoocpebhoiaaGreatDoorRows
import Derived.Handed
import Derived.HandedShaped
import Derived.Shelf.Vars
import Derived.Lib.LaidTab
import Derived.Lib.LaidU8
import Derived.Stop.LaidErr
set_option linter.unusedSimpArgs false
set_option linter.unusedVariables false
set_option maxRecDepth 20000
set_option maxHeartbeats 8000000
namespace Go.Proofs.YtalmoocpebhoiaaGreatDoor.Am
open Go.RowKit Lw
open Br Wo
theorem strs_take (L:List Bs) {n:Nat} (h:n≤L.length):LeD 1 n (strsC L).cell (L.take n).length (strsC (L.take n)).cell:=
 ⟨by rw [List.length_take];omega,fun i j hi hj=>LeX.of_eq (by
  show strR' (L.getD i []) j=strR' ((L.take n).getD i []) j
  rw [getD_take hi])⟩
theorem markf_c (m:Int) (te:TypeId) (pe:Value) (s:Bs) (hl:s.length≤900000):Con Tryz.prog 35 [.o (.c (.string (sB s)))] (glC m te pe) 4 4 U (fun _=>.o (.c (.bool (isMark s)))) (fun _=>glC m te pe):=by
 refine con_of Tryz.func35 rfl (by kernel_rfl) Tryz.ntmps35 rfl (by first | exact Nat.zero_le _ | decide) (fun _=>⟨rfl,rfl⟩) fun w S ν=>?_
 refine wa ?_
 refine cw (mark_c m te pe s hl) ?_
 intro _ _
 refine wb ?_
 exact po
theorem idxm_c (m:Int) (te:TypeId) (pe:Value) (L:List Bs) (hl:L.length≤1000000) (hs:∀ s∈L,s.length≤900000):Con Tryz.prog 34 [.o (.ro 1 L.length (strsC L).cell),.o (.c (.func (.func 35) #[] #[]))] (glC m te pe) 4 4 (fun i:Int=>(i = -1∧manyP L=L.length)∨(0≤i∧i=manyP L∧manyP L<L.length)) (fun i=>.o (.c (.int .i64 i))) (fun _=>glC m te pe):=by
 refine con_of Tryz.func34 rfl (by kernel_rfl) Tryz.ntmps34 rfl (by first | exact Nat.zero_le _ | decide) (fun _=>⟨rfl,rfl⟩) fun w S ν=>?_
 refine wa ?_
 refine TE.loopG (fun q:Nat=>q≤L.length∧∀ j,j<q→isMark (L.getD j [])=false) (fun q=>[(8,.o (.c (.int .i64 q)))]) [] (fun _=>[]) (fun q=>L.length - q) 0 (by rfl) ⟨Nat.zero_le _,fun j h=>absurd h (Nat.not_lt_zero _)⟩ ?_ ?_
 ·exact ee
 rintro q ⟨hq,hg⟩
 by_cases hlt:q<L.length
 ·have hmk:=markf_c m te pe (L.getD q []) (hs _ (getD_mem hlt))
  refine wa ?_
  refine cw (hmk) ?_
  intro _ _
  by_cases hm:isMark (L.getD q [])=true
  ·rw [hm]
   refine wb ?_
   (refine TE.ret' io rfl tysOk ((q:Int)) ?_ rfl (by rfl) ?_;all_goals (try (first|exact trivial|((with_reducible refine AllP.go ?_);dsimp only [AllP,appP];repeat' (first|refine And.intro ?_ ?_|exact zz)))))
   ·refine .inr ⟨by omega,by rw [many_at hlt hg hm],by rw [many_at hlt hg hm];exact hlt⟩
  ·rw [Bool.not_eq_true] at hm
   rw [hm]
   refine wb ?_
   refine TE.again' (q+1) ⟨hlt,fun j hj=>?_⟩ (by omega) ?_
   ·rcases Nat.lt_or_ge j q with h | h
    ·exact hg j h
    ·obtain rfl:j=q:=by omega
     exact hm
   ·exact ee
 ·obtain rfl:q=L.length:=by omega
  refine wa ?_
  (refine TE.ret' io rfl tysOk ((-1:Int)) ?_ rfl (by rfl) ?_;all_goals (try (first|exact trivial|((with_reducible refine AllP.go ?_);dsimp only [AllP,appP];repeat' (first|refine And.intro ?_ ?_|exact zz)))))
  exact .inl ⟨rfl,many_none hg⟩
theorem getM_putM {z:Int} {v:List DC} (k:Int):∀ (es:List (Int×List DC)),getM (putM es z v) k=if k=z then some v else getM es k
 | []=>by
  show (if z=k then some v else none)=_
  by_cases h:k=z
  ·rw [if_pos h,if_pos h.symm]
  ·rw [if_neg h,if_neg (fun e=>h e.symm)];rfl
 | e :: r=>by
  have ih:=getM_putM (z:=z) (v:=v) k r
  show getM (if e.1=z then (z,v) :: r else e :: putM r z v) k=if k=z then some v else if e.1=k then some e.2 else getM r k
  by_cases h1:e.1=z
  ·rw [if_pos h1]
   show (if z=k then some v else getM r k)=_
   by_cases h:k=z
   ·rw [if_pos h.symm,if_pos h]
   ·rw [if_neg (fun e=>h e.symm),if_neg h,if_neg (fun e'=>h (e'.symm.trans h1))]
  ·rw [if_neg h1]
   show (if e.1=k then some e.2 else getM (putM r z v) k)=_
   rw [ih]
   by_cases h:k=z
   ·rw [if_neg (fun e'=>h1 (e'.trans h)),if_pos h,if_pos h]
   ·rw [if_neg h,if_neg h]
theorem checkB_at {b:List Bn} (hT:Tok (nds b)):∃ k:Nat,(checkB b).1=k∧k≤b.length:=by
 unfold checkB
 rw [if_neg (fun k=>k hT)]
 split
 ·rename_i i e h
  refine ⟨i,rfl,?_⟩
  have key:∀ (n i:Nat) (j:Nat) (e:Int),firstM b n i=some (j,e)→j<i+n:=by
   intro n
   induction n with
   | zero=>intro i j e h;cases h
   | succ n ih=>
    intro i j e h
    rw [firstM] at h
    split at h
    ·injection h with h
     injection h with h1 h2
     omega
    ·have:=ih _ _ _ h
     omega
  have:=key _ _ _ _ h
  omega
 ·exact ⟨0,rfl,Nat.zero_le _⟩
def whereOk (es:List (Int×List DC)) (W:List Int):Prop:=∀ k:Nat,getM es (k:Int)=if 0<W.getD k 0 then some [DC.c (.int .i64 (W.getD k 0))] else none
theorem where_set {es:List (Int×List DC)} {W:List Int} (h:whereOk es W) {n:Nat} (hn:n<W.length) {z:Int} (hz:0<z):whereOk (putM es (n:Int) [DC.c (.int .i64 z)]) (W.set n z):=fun k=>by
 rw [getM_putM,getD_set hn]
 by_cases e:k=n
 ·rw [if_pos (show (k:Int)=n by omega),if_pos e,if_pos hz]
 ·rw [if_neg (show ¬ (k:Int)=n by omega),if_neg e]
  exact h k
theorem bParse_c (m:Int) (te:TypeId) (pe:Value) (s:Bs) (hl:s.length≤900000):Con Tryz.prog 9 [.o (.c (.string (sB s)))] (glT m te pe) 5 5 U (fun _=>.t [.inl (.ro 10 (parseB s).1.length (bnC (parseB s).1).cell),.inl (.c (.int .i64 (parseB s).2.1)),.inl (.c (.int .i64 (parseB s).2.2))]) (fun _=>glT m te pe):=by
 refine con_of Tryz.func9 rfl (by kernel_rfl) Tryz.ntmps9 rfl (by first | exact Nat.zero_le _ | decide) (fun _=>⟨rfl,rfl⟩) fun w S ν=>?_
 have hln:=Lines_c m te pe s (by omega)
 have hll:=lines_len s
 have hls:=lines_size s
 refine wa ?_
 refine cw (hln) ?_
 intro _ _
 by_cases h1:(linesI s).2≠0
 ·rw [show parseB s=([],0,(linesI s).2) from if_pos h1]
  refine wb ?_
  exact po
 have hlt:=lines_text (Decidable.not_not.1 h1)
 have hE:parseB s=if (parseT (headT ((linesI s).1.take (manyP (linesI s).1)))).2.2≠0 then ([],(parseT (headT ((linesI s).1.take (manyP (linesI s).1)))).2) else
  match setsP (manyP (linesI s).1) ((parseT (headT ((linesI s).1.take (manyP (linesI s).1)))).1.map bare) ((parseT (headT ((linesI s).1.take (manyP (linesI s).1)))).1.map fun _=>0) (-1) ((linesI s).1.drop (manyP (linesI s).1)) with
  | .inr k=>([],(k:Int),6)
  | .inl (b,W)=>if (checkB b).2≠0 then ([],if 0<W.getD (checkB b).1.toNat 0 then W.getD (checkB b).1.toNat 0 else (checkB b).1+1,(checkB b).2) else (b,0,0):=if_neg h1
 have h1:=Decidable.not_not.1 h1
 obtain ⟨L,hL⟩:∃ L,L=(linesI s).1:=⟨_,rfl⟩
 rw [← hL] at hE hll hls hlt⊢
 have hix:=idxm_c m te pe L (by omega) (fun x h=>by have:=hls x h;omega)
 have hml:=many_le L
 refine wb ?_
 refine cw (hix) ?_
 intro i hi
 ((refine rn ?_ ?_);try (with_reducible refine AllP.go ?_;(first|exact trivial|exact fun i _=>⟨_,rfl⟩|((try simp only [OS]);repeat' (first|omega|exact fun i _=>⟨_,rfl⟩|refine And.intro ?_ ?_)))))
 refine TE.done (TE.thenN ?_)
 (refine TE.seqM (ι:=Unit) (fun _=>True) (fun _=>⟨[(6,.o (.c (.int .i64 (manyP L)))),(5,.o (.ro 1 L.length (strsC L).cell)),(2,.o (.c (.slice none 0 0)))],glT m te pe,5⟩) ?_ fun _ _=>?_)
 ·rcases hi with ⟨rfl,h2⟩ | ⟨h2,h3,h4⟩
  ·refine wa ?_
   rw [h2]
   exact aa
  ·refine wa ?_
   rw [← h3]
   exact aa
 clear hi i
 obtain ⟨M,hM⟩:∃ M,M=manyP L:=⟨_,rfl⟩
 rw [← hM] at hE hml⊢
 have hhl:=headT_take_le L M
 rw [hlt] at hhl
 have hjl:=headT_join (L.take M)
 (refine TE.seq ?_;(refine TE.rgo tysOk rfl (by rfl) (by (first | exact trivial | exact fun i _=>⟨_,rfl⟩ | ((try simp only [OS]);repeat' (first | omega | exact fun i _=>⟨_,rfl⟩ | refine And.intro ?_ ?_)))) ?_);refine TE.done ?_;refine TE.thenN ?_)
 (refine TE.seqM (ι:=Unit) (fun _=>True) (fun _=>⟨[(7,.o (.c (.string (sB (headT (L.take M)))))),(6,.o (.c (.int .i64 M))),(5,.o (.ro 1 L.length (strsC L).cell)),(2,.o (.c (.slice none 0 0)))],glT m te pe,5⟩) ?_ fun _ _=>?_)
 ·rcases Nat.eq_zero_or_pos M with h0 | h0
  ·rw [h0]
   refine wa ?_
   exact aa
  ·have hne:L.take M≠[]:=fun e=>by
    have:=congrArg List.length e
    rw [List.length_take,List.length_nil] at this
    omega
   have hjl:=hjl hne
   have hjz:(Lib.join (L.take M) [10]).length≤900000:=by
    have:=congrArg List.length hjl
    rw [List.length_append] at this
    omega
   have hj:=join_c (L.take M) [10] (by rw [List.length_take];omega) (by omega)
   have hz:=sB_size (Lib.join (L.take M) [10])
   have hs1:(⟨#[10]⟩:ByteArray).size=1:=rfl
   refine wa ?_
   refine TE.callW (hj) rfl (by rfl) (by rfl) rfl (by rfl) ?_ ?_
   ·refine AllP.go ?_
    exact ⟨rfl,strs_take L hml,rfl⟩
   intro _ _
   refine wb ?_
   rw [← hjl,← sB_app]
   exact aa
 generalize headT (L.take M)=H at *
 have htp:=tParse_c m te pe H (by omega)
 have htf:=parseT_fine H
 obtain ⟨t,n1,e1,hte⟩:∃ t n1 e1,parseT H=(t,n1,e1):=⟨_,_,_,rfl⟩
 rw [hte] at hE htp htf
 dsimp only at hE htf
 refine wa ?_
 refine cw (htp) ?_
 intro _ _
 by_cases h2:e1≠0
 ·rw [if_pos h2] at hE
  rw [hE]
  refine wb ?_
  exact po
 rw [if_neg h2] at hE
 have hT:Tok t:=htf.2.1 (Decidable.not_not.1 h2)
 have htl:=htf.2.2
 refine wb ?_
 refine TE.nilOwn 2 37 10 (by rfl) ?_
 (refine TE.only [53,52,51,6,5,2] (by rfl) ?_)
 refine TE.loopG (fun q:Nat=>q≤t.length) (fun q=>[(53,.o (.c (.int .i64 q))),(2,.o (.own 5))]) [5] (fun q=>[.own 5 37 10 (bnC ((t.take q).map bare))]) (fun q=>t.length - q) 0 (by rfl) (Nat.zero_le _) ?_ ?_
 ·(refine Ent.of rfl rfl (by rfl) ?_;(try (first|exact trivial|((with_reducible refine AllP.go ?_);dsimp only [AllP,appP];repeat' (first|refine And.intro ?_ ?_|exact zz)))))
  exact LeDC.nil rfl rfl
 intro q hq
 have hql:(t.take q).length=q:=by rw [List.length_take];omega
 by_cases hqt:q<t.length
 ·refine wa ?_
  refine TE.again' (q+1) hqt (by omega) ?_
  (refine Ent.of rfl rfl (by rfl) ?_;(try (first|exact trivial|((with_reducible refine AllP.go ?_);dsimp only [AllP,appP];repeat' (first|refine And.intro ?_ ?_|exact zz)))))
  exact listC_snocX (bare (t.getD q n0)) (by rw [List.take_add_one,List.map_append,List.getD_eq_getElem?_getD,List.getElem?_eq_getElem hqt];rfl) (bn_row (LeX.of_eq rfl) (LeX.of_eq rfl) (LeX.of_eq rfl) (LeX.of_eq rfl) (LeX.of_eq rfl) (LeX.of_eq rfl) (LeX.of_eq rfl) (LeX.of_eq rfl) (LeX.of_eq rfl) (LeX.nil rfl))
 obtain rfl:q=t.length:=by omega
 rw [List.take_length]
 clear hql hq hqt
 obtain ⟨b1,hb1⟩:∃ b1,b1=t.map bare:=⟨_,rfl⟩
 rw [← hb1] at hE⊢
 have hb1n:nds b1=t:=by rw [hb1];unfold nds;rw [List.map_map];exact List.map_id _
 have hb1l:b1.length=t.length:=by rw [hb1,List.length_map]
 refine wa ?_
 (refine TE.step rfl rfl rfl (fun _ h=>nomatch h) (m_mkMp (.mp false []) (by first | exact .inl ⟨_,rfl⟩ | exact .inr ⟨_,rfl⟩) rfl) ?_;rintro _ rfl)
 ((refine rn ?_ ?_);try (with_reducible refine AllP.go ?_;(first|exact trivial|exact fun i _=>⟨_,rfl⟩|((try simp only [OS]);repeat' (first|omega|exact fun i _=>⟨_,rfl⟩|refine And.intro ?_ ?_)))))
 (repeat (with_reducible first|refine stp ?_|refine tD rfl ?_))
 refine wa ?_
 obtain ⟨R,hR⟩:∃ R,R=setsP M b1 (t.map fun _=>0) (-1) (L.drop M):=⟨_,rfl⟩
 rw [← hR] at hE
 have hst:SetsAt L R b1 (M+0) b1 (t.map fun _=>0) (-1):=by
  rw [hb1] at hR⊢
  exact sets_start hml hR.symm
 have hok:∀ (b:List Bn),nds b=nds b1→(∀ x∈b,pcheckE x.red=0)→∀ x∈b,okB x:=fun b hb hr x hx=>by
  have h3:x.nd∈t:=by rw [← hb1n,← hb];exact List.mem_map.2 ⟨x,hx,rfl⟩
  have h4:=htf.1 _ h3
  have h5:=pcheck_iff.1 (hr x hx)
  exact ⟨⟨by have:=h4.1;omega,by have:=h4.2.1;omega,by have:=h4.2.2;omega⟩,by omega,fun s hs=>by have:=(name_size (h5.2 s hs)).1;omega⟩
 have htp0:=(tok_node hT).1
 (refine TE.only [83,82,81,13,12,6,2] (by rfl) ?_)
 refine TE.loopG (fun q:Nat×List Bn×List Int×Int×List (Int×List DC)=>SetsAt L R b1 (M+q.1) q.2.1 q.2.2.1 q.2.2.2.1∧whereOk q.2.2.2.2 q.2.2.1) (fun q=>[(83,.o (.c (.int .i64 q.1))),(13,.o (.c (.int .i64 q.2.2.2.1))),(2,.o (.own 5))]) [5,6] (fun q=>[.own 5 37 10 (bnC q.2.1),.obj 6 (.mp false q.2.2.2.2)]) (fun q=>L.length - (M+q.1)) (0,b1,t.map fun _=>0,-1,[]) (by rfl) ⟨hst,fun k=>?_⟩ ?_ ?_
 ·have:=hst.free k (by omega)
  dsimp only
  rw [this];rfl
 ·exact ee
 rintro ⟨j,b,W,last,es⟩ ⟨g,gw⟩
 have g1:M+j≤L.length:=g.le
 have g2:nds b=nds b1:=g.nds
 have g3 : -1≤last:=g.lo
 have g4:W.length=b.length:=g.len
 have g5:last<b.length:=g.hi
 have hbl:b.length=b1.length:=by have:=congrArg List.length g2;unfold nds at this;rwa [List.length_map,List.length_map] at this
 have hbk:=hok b g2 g.red
 dsimp only at gw
 by_cases hjl:M+j<L.length
 ·have hsz:=hls _ (getD_mem (l:=L) (d:=[]) hjl)
  have hsb:=setb_c m te pe b (L.getD (M+j) []) last (by omega) hbk (by omega) (by omega) g3
  cases hS:setS b (L.getD (M+j) []) last with
  | none=>
   rw [hS] at hsb
   dsimp only at hsb
   have hRR:=sets_bad g hjl hS
   rw [hRR] at hE
   dsimp only at hE
   rw [hE]
   refine wa ?_
   refine cw (hsb) ?_
   intro _ _
   refine wb ?_
   exact po
  | some x=>
   obtain ⟨c,n⟩:=x
   rw [hS] at hsb
   dsimp only at hsb
   have hso:=set_ok hS
   have hmo:=sets_more g hjl hS
   have hn:=hso.lt
   have hzz:((M+j:Nat):Int)+1=(M:Int)+(j:Int)+1:=by omega
   have hwo:=where_set gw (n:=n) (by omega) (z:=(M:Int)+(j:Int)+1) (by omega)
   rw [hzz] at hmo
   refine wa ?_
   refine cw (hsb) ?_
   intro _ _
   refine wb ?_
   (refine TE.step rfl rfl rfl (fun _ h=>nomatch h) (m_mpUp (mpI false) rfl rfl (Tryz.underlying80) (Tryz.underlying3) rfl rfl rfl rfl rfl) ?_;rintro _ rfl)
   refine wb ?_
   refine TE.again' (j+1,c,W.set n ((M:Int)+(j:Int)+1),(n:Int),putM es (n:Int) [DC.c (.int .i64 ((M:Int)+(j:Int)+1))]) ⟨hmo,hwo⟩ (by dsimp only;omega) ?_
   exact ee
 ·obtain hjj:M+j=L.length:=by omega
  have hRR:=sets_end g (by omega)
  rw [hRR] at hE
  dsimp only at hE
  have hTb:Tok (nds b):=by rw [g2,hb1n];exact hT
  obtain ⟨k,hk,hkl⟩:=checkB_at hTb
  refine wa ?_
  (refine TE.freezeN 5 (by rfl) (by rfl) ?_)
  refine cw (checkB_c b (by omega) hbk) ?_
  intro _ _
  by_cases h3:(checkB b).2≠0
  ·rw [if_pos h3,hk,Int.toNat_natCast] at hE
   have hgk:=gw k
   rw [← hk] at hgk
   by_cases h4:0<W.getD k 0
   ·rw [if_pos h4] at hE hgk
    rw [hE]
    refine wb ?_
    (refine TE.step rfl rfl rfl (fun _ h=>nomatch h) (m_mpGet2 (mpI false) rfl (Tryz.underlying80) (Tryz.underlying3) rfl rfl rfl (hgk) rfl) ?_;rintro _ rfl)
    refine wb ?_
    exact po
   ·rw [if_neg h4] at hE hgk
    rw [hE]
    refine wb ?_
    (refine TE.step rfl rfl rfl (fun _ h=>nomatch h) (m_mpNone2 tysOk (mpI false) rfl (Tryz.underlying80) (Tryz.underlying3) rfl rfl rfl (hgk) rfl rfl rfl) ?_;rintro _ rfl)
    refine wb ?_
    exact po
  ·rw [if_neg h3] at hE
   rw [hE]
   refine wb ?_
   exact po
theorem sets_fine:∀ {L:List Bs} {i:Nat} {b c:List Bn} {W V:List Int} {last:Int},(∀ x∈b,pcheckE x.red=0)→setsP i b W last L = .inl (c,V)→nds c=nds b∧∀ x∈c,pcheckE x.red=0
 | [],i,b,c,W,V,last,h,e=>by
  rw [setsP] at e
  injection e with e
  injection e with e1 e2
  subst e1
  exact ⟨rfl,h⟩
 | s :: r,i,b,c,W,V,last,h,e=>by
  rw [setsP] at e
  cases hS:setS b s last with
  | none=>rw [hS] at e;cases e
  | some y=>
   obtain ⟨d,n⟩:=y
   rw [hS] at e
   have hs:=set_ok hS
   obtain ⟨k1,k2,x,k3,k4,k5⟩:=id hs
   have hd:∀ x∈d,pcheckE x.red=0:=fun y hy=>by
    rw [k3] at hy
    rcases List.mem_or_eq_of_mem_set hy with hy | rfl
    ·exact h y hy
    ·exact k5 (h _ (getD_mem k1))
   obtain ⟨j1,j2⟩:=sets_fine hd e
   exact ⟨j1.trans hs.nds,j2⟩
theorem parseB_fine (s:Bs):(∀ x∈(parseB s).1,okB x)∧(parseB s).1.length≤5000:=by
 unfold parseB
 split
 ·exact ⟨fun x h=>(nomatch h),Nat.zero_le _⟩
 split
 ·exact ⟨fun x h=>(nomatch h),Nat.zero_le _⟩
 have htf:=parseT_fine (headT ((linesI s).1.take (manyP (linesI s).1)))
 split
 ·exact ⟨fun x h=>(nomatch h),Nat.zero_le _⟩
 ·rename_i b W e
  split
  ·exact ⟨fun x h=>(nomatch h),Nat.zero_le _⟩
  ·obtain ⟨j1,j2⟩:=sets_fine (fun x h=>by obtain ⟨y,_,rfl⟩:=List.mem_map.1 h;exact (by decide:pcheckE []=0)) e
   have hn:nds ((parseT (headT ((linesI s).1.take (manyP (linesI s).1)))).1.map bare)=(parseT (headT ((linesI s).1.take (manyP (linesI s).1)))).1:=by unfold nds;rw [List.map_map];exact List.map_id _
   rw [hn] at j1
   refine ⟨fun x hx=>?_,?_⟩
   ·have h3:x.nd∈nds b:=List.mem_map.2 ⟨x,hx,rfl⟩
    rw [j1] at h3
    have h4:=htf.1 _ h3
    have h5:=pcheck_iff.1 (j2 x hx)
    exact ⟨⟨by have:=h4.1;omega,by have:=h4.2.1;omega,by have:=h4.2.2;omega⟩,by omega,fun s hs=>by have:=(name_size (h5.2 s hs)).1;omega⟩
   ·have:=congrArg List.length j1
    unfold nds at this
    rw [List.length_map] at this
    have:=htf.2.2
    dsimp only
    omega
end Go.Proofs.YtalmoocpebhoiaaGreatDoor.Am
namespace Go.Proofs.YtalmoocpebhoiaaGreatDoor.Am
open Go.RowKit Lw
open Br
def smB (x:Bn):Prop:=(x.nd.attrs.length≤10∧x.red.length≤12∧x.nd.name.size≤1000∧x.nd.data.size≤1000)∧(∀ j,j<x.nd.attrs.length→(x.nd.attrs.getD j At.d0).1.size≤1000∧(x.nd.attrs.getD j At.d0).2.size≤1000)∧∀ j,j<x.red.length→(x.red.getD j eS).size≤1000
def smL (l:List Bn):Prop:=l.length≤130∧∀ j,j<l.length→smB (l.getD j b0)
theorem large_c (l:List Bn):Con Tryz.prog 5 [.o (.ro 10 l.length (bnC l).cell)] [] 0 0 (fun r:Bool=>r=false→smL l) (fun r=>.o (.c (.bool r))) (fun _=>[]):=by
 refine con_of Tryz.func5 rfl (by kernel_rfl) Tryz.ntmps5 rfl (by first | exact Nat.zero_le _ | decide) (fun _=>⟨rfl,rfl⟩) fun w S ν=>?_
 refine wa ?_
 refine TE.loopG (fun q:Nat=>q≤l.length∧q≤150∧∀ j,j<q→smB (l.getD j b0)) (fun q=>[(3,.o (.c (.int .i64 q)))]) [] (fun _=>[]) (fun q=>l.length - q) 0 (by rfl) ⟨Nat.zero_le _,Nat.zero_le _,fun j hj=>absurd hj (Nat.not_lt_zero _)⟩ ?_ ?_
 ·exact ee
 rintro q ⟨h1,h2,h3⟩
 by_cases hlt:q<l.length∧q<150
 ·obtain ⟨hlt,h150⟩:=hlt
  by_cases hb:(l.getD q b0).nd.attrs.length≤10∧(l.getD q b0).red.length≤12∧(l.getD q b0).nd.name.size≤1000∧(l.getD q b0).nd.data.size≤1000
  ·have hb':=hb
   obtain ⟨b1,b2,b3,b4⟩:=hb'
   refine wa ?_
   refine TE.loopG (fun j:Nat=>j≤(l.getD q b0).nd.attrs.length∧∀ i,i<j→((l.getD q b0).nd.attrs.getD i At.d0).1.size≤1000∧((l.getD q b0).nd.attrs.getD i At.d0).2.size≤1000) (fun j=>[(5,.o (.c (.int .i64 j)))]) [] (fun _=>[]) (fun j=>(l.getD q b0).nd.attrs.length - j) 0 (by rfl) ⟨Nat.zero_le _,fun j hj=>absurd hj (Nat.not_lt_zero _)⟩ ?_ ?_
   ·exact ee
   rintro j ⟨h4,h5⟩
   by_cases hj:j<(l.getD q b0).nd.attrs.length
   ·by_cases hc:((l.getD q b0).nd.attrs.getD j At.d0).1.size≤1000∧((l.getD q b0).nd.attrs.getD j At.d0).2.size≤1000
    ·have hc':=hc
     obtain ⟨c1,c2⟩:=hc'
     refine wa ?_
     refine TE.again' (j+1) ⟨by omega,fun i hi=>?_⟩ (by omega) ?_
     ·rcases Nat.lt_or_ge i j with h6 | h6
      ·exact h5 i h6
      ·obtain rfl:i=j:=by omega
       exact hc
     ·exact ee
    ·(repeat' (first|(with_reducible refine AllP.go ?_;(first|exact trivial|exact fun i _=>⟨_,rfl⟩|((try simp only [OS]);repeat' (first|omega|exact fun i _=>⟨_,rfl⟩|refine And.intro ?_ ?_))))|(refine rg ?_ ?_)|(with_reducible first|refine stp ?_|refine tD rfl ?_)|refine ct ?_|refine cf ?_|((refine TE.gsplit (by rfl) (by rfl) ?_ ?_<;>intro h<;>(try simp only [NS] at h)<;>(try exact xf))<;>(refine rn ?_ ?_))|((first|refine gl ?_ ?_|refine gc ?_ ?_)<;>intro h<;>(try simp only [NS] at h)<;>(try exact xf))))
     all_goals
      (refine TE.ret' io rfl tysOk (true) ?_ rfl (by rfl) ?_;all_goals (try (first|exact trivial|((with_reducible refine AllP.go ?_);dsimp only [AllP,appP];repeat' (first|refine And.intro ?_ ?_|exact zz)))))
      intro h
      cases h
   ·obtain rfl:j=(l.getD q b0).nd.attrs.length:=by omega
    refine wa ?_
    refine TE.loopG (fun j:Nat=>j≤(l.getD q b0).red.length∧∀ i,i<j→((l.getD q b0).red.getD i eS).size≤1000) (fun j=>[(6,.o (.c (.int .i64 j)))]) [] (fun _=>[]) (fun j=>(l.getD q b0).red.length - j) 0 (by rfl) ⟨Nat.zero_le _,fun j hj=>absurd hj (Nat.not_lt_zero _)⟩ ?_ ?_
    ·exact ee
    rintro j ⟨h6,h7⟩
    by_cases hj:j<(l.getD q b0).red.length
    ·by_cases hc:((l.getD q b0).red.getD j eS).size≤1000
     ·refine wa ?_
      refine TE.again' (j+1) ⟨by omega,fun i hi=>?_⟩ (by omega) ?_
      ·rcases Nat.lt_or_ge i j with h8 | h8
       ·exact h7 i h8
       ·obtain rfl:i=j:=by omega
        exact hc
      ·exact ee
     ·refine wa ?_
      all_goals
       (refine TE.ret' io rfl tysOk (true) ?_ rfl (by rfl) ?_;all_goals (try (first|exact trivial|((with_reducible refine AllP.go ?_);dsimp only [AllP,appP];repeat' (first|refine And.intro ?_ ?_|exact zz)))))
       intro h
       cases h
    ·obtain rfl:j=(l.getD q b0).red.length:=by omega
     refine wa ?_
     refine TE.again' (q+1) ⟨by omega,by omega,fun i hi=>?_⟩ (by omega) ?_
     ·rcases Nat.lt_or_ge i q with h8 | h8
      ·exact h3 i h8
      ·obtain rfl:i=q:=by omega
       exact ⟨hb,h5,h7⟩
     ·exact ee
  ·(repeat' (first|(with_reducible refine AllP.go ?_;(first|exact trivial|exact fun i _=>⟨_,rfl⟩|((try simp only [OS]);repeat' (first|omega|exact fun i _=>⟨_,rfl⟩|refine And.intro ?_ ?_))))|(refine rg ?_ ?_)|(with_reducible first|refine stp ?_|refine tD rfl ?_)|refine ct ?_|refine cf ?_|((refine TE.gsplit (by rfl) (by rfl) ?_ ?_<;>intro h<;>(try simp only [NS] at h)<;>(try exact xf))<;>(refine rn ?_ ?_))|((first|refine gl ?_ ?_|refine gc ?_ ?_)<;>intro h<;>(try simp only [NS] at h)<;>(try exact xf))))
   all_goals
    (refine TE.ret' io rfl tysOk (true) ?_ rfl (by rfl) ?_;all_goals (try (first|exact trivial|((with_reducible refine AllP.go ?_);dsimp only [AllP,appP];repeat' (first|refine And.intro ?_ ?_|exact zz)))))
    intro h
    cases h
 ·(repeat' (first|(with_reducible refine AllP.go ?_;(first|exact trivial|exact fun i _=>⟨_,rfl⟩|((try simp only [OS]);repeat' (first|omega|exact fun i _=>⟨_,rfl⟩|refine And.intro ?_ ?_))))|(refine rg ?_ ?_)|(with_reducible first|refine stp ?_|refine tD rfl ?_)|refine ct ?_|refine cf ?_|((refine TE.gsplit (by rfl) (by rfl) ?_ ?_<;>intro h<;>(try simp only [NS] at h)<;>(try exact xf))<;>(refine rn ?_ ?_))|((first|refine gl ?_ ?_|refine gc ?_ ?_)<;>intro h<;>(try simp only [NS] at h)<;>(try exact xf))))
  all_goals
   (refine TE.ret' io rfl tysOk (decide (130<(l.length:Int))) ?_ rfl (by rfl) ?_;all_goals (try (first|exact trivial|((with_reducible refine AllP.go ?_);dsimp only [AllP,appP];repeat' (first|refine And.intro ?_ ?_|exact zz)))))
   intro h
   have h6:=of_decide_eq_false h
   obtain rfl:q=l.length:=by omega
   exact ⟨by omega,h3⟩
theorem sizeI_small {l:List At.At} (h:∀ j,j<l.length→(l.getD j At.d0).1.size≤1000∧(l.getD j At.d0).2.size≤1000):At.sizeI l≤2002*l.length:=by
 have h1:∀ q,q≤l.length→At.sizeI (l.take q)≤2002*q:=by
  intro q
  induction q with
  | zero=>intro _;simp [At.sizeI]
  | succ q ih=>
   intro hq
   rw [At.sizeI_snoc (by omega)]
   have h2:=h q (by omega)
   have h3:=ih (by omega)
   omega
 have h4:=h1 l.length (Nat.le_refl _)
 rwa [List.take_length] at h4
theorem sm_ok {l:List Bn} (h:smL l):l.length≤1000000∧∀ x∈l,okB x:=by
 refine ⟨by have:=h.1;omega,fun x hx=>?_⟩
 obtain ⟨i,hi,rfl⟩:=List.getElem_of_mem hx
 have h1:=h.2 i hi
 rw [List.getD_eq_getElem?_getD,List.getElem?_eq_getElem hi] at h1
 have h1:smB l[i]:=h1
 obtain ⟨⟨h2,h3,h4,h5⟩,h6,h7⟩:=h1
 refine ⟨⟨by omega,?_,by omega⟩,by omega,fun s hs=>?_⟩
 ·have:=sizeI_small h6
  omega
 ·obtain ⟨j,hj,rfl⟩:=List.getElem_of_mem hs
  have h8:=h7 j hj
  rw [List.getD_eq_getElem?_getD,List.getElem?_eq_getElem hj] at h8
  exact Nat.le_trans h8 (by decide)
end Go.Proofs.YtalmoocpebhoiaaGreatDoor.Am
namespace Go.Proofs.YtalmoocpebhoiaaGreatDoor.Am
open Go.RowKit Lw
open Br At
section
variable {d:Di} {last:ByteArray} {x:En}
end
end Go.Proofs.YtalmoocpebhoiaaGreatDoor.Am
namespace Go.Proofs.YtalmoocpebhoiaaGreatDoor.Am
open Go.RowKit Lw
open Br
theorem list_ext2 {α:Type} {d:α} {a b:List α} (h:a.length=b.length) (hk:∀ k,k<a.length→a.getD k d=b.getD k d):a=b:=by
 refine List.ext_getElem h fun k h1 h2=>?_
 have:=hk k h1
 rwa [List.getD_eq_getElem?_getD,List.getElem?_eq_getElem h1,List.getD_eq_getElem?_getD,List.getElem?_eq_getElem h2] at this
theorem rsameB_c (a b:List Bn) (ha:a.length≤1000000) (hb:b.length≤1000000) (hxa:∀ x∈a,okB x) (hxb:∀ x∈b,okB x):Con Tryz.prog 11 [.o (.ro 10 a.length (bnC a).cell),.o (.ro 10 b.length (bnC b).cell)] [] 0 0 U (fun _=>.o (.sb (decide (a=b)))) G0:=by
 refine con_of Tryz.func11 rfl (by kernel_rfl) Tryz.ntmps11 rfl (by first | exact Nat.zero_le _ | decide) (fun _=>⟨rfl,rfl⟩) fun w S ν=>?_
 have ta:=rtree_c a ha fun x h=>(hxa x h).1.1
 have tb:=rtree_c b hb fun x h=>(hxb x h).1.1
 have la:(nds a).length=a.length:=List.length_map ..
 have lb:(nds b).length=b.length:=List.length_map ..
 have c:=sameList_c (nds a) (nds b) (by omega) (by omega) (fun x h=>by obtain ⟨y,hy,rfl⟩:=List.mem_map.1 h;exact (hxa y hy).1.1) (fun x h=>by obtain ⟨y,hy,rfl⟩:=List.mem_map.1 h;exact (hxb y hy).1.1)
 refine wa ?_
 refine cw (ta) ?_
 intro _ _
 refine wb ?_
 refine cw (tb) ?_
 intro _ _
 refine wb ?_
 refine cw (c) ?_
 intro _ _
 by_cases hn:nds a=nds b
 case neg=>
  rw [show decide (a=b)=false from decide_eq_false fun e=>hn (by rw [e])]
  refine wb ?_
  exact po
 have hl:a.length=b.length:=by rw [← la,← lb,hn]
 have hnd:∀ k,(a.getD k b0).nd=(b.getD k b0).nd:=fun k=>by rw [← nds_getD,← nds_getD,hn]
 clear ta tb c
 refine wb ?_
 (refine TE.only [5,1,0] (by rfl) ?_)
 refine TE.loopG (fun q:Nat=>q≤a.length∧∀ k,k<q→a.getD k b0=b.getD k b0) (fun q=>[(5,.o (.c (.int .i64 q)))]) [] (fun _=>[]) (fun q=>a.length - q) 0 (by rfl) ⟨Nat.zero_le _,fun k hk=>absurd hk (Nat.not_lt_zero _)⟩ ?_ ?_
 ·exact ee
 rintro q ⟨h1,h2⟩
 by_cases hlt:q<a.length
 ·have c:=rsame_c (a.getD q b0).red (b.getD q b0).red (hxa _ (getD_mem hlt)).2.1 (hxb _ (getD_mem (by omega))).2.1
  have hq:=hnd q
  have he:a.getD q b0=b.getD q b0↔(a.getD q b0).opq=(b.getD q b0).opq∧(a.getD q b0).red=(b.getD q b0).red:=by
   generalize a.getD q b0=x at *
   generalize b.getD q b0=y at *
   cases x;cases y
   simp_all
  refine wa ?_
  ((refine dn ?_);repeat' (first|(with_reducible refine AllP.go ?_;(first|exact trivial|exact fun i _=>⟨_,rfl⟩|((try simp only [OS]);repeat' (first|omega|exact fun i _=>⟨_,rfl⟩|refine And.intro ?_ ?_))))|(with_reducible first|exact PanicOk.body|exact rd.panic|refine PanicOk.then' ?_|refine PanicOk.block ?_|refine PanicOk.jump ?_)|(refine TL.done (by rfl) ?_)|(refine TL.auto tysOk rfl ?_ (by rfl) ?_ ?_)|((refine TL.one (by rfl) ?_);first|(refine sm ?_ ?_)|(refine sp ?_ ?_))|(refine sm ?_ ?_)|((first|refine gl ?_ ?_|refine gc ?_ ?_)<;>intro h<;>(try simp only [NS] at h)<;>(try exact xf))))
  ·rw [show decide (a=b)=false from decide_eq_false fun e=>by rw [e] at h;simp at h]
   refine wa ?_
   exact po
  (refine TL.one (by rfl) ?_)
  refine StepL.callW (c) rfl rfl rfl rfl rfl (by rfl) (by (first|exact trivial|((with_reducible refine AllP.go ?_);dsimp only [AllP,appP];repeat' (first|refine And.intro ?_ ?_|exact zz|assumption)))) (by rfl) (by rfl) ?_
  intro _ _
  refine wf ?_
  by_cases hr:(a.getD q b0).red=(b.getD q b0).red
  ·have ho:(a.getD q b0).opq=(b.getD q b0).opq:=by simpa using h
   refine wa ?_
   refine TE.again' (q+1) ⟨by omega,fun k hk=>?_⟩ (by omega) ?_
   ·rcases Nat.lt_or_ge k q with h4 | h4
    ·exact h2 k h4
    ·obtain rfl:k=q:=by omega
     exact he.2 ⟨ho,hr⟩
   ·exact ee
  ·rw [show decide (a=b)=false from decide_eq_false fun e=>hr (by rw [e])]
   refine wa ?_
   exact po
 ·obtain rfl:q=a.length:=by omega
  rw [show decide (a=b)=true from decide_eq_true (list_ext2 (d:=b0) hl h2)]
  refine wa ?_
  exact po
end Go.Proofs.YtalmoocpebhoiaaGreatDoor.Am
namespace Go.Proofs.YtalmoocpebhoiaaGreatDoor.Am
open Go.RowKit Lw
open Br Wo
theorem print_len {l:List Bn} (h:Bok l):(printB l).1.length≤900000:=by
 obtain ⟨hT,hm⟩:=bok_iff.1 h
 have h0:=tok_node hT
 have hlen:(nds l).length=l.length:=List.length_map ..
 have h1:=text_le hT l.length (by omega)
 have h2:=mark_le h l.length (Nat.le_refl _)
 unfold printB
 rw [if_neg (fun k=>k h),List.length_append]
 omega
theorem Back_c (m:Int) (te:TypeId) (pe:Value) (l:List Bn) (s:Bs):Con Tryz.prog 4 [.o (.ro 10 l.length (bnC l).cell),.o (.c (.string (sB s)))] (glT m te pe) 5 5 U (fun _=>.o (.c (.bool true))) (fun _=>glT m te pe):=by
 refine con_of Tryz.func4 rfl (by kernel_rfl) Tryz.ntmps4 rfl (by first | exact Nat.zero_le _ | decide) (fun _=>⟨rfl,rfl⟩) fun w S ν=>?_
 have hz:=sB_size s
 refine wa ?_
 refine cw (large_c l) ?_
 intro r hr
 cases r
 case true=>
  refine wb ?_
  refine cw (shown_c) ?_
  intro _ _
  refine wb ?_
  exact po
 obtain ⟨hl,hx⟩:=sm_ok (hr rfl)
 by_cases h8:8000<s.length
 ·refine wb ?_
  refine cw (shown_c) ?_
  intro _ _
  refine wb ?_
  exact po
 clear hr
 obtain ⟨hx2,hl2⟩:=parseB_fine s
 have c1:=bPrint_c m te pe l hl hx
 have c2:=rcheckB_c l hl hx
 have c3:=bParse_c m te pe s (by omega)
 have c4:=bPrint_c m te pe (parseB s).1 (by omega) hx2
 have hpp:=print_parse (s:=s)
 obtain ⟨b,n,e,hb⟩:∃ b n e,parseB s=(b,n,e):=⟨_,_,_,rfl⟩
 rw [hb] at c3 c4 hx2 hl2 hpp
 dsimp only at c3 c4 hx2 hl2 hpp
 obtain ⟨t,f,ht⟩:∃ t f,printB b=(t,f):=⟨_,_,rfl⟩
 rw [ht] at c4 hpp
 dsimp only at c4
 have hpp:e=0→t=s∧f=0:=fun h=>Prod.mk.inj (hpp h)
 clear ht hb
 by_cases hB:Bok l
 ·have c5:=bParse_c m te pe (printB l).1 (print_len hB)
  have hpb:=parse_print hB
  have hsm:=rsameB_c l l hl hl hx hx
  rw [decide_eq_true rfl] at hsm
  rw [hpb] at c5
  rw [bok_eq hB] at c2
  have e0:(printB l).2=0:=by unfold printB;rw [if_neg (fun k=>k hB)]
  rw [e0] at c1
  dsimp only at c2 c5
  generalize (printB l).1=p at c1 c5
  clear hpb e0
  refine wb ?_
  refine cw (c1) ?_
  intro _ _
  refine wb ?_
  refine cw (c2) ?_
  intro _ _
  refine wb ?_
  refine cw (c5) ?_
  intro _ _
  refine wb ?_
  refine cw (hsm) ?_
  intro _ _
  refine wb ?_
  refine cw (c3) ?_
  intro _ _
  by_cases he:e=0
  ·obtain ⟨rfl,rfl⟩:=hpp he
   subst he
   refine wb ?_
   refine cw (c4) ?_
   intro _ _
   refine wb ?_
   refine cw (shown_c) ?_
   intro _ _
   refine wb ?_
   all_goals exact po
  ·refine wb ?_
   refine cw (shown_c) ?_
   intro _ _
   refine wb ?_
   all_goals exact po
 ·have hB:(checkB l).2≠0:=hB
  refine wb ?_
  refine cw (c1) ?_
  intro _ _
  refine wb ?_
  generalize (checkB l).2=z at c2 hB
  refine cw (c2) ?_
  intro _ _
  refine wb ?_
  refine cw (c3) ?_
  intro _ _
  by_cases he:e=0
  ·obtain ⟨rfl,rfl⟩:=hpp he
   subst he
   refine wb ?_
   refine cw (c4) ?_
   intro _ _
   refine wb ?_
   refine cw (shown_c) ?_
   intro _ _
   refine wb ?_
   all_goals exact po
  ·refine wb ?_
   refine cw (shown_c) ?_
   intro _ _
   refine wb ?_
   all_goals exact po
end Go.Proofs.YtalmoocpebhoiaaGreatDoor.Am
namespace Go.Proofs.YtalmoocpebhoiaaGreatDoor.Am
open Go.RowKit Lw At Br
theorem not_st {P:Program} {t:TypeId} {d:TypeDesc} (h:P.underlying t=some d) (hd:∀ fs,d≠.struct fs):∀ fs,P.underlying t≠some (.struct fs):=fun fs e=>hd fs (Option.some.inj (h.symm.trans e))
theorem not_ar {P:Program} {t:TypeId} {d:TypeDesc} (h:P.underlying t=some d) (hd:∀ n e,d≠.array n e):∀ n e,P.underlying t≠some (.array n e):=fun n e' e=>hd n e' (Option.some.inj (h.symm.trans e))
theorem ao_str:AOpen Tryz.prog 9 (fun s=>.o (.c (.string s))) strG:=
 AOpen.one (DOpen.str (by kernel_rfl) (by kernel_rfl)) (not_st (d:=.string) (by kernel_rfl) fun _ h=>by cases h) (not_ar (d:=.string) (by kernel_rfl) fun _ _ h=>by cases h)
theorem do_strs:DOpen Tryz.prog 35 1 (slR 1 strR eS) (listG strG):=DOpen.slice (e:=9) (DOpen.str (by kernel_rfl) (by kernel_rfl)) eS (by kernel_rfl) (by kernel_rfl)
def atGood (x:At.At):Prop:=x.1.size≤maxLen∧x.2.size≤maxLen
theorem do_at:DOpen Tryz.prog 39 2 atR atGood:=by
 have h0:=DOpen.struct (P:=Tryz.prog) (t:=39) (by kernel_rfl) (by decide) Tryz.underlying39 (DFields.cons rfl (DOpen.str (by kernel_rfl) (by kernel_rfl)) (DFields.cons rfl (DOpen.str (by kernel_rfl) (by kernel_rfl)) DFields.nil))
 refine h0.map (fun x=>((x.1,x.2.1):At.At)) (fun x j hj=>?_) fun x g=>(show atGood _ from ⟨g.1,g.2.1⟩)
 match j,hj with
 | 0,_=>rfl
 | 1,_=>rfl
theorem do_ats:DOpen Tryz.prog 34 1 (slR 2 atR d0) (listG atGood):=DOpen.slice (e:=39) do_at _ (by kernel_rfl) (by kernel_rfl)
def bnGood (x:Bn):Prop:=intG x.nd.depth∧strG x.nd.name∧intG x.nd.kind∧listG atGood x.nd.attrs∧strG x.nd.data∧intG x.nd.major∧intG x.nd.minor∧intG x.nd.cls∧listG strG x.red
theorem do_bn:DOpen Tryz.prog 37 10 bnR bnGood:=by
 have h0:=DOpen.struct (P:=Tryz.prog) (t:=37) (by kernel_rfl) (by decide) Tryz.underlying37 (DFields.cons rfl (DOpen.i64 (by kernel_rfl) (by kernel_rfl)) (DFields.cons rfl (DOpen.str (by kernel_rfl) (by kernel_rfl)) (DFields.cons rfl (DOpen.i64 (by kernel_rfl) (by kernel_rfl)) (DFields.cons rfl do_ats (DFields.cons rfl (DOpen.str (by kernel_rfl) (by kernel_rfl)) (DFields.cons rfl (DOpen.i64 (by kernel_rfl) (by kernel_rfl)) (DFields.cons rfl (DOpen.i64 (by kernel_rfl) (by kernel_rfl)) (DFields.cons rfl (DOpen.i64 (by kernel_rfl) (by kernel_rfl)) (DFields.cons rfl (DOpen.bool (by kernel_rfl) (by kernel_rfl)) (DFields.cons rfl do_strs DFields.nil))))))))))
 refine h0.map (fun x=>(⟨⟨x.1,x.2.1,x.2.2.1,x.2.2.2.1,x.2.2.2.2.1,x.2.2.2.2.2.1,x.2.2.2.2.2.2.1,x.2.2.2.2.2.2.2.1⟩,x.2.2.2.2.2.2.2.2.1,x.2.2.2.2.2.2.2.2.2.1⟩:Bn)) (fun x j hj=>?_) fun x g=>(show bnGood _ from ⟨g.1,g.2.1,g.2.2.1,g.2.2.2.1,g.2.2.2.2.1,g.2.2.2.2.2.1,g.2.2.2.2.2.2.1,g.2.2.2.2.2.2.2.1,g.2.2.2.2.2.2.2.2.2.1⟩)
 match j,hj with
 | 0,_=>rfl
 | 1,_=>rfl
 | 2,_=>rfl
 | 3,_=>rfl
 | 4,_=>rfl
 | 5,_=>rfl
 | 6,_=>rfl
 | 7,_=>rfl
 | 8,_=>rfl
 | 9,_=>rfl
theorem do_bns:DOpen Tryz.prog 22 1 (slR 10 bnR b0) (listG bnGood):=DOpen.slice (e:=37) do_bn _ (by kernel_rfl) (by kernel_rfl)
theorem ao_bns:AOpen Tryz.prog 22 (fun l:List Bn=>.o (.ro 10 l.length (bnC l).cell)) (listG bnGood):=
 AOpen.one do_bns (not_st (d:=.slice 37) (by kernel_rfl) fun _ h=>by cases h) (not_ar (d:=.slice 37) (by kernel_rfl) fun _ _ h=>by cases h)
end Go.Proofs.YtalmoocpebhoiaaGreatDoor.Am
namespace Go
variable {H:Type} {enc:TypeId×Value→H}
theorem returnsInHanded_of_change_and_shaped {a:Assume} {C:Checked} {os:Os} {f:FuncId} {fn:Func} {s:ChangeSpec} {conds:List PathCond} {apart fresh handsOn again:Bool} {X:World→Array Value→Prop}
  (hX:∀ (w w' : World) (args:Array Value),w.heap=w'.heap→X w args→X w' args)
  (own:ownKnob C.prog.godebug=none) (started:os.Started) (noInit:C.prog.inits.idxOf? f=none) (hfn:C.prog.funcs[f]? = some fn)
  (witness:∃ (w:World) (tape:Tape) (i:Input),w.os=os∧(w.forCall tape i).Shaped C.prog∧i.vars=[]∧Input.okWide C.prog (w.forCall tape i) .any w.heap.size f i∧
   ((s.pre enc C.prog fn conds apart (w.forCall tape i).memory i.args∧X (w.forCall tape i).memory i.args)∧sizedMet enc C.prog fn (OpenSpec.ofChange s) apart (w.forCall tape i).memory i.args)∧a.holds C.prog (lone (Frame.enter C.prog f i.args .normal) [] (w.forCall tape i)))
  (contract:∀ (W:World) (base:Nat) (args:Array Value) (ds gs:List (DataW H)) (before:List MemPlace),
   (∀ (j:Nat) t v,fn.params[j]? = some t→args[j]? = some v→Value.okWide C.prog W .any base t v)→
   DataW.Whole enc C.prog fn.params.toList s.vars apart W args.toList ds gs before→X W args→W.ShapedOpen C.prog→
   Calls C.prog f args W fun e W'=>∃ v,e = .returned v∧s.post enc C.prog fn apart fresh handsOn again W args v W') :
  ReturnsInHanded a C os f .any (fun w args=>(s.pre enc C.prog fn conds apart w args∧X w args)∧sizedMet enc C.prog fn (OpenSpec.ofChange s) apart w args) (s.post enc C.prog fn apart fresh handsOn again):=by
 refine returnsInHanded_of_calls own started noInit witness ?_
 intro w tape i _ hsh _ hok hpre hholds
 obtain ⟨_,_,_,fn',hfn',_,_,_,_,hval⟩:=hok
 have e:fn' = fn:=Option.some.inj (hfn'.symm.trans hfn)
 subst e
 obtain ⟨⟨⟨ds,gs,before,hw,hc⟩,hx⟩,hz⟩:=hpre
 have hw':=DataW.Whole.of_heap (w':=w.forCall tape i) (by rfl) hw
 refine (contract (w.forCall tape i) w.heap.size i.args ds gs before hval hw' (hX _ _ _ (by rfl) hx) hsh).mono fun e W' ⟨v,he,hp⟩=>?_
 subst he
 exact ChangeSpec.post_blind hp
end Go
namespace Go.Proofs.YtalmoocpebhoiaaGreatDoor.Am
open Go.RowKit Lw Wo Br Go.ChangeShapes Go.WideShapes Go.Deep
section
variable {H:Type} {enc:TypeId×Value→H} {P:Program} {w:World} {base:Nat} {sp:Nat→Bool} {held:Bool}
theorem array_len {fuel:Nat} {t e:TypeId} {n:Nat} {cs:List Value} {x:DataW H×List MemPlace} (ht:P.underlying t=some (.array n e)) (h:DataW.trod enc P w base sp held fuel t cs=some x):cs.length=P.cellsOf t:=by
 cases fuel with
 | zero=>simp [DataW.trod] at h
 | succ fuel=>
  simp only [DataW.trod,ht] at h
  split at h
  ·assumption
  ·cases h
end
def escPair (i:Nat):DataW Unit:=.agg ([(escL.getD (2*i) 0:Int),(escL.getD (2*i+1) 0:Int)].map fun z=>.lit (.int .u8 z))
theorem esc_cells {W : World} (h : Lib.VarReads Tryz.prog W "limewash/words.escapes" Rows.laid_limewash_words_escapes) : (Chunk.stat 0 1 10 escD).holds W (· < W.heap.size) (fun _ => undef) := by
 obtain ⟨g,t,cs,fuel,p,hg,hty,hvar,hd⟩:=h
 obtain rfl := Option.some.inj ((show Tryz.prog.globalNamed "limewash/words.escapes" = some 1 by kernel_rfl).symm.trans hg)
 obtain rfl:=Option.some.inj ((show (Tryz.prog.globals[1]?).map (·.type)=some 172 by kernel_rfl).symm.trans hty)
 have hce:Tryz.prog.cellsOf 171=2:=by kernel_rfl
 have hct:Tryz.prog.cellsOf 172=10:=by kernel_rfl
 have hc1:Tryz.prog.cellsOf 5=1:=by kernel_rfl
 have hu8:Tryz.prog.underlying 5=some (.int .u8):=by kernel_rfl
 have hlen:cs.size=10:=by
  have:=array_len Tryz.underlying172 hd
  rw [hct] at this
  simpa using this
 have key:∀ i,i<5→(cs.toList.drop (i*2)).take 2=[(escL.getD (2*i) 0:Int),(escL.getD (2*i+1) 0:Int)].map fun z=>Value.int .u8 z:=by
  intro i hi
  obtain ⟨fuel',d,q,hdi,he⟩:=Lib.array_elem Tryz.underlying172 hd i hi
  rw [hce] at he
  have hdp:d=escPair i:=by
   match i,hi,hdi with
   | 0,_,hdi=>cases hdi;rfl
   | 1,_,hdi=>cases hdi;rfl
   | 2,_,hdi=>cases hdi;rfl
   | 3,_,hdi=>cases hdi;rfl
   | 4,_,hdi=>cases hdi;rfl
  rw [hdp] at he
  exact Lib.ints_of_struct Tryz.underlying171 (fun j f hj=>by
   match j,hj with
   | 0,hj=>simp at hj;subst hj;exact ⟨hu8,rfl,hc1⟩
   | 1,hj=>simp at hj;subst hj;exact ⟨hu8,rfl,hc1⟩
   | j+2,hj=>simp at hj) (by rw [hce];rfl) he
 refine stat_of_var 0 hvar (by kernel_rfl) hlen fun j u hj hu=>?_
 have hk:=congrArg (·[j % 2]?) (key (j / 2) (by omega))
 simp only [List.getElem?_take,List.getElem?_drop] at hk
 rw [if_pos (by omega),show j / 2*2+j % 2=j by omega,Array.getElem?_toList,hu] at hk
 refine ⟨?_,?_⟩
 ·rcases Nat.mod_two_eq_zero_or_one j with h2 | h2
  ·rw [h2] at hk
   have h3:2*(j / 2)=j:=by omega
   rw [h3] at hk
   exact Option.some.inj hk
  ·rw [h2] at hk
   have h3:2*(j / 2)+1=j:=by omega
   rw [h3] at hk
   exact Option.some.inj hk
 ·rfl
theorem pow_cells {W : World} (h : Lib.TabIs Tryz.prog W "internal/strconv.uint64pow10" .u64 Lib.pow10Tab) : (Chunk.stat 3 3 20 powD).holds W (· < W.heap.size) (fun _ => undef) := by
 refine stat_of_var 3 h (by kernel_rfl) (by rfl) fun j u hj hu=>⟨?_,rfl⟩
 have hl:Lib.pow10Tab.length=20:=rfl
 simp only [List.getElem?_toArray,List.getElem?_map] at hu
 rw [List.getElem?_eq_getElem (by omega)] at hu
 simp only [Option.map_some,Option.some.injEq] at hu
 rw [← hu,List.getD_eq_getElem?_getD,List.getElem?_eq_getElem (by omega)]
 rfl
theorem starE : ("*errors.errorString" : String) = "*" ++ "errors.errorString" := by decide
theorem row_err (u : TypeId) (h : Tryz.prog.typeName? 3 u = some "*errors.errorString") : u = 238 :=
 typeName_ptr_named (nm := "errors.errorString") (by rw [← starE]; kernel_rfl) (by kernel_rfl) (by decide) u (by rw [← starE]; exact h)
abbrev glLaid : List (String × DataW Unit) := [("math/bits.deBruijn32tab", Rows.laid_math_bits_deBruijn32tab), ("math/bits.deBruijn64tab", Rows.laid_math_bits_deBruijn64tab), ("internal/strconv.uint64pow10", Rows.laid_internal_strconv_uint64pow10), ("unicode/utf8.acceptRanges", Rows.laid_unicode_utf8_acceptRanges), ("strconv.ErrRange", Rows.laid_strconv_ErrRange), ("strconv.ErrSyntax", Rows.laid_strconv_ErrSyntax), ("limewash/words.escapes", Rows.laid_limewash_words_escapes), ("limewash/tree.names", Rows.laid_limewash_tree_names), ("unicode/utf8.first", Rows.laid_unicode_utf8_first)]
theorem lit_str {H:Type} {a b:List UInt8} (h:(DataW.lit (.string a):DataW H) = .lit (.string b)):b=a:=by cases h;rfl
theorem nam_cells {W : World} (h : Lib.VarReads Tryz.prog W "limewash/tree.names" Rows.laid_limewash_tree_names) : (Chunk.stat 4 0 6 namD).holds W (· < W.heap.size) (fun _ => undef) := by
 obtain ⟨g,t,cs,fuel,p,hg,hty,hvar,hd⟩:=h
 obtain rfl := Option.some.inj ((show Tryz.prog.globalNamed "limewash/tree.names" = some 0 by kernel_rfl).symm.trans hg)
 obtain rfl:=Option.some.inj ((show (Tryz.prog.globals[0]?).map (·.type)=some 137 by kernel_rfl).symm.trans hty)
 have hce:Tryz.prog.cellsOf 9=1:=by kernel_rfl
 have hct:Tryz.prog.cellsOf 137=6:=by kernel_rfl
 have hlen:cs.size=6:=by
  have:=array_len Tryz.underlying137 hd
  rw [hct] at this
  simpa using this
 have key:∀ i,i<6→(cs.toList.drop i).take 1=[Value.string (sB (kindL.getD i []))]:=by
  intro i hi
  obtain ⟨fuel',d,q,hdi,he⟩:=Lib.array_elem Tryz.underlying137 hd i hi
  rw [hce,Nat.mul_one] at he
  obtain ⟨s,e1,e2,_⟩:=DataW.trod_string Tryz.underlying9 he
  rw [e1]
  have hdp:d = .lit (.string (kindL.getD i [])):=by
   match i,hi,hdi with
   | 0,_,hdi=>cases hdi;rfl
   | 1,_,hdi=>cases hdi;rfl
   | 2,_,hdi=>cases hdi;rfl
   | 3,_,hdi=>cases hdi;rfl
   | 4,_,hdi=>cases hdi;rfl
   | 5,_,hdi=>cases hdi;rfl
  have e3:s.data.toList=kindL.getD i []:=by
   have:=congrArg Prod.fst e2
   rw [hdp] at this
   exact lit_str this
  rw [← e3,show sB s.data.toList=s from sB_bL s]
 refine stat_of_var 4 hvar (by kernel_rfl) hlen fun j u hj hu=>?_
 have hk:=congrArg (·[0]?) (key j hj)
 simp only [List.getElem?_take,List.getElem?_drop] at hk
 rw [if_pos (by omega),Nat.add_zero,Array.getElem?_toList,hu] at hk
 exact ⟨Option.some.inj hk,rfl⟩
theorem glT_of {W:World} (h:laidMet Tryz.prog glLaid W) (hs:W.ShapedOpen Tryz.prog):∃ m te pe,∀ c∈glT m te pe,c.holds W (· < W.heap.size) (fun _=>undef):=by
 have hp := Lib.tabIs_of_head (k := .u64) (zs := Lib.pow10Tab) (name := "internal/strconv.uint64pow10") (g := 3) (t := 207) (e := 197) (n := 20) (by kernel_rfl) (by kernel_rfl) Tryz.underlying207 Tryz.underlying197 (by kernel_rfl) (by kernel_rfl) h.tail.tail
 have he:=esc_cells (Lib.laidMet.reads h (by simp [glLaid]))
 obtain ⟨a, s, hv, _, _, _⟩ := laid_sentinel (P := Tryz.prog) (n := "strconv.ErrRange") (g := 7) (ti := 105) (tp := 238) (te := 240) (ts := 9) h.tail.tail.tail.tail (by kernel_rfl) (by kernel_rfl) Tryz.underlying105 row_err (by kernel_rfl) Tryz.underlying240 rfl rfl (by kernel_rfl) (by kernel_rfl) (by kernel_rfl)
 obtain ⟨m,hm⟩:=Proofs.cell_of_shapedOpen_int (g:=2) (t:=3) (zero:=#[.int .i64 0]) (k:=.i64) hs (Nat.le_of_ble_eq_true (by kernel_rfl)) (by kernel_rfl) rfl (by kernel_rfl) (by kernel_rfl) (by kernel_rfl)
 refine ⟨m,238,.pointer (some a),fun c hc=>?_⟩
 rcases List.mem_cons.1 hc with rfl | hc
 ·exact he
 rcases List.mem_cons.1 hc with rfl | hc
 ·obtain ⟨cs,h1,h2,_⟩:=hs.1 2 #[.int .i64 0] 3 (Nat.le_of_ble_eq_true (by kernel_rfl)) (by kernel_rfl)
  have hlt:2<W.heap.size:=(Array.getElem?_eq_some_iff.1 h1).1
  refine ⟨hlt,hlt,fun j hj=>?_,cs,_,_,h1,h2⟩
  obtain rfl:j=0:=by omega
  exact ⟨_,hm,rfl,rfl⟩
 rcases List.mem_cons.1 hc with rfl | hc
 ·exact stat_of_var 2 hv (by kernel_rfl) (by rfl) fun j u hj hu=>by
   obtain rfl:j=0:=by omega
   cases hu
   exact ⟨rfl,rfl⟩
 rcases List.mem_cons.1 hc with rfl | hc
 ·exact pow_cells hp
 ·obtain rfl:=List.mem_singleton.1 hc
  exact nam_cells (Lib.laidMet.reads h (by simp [glLaid]))
end Go.Proofs.YtalmoocpebhoiaaGreatDoor.Am
